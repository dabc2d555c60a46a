/- Part Q9 Q10 Q11 R1 FB4 Q12 FB5 P36 P37 Q14 Q15 of the proof: contracts of functions of the program, and what follows from them. -/
import Derived.Test.YtdlkohenamlnaaaGreatSxQ8
import Derived.Test.YtdlkohenamlnaaaGreatSxM2
import Derived.Deep.Slices
import Derived.OpenShut
import Derived.Test.YtdlkohenamlnaaaGreatRows
import Derived.WalkKit
import Derived.ProofKit
import Derived.ShutString
import Derived.ChangeOld
import Derived.Below
import Derived.ChangeMaps5
import Derived.Deep.Grids
/- A log in the past: Add; comparing lists; the law's small functions. -/
set_option maxRecDepth 100000
namespace Go.Proofs.YtdlkohenamlnaaaGreat
open Go Go.Sx
section
variable {h0 h : Hp} {k : Int} {gb : Nat} {L : LogS} {runF : List OpL → List (List Int) × List ResL} {A G : Bag}
theorem opv_len {k c : Int} {zs : List Int} (hv : OpV k c zs) : zs.length ≤ 64 := by
  have h4 := arT_le k (c - 1).toNat
  have := hv.2
  split at this
  · omega
  · omega
theorem ladd_ok (hk : 1 ≤ k ∧ k ≤ 6) (hR : RunOk k runF) (la : LogA k gb L A) (hn : L.ts.length < 1000) (hinc : Inc L.ts) {time code : Int} {zs : List Int} {q : Option Addr} {m d : Nat} (hno : ∀ z ∈ L.ts, z ≠ time) (ht : timeP time) (hv : AllV k L.ops) (hv1 : OpV k code zs) (hu : updT k code = true)
    (rz : RdS h0 G TI q m zs) (s : St h0 h (A + G)) :
    HCalls Tryz.prog 41 #[ptr gb, .int .i64 time, .agg #[.int .i64 code, .slice q m d]] h (fun v h' => ∃ i : Nat, IsLb L.ts time i ∧ LogR h0 G k gb (chgL runF ⟨L.ts, L.ops, L.rows, 0, 0⟩ (putL i time L.ts) (putL i (code, zs) L.ops)) v h') := by
  obtain ⟨t, o, w, hs, T, B0, B1, R, rfl, a1, a2, a3, a4, hle⟩ := la
  have l1 := a1.len
  refine partialretro_Log_Add_call ?_
  rw [partialretro_Log_Add_b0_eq]
  refine s.new (cs := [.int .i64 code, .slice q m d]) fun b1 h1 _ s1 => condNo rfl ?_
  have s1 := s1.to (B := logC gb k t o w L.fl L.wy + (cA b1 [.int .i64 code, .slice q m d] 25 + (T + (B0 + (B1 + (R + G))))))
  refine s1.wr (o := 5) (add_mk _ _ _) (by simp) fun h2 s2 => ?_
  refine s2.wr (o := 6) (add_mk _ _ _) (by simp) fun h3 s3 => ?_
  have s3 : St h0 h3 (logC gb k t o w 0 0 + (cA b1 [.int .i64 code, .slice q m d] 25 + (T + (B0 + (B1 + (R + G)))))) := s3
  have rz3 := rz h3 (logC gb k t o w 0 0 + (cA b1 [.int .i64 code, .slice q m d] 25 + (T + (B0 + (B1 + R))))) s3.to
  have k1 := s3.atomBlk
  refine ⟨_, s3.blk.cell 0, _, _, _, _, k1.cell 0, Blk.cellA k1 1, ?_⟩
  refine (mValid' (k := k) (c := code) rz3).mono fun v1 h4 ⟨hv1', x4⟩ => ⟨_, hv1', condNo (by rw [decide_eq_true hv1]; rfl) ?_⟩
  have s4 := s3.grow x4
  have k1 := s4.atomBlk
  refine ⟨_, _, _, _, k1.cell 0, Blk.cellA k1 1, ?_⟩
  refine (update_ok hk hv1.1 (s4.blk.cell 0)).mono fun v2 h5 ⟨hv2, x5⟩ => ⟨_, hv2, condNo (by rw [hu]; rfl) ?_⟩
  have s5 := s4.grow x5
  refine (timed_ok time h5).mono fun v3 h6 ⟨hv3, hh⟩ => ⟨_, hv3, condNo (by rw [decide_eq_true (show 0 ≤ time ∧ time ≤ 1073741824 from ht)]; rfl) ?_⟩
  subst hh
  rw [partialretro_Log_Add_b1_eq]
  refine ⟨_, _, _, Blk.cellA s5.blk 1, ?_⟩
  have rT := a1.rd (s5.to (B := T + (logC gb k t o w 0 0 + (cA b1 [.int .i64 code, .slice q m d] 25 + (B0 + (B1 + (R + G)))))))
  refine (Search_ok (key := time) rT.ints (by omega) hinc).mono fun v4 h7 ⟨hh, i, hlb, hv4⟩ => ⟨_, _, hv4, ?_⟩
  subst hh
  have hilen := hlb.1
  refine condNo (decide_eq_false fun hx => ?_) ?_
  · exact hno _ (getD_mem' (l := L.ts) (i := i) (d := 0) (by omega)) hx.2
  refine ⟨_, _, _, Blk.cellA s5.blk 1, condP (fun h => by omega) (fun _ => ?_)⟩
  have k1 := s5.atomBlk
  rw [partialretro_Log_Add_b2_eq]
  refine ⟨_, k1.cell 0, _, _, _, Blk.cellA k1 1, ?_, ?_⟩
  · have rz5 := rz h7 (logC gb k t o w 0 0 + (cA b1 [.int .i64 code, .slice q m d] 25 + (T + (B0 + (B1 + R))))) s5.to
    have hlz := opv_len hv1
    have hzl := rz5.len
    refine (cloneI_st rz5 (by omega)).mono fun v5 h8 ⟨q5, d5, X, hv5, o5, t5⟩ => ⟨_, _, _, hv5, ?_⟩
    have s8 := s5.join t5
    have k1 := (s8.at (cA b1 [.int .i64 code, .slice q m d] 25)).blk
    refine ⟨⟨_, k1.cell 0, rfl⟩, ?_⟩
    refine s8.new (cs := [.int .i64 0, .slice none 0 0]) fun b2 h9 x9 s9 => ⟨rfl, ⟨_, (k1.ext x9).cell 0, rfl⟩, ?_⟩
    refine s9.wr rfl (by simp) fun h10 s10 => ?_
    refine s10.wr (o := 1) (add_mk _ _ _) (by simp) fun h11 s11 => ?_
    have s11 : St h0 h11 (cA b2 [.int .i64 code, .slice q5 m d5] 25 + (X + (logC gb k t o w 0 0 + (cA b1 [.int .i64 code, .slice q m d] 25 + (T + (B0 + (B1 + (R + G)))))))) := s11
    exact ladd_b3 (L := ⟨L.ts, L.ops, L.rows, 0, 0⟩) (G := G) hk hR a1 a2 a3 a4 hle hn (fun v h' hv => ⟨i, hlb, hv⟩) hilen o5 hv hv1 ((s11.to (B := cA b1 [.int .i64 code, .slice q m d] 25 + (cA b2 [.int .i64 code, .slice q5 m d5] 25 + (logC gb k t o w 0 0 + (X + (T + (B0 + (B1 + (R + G))))))))).drop)
  · refine s5.new (cs := [.int .i64 0, .slice none 0 0]) fun b2 h9 x9 s9 => ⟨⟨_, _, _, Blk.cellA (k1.ext x9) 1, rfl⟩, ⟨_, (k1.ext x9).cell 0, rfl⟩, ?_⟩
    have s9 := s9.to (B := cA b2 [.int .i64 0, .slice none 0 0] 25 + (logC gb k t o w 0 0 + (cA b1 [.int .i64 code, .slice q m d] 25 + (T + (B0 + (B1 + (R + G)))))))
    have rz5 := rz h9 (cA b2 [.int .i64 0, .slice none 0 0] 25 + (logC gb k t o w 0 0 + (cA b1 [.int .i64 code, .slice q m d] 25 + (T + (B0 + (B1 + R)))))) s9.to
    have hlz := opv_len hv1
    have hzl := rz5.len
    refine (cloneI_st rz5 (by omega)).mono fun v5 h8 ⟨q5, d5, X, hv5, o5, t5⟩ => ⟨_, _, _, hv5, ?_⟩
    have s8 := (s9.join t5).to (B := cA b2 [.int .i64 0, .slice none 0 0] 25 + (X + (logC gb k t o w 0 0 + (cA b1 [.int .i64 code, .slice q m d] 25 + (T + (B0 + (B1 + (R + G))))))))
    have k1 := (s8.at (cA b1 [.int .i64 code, .slice q m d] 25)).blk
    refine ⟨⟨_, k1.cell 0, rfl⟩, ?_⟩
    refine s8.wr rfl (by simp) fun h10 s10 => ?_
    refine s10.wr (o := 1) (add_mk _ _ _) (by simp) fun h11 s11 => ?_
    have s11 : St h0 h11 (cA b2 [.int .i64 code, .slice q5 m d5] 25 + (X + (logC gb k t o w 0 0 + (cA b1 [.int .i64 code, .slice q m d] 25 + (T + (B0 + (B1 + (R + G)))))))) := s11
    exact ladd_b3 (L := ⟨L.ts, L.ops, L.rows, 0, 0⟩) (G := G) hk hR a1 a2 a3 a4 hle hn (fun v h' hv => ⟨i, hlb, hv⟩) hilen o5 hv hv1 ((s11.to (B := cA b1 [.int .i64 code, .slice q m d] 25 + (cA b2 [.int .i64 code, .slice q5 m d5] 25 + (logC gb k t o w 0 0 + (X + (T + (B0 + (B1 + (R + G))))))))).drop)
end
end Go.Proofs.YtdlkohenamlnaaaGreat

/- The law's small functions, its example. -/
set_option maxRecDepth 100000
namespace Go.Proofs.YtdlkohenamlnaaaGreat
open Go Go.Sx
theorem eqI_ok {h : Hp} {p q : Option Addr} {n m c d : Nat} {xs ys : List Int} (r1 : RdT TI h p n xs) (r2 : RdT TI h q m ys) (hn : n ≤ 1000000000) :
    HCalls Tryz.prog 22 #[.slice p n c, .slice q m d] h (fun v h' => h' = h ∧ v = .bool (decide (xs = ys))) := by
  have l1 := r1.len
  have l2 := r2.len
  refine EqI_call ?_
  rw [EqI_b0_eq]
  refine condN (fun hl => ?_) (fun hl => ?_)
  · exact ⟨rfl, by rw [decide_eq_false (fun h => hl (by subst h; omega))]⟩
  refine ⟨fun x h' => h' = h ∧ ∃ i : Nat, x.1 = i ∧ i ≤ n ∧ ∀ j, j < i → xs.getD j 0 = ys.getD j 0, fun x _ => n - x.1.toNat, ⟨rfl, 0, rfl, by omega, fun j hj => by omega⟩, ?_⟩
  rintro ⟨_, _⟩ h1 ⟨rfl, i, rfl, hin, heq⟩
  dsimp only
  rw [EqI_b1_eq]
  refine condP (fun hlt => ?_) (fun hge => ?_)
  · refine r1.int (by omega) (by omega) (r2.int (by omega) (by omega) ?_)
    rw [Int.toNat_natCast]
    refine condN (fun hne => ?_) (fun he => ?_)
    · exact ⟨rfl, by rw [decide_eq_false (fun h => hne (by rw [h]))]⟩
    · rw [EqI_b2_eq]
      refine ⟨⟨by omega, by omega⟩, ⟨rfl, i + 1, by simp only; omega, by omega, fun j hj => ?_⟩, by simp only; omega⟩
      rcases Nat.lt_or_ge j i with h | h
      · exact heq j h
      · obtain rfl : j = i := by omega
        exact he
  · rw [EqI_b3_eq]
    refine ⟨rfl, ?_⟩
    rw [decide_eq_true]
    refine List.ext_getElem (by omega) fun j h1 h2 => ?_
    have := heq j (by omega)
    rwa [getD_get h1, getD_get h2] at this
abbrev S5 := Int × Int × Int × Int × SH
abbrev tS5 : Ty S5 := ⟨27, 5, fun x => [.int .i64 x.1, .int .i64 x.2.1, .int .i64 x.2.2.1, .int .i64 x.2.2.2.1, .slice x.2.2.2.2.1 x.2.2.2.2.2.1 x.2.2.2.2.2.2], (0, 0, 0, 0, none, 0, 0), fun _ => rfl, by decide, fun _ v hv => by simp at hv; rcases hv with rfl | rfl | rfl | rfl | rfl <;> rfl⟩
theorem s5_load {h : Hp} {p : Option Addr} {n : Nat} {l : List S5} {i : Int} {Q : Int → Int → Int → Int → Option Addr → Nat → Nat → Prop} (r : RdT tS5 h p n l) (h0 : 0 ≤ i) (h1 : i < n) (hq : Q (l.getD i.toNat tS5.d).1 (l.getD i.toNat tS5.d).2.1 (l.getD i.toNat tS5.d).2.2.1 (l.getD i.toNat tS5.d).2.2.2.1 (l.getD i.toNat tS5.d).2.2.2.2.1 (l.getD i.toNat tS5.d).2.2.2.2.2.1 (l.getD i.toNat tS5.d).2.2.2.2.2.2) :
    (0 ≤ i ∧ i < (n : Int)) ∧ NN p fun a => ∃ x : Int, ∃ y : Int, ∃ z : Int, ∃ u : Int, ∃ (b : Option Addr) (m c : Nat), cell h (a.add (Int.toNat i * 5)) = some (.int .i64 x) ∧ cell h ((a.add (Int.toNat i * 5)).add 1) = some (.int .i64 y) ∧ cell h ((a.add (Int.toNat i * 5)).add 2) = some (.int .i64 z) ∧ cell h ((a.add (Int.toNat i * 5)).add 3) = some (.int .i64 u) ∧ cell h ((a.add (Int.toNat i * 5)).add 4) = some (.slice b m c) ∧ Q x y z u b m c :=
  r.idx h0 h1 fun _ _ hc => ⟨_, _, _, _, _, _, _, hc 0 (show 0 < 5 by decide), hc 1 (show 1 < 5 by decide), hc 2 (show 2 < 5 by decide), hc 3 (show 3 < 5 by decide), hc 4 (show 4 < 5 by decide), hq⟩
theorem few_ok {h : Hp} {p : Option Addr} {n c : Nat} {l : List S5} (r : RdT tS5 h p n l) :
    HCalls Tryz.prog 10 #[.slice p n c] h (fun v h' => Ext h h' ∧ ∃ b, v = .bool b ∧ (b = true → n ≤ 30 ∧ ∀ x ∈ l, x.2.2.2.2.2.1 ≤ 70)) := by
  have hl := r.len
  refine l35_few_call ?_
  rw [l35_few_b0_eq]
  refine condP (fun h30 => ?_) (fun h30 => ⟨Ext.refl h, _, rfl, fun h => by cases h⟩)
  refine HCalls.mono (K := fun v h' => Ext h h' ∧ ∃ b, v = .bool b ∧ (b = false → ∀ x ∈ l, x.2.2.2.2.2.1 ≤ 70)) ?_ fun v h' ⟨x, b, hv, hb⟩ => ⟨_, hv, x, _, rfl, fun h => ⟨by omega, hb (by simpa using h)⟩⟩
  refine slices_ContainsFunc_Sl35_Step_l35_Step_call ?_
  rw [slices_ContainsFunc_Sl35_Step_l35_Step_b0_eq]
  refine slices_IndexFunc_Sl35_Step_l35_Step_call ?_
  rw [slices_IndexFunc_Sl35_Step_l35_Step_b0_eq]
  refine ⟨fun s h' => Ext h h' ∧ ∃ i : Nat, s.1 = i ∧ i ≤ n ∧ ∀ x ∈ l.take i, x.2.2.2.2.2.1 ≤ 70, fun s _ => n - s.1.toNat, ⟨Ext.refl h, 0, rfl, by omega, by simp⟩, ?_⟩
  rintro ⟨_, _⟩ h1 ⟨x1, i, rfl, hin, hall⟩
  dsimp only
  rw [slices_IndexFunc_Sl35_Step_l35_Step_b1_eq]
  refine condP (fun hlt => ?_) (fun hge => ?_)
  · refine s5_load (r.ext x1) (by omega) (by omega) ?_
    rw [Int.toNat_natCast]
    have hil : i < l.length := by omega
    have hg : l.getD i tS5.d = l[i] := getD_get hil
    generalize l.getD i tS5.d = x at hg ⊢
    show callX Tryz.prog F 55 #[.agg #[.int .i64 x.1, .int .i64 x.2.1, .int .i64 x.2.2.1, .int .i64 x.2.2.2.1, .slice x.2.2.2.2.1 x.2.2.2.2.2.1 x.2.2.2.2.2.2]] _ _
    refine callX_of (by kernel_rfl) (l35_few_c1_call ?_)
    rw [l35_few_c1_b0_eq]
    refine (St.start h1).new (cs := [.int .i64 x.1, .int .i64 x.2.1, .int .i64 x.2.2.1, .int .i64 x.2.2.2.1, .slice x.2.2.2.2.1 x.2.2.2.2.2.1 x.2.2.2.2.2.2]) fun b1 h2 x2 s2 => ?_
    refine ⟨_, _, _, by rw [add_mk, add_mk]; exact s2.blk.cell 4, _, rfl, condP (fun hbig => ?_) (fun hbig => ?_)⟩
    · exact ⟨_, rfl, x1.trans x2, _, rfl, fun h => by rw [decide_eq_true (by omega)] at h; cases h⟩
    · rw [slices_IndexFunc_Sl35_Step_l35_Step_b2_eq]
      refine ⟨⟨by omega, by omega⟩, ⟨x1.trans x2, i + 1, by simp only; omega, by omega, fun y hy => ?_⟩, by simp only; omega⟩
      rw [List.take_succ_eq_append_getElem hil, List.mem_append, List.mem_singleton, ← hg] at hy
      rcases hy with hy | rfl
      · exact hall y hy
      · omega
  · rw [slices_IndexFunc_Sl35_Step_l35_Step_b3_eq]
    rw [List.take_of_length_le (by omega)] at hall
    exact ⟨_, rfl, x1, _, rfl, fun _ => hall⟩
/-- A step of a queue, in plain lists. -/
def stepQ (l : List Ev) (k t x : Int) : List Ev × Int := if k = 0 then insP l t x else if k = 1 then delP l t else revP l t
theorem stepQ_good {l : List Ev} (g : GoodQ l) (k t x : Int) : GoodQ (stepQ l k t x).1 := by
  unfold stepQ
  split
  · exact insP_good g
  · split
    · exact delP_good g
    · exact revP_good g
/-- What a step of a queue and of the reference leaves. -/
def StepR (h0 : Hp) (G : Bag) (qb : Nat) (R S : List Ev × Int) (v : Value) (h' : Hp) : Prop :=
  ∃ p c M' A', v = .tuple #[.slice p S.1.length c, .bool (decide (R.2 = S.2))] ∧ QueueA qb R.1 A' ∧ Sl TV p S.1.length c S.1 M' ∧ St h0 h' (A' + (M' + G))
theorem queue_ok {h0 h : Hp} {qb : Nat} {l m : List Ev} {p : Option Addr} {c : Nat} {A M G : Bag} (qa : QueueA qb l A) (g : GoodQ l) (a : Sl TV p m.length c m M) (gm : GoodQ m) (k t x u : Int) (b : Option Addr) (n d : Nat) (s : St h0 h (A + (M + G))) :
    HCalls Tryz.prog 14 #[ptr qb, .slice p m.length c, .agg #[.int .i64 k, .int .i64 t, .int .i64 x, .int .i64 u, .slice b n d]] h (StepR h0 G qb (stepQ l k t x) (stepQ m k t x)) := by
  refine l35_queue_call ?_
  rw [l35_queue_b0_eq]
  refine s.new (cs := [.int .i64 k, .int .i64 t, .int .i64 x, .int .i64 u, .slice b n d]) fun b1 h1 _ s1 => ?_
  have kb := s1.blk
  have s2 := s1.to (B := M + (cA b1 [.int .i64 k, .int .i64 t, .int .i64 x, .int .i64 u, .slice b n d] 27 + (A + G)))
  refine ⟨_, kb.cell 0, condP (fun h0 => ?_) (fun h0 => condP (fun h1 => ?_) (fun h1 => ?_))⟩
  · have e : ∀ l, stepQ l k t x = insP l t x := fun l => by rw [stepQ, if_pos h0]
    rw [e, e]
    refine ⟨_, Blk.cellA kb 1, _, Blk.cellA kb 2, (rAdd_ok a gm (t, x, false) s2).mono fun v1 h2 ⟨q, d', M', hv1, o, s3⟩ => ?_⟩
    have e2 : (if (t, x, false).2.2 = false ∧ ¬ keyQ (t, x, false).2.1 then (m, 1) else addP m (t, x, false)) = insP m t x := by
      rw [insP]
      by_cases hk : keyQ x
      · rw [if_neg (fun h => h.2 hk), if_pos hk]
      · rw [if_pos ⟨rfl, hk⟩, if_neg hk]
    rw [e2] at hv1 o
    refine ⟨_, _, _, _, hv1, ?_⟩
    have s3 := s3.to (B := cA b1 [.int .i64 k, .int .i64 t, .int .i64 x, .int .i64 u, .slice b n d] 27 + (A + (M' + G)))
    refine ⟨_, Blk.cellA s3.blk 1, _, Blk.cellA s3.blk 2, (qinsert_ok qa g.times g.len s3.drop).mono fun v2 h3 ⟨hv2, A', qa', s4⟩ => ⟨_, hv2, q, d', M', A', rfl, qa', o, s4⟩⟩
  · have e : ∀ l, stepQ l k t x = delP l t := fun l => by rw [stepQ, if_neg h0, if_pos h1]
    rw [e, e]
    refine ⟨_, Blk.cellA kb 1, (rAdd_ok a gm (t, 0, true) s2).mono fun v1 h2 ⟨q, d', M', hv1, o, s3⟩ => ?_⟩
    have e2 : (if (t, 0, true).2.2 = false ∧ ¬ keyQ (t, (0 : Int), true).2.1 then (m, 1) else addP m (t, 0, true)) = delP m t := by
      rw [if_neg (fun h => by cases h.1)]; rfl
    rw [e2] at hv1 o
    refine ⟨_, _, _, _, hv1, ?_⟩
    have s3 := s3.to (B := cA b1 [.int .i64 k, .int .i64 t, .int .i64 x, .int .i64 u, .slice b n d] 27 + (A + (M' + G)))
    refine ⟨_, Blk.cellA s3.blk 1, (qdelete_ok qa g.times g.len s3.drop).mono fun v2 h3 ⟨hv2, A', qa', s4⟩ => ⟨_, hv2, q, d', M', A', rfl, qa', o, s4⟩⟩
  · have e : ∀ l, stepQ l k t x = revP l t := fun l => by rw [stepQ, if_neg h0, if_neg h1]
    rw [e, e, l35_queue_b1_eq]
    refine ⟨_, Blk.cellA kb 1, (rRevoke_ok a gm t s2).mono fun v1 h2 ⟨q, d', M', hv1, o, s3⟩ => ⟨_, _, _, _, hv1, ?_⟩⟩
    have s3 := s3.to (B := cA b1 [.int .i64 k, .int .i64 t, .int .i64 x, .int .i64 u, .slice b n d] 27 + (A + (M' + G)))
    refine ⟨_, Blk.cellA s3.blk 1, (qrevoke_ok qa g.times g.len s3.drop).mono fun v2 h3 ⟨hv2, A', qa', s4⟩ => ⟨_, hv2, q, d', M', A', rfl, qa', o, s4⟩⟩
theorem times_ok {h : Hp} {p : Option Addr} {c : Nat} {l : List Ev} (r2 : RdT TV h p l.length l) (hl : l.length ≤ 2000) : HCalls Tryz.prog 32 #[.slice p l.length c] h (fun v h' => ∃ q d B, v = .slice q l.length d ∧ Sl TI q l.length d (l.map Prod.fst) B ∧ St h h' B) := by
  refine l35_times_call ?_
  rw [l35_times_b0_eq]
  refine ⟨fun x h' => ∃ (i : Nat) (B : Bag), x.2.1 = i ∧ i ≤ l.length ∧ x.1.2.1 = i ∧ Sl TI x.1.1 i x.1.2.2 ((l.take i).map Prod.fst) B ∧ St h h' B, fun x _ => l.length - x.2.1.toNat, ⟨0, 0, rfl, by omega, rfl, Sl.nil, St.start h⟩, ?_⟩
  rintro ⟨⟨q, qn, d⟩, _, _⟩ h2 ⟨i, B, rfl, hin, hqn, o, t2⟩
  dsimp only at hqn o ⊢
  have hqn := hqn.symm
  subst hqn
  rw [l35_times_b1_eq]
  refine condP (fun hlt => ?_) (fun hge => ?_)
  · refine ev_load (r2.ext t2.ext) (by omega) (by omega) ?_
    rw [Int.toNat_natCast]
    refine t2.new (cs := [.int .i64 0, .int .i64 0, .bool false]) fun b3 h3 _ s3 => ?_
    refine s3.wr rfl (by simp) fun h4 s4 => ?_
    refine s4.wr (o := 1) (add_mk _ _ _) (by simp) fun h5 s5 => ?_
    refine s5.wr (o := 2) (add_mk _ _ _) (by simp) fun h5 s5 => ?_
    refine ⟨_, s5.blk.cell 0, ?_⟩
    have s5 := s5.drop
    refine s5.new (cs := [.int .i64 (l.getD i evD).1]) fun b4 h6 _ s6 => ?_
    have sx : Sl TI (some ⟨b4, 0, none⟩) 1 1 [(l.getD i evD).1] (cA b4 [.int .i64 (l.getD i evD).1] 3) := Sl.of_blk (T := TI) (xs := [(l.getD i evD).1]) rfl rfl
    refine append_sl ok_int (s6.to (B := B + (cA b4 [.int .i64 (l.getD i evD).1] 3 + 0))) o (sx.rd (s6.to (B := cA b4 [.int .i64 (l.getD i evD).1] 3 + B))) (by omega) fun q' d' h7 B' o' s7 => ?_
    rw [l35_times_b2_eq]
    refine ⟨⟨by omega, by omega⟩, ⟨i + 1, B', by simp only; omega, by omega, rfl, ?_, (s7.to (B := cA b4 [.int .i64 (l.getD i evD).1] 3 + B')).drop⟩, by simp only; omega⟩
    have e1 : l.take (i + 1) = l.take i ++ [l.getD i evD] := by rw [getD_get (by omega)]; exact List.take_succ_eq_append_getElem (by omega)
    rw [e1, List.map_append]
    exact o'
  · obtain rfl : i = l.length := by omega
    rw [List.take_of_length_le (Nat.le_refl _)] at o
    rw [l35_times_b3_eq]
    exact ⟨_, _, B, rfl, o, t2⟩
end Go.Proofs.YtdlkohenamlnaaaGreat

/- The chapter's example; the law Queue. -/
set_option maxRecDepth 100000
namespace Go.Proofs.YtdlkohenamlnaaaGreat
open Go Go.Sx
theorem isLb_nil {i : Nat} {z : Int} (h : IsLb [] z i) : i = 0 := by have := h.1; simpa using this
theorem awake_ok (h : Hp) : HCalls Tryz.prog 9 #[] h (fun v h' => v = .bool true ∧ Ext h h') := by
  refine l35_awake_call ?_
  rw [l35_awake_b0_eq]
  refine (newQueue_ok h).mono fun v1 h1 ⟨qb, A1, hv1, q1, s1⟩ => ⟨_, hv1, condNo rfl ?_⟩
  have s1 := s1.to (B := A1 + 0)
  refine (qinsert_ok (t := 1) (k := 5) q1 .nil (by decide) s1).mono fun v2 h2 ⟨hv2, A2, q2, s2⟩ => ⟨_, hv2, ?_⟩
  have e2 : insP [] 1 5 = ([(1, 5, false)], 0) := by decide
  rw [e2] at q2 ⊢
  refine condNo rfl ((qinsert_ok (t := 2) (k := 3) q2 (by decide) (by decide) s2).mono fun v3 h3 ⟨hv3, A3, q3, s3⟩ => ⟨_, hv3, ?_⟩)
  have e3 : insP [(1, 5, false)] 2 3 = ([(1, 5, false), (2, 3, false)], 0) := by decide
  rw [e3] at q3 ⊢
  refine condNo rfl ((qinsert_ok (t := 4) (k := 8) q3 (by decide) (by decide) s3).mono fun v4 h4 ⟨hv4, A4, q4, s4⟩ => ⟨_, hv4, ?_⟩)
  have e4 : insP [(1, 5, false), (2, 3, false)] 4 8 = ([(1, 5, false), (2, 3, false), (4, 8, false)], 0) := by decide
  rw [e4] at q4 ⊢
  refine condNo rfl ((qdelete_ok (t := 3) q4 (by decide) (by decide) s4).mono fun v5 h5 ⟨hv5, A5, q5, s5⟩ => ⟨_, hv5, ?_⟩)
  have e5 : delP [(1, 5, false), (2, 3, false), (4, 8, false)] 3 = ([(1, 5, false), (2, 3, false), (3, 0, true), (4, 8, false)], 0) := by decide
  rw [e5] at q5 ⊢
  refine condNo rfl ((qdelete_ok (t := 6) q5 (by decide) (by decide) s5).mono fun v6 h6 ⟨hv6, A6, q6, s6⟩ => ⟨_, hv6, ?_⟩)
  have e6 : delP [(1, 5, false), (2, 3, false), (3, 0, true), (4, 8, false)] 6 = ([(1, 5, false), (2, 3, false), (3, 0, true), (4, 8, false), (6, 0, true)], 0) := by decide
  rw [e6] at q6 ⊢
  refine condNo rfl ?_
  rw [l35_awake_b1_eq]
  refine (qkeys_ok q6 (by decide) s6).mono fun v7 h7 ⟨p7, d7, B7, hv7, o7, t7⟩ => ⟨_, _, _, hv7, ?_⟩
  have s7 := s6.join t7
  refine s7.new (cs := [.int .i64 8]) fun b1 h8 _ s8 => ?_
  have o8 : Sl TI (some ⟨b1, 0, none⟩) 1 1 [8] (cA b1 [.int .i64 8] 3) := Sl.of_blk (T := TI) (xs := [8]) rfl rfl
  refine (eqI_ok (o7.rd (s8.to (B := B7 + (cA b1 [.int .i64 8] 3 + (A6 + 0))))) (o8.rd s8) (by decide)).mono fun v8 h9 ⟨hh9, hv8⟩ => ⟨_, hv8, condNo (by decide) ?_⟩
  subst hh9
  have s8 := s8.drop.to (B := A6 + B7)
  refine (qbridges_ok q6 (by decide) s8).mono fun v9 h10 ⟨p9, d9, B9, hv9, o9, t9⟩ => ⟨_, _, _, hv9, ?_⟩
  have s10 := s8.join t9
  refine s10.new (cs := [.int .i64 6]) fun b2 h11 _ s11 => ?_
  have o11 : Sl TI (some ⟨b2, 0, none⟩) 1 1 [6] (cA b2 [.int .i64 6] 3) := Sl.of_blk (T := TI) (xs := [6]) rfl rfl
  refine (eqI_ok (o9.rd (s11.to (B := B9 + (cA b2 [.int .i64 6] 3 + (A6 + B7))))) (o11.rd s11) (by decide)).mono fun v10 h12 ⟨hh12, hv10⟩ => ⟨_, hv10, condNo (by decide) ?_⟩
  subst hh12
  have s11 := s11.drop.drop
  refine (qinsert_ok (t := 5) (k := 4) q6 (by decide) (by decide) s11).mono fun v11 h13 ⟨hv11, A13, q13, s13⟩ => ⟨_, hv11, ?_⟩
  have e13 : insP [(1, 5, false), (2, 3, false), (3, 0, true), (4, 8, false), (6, 0, true)] 5 4 = ([(1, 5, false), (2, 3, false), (3, 0, true), (4, 8, false), (5, 4, false), (6, 0, true)], 0) := by decide
  rw [e13] at q13 ⊢
  refine condNo rfl ?_
  rw [l35_awake_b2_eq]
  refine (newLog_ok (k := 1) (by decide) h13).mono fun v12 h14 ⟨gb, L0, hv12, la, t14⟩ => ⟨_, _, hv12, ?_⟩
  have s14 := (s13.join t14).to (B := A13 + (L0 + B7))
  refine (qkeys_ok q13 (by decide) s14).mono fun v13 h15 ⟨p13, d13, B13, hv13, o13, t15⟩ => ⟨_, _, _, hv13, ?_⟩
  have s15 := s14.join t15
  refine s15.new (cs := [.int .i64 5, .int .i64 8]) fun b3 h16 _ s16 => ?_
  have o16 : Sl TI (some ⟨b3, 0, none⟩) 2 2 [5, 8] (cA b3 [.int .i64 5, .int .i64 8] 3) := Sl.of_blk (T := TI) (xs := [5, 8]) rfl rfl
  refine (eqI_ok (o13.rd (s16.to (B := B13 + (cA b3 [.int .i64 5, .int .i64 8] 3 + (A13 + (L0 + B7)))))) (o16.rd s16) (by decide)).mono fun v14 h17 ⟨hh17, hv14⟩ => ⟨_, hv14, condYes (by decide) (condYes rfl (condYes rfl ?_))⟩
  subst hh17
  have s16 := s16.drop.to (B := (A13 + (B7 + B13)) + L0)
  have s16 := s16.drop
  refine s16.new (cs := [.int .i64 1, .int .i64 2]) fun b4 h18 _ s18 => ?_
  have o18 : Sl TI (some ⟨b4, 0, none⟩) 2 2 [1, 2] (cA b4 [.int .i64 1, .int .i64 2] 3) := Sl.of_blk (T := TI) (xs := [1, 2]) rfl rfl
  have s18 := s18.to (B := L0 + (cA b4 [.int .i64 1, .int .i64 2] 3 + 0))
  refine (ladd_ok (k := 1) (L := ⟨[], [], [], 0, 0⟩) (by decide) runOk1 la (by decide) (fun i j _ hj => by simp at hj) (time := 3) (code := 1) (zs := [1, 2]) (fun z hz => nomatch hz) (by decide) (fun y hy => nomatch hy) (by decide) (by decide) (RdS.own o18) s18).mono fun v15 h19 ⟨i, hlb, hv15, L1, la1, s19⟩ => ⟨_, hv15, ?_⟩
  obtain rfl := isLb_nil hlb
  have e19 : chgL (fun ops => ((runS ops).1.map row2, (runS ops).2)) ⟨[], [], [], 0, 0⟩ (putL 0 3 []) (putL 0 (1, [1, 2]) []) = (⟨[3], [(1, [1, 2])], [[1, 2]], 0, 0⟩, 0) := rfl
  rw [e19] at la1 ⊢
  refine condYes rfl ?_
  refine s19.new (cs := [.int .i64 1]) fun b5 h20 _ s20 => ?_
  have o20 : Sl TI (some ⟨b5, 0, none⟩) 1 1 [1] (cA b5 [.int .i64 1] 3) := Sl.of_blk (T := TI) (xs := [1]) rfl rfl
  have s20 := s20.to (B := L1 + (cA b5 [.int .i64 1] 3 + (cA b4 [.int .i64 1, .int .i64 2] 3 + 0)))
  refine (ladd_ok (k := 1) (L := ⟨[3], [(1, [1, 2])], [[1, 2]], 0, 0⟩) (by decide) runOk1 la1 (by decide) (fun i j _ hj => by simp at hj; omega) (time := 2) (code := 3) (zs := [1]) (by decide) (by decide) (by decide) (by decide) (by decide) (RdS.own o20) s20).mono fun v16 h21 ⟨i, hlb, hv16, L2, la2, s21⟩ => ⟨_, hv16, ?_, s21.ext⟩
  obtain rfl : i = 0 := by
    obtain ⟨c1, c2, _⟩ := hlb
    rcases Nat.eq_zero_or_pos i with h | h
    · exact h
    · have : (3 : Int) < 2 := c2 0 h
      omega
  have e21 : (chgL (fun ops => ((runS ops).1.map row2, (runS ops).2)) ⟨[3], [(1, [1, 2])], [[1, 2]], 0, 0⟩ (putL 0 2 [3]) (putL 0 (3, [1]) [(1, [1, 2])])).2 = 13 := rfl
  rw [e21]
  rfl
/-- What is in a queue is told by its keys. -/
theorem min_keys {now : List El} : (now.getD 0 (0, 0)).1 = (now.map Prod.fst).getD 0 0 := by cases now <;> rfl
theorem queue_law {h : Hp} {p : Option Addr} {n c : Nat} {l : List S5} (r : RdT tS5 h p n l) :
    HCalls Tryz.prog 5 #[.slice p n c] h (fun v h' => v = .bool true ∧ Ext h h') := by
  have hlen := r.len
  refine l35_PartialretroQueue_call ?_
  rw [l35_PartialretroQueue_b0_eq]
  refine (awake_ok h).mono fun v1 h1 ⟨hv1, x1⟩ => ⟨_, hv1, condNo rfl ?_⟩
  refine (few_ok (r.ext x1)).mono fun v3 h3 ⟨x3, b, hv3, hb⟩ => ⟨_, hv3, cond_intro (fun hf => ?_) (fun hf => ?_)⟩
  · exact (awake_ok h3).mono fun v2 h2 ⟨hv2, x2⟩ => ⟨_, hv2, rfl, (x1.trans x3).trans x2⟩
  have hn := (hb (by simpa using hf)).1
  rw [l35_PartialretroQueue_b1_eq]
  refine (newQueue_ok h3).mono fun v5 h5 ⟨qb, A0, hv5, q0, t5⟩ => ⟨_, hv5, ?_⟩
  have s5 : St h h5 (A0 + 0) := (t5.base (x1.trans x3)).to
  refine ⟨fun x h' => ∃ (i : Nat) (l' : List Ev) (A M : Bag), x.2.1 = i ∧ i ≤ n ∧ x.1.2.1 = l'.length ∧ QueueA qb l' A ∧ GoodQ l' ∧ Sl TV x.1.1 l'.length x.1.2.2 l' M ∧ St h h' (A + (M + 0)), fun x _ => n - x.2.1.toNat, ⟨0, [], A0, 0, rfl, by omega, rfl, q0, goodQ_nil, Sl.nil, s5.to⟩, ?_⟩
  rintro ⟨⟨mp, mn, mc⟩, _, _⟩ h6 ⟨i, m, A, M, rfl, hin, hmn, qa, g, ma, s6⟩
  dsimp only at hmn ma ⊢
  subst hmn
  rw [l35_PartialretroQueue_b2_eq]
  refine condP (fun hlt => ?_) (fun hge => ?_)
  · refine s5_load (r.ext s6.ext) (by omega) (by omega) ?_
    rw [Int.toNat_natCast]
    generalize l.getD i tS5.d = st
    obtain ⟨k, t, x, u, ap, an, ac⟩ := st
    dsimp only
    refine s6.new (cs := [.int .i64 0, .int .i64 0, .int .i64 0, .int .i64 0, .slice none 0 0]) fun b1 h7 _ s7 => ?_
    refine s7.wr rfl (by simp) fun h8 s8 => ?_
    refine s8.wr (o := 1) (add_mk _ _ _) (by simp) fun h9 s9 => ?_
    refine s9.wr (o := 2) (add_mk _ _ _) (by simp) fun h10 s10 => ?_
    refine s10.wr (o := 3) (add_mk _ _ _) (by simp) fun h11 s11 => ?_
    refine s11.wr (o := 4) (add_mk _ _ _) (by simp) fun h12 s12 => ?_
    refine ⟨_, _, _, _, _, _, _, s12.blk.cell 0, Blk.cellA s12.blk 1, Blk.cellA s12.blk 2, Blk.cellA s12.blk 3, Blk.cellA s12.blk 4, ?_⟩
    have s12 := s12.drop
    refine (queue_ok qa g ma g k t x u ap an ac s12).mono fun v6 h13 ⟨p6, c6, M6, A6, hv6, qa6, ma6, s13⟩ => ⟨_, _, _, _, hv6, condNo (by rw [decide_eq_true rfl]; rfl) ?_⟩
    have g6 := stepQ_good g k t x
    generalize (stepQ m k t x).1 = l' at qa6 ma6 g6 ⊢
    have hok := g6.ok
    have hl' := g6.len
    have hnl := (nowAt_inv hok).2.1
    have s13m := s13.to (B := M6 + (A6 + 0))
    refine (rKeys_ok (c := c6) (ma6.rd s13m) g6.times hl' ma6.cap hok).mono fun v7 h14 ⟨p7, d7, B7, hv7, o7, t14⟩ => ⟨_, _, _, hv7, ?_⟩
    have s14 := (s13.join t14).to (B := A6 + (B7 + (M6 + 0)))
    refine (qmin_ok qa6 s14).mono fun v8 h15 ⟨hv8, hh15⟩ => ⟨_, _, hv8, ?_⟩
    subst hh15
    refine (qkeys_ok qa6 hl' s14).mono fun v9 h16 ⟨p9, d9, B9, hv9, o9, t16⟩ => ⟨_, _, _, hv9, ?_⟩
    have s16 := s14.join t16
    refine (eqI_ok (o9.rd s16) (o7.rd (s16.to (B := B7 + (B9 + (A6 + (M6 + 0)))))) (by omega)).mono fun v10 h17 ⟨hh17, hv10⟩ => ⟨_, hv10, condNo (by rw [decide_eq_true rfl]; rfl) ?_⟩
    subst hh17
    have s17 := s16.to (B := A6 + (B9 + (B7 + (M6 + 0))))
    refine (qtimes_ok qa6 hl' s17).mono fun v11 h18 ⟨p11, d11, B11, hv11, o11, t18⟩ => ⟨_, _, _, hv11, ?_⟩
    have s18 := (s17.join t18).to (B := M6 + (A6 + (B11 + (B9 + B7))))
    refine (times_ok (c := c6) (ma6.rd s18) hl').mono fun v12 h19 ⟨p12, d12, B12, hv12, o12, t19⟩ => ⟨_, _, _, hv12, ?_⟩
    have s19 := s18.join t19
    refine (eqI_ok (o11.rd (s19.to (B := B11 + (B12 + (M6 + (A6 + (B9 + B7))))))) (o12.rd s19) (by omega)).mono fun v13 h20 ⟨hh20, hv13⟩ => ⟨_, hv13, condNo (by rw [decide_eq_true rfl]; rfl) ?_⟩
    subst hh20
    have s20 := s19.to (B := A6 + (B12 + (M6 + (B11 + (B9 + B7)))))
    refine (qbridges_ok qa6 hl' s20).mono fun v14 h21 ⟨p14, d14, B14, hv14, o14, t21⟩ => ⟨_, _, _, hv14, ?_⟩
    have s21 := (s20.join t21).to (B := M6 + (B14 + (A6 + (B12 + (B11 + (B9 + B7))))))
    refine (rBridges_ok (c := c6) (ma6.rd s21) g6 ma6.cap).mono fun v15 h22 ⟨p15, d15, B15, hv15, o15, t22⟩ => ⟨_, _, _, hv15, ?_⟩
    have s22 := s21.join t22
    have hbl : (brS l').length ≤ l'.length := brP_len
    refine (eqI_ok (o14.rd (s22.to (B := B14 + (B15 + (M6 + (A6 + (B12 + (B11 + (B9 + B7)))))))))  (o15.rd s22) (by omega)).mono fun v16 h23 ⟨hh23, hv16⟩ => ⟨_, hv16, condNo (by rw [decide_eq_true rfl]; rfl) ?_⟩
    subst hh23
    have fin : l35_PartialretroQueue_b5 (some ⟨qb, 0, none⟩) p6 l'.length c6 p n c (n : Int) (i : Int) h23 (fun s' h' => (∃ (i : Nat) (l' : List Ev) (A M : Bag), s'.2.1 = i ∧ i ≤ n ∧ s'.1.2.1 = l'.length ∧ QueueA qb l' A ∧ GoodQ l' ∧ Sl TV s'.1.1 l'.length s'.1.2.2 l' M ∧ St h h' (A + (M + 0))) ∧ n - s'.2.1.toNat < n - (i : Int).toNat) (fun v h' => v = .bool true ∧ Ext h h') := by
      rw [l35_PartialretroQueue_b5_eq]
      refine ⟨⟨by omega, by omega⟩, ⟨i + 1, l', A6, M6, by simp only; omega, by omega, rfl, qa6, g6, ma6, ?_⟩, by simp only; omega⟩
      exact (s22.to (B := (B15 + (B14 + (B12 + (B11 + (B9 + B7))))) + (A6 + (M6 + 0)))).drop
    rw [l35_PartialretroQueue_b3_eq]
    refine condP (fun h0 => ?_) (fun h0 => ?_)
    · have h0' : (nowD l' l'.length).length = 0 := by omega
      have hnil : nowD l' l'.length = [] := List.eq_nil_of_length_eq_zero h0'
      rw [if_pos h0', hnil]
      exact condNo rfl (condNo rfl fin)
    · refine (o7.rd (s22.to (B := B7 + (B15 + (M6 + (B14 + (A6 + (B12 + (B11 + B9))))))))).int (by omega) (by omega) ?_
      rw [if_neg (by omega), min_keys]
      exact condN (fun hne => absurd rfl hne) (fun _ => condNo rfl fin)
  · rw [l35_PartialretroQueue_b4_eq]
    exact ⟨rfl, s6.ext⟩
end Go.Proofs.YtdlkohenamlnaaaGreat

/- How a slice that is handed in is read: elements of any number of cells. -/
namespace Go.Sx
open Go Go.ChangeShapes Go.WideShapes Go.Deep
section
variable {H : Type} {enc : TypeId × Value → H} {P : Program} {w : World} {base : Nat} {sp : Nat → Bool} {held : Bool} {α : Type}
theorem rd_flat {t : TypeId} (T : Ty α) {W : α → Prop} {a : Option Addr} {len cap : Nat} {d : DataW H} {ps : List MemPlace} (ht : P.underlying t = some (.slice T.e)) (hc : P.cellsOf T.e = T.sz)
    (dec : ∀ n cs x, DataW.trod enc P w base sp held n T.e cs = some x → ∃ a, cs = T.enc a ∧ W a) (h : DataW.Trod enc P w base sp held t (.slice a len cap) d ps) :
    ∃ xs : List α, RdT T w.heap a len xs ∧ len ≤ cap ∧ ∀ x ∈ xs, W x := by
  obtain ⟨fuel, hf⟩ := h
  have e0 : (Value.slice a len cap).cells.toList = [.slice a len cap] := rfl
  rw [e0] at hf
  rcases open_slice ht hf with ⟨hcs, _⟩ | ⟨x, l, c, m, n, D, Pl, hcs, _, hl, _, hm, _, hx⟩
  · injection hcs with h1 _
    injection h1 with h1 h2 h3
    subst h1 h2 h3
    exact ⟨[], RdT.nil _ _, Nat.le_refl _, fun _ h => nomatch h⟩
  · injection hcs with h1 _
    injection h1 with h1 h2 h3
    subst h1 h2 h3
    have hlm : len ≤ m := by rw [hm]; split <;> omega
    haveI : Inhabited α := ⟨T.d⟩
    obtain ⟨f, hf⟩ := choose_lt (α := α) (n := len) (p := fun i z => w.cells? base (x.add (i * T.sz)) T.sz = some (T.enc z) ∧ W z) (fun i hi => by
      obtain ⟨cs, h1, h2⟩ := hx i (by omega)
      obtain ⟨z, hz, hw⟩ := dec n cs _ h2
      rw [hc] at h1
      exact ⟨z, by rw [h1, hz], hw⟩)
    refine ⟨(List.range len).map f, ⟨by simp, .inr ⟨x, rfl, fun i hi => ?_⟩⟩, hl, fun z hz => ?_⟩
    · have hp := T.pos
      have hdm : T.sz * (i / T.sz) + i % T.sz = i := Nat.div_add_mod i T.sz
      have hq : i / T.sz < len := (Nat.div_lt_iff_lt_mul hp).2 hi
      have hr : i % T.sz < T.sz := Nat.mod_lt _ hp
      obtain ⟨_, _, h3⟩ := World.cells?_some (hf _ hq).1
      have h4 := h3 _ hr
      have e1 : i / T.sz * T.sz + i % T.sz = i := by rw [Nat.mul_comm]; exact hdm
      rw [add_add, e1] at h4
      show cell w.heap (x.add i) = _
      rw [← cell_eq, h4]
      have := T.cells_get ((List.range len).map f) (i := i / T.sz) (j := i % T.sz) (by simpa using hq) hr
      rw [e1] at this
      rw [this]
      simp [List.getD, hq]
    · obtain ⟨i, hi, rfl⟩ := List.mem_map.1 hz
      exact (hf i (List.mem_range.1 hi)).2
theorem dec_int {e : TypeId} {k : IntKind} (he : P.underlying e = some (.int k)) (n : Nat) (cs : List Value) (x : DataW H × List MemPlace) (h : DataW.trod enc P w base sp held n e cs = some x) : ∃ z, cs = [.int k z] ∧ (Lit.int k z).wf = true := by
  obtain ⟨z, h1, _, h2⟩ := DataW.trod_int he h
  exact ⟨z, h1, h2⟩
/-- An array of two numbers. -/
theorem dec_arr2 {t e : TypeId} (ht : P.underlying t = some (.array 2 e)) (he : P.underlying e = some (.int .i64)) (ce : P.cellsOf e = 1) (ct : P.cellsOf t = 2) (n : Nat) (cs : List Value) (x : DataW H × List MemPlace) (h : DataW.trod enc P w base sp held n t cs = some x) :
    ∃ a : Int × Int, cs = [.int .i64 a.1, .int .i64 a.2] ∧ (InR a.1 ∧ InR a.2) := by
  obtain ⟨xs, m, _, _, hl, hxl, hx⟩ := DataW.trod_array ht h
  rw [ct] at hl
  match cs, hl with
  | [c0, c1], _ =>
    have h0 := hx 0 (by omega)
    have h1 := hx 1 (by omega)
    rw [ce] at h0 h1
    rw [List.getElem?_eq_getElem (by omega)] at h0 h1
    obtain ⟨z0, e0, _, w0⟩ := DataW.trod_int he h0
    obtain ⟨z1, e1, _, w1⟩ := DataW.trod_int he h1
    simp at e0 e1
    subst e0 e1
    have b0 := bounds_i64 w0
    have b1 := bounds_i64 w1
    exact ⟨(z0, z1), rfl, b0, b1⟩
end
end Go.Sx

/- How the law's arguments are read. -/
set_option maxRecDepth 10000
namespace Go.Proofs.YtdlkohenamlnaaaGreat
open Go Go.Sx Go.ChangeShapes Go.WideShapes Go.ChangeAt Go.RowKit Go.Deep

theorem own : ownKnob Tryz.prog.godebug = none := by kernel_rfl
theorem laidOut : laidOutB Tryz.prog = true := by kernel_rfl
theorem below_of {P : Program} {f : FuncId} {args : Array Value} {w : World} (hc : HCalls P f args w.heap (fun v h' => v = .bool true ∧ Ext w.heap h')) :
    Calls P f args w fun e w' => e = .returned (.bool true) ∧ Below w.heap.size w w' :=
  (hc w rfl).mono fun e w' ⟨v, he, hs, hv, hx⟩ => ⟨by rw [he, hv], ⟨hs.os, hs.tape, hs.output, hx.size, hx.same⟩⟩
section
variable {H : Type} {enc : TypeId × Value → H} {w : World} {base : Nat} {held : Bool} {a : Option Addr} {len cap : Nat} {d : DataW H} {ps : List MemPlace}
theorem rd_st35 (h : DataW.Trod enc Tryz.prog w base (fun _ => true) held 22 (.slice a len cap) d ps) : ∃ l : List S5, RdT tS5 w.heap a len l ∧ len ≤ cap ∧ ∀ x ∈ l, x.2.2.2.2.2.1 ≤ x.2.2.2.2.2.2 ∧ InR x.2.2.2.1 ∧ ∃ zs, RdT TI w.heap x.2.2.2.2.1 x.2.2.2.2.2.1 zs :=
  rd_flat tS5 Tryz.underlying22 (by kernel_rfl) (fun n cs x h => by
    obtain ⟨xs, m, _, _, hl, hxl, hx⟩ := DataW.trod_struct Tryz.underlying27 h
    rw [show Tryz.prog.cellsOf 27 = 5 by kernel_rfl] at hl
    match cs, xs, hl, hxl with
    | [c0, c1, c2, c3, c4], [y0, y1, y2, y3], _, _ =>
      obtain ⟨z0, e0, w0⟩ := dec_int (k := .i64) (by kernel_rfl) _ _ _ (hx 0 _ rfl)
      obtain ⟨z1, e1, w1⟩ := dec_int (k := .i64) (by kernel_rfl) _ _ _ (hx 1 _ rfl)
      obtain ⟨z2, e2, w2⟩ := dec_int (k := .i64) (by kernel_rfl) _ _ _ (hx 2 _ rfl)
      have f0 : c0 = .int .i64 z0 := (List.cons.inj (show [c0] = [Value.int .i64 z0] from e0)).1
      have f1 : c1 = .int .i64 z1 := (List.cons.inj (show [c1] = [Value.int .i64 z1] from e1)).1
      have f2 : c2 = .int .i64 z2 := (List.cons.inj (show [c2] = [Value.int .i64 z2] from e2)).1
      have h3 : DataW.trod enc Tryz.prog w base (fun _ => true) held m 25 [c3, c4] = some y3 := hx 3 _ rfl
      obtain ⟨xs', m', _, _, hl', hxl', hx'⟩ := DataW.trod_struct Tryz.underlying25 h3
      match xs', hxl' with
      | [v0, v1], _ =>
        obtain ⟨z3, e3, w3⟩ := dec_int (k := .i64) (by kernel_rfl) _ _ _ (hx' 0 _ rfl)
        have f3 : c3 = .int .i64 z3 := (List.cons.inj (show [c3] = [Value.int .i64 z3] from e3)).1
        have h1 : DataW.trod enc Tryz.prog w base (fun _ => true) held m' 23 [c4] = some v1 := hx' 1 _ rfl
        have key : ∃ a' l' c', [c4] = [Value.slice a' l' c'] := by
          rcases open_slice Tryz.underlying23 h1 with ⟨hcs, _⟩ | ⟨_, _, _, _, _, _, _, hcs, _⟩
          · exact ⟨_, _, _, hcs⟩
          · exact ⟨_, _, _, hcs⟩
        obtain ⟨a', l', c', hc1⟩ := key
        have f4 : c4 = .slice a' l' c' := (List.cons.inj hc1).1
        rw [hc1] at h1
        obtain ⟨zs, hr, hle, _⟩ := rd_flat (W := InR) TI Tryz.underlying23 (by kernel_rfl) (fun n cs x h => by
          obtain ⟨z, h1, h2⟩ := dec_int (k := .i64) (by kernel_rfl) n cs x h
          exact ⟨z, h1, bounds_i64 h2⟩) (d := v1.1) (ps := v1.2) ⟨m', h1⟩
        rw [f0, f1, f2, f3, f4]
        exact ⟨(z0, z1, z2, z3, a', l', c'), rfl, hle, bounds_i64 w3, zs, hr⟩) h
end
end Go.Proofs.YtdlkohenamlnaaaGreat

/- Methods of nil pointers: the law Nil. -/
set_option maxRecDepth 100000
namespace Go.Proofs.YtdlkohenamlnaaaGreat
open Go Go.Sx
theorem same0_ok (h : Hp) : HCalls Tryz.prog 48 #[.agg #[.int .i64 0, .slice none 0 0], .agg #[.int .i64 0, .slice none 0 0]] h (fun v h' => v = .bool true ∧ Ext h h') := by
  refine r03_Same_call ?_
  rw [r03_Same_b0_eq]
  refine (St.start h).new (cs := [.int .i64 0, .slice none 0 0]) fun b1 h1 _ s1 => ?_
  refine s1.new (cs := [.int .i64 0, .slice none 0 0]) fun b2 h2 _ s2 => ?_
  have k2 := s2.blk
  have k1 := s2.atomBlk
  refine ⟨_, k1.cell 0, _, k2.cell 0, condNo rfl ⟨_, _, _, Blk.cellA k1 1, _, _, _, Blk.cellA k2 1, condNo rfl ?_⟩⟩
  rw [r03_Same_b1_eq]
  refine ⟨fun s h' => h' = h2 ∧ s.1 = 0, fun _ _ => 0, ⟨rfl, rfl⟩, ?_⟩
  rintro ⟨_, _⟩ h3 ⟨rfl, rfl⟩
  dsimp only
  rw [r03_Same_b2_eq]
  refine ⟨_, _, _, Blk.cellA k1 1, condNo rfl ?_⟩
  rw [r03_Same_b4_eq]
  exact ⟨rfl, s2.ext⟩
theorem nil_law {h : Hp} {time key code : Int} {p : Option Addr} {n c : Nat} : HCalls Tryz.prog 7 #[.int .i64 time, .int .i64 key, .agg #[.int .i64 code, .slice p n c]] h (fun v h' => v = .bool true ∧ Ext h h') := by
  refine l35_PartialretroNil_call ?_
  rw [l35_PartialretroNil_b0_eq]
  refine (St.start h).new (cs := [.int .i64 code, .slice p n c]) fun b1 h1 x1 s1 => ?_
  refine (awake_ok h1).mono fun v1 h2 ⟨hv1, x2⟩ => ⟨_, hv1, condNo rfl ?_⟩
  have s2 := s1.grow x2
  refine ⟨_, _, _, Blk.cellA s2.blk 1, condP (fun hbig => ?_) (fun _ => ?_)⟩
  · exact (awake_ok h2).mono fun v3 h3 ⟨hv3, x3⟩ => ⟨_, hv3, rfl, s2.ext.trans x3⟩
  rw [l35_PartialretroNil_b1_eq]
  refine HCalls.mono (K := fun v h' => v = .tuple #[.int .i64 0, .int .i64 1] ∧ h' = h2) (partialretro_Queue_Min_call (by rw [partialretro_Queue_Min_b0_eq]; exact condYes rfl ⟨rfl, rfl⟩)) fun v4 h5 ⟨hv4, hh⟩ => ⟨_, _, hv4, ?_⟩
  subst hh
  refine ⟨_, _, _, _, s2.blk.cell 0, Blk.cellA s2.blk 1, ?_⟩
  refine HCalls.mono (K := fun v h' => v = .tuple #[.agg #[.int .i64 0, .int .i64 0, .slice none 0 0], .int .i64 1] ∧ Ext h5 h') (partialretro_Log_Query_call ?_) fun v5 h6 ⟨hv5, x6⟩ => ⟨_, _, _, _, _, _, hv5, ?_⟩
  · rw [partialretro_Log_Query_b0_eq]
    refine (St.start h5).new (cs := [.int .i64 code, .slice p n c]) fun b2 h6 _ s6 => ?_
    refine s6.new (cs := [.int .i64 0, .int .i64 0, .slice none 0 0]) fun b3 h7 _ s7 => condYes rfl ?_
    refine s7.wr rfl (by simp) fun h8 s8 => ?_
    refine s8.wr (o := 1) (add_mk _ _ _) (by simp) fun h9 s9 => ?_
    refine s9.wr (o := 2) (add_mk _ _ _) (by simp) fun h10 s10 => ?_
    exact ⟨_, _, _, _, _, s10.blk.cell 0, Blk.cellA s10.blk 1, Blk.cellA s10.blk 2, rfl, s10.ext⟩
  have s6 := s2.grow x6
  refine s6.new (cs := [.int .i64 0, .int .i64 0, .slice none 0 0]) fun b2 h7 _ s7 => ?_
  refine s7.wr rfl (by simp) fun h8 s8 => ?_
  refine s8.wr (o := 1) (add_mk _ _ _) (by simp) fun h9 s9 => ?_
  refine s9.wr (o := 2) (add_mk _ _ _) (by simp) fun h10 s10 => ?_
  have s10 : St h h10 (cA b2 [.int .i64 0, .int .i64 0, .slice none 0 0] 61 + (cA b1 [.int .i64 code, .slice p n c] 25 + 0)) := s10
  refine HCalls.mono (K := fun v h' => v = .tuple #[.int .i64 0, .int .i64 1] ∧ h' = h10) (partialretro_Log_Failed_call (by rw [partialretro_Log_Failed_b0_eq]; exact condYes rfl ⟨rfl, rfl⟩)) fun v6 h11 ⟨hv6, hh⟩ => ⟨_, _, hv6, ?_⟩
  subst hh
  refine HCalls.mono (K := fun v h' => v = .int .i64 1 ∧ h' = h11) (partialretro_Queue_Insert_call (by rw [partialretro_Queue_Insert_b0_eq]; exact condYes rfl ⟨rfl, rfl⟩)) fun v7 h12 ⟨hv7, hh⟩ => ⟨_, hv7, condYes rfl ?_⟩
  subst hh
  refine HCalls.mono (K := fun v h' => v = .int .i64 1 ∧ h' = h12) (partialretro_Queue_DeleteMin_call (by rw [partialretro_Queue_DeleteMin_b0_eq]; exact condYes rfl ⟨rfl, rfl⟩)) fun v8 h13 ⟨hv8, hh⟩ => ⟨_, hv8, condYes rfl ?_⟩
  subst hh
  refine HCalls.mono (K := fun v h' => v = .int .i64 1 ∧ h' = h13) (partialretro_Queue_Revoke_call (by rw [partialretro_Queue_Revoke_b0_eq]; exact condYes rfl ⟨rfl, rfl⟩)) fun v9 h14 ⟨hv9, hh⟩ => ⟨_, hv9, condYes rfl (condYes rfl (condYes rfl ?_))⟩
  subst hh
  refine HCalls.mono (K := fun v h' => v = .slice none 0 0 ∧ h' = h14) (partialretro_Queue_Keys_call (by rw [partialretro_Queue_Keys_b0_eq]; exact condYes rfl ⟨rfl, rfl⟩)) fun v10 h15 ⟨hv10, hh⟩ => ⟨_, _, _, hv10, condYes rfl ?_⟩
  subst hh
  refine HCalls.mono (K := fun v h' => v = .slice none 0 0 ∧ h' = h15) (partialretro_Queue_Times_call (by rw [partialretro_Queue_Times_b0_eq]; exact condYes rfl ⟨rfl, rfl⟩)) fun v11 h16 ⟨hv11, hh⟩ => ⟨_, _, _, hv11, condYes rfl ?_⟩
  subst hh
  refine HCalls.mono (K := fun v h' => v = .slice none 0 0 ∧ h' = h16) (partialretro_Queue_Bridges_call (by rw [partialretro_Queue_Bridges_b0_eq]; exact condYes rfl ⟨rfl, rfl⟩)) fun v12 h17 ⟨hv12, hh⟩ => ⟨_, _, _, hv12, condYes rfl ?_⟩
  subst hh
  have k1 := s10.atomBlk
  refine ⟨_, _, _, _, k1.cell 0, Blk.cellA k1 1, ?_⟩
  refine HCalls.mono (K := fun v h' => v = .int .i64 1 ∧ Ext h17 h') (partialretro_Log_Add_call ?_) fun v13 h18 ⟨hv13, x18⟩ => ⟨_, hv13, condYes rfl ?_⟩
  · rw [partialretro_Log_Add_b0_eq]
    refine (St.start h17).new (cs := [.int .i64 code, .slice p n c]) fun b2 h6 _ s6 => condYes rfl ?_
    exact ⟨rfl, s6.ext⟩
  refine HCalls.mono (K := fun v h' => v = .int .i64 1 ∧ h' = h18) (partialretro_Log_Revoke_call (by rw [partialretro_Log_Revoke_b0_eq]; exact condYes rfl ⟨rfl, rfl⟩)) fun v14 h19 ⟨hv14, hh⟩ => ⟨_, hv14, condYes rfl ?_⟩
  subst hh
  have s19 := s10.grow x18
  refine ⟨_, _, _, _, _, s19.blk.cell 0, Blk.cellA s19.blk 1, Blk.cellA s19.blk 2, ?_⟩
  refine (same_ok (RdT.nil _ _) (RdT.nil _ _) (by decide)).mono fun v15 h20 ⟨x20, hv15⟩ => ⟨_, hv15, condYes (decide_eq_true rfl) (condYes rfl ?_)⟩
  have s20 := s19.grow x20
  refine HCalls.mono (K := fun v h' => v = .agg #[.int .i64 0, .slice none 0 0] ∧ Ext h20 h') (partialretro_Log_State_call ?_) fun v16 h21 ⟨hv16, x21⟩ => ⟨_, _, _, _, hv16, ?_⟩
  · rw [partialretro_Log_State_b0_eq]
    refine (St.start h20).new (cs := [.int .i64 0, .slice none 0 0]) fun b2 h6 _ s6 => condYes rfl ?_
    refine s6.wr rfl (by simp) fun h8 s8 => ?_
    refine s8.wr (o := 1) (add_mk _ _ _) (by simp) fun h9 s9 => ?_
    exact ⟨_, _, _, _, s9.blk.cell 0, Blk.cellA s9.blk 1, rfl, s9.ext⟩
  refine (same0_ok h21).mono fun v17 h22 ⟨hv17, x22⟩ => ⟨_, hv17, condYes rfl (condYes rfl ⟨rfl, ?_⟩)⟩
  exact (s20.grow x21).ext.trans x22
end Go.Proofs.YtdlkohenamlnaaaGreat

/- How the law's arguments are read: one operation, one step. -/
set_option maxRecDepth 10000
namespace Go.Proofs.YtdlkohenamlnaaaGreat
open Go Go.Sx Go.ChangeShapes Go.WideShapes Go.ChangeAt Go.RowKit Go.Deep
section
variable {H : Type} {enc : TypeId × Value → H} {w : World} {base : Nat} {held : Bool} {cs : Array Value} {d : DataW H} {ps : List MemPlace}
theorem rd_op1 (h : DataW.Trod enc Tryz.prog w base (fun _ => true) held 25 (.agg cs) d ps) : ∃ z a l c zs, cs = #[.int .i64 z, .slice a l c] ∧ l ≤ c ∧ InR z ∧ RdT TI w.heap a l zs := by
  obtain ⟨m, h⟩ := h
  obtain ⟨xs', m', _, _, hl', hxl', hx'⟩ := DataW.trod_struct Tryz.underlying25 h
  rw [show Tryz.prog.cellsOf 25 = 2 by kernel_rfl] at hl'
  have hcl : cs.toList.length = 2 := hl'
  obtain ⟨cl⟩ := cs
  change cl.length = 2 at hcl
  match cl, xs', hcl, hxl' with
  | [c3, c4], [v0, v1], _, _ =>
    obtain ⟨z3, e3, w3⟩ := dec_int (k := .i64) (by kernel_rfl) _ _ _ (hx' 0 _ rfl)
    have f3 : c3 = .int .i64 z3 := (List.cons.inj (show [c3] = [Value.int .i64 z3] from e3)).1
    have h1 : DataW.trod enc Tryz.prog w base (fun _ => true) held m' 23 [c4] = some v1 := hx' 1 _ rfl
    have key : ∃ a' l' c', [c4] = [Value.slice a' l' c'] := by
      rcases open_slice Tryz.underlying23 h1 with ⟨hcs, _⟩ | ⟨_, _, _, _, _, _, _, hcs, _⟩
      · exact ⟨_, _, _, hcs⟩
      · exact ⟨_, _, _, hcs⟩
    obtain ⟨a', l', c', hc1⟩ := key
    have f4 : c4 = .slice a' l' c' := (List.cons.inj hc1).1
    rw [hc1] at h1
    obtain ⟨zs, hr, hle, _⟩ := rd_flat (W := InR) TI Tryz.underlying23 (by kernel_rfl) (fun n cs x h => by
      obtain ⟨z, h1, h2⟩ := dec_int (k := .i64) (by kernel_rfl) n cs x h
      exact ⟨z, h1, bounds_i64 h2⟩) (d := v1.1) (ps := v1.2) ⟨m', h1⟩
    exact ⟨z3, a', l', c', zs, by rw [f3, f4], hle, bounds_i64 w3, hr⟩
theorem rd_step1 (h : DataW.Trod enc Tryz.prog w base (fun _ => true) held 27 (.agg cs) d ps) : ∃ z0 z1 z2 z a l c zs, cs = #[.int .i64 z0, .int .i64 z1, .int .i64 z2, .int .i64 z, .slice a l c] ∧ l ≤ c ∧ (InR z0 ∧ InR z1 ∧ InR z2 ∧ InR z) ∧ RdT TI w.heap a l zs := by
  obtain ⟨m, h⟩ := h
  obtain ⟨xs, m, _, _, hl, hxl, hx⟩ := DataW.trod_struct Tryz.underlying27 h
  rw [show Tryz.prog.cellsOf 27 = 5 by kernel_rfl] at hl
  have hcl : cs.toList.length = 5 := hl
  obtain ⟨cl⟩ := cs
  change cl.length = 5 at hcl
  match cl, xs, hcl, hxl with
  | [c0, c1, c2, c3, c4], [y0, y1, y2, y3], _, _ =>
    obtain ⟨z0, e0, w0⟩ := dec_int (k := .i64) (by kernel_rfl) _ _ _ (hx 0 _ rfl)
    obtain ⟨z1, e1, w1⟩ := dec_int (k := .i64) (by kernel_rfl) _ _ _ (hx 1 _ rfl)
    obtain ⟨z2, e2, w2⟩ := dec_int (k := .i64) (by kernel_rfl) _ _ _ (hx 2 _ rfl)
    have f0 : c0 = .int .i64 z0 := (List.cons.inj (show [c0] = [Value.int .i64 z0] from e0)).1
    have f1 : c1 = .int .i64 z1 := (List.cons.inj (show [c1] = [Value.int .i64 z1] from e1)).1
    have f2 : c2 = .int .i64 z2 := (List.cons.inj (show [c2] = [Value.int .i64 z2] from e2)).1
    have h3 : DataW.Trod enc Tryz.prog w base (fun _ => true) held 25 (.agg #[c3, c4]) y3.1 y3.2 := ⟨m, hx 3 _ rfl⟩
    obtain ⟨z, a, l, c, zs, hc, hle, hz, hr⟩ := rd_op1 h3
    have hc : [c3, c4] = [Value.int .i64 z, .slice a l c] := congrArg Array.toList hc
    have f3 : c3 = .int .i64 z := (List.cons.inj hc).1
    have f4 : c4 = .slice a l c := (List.cons.inj (List.cons.inj hc).2).1
    exact ⟨z0, z1, z2, z, a, l, c, zs, by rw [f0, f1, f2, f3, f4], hle, ⟨bounds_i64 w0, bounds_i64 w1, bounds_i64 w2, hz⟩, hr⟩
end
end Go.Proofs.YtdlkohenamlnaaaGreat

/- Plain lists: what one more operation changes. -/
namespace Go.Sx
/-- Equal operations at the front leave equal queues. -/
theorem nowAt_congr {l l' : List Ev} : ∀ {i : Nat}, (∀ j, j < i → l.getD j evD = l'.getD j evD) → nowAt l i = nowAt l' i
  | 0, _ => rfl
  | i + 1, h => by
    unfold nowAt
    rw [nowAt_congr (fun j hj => h j (by omega)), h i (by omega)]
theorem putT_get {x : Ev} {l : List Ev} {p : Nat} (hp : p ≤ l.length) : (∀ j, j < p → (l.take p ++ x :: l.drop p).getD j evD = l.getD j evD) ∧ (l.take p ++ x :: l.drop p).getD p evD = x ∧ ∀ j, p ≤ j → (l.take p ++ x :: l.drop p).getD (j + 1) evD = l.getD j evD := by
  have hl : (l.take p).length = p := by rw [List.length_take]; omega
  refine ⟨fun j hj => ?_, ?_, fun j hj => ?_⟩
  · rw [List.getD_eq_getElem?_getD, List.getElem?_append_left (by omega), List.getElem?_take_of_lt hj, ← List.getD_eq_getElem?_getD]
  · rw [List.getD_eq_getElem?_getD, List.getElem?_append_right (by omega), hl, Nat.sub_self]; rfl
  · rw [List.getD_eq_getElem?_getD, List.getElem?_append_right (by omega), hl, show j + 1 - p = (j - p) + 1 by omega, List.getElem?_cons_succ, List.getElem?_drop, show p + (j - p) = j by omega, ← List.getD_eq_getElem?_getD]
abbrev keysL (now : List El) : List Int := now.map Prod.fst
theorem keysL_srt {now : List El} (h : SrtE now) : (keysL now).Pairwise (· ≤ ·) := by
  rw [List.pairwise_map]
  exact h.imp fun {a b} (h : LtE a b) => by unfold LtE at h; omega
theorem keysL_ins {x : El} {now : List El} : (keysL (insE x now)).Perm (x.1 :: keysL now) := insE_perm.map Prod.fst
/-- The second has what the first has, and one more. -/
def Plus (A B : List Int) : Prop := ∃ z, B.Perm (z :: A)
theorem plus_ins {A B A' B' : List Int} {k : Int} (h : Plus A B) (ha : A'.Perm (k :: A)) (hb : B'.Perm (k :: B)) : Plus A' B' := by
  obtain ⟨z, hz⟩ := h
  exact ⟨z, hb.trans (((List.Perm.cons k hz).trans (.swap _ _ _)).trans (.cons z ha.symm))⟩
theorem plus_del {a b : Int} {A B : List Int} (hA : (a :: A).Pairwise (· ≤ ·)) (hB : (b :: B).Pairwise (· ≤ ·)) (h : Plus (a :: A) (b :: B)) : Plus A B := by
  obtain ⟨z, hz⟩ := h
  have ha := (List.pairwise_cons.1 hA).1
  have hb := (List.pairwise_cons.1 hB).1
  have hbm : b ∈ z :: a :: A := hz.mem_iff.1 List.mem_cons_self
  have hzb : b ≤ z := by
    rcases List.mem_cons.1 (hz.mem_iff.2 List.mem_cons_self) with h | h
    · omega
    · exact hb z h
  have hab : b ≤ a := by
    rcases List.mem_cons.1 (hz.mem_iff.2 (List.mem_cons_of_mem _ List.mem_cons_self)) with h | h
    · omega
    · exact hb a h
  by_cases hzl : z ≤ a
  · have hbz : b = z := by
      rcases List.mem_cons.1 hbm with h | h
      · exact h
      · rcases List.mem_cons.1 h with h | h
        · omega
        · have := ha b h; omega
    subst hbz
    exact ⟨a, hz.cons_inv⟩
  · have hba : b = a := by
      rcases List.mem_cons.1 hbm with h | h
      · omega
      · rcases List.mem_cons.1 h with h | h
        · exact h
        · have := ha b h; omega
    subst hba
    exact ⟨z, (hz.trans (.swap _ _ _)).cons_inv⟩
theorem stepN_ins {now : List El} {i : Nat} {a : Ev} (hd : a.2.2 = false) : stepN now i a = some (insE (a.2.1, (i : Int)) now) := by unfold stepN; rw [hd]; rfl
theorem stepN_del {now : List El} {i : Nat} {a : Ev} (hd : a.2.2 = true) : stepN now i a = match now with | [] => none | _ :: t => some t := by unfold stepN; rw [hd]; rfl
theorem nowAt_step {l : List Ev} {i : Nat} {now : List El} (h : nowAt l (i + 1) = some now) : ∃ prev, nowAt l i = some prev ∧ stepN prev i (l.getD i evD) = some now := by
  unfold nowAt at h
  cases h1 : nowAt l i with
  | none => rw [h1] at h; cases h
  | some prev => rw [h1] at h; exact ⟨prev, rfl, h⟩
/-- The same operation keeps a difference of one. -/
theorem plus_step {A B A' B' : List El} {i j : Nat} {a : Ev} (sA : SrtE A) (sB : SrtE B) (h : Plus (keysL A) (keysL B)) (hA : stepN A i a = some A') (hB : stepN B j a = some B') : Plus (keysL A') (keysL B') := by
  cases hd : a.2.2 with
  | false =>
    rw [stepN_ins hd] at hA hB
    cases hA; cases hB
    exact plus_ins h keysL_ins keysL_ins
  | true =>
    rw [stepN_del hd] at hA hB
    cases A with
    | nil => cases hA
    | cons x xs =>
      cases B with
      | nil => cases hB
      | cons y ys =>
        cases hA; cases hB
        exact plus_del (keysL_srt sA) (keysL_srt sB) h
/-- Of one more operation at its place. -/
theorem plus_at {x : Ev} {l : List Ev} {p : Nat} (hp : p ≤ l.length) : ∀ {j : Nat}, p ≤ j → ∀ {A B : List El}, nowAt l j = some A → nowAt (l.take p ++ x :: l.drop p) (j + 1) = some B → if x.2.2 = true then Plus (keysL B) (keysL A) else Plus (keysL A) (keysL B)
  | 0, hj, A, B, hA, hB => by
    obtain rfl : p = 0 := by omega
    obtain ⟨prev, h1, h2⟩ := nowAt_step hB
    rw [(putT_get hp).2.1] at h2
    cases h1; cases hA
    split
    · rename_i hd; rw [stepN_del hd] at h2; cases h2
    · rename_i hd
      have hd : x.2.2 = false := by simpa using hd
      rw [stepN_ins hd] at h2; cases h2
      exact ⟨x.2.1, keysL_ins⟩
  | j + 1, hj, A, B, hA, hB => by
    obtain ⟨prev, h1, h2⟩ := nowAt_step hB
    rcases Nat.lt_or_ge j p with hjp | hjp
    · obtain rfl : p = j + 1 := by omega
      have hc := nowAt_congr (l := l.take (j + 1) ++ x :: l.drop (j + 1)) (l' := l) (i := j + 1) (fun k hk => (putT_get hp).1 k hk)
      rw [hc, hA] at h1
      cases h1
      rw [(putT_get hp).2.1] at h2
      split
      · rename_i hd
        rw [stepN_del hd] at h2
        cases A with
        | nil => cases h2
        | cons e es => cases h2; exact ⟨e.1, .refl _⟩
      · rename_i hd
        have hd : x.2.2 = false := by simpa using hd
        rw [stepN_ins hd] at h2; cases h2
        exact ⟨x.2.1, keysL_ins⟩
    · obtain ⟨prevA, g1, g2⟩ := nowAt_step hA
      have ih := plus_at hp hjp g1 h1
      rw [(putT_get hp).2.2 j hjp] at h2
      have sA := (nowAt_inv g1).1
      have sB := (nowAt_inv h1).1
      split
      · rename_i hd
        rw [if_pos hd] at ih
        exact plus_step sB sA ih h2 g2
      · rename_i hd
        rw [if_neg hd] at ih
        exact plus_step sA sB ih g2 h2
/-- The first place at which two ascending lists differ is one of the further element. -/
theorem plus_cut {A B : List Int} {i : Nat} (sA : A.Pairwise (· ≤ ·)) (sB : B.Pairwise (· ≤ ·)) (h : Plus A B) (hi : i ≤ A.length) (heq : ∀ j, j < i → A.getD j 0 = B.getD j 0) (hne : i < A.length → A.getD i 0 ≠ B.getD i 0) : B.length = A.length + 1 ∧ B.take i ++ B.drop (i + 1) = A := by
  obtain ⟨z, hz⟩ := h
  have hlen : B.length = A.length + 1 := by have := hz.length_eq; simpa using this
  refine ⟨hlen, ?_⟩
  have hpre : B.take i = A.take i := by
    refine List.ext_getElem (by rw [List.length_take, List.length_take]; omega) fun j h1 h2 => ?_
    rw [List.length_take] at h1 h2
    rw [List.getElem_take, List.getElem_take, ← getD_get (d := 0), ← getD_get (d := 0)]
    exact (heq j (by omega)).symm
  have hB : B = A.take i ++ B.getD i 0 :: B.drop (i + 1) := by
    rw [← hpre, getD_get (by omega), ← List.drop_eq_getElem_cons (by omega), List.take_append_drop]
  have hz2 : (A.take i ++ B.getD i 0 :: B.drop (i + 1)).Perm (A.take i ++ z :: A.drop i) := by
    rw [← hB]
    refine hz.trans (List.Perm.trans ?_ List.perm_middle.symm)
    rw [List.take_append_drop]
  have hz3 := (List.perm_append_left_iff _).1 hz2
  have sD : (A.drop i).Pairwise (· ≤ ·) := sA.sublist (List.drop_sublist _ _)
  have sE : (B.drop (i + 1)).Pairwise (· ≤ ·) := sB.sublist (List.drop_sublist _ _)
  have key : (B.drop (i + 1)).Perm (A.drop i) := by
    rcases Nat.lt_or_ge i A.length with hlt | hge
    · have hne := hne hlt
      have sE' : (B.getD i 0 :: B.drop (i + 1)).Pairwise (· ≤ ·) := by
        rw [getD_get (by omega), ← List.drop_eq_getElem_cons (by omega)]
        exact sB.sublist (List.drop_sublist _ _)
      have hdA : A.drop i = A.getD i 0 :: A.drop (i + 1) := by rw [getD_get hlt, ← List.drop_eq_getElem_cons hlt]
      have hbz : B.getD i 0 = z := by
        rcases List.mem_cons.1 (hz3.mem_iff.1 List.mem_cons_self) with h | h
        · exact h
        · exfalso
          have h1 : A.getD i 0 ≤ B.getD i 0 := by
            rw [hdA] at h sD
            rcases List.mem_cons.1 h with h | h
            · omega
            · exact (List.pairwise_cons.1 sD).1 _ h
          have h2 : B.getD i 0 ≤ A.getD i 0 := by
            have : A.getD i 0 ∈ B.getD i 0 :: B.drop (i + 1) := hz3.mem_iff.2 (List.mem_cons_of_mem _ (by rw [hdA]; exact List.mem_cons_self))
            rcases List.mem_cons.1 this with h | h
            · omega
            · exact (List.pairwise_cons.1 sE').1 _ h
          omega
      rw [hbz] at hz3
      exact hz3.cons_inv
    · have h1 : A.drop i = [] := List.drop_of_length_le hge
      have h2 : B.drop (i + 1) = [] := List.drop_of_length_le (by omega)
      rw [h1, h2]
  have hEq : B.drop (i + 1) = A.drop i := List.Perm.eq_of_pairwise (fun a b _ _ h1 h2 => Int.le_antisymm h1 h2) sE sD key
  rw [hpre, hEq, List.take_append_drop]
/-- What was put is cut again. -/
theorem cut_put {x : Ev} {l : List Ev} (hs : TimesP l) (hx : hasT x.1 l = false) : hasT x.1 (putT x l) = true ∧ cutT x.1 (putT x l) = l := by
  have hs' := putT_times hs hx
  obtain ⟨p1, p2, p3⟩ := lowT_place (t := x.1) hs
  have hg := putT_get (x := x) p1
  have hl : (putT x l).length = l.length + 1 := putT_len
  have hpl := lowT_at hs' (i := lowT x.1 l) (by omega)
  rw [show (putT x l).getD (lowT x.1 l) evD = x from hg.2.1] at hpl
  refine ⟨hpl.1, ?_⟩
  unfold cutT
  rw [hpl.2]
  have hl2 : (l.take (lowT x.1 l)).length = lowT x.1 l := by rw [List.length_take]; omega
  have e1 : (putT x l).take (lowT x.1 l) = l.take (lowT x.1 l) := by
    unfold putT
    rw [List.take_append_of_le_length (by omega), List.take_of_length_le (by omega)]
  have e2 : (putT x l).drop (lowT x.1 l + 1) = l.drop (lowT x.1 l) := by
    unfold putT
    rw [List.drop_append, List.drop_of_length_le (by omega), List.nil_append, hl2, Nat.add_sub_cancel_left]
    rfl
  rw [e1, e2, List.take_append_drop]
/-- A success of adding. -/
theorem addP_ok {l : List Ev} {x : Ev} (h : (addP l x).2 = 0) : timeP x.1 ∧ hasT x.1 l = false ∧ l.length < 2000 ∧ (nowAt (putT x l) (putT x l).length).isSome = true ∧ addP l x = (putT x l, 0) := by
  unfold addP at h ⊢
  split at h
  · rename_i h1
    split at h
    · cases h
    · rename_i h2
      split at h
      · cases h
      · rename_i h3
        rw [if_pos h1, if_neg h2, if_neg h3]
        unfold chgP at h ⊢
        split at h
        · rename_i h4
          exact ⟨h1, by simpa using h2, by omega, h4, by rw [if_pos h4]⟩
        · cases h
  · cases h
theorem addP_keep {l : List Ev} {x : Ev} (h : (addP l x).2 ≠ 0) : (addP l x).1 = l := by
  unfold addP at h ⊢
  split
  · rename_i h1
    split
    · rfl
    · rename_i h2
      split
      · rfl
      · rename_i h3
        rw [if_pos h1, if_neg h2, if_neg h3] at h
        unfold chgP at h ⊢
        split
        · rename_i h4; rw [if_pos h4] at h; exact absurd rfl h
        · rfl
  · rfl
/-- A revocation of what was added. -/
theorem rev_put {l : List Ev} {x : Ev} (g : GoodQ l) (h : (addP l x).2 = 0) : revP (putT x l) x.1 = (l, 0) := by
  obtain ⟨h1, h2, _, _, _⟩ := addP_ok h
  obtain ⟨c1, c2⟩ := cut_put g.times h2
  rw [revP, if_pos h1, if_pos c1, c2, chgP, g.ok]
  rfl
end Go.Sx

/- Plain lists: bridges, and the key that comes or goes. -/
namespace Go.Sx
/-- An operation deletes an element. -/
def Del (l : List Ev) (i : Nat) (e : El) : Prop := i < l.length ∧ (l.getD i evD).2.2 = true ∧ ∃ es, nowAt l i = some (e :: es) ∧ nowAt l (i + 1) = some es
theorem goodAt {l : List Ev} (g : GoodQ l) {i : Nat} (hi : i ≤ l.length) : nowAt l i = some (nowD l i) := by
  obtain ⟨prev, hp⟩ := nowAt_le hi g.ok
  rw [hp, nowD_some hp]
theorem nowD_step {l : List Ev} (g : GoodQ l) {i : Nat} (hi : i < l.length) : ((l.getD i evD).2.2 = false ∧ nowD l (i + 1) = insE ((l.getD i evD).2.1, (i : Int)) (nowD l i)) ∨ ((l.getD i evD).2.2 = true ∧ ∃ e, nowD l i = e :: nowD l (i + 1)) := by
  obtain ⟨prev, h1, h2⟩ := nowAt_step (goodAt g (i := i + 1) (by omega))
  rw [goodAt g (by omega)] at h1
  cases h1
  cases hd : (l.getD i evD).2.2 with
  | false => rw [stepN_ins hd] at h2; exact .inl ⟨rfl, (Option.some.inj h2).symm⟩
  | true =>
    rw [stepN_del hd] at h2
    refine .inr ⟨rfl, ?_⟩
    cases hc : nowD l i with
    | nil => rw [hc] at h2; cases h2
    | cons e es => rw [hc] at h2; exact ⟨e, by rw [Option.some.inj h2]⟩
theorem nowD_srt {l : List Ev} (g : GoodQ l) {i : Nat} (hi : i ≤ l.length) : SrtE (nowD l i) := (nowAt_inv (goodAt g hi)).1
theorem nowD_lt {l : List Ev} (g : GoodQ l) {i : Nat} (hi : i ≤ l.length) {e : El} (he : e ∈ nowD l i) : 0 ≤ e.2 ∧ e.2 < i := ((nowAt_inv (goodAt g hi)).2.2 e he).1
theorem nowD_old {l : List Ev} (g : GoodQ l) {i j : Nat} (hij : i ≤ j) (hj : j ≤ l.length) {e : El} (he : e ∈ nowD l j) (hi : e.2 < i) : e ∈ nowD l i :=
  nowAt_old hij (goodAt g (by omega)) (goodAt g hj) he hi
/-- Who was there, and is not, has been deleted. -/
theorem del_of {l : List Ev} (g : GoodQ l) {a : Nat} {e : El} : ∀ {j : Nat}, a ≤ j → j ≤ l.length → e ∈ nowD l a → e ∉ nowD l j → ∃ i, a ≤ i ∧ i < j ∧ (l.getD i evD).2.2 = true ∧ nowD l i = e :: nowD l (i + 1)
  | 0, haj, _, h1, h2 => by obtain rfl : a = 0 := by omega
                            exact absurd h1 h2
  | j + 1, haj, hj, h1, h2 => by
    rcases Nat.lt_or_ge j a with h | h
    · obtain rfl : a = j + 1 := by omega
      exact absurd h1 h2
    · by_cases h3 : e ∈ nowD l j
      · rcases nowD_step g (i := j) (by omega) with ⟨_, hs⟩ | ⟨hd, x, hs⟩
        · exact absurd (by rw [hs]; exact insE_mem.2 (.inr h3)) h2
        · rw [hs] at h3
          rcases List.mem_cons.1 h3 with rfl | h3
          · exact ⟨j, h, by omega, hd, hs⟩
          · exact absurd h3 h2
      · obtain ⟨i, i1, i2, i3, i4⟩ := del_of g h (by omega) h1 h3
        exact ⟨i, i1, by omega, i3, i4⟩
/-- Who was deleted does not come back. -/
theorem del_gone {l : List Ev} (g : GoodQ l) {i : Nat} {e : El} (hi : i < l.length) (hs : nowD l i = e :: nowD l (i + 1)) : e ∉ nowD l l.length := fun he => by
  have hlt := nowD_lt g (i := i) (by omega) (e := e) (by rw [hs]; exact List.mem_cons_self)
  have h1 := nowD_old g (i := i + 1) (j := l.length) (by omega) (Nat.le_refl _) he (by omega)
  have hn := srtE_nodup (nowD_srt g (i := i) (by omega))
  rw [hs] at hn
  exact (List.nodup_cons.1 hn).1 h1
/-- Who is there was inserted. -/
theorem nowD_ins {l : List Ev} (g : GoodQ l) {e : El} : ∀ {i : Nat}, i ≤ l.length → e ∈ nowD l i → (l.getD e.2.toNat evD).2.2 = false
  | 0, _, he => by cases he
  | i + 1, hi, he => by
    rcases nowD_step g (i := i) (by omega) with ⟨hd, hs⟩ | ⟨_, x, hs⟩
    · rw [hs] at he
      rcases insE_mem.1 he with rfl | he
      · simpa using hd
      · exact nowD_ins g (by omega) he
    · exact nowD_ins g (i := i) (by omega) (by rw [hs]; exact List.mem_cons_of_mem _ he)
/-- An insertion's element is there directly after it. -/
theorem nowD_put {l : List Ev} (g : GoodQ l) {i : Nat} (hi : i < l.length) (hd : (l.getD i evD).2.2 = false) : ((l.getD i evD).2.1, (i : Int)) ∈ nowD l (i + 1) := by
  rcases nowD_step g hi with ⟨_, hs⟩ | ⟨h, _⟩
  · rw [hs]; exact insE_mem.2 (.inl rfl)
  · rw [hd] at h; cases h
abbrev isBr (l : List Ev) (i : Nat) : Prop := ∀ e ∈ nowD l (i + 1), e ∈ nowD l l.length
theorem brS_mem {l : List Ev} {t : Int} : t ∈ brS l ↔ ∃ i, i < l.length ∧ (l.getD i evD).1 = t ∧ isBr l i := by
  unfold brS brP
  rw [List.mem_map]
  refine ⟨fun ⟨i, hi, ht⟩ => ?_, fun ⟨i, hi, ht, hb⟩ => ⟨i, ?_, ht⟩⟩
  · rw [List.mem_filter, List.mem_range] at hi
    exact ⟨i, hi.1, ht, fun e he => of_decide_eq_true (List.all_eq_true.1 hi.2 e he)⟩
  · rw [List.mem_filter, List.mem_range]
    exact ⟨hi, List.all_eq_true.2 fun e he => decide_eq_true (hb e he)⟩
theorem brS_srt {l : List Ev} (hs : TimesP l) : (brS l).Pairwise (· < ·) := by
  unfold brS brP
  rw [List.pairwise_map]
  have h1 : ((List.range l.length).filter fun j => (nowD l (j + 1)).all fun e => decide (e ∈ nowD l l.length)).Pairwise fun a b => a < b ∧ b < l.length := by
    refine List.Pairwise.sublist List.filter_sublist ?_
    have h2 := List.pairwise_lt_range (n := l.length)
    refine List.Pairwise.imp_of_mem (fun {a b} ha hb h => ⟨h, List.mem_range.1 hb⟩) h2
  exact h1.imp fun {a b} ⟨h, hb⟩ => timesP_lt hs h hb
theorem br_last {l : List Ev} {i : Nat} (hi : i + 1 = l.length) : isBr l i := fun e he => by rw [← hi]; exact he
/-! ### an insertion -/
/-- The greatest of some. -/
def MaxOf (k : Int) (D : Int → Prop) (z : Int) : Prop := k ≤ z ∧ (∀ d, D d → d ≤ z) ∧ (z = k ∨ D z)
theorem maxOf_uniq {k z z' : Int} {D D' : Int → Prop} (h : MaxOf k D z) (h' : MaxOf k D' z') (h1 : ∀ d, D d → ∃ d', D' d' ∧ d ≤ d') (h2 : ∀ d, D' d → ∃ d', D d' ∧ d ≤ d') : z = z' := by
  obtain ⟨a1, a2, a3⟩ := h
  obtain ⟨b1, b2, b3⟩ := h'
  have hle : z ≤ z' := by
    rcases a3 with rfl | h
    · exact b1
    · obtain ⟨d', hd, hle⟩ := h1 _ h
      exact Int.le_trans hle (b2 _ hd)
  have hge : z' ≤ z := by
    rcases b3 with rfl | h
    · exact a1
    · obtain ⟨d', hd, hle⟩ := h2 _ h
      exact Int.le_trans hle (a2 _ hd)
  omega
/-- Which keys are deleted between. -/
abbrev DelIn (l : List Ev) (p j : Nat) (d : Int) : Prop := ∃ i e, p ≤ i ∧ i < j ∧ (l.getD i evD).2.2 = true ∧ nowD l i = e :: nowD l (i + 1) ∧ d = e.1
theorem perm_del {a b z : Int} {A B : List Int} (hA : (a :: A).Pairwise (· ≤ ·)) (hB : (b :: B).Pairwise (· ≤ ·)) (hz : (b :: B).Perm (z :: a :: A)) : B.Perm ((if z ≤ a then a else z) :: A) := by
  have ha := (List.pairwise_cons.1 hA).1
  have hb := (List.pairwise_cons.1 hB).1
  have hbm : b ∈ z :: a :: A := hz.mem_iff.1 List.mem_cons_self
  have hzb : b ≤ z := by
    rcases List.mem_cons.1 (hz.mem_iff.2 List.mem_cons_self) with h | h
    · omega
    · exact hb z h
  have hab : b ≤ a := by
    rcases List.mem_cons.1 (hz.mem_iff.2 (List.mem_cons_of_mem _ List.mem_cons_self)) with h | h
    · omega
    · exact hb a h
  by_cases hzl : z ≤ a
  · rw [if_pos hzl]
    have hbz : b = z := by
      rcases List.mem_cons.1 hbm with h | h
      · exact h
      · rcases List.mem_cons.1 h with h | h
        · omega
        · have := ha b h; omega
    subst hbz
    exact hz.cons_inv
  · rw [if_neg hzl]
    have hba : b = a := by
      rcases List.mem_cons.1 hbm with h | h
      · omega
      · rcases List.mem_cons.1 h with h | h
        · exact h
        · have := ha b h; omega
    subst hba
    exact (hz.trans (.swap _ _ _)).cons_inv
/-- Of an insertion, the new list stays valid, with one key more: the greatest of its own and of those deleted since. -/
theorem ins_max {l : List Ev} {x : Ev} (g : GoodQ l) (hd : x.2.2 = false) {p : Nat} (hp : p ≤ l.length) : ∀ {j : Nat}, p ≤ j → j ≤ l.length → ∃ B z, nowAt (l.take p ++ x :: l.drop p) (j + 1) = some B ∧ SrtE B ∧ (keysL B).Perm (z :: keysL (nowD l j)) ∧ MaxOf x.2.1 (DelIn l p j) z := by
  have base : ∃ B z, nowAt (l.take p ++ x :: l.drop p) (p + 1) = some B ∧ SrtE B ∧ (keysL B).Perm (z :: keysL (nowD l p)) ∧ MaxOf x.2.1 (DelIn l p p) z := by
    have hc := nowAt_congr (l := l.take p ++ x :: l.drop p) (l' := l) (i := p) (fun k hk => (putT_get hp).1 k hk)
    have hs : nowAt (l.take p ++ x :: l.drop p) (p + 1) = some (insE (x.2.1, (p : Int)) (nowD l p)) := by
      unfold nowAt
      rw [hc, goodAt g hp]
      change stepN (nowD l p) p _ = _
      rw [(putT_get hp).2.1, stepN_ins hd]
    exact ⟨_, x.2.1, hs, (nowAt_inv hs).1, keysL_ins, Int.le_refl _, fun d ⟨i, e, h1, h2, _⟩ => by omega, .inl rfl⟩
  intro j
  induction j with
  | zero => intro hj _; obtain rfl : p = 0 := by omega
            exact base
  | succ j ih =>
    intro hj hjl
    rcases Nat.lt_or_ge j p with h | h
    · obtain rfl : p = j + 1 := by omega
      exact base
    · obtain ⟨B, z, h1, h2, h3, m1, m2, m3⟩ := ih h (by omega)
      have hstep : nowAt (l.take p ++ x :: l.drop p) (j + 1 + 1) = stepN B (j + 1) (l.getD j evD) := by
        rw [nowAt.eq_2, h1]
        change stepN B (j + 1) _ = _
        rw [(putT_get hp).2.2 j h]
      rcases nowD_step g (i := j) (by omega) with ⟨hdj, hs⟩ | ⟨hdj, e, hs⟩
      · rw [stepN_ins hdj] at hstep
        refine ⟨_, z, hstep, (nowAt_inv hstep).1, ?_, m1, fun d ⟨i, e, i1, i2, i3, i4⟩ => m2 d ⟨i, e, i1, ?_, i3, i4⟩, m3.imp id fun ⟨i, e, i1, i2, i3⟩ => ⟨i, e, i1, by omega, i3⟩⟩
        · rw [hs]
          exact keysL_ins.trans ((List.Perm.cons _ h3).trans ((List.Perm.swap _ _ _).trans (.cons z (show ((l.getD j evD).2.1 :: keysL (nowD l j)).Perm (keysL (insE ((l.getD j evD).2.1, (j : Int)) (nowD l j))) from (keysL_ins (x := ((l.getD j evD).2.1, (j : Int)))).symm))))
        · rcases Nat.lt_or_ge i j with h5 | h5
          · exact h5
          · obtain rfl : i = j := by omega
            rw [hdj] at i3; cases i3
      · rw [stepN_del hdj] at hstep
        cases B with
        | nil => rw [hs] at h3; have := h3.length_eq; simp at this
        | cons b bs =>
          have sA := keysL_srt (nowD_srt g (i := j) (by omega))
          have hb := keysL_srt h2
          rw [hs] at h3 sA
          have h4 := perm_del (A := keysL (nowD l (j + 1))) (a := e.1) (b := b.1) (B := keysL bs) sA hb h3
          refine ⟨bs, _, hstep, (nowAt_inv hstep).1, h4, ?_, ?_, ?_⟩
          · split <;> omega
          · rintro d ⟨i, e', i1, i2, i3, i4, rfl⟩
            rcases Nat.lt_or_ge i j with h5 | h5
            · have := m2 e'.1 ⟨i, e', i1, h5, i3, i4, rfl⟩
              split <;> omega
            · obtain rfl : i = j := by omega
              rw [hs] at i4
              have : e = e' := (List.cons.inj i4).1
              subst this
              split <;> omega
          · split
            · exact .inr ⟨j, e, h, by omega, hdj, hs, rfl⟩
            · exact m3.imp id fun ⟨i, e', i1, i2, i3⟩ => ⟨i, e', i1, by omega, i3⟩
/-- What the statement asks of a key. -/
abbrev CandP (l : List Ev) (last : Int) (d : Int) : Prop := ∃ q, q < l.length ∧ (l.getD q evD).2.2 = false ∧ last < (l.getD q evD).1 ∧ ((l.getD q evD).2.1, (q : Int)) ∉ nowD l l.length ∧ d = (l.getD q evD).2.1
/-- The last bridge before a time. -/
def LastBr (l : List Ev) (t last : Int) : Prop := (∀ b ∈ brS l, b < t → b ≤ last) ∧ (last = -1 ∨ (last ∈ brS l ∧ last < t))
theorem chain {l : List Ev} (g : GoodQ l) {t last : Int} (hb : LastBr l t last) {p : Nat} (hp : ∀ i, i < l.length → i < p → (l.getD i evD).1 < t) : ∀ (m : Nat) {i : Nat} {e : El}, l.length - i ≤ m → i < l.length → last < (l.getD i evD).1 → (l.getD i evD).2.2 = true → nowD l i = e :: nowD l (i + 1) → ∃ d, DelIn l p l.length d ∧ e.1 ≤ d
  | 0, i, e, hm, hi, _, _, _ => by omega
  | m + 1, i, e, hm, hi, hlast, hd, hs => by
    rcases Nat.lt_or_ge i p with hip | hip
    · have hnb : ¬ isBr l i := fun h => by
        have := hb.1 _ (brS_mem.2 ⟨i, hi, rfl, h⟩) (hp i hi hip)
        omega
      have : ∃ w, w ∈ nowD l (i + 1) ∧ w ∉ nowD l l.length := by
        apply Classical.byContradiction
        intro hno
        exact hnb fun w hw => Classical.byContradiction fun hw2 => hno ⟨w, hw, hw2⟩
      obtain ⟨w, hw1, hw2⟩ := this
      obtain ⟨i', j1, j2, j3, j4⟩ := del_of g (a := i + 1) (j := l.length) (by omega) (Nat.le_refl _) hw1 hw2
      have hlt := timesP_lt g.times (i := i) (j := i') (by omega) j2
      obtain ⟨d, hd', hle⟩ := chain g hb hp m (by omega) j2 (by omega) j3 j4
      have hsr := nowD_srt g (i := i) (by omega)
      rw [hs] at hsr
      have hew := (List.pairwise_cons.1 hsr).1 w hw1
      exact ⟨d, hd', by unfold LtE at hew; omega⟩
    · exact ⟨e.1, ⟨i, e, hip, hi, hd, hs, rfl⟩, Int.le_refl _⟩
/-- The key that an insertion adds. -/
theorem bridge_ins {l : List Ev} {x : Ev} (g : GoodQ l) (hd : x.2.2 = false) {t last best : Int} (ht : x.1 = t) (hb : LastBr l t last) (hbest : MaxOf x.2.1 (CandP l last) best) :
    ∃ B, nowAt (putT x l) (putT x l).length = some B ∧ (keysL B).Perm (best :: keysL (nowD l l.length)) := by
  obtain ⟨p1, p2, p3⟩ := lowT_place (t := x.1) g.times
  obtain ⟨B, z, h1, _, h3, hz⟩ := ins_max g hd p1 p1 (Nat.le_refl _)
  rw [putT_len]
  have e : z = best := by
    refine maxOf_uniq hz hbest ?_ ?_
    · rintro d ⟨i, e, i1, i2, i3, i4, rfl⟩
      have hei : e ∈ nowD l i := by rw [i4]; exact List.mem_cons_self
      have hlt := nowD_lt g (i := i) (by omega) hei
      have hfrom := nowAt_from (i := i) (by omega) (goodAt g (by omega)) e hei
      have hgone := del_gone g i2 i4
      refine ⟨e.1, ⟨e.2.toNat, by omega, nowD_ins g (i := i) (by omega) hei, ?_, ?_, hfrom.2.symm⟩, Int.le_refl _⟩
      · rcases hb.2 with hl | ⟨hl, hlt2⟩
        · have := (g.each _ (getD_mem' (l := l) (i := e.2.toNat) (d := evD) (by omega))).1
          omega
        · obtain ⟨b, b1, b2, b3⟩ := brS_mem.1 hl
          apply Classical.byContradiction
          intro h
          · exfalso
            have hbp : b < lowT x.1 l := by
              rcases Nat.lt_or_ge b (lowT x.1 l) with h | h
              · exact h
              · have := p3 b h b1; omega
            have hqb : e.2.toNat ≤ b := by
              rcases Nat.lt_or_ge b e.2.toNat with h5 | h5
              · have := timesP_lt g.times h5 (by omega); omega
              · exact h5
            exact hgone (b3 e (nowD_old g (i := b + 1) (j := i) (by omega) (by omega) hei (by omega)))
      · rw [hfrom.2]
        intro h
        have : e = (e.1, (e.2.toNat : Int)) := Prod.ext rfl (by simp only; omega)
        rw [← this] at h
        exact hgone h
    · rintro d ⟨q, q1, q2, q3, q4, rfl⟩
      obtain ⟨i, i1, i2, i3, i4⟩ := del_of g (a := q + 1) (j := l.length) (by omega) (Nat.le_refl _) (nowD_put g q1 q2) q4
      have hlt := timesP_lt g.times (i := q) (j := i) (by omega) i2
      exact chain g (t := t) hb (p := lowT x.1 l) (fun i _ hi => by have := p2 i hi; omega) _ (Nat.le_refl _) i2 (by omega) i3 i4
  rw [← e]
  exact ⟨B, h1, h3⟩
end Go.Sx
namespace Go.Sx
/-! ### a deletion -/
/-- The state that a deletion is told by: after the operation before it, if it is a bridge, or after the first bridge from its place on. -/
def BrAt (l : List Ev) (p c : Nat) : Prop := p ≤ c ∧ c ≤ l.length ∧ (∀ e ∈ nowD l c, e ∈ nowD l l.length) ∧ ∀ j, p ≤ j → j < c → ¬ ∀ e ∈ nowD l j, e ∈ nowD l l.length
/-- Before a bridge, the least is deleted later. -/
theorem head_gone {l : List Ev} (g : GoodQ l) {j : Nat} (hj : j ≤ l.length) (hn : ¬ ∀ e ∈ nowD l j, e ∈ nowD l l.length) : ∃ u us, nowD l j = u :: us ∧ u ∉ nowD l l.length := by
  have : ∃ w, w ∈ nowD l j ∧ w ∉ nowD l l.length := by
    apply Classical.byContradiction
    intro hno
    exact hn fun w hw => Classical.byContradiction fun hw2 => hno ⟨w, hw, hw2⟩
  obtain ⟨w, hw1, hw2⟩ := this
  have hsr := nowD_srt g hj
  cases hc : nowD l j with
  | nil => rw [hc] at hw1; cases hw1
  | cons u us =>
    refine ⟨u, us, rfl, fun hu => ?_⟩
    obtain ⟨i, i1, i2, i3, i4⟩ := del_of g hj (Nat.le_refl _) hw1 hw2
    have hlt := nowD_lt g hj (e := u) (by rw [hc]; exact List.mem_cons_self)
    have hui := nowD_old g (i := i) (j := l.length) (by omega) (Nat.le_refl _) hu (by omega)
    have hsi := nowD_srt g (i := i) (by omega)
    rw [i4] at hui hsi
    rw [hc] at hw1 hsr
    have hne : u ≠ w := fun h => hw2 (h ▸ hu)
    have h1 : LtE u w := by
      rcases List.mem_cons.1 hw1 with h | h
      · exact absurd h.symm hne
      · exact (List.pairwise_cons.1 hsr).1 w h
    rcases List.mem_cons.1 hui with h | h
    · exact hne h
    · exact ltE_irr (ltE_trans h1 ((List.pairwise_cons.1 hsi).1 u h))
/-- The one that is missing: another than the least. -/
theorem del_other {b e : El} {S : List El} {B : List El} (hS : SrtE (b :: S)) (hB : SrtE B) (he : e ∈ S) (h : (keysL (b :: S)).Perm (e.1 :: keysL B)) : ∃ a B', B = a :: B' ∧ (keysL S).Perm (e.1 :: keysL B') := by
  obtain ⟨s1, s2, rfl⟩ := List.append_of_mem he
  have h1 : (keysL (s1 ++ e :: s2)).Perm (e.1 :: keysL (s1 ++ s2)) := (List.perm_middle (a := e) (l₁ := s1) (l₂ := s2)).map Prod.fst
  have h2 : (b.1 :: keysL (s1 ++ s2)).Perm (keysL B) := by
    have h3 : (e.1 :: b.1 :: keysL (s1 ++ s2)).Perm (e.1 :: keysL B) := (List.Perm.swap _ _ _).trans ((List.Perm.cons b.1 h1.symm).trans h)
    exact h3.cons_inv
  cases B with
  | nil => have := h2.length_eq; simp at this
  | cons a B' =>
    refine ⟨a, B', rfl, h1.trans (.cons _ ?_)⟩
    have sB := keysL_srt hB
    have sS := keysL_srt hS
    have hab : a.1 = b.1 := by
      have hb1 : b.1 ≤ a.1 := by
        have : a.1 ∈ b.1 :: keysL (s1 ++ s2) := h2.mem_iff.2 List.mem_cons_self
        rcases List.mem_cons.1 this with h | h
        · omega
        · have hm : a.1 ∈ keysL (s1 ++ e :: s2) := h1.mem_iff.2 (List.mem_cons_of_mem _ h)
          exact (List.pairwise_cons.1 sS).1 _ hm
      have hb2 : a.1 ≤ b.1 := by
        have : b.1 ∈ a.1 :: keysL B' := h2.mem_iff.1 List.mem_cons_self
        rcases List.mem_cons.1 this with h | h
        · omega
        · exact (List.pairwise_cons.1 sB).1 _ h
      omega
    have h3 : (b.1 :: keysL (s1 ++ s2)).Perm (b.1 :: keysL B') := by
      have h4 : (b.1 :: keysL (s1 ++ s2)).Perm (a.1 :: keysL B') := h2
      rwa [hab] at h4
    exact h3.cons_inv
section
variable {l : List Ev} {x : Ev} (g : GoodQ l) (hd : x.2.2 = true) {p : Nat} (hp : p ≤ l.length)
include g hd hp
omit g hd in
theorem del_step {j : Nat} (hpj : p ≤ j) {B : List El} (h : nowAt (l.take p ++ x :: l.drop p) (j + 1) = some B) : nowAt (l.take p ++ x :: l.drop p) (j + 1 + 1) = stepN B (j + 1) (l.getD j evD) := by
  rw [nowAt.eq_2, h]
  change stepN B (j + 1) _ = _
  rw [(putT_get hp).2.2 j hpj]
theorem del_base0 (h0 : nowD l p = []) : nowAt (l.take p ++ x :: l.drop p) (p + 1) = none := by
  have hc := nowAt_congr (l := l.take p ++ x :: l.drop p) (l' := l) (i := p) (fun k hk => (putT_get hp).1 k hk)
  rw [nowAt.eq_2, hc, goodAt g hp, h0]
  change stepN [] p _ = _
  rw [(putT_get hp).2.1, stepN_del hd]
theorem del_base1 {e : El} {es : List El} (h0 : nowD l p = e :: es) : nowAt (l.take p ++ x :: l.drop p) (p + 1) = some es := by
  have hc := nowAt_congr (l := l.take p ++ x :: l.drop p) (l' := l) (i := p) (fun k hk => (putT_get hp).1 k hk)
  rw [nowAt.eq_2, hc, goodAt g hp, h0]
  change stepN (e :: es) p _ = _
  rw [(putT_get hp).2.1, stepN_del hd]
omit hd in
/-- One step, if the missing one stays. -/
theorem del_keep {j : Nat} (hpj : p ≤ j) (hj : j < l.length) {B : List El} {e : El} (hB : nowAt (l.take p ++ x :: l.drop p) (j + 1) = some B) (h : (keysL (nowD l j)).Perm (e.1 :: keysL B)) (_ : e ∈ nowD l j) (he' : e ∈ nowD l (j + 1)) :
    ∃ B', nowAt (l.take p ++ x :: l.drop p) (j + 1 + 1) = some B' ∧ (keysL (nowD l (j + 1))).Perm (e.1 :: keysL B') := by
  have hst := del_step hp hpj hB
  rcases nowD_step g hj with ⟨hdj, hs⟩ | ⟨hdj, b, hs⟩
  · rw [stepN_ins hdj] at hst
    refine ⟨_, hst, ?_⟩
    rw [hs]
    exact keysL_ins.trans ((List.Perm.cons _ h).trans ((List.Perm.swap _ _ _).trans (.cons _ (keysL_ins (x := ((l.getD j evD).2.1, ((j + 1 : Nat) : Int)))).symm)))
  · rw [stepN_del hdj] at hst
    have hsr := nowD_srt g (i := j) (by omega)
    rw [hs] at h hsr
    obtain ⟨a, B', rfl, hP⟩ := del_other hsr (nowAt_inv hB).1 he' h
    exact ⟨B', hst, hP⟩
omit hd in
/-- From a state that remains. -/
theorem del_rest {c : Nat} (hpc : p ≤ c) {B : List El} {e : El} (hB : nowAt (l.take p ++ x :: l.drop p) (c + 1) = some B) (h : (keysL (nowD l c)).Perm (e.1 :: keysL B)) (he : e ∈ nowD l c) (hen : e ∈ nowD l l.length) : ∀ {j : Nat}, c ≤ j → j ≤ l.length → ∃ B', nowAt (l.take p ++ x :: l.drop p) (j + 1) = some B' ∧ (keysL (nowD l j)).Perm (e.1 :: keysL B') := by
  intro j
  induction j with
  | zero => intro hcj _; obtain rfl : c = 0 := by omega
            exact ⟨B, hB, h⟩
  | succ j ih =>
    intro hcj hj
    rcases Nat.lt_or_ge j c with h1 | h1
    · obtain rfl : c = j + 1 := by omega
      exact ⟨B, hB, h⟩
    · obtain ⟨B1, h2, h3⟩ := ih h1 (by omega)
      have hlt := nowD_lt g (i := c) (by omega) he
      exact del_keep g hp (by omega) (by omega) h2 h3 (nowD_old g (by omega) (Nat.le_refl _) hen (by omega)) (nowD_old g (by omega) (Nat.le_refl _) hen (by omega))
/-- Up to the bridge: the missing one is the least, or is deleted later; or nothing is left at the bridge. -/
theorem del_upto {c : Nat} (hbr : BrAt l p c) : ∀ {j : Nat}, p ≤ j → j ≤ c → (∃ B e, nowAt (l.take p ++ x :: l.drop p) (j + 1) = some B ∧ (keysL (nowD l j)).Perm (e.1 :: keysL B) ∧ e ∈ nowD l j ∧ ((∃ us, nowD l j = e :: us) ∨ e ∉ nowD l l.length)) ∨ (j = c ∧ nowD l c = [] ∧ nowAt (l.take p ++ x :: l.drop p) (c + 1) = none) := by
  obtain ⟨c1, c2, c3, c4⟩ := hbr
  have base : (∃ B e, nowAt (l.take p ++ x :: l.drop p) (p + 1) = some B ∧ (keysL (nowD l p)).Perm (e.1 :: keysL B) ∧ e ∈ nowD l p ∧ ((∃ us, nowD l p = e :: us) ∨ e ∉ nowD l l.length)) ∨ (p = c ∧ nowD l c = [] ∧ nowAt (l.take p ++ x :: l.drop p) (c + 1) = none) := by
    cases hc : nowD l p with
    | nil =>
      have hb := del_base0 g hd hp hc
      have hpc : p = c := by
        rcases Nat.lt_or_ge p c with h | h
        · exact absurd (fun e he => by rw [hc] at he; cases he) (c4 p (Nat.le_refl _) h)
        · omega
      exact .inr ⟨hpc, by rw [← hpc]; exact hc, by rw [← hpc]; exact hb⟩
    | cons e es =>
      have hb := del_base1 g hd hp hc
      exact .inl ⟨es, e, hb, .refl _, List.mem_cons_self, .inl ⟨es, rfl⟩⟩
  intro j
  induction j with
  | zero => intro hj _; obtain rfl : p = 0 := by omega
            exact base
  | succ j ih =>
    intro hj hjc
    rcases Nat.lt_or_ge j p with h | h
    · obtain rfl : p = j + 1 := by omega
      exact base
    · rcases ih h (by omega) with ⟨B, e, h1, h2, h3, h4⟩ | ⟨h1, _⟩
      · have hgone : e ∉ nowD l l.length := by
          rcases h4 with ⟨us, hus⟩ | h4
          · obtain ⟨u, us', hu, hug⟩ := head_gone g (j := j) (by omega) (c4 j h (by omega))
            rw [hus] at hu
            rw [(List.cons.inj hu).1]; exact hug
          · exact h4
        by_cases he' : e ∈ nowD l (j + 1)
        · obtain ⟨B', k1, k2⟩ := del_keep g hp h (by omega) h1 h2 h3 he'
          exact .inl ⟨B', e, k1, k2, he', .inr hgone⟩
        · have hst := del_step hp h h1
          rcases nowD_step g (i := j) (by omega) with ⟨hdj, hs⟩ | ⟨hdj, b, hs⟩
          · exact absurd (by rw [hs]; exact insE_mem.2 (.inr h3)) he'
          · rw [stepN_del hdj] at hst
            have heb : e = b := by
              rw [hs] at h3
              rcases List.mem_cons.1 h3 with h | h
              · exact h
              · exact absurd h he'
            subst heb
            rw [hs] at h2
            have h5 : (keysL (nowD l (j + 1))).Perm (keysL B) := h2.cons_inv
            cases hB : B with
            | nil =>
              rw [hB] at h5 hst
              have hnil : nowD l (j + 1) = [] := List.eq_nil_of_length_eq_zero (by have := h5.length_eq; simpa using this)
              have hjc' : j + 1 = c := by
                rcases Nat.lt_or_ge (j + 1) c with h6 | h6
                · exact absurd (fun e he => by rw [hnil] at he; cases he) (c4 (j + 1) (by omega) h6)
                · omega
              exact .inr ⟨hjc', by rw [← hjc']; exact hnil, by rw [← hjc']; exact hst⟩
            | cons a B' =>
              rw [hB] at h5 hst
              cases hS : nowD l (j + 1) with
              | nil => rw [hS] at h5; have := h5.length_eq; simp at this
              | cons u us =>
                have sS := keysL_srt (nowD_srt g (i := j + 1) (by omega))
                have sB := keysL_srt (nowAt_inv h1).1
                rw [hB] at sB
                have heq := List.Perm.eq_of_pairwise (fun a b _ _ h1 h2 => Int.le_antisymm h1 h2) sS sB h5
                rw [hS] at heq
                have hua : u.1 = a.1 ∧ keysL us = keysL B' := ⟨(List.cons.inj heq).1, (List.cons.inj heq).2⟩
                refine .inl ⟨B', u, hst, ?_, List.mem_cons_self, .inl ⟨us, rfl⟩⟩
                show (u.1 :: keysL us).Perm (u.1 :: keysL B')
                rw [hua.2]
      · omega
/-- The key that a deletion takes away; or none, if nothing is there at the bridge. -/
theorem bridge_del {c : Nat} (hbr : BrAt l p c) : (nowD l c = [] ∧ nowAt (l.take p ++ x :: l.drop p) (l.length + 1) = none) ∨
    ∃ e us B, nowD l c = e :: us ∧ nowAt (l.take p ++ x :: l.drop p) (l.length + 1) = some B ∧ (keysL (nowD l l.length)).Perm (e.1 :: keysL B) := by
  obtain ⟨c1, c2, c3, c4⟩ := hbr
  rcases del_upto g hd hp ⟨c1, c2, c3, c4⟩ c1 (Nat.le_refl c) with ⟨B, e, h1, h2, h3, h4⟩ | ⟨_, h2, h3⟩
  · have hen := c3 e h3
    rcases h4 with ⟨us, hus⟩ | h4
    · obtain ⟨B', k1, k2⟩ := del_rest g hp c1 h1 h2 h3 hen c2 (Nat.le_refl _)
      exact .inr ⟨e, us, B', hus, k1, k2⟩
    · exact absurd hen h4
  · refine .inl ⟨h2, ?_⟩
    cases hj : nowAt (l.take p ++ x :: l.drop p) (l.length + 1) with
    | none => rfl
    | some now => obtain ⟨prev, hprev⟩ := nowAt_le (i := c + 1) (by omega) hj; rw [h3] at hprev; cases hprev
end
end Go.Sx

/- Searching in ascending numbers with repetitions; whether a list has a number. -/
set_option maxRecDepth 100000
namespace Go.Proofs.YtdlkohenamlnaaaGreat
open Go Go.Sx
theorem searchLb_ok {h : Hp} {p : Option Addr} {n c t : Nat} {zs : List Int} {key : Int} (r : RdT TI h p n zs) (hn : n ≤ 1000000) (lb : IsLb zs key t) :
    HCalls Tryz.prog 21 #[.slice p n c, .int .i64 key] h (fun v h' => v = .tuple #[.int .i64 (t : Int), .bool (decide (t < n ∧ zs.getD t 0 = key))] ∧ h' = h) := by
  have hzl := r.len
  obtain ⟨htn, hlo, hhi⟩ := lb
  refine slices_BinarySearch_Sint_int_call ?_
  rw [slices_BinarySearch_Sint_int_b0_eq]
  refine ⟨fun s h' => h' = h ∧ ∃ i j : Nat, s.1 = i ∧ s.2.1 = j ∧ i ≤ t ∧ t ≤ j ∧ j ≤ n, fun s _ => (s.2.1 - s.1).toNat, ⟨rfl, 0, n, rfl, rfl, by omega, by omega, by omega⟩, ?_⟩
  rintro ⟨_, _, _⟩ h1 ⟨rfl, i, j, rfl, rfl, hit, htj, hjn⟩
  dsimp only
  rw [slices_BinarySearch_Sint_int_b1_eq]
  refine condP (fun hlt => ?_) (fun hge => ?_)
  · have e1 : IntKind.u64.wrap ((i : Int) + (j : Int)) = ((i + j : Nat) : Int) := by
      show ((i : Int) + (j : Int)) % 18446744073709551616 = _
      rw [Int.emod_eq_of_lt (by omega) (by omega)]; push_cast; rfl
    refine ⟨⟨by omega, by omega⟩, (((i + j) / 2 : Nat) : Int), ⟨by omega, ?_⟩, ⟨by omega, by omega⟩, ?_⟩
    · rw [e1]
      have : (2 : Int) ^ (min (Int.toNat 1) IntKind.u64.bits) = 2 := by decide
      rw [this]
      rw [Int.fdiv_eq_ediv_of_nonneg _ (by omega)]
      omega
    refine r.int (by omega) (by omega) ?_
    rw [Int.toNat_natCast]
    refine (Less_ok _ _ _).mono fun v h2 ⟨hh, hv⟩ => ?_
    subst hh
    refine ⟨_, hv, condP (fun h3 => ?_) (fun h3 => ?_)⟩
    · have : (i + j) / 2 < t := by
        rcases Nat.lt_or_ge ((i + j) / 2) t with h | h
        · exact h
        · have : key ≤ zs.getD ((i + j) / 2) 0 := hhi _ h (by omega)
          omega
      exact ⟨⟨by omega, by omega⟩, ⟨rfl, (i + j) / 2 + 1, j, by simp only; omega, rfl, by omega, htj, hjn⟩, by simp only; omega⟩
    · have : t ≤ (i + j) / 2 := by
        rcases Nat.lt_or_ge ((i + j) / 2) t with h | h
        · have : zs.getD ((i + j) / 2) 0 < key := hlo _ h
          omega
        · exact h
      exact ⟨⟨rfl, i, (i + j) / 2, rfl, rfl, hit, this, by omega⟩, by simp only; omega⟩
  · obtain rfl : i = t := by omega
    rw [slices_BinarySearch_Sint_int_b2_eq]
    refine condP (fun hl => ?_) (fun hl => ?_)
    · refine r.int (by omega) (by omega) ?_
      rw [Int.toNat_natCast]
      refine condP (fun he => ?_) (fun he => ?_)
      · exact ⟨by rw [decide_eq_true ⟨by omega, he⟩], rfl⟩
      · refine r.int (by omega) (by omega) ?_
        rw [Int.toNat_natCast]
        refine (isNaN_ok _ _).mono fun v h2 ⟨hh, hv⟩ => ?_
        subst hh
        refine ⟨_, hv, ?_, rfl⟩
        rw [decide_eq_false (fun h4 => he h4.2)]
    · exact ⟨by rw [decide_eq_false (fun h4 => hl (by omega))], rfl⟩
/-- The place in ascending numbers. -/
theorem isLb_of {zs : List Int} {key : Int} (hs : zs.Pairwise (· ≤ ·)) : IsLb zs key (zs.takeWhile fun z => decide (z < key)).length := by
  have e : zs.takeWhile (fun z => decide (z < key)) ++ zs.dropWhile (fun z => decide (z < key)) = zs := List.takeWhile_append_dropWhile
  have hlen := congrArg List.length e
  rw [List.length_append] at hlen
  refine ⟨by omega, fun j hj => ?_, fun j hj hjl => ?_⟩
  · have hm : zs.getD j 0 ∈ zs.takeWhile (fun z => decide (z < key)) := by
      have : zs.getD j 0 = (zs.takeWhile (fun z => decide (z < key)))[j]'hj := by
        rw [getD_get (by omega)]
        conv => lhs; arg 1; rw [← e]
        rw [List.getElem_append_left hj]
      rw [this]; exact List.getElem_mem hj
    exact of_decide_eq_true (List.all_eq_true.1 (List.all_takeWhile (p := fun z : Int => decide (z < key)) (l := zs)) _ hm)
  · have hd : zs.drop (zs.takeWhile (fun z => decide (z < key))).length = zs.dropWhile (fun z => decide (z < key)) := (take_of_app e.symm).2
    have h0 : key ≤ zs.getD (zs.takeWhile (fun z => decide (z < key))).length 0 := by
      have h1 := List.head?_dropWhile_not (fun z : Int => decide (z < key)) zs
      rw [← hd, List.drop_eq_getElem_cons (by omega), List.head?_cons] at h1
      rw [getD_get (by omega)]
      simpa using h1
    show key ≤ zs.getD j 0
    rcases Nat.lt_or_ge (zs.takeWhile (fun z => decide (z < key))).length j with h | h
    · have := List.pairwise_iff_getElem.1 hs _ _ (by omega) hjl h
      rw [getD_get (by omega)] at h0 ⊢
      omega
    · obtain rfl : j = (zs.takeWhile (fun z => decide (z < key))).length := by omega
      exact h0
theorem contains_ok {h : Hp} {p : Option Addr} {n c : Nat} {T : List Int} (r : RdT TI h p n T) (hn : n ≤ 1000000) (z : Int) :
    HCalls Tryz.prog 19 #[.slice p n c, .int .i64 z] h (fun v h' => v = .bool (decide (z ∈ T)) ∧ h' = h) := by
  have hl := r.len
  refine slices_Contains_Sint_int_call ?_
  rw [slices_Contains_Sint_int_b0_eq]
  refine slices_Index_Sint_int_call ?_
  rw [slices_Index_Sint_int_b0_eq]
  refine ⟨fun s h' => h' = h ∧ ∃ i : Nat, s.1 = i ∧ i ≤ n ∧ z ∉ T.take i, fun s _ => n - s.1.toNat, ⟨rfl, 0, rfl, by omega, by simp⟩, ?_⟩
  rintro ⟨_, _⟩ h1 ⟨rfl, i, rfl, hin, hall⟩
  dsimp only
  rw [slices_Index_Sint_int_b1_eq]
  refine condP (fun hlt => ?_) (fun hge => ?_)
  · refine r.int (by omega) (by omega) ?_
    rw [Int.toNat_natCast]
    refine condP (fun he => ?_) (fun hne => ?_)
    · exact ⟨_, rfl, by rw [decide_eq_true (by omega), decide_eq_true (by rw [he]; exact getD_mem' (by omega))], rfl⟩
    · rw [slices_Index_Sint_int_b2_eq]
      refine ⟨⟨by omega, by omega⟩, ⟨rfl, i + 1, by simp only; omega, by omega, fun hm => ?_⟩, by simp only; omega⟩
      rw [List.take_succ_eq_append_getElem (by omega), List.mem_append, List.mem_singleton, ← getD_get (d := 0)] at hm
      rcases hm with hm | hm
      · exact hall hm
      · exact hne hm
  · rw [slices_Index_Sint_int_b3_eq]
    rw [List.take_of_length_le (by omega)] at hall
    exact ⟨_, rfl, by rw [decide_eq_false hall]; rfl, rfl⟩
/-- A key comes. -/
theorem key_comes {K K' : List Int} {z : Int} {i : Nat} (hK : K.Pairwise (· ≤ ·)) (hK' : K'.Pairwise (· ≤ ·)) (h : K'.Perm (z :: K)) (lb : IsLb K z i) : K' = K.take i ++ z :: K.drop i := by
  obtain ⟨l1, l2, l3⟩ := lb
  have lo : ∀ a ∈ K.take i, a < z := fun a ha => by
    obtain ⟨j, hj, rfl⟩ := List.mem_iff_getElem.1 ha
    rw [List.length_take] at hj
    rw [List.getElem_take, ← getD_get (d := 0)]
    exact l2 j (by omega)
  have hi : ∀ a ∈ K.drop i, z ≤ a := fun a ha => by
    obtain ⟨j, hj, rfl⟩ := List.mem_iff_getElem.1 ha
    rw [List.length_drop] at hj
    rw [List.getElem_drop, ← getD_get (d := 0)]
    exact l3 _ (by omega) (by omega)
  have hs : (K.take i ++ z :: K.drop i).Pairwise (· ≤ ·) := by
    refine List.pairwise_append.2 ⟨hK.sublist (List.take_sublist _ _), List.pairwise_cons.2 ⟨hi, hK.sublist (List.drop_sublist _ _)⟩, fun a ha b hb => ?_⟩
    rcases List.mem_cons.1 hb with rfl | hb
    · have := lo a ha; omega
    · have := lo a ha; have := hi b hb; omega
  refine List.Perm.eq_of_pairwise (fun a b _ _ h1 h2 => Int.le_antisymm h1 h2) hK' hs (h.trans ?_)
  refine List.Perm.trans ?_ List.perm_middle.symm
  rw [List.take_append_drop]
/-- A key goes. -/
theorem key_goes {K K' : List Int} {z : Int} {i : Nat} (hK : K.Pairwise (· ≤ ·)) (hK' : K'.Pairwise (· ≤ ·)) (h : K.Perm (z :: K')) (lb : IsLb K z i) : i < K.length ∧ K.getD i 0 = z ∧ K' = K.take i ++ K.drop (i + 1) := by
  obtain ⟨l1, l2, l3⟩ := lb
  obtain ⟨j, hj, hz⟩ := List.mem_iff_getElem.1 (h.mem_iff.2 List.mem_cons_self)
  rw [← getD_get (d := 0)] at hz
  have hij : i ≤ j := by
    rcases Nat.lt_or_ge j i with h1 | h1
    · have : K.getD j 0 < z := l2 j h1
      omega
    · exact h1
  have hiz : K.getD i 0 = z := by
    have h1 : z ≤ K.getD i 0 := l3 i (Nat.le_refl _) (by omega)
    have h2 : K.getD i 0 ≤ K.getD j 0 := by
      rcases Nat.lt_or_ge i j with h3 | h3
      · rw [getD_get (by omega), getD_get hj]; exact List.pairwise_iff_getElem.1 hK _ _ (by omega) hj h3
      · obtain rfl : i = j := by omega
        exact Int.le_refl _
    omega
  refine ⟨by omega, hiz, ?_⟩
  have hsp : K = K.take i ++ z :: K.drop (i + 1) := by
    rw [← hiz, getD_get (by omega), ← List.drop_eq_getElem_cons (by omega), List.take_append_drop]
  have hp : (z :: (K.take i ++ K.drop (i + 1))).Perm (z :: K') := by
    refine (List.perm_middle.symm).trans ?_
    rw [← hsp]; exact h
  have hs : (K.take i ++ K.drop (i + 1)).Pairwise (· ≤ ·) := by
    refine hK.sublist ?_
    conv => rhs; rw [hsp]
    exact List.Sublist.append (List.Sublist.refl _) (List.sublist_cons_self _ _)
  exact List.Perm.eq_of_pairwise (fun a b _ _ h1 h2 => Int.le_antisymm h1 h2) hK' hs hp.cons_inv.symm
end Go.Proofs.YtdlkohenamlnaaaGreat

/- The law Bridge. -/
set_option maxRecDepth 100000
namespace Go.Proofs.YtdlkohenamlnaaaGreat
open Go Go.Sx
theorem isBr_mem {l : List Ev} (hs : TimesP l) {i : Nat} (hi : i < l.length) : (l.getD i evD).1 ∈ brS l ↔ isBr l i := by
  rw [brS_mem]
  refine ⟨fun ⟨j, j1, j2, j3⟩ => ?_, fun h => ⟨i, hi, rfl, h⟩⟩
  obtain rfl := timesP_inj hs j1 hi j2
  exact j3
theorem relT_at {l : List Ev} (g : GoodQ l) {T : List Int} (rel : RelT l T (nowD l l.length)) {q : Nat} (hq : q < l.length) : (l.getD q evD).1 ∈ T ↔ ((l.getD q evD).2.1, (q : Int)) ∈ nowD l l.length := by
  rw [relT_mem rel]
  have hf := nowAt_from (l := l) (Nat.le_refl _) g.ok
  refine ⟨fun ⟨e, he, ht⟩ => ?_, fun h => ⟨_, h, by simp only [Int.toNat_natCast]⟩⟩
  have h1 := hf e he
  have h2 := timesP_inj g.times (i := e.2.toNat) (j := q) (by omega) hq ht
  have : e = ((l.getD q evD).2.1, (q : Int)) := Prod.ext (by rw [← h1.2, h2]) (by simp only; omega)
  rw [← this]; exact he
section
variable {h hc : Hp} {b1 qb : Nat} {k t y u : Int} {xp : Option Addr} {xn xc : Nat} {m : List Ev} {mp kp bp : Option Addr} {mc kd bd : Nat} {A M K1 K2 K3 : Bag}
  (g : GoodQ m) (hlt : m.length < 2000) (hno : hasT t m = false) (htt : timeP t) (qa : QueueA qb m A) (ma : Sl TV mp m.length mc m M) (ka : Sl TI kp (nowD m m.length).length kd (keysL (nowD m m.length)) K1) (ba : Sl TI bp (brS m).length bd (brS m) K2)
include g hlt hno htt qa ma ka ba
omit ma ba in
/-- An insertion, to its end. -/
theorem bridge_b15 (hky : keyQ y) {tp : Option Addr} {td : Nat} {last best : Int} (hb : LastBr m t last) (hbest : MaxOf y (CandP m last) best) (s : St h hc (A + (M + (K1 + (K2 + (K3 + (cA b1 [.int .i64 k, .int .i64 t, .int .i64 y, .int .i64 u, .slice xp xn xc] 27 + 0))))))) :
    l35_PartialretroBridge_b15 (some ⟨b1, 0, none⟩) (some ⟨qb, 0, none⟩) kp (nowD m m.length).length kd best hc (fun v h' => v = .bool true ∧ Ext h h') := by
  have kx := (s.to (B := cA b1 [.int .i64 k, .int .i64 t, .int .i64 y, .int .i64 u, .slice xp xn xc] 27 + (A + (M + (K1 + (K2 + (K3 + 0))))))).blk
  obtain ⟨B, e1, e2⟩ := bridge_ins (x := (t, y, false)) g rfl rfl hb hbest
  have hadd : insP m t y = (putT (t, y, false) m, 0) := by
    rw [insP, if_pos hky, addP, if_pos htt, if_neg (by rw [hno]; simp), if_neg (by omega), chgP, e1]; rfl
  have hnl := (nowAt_inv g.ok).2.1
  have hlen := putT_len (x := (t, y, false)) (l := m)
  have hng := insP_good (t := t) (k := y) g
  rw [l35_PartialretroBridge_b15_eq]
  refine ⟨_, Blk.cellA kx 1, _, Blk.cellA kx 2, ?_⟩
  refine (qinsert_ok (t := t) (k := y) qa g.times g.len s).mono fun v1 h1 ⟨hv1, A1, qa1, s1⟩ => ⟨_, hv1, ?_⟩
  rw [hadd] at qa1 hng ⊢
  have hng : GoodQ (putT (t, y, false) m) := hng
  have qa1 : QueueA qb (putT (t, y, false) m) A1 := qa1
  refine condNo rfl ?_
  have rK := ka.rd (s1.to (B := K1 + (A1 + (M + (K2 + (K3 + (cA b1 [.int .i64 k, .int .i64 t, .int .i64 y, .int .i64 u, .slice xp xn xc] 27 + 0)))))))
  have sK := keysL_srt (nowAt_inv g.ok).1
  have lb := isLb_of (key := best) sK
  generalize ((keysL (nowD m m.length)).takeWhile fun z => decide (z < best)).length = i at lb
  have hi := lb.1
  have hkl : (keysL (nowD m m.length)).length = (nowD m m.length).length := List.length_map ..
  refine (searchLb_ok rK (by omega) lb).mono fun v2 h2 ⟨hv2, hh2⟩ => ⟨_, _, hv2, ?_⟩
  subst hh2
  refine (qkeys_ok qa1 hng.len s1).mono fun v3 h3 ⟨q3, d3, B3, hv3, o3, t3⟩ => ⟨_, _, _, hv3, ?_⟩
  have s3 := s1.join t3
  refine (cloneI_st (rK.ext t3.ext) (by omega)).mono fun v4 h4 ⟨q4, d4, B4, hv4, o4, t4⟩ => ⟨_, _, _, hv4, ?_⟩
  have s4 := s3.join t4
  refine s4.new (cs := [.int .i64 best]) fun bx h5 _ s5 => ?_
  have s5 : St h h5 (B4 + (cA bx [.int .i64 best] (TI).e + (B3 + (A1 + (M + (K1 + (K2 + (K3 + (cA b1 [.int .i64 k, .int .i64 t, .int .i64 y, .int .i64 u, .slice xp xn xc] 27 + 0))))))))) := s5.to
  refine (insertI_st (x := best) s5 o4 rfl (by omega) (by omega)).mono fun v6 h6 ⟨q6, d6, B6, hv6, o6, s6⟩ => ⟨_, _, _, hv6, ?_⟩
  have hB := nowD_some e1
  have e3 := key_comes sK (keysL_srt (nowAt_inv hng.ok).1) (show (keysL (nowD (putT (t, y, false) m) (putT (t, y, false) m).length)).Perm (best :: keysL (nowD m m.length)) by rw [hB]; exact e2) lb
  have hnl2 := (nowAt_inv hng.ok).2.1
  refine (eqI_ok (o3.rd (s6.to (B := B3 + (B6 + (cA bx [.int .i64 best] (TI).e + (A1 + (M + (K1 + (K2 + (K3 + (cA b1 [.int .i64 k, .int .i64 t, .int .i64 y, .int .i64 u, .slice xp xn xc] 27 + 0))))))))))) (o6.rd s6) (by omega)).mono fun v7 h7 ⟨hh7, hv7⟩ => ⟨_, hv7, by rw [decide_eq_true e3], ?_⟩
  subst hh7
  exact s6.ext
omit ba in
/-- An insertion. -/
theorem bridge_b9 (hky : keyQ y) {tp : Option Addr} {td : Nat} {T : List Int} (rel : RelT m T (nowD m m.length)) (ta : Sl TI tp (nowD m m.length).length td T K3) {last : Int} (hb : LastBr m t last) (s : St h hc (A + (M + (K1 + (K2 + (K3 + (cA b1 [.int .i64 k, .int .i64 t, .int .i64 y, .int .i64 u, .slice xp xn xc] 27 + 0))))))) :
    l35_PartialretroBridge_b9 (some ⟨b1, 0, none⟩) (some ⟨qb, 0, none⟩) mp m.length mc kp (nowD m m.length).length kd tp (nowD m m.length).length td last hc (fun v h' => v = .bool true ∧ Ext h h') := by
  have kx := (s.to (B := cA b1 [.int .i64 k, .int .i64 t, .int .i64 y, .int .i64 u, .slice xp xn xc] 27 + (A + (M + (K1 + (K2 + (K3 + 0))))))).blk
  have rm := ma.rd (s.to (B := M + (A + (K1 + (K2 + (K3 + (cA b1 [.int .i64 k, .int .i64 t, .int .i64 y, .int .i64 u, .slice xp xn xc] 27 + 0)))))))
  have rT := ta.rd (s.to (B := K3 + (A + (M + (K1 + (K2 + (cA b1 [.int .i64 k, .int .i64 t, .int .i64 y, .int .i64 u, .slice xp xn xc] 27 + 0)))))))
  have hnl := (nowAt_inv g.ok).2.1
  rw [l35_PartialretroBridge_b9_eq]
  refine ⟨_, Blk.cellA kx 2, ?_⟩
  refine ⟨fun x h' => St hc h' 0 ∧ ∃ i : Nat, x.2.1 = i ∧ i ≤ m.length ∧ MaxOf y (fun d => ∃ q, q < i ∧ q < m.length ∧ (m.getD q evD).2.2 = false ∧ last < (m.getD q evD).1 ∧ ((m.getD q evD).2.1, (q : Int)) ∉ nowD m m.length ∧ d = (m.getD q evD).2.1) x.1, fun x _ => m.length - x.2.1.toNat, ⟨St.start hc, 0, rfl, by omega, Int.le_refl _, fun d ⟨q, hq, _⟩ => by omega, .inl rfl⟩, ?_⟩
  rintro ⟨best, _, _⟩ h1 ⟨s1, i, rfl, hin, hmax⟩
  dsimp only at hmax ⊢
  rw [l35_PartialretroBridge_b12_eq]
  refine condP (fun hlt2 => ?_) (fun hge => ?_)
  · have next : ∀ {h' : Hp} {best' : Int}, St hc h' 0 → MaxOf y (fun d => ∃ q, q < i + 1 ∧ q < m.length ∧ (m.getD q evD).2.2 = false ∧ last < (m.getD q evD).1 ∧ ((m.getD q evD).2.1, (q : Int)) ∉ nowD m m.length ∧ d = (m.getD q evD).2.1) best' →
        l35_PartialretroBridge_b14 (some ⟨b1, 0, none⟩) (some ⟨qb, 0, none⟩) kp (nowD m m.length).length kd tp (nowD m m.length).length td last best' mp m.length mc (m.length : Int) (i : Int) h' (fun s' h' => (St hc h' 0 ∧ ∃ i : Nat, s'.2.1 = i ∧ i ≤ m.length ∧ MaxOf y (fun d => ∃ q, q < i ∧ q < m.length ∧ (m.getD q evD).2.2 = false ∧ last < (m.getD q evD).1 ∧ ((m.getD q evD).2.1, (q : Int)) ∉ nowD m m.length ∧ d = (m.getD q evD).2.1) s'.1) ∧ m.length - s'.2.1.toNat < m.length - (i : Int).toNat) (fun v h' => v = .bool true ∧ Ext h h') := by
      intro h' best' s' hm'
      rw [l35_PartialretroBridge_b14_eq]
      exact ⟨⟨by omega, by omega⟩, ⟨s', i + 1, by simp only; omega, by omega, hm'⟩, by simp only; omega⟩
    have stay : ¬ ((m.getD i evD).2.2 = false ∧ last < (m.getD i evD).1 ∧ ((m.getD i evD).2.1, (i : Int)) ∉ nowD m m.length) → MaxOf y (fun d => ∃ q, q < i + 1 ∧ q < m.length ∧ (m.getD q evD).2.2 = false ∧ last < (m.getD q evD).1 ∧ ((m.getD q evD).2.1, (q : Int)) ∉ nowD m m.length ∧ d = (m.getD q evD).2.1) best := by
      intro hn
      obtain ⟨m1, m2, m3⟩ := hmax
      refine ⟨m1, fun d ⟨q, q1, q2, q3, q4, q5, q6⟩ => ?_, m3.imp id fun ⟨q, q1, q2⟩ => ⟨q, by omega, q2⟩⟩
      rcases Nat.lt_or_ge q i with h | h
      · exact m2 d ⟨q, h, q2, q3, q4, q5, q6⟩
      · obtain rfl : q = i := by omega
        exact absurd ⟨q3, q4, q5⟩ hn
    refine ev_load (rm.ext s1.ext) (by omega) (by omega) ?_
    rw [Int.toNat_natCast]
    refine s1.new (cs := [.int .i64 0, .int .i64 0, .bool false]) fun bx3 h3a _ s3a => ?_
    refine s3a.wr rfl (by simp) fun h3b s3b => ?_
    refine s3b.wr (o := 1) (add_mk _ _ _) (by simp) fun h3c s3c => ?_
    refine s3c.wr (o := 2) (add_mk _ _ _) (by simp) fun h3d s3d => ?_
    have s3d : St hc h3d (cA bx3 [.int .i64 (m.getD i evD).1, .int .i64 (m.getD i evD).2.1, .bool (m.getD i evD).2.2] 41 + 0) := s3d
    have k3 := s3d.blk
    have sd := s3d.drop
    refine ⟨_, Blk.cellA k3 2, cond_intro (fun hd => ?_) (fun hd => ?_)⟩
    · have hd : (m.getD i evD).2.2 = false := by simpa using hd
      refine ⟨_, k3.cell 0, condP (fun hla => ?_) (fun hla => ?_)⟩
      · refine ⟨_, k3.cell 0, ?_⟩
        refine (contains_ok (rT.ext sd.ext) (by omega) _).mono fun v2 h2 ⟨hv2, hh2⟩ => ⟨_, hv2, condN (fun hnot => ?_) (fun hyes => ?_)⟩
        · subst hh2
          have hnin : ((m.getD i evD).2.1, (i : Int)) ∉ nowD m m.length := fun h => hnot ((relT_at g rel (by omega)).2 h)
          refine ⟨_, Blk.cellA k3 1, next sd ?_⟩
          obtain ⟨m1, m2, m3⟩ := hmax
          refine ⟨?_, fun d ⟨q, q1, q2, q3, q4, q5, q6⟩ => ?_, ?_⟩
          · split <;> omega
          · rcases Nat.lt_or_ge q i with h | h
            · have := m2 d ⟨q, h, q2, q3, q4, q5, q6⟩
              split <;> omega
            · obtain rfl : q = i := by omega
              subst q6
              split <;> omega
          · split
            · exact .inr ⟨i, by omega, by omega, hd, hla, hnin, rfl⟩
            · exact m3.imp id fun ⟨q, q1, q2⟩ => ⟨q, by omega, q2⟩
        · subst hh2
          exact next sd (stay fun h => h.2.2 ((relT_at g rel (by omega)).1 hyes))
      · exact next sd (stay fun h => hla h.2.1)
    · exact next sd (stay fun h => by rw [h.1] at hd; cases hd)
  · obtain rfl : i = m.length := by omega
    obtain ⟨m1, m2, m3⟩ := hmax
    have hbest : MaxOf y (CandP m last) best := ⟨m1, fun d ⟨q, q1, q2⟩ => m2 d ⟨q, q1, q1, q2⟩, m3.imp id fun ⟨q, _, q2⟩ => ⟨q, q2⟩⟩
    exact bridge_b15 g hlt hno htt qa ka hky (tp := tp) (td := td) hb hbest ((s.join s1).to (B := A + (M + (K1 + (K2 + (K3 + (cA b1 [.int .i64 k, .int .i64 t, .int .i64 y, .int .i64 u, .slice xp xn xc] 27 + 0)))))))
omit ba in
/-- A deletion, to its end. -/
theorem bridge_b18 {c : Nat} (hbr : BrAt m (lowT t m) c) {ip : Option Addr} {id : Nat} {T : List Int} (rel : RelT m T (nowD m c)) {C : Bag} (ta : Sl TI ip (nowD m c).length id T C) (s : St h hc (A + (C + (M + (K1 + (K2 + (K3 + (cA b1 [.int .i64 k, .int .i64 t, .int .i64 y, .int .i64 u, .slice xp xn xc] 27 + 0)))))))) :
    l35_PartialretroBridge_b18 (some ⟨b1, 0, none⟩) (some ⟨qb, 0, none⟩) mp m.length mc kp (nowD m m.length).length kd ip (nowD m c).length id hc (fun v h' => v = .bool true ∧ Ext h h') := by
  have kx := (s.to (B := cA b1 [.int .i64 k, .int .i64 t, .int .i64 y, .int .i64 u, .slice xp xn xc] 27 + (A + (C + (M + (K1 + (K2 + (K3 + 0)))))))).blk
  obtain ⟨p1, p2, p3⟩ := lowT_place (t := t) g.times
  have hdel := bridge_del (x := (t, 0, true)) g rfl p1 hbr
  have hlen := putT_len (x := (t, 0, true)) (l := m)
  have hadd : delP m t = chgP m (putT (t, 0, true) m) := by
    rw [delP, addP, if_pos htt, if_neg (by rw [hno]; simp), if_neg (by omega)]
  have hng := delP_good (t := t) g
  rw [hadd] at hng
  have hcl := hbr.2.1
  have hTl := relT_len rel
  rw [l35_PartialretroBridge_b18_eq]
  refine ⟨_, Blk.cellA kx 1, ?_⟩
  refine (qdelete_ok (t := t) qa g.times g.len s).mono fun v1 h1 ⟨hv1, A1, qa1, s1⟩ => ⟨_, hv1, ?_⟩
  rw [hadd] at qa1 ⊢
  rcases hdel with ⟨d1, d2⟩ | ⟨e, us, B, d1, d2, d3⟩
  · have hch : chgP m (putT (t, 0, true) m) = (m, 14) := by
      rw [chgP, hlen, show nowAt (putT (t, 0, true) m) (m.length + 1) = none from d2]; rfl
    rw [hch]
    refine condYes (by rw [d1]; rfl) ⟨rfl, s1.ext⟩
  have hch : chgP m (putT (t, 0, true) m) = (putT (t, 0, true) m, 0) := by
    rw [chgP, hlen, show nowAt (putT (t, 0, true) m) (m.length + 1) = some B from d2]; rfl
  rw [hch] at qa1 hng ⊢
  have hng : GoodQ (putT (t, 0, true) m) := hng
  have qa1 : QueueA qb (putT (t, 0, true) m) A1 := qa1
  have hB : nowD (putT (t, 0, true) m) (putT (t, 0, true) m).length = B := by rw [hlen]; exact nowD_some d2
  have hcn : (nowD m c).length = us.length + 1 := by rw [d1]; rfl
  refine condNo (decide_eq_false (by omega)) (condNo rfl ?_)
  have hgood := goodAt g (i := c) hcl
  have hfrom := nowAt_from hcl hgood
  have hT := relT_has g.times rel hfrom
  have hnl := (nowAt_inv g.ok).2.1
  have hnc := (nowAt_inv hgood).2.1
  -- a key of those there
  have hkey : ∀ j, j < (nowD m c).length → ∃ x ∈ nowD m c, (m.getD (lowT (T.getD j 0) m) evD).2.1 = x.1 := by
    intro j hj
    obtain ⟨x, hx, hxe⟩ := (relT_mem rel).1 (getD_mem' (l := T) (i := j) (d := 0) (by omega))
    have h1 := hfrom x hx
    refine ⟨x, hx, ?_⟩
    rw [← hxe, (lowT_at g.times (by omega)).2, h1.2]
  have hmin : ∀ x ∈ nowD m c, e.1 ≤ x.1 := by
    intro x hx
    have hs := (nowAt_inv hgood).1
    rw [d1] at hx hs
    rcases List.mem_cons.1 hx with rfl | hx
    · exact Int.le_refl _
    · have := (List.pairwise_cons.1 hs).1 x hx
      unfold LtE at this; omega
  have hee : e ∈ nowD m c := by rw [d1]; exact List.mem_cons_self
  have hek : keyQ e.1 := by
    have h1 := hfrom e hee
    rw [← h1.2]
    exact (g.each _ (getD_mem' (by omega))).2
  have rT := ta.rd (s1.to (B := C + (A1 + (M + (K1 + (K2 + (K3 + (cA b1 [.int .i64 k, .int .i64 t, .int .i64 y, .int .i64 u, .slice xp xn xc] 27 + 0))))))))
  have rm := ma.rd (s1.to (B := M + (A1 + (C + (K1 + (K2 + (K3 + (cA b1 [.int .i64 k, .int .i64 t, .int .i64 y, .int .i64 u, .slice xp xn xc] 27 + 0))))))))
  refine ⟨fun x h' => h' = h1 ∧ ∃ i : Nat, x.2.1 = i ∧ i ≤ (nowD m c).length ∧ (∀ j, j < i → x.1 ≤ (m.getD (lowT (T.getD j 0) m) evD).2.1) ∧ (x.1 = 1048577 ∨ ∃ j, j < i ∧ x.1 = (m.getD (lowT (T.getD j 0) m) evD).2.1), fun x _ => (nowD m c).length - x.2.1.toNat, ⟨rfl, 0, rfl, by omega, fun j hj => by omega, .inl rfl⟩, ?_⟩
  rintro ⟨least, _, _⟩ h2 ⟨rfl, i, rfl, hin, hlo, hor⟩
  dsimp only at hlo hor ⊢
  rw [l35_PartialretroBridge_b19_eq]
  refine condP (fun hlt2 => ?_) (fun hge => ?_)
  · refine rT.int (by omega) (by omega) ?_
    rw [Int.toNat_natCast]
    have hti := hT _ (getD_mem' (l := T) (i := i) (d := 0) (by omega))
    refine (rFind_ok (c := mc) rm g.times g.len _).mono fun v2 h3 ⟨hv2, hh⟩ => ⟨_, hv2, ?_⟩
    subst hh
    rw [fT, if_pos hti]
    have hlt3 := (of_decide_eq_true hti).1
    refine rm.idx (by omega) (by omega) fun a _ hcl => ⟨(m.getD (lowT (T.getD i 0) m) evD).2.1, hcl 1 (show 1 < 3 by decide), ?_⟩
    rw [l35_PartialretroBridge_b20_eq]
    refine ⟨⟨by omega, by omega⟩, ⟨rfl, i + 1, by simp only; omega, by omega, fun j hj => ?_, ?_⟩, by simp only; omega⟩
    · rcases Nat.lt_or_ge j i with h | h
      · have := hlo j h
        simp only; split <;> omega
      · obtain rfl : j = i := by omega
        simp only; split <;> omega
    · simp only; split
      · exact .inr ⟨i, by omega, rfl⟩
      · exact hor.imp (fun h => h) fun ⟨j, j1, j2⟩ => ⟨j, by omega, j2⟩
  · obtain rfl : i = (nowD m c).length := by omega
    have hleast : least = e.1 := by
      obtain ⟨j0, hj0, hj1⟩ := List.mem_iff_getElem.1 ((relT_mem rel).2 ⟨e, hee, rfl⟩)
      have h1 := hlo j0 (by omega)
      have hfe := hfrom e hee
      rw [getD_get hj0, hj1, (lowT_at g.times (by omega)).2, hfe.2] at h1
      have h2 : e.1 ≤ 1048576 := hek.2
      rcases hor with h3 | ⟨j, hj, h3⟩
      · omega
      · obtain ⟨x, hx, hxe⟩ := hkey j hj
        have := hmin x hx
        omega
    subst hleast
    rw [l35_PartialretroBridge_b21_eq]
    have rK := ka.rd (s1.to (B := K1 + (A1 + (C + (M + (K2 + (K3 + (cA b1 [.int .i64 k, .int .i64 t, .int .i64 y, .int .i64 u, .slice xp xn xc] 27 + 0))))))))
    have sK := keysL_srt (nowAt_inv g.ok).1
    have sB := keysL_srt (nowAt_inv hng.ok).1
    rw [hB] at sB
    have lb := isLb_of (key := e.1) sK
    generalize ((keysL (nowD m m.length)).takeWhile fun z => decide (z < e.1)).length = i at lb
    have hkl : (keysL (nowD m m.length)).length = (nowD m m.length).length := List.length_map ..
    obtain ⟨w1, w2, w3⟩ := key_goes sK sB d3 lb
    refine (searchLb_ok rK (by omega) lb).mono fun v2 h3 ⟨hv2, hh2⟩ => ⟨_, _, hv2, condYes (decide_eq_true ⟨by omega, w2⟩) ?_⟩
    subst hh2
    refine (qkeys_ok qa1 hng.len s1).mono fun v3 h4 ⟨q3, d3, B3, hv3, o3, t3⟩ => ⟨_, _, _, hv3, ?_⟩
    have s3 := s1.join t3
    refine (cloneI_st (rK.ext t3.ext) (by omega)).mono fun v4 h5 ⟨q4, d4, B4, hv4, o4, t4⟩ => ⟨_, _, _, hv4, ⟨by omega, by omega⟩, ?_⟩
    have s4 := s3.join t4
    refine (deleteI_st (i := i) s4 o4 (by omega) rfl (by omega)).mono fun v5 h6 ⟨B5, hv5, o5, s5⟩ => ⟨_, _, _, hv5, ?_⟩
    have hnl2 := (nowAt_inv hng.ok).2.1
    have o3 : Sl TI q3 (nowD (putT (t, 0, true) m) (putT (t, 0, true) m).length).length d3 (keysL B) B3 := by
      have := o3
      rw [hB] at this ⊢
      exact this
    have o3' := o3.rd (s5.to (B := B3 + (B5 + (A1 + (C + (M + (K1 + (K2 + (K3 + (cA b1 [.int .i64 k, .int .i64 t, .int .i64 y, .int .i64 u, .slice xp xn xc] 27 + 0))))))))))
    refine (eqI_ok o3' (o5.rd s5) (by omega)).mono fun v7 h7 ⟨hh7, hv7⟩ => ⟨_, hv7, by rw [decide_eq_true w3], ?_⟩
    subst hh7
    exact s5.ext
/-- What a deletion is told by. -/
def FirstBr (m : List Ev) (p c : Nat) : Prop := c ≤ m.length ∧ ((∃ i, p ≤ i ∧ c = i + 1 ∧ isBr m i ∧ ∀ j, p ≤ j → j < i → ¬ isBr m j) ∨ (c = m.length ∧ ∀ j, p ≤ j → j < m.length → ¬ isBr m j))
omit ba ka ma qa htt hno hlt g in
theorem brAt_of {p c : Nat} (hf : FirstBr m p c) (hp0 : 0 < p) (hp : p ≤ m.length) (hnb : ¬ isBr m (p - 1)) : BrAt m p c := by
  obtain ⟨f1, ⟨i, f2, rfl, f3, f4⟩ | ⟨rfl, f2⟩⟩ := hf
  · refine ⟨by omega, f1, f3, fun j j1 j2 hj => ?_⟩
    rcases Nat.eq_or_lt_of_le j1 with rfl | h
    · exact hnb (by unfold isBr; rw [show p - 1 + 1 = p by omega]; exact hj)
    · exact f4 (j - 1) (by omega) (by omega) (by unfold isBr; rw [show j - 1 + 1 = j by omega]; exact hj)
  · have : p = m.length := by
      rcases Nat.lt_or_ge p m.length with h | h
      · exact absurd (br_last (l := m) (i := m.length - 1) (by omega)) (f2 _ (by omega) (by omega))
      · omega
    exact ⟨by omega, Nat.le_refl _, fun e he => he, fun j j1 j2 => by omega⟩
/-- A deletion: what comes before it. -/
theorem bridge_b10 {c : Nat} (hf : FirstBr m (lowT t m) c) {ip : Option Addr} {id : Nat} {T : List Int} (rel : RelT m T (nowD m c)) {C : Bag} (ta : Sl TI ip (nowD m c).length id T C) (s : St h hc (A + (C + (M + (K1 + (K2 + (K3 + (cA b1 [.int .i64 k, .int .i64 t, .int .i64 y, .int .i64 u, .slice xp xn xc] 27 + 0)))))))) :
    l35_PartialretroBridge_b10 (some ⟨b1, 0, none⟩) (some ⟨qb, 0, none⟩) mp m.length mc kp (nowD m m.length).length kd bp (brS m).length bd ip (nowD m c).length id hc (fun v h' => v = .bool true ∧ Ext h h') := by
  have kx := (s.to (B := cA b1 [.int .i64 k, .int .i64 t, .int .i64 y, .int .i64 u, .slice xp xn xc] 27 + (A + (C + (M + (K1 + (K2 + (K3 + 0)))))))).blk
  have rm := ma.rd (s.to (B := M + (A + (C + (K1 + (K2 + (K3 + (cA b1 [.int .i64 k, .int .i64 t, .int .i64 y, .int .i64 u, .slice xp xn xc] 27 + 0))))))))
  have rB := ba.rd (s.to (B := K2 + (A + (C + (M + (K1 + (K3 + (cA b1 [.int .i64 k, .int .i64 t, .int .i64 y, .int .i64 u, .slice xp xn xc] 27 + 0))))))))
  obtain ⟨p1, p2, p3⟩ := lowT_place (t := t) g.times
  have hbl : (brS m).length ≤ m.length := brP_len
  rw [l35_PartialretroBridge_b10_eq]
  refine ⟨_, Blk.cellA kx 1, (rFind_ok (c := mc) rm g.times g.len t).mono fun v1 h1 ⟨hv1, hh1⟩ => ⟨_, hv1, ?_⟩⟩
  subst hh1
  rw [fT, if_neg (by rw [hno]; simp)]
  refine condNo rfl ?_
  refine ⟨fun x h' => St h1 h' 0 ∧ ∃ i : Nat, x.2.1 = i ∧ i ≤ m.length ∧ x.1 = ((min i (lowT t m) : Nat) : Int) - 1, fun x _ => m.length - x.2.1.toNat, ⟨St.start h1, 0, rfl, by omega, by rw [Nat.zero_min]; rfl⟩, ?_⟩
  rintro ⟨_, _, _⟩ h2 ⟨s2, i, rfl, hin, rfl⟩
  dsimp only
  rw [l35_PartialretroBridge_b13_eq]
  refine condP (fun hlt2 => ?_) (fun hge => ?_)
  · refine ev_load (rm.ext s2.ext) (by omega) (by omega) ?_
    rw [Int.toNat_natCast]
    refine s2.new (cs := [.int .i64 0, .int .i64 0, .bool false]) fun bx h3 _ s3 => ?_
    refine s3.wr rfl (by simp) fun h4 s4 => ?_
    refine s4.wr (o := 1) (add_mk _ _ _) (by simp) fun h5 s5 => ?_
    refine s5.wr (o := 2) (add_mk _ _ _) (by simp) fun h6 s6 => ?_
    refine ⟨_, s6.blk.cell 0, _, s6.ext.cell (Blk.cellA kx 1), condP (fun hl => ?_) (fun hl => ?_)⟩
    · have hip : i < lowT t m := by
        rcases Nat.lt_or_ge i (lowT t m) with h | h
        · exact h
        · have := p3 i h (by omega); omega
      rw [l35_PartialretroBridge_b16_eq]
      exact ⟨⟨by omega, by omega⟩, ⟨s6.drop, i + 1, by simp only; omega, by omega, by simp only; omega⟩, by simp only; omega⟩
    · have hip : lowT t m ≤ i := by
        rcases Nat.lt_or_ge i (lowT t m) with h | h
        · have := p2 i h; omega
        · exact h
      rw [l35_PartialretroBridge_b16_eq]
      exact ⟨⟨by omega, by omega⟩, ⟨s6.drop, i + 1, by simp only; omega, by omega, by simp only; omega⟩, by simp only; omega⟩
  · obtain rfl : i = m.length := by omega
    have hmin : min m.length (lowT t m) = lowT t m := by omega
    rw [hmin, l35_PartialretroBridge_b17_eq]
    have s2' : St h h2 (A + (C + (M + (K1 + (K2 + (K3 + (cA b1 [.int .i64 k, .int .i64 t, .int .i64 y, .int .i64 u, .slice xp xn xc] 27 + 0))))))) := by
      have := s.join s2
      rwa [Bag.zero_add] at this
    have kx := kx.ext s2.ext
    refine condP (fun hneg => ?_) (fun hpos => ?_)
    · have h0 : lowT t m = 0 := by omega
      have hdel := bridge_del (x := (t, 0, true)) g rfl p1 (c := 0) ⟨by omega, by omega, fun e he => (nomatch he), fun j j1 j2 => by omega⟩
      have hlen := putT_len (x := (t, 0, true)) (l := m)
      have hch : delP m t = (m, 14) := by
        rw [delP, addP, if_pos htt, if_neg (by rw [hno]; simp), if_neg (by omega), chgP]
        rcases hdel with ⟨_, d2⟩ | ⟨e, us, B, d1, _⟩
        · rw [hlen, show nowAt (putT (t, 0, true) m) (m.length + 1) = none from d2]; rfl
        · cases d1
      refine ⟨_, Blk.cellA kx 1, (qdelete_ok (t := t) qa g.times g.len s2').mono fun v3 h3 ⟨hv3, A3, qa3, s3⟩ => ⟨_, hv3, ?_, s3.ext⟩⟩
      rw [hch]
      rfl
    · have e1 : Int.toNat ((lowT t m : Int) - 1) = lowT t m - 1 := by omega
      refine (rm.ext s2.ext).idx (by omega) (by omega) fun a _ hcl => ⟨(m.getD (lowT t m - 1) evD).1, ?_, ?_⟩
      · have := hcl 0 (show 0 < 3 by decide); rw [e1] at this ⊢; exact this
      refine (contains_ok (rB.ext s2.ext) (by omega) _).mono fun v3 h3 ⟨hv3, hh3⟩ => ⟨_, hv3, condP (fun hyes => ?_) (fun hnot => ?_)⟩
      · subst hh3
        have hbr := (isBr_mem g.times (by omega)).1 hyes
        refine ⟨⟨by omega, by omega⟩, ?_⟩
        rw [show ((lowT t m : Int) - 1 + 1) = ((lowT t m : Nat) : Int) by omega]
        refine (after_ok (c := mc) (m := lowT t m) (rm.ext s2.ext) g.times g.len ma.cap p1).mono fun v4 h4 hv4 => ?_
        rcases hv4 with ⟨hn0, _, _⟩ | ⟨now', q', d', T', C', hn', hv4, rel', o', t4⟩
        · rw [goodAt g p1] at hn0; cases hn0
        rw [goodAt g p1] at hn'
        cases hn'
        refine ⟨_, _, _, _, hv4, ?_⟩
        have s4 := s2'.join t4
        have hb : BrAt m (lowT t m) (lowT t m) := ⟨Nat.le_refl _, p1, by unfold isBr at hbr; rw [show lowT t m - 1 + 1 = lowT t m by omega] at hbr; exact hbr, fun j j1 j2 => by omega⟩
        exact bridge_b18 (K3 := K3 + C) g hlt hno htt qa ma ka hb rel' o' (s4.to (B := A + (C' + (M + (K1 + (K2 + (K3 + C + (cA b1 [.int .i64 k, .int .i64 t, .int .i64 y, .int .i64 u, .slice xp xn xc] 27 + 0))))))))
      · subst hh3
        have hb := brAt_of hf (by omega) p1 (fun h => hnot ((isBr_mem g.times (by omega)).2 h))
        exact bridge_b18 g hlt hno htt qa ma ka hb rel ta s2'
/-- A deletion: the first bridge after its time. -/
theorem bridge_del_ok {tp : Option Addr} {td : Nat} {T : List Int} (rel : RelT m T (nowD m m.length)) (ta : Sl TI tp (nowD m m.length).length td T K3) (s : St h hc (A + (M + (K1 + (K2 + (K3 + (cA b1 [.int .i64 k, .int .i64 t, .int .i64 y, .int .i64 u, .slice xp xn xc] 27 + 0))))))) {K : Value → Hp → Prop} (hK : K = (fun v h' => v = .bool true ∧ Ext h h')) :
    LoopVC (((tp, (nowD m m.length).length, td), 0, ()) : (Option Addr × Nat × Nat) × Int × Unit) hc (fun (nx0 : (Option Addr × Nat × Nat) × Int × Unit → Hp → Prop) (s3 : (Option Addr × Nat × Nat) × Int × Unit) h24 => l35_PartialretroBridge_b7 s3.1.1 s3.1.2.1 s3.1.2.2 s3.2.1 (some ⟨b1, 0, none⟩) (some ⟨qb, 0, none⟩) mp m.length mc kp (nowD m m.length).length kd bp (brS m).length bd mp m.length mc (m.length : Int) h24 nx0 K) := by
  subst hK
  have kx := (s.to (B := cA b1 [.int .i64 k, .int .i64 t, .int .i64 y, .int .i64 u, .slice xp xn xc] 27 + (A + (M + (K1 + (K2 + (K3 + 0))))))).blk
  have rm := ma.rd (s.to (B := M + (A + (K1 + (K2 + (K3 + (cA b1 [.int .i64 k, .int .i64 t, .int .i64 y, .int .i64 u, .slice xp xn xc] 27 + 0)))))))
  have rB := ba.rd (s.to (B := K2 + (A + (M + (K1 + (K3 + (cA b1 [.int .i64 k, .int .i64 t, .int .i64 y, .int .i64 u, .slice xp xn xc] 27 + 0)))))))
  obtain ⟨p1, p2, p3⟩ := lowT_place (t := t) g.times
  have hbl : (brS m).length ≤ m.length := brP_len
  refine ⟨fun x h' => St hc h' 0 ∧ x.1 = (tp, (nowD m m.length).length, td) ∧ ∃ i : Nat, x.2.1 = i ∧ i ≤ m.length ∧ ∀ j, lowT t m ≤ j → j < i → ¬ isBr m j, fun x _ => m.length - x.2.1.toNat, ⟨St.start hc, rfl, 0, rfl, by omega, fun j j1 j2 => by omega⟩, ?_⟩
  rintro ⟨_, _, _⟩ h2 ⟨s2, rfl, i, rfl, hin, hall⟩
  dsimp only
  have s2' : St h h2 (A + (M + (K1 + (K2 + (K3 + (cA b1 [.int .i64 k, .int .i64 t, .int .i64 y, .int .i64 u, .slice xp xn xc] 27 + 0)))))) := by
    have := s.join s2
    rwa [Bag.zero_add] at this
  rw [l35_PartialretroBridge_b7_eq]
  refine condP (fun hlt2 => ?_) (fun hge => ?_)
  · have next : ∀ {h' : Hp}, St hc h' 0 → (lowT t m ≤ i → ¬ isBr m i) → l35_PartialretroBridge_b11 (some ⟨b1, 0, none⟩) (some ⟨qb, 0, none⟩) mp m.length mc kp (nowD m m.length).length kd bp (brS m).length bd tp (nowD m m.length).length td mp m.length mc (m.length : Int) (i : Int) h' (fun s' h' => (St hc h' 0 ∧ s'.1 = (tp, (nowD m m.length).length, td) ∧ ∃ i : Nat, s'.2.1 = i ∧ i ≤ m.length ∧ ∀ j, lowT t m ≤ j → j < i → ¬ isBr m j) ∧ m.length - s'.2.1.toNat < m.length - (i : Int).toNat) (fun v h' => v = .bool true ∧ Ext h h') := by
      intro h' s' hnb
      rw [l35_PartialretroBridge_b11_eq]
      refine ⟨⟨by omega, by omega⟩, ⟨s', rfl, i + 1, by simp only; omega, by omega, fun j j1 j2 => ?_⟩, by simp only; omega⟩
      rcases Nat.lt_or_ge j i with h | h
      · exact hall j j1 h
      · obtain rfl : j = i := by omega
        exact hnb j1
    refine ev_load (rm.ext s2.ext) (by omega) (by omega) ?_
    rw [Int.toNat_natCast]
    refine s2.new (cs := [.int .i64 0, .int .i64 0, .bool false]) fun bx h3 _ s3 => ?_
    refine s3.wr rfl (by simp) fun h4 s4 => ?_
    refine s4.wr (o := 1) (add_mk _ _ _) (by simp) fun h5 s5 => ?_
    refine s5.wr (o := 2) (add_mk _ _ _) (by simp) fun h6 s6 => ?_
    refine ⟨_, s6.blk.cell 0, _, s6.ext.cell (Blk.cellA kx 1), condP (fun hl => ?_) (fun hl => ?_)⟩
    · have hip : lowT t m ≤ i := by
        rcases Nat.lt_or_ge i (lowT t m) with h | h
        · have := p2 i h; omega
        · exact h
      refine ⟨_, s6.blk.cell 0, ?_⟩
      refine (contains_ok (rB.ext s6.ext) (by omega) _).mono fun v3 h7 ⟨hv3, hh3⟩ => ⟨_, hv3, condP (fun hyes => ?_) (fun hnot => ?_)⟩
      · subst hh3
        have hbr := (isBr_mem g.times (by omega)).1 hyes
        refine ⟨⟨by omega, by omega⟩, ?_⟩
        have s6d := s6.drop
        have s7 : St h h7 (A + (M + (K1 + (K2 + (K3 + (cA b1 [.int .i64 k, .int .i64 t, .int .i64 y, .int .i64 u, .slice xp xn xc] 27 + 0)))))) := by
          have := s.join s6d
          rwa [Bag.zero_add] at this
        refine (after_ok (c := mc) (m := i + 1) (rm.ext s6.ext) g.times g.len ma.cap (by omega)).mono fun v4 h8 hv4 => ?_
        rcases hv4 with ⟨hn0, _, _⟩ | ⟨now', q', d', T', C', hn', hv4, rel', o', t4⟩
        · rw [goodAt g (by omega)] at hn0; cases hn0
        rw [goodAt g (by omega)] at hn'
        cases hn'
        refine ⟨_, _, _, _, hv4, ?_⟩
        have s8 := s7.join t4
        exact bridge_b10 g hlt hno htt qa ma ka ba (c := i + 1) ⟨by omega, .inl ⟨i, hip, rfl, hbr, hall⟩⟩ rel' o' (s8.to (B := A + (C' + (M + (K1 + (K2 + (K3 + (cA b1 [.int .i64 k, .int .i64 t, .int .i64 y, .int .i64 u, .slice xp xn xc] 27 + 0))))))))
      · subst hh3
        exact next s6.drop fun _ h => hnot ((isBr_mem g.times (by omega)).2 h)
    · refine next s6.drop fun hip => ?_
      have := p3 i hip (by omega)
      have hne : (m.getD i evD).1 ≠ t := fun h => by
        have := (hasT_iff g.times).2 ⟨_, getD_mem' (l := m) (i := i) (d := evD) (by omega), h⟩
        rw [hno] at this; cases this
      omega
  · obtain rfl : i = m.length := by omega
    exact bridge_b10 (K3 := 0) g hlt hno htt qa ma ka ba (c := m.length) ⟨Nat.le_refl _, .inr ⟨rfl, hall⟩⟩ rel ta (s2'.to (B := A + (K3 + (M + (K1 + (K2 + (0 + (cA b1 [.int .i64 k, .int .i64 t, .int .i64 y, .int .i64 u, .slice xp xn xc] 27 + 0))))))))
end
/-- From the loop's end on. -/
theorem bridge_b4_ok {h hc : Hp} {b1 qb : Nat} {k t y u : Int} {xp : Option Addr} {xn xc : Nat} {m : List Ev} {mp : Option Addr} {mc : Nat} {A M : Bag} (g : GoodQ m) (htt : timeP t) (hky : keyQ y) (qa : QueueA qb m A) (ma : Sl TV mp m.length mc m M) (s : St h hc (A + (M + (cA b1 [.int .i64 k, .int .i64 t, .int .i64 y, .int .i64 u, .slice xp xn xc] 27 + 0)))) :
    l35_PartialretroBridge_b4 (some ⟨b1, 0, none⟩) (some ⟨qb, 0, none⟩) mp m.length mc hc (fun v h' => v = .bool true ∧ Ext h h') := by
  have kx := (s.to (B := cA b1 [.int .i64 k, .int .i64 t, .int .i64 y, .int .i64 u, .slice xp xn xc] 27 + (A + (M + 0)))).blk
  have hl := g.len
  have hbl : (brS m).length ≤ m.length := brP_len
  have hnl := (nowAt_inv g.ok).2.1
  rw [l35_PartialretroBridge_b4_eq]
  refine ⟨_, Blk.cellA kx 1, (rFind_ok (c := mc) (ma.rd (s.to (B := M + (A + (cA b1 [.int .i64 k, .int .i64 t, .int .i64 y, .int .i64 u, .slice xp xn xc] 27 + 0))))) g.times g.len t).mono fun v1 h1 ⟨hv1, hh1⟩ => ⟨_, hv1, ?_⟩⟩
  subst hh1
  by_cases hf : hasT t m = true
  · rw [fT, if_pos hf]
    exact condYes (decide_eq_true (by omega)) ⟨rfl, s.ext⟩
  have hno : hasT t m = false := by simpa using hf
  rw [fT, if_neg hf]
  refine condNo rfl (condP (fun hfull => ⟨rfl, s.ext⟩) (fun hfull => ?_))
  have hlt : m.length < 2000 := by omega
  rw [l35_PartialretroBridge_b5_eq]
  refine (qkeys_ok qa hl s).mono fun v2 h2 ⟨kp, kd, K1, hv2, ka, t2⟩ => ⟨_, _, _, hv2, ?_⟩
  have s2 := (s.join t2).to (B := A + (K1 + (M + (cA b1 [.int .i64 k, .int .i64 t, .int .i64 y, .int .i64 u, .slice xp xn xc] 27 + 0))))
  refine (qbridges_ok qa hl s2).mono fun v3 h3 ⟨bp, bd, K2, hv3, ba, t3⟩ => ⟨_, _, _, hv3, ?_⟩
  have s3 := (s2.join t3).to (B := M + (A + (K1 + (K2 + (cA b1 [.int .i64 k, .int .i64 t, .int .i64 y, .int .i64 u, .slice xp xn xc] 27 + 0)))))
  refine (after_ok (c := mc) (ma.rd s3) g.times hl ma.cap (Nat.le_refl _)).mono fun v4 h4 hv4 => ?_
  rcases hv4 with ⟨hn0, _, _⟩ | ⟨now', tp, td, T, K3, hn', hv4, rel, ta, t4⟩
  · rw [g.ok] at hn0; cases hn0
  rw [g.ok] at hn'
  cases hn'
  refine ⟨_, _, _, _, hv4, ?_⟩
  have s4 := (s3.join t4).to (B := A + (M + (K1 + (K2 + (K3 + (cA b1 [.int .i64 k, .int .i64 t, .int .i64 y, .int .i64 u, .slice xp xn xc] 27 + 0))))))
  have kx := (s4.to (B := cA b1 [.int .i64 k, .int .i64 t, .int .i64 y, .int .i64 u, .slice xp xn xc] 27 + (A + (M + (K1 + (K2 + (K3 + 0))))))).blk
  have rB := ba.rd (s4.to (B := K2 + (A + (M + (K1 + (K3 + (cA b1 [.int .i64 k, .int .i64 t, .int .i64 y, .int .i64 u, .slice xp xn xc] 27 + 0)))))))
  refine ⟨_, kx.cell 0, condP (fun hk => ?_) (fun hk => ?_)⟩
  · refine ⟨fun x h' => h' = h4 ∧ ∃ i : Nat, x.2.1 = i ∧ i ≤ (brS m).length ∧ (∀ b ∈ (brS m).take i, b < t → b ≤ x.1) ∧ (x.1 = -1 ∨ (x.1 ∈ brS m ∧ x.1 < t)), fun x _ => (brS m).length - x.2.1.toNat, ⟨rfl, 0, rfl, by omega, by simp, .inl rfl⟩, ?_⟩
    rintro ⟨last, _, _⟩ h5 ⟨rfl, i, rfl, hin, hall, hor⟩
    dsimp only at hall hor ⊢
    rw [l35_PartialretroBridge_b6_eq]
    refine condP (fun hlt2 => ?_) (fun hge => ?_)
    · refine rB.int (by omega) (by omega) ⟨_, Blk.cellA kx 1, ?_⟩
      rw [Int.toNat_natCast]
      have htake : (brS m).take (i + 1) = (brS m).take i ++ [(brS m).getD i 0] := by rw [List.take_succ_eq_append_getElem (by omega), getD_get (by omega)]
      have hmem : (brS m).getD i 0 ∈ brS m := getD_mem' (by omega)
      refine condP (fun hl1 => ?_) (fun hl1 => ?_)
      · rw [l35_PartialretroBridge_b8_eq]
        refine ⟨⟨by omega, by omega⟩, ⟨rfl, i + 1, by simp only; omega, by omega, fun b hb hbt => ?_, .inr ⟨hmem, hl1⟩⟩, by simp only; omega⟩
        rw [htake] at hb
        rcases List.mem_append.1 hb with hb | hb
        · obtain ⟨j, hj, rfl⟩ := List.mem_iff_getElem.1 hb
          rw [List.length_take] at hj
          rw [List.getElem_take]
          have := List.pairwise_iff_getElem.1 (brS_srt g.times) j i (by omega) (by omega) (by omega)
          rw [getD_get (by omega)]
          simp only
          omega
        · rw [List.mem_singleton] at hb; rw [hb]; exact Int.le_refl _
      · rw [l35_PartialretroBridge_b8_eq]
        refine ⟨⟨by omega, by omega⟩, ⟨rfl, i + 1, by simp only; omega, by omega, fun b hb hbt => ?_, hor⟩, by simp only; omega⟩
        rw [htake] at hb
        rcases List.mem_append.1 hb with hb | hb
        · exact hall b hb hbt
        · rw [List.mem_singleton] at hb; rw [hb] at hbt; exact absurd hbt hl1
    · obtain rfl : i = (brS m).length := by omega
      rw [List.take_of_length_le (Nat.le_refl _)] at hall
      exact bridge_b9 g hlt hno htt qa ma ka hky rel ta ⟨hall, hor⟩ s4
  · exact bridge_del_ok g hlt hno htt qa ma ka ba rel ta s4 rfl
theorem bridge_law {h : Hp} {p : Option Addr} {n c : Nat} {l : List S5} {k t y u : Int} {xp : Option Addr} {xn xc : Nat} (r : RdT tS5 h p n l) :
    HCalls Tryz.prog 3 #[.slice p n c, .agg #[.int .i64 k, .int .i64 t, .int .i64 y, .int .i64 u, .slice xp xn xc]] h (fun v h' => v = .bool true ∧ Ext h h') := by
  have hlen := r.len
  refine l35_PartialretroBridge_call ?_
  rw [l35_PartialretroBridge_b0_eq]
  refine (St.start h).new (cs := [.int .i64 k, .int .i64 t, .int .i64 y, .int .i64 u, .slice xp xn xc]) fun b1 h1 x1 s1 => ?_
  refine (awake_ok h1).mono fun v1 h2 ⟨hv1, x2⟩ => ⟨_, hv1, condNo rfl ?_⟩
  have s2 := s1.grow x2
  refine (few_ok (r.ext s2.ext)).mono fun v3 h3 ⟨x3, b, hv3, hb⟩ => ⟨_, hv3, cond_intro (fun hf => ?_) (fun hf => ?_)⟩
  · exact (awake_ok h3).mono fun v2 h4 ⟨hv2, x4⟩ => ⟨_, hv2, rfl, (s2.ext.trans x3).trans x4⟩
  have hn := (hb (by simpa using hf)).1
  have s3 := s2.grow x3
  refine ⟨_, Blk.cellA s3.blk 1, (rTime_ok t h3).mono fun v4 h4 ⟨hv4, hh4⟩ => ⟨_, hv4, condN (fun hno => ?_) (fun htt => ?_)⟩⟩
  · subst hh4
    exact (awake_ok h4).mono fun v2 h5 ⟨hv2, x5⟩ => ⟨_, hv2, rfl, s3.ext.trans x5⟩
  subst hh4
  refine ⟨_, Blk.cellA s3.blk 2, (rKey_ok y h4).mono fun v5 h5 ⟨hv5, hh5⟩ => ⟨_, hv5, condN (fun hno => ?_) (fun hky => ?_)⟩⟩
  · subst hh5
    exact (awake_ok h5).mono fun v2 h6 ⟨hv2, x6⟩ => ⟨_, hv2, rfl, s3.ext.trans x6⟩
  subst hh5
  rw [l35_PartialretroBridge_b1_eq]
  refine (newQueue_ok h5).mono fun v6 h6 ⟨qb, A0, hv6, q0, t6⟩ => ⟨_, hv6, ?_⟩
  have s6 := (s3.join t6).to (B := A0 + (0 + (cA b1 [.int .i64 k, .int .i64 t, .int .i64 y, .int .i64 u, .slice xp xn xc] 27 + 0)))
  refine ⟨fun x h' => ∃ (i : Nat) (l' : List Ev) (A M : Bag), x.2.1 = i ∧ i ≤ n ∧ x.1.2.1 = l'.length ∧ QueueA qb l' A ∧ GoodQ l' ∧ Sl TV x.1.1 l'.length x.1.2.2 l' M ∧ St h h' (A + (M + (cA b1 [.int .i64 k, .int .i64 t, .int .i64 y, .int .i64 u, .slice xp xn xc] 27 + 0))), fun x _ => n - x.2.1.toNat, ⟨0, [], A0, 0, rfl, by omega, rfl, q0, goodQ_nil, Sl.nil, s6⟩, ?_⟩
  rintro ⟨⟨mp, mn, mc⟩, _, _⟩ h7 ⟨i, m, A, M, rfl, hin, hmn, qa, g, ma, s7⟩
  dsimp only at hmn ma ⊢
  subst hmn
  rw [l35_PartialretroBridge_b2_eq]
  refine condP (fun hlt => ?_) (fun hge => ?_)
  · refine s5_load (r.ext s7.ext) (by omega) (by omega) ?_
    rw [Int.toNat_natCast]
    generalize l.getD i tS5.d = st
    obtain ⟨k', t', y', u', ap, an, ac⟩ := st
    dsimp only
    refine s7.new (cs := [.int .i64 0, .int .i64 0, .int .i64 0, .int .i64 0, .slice none 0 0]) fun b3 h9 _ s9 => ?_
    refine s9.wr rfl (by simp) fun h10 s10 => ?_
    refine s10.wr (o := 1) (add_mk _ _ _) (by simp) fun h11 s11 => ?_
    refine s11.wr (o := 2) (add_mk _ _ _) (by simp) fun h12 s12 => ?_
    refine s12.wr (o := 3) (add_mk _ _ _) (by simp) fun h13 s13 => ?_
    refine s13.wr (o := 4) (add_mk _ _ _) (by simp) fun h14 s14 => ?_
    refine ⟨_, _, _, _, _, _, _, s14.blk.cell 0, Blk.cellA s14.blk 1, Blk.cellA s14.blk 2, Blk.cellA s14.blk 3, Blk.cellA s14.blk 4, ?_⟩
    have s14 := s14.drop
    refine (queue_ok qa g ma g k' t' y' u' ap an ac s14).mono fun v8 h15 ⟨p8, c8, M8, A8, hv8, qa8, ma8, s15⟩ => ⟨_, _, _, _, hv8, ?_⟩
    rw [l35_PartialretroBridge_b3_eq]
    exact ⟨⟨by omega, by omega⟩, ⟨i + 1, _, A8, M8, by simp only; omega, by omega, rfl, qa8, stepQ_good g k' t' y', ma8, s15⟩, by simp only; omega⟩
  · exact bridge_b4_ok g htt hky qa ma s7
end Go.Proofs.YtdlkohenamlnaaaGreat
