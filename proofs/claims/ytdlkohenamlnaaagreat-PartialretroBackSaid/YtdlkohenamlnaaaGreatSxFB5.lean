/- Part Q9 Q10 Q11 R1 FB4 Q12 FB5 of the proof: contracts of functions of the program, and what follows from them. -/
import Derived.Test.YtdlkohenamlnaaaGreatSxQ8
import Derived.Test.YtdlkohenamlnaaaGreatSxM2
import Derived.Deep.Slices
import Derived.OpenShut
import Derived.Test.YtdlkohenamlnaaaGreatRows
import Derived.WalkKit
import Derived.ProofKit
import Derived.ShutString
import Derived.ChangeOld
import Derived.Below
import Derived.ChangeMaps5
import Derived.Deep.Grids
/- A log in the past: Add; comparing lists; the law's small functions. -/
set_option maxRecDepth 100000
namespace Go.Proofs.YtdlkohenamlnaaaGreat
open Go Go.Sx
section
variable {h0 h : Hp} {k : Int} {gb : Nat} {L : LogS} {runF : List OpL → List (List Int) × List ResL} {A G : Bag}
theorem opv_len {k c : Int} {zs : List Int} (hv : OpV k c zs) : zs.length ≤ 64 := by
  have h4 := arT_le k (c - 1).toNat
  have := hv.2
  split at this
  · omega
  · omega
theorem ladd_ok (hk : 1 ≤ k ∧ k ≤ 6) (hR : RunOk k runF) (la : LogA k gb L A) (hn : L.ts.length < 1000) (hinc : Inc L.ts) {time code : Int} {zs : List Int} {q : Option Addr} {m d : Nat} (hno : ∀ z ∈ L.ts, z ≠ time) (ht : timeP time) (hv : AllV k L.ops) (hv1 : OpV k code zs) (hu : updT k code = true)
    (rz : RdS h0 G TI q m zs) (s : St h0 h (A + G)) :
    HCalls Tryz.prog 41 #[ptr gb, .int .i64 time, .agg #[.int .i64 code, .slice q m d]] h (fun v h' => ∃ i : Nat, IsLb L.ts time i ∧ LogR h0 G k gb (chgL runF ⟨L.ts, L.ops, L.rows, 0, 0⟩ (putL i time L.ts) (putL i (code, zs) L.ops)) v h') := by
  obtain ⟨t, o, w, hs, T, B0, B1, R, rfl, a1, a2, a3, a4, hle⟩ := la
  have l1 := a1.len
  refine partialretro_Log_Add_call ?_
  rw [partialretro_Log_Add_b0_eq]
  refine s.new (cs := [.int .i64 code, .slice q m d]) fun b1 h1 _ s1 => condNo rfl ?_
  have s1 := s1.to (B := logC gb k t o w L.fl L.wy + (cA b1 [.int .i64 code, .slice q m d] 25 + (T + (B0 + (B1 + (R + G))))))
  refine s1.wr (o := 5) (add_mk _ _ _) (by simp) fun h2 s2 => ?_
  refine s2.wr (o := 6) (add_mk _ _ _) (by simp) fun h3 s3 => ?_
  have s3 : St h0 h3 (logC gb k t o w 0 0 + (cA b1 [.int .i64 code, .slice q m d] 25 + (T + (B0 + (B1 + (R + G)))))) := s3
  have rz3 := rz h3 (logC gb k t o w 0 0 + (cA b1 [.int .i64 code, .slice q m d] 25 + (T + (B0 + (B1 + R))))) s3.to
  have k1 := s3.atomBlk
  refine ⟨_, s3.blk.cell 0, _, _, _, _, k1.cell 0, Blk.cellA k1 1, ?_⟩
  refine (mValid' (k := k) (c := code) rz3).mono fun v1 h4 ⟨hv1', x4⟩ => ⟨_, hv1', condNo (by rw [decide_eq_true hv1]; rfl) ?_⟩
  have s4 := s3.grow x4
  have k1 := s4.atomBlk
  refine ⟨_, _, _, _, k1.cell 0, Blk.cellA k1 1, ?_⟩
  refine (update_ok hk hv1.1 (s4.blk.cell 0)).mono fun v2 h5 ⟨hv2, x5⟩ => ⟨_, hv2, condNo (by rw [hu]; rfl) ?_⟩
  have s5 := s4.grow x5
  refine (timed_ok time h5).mono fun v3 h6 ⟨hv3, hh⟩ => ⟨_, hv3, condNo (by rw [decide_eq_true (show 0 ≤ time ∧ time ≤ 1073741824 from ht)]; rfl) ?_⟩
  subst hh
  rw [partialretro_Log_Add_b1_eq]
  refine ⟨_, _, _, Blk.cellA s5.blk 1, ?_⟩
  have rT := a1.rd (s5.to (B := T + (logC gb k t o w 0 0 + (cA b1 [.int .i64 code, .slice q m d] 25 + (B0 + (B1 + (R + G)))))))
  refine (Search_ok (key := time) rT.ints (by omega) hinc).mono fun v4 h7 ⟨hh, i, hlb, hv4⟩ => ⟨_, _, hv4, ?_⟩
  subst hh
  have hilen := hlb.1
  refine condNo (decide_eq_false fun hx => ?_) ?_
  · exact hno _ (getD_mem' (l := L.ts) (i := i) (d := 0) (by omega)) hx.2
  refine ⟨_, _, _, Blk.cellA s5.blk 1, condP (fun h => by omega) (fun _ => ?_)⟩
  have k1 := s5.atomBlk
  rw [partialretro_Log_Add_b2_eq]
  refine ⟨_, k1.cell 0, _, _, _, Blk.cellA k1 1, ?_, ?_⟩
  · have rz5 := rz h7 (logC gb k t o w 0 0 + (cA b1 [.int .i64 code, .slice q m d] 25 + (T + (B0 + (B1 + R))))) s5.to
    have hlz := opv_len hv1
    have hzl := rz5.len
    refine (cloneI_st rz5 (by omega)).mono fun v5 h8 ⟨q5, d5, X, hv5, o5, t5⟩ => ⟨_, _, _, hv5, ?_⟩
    have s8 := s5.join t5
    have k1 := (s8.at (cA b1 [.int .i64 code, .slice q m d] 25)).blk
    refine ⟨⟨_, k1.cell 0, rfl⟩, ?_⟩
    refine s8.new (cs := [.int .i64 0, .slice none 0 0]) fun b2 h9 x9 s9 => ⟨rfl, ⟨_, (k1.ext x9).cell 0, rfl⟩, ?_⟩
    refine s9.wr rfl (by simp) fun h10 s10 => ?_
    refine s10.wr (o := 1) (add_mk _ _ _) (by simp) fun h11 s11 => ?_
    have s11 : St h0 h11 (cA b2 [.int .i64 code, .slice q5 m d5] 25 + (X + (logC gb k t o w 0 0 + (cA b1 [.int .i64 code, .slice q m d] 25 + (T + (B0 + (B1 + (R + G)))))))) := s11
    exact ladd_b3 (L := ⟨L.ts, L.ops, L.rows, 0, 0⟩) (G := G) hk hR a1 a2 a3 a4 hle hn (fun v h' hv => ⟨i, hlb, hv⟩) hilen o5 hv hv1 ((s11.to (B := cA b1 [.int .i64 code, .slice q m d] 25 + (cA b2 [.int .i64 code, .slice q5 m d5] 25 + (logC gb k t o w 0 0 + (X + (T + (B0 + (B1 + (R + G))))))))).drop)
  · refine s5.new (cs := [.int .i64 0, .slice none 0 0]) fun b2 h9 x9 s9 => ⟨⟨_, _, _, Blk.cellA (k1.ext x9) 1, rfl⟩, ⟨_, (k1.ext x9).cell 0, rfl⟩, ?_⟩
    have s9 := s9.to (B := cA b2 [.int .i64 0, .slice none 0 0] 25 + (logC gb k t o w 0 0 + (cA b1 [.int .i64 code, .slice q m d] 25 + (T + (B0 + (B1 + (R + G)))))))
    have rz5 := rz h9 (cA b2 [.int .i64 0, .slice none 0 0] 25 + (logC gb k t o w 0 0 + (cA b1 [.int .i64 code, .slice q m d] 25 + (T + (B0 + (B1 + R)))))) s9.to
    have hlz := opv_len hv1
    have hzl := rz5.len
    refine (cloneI_st rz5 (by omega)).mono fun v5 h8 ⟨q5, d5, X, hv5, o5, t5⟩ => ⟨_, _, _, hv5, ?_⟩
    have s8 := (s9.join t5).to (B := cA b2 [.int .i64 0, .slice none 0 0] 25 + (X + (logC gb k t o w 0 0 + (cA b1 [.int .i64 code, .slice q m d] 25 + (T + (B0 + (B1 + (R + G))))))))
    have k1 := (s8.at (cA b1 [.int .i64 code, .slice q m d] 25)).blk
    refine ⟨⟨_, k1.cell 0, rfl⟩, ?_⟩
    refine s8.wr rfl (by simp) fun h10 s10 => ?_
    refine s10.wr (o := 1) (add_mk _ _ _) (by simp) fun h11 s11 => ?_
    have s11 : St h0 h11 (cA b2 [.int .i64 code, .slice q5 m d5] 25 + (X + (logC gb k t o w 0 0 + (cA b1 [.int .i64 code, .slice q m d] 25 + (T + (B0 + (B1 + (R + G)))))))) := s11
    exact ladd_b3 (L := ⟨L.ts, L.ops, L.rows, 0, 0⟩) (G := G) hk hR a1 a2 a3 a4 hle hn (fun v h' hv => ⟨i, hlb, hv⟩) hilen o5 hv hv1 ((s11.to (B := cA b1 [.int .i64 code, .slice q m d] 25 + (cA b2 [.int .i64 code, .slice q5 m d5] 25 + (logC gb k t o w 0 0 + (X + (T + (B0 + (B1 + (R + G))))))))).drop)
end
end Go.Proofs.YtdlkohenamlnaaaGreat

/- The law's small functions, its example. -/
set_option maxRecDepth 100000
namespace Go.Proofs.YtdlkohenamlnaaaGreat
open Go Go.Sx
theorem eqI_ok {h : Hp} {p q : Option Addr} {n m c d : Nat} {xs ys : List Int} (r1 : RdT TI h p n xs) (r2 : RdT TI h q m ys) (hn : n ≤ 1000000000) :
    HCalls Tryz.prog 22 #[.slice p n c, .slice q m d] h (fun v h' => h' = h ∧ v = .bool (decide (xs = ys))) := by
  have l1 := r1.len
  have l2 := r2.len
  refine EqI_call ?_
  rw [EqI_b0_eq]
  refine condN (fun hl => ?_) (fun hl => ?_)
  · exact ⟨rfl, by rw [decide_eq_false (fun h => hl (by subst h; omega))]⟩
  refine ⟨fun x h' => h' = h ∧ ∃ i : Nat, x.1 = i ∧ i ≤ n ∧ ∀ j, j < i → xs.getD j 0 = ys.getD j 0, fun x _ => n - x.1.toNat, ⟨rfl, 0, rfl, by omega, fun j hj => by omega⟩, ?_⟩
  rintro ⟨_, _⟩ h1 ⟨rfl, i, rfl, hin, heq⟩
  dsimp only
  rw [EqI_b1_eq]
  refine condP (fun hlt => ?_) (fun hge => ?_)
  · refine r1.int (by omega) (by omega) (r2.int (by omega) (by omega) ?_)
    rw [Int.toNat_natCast]
    refine condN (fun hne => ?_) (fun he => ?_)
    · exact ⟨rfl, by rw [decide_eq_false (fun h => hne (by rw [h]))]⟩
    · rw [EqI_b2_eq]
      refine ⟨⟨by omega, by omega⟩, ⟨rfl, i + 1, by simp only; omega, by omega, fun j hj => ?_⟩, by simp only; omega⟩
      rcases Nat.lt_or_ge j i with h | h
      · exact heq j h
      · obtain rfl : j = i := by omega
        exact he
  · rw [EqI_b3_eq]
    refine ⟨rfl, ?_⟩
    rw [decide_eq_true]
    refine List.ext_getElem (by omega) fun j h1 h2 => ?_
    have := heq j (by omega)
    rwa [getD_get h1, getD_get h2] at this
abbrev S5 := Int × Int × Int × Int × SH
abbrev tS5 : Ty S5 := ⟨27, 5, fun x => [.int .i64 x.1, .int .i64 x.2.1, .int .i64 x.2.2.1, .int .i64 x.2.2.2.1, .slice x.2.2.2.2.1 x.2.2.2.2.2.1 x.2.2.2.2.2.2], (0, 0, 0, 0, none, 0, 0), fun _ => rfl, by decide, fun _ v hv => by simp at hv; rcases hv with rfl | rfl | rfl | rfl | rfl <;> rfl⟩
theorem s5_load {h : Hp} {p : Option Addr} {n : Nat} {l : List S5} {i : Int} {Q : Int → Int → Int → Int → Option Addr → Nat → Nat → Prop} (r : RdT tS5 h p n l) (h0 : 0 ≤ i) (h1 : i < n) (hq : Q (l.getD i.toNat tS5.d).1 (l.getD i.toNat tS5.d).2.1 (l.getD i.toNat tS5.d).2.2.1 (l.getD i.toNat tS5.d).2.2.2.1 (l.getD i.toNat tS5.d).2.2.2.2.1 (l.getD i.toNat tS5.d).2.2.2.2.2.1 (l.getD i.toNat tS5.d).2.2.2.2.2.2) :
    (0 ≤ i ∧ i < (n : Int)) ∧ NN p fun a => ∃ x : Int, ∃ y : Int, ∃ z : Int, ∃ u : Int, ∃ (b : Option Addr) (m c : Nat), cell h (a.add (Int.toNat i * 5)) = some (.int .i64 x) ∧ cell h ((a.add (Int.toNat i * 5)).add 1) = some (.int .i64 y) ∧ cell h ((a.add (Int.toNat i * 5)).add 2) = some (.int .i64 z) ∧ cell h ((a.add (Int.toNat i * 5)).add 3) = some (.int .i64 u) ∧ cell h ((a.add (Int.toNat i * 5)).add 4) = some (.slice b m c) ∧ Q x y z u b m c :=
  r.idx h0 h1 fun _ _ hc => ⟨_, _, _, _, _, _, _, hc 0 (show 0 < 5 by decide), hc 1 (show 1 < 5 by decide), hc 2 (show 2 < 5 by decide), hc 3 (show 3 < 5 by decide), hc 4 (show 4 < 5 by decide), hq⟩
theorem few_ok {h : Hp} {p : Option Addr} {n c : Nat} {l : List S5} (r : RdT tS5 h p n l) :
    HCalls Tryz.prog 10 #[.slice p n c] h (fun v h' => Ext h h' ∧ ∃ b, v = .bool b ∧ (b = true → n ≤ 30 ∧ ∀ x ∈ l, x.2.2.2.2.2.1 ≤ 70)) := by
  have hl := r.len
  refine l35_few_call ?_
  rw [l35_few_b0_eq]
  refine condP (fun h30 => ?_) (fun h30 => ⟨Ext.refl h, _, rfl, fun h => by cases h⟩)
  refine HCalls.mono (K := fun v h' => Ext h h' ∧ ∃ b, v = .bool b ∧ (b = false → ∀ x ∈ l, x.2.2.2.2.2.1 ≤ 70)) ?_ fun v h' ⟨x, b, hv, hb⟩ => ⟨_, hv, x, _, rfl, fun h => ⟨by omega, hb (by simpa using h)⟩⟩
  refine slices_ContainsFunc_Sl35_Step_l35_Step_call ?_
  rw [slices_ContainsFunc_Sl35_Step_l35_Step_b0_eq]
  refine slices_IndexFunc_Sl35_Step_l35_Step_call ?_
  rw [slices_IndexFunc_Sl35_Step_l35_Step_b0_eq]
  refine ⟨fun s h' => Ext h h' ∧ ∃ i : Nat, s.1 = i ∧ i ≤ n ∧ ∀ x ∈ l.take i, x.2.2.2.2.2.1 ≤ 70, fun s _ => n - s.1.toNat, ⟨Ext.refl h, 0, rfl, by omega, by simp⟩, ?_⟩
  rintro ⟨_, _⟩ h1 ⟨x1, i, rfl, hin, hall⟩
  dsimp only
  rw [slices_IndexFunc_Sl35_Step_l35_Step_b1_eq]
  refine condP (fun hlt => ?_) (fun hge => ?_)
  · refine s5_load (r.ext x1) (by omega) (by omega) ?_
    rw [Int.toNat_natCast]
    have hil : i < l.length := by omega
    have hg : l.getD i tS5.d = l[i] := getD_get hil
    generalize l.getD i tS5.d = x at hg ⊢
    show callX Tryz.prog F 55 #[.agg #[.int .i64 x.1, .int .i64 x.2.1, .int .i64 x.2.2.1, .int .i64 x.2.2.2.1, .slice x.2.2.2.2.1 x.2.2.2.2.2.1 x.2.2.2.2.2.2]] _ _
    refine callX_of (by kernel_rfl) (l35_few_c1_call ?_)
    rw [l35_few_c1_b0_eq]
    refine (St.start h1).new (cs := [.int .i64 x.1, .int .i64 x.2.1, .int .i64 x.2.2.1, .int .i64 x.2.2.2.1, .slice x.2.2.2.2.1 x.2.2.2.2.2.1 x.2.2.2.2.2.2]) fun b1 h2 x2 s2 => ?_
    refine ⟨_, _, _, by rw [add_mk, add_mk]; exact s2.blk.cell 4, _, rfl, condP (fun hbig => ?_) (fun hbig => ?_)⟩
    · exact ⟨_, rfl, x1.trans x2, _, rfl, fun h => by rw [decide_eq_true (by omega)] at h; cases h⟩
    · rw [slices_IndexFunc_Sl35_Step_l35_Step_b2_eq]
      refine ⟨⟨by omega, by omega⟩, ⟨x1.trans x2, i + 1, by simp only; omega, by omega, fun y hy => ?_⟩, by simp only; omega⟩
      rw [List.take_succ_eq_append_getElem hil, List.mem_append, List.mem_singleton, ← hg] at hy
      rcases hy with hy | rfl
      · exact hall y hy
      · omega
  · rw [slices_IndexFunc_Sl35_Step_l35_Step_b3_eq]
    rw [List.take_of_length_le (by omega)] at hall
    exact ⟨_, rfl, x1, _, rfl, fun _ => hall⟩
/-- A step of a queue, in plain lists. -/
def stepQ (l : List Ev) (k t x : Int) : List Ev × Int := if k = 0 then insP l t x else if k = 1 then delP l t else revP l t
theorem stepQ_good {l : List Ev} (g : GoodQ l) (k t x : Int) : GoodQ (stepQ l k t x).1 := by
  unfold stepQ
  split
  · exact insP_good g
  · split
    · exact delP_good g
    · exact revP_good g
/-- What a step of a queue and of the reference leaves. -/
def StepR (h0 : Hp) (G : Bag) (qb : Nat) (R S : List Ev × Int) (v : Value) (h' : Hp) : Prop :=
  ∃ p c M' A', v = .tuple #[.slice p S.1.length c, .bool (decide (R.2 = S.2))] ∧ QueueA qb R.1 A' ∧ Sl TV p S.1.length c S.1 M' ∧ St h0 h' (A' + (M' + G))
theorem queue_ok {h0 h : Hp} {qb : Nat} {l m : List Ev} {p : Option Addr} {c : Nat} {A M G : Bag} (qa : QueueA qb l A) (g : GoodQ l) (a : Sl TV p m.length c m M) (gm : GoodQ m) (k t x u : Int) (b : Option Addr) (n d : Nat) (s : St h0 h (A + (M + G))) :
    HCalls Tryz.prog 14 #[ptr qb, .slice p m.length c, .agg #[.int .i64 k, .int .i64 t, .int .i64 x, .int .i64 u, .slice b n d]] h (StepR h0 G qb (stepQ l k t x) (stepQ m k t x)) := by
  refine l35_queue_call ?_
  rw [l35_queue_b0_eq]
  refine s.new (cs := [.int .i64 k, .int .i64 t, .int .i64 x, .int .i64 u, .slice b n d]) fun b1 h1 _ s1 => ?_
  have kb := s1.blk
  have s2 := s1.to (B := M + (cA b1 [.int .i64 k, .int .i64 t, .int .i64 x, .int .i64 u, .slice b n d] 27 + (A + G)))
  refine ⟨_, kb.cell 0, condP (fun h0 => ?_) (fun h0 => condP (fun h1 => ?_) (fun h1 => ?_))⟩
  · have e : ∀ l, stepQ l k t x = insP l t x := fun l => by rw [stepQ, if_pos h0]
    rw [e, e]
    refine ⟨_, Blk.cellA kb 1, _, Blk.cellA kb 2, (rAdd_ok a gm (t, x, false) s2).mono fun v1 h2 ⟨q, d', M', hv1, o, s3⟩ => ?_⟩
    have e2 : (if (t, x, false).2.2 = false ∧ ¬ keyQ (t, x, false).2.1 then (m, 1) else addP m (t, x, false)) = insP m t x := by
      rw [insP]
      by_cases hk : keyQ x
      · rw [if_neg (fun h => h.2 hk), if_pos hk]
      · rw [if_pos ⟨rfl, hk⟩, if_neg hk]
    rw [e2] at hv1 o
    refine ⟨_, _, _, _, hv1, ?_⟩
    have s3 := s3.to (B := cA b1 [.int .i64 k, .int .i64 t, .int .i64 x, .int .i64 u, .slice b n d] 27 + (A + (M' + G)))
    refine ⟨_, Blk.cellA s3.blk 1, _, Blk.cellA s3.blk 2, (qinsert_ok qa g.times g.len s3.drop).mono fun v2 h3 ⟨hv2, A', qa', s4⟩ => ⟨_, hv2, q, d', M', A', rfl, qa', o, s4⟩⟩
  · have e : ∀ l, stepQ l k t x = delP l t := fun l => by rw [stepQ, if_neg h0, if_pos h1]
    rw [e, e]
    refine ⟨_, Blk.cellA kb 1, (rAdd_ok a gm (t, 0, true) s2).mono fun v1 h2 ⟨q, d', M', hv1, o, s3⟩ => ?_⟩
    have e2 : (if (t, 0, true).2.2 = false ∧ ¬ keyQ (t, (0 : Int), true).2.1 then (m, 1) else addP m (t, 0, true)) = delP m t := by
      rw [if_neg (fun h => by cases h.1)]; rfl
    rw [e2] at hv1 o
    refine ⟨_, _, _, _, hv1, ?_⟩
    have s3 := s3.to (B := cA b1 [.int .i64 k, .int .i64 t, .int .i64 x, .int .i64 u, .slice b n d] 27 + (A + (M' + G)))
    refine ⟨_, Blk.cellA s3.blk 1, (qdelete_ok qa g.times g.len s3.drop).mono fun v2 h3 ⟨hv2, A', qa', s4⟩ => ⟨_, hv2, q, d', M', A', rfl, qa', o, s4⟩⟩
  · have e : ∀ l, stepQ l k t x = revP l t := fun l => by rw [stepQ, if_neg h0, if_neg h1]
    rw [e, e, l35_queue_b1_eq]
    refine ⟨_, Blk.cellA kb 1, (rRevoke_ok a gm t s2).mono fun v1 h2 ⟨q, d', M', hv1, o, s3⟩ => ⟨_, _, _, _, hv1, ?_⟩⟩
    have s3 := s3.to (B := cA b1 [.int .i64 k, .int .i64 t, .int .i64 x, .int .i64 u, .slice b n d] 27 + (A + (M' + G)))
    refine ⟨_, Blk.cellA s3.blk 1, (qrevoke_ok qa g.times g.len s3.drop).mono fun v2 h3 ⟨hv2, A', qa', s4⟩ => ⟨_, hv2, q, d', M', A', rfl, qa', o, s4⟩⟩
theorem times_ok {h : Hp} {p : Option Addr} {c : Nat} {l : List Ev} (r2 : RdT TV h p l.length l) (hl : l.length ≤ 2000) : HCalls Tryz.prog 32 #[.slice p l.length c] h (fun v h' => ∃ q d B, v = .slice q l.length d ∧ Sl TI q l.length d (l.map Prod.fst) B ∧ St h h' B) := by
  refine l35_times_call ?_
  rw [l35_times_b0_eq]
  refine ⟨fun x h' => ∃ (i : Nat) (B : Bag), x.2.1 = i ∧ i ≤ l.length ∧ x.1.2.1 = i ∧ Sl TI x.1.1 i x.1.2.2 ((l.take i).map Prod.fst) B ∧ St h h' B, fun x _ => l.length - x.2.1.toNat, ⟨0, 0, rfl, by omega, rfl, Sl.nil, St.start h⟩, ?_⟩
  rintro ⟨⟨q, qn, d⟩, _, _⟩ h2 ⟨i, B, rfl, hin, hqn, o, t2⟩
  dsimp only at hqn o ⊢
  have hqn := hqn.symm
  subst hqn
  rw [l35_times_b1_eq]
  refine condP (fun hlt => ?_) (fun hge => ?_)
  · refine ev_load (r2.ext t2.ext) (by omega) (by omega) ?_
    rw [Int.toNat_natCast]
    refine t2.new (cs := [.int .i64 0, .int .i64 0, .bool false]) fun b3 h3 _ s3 => ?_
    refine s3.wr rfl (by simp) fun h4 s4 => ?_
    refine s4.wr (o := 1) (add_mk _ _ _) (by simp) fun h5 s5 => ?_
    refine s5.wr (o := 2) (add_mk _ _ _) (by simp) fun h5 s5 => ?_
    refine ⟨_, s5.blk.cell 0, ?_⟩
    have s5 := s5.drop
    refine s5.new (cs := [.int .i64 (l.getD i evD).1]) fun b4 h6 _ s6 => ?_
    have sx : Sl TI (some ⟨b4, 0, none⟩) 1 1 [(l.getD i evD).1] (cA b4 [.int .i64 (l.getD i evD).1] 3) := Sl.of_blk (T := TI) (xs := [(l.getD i evD).1]) rfl rfl
    refine append_sl ok_int (s6.to (B := B + (cA b4 [.int .i64 (l.getD i evD).1] 3 + 0))) o (sx.rd (s6.to (B := cA b4 [.int .i64 (l.getD i evD).1] 3 + B))) (by omega) fun q' d' h7 B' o' s7 => ?_
    rw [l35_times_b2_eq]
    refine ⟨⟨by omega, by omega⟩, ⟨i + 1, B', by simp only; omega, by omega, rfl, ?_, (s7.to (B := cA b4 [.int .i64 (l.getD i evD).1] 3 + B')).drop⟩, by simp only; omega⟩
    have e1 : l.take (i + 1) = l.take i ++ [l.getD i evD] := by rw [getD_get (by omega)]; exact List.take_succ_eq_append_getElem (by omega)
    rw [e1, List.map_append]
    exact o'
  · obtain rfl : i = l.length := by omega
    rw [List.take_of_length_le (Nat.le_refl _)] at o
    rw [l35_times_b3_eq]
    exact ⟨_, _, B, rfl, o, t2⟩
end Go.Proofs.YtdlkohenamlnaaaGreat

/- The chapter's example; the law Queue. -/
set_option maxRecDepth 100000
namespace Go.Proofs.YtdlkohenamlnaaaGreat
open Go Go.Sx
theorem isLb_nil {i : Nat} {z : Int} (h : IsLb [] z i) : i = 0 := by have := h.1; simpa using this
theorem awake_ok (h : Hp) : HCalls Tryz.prog 9 #[] h (fun v h' => v = .bool true ∧ Ext h h') := by
  refine l35_awake_call ?_
  rw [l35_awake_b0_eq]
  refine (newQueue_ok h).mono fun v1 h1 ⟨qb, A1, hv1, q1, s1⟩ => ⟨_, hv1, condNo rfl ?_⟩
  have s1 := s1.to (B := A1 + 0)
  refine (qinsert_ok (t := 1) (k := 5) q1 .nil (by decide) s1).mono fun v2 h2 ⟨hv2, A2, q2, s2⟩ => ⟨_, hv2, ?_⟩
  have e2 : insP [] 1 5 = ([(1, 5, false)], 0) := by decide
  rw [e2] at q2 ⊢
  refine condNo rfl ((qinsert_ok (t := 2) (k := 3) q2 (by decide) (by decide) s2).mono fun v3 h3 ⟨hv3, A3, q3, s3⟩ => ⟨_, hv3, ?_⟩)
  have e3 : insP [(1, 5, false)] 2 3 = ([(1, 5, false), (2, 3, false)], 0) := by decide
  rw [e3] at q3 ⊢
  refine condNo rfl ((qinsert_ok (t := 4) (k := 8) q3 (by decide) (by decide) s3).mono fun v4 h4 ⟨hv4, A4, q4, s4⟩ => ⟨_, hv4, ?_⟩)
  have e4 : insP [(1, 5, false), (2, 3, false)] 4 8 = ([(1, 5, false), (2, 3, false), (4, 8, false)], 0) := by decide
  rw [e4] at q4 ⊢
  refine condNo rfl ((qdelete_ok (t := 3) q4 (by decide) (by decide) s4).mono fun v5 h5 ⟨hv5, A5, q5, s5⟩ => ⟨_, hv5, ?_⟩)
  have e5 : delP [(1, 5, false), (2, 3, false), (4, 8, false)] 3 = ([(1, 5, false), (2, 3, false), (3, 0, true), (4, 8, false)], 0) := by decide
  rw [e5] at q5 ⊢
  refine condNo rfl ((qdelete_ok (t := 6) q5 (by decide) (by decide) s5).mono fun v6 h6 ⟨hv6, A6, q6, s6⟩ => ⟨_, hv6, ?_⟩)
  have e6 : delP [(1, 5, false), (2, 3, false), (3, 0, true), (4, 8, false)] 6 = ([(1, 5, false), (2, 3, false), (3, 0, true), (4, 8, false), (6, 0, true)], 0) := by decide
  rw [e6] at q6 ⊢
  refine condNo rfl ?_
  rw [l35_awake_b1_eq]
  refine (qkeys_ok q6 (by decide) s6).mono fun v7 h7 ⟨p7, d7, B7, hv7, o7, t7⟩ => ⟨_, _, _, hv7, ?_⟩
  have s7 := s6.join t7
  refine s7.new (cs := [.int .i64 8]) fun b1 h8 _ s8 => ?_
  have o8 : Sl TI (some ⟨b1, 0, none⟩) 1 1 [8] (cA b1 [.int .i64 8] 3) := Sl.of_blk (T := TI) (xs := [8]) rfl rfl
  refine (eqI_ok (o7.rd (s8.to (B := B7 + (cA b1 [.int .i64 8] 3 + (A6 + 0))))) (o8.rd s8) (by decide)).mono fun v8 h9 ⟨hh9, hv8⟩ => ⟨_, hv8, condNo (by decide) ?_⟩
  subst hh9
  have s8 := s8.drop.to (B := A6 + B7)
  refine (qbridges_ok q6 (by decide) s8).mono fun v9 h10 ⟨p9, d9, B9, hv9, o9, t9⟩ => ⟨_, _, _, hv9, ?_⟩
  have s10 := s8.join t9
  refine s10.new (cs := [.int .i64 6]) fun b2 h11 _ s11 => ?_
  have o11 : Sl TI (some ⟨b2, 0, none⟩) 1 1 [6] (cA b2 [.int .i64 6] 3) := Sl.of_blk (T := TI) (xs := [6]) rfl rfl
  refine (eqI_ok (o9.rd (s11.to (B := B9 + (cA b2 [.int .i64 6] 3 + (A6 + B7))))) (o11.rd s11) (by decide)).mono fun v10 h12 ⟨hh12, hv10⟩ => ⟨_, hv10, condNo (by decide) ?_⟩
  subst hh12
  have s11 := s11.drop.drop
  refine (qinsert_ok (t := 5) (k := 4) q6 (by decide) (by decide) s11).mono fun v11 h13 ⟨hv11, A13, q13, s13⟩ => ⟨_, hv11, ?_⟩
  have e13 : insP [(1, 5, false), (2, 3, false), (3, 0, true), (4, 8, false), (6, 0, true)] 5 4 = ([(1, 5, false), (2, 3, false), (3, 0, true), (4, 8, false), (5, 4, false), (6, 0, true)], 0) := by decide
  rw [e13] at q13 ⊢
  refine condNo rfl ?_
  rw [l35_awake_b2_eq]
  refine (newLog_ok (k := 1) (by decide) h13).mono fun v12 h14 ⟨gb, L0, hv12, la, t14⟩ => ⟨_, _, hv12, ?_⟩
  have s14 := (s13.join t14).to (B := A13 + (L0 + B7))
  refine (qkeys_ok q13 (by decide) s14).mono fun v13 h15 ⟨p13, d13, B13, hv13, o13, t15⟩ => ⟨_, _, _, hv13, ?_⟩
  have s15 := s14.join t15
  refine s15.new (cs := [.int .i64 5, .int .i64 8]) fun b3 h16 _ s16 => ?_
  have o16 : Sl TI (some ⟨b3, 0, none⟩) 2 2 [5, 8] (cA b3 [.int .i64 5, .int .i64 8] 3) := Sl.of_blk (T := TI) (xs := [5, 8]) rfl rfl
  refine (eqI_ok (o13.rd (s16.to (B := B13 + (cA b3 [.int .i64 5, .int .i64 8] 3 + (A13 + (L0 + B7)))))) (o16.rd s16) (by decide)).mono fun v14 h17 ⟨hh17, hv14⟩ => ⟨_, hv14, condYes (by decide) (condYes rfl (condYes rfl ?_))⟩
  subst hh17
  have s16 := s16.drop.to (B := (A13 + (B7 + B13)) + L0)
  have s16 := s16.drop
  refine s16.new (cs := [.int .i64 1, .int .i64 2]) fun b4 h18 _ s18 => ?_
  have o18 : Sl TI (some ⟨b4, 0, none⟩) 2 2 [1, 2] (cA b4 [.int .i64 1, .int .i64 2] 3) := Sl.of_blk (T := TI) (xs := [1, 2]) rfl rfl
  have s18 := s18.to (B := L0 + (cA b4 [.int .i64 1, .int .i64 2] 3 + 0))
  refine (ladd_ok (k := 1) (L := ⟨[], [], [], 0, 0⟩) (by decide) runOk1 la (by decide) (fun i j _ hj => by simp at hj) (time := 3) (code := 1) (zs := [1, 2]) (fun z hz => nomatch hz) (by decide) (fun y hy => nomatch hy) (by decide) (by decide) (RdS.own o18) s18).mono fun v15 h19 ⟨i, hlb, hv15, L1, la1, s19⟩ => ⟨_, hv15, ?_⟩
  obtain rfl := isLb_nil hlb
  have e19 : chgL (fun ops => ((runS ops).1.map row2, (runS ops).2)) ⟨[], [], [], 0, 0⟩ (putL 0 3 []) (putL 0 (1, [1, 2]) []) = (⟨[3], [(1, [1, 2])], [[1, 2]], 0, 0⟩, 0) := rfl
  rw [e19] at la1 ⊢
  refine condYes rfl ?_
  refine s19.new (cs := [.int .i64 1]) fun b5 h20 _ s20 => ?_
  have o20 : Sl TI (some ⟨b5, 0, none⟩) 1 1 [1] (cA b5 [.int .i64 1] 3) := Sl.of_blk (T := TI) (xs := [1]) rfl rfl
  have s20 := s20.to (B := L1 + (cA b5 [.int .i64 1] 3 + (cA b4 [.int .i64 1, .int .i64 2] 3 + 0)))
  refine (ladd_ok (k := 1) (L := ⟨[3], [(1, [1, 2])], [[1, 2]], 0, 0⟩) (by decide) runOk1 la1 (by decide) (fun i j _ hj => by simp at hj; omega) (time := 2) (code := 3) (zs := [1]) (by decide) (by decide) (by decide) (by decide) (by decide) (RdS.own o20) s20).mono fun v16 h21 ⟨i, hlb, hv16, L2, la2, s21⟩ => ⟨_, hv16, ?_, s21.ext⟩
  obtain rfl : i = 0 := by
    obtain ⟨c1, c2, _⟩ := hlb
    rcases Nat.eq_zero_or_pos i with h | h
    · exact h
    · have : (3 : Int) < 2 := c2 0 h
      omega
  have e21 : (chgL (fun ops => ((runS ops).1.map row2, (runS ops).2)) ⟨[3], [(1, [1, 2])], [[1, 2]], 0, 0⟩ (putL 0 2 [3]) (putL 0 (3, [1]) [(1, [1, 2])])).2 = 13 := rfl
  rw [e21]
  rfl
/-- What is in a queue is told by its keys. -/
theorem min_keys {now : List El} : (now.getD 0 (0, 0)).1 = (now.map Prod.fst).getD 0 0 := by cases now <;> rfl
theorem queue_law {h : Hp} {p : Option Addr} {n c : Nat} {l : List S5} (r : RdT tS5 h p n l) :
    HCalls Tryz.prog 5 #[.slice p n c] h (fun v h' => v = .bool true ∧ Ext h h') := by
  have hlen := r.len
  refine l35_PartialretroQueue_call ?_
  rw [l35_PartialretroQueue_b0_eq]
  refine (awake_ok h).mono fun v1 h1 ⟨hv1, x1⟩ => ⟨_, hv1, condNo rfl ?_⟩
  refine (few_ok (r.ext x1)).mono fun v3 h3 ⟨x3, b, hv3, hb⟩ => ⟨_, hv3, cond_intro (fun hf => ?_) (fun hf => ?_)⟩
  · exact (awake_ok h3).mono fun v2 h2 ⟨hv2, x2⟩ => ⟨_, hv2, rfl, (x1.trans x3).trans x2⟩
  have hn := (hb (by simpa using hf)).1
  rw [l35_PartialretroQueue_b1_eq]
  refine (newQueue_ok h3).mono fun v5 h5 ⟨qb, A0, hv5, q0, t5⟩ => ⟨_, hv5, ?_⟩
  have s5 : St h h5 (A0 + 0) := (t5.base (x1.trans x3)).to
  refine ⟨fun x h' => ∃ (i : Nat) (l' : List Ev) (A M : Bag), x.2.1 = i ∧ i ≤ n ∧ x.1.2.1 = l'.length ∧ QueueA qb l' A ∧ GoodQ l' ∧ Sl TV x.1.1 l'.length x.1.2.2 l' M ∧ St h h' (A + (M + 0)), fun x _ => n - x.2.1.toNat, ⟨0, [], A0, 0, rfl, by omega, rfl, q0, goodQ_nil, Sl.nil, s5.to⟩, ?_⟩
  rintro ⟨⟨mp, mn, mc⟩, _, _⟩ h6 ⟨i, m, A, M, rfl, hin, hmn, qa, g, ma, s6⟩
  dsimp only at hmn ma ⊢
  subst hmn
  rw [l35_PartialretroQueue_b2_eq]
  refine condP (fun hlt => ?_) (fun hge => ?_)
  · refine s5_load (r.ext s6.ext) (by omega) (by omega) ?_
    rw [Int.toNat_natCast]
    generalize l.getD i tS5.d = st
    obtain ⟨k, t, x, u, ap, an, ac⟩ := st
    dsimp only
    refine s6.new (cs := [.int .i64 0, .int .i64 0, .int .i64 0, .int .i64 0, .slice none 0 0]) fun b1 h7 _ s7 => ?_
    refine s7.wr rfl (by simp) fun h8 s8 => ?_
    refine s8.wr (o := 1) (add_mk _ _ _) (by simp) fun h9 s9 => ?_
    refine s9.wr (o := 2) (add_mk _ _ _) (by simp) fun h10 s10 => ?_
    refine s10.wr (o := 3) (add_mk _ _ _) (by simp) fun h11 s11 => ?_
    refine s11.wr (o := 4) (add_mk _ _ _) (by simp) fun h12 s12 => ?_
    refine ⟨_, _, _, _, _, _, _, s12.blk.cell 0, Blk.cellA s12.blk 1, Blk.cellA s12.blk 2, Blk.cellA s12.blk 3, Blk.cellA s12.blk 4, ?_⟩
    have s12 := s12.drop
    refine (queue_ok qa g ma g k t x u ap an ac s12).mono fun v6 h13 ⟨p6, c6, M6, A6, hv6, qa6, ma6, s13⟩ => ⟨_, _, _, _, hv6, condNo (by rw [decide_eq_true rfl]; rfl) ?_⟩
    have g6 := stepQ_good g k t x
    generalize (stepQ m k t x).1 = l' at qa6 ma6 g6 ⊢
    have hok := g6.ok
    have hl' := g6.len
    have hnl := (nowAt_inv hok).2.1
    have s13m := s13.to (B := M6 + (A6 + 0))
    refine (rKeys_ok (c := c6) (ma6.rd s13m) g6.times hl' ma6.cap hok).mono fun v7 h14 ⟨p7, d7, B7, hv7, o7, t14⟩ => ⟨_, _, _, hv7, ?_⟩
    have s14 := (s13.join t14).to (B := A6 + (B7 + (M6 + 0)))
    refine (qmin_ok qa6 s14).mono fun v8 h15 ⟨hv8, hh15⟩ => ⟨_, _, hv8, ?_⟩
    subst hh15
    refine (qkeys_ok qa6 hl' s14).mono fun v9 h16 ⟨p9, d9, B9, hv9, o9, t16⟩ => ⟨_, _, _, hv9, ?_⟩
    have s16 := s14.join t16
    refine (eqI_ok (o9.rd s16) (o7.rd (s16.to (B := B7 + (B9 + (A6 + (M6 + 0)))))) (by omega)).mono fun v10 h17 ⟨hh17, hv10⟩ => ⟨_, hv10, condNo (by rw [decide_eq_true rfl]; rfl) ?_⟩
    subst hh17
    have s17 := s16.to (B := A6 + (B9 + (B7 + (M6 + 0))))
    refine (qtimes_ok qa6 hl' s17).mono fun v11 h18 ⟨p11, d11, B11, hv11, o11, t18⟩ => ⟨_, _, _, hv11, ?_⟩
    have s18 := (s17.join t18).to (B := M6 + (A6 + (B11 + (B9 + B7))))
    refine (times_ok (c := c6) (ma6.rd s18) hl').mono fun v12 h19 ⟨p12, d12, B12, hv12, o12, t19⟩ => ⟨_, _, _, hv12, ?_⟩
    have s19 := s18.join t19
    refine (eqI_ok (o11.rd (s19.to (B := B11 + (B12 + (M6 + (A6 + (B9 + B7))))))) (o12.rd s19) (by omega)).mono fun v13 h20 ⟨hh20, hv13⟩ => ⟨_, hv13, condNo (by rw [decide_eq_true rfl]; rfl) ?_⟩
    subst hh20
    have s20 := s19.to (B := A6 + (B12 + (M6 + (B11 + (B9 + B7)))))
    refine (qbridges_ok qa6 hl' s20).mono fun v14 h21 ⟨p14, d14, B14, hv14, o14, t21⟩ => ⟨_, _, _, hv14, ?_⟩
    have s21 := (s20.join t21).to (B := M6 + (B14 + (A6 + (B12 + (B11 + (B9 + B7))))))
    refine (rBridges_ok (c := c6) (ma6.rd s21) g6 ma6.cap).mono fun v15 h22 ⟨p15, d15, B15, hv15, o15, t22⟩ => ⟨_, _, _, hv15, ?_⟩
    have s22 := s21.join t22
    have hbl : (brS l').length ≤ l'.length := brP_len
    refine (eqI_ok (o14.rd (s22.to (B := B14 + (B15 + (M6 + (A6 + (B12 + (B11 + (B9 + B7)))))))))  (o15.rd s22) (by omega)).mono fun v16 h23 ⟨hh23, hv16⟩ => ⟨_, hv16, condNo (by rw [decide_eq_true rfl]; rfl) ?_⟩
    subst hh23
    have fin : l35_PartialretroQueue_b5 (some ⟨qb, 0, none⟩) p6 l'.length c6 p n c (n : Int) (i : Int) h23 (fun s' h' => (∃ (i : Nat) (l' : List Ev) (A M : Bag), s'.2.1 = i ∧ i ≤ n ∧ s'.1.2.1 = l'.length ∧ QueueA qb l' A ∧ GoodQ l' ∧ Sl TV s'.1.1 l'.length s'.1.2.2 l' M ∧ St h h' (A + (M + 0))) ∧ n - s'.2.1.toNat < n - (i : Int).toNat) (fun v h' => v = .bool true ∧ Ext h h') := by
      rw [l35_PartialretroQueue_b5_eq]
      refine ⟨⟨by omega, by omega⟩, ⟨i + 1, l', A6, M6, by simp only; omega, by omega, rfl, qa6, g6, ma6, ?_⟩, by simp only; omega⟩
      exact (s22.to (B := (B15 + (B14 + (B12 + (B11 + (B9 + B7))))) + (A6 + (M6 + 0)))).drop
    rw [l35_PartialretroQueue_b3_eq]
    refine condP (fun h0 => ?_) (fun h0 => ?_)
    · have h0' : (nowD l' l'.length).length = 0 := by omega
      have hnil : nowD l' l'.length = [] := List.eq_nil_of_length_eq_zero h0'
      rw [if_pos h0', hnil]
      exact condNo rfl (condNo rfl fin)
    · refine (o7.rd (s22.to (B := B7 + (B15 + (M6 + (B14 + (A6 + (B12 + (B11 + B9))))))))).int (by omega) (by omega) ?_
      rw [if_neg (by omega), min_keys]
      exact condN (fun hne => absurd rfl hne) (fun _ => condNo rfl fin)
  · rw [l35_PartialretroQueue_b4_eq]
    exact ⟨rfl, s6.ext⟩
end Go.Proofs.YtdlkohenamlnaaaGreat

/- How a slice that is handed in is read: elements of any number of cells. -/
namespace Go.Sx
open Go Go.ChangeShapes Go.WideShapes Go.Deep
section
variable {H : Type} {enc : TypeId × Value → H} {P : Program} {w : World} {base : Nat} {sp : Nat → Bool} {held : Bool} {α : Type}
theorem rd_flat {t : TypeId} (T : Ty α) {W : α → Prop} {a : Option Addr} {len cap : Nat} {d : DataW H} {ps : List MemPlace} (ht : P.underlying t = some (.slice T.e)) (hc : P.cellsOf T.e = T.sz)
    (dec : ∀ n cs x, DataW.trod enc P w base sp held n T.e cs = some x → ∃ a, cs = T.enc a ∧ W a) (h : DataW.Trod enc P w base sp held t (.slice a len cap) d ps) :
    ∃ xs : List α, RdT T w.heap a len xs ∧ len ≤ cap ∧ ∀ x ∈ xs, W x := by
  obtain ⟨fuel, hf⟩ := h
  have e0 : (Value.slice a len cap).cells.toList = [.slice a len cap] := rfl
  rw [e0] at hf
  rcases open_slice ht hf with ⟨hcs, _⟩ | ⟨x, l, c, m, n, D, Pl, hcs, _, hl, _, hm, _, hx⟩
  · injection hcs with h1 _
    injection h1 with h1 h2 h3
    subst h1 h2 h3
    exact ⟨[], RdT.nil _ _, Nat.le_refl _, fun _ h => nomatch h⟩
  · injection hcs with h1 _
    injection h1 with h1 h2 h3
    subst h1 h2 h3
    have hlm : len ≤ m := by rw [hm]; split <;> omega
    haveI : Inhabited α := ⟨T.d⟩
    obtain ⟨f, hf⟩ := choose_lt (α := α) (n := len) (p := fun i z => w.cells? base (x.add (i * T.sz)) T.sz = some (T.enc z) ∧ W z) (fun i hi => by
      obtain ⟨cs, h1, h2⟩ := hx i (by omega)
      obtain ⟨z, hz, hw⟩ := dec n cs _ h2
      rw [hc] at h1
      exact ⟨z, by rw [h1, hz], hw⟩)
    refine ⟨(List.range len).map f, ⟨by simp, .inr ⟨x, rfl, fun i hi => ?_⟩⟩, hl, fun z hz => ?_⟩
    · have hp := T.pos
      have hdm : T.sz * (i / T.sz) + i % T.sz = i := Nat.div_add_mod i T.sz
      have hq : i / T.sz < len := (Nat.div_lt_iff_lt_mul hp).2 hi
      have hr : i % T.sz < T.sz := Nat.mod_lt _ hp
      obtain ⟨_, _, h3⟩ := World.cells?_some (hf _ hq).1
      have h4 := h3 _ hr
      have e1 : i / T.sz * T.sz + i % T.sz = i := by rw [Nat.mul_comm]; exact hdm
      rw [add_add, e1] at h4
      show cell w.heap (x.add i) = _
      rw [← cell_eq, h4]
      have := T.cells_get ((List.range len).map f) (i := i / T.sz) (j := i % T.sz) (by simpa using hq) hr
      rw [e1] at this
      rw [this]
      simp [List.getD, hq]
    · obtain ⟨i, hi, rfl⟩ := List.mem_map.1 hz
      exact (hf i (List.mem_range.1 hi)).2
theorem dec_int {e : TypeId} {k : IntKind} (he : P.underlying e = some (.int k)) (n : Nat) (cs : List Value) (x : DataW H × List MemPlace) (h : DataW.trod enc P w base sp held n e cs = some x) : ∃ z, cs = [.int k z] ∧ (Lit.int k z).wf = true := by
  obtain ⟨z, h1, _, h2⟩ := DataW.trod_int he h
  exact ⟨z, h1, h2⟩
/-- An array of two numbers. -/
theorem dec_arr2 {t e : TypeId} (ht : P.underlying t = some (.array 2 e)) (he : P.underlying e = some (.int .i64)) (ce : P.cellsOf e = 1) (ct : P.cellsOf t = 2) (n : Nat) (cs : List Value) (x : DataW H × List MemPlace) (h : DataW.trod enc P w base sp held n t cs = some x) :
    ∃ a : Int × Int, cs = [.int .i64 a.1, .int .i64 a.2] ∧ (InR a.1 ∧ InR a.2) := by
  obtain ⟨xs, m, _, _, hl, hxl, hx⟩ := DataW.trod_array ht h
  rw [ct] at hl
  match cs, hl with
  | [c0, c1], _ =>
    have h0 := hx 0 (by omega)
    have h1 := hx 1 (by omega)
    rw [ce] at h0 h1
    rw [List.getElem?_eq_getElem (by omega)] at h0 h1
    obtain ⟨z0, e0, _, w0⟩ := DataW.trod_int he h0
    obtain ⟨z1, e1, _, w1⟩ := DataW.trod_int he h1
    simp at e0 e1
    subst e0 e1
    have b0 := bounds_i64 w0
    have b1 := bounds_i64 w1
    exact ⟨(z0, z1), rfl, b0, b1⟩
end
end Go.Sx

/- How the law's arguments are read. -/
set_option maxRecDepth 10000
namespace Go.Proofs.YtdlkohenamlnaaaGreat
open Go Go.Sx Go.ChangeShapes Go.WideShapes Go.ChangeAt Go.RowKit Go.Deep

theorem own : ownKnob Tryz.prog.godebug = none := by kernel_rfl
theorem laidOut : laidOutB Tryz.prog = true := by kernel_rfl
theorem below_of {P : Program} {f : FuncId} {args : Array Value} {w : World} (hc : HCalls P f args w.heap (fun v h' => v = .bool true ∧ Ext w.heap h')) :
    Calls P f args w fun e w' => e = .returned (.bool true) ∧ Below w.heap.size w w' :=
  (hc w rfl).mono fun e w' ⟨v, he, hs, hv, hx⟩ => ⟨by rw [he, hv], ⟨hs.os, hs.tape, hs.output, hx.size, hx.same⟩⟩
section
variable {H : Type} {enc : TypeId × Value → H} {w : World} {base : Nat} {held : Bool} {a : Option Addr} {len cap : Nat} {d : DataW H} {ps : List MemPlace}
theorem rd_st35 (h : DataW.Trod enc Tryz.prog w base (fun _ => true) held 22 (.slice a len cap) d ps) : ∃ l : List S5, RdT tS5 w.heap a len l ∧ len ≤ cap ∧ ∀ x ∈ l, x.2.2.2.2.2.1 ≤ x.2.2.2.2.2.2 ∧ InR x.2.2.2.1 ∧ ∃ zs, RdT TI w.heap x.2.2.2.2.1 x.2.2.2.2.2.1 zs :=
  rd_flat tS5 Tryz.underlying22 (by kernel_rfl) (fun n cs x h => by
    obtain ⟨xs, m, _, _, hl, hxl, hx⟩ := DataW.trod_struct Tryz.underlying27 h
    rw [show Tryz.prog.cellsOf 27 = 5 by kernel_rfl] at hl
    match cs, xs, hl, hxl with
    | [c0, c1, c2, c3, c4], [y0, y1, y2, y3], _, _ =>
      obtain ⟨z0, e0, w0⟩ := dec_int (k := .i64) (by kernel_rfl) _ _ _ (hx 0 _ rfl)
      obtain ⟨z1, e1, w1⟩ := dec_int (k := .i64) (by kernel_rfl) _ _ _ (hx 1 _ rfl)
      obtain ⟨z2, e2, w2⟩ := dec_int (k := .i64) (by kernel_rfl) _ _ _ (hx 2 _ rfl)
      have f0 : c0 = .int .i64 z0 := (List.cons.inj (show [c0] = [Value.int .i64 z0] from e0)).1
      have f1 : c1 = .int .i64 z1 := (List.cons.inj (show [c1] = [Value.int .i64 z1] from e1)).1
      have f2 : c2 = .int .i64 z2 := (List.cons.inj (show [c2] = [Value.int .i64 z2] from e2)).1
      have h3 : DataW.trod enc Tryz.prog w base (fun _ => true) held m 25 [c3, c4] = some y3 := hx 3 _ rfl
      obtain ⟨xs', m', _, _, hl', hxl', hx'⟩ := DataW.trod_struct Tryz.underlying25 h3
      match xs', hxl' with
      | [v0, v1], _ =>
        obtain ⟨z3, e3, w3⟩ := dec_int (k := .i64) (by kernel_rfl) _ _ _ (hx' 0 _ rfl)
        have f3 : c3 = .int .i64 z3 := (List.cons.inj (show [c3] = [Value.int .i64 z3] from e3)).1
        have h1 : DataW.trod enc Tryz.prog w base (fun _ => true) held m' 23 [c4] = some v1 := hx' 1 _ rfl
        have key : ∃ a' l' c', [c4] = [Value.slice a' l' c'] := by
          rcases open_slice Tryz.underlying23 h1 with ⟨hcs, _⟩ | ⟨_, _, _, _, _, _, _, hcs, _⟩
          · exact ⟨_, _, _, hcs⟩
          · exact ⟨_, _, _, hcs⟩
        obtain ⟨a', l', c', hc1⟩ := key
        have f4 : c4 = .slice a' l' c' := (List.cons.inj hc1).1
        rw [hc1] at h1
        obtain ⟨zs, hr, hle, _⟩ := rd_flat (W := InR) TI Tryz.underlying23 (by kernel_rfl) (fun n cs x h => by
          obtain ⟨z, h1, h2⟩ := dec_int (k := .i64) (by kernel_rfl) n cs x h
          exact ⟨z, h1, bounds_i64 h2⟩) (d := v1.1) (ps := v1.2) ⟨m', h1⟩
        rw [f0, f1, f2, f3, f4]
        exact ⟨(z0, z1, z2, z3, a', l', c'), rfl, hle, bounds_i64 w3, zs, hr⟩) h
end
end Go.Proofs.YtdlkohenamlnaaaGreat

/- Methods of nil pointers: the law Nil. -/
set_option maxRecDepth 100000
namespace Go.Proofs.YtdlkohenamlnaaaGreat
open Go Go.Sx
theorem same0_ok (h : Hp) : HCalls Tryz.prog 48 #[.agg #[.int .i64 0, .slice none 0 0], .agg #[.int .i64 0, .slice none 0 0]] h (fun v h' => v = .bool true ∧ Ext h h') := by
  refine r03_Same_call ?_
  rw [r03_Same_b0_eq]
  refine (St.start h).new (cs := [.int .i64 0, .slice none 0 0]) fun b1 h1 _ s1 => ?_
  refine s1.new (cs := [.int .i64 0, .slice none 0 0]) fun b2 h2 _ s2 => ?_
  have k2 := s2.blk
  have k1 := s2.atomBlk
  refine ⟨_, k1.cell 0, _, k2.cell 0, condNo rfl ⟨_, _, _, Blk.cellA k1 1, _, _, _, Blk.cellA k2 1, condNo rfl ?_⟩⟩
  rw [r03_Same_b1_eq]
  refine ⟨fun s h' => h' = h2 ∧ s.1 = 0, fun _ _ => 0, ⟨rfl, rfl⟩, ?_⟩
  rintro ⟨_, _⟩ h3 ⟨rfl, rfl⟩
  dsimp only
  rw [r03_Same_b2_eq]
  refine ⟨_, _, _, Blk.cellA k1 1, condNo rfl ?_⟩
  rw [r03_Same_b4_eq]
  exact ⟨rfl, s2.ext⟩
theorem nil_law {h : Hp} {time key code : Int} {p : Option Addr} {n c : Nat} : HCalls Tryz.prog 7 #[.int .i64 time, .int .i64 key, .agg #[.int .i64 code, .slice p n c]] h (fun v h' => v = .bool true ∧ Ext h h') := by
  refine l35_PartialretroNil_call ?_
  rw [l35_PartialretroNil_b0_eq]
  refine (St.start h).new (cs := [.int .i64 code, .slice p n c]) fun b1 h1 x1 s1 => ?_
  refine (awake_ok h1).mono fun v1 h2 ⟨hv1, x2⟩ => ⟨_, hv1, condNo rfl ?_⟩
  have s2 := s1.grow x2
  refine ⟨_, _, _, Blk.cellA s2.blk 1, condP (fun hbig => ?_) (fun _ => ?_)⟩
  · exact (awake_ok h2).mono fun v3 h3 ⟨hv3, x3⟩ => ⟨_, hv3, rfl, s2.ext.trans x3⟩
  rw [l35_PartialretroNil_b1_eq]
  refine HCalls.mono (K := fun v h' => v = .tuple #[.int .i64 0, .int .i64 1] ∧ h' = h2) (partialretro_Queue_Min_call (by rw [partialretro_Queue_Min_b0_eq]; exact condYes rfl ⟨rfl, rfl⟩)) fun v4 h5 ⟨hv4, hh⟩ => ⟨_, _, hv4, ?_⟩
  subst hh
  refine ⟨_, _, _, _, s2.blk.cell 0, Blk.cellA s2.blk 1, ?_⟩
  refine HCalls.mono (K := fun v h' => v = .tuple #[.agg #[.int .i64 0, .int .i64 0, .slice none 0 0], .int .i64 1] ∧ Ext h5 h') (partialretro_Log_Query_call ?_) fun v5 h6 ⟨hv5, x6⟩ => ⟨_, _, _, _, _, _, hv5, ?_⟩
  · rw [partialretro_Log_Query_b0_eq]
    refine (St.start h5).new (cs := [.int .i64 code, .slice p n c]) fun b2 h6 _ s6 => ?_
    refine s6.new (cs := [.int .i64 0, .int .i64 0, .slice none 0 0]) fun b3 h7 _ s7 => condYes rfl ?_
    refine s7.wr rfl (by simp) fun h8 s8 => ?_
    refine s8.wr (o := 1) (add_mk _ _ _) (by simp) fun h9 s9 => ?_
    refine s9.wr (o := 2) (add_mk _ _ _) (by simp) fun h10 s10 => ?_
    exact ⟨_, _, _, _, _, s10.blk.cell 0, Blk.cellA s10.blk 1, Blk.cellA s10.blk 2, rfl, s10.ext⟩
  have s6 := s2.grow x6
  refine s6.new (cs := [.int .i64 0, .int .i64 0, .slice none 0 0]) fun b2 h7 _ s7 => ?_
  refine s7.wr rfl (by simp) fun h8 s8 => ?_
  refine s8.wr (o := 1) (add_mk _ _ _) (by simp) fun h9 s9 => ?_
  refine s9.wr (o := 2) (add_mk _ _ _) (by simp) fun h10 s10 => ?_
  have s10 : St h h10 (cA b2 [.int .i64 0, .int .i64 0, .slice none 0 0] 61 + (cA b1 [.int .i64 code, .slice p n c] 25 + 0)) := s10
  refine HCalls.mono (K := fun v h' => v = .tuple #[.int .i64 0, .int .i64 1] ∧ h' = h10) (partialretro_Log_Failed_call (by rw [partialretro_Log_Failed_b0_eq]; exact condYes rfl ⟨rfl, rfl⟩)) fun v6 h11 ⟨hv6, hh⟩ => ⟨_, _, hv6, ?_⟩
  subst hh
  refine HCalls.mono (K := fun v h' => v = .int .i64 1 ∧ h' = h11) (partialretro_Queue_Insert_call (by rw [partialretro_Queue_Insert_b0_eq]; exact condYes rfl ⟨rfl, rfl⟩)) fun v7 h12 ⟨hv7, hh⟩ => ⟨_, hv7, condYes rfl ?_⟩
  subst hh
  refine HCalls.mono (K := fun v h' => v = .int .i64 1 ∧ h' = h12) (partialretro_Queue_DeleteMin_call (by rw [partialretro_Queue_DeleteMin_b0_eq]; exact condYes rfl ⟨rfl, rfl⟩)) fun v8 h13 ⟨hv8, hh⟩ => ⟨_, hv8, condYes rfl ?_⟩
  subst hh
  refine HCalls.mono (K := fun v h' => v = .int .i64 1 ∧ h' = h13) (partialretro_Queue_Revoke_call (by rw [partialretro_Queue_Revoke_b0_eq]; exact condYes rfl ⟨rfl, rfl⟩)) fun v9 h14 ⟨hv9, hh⟩ => ⟨_, hv9, condYes rfl (condYes rfl (condYes rfl ?_))⟩
  subst hh
  refine HCalls.mono (K := fun v h' => v = .slice none 0 0 ∧ h' = h14) (partialretro_Queue_Keys_call (by rw [partialretro_Queue_Keys_b0_eq]; exact condYes rfl ⟨rfl, rfl⟩)) fun v10 h15 ⟨hv10, hh⟩ => ⟨_, _, _, hv10, condYes rfl ?_⟩
  subst hh
  refine HCalls.mono (K := fun v h' => v = .slice none 0 0 ∧ h' = h15) (partialretro_Queue_Times_call (by rw [partialretro_Queue_Times_b0_eq]; exact condYes rfl ⟨rfl, rfl⟩)) fun v11 h16 ⟨hv11, hh⟩ => ⟨_, _, _, hv11, condYes rfl ?_⟩
  subst hh
  refine HCalls.mono (K := fun v h' => v = .slice none 0 0 ∧ h' = h16) (partialretro_Queue_Bridges_call (by rw [partialretro_Queue_Bridges_b0_eq]; exact condYes rfl ⟨rfl, rfl⟩)) fun v12 h17 ⟨hv12, hh⟩ => ⟨_, _, _, hv12, condYes rfl ?_⟩
  subst hh
  have k1 := s10.atomBlk
  refine ⟨_, _, _, _, k1.cell 0, Blk.cellA k1 1, ?_⟩
  refine HCalls.mono (K := fun v h' => v = .int .i64 1 ∧ Ext h17 h') (partialretro_Log_Add_call ?_) fun v13 h18 ⟨hv13, x18⟩ => ⟨_, hv13, condYes rfl ?_⟩
  · rw [partialretro_Log_Add_b0_eq]
    refine (St.start h17).new (cs := [.int .i64 code, .slice p n c]) fun b2 h6 _ s6 => condYes rfl ?_
    exact ⟨rfl, s6.ext⟩
  refine HCalls.mono (K := fun v h' => v = .int .i64 1 ∧ h' = h18) (partialretro_Log_Revoke_call (by rw [partialretro_Log_Revoke_b0_eq]; exact condYes rfl ⟨rfl, rfl⟩)) fun v14 h19 ⟨hv14, hh⟩ => ⟨_, hv14, condYes rfl ?_⟩
  subst hh
  have s19 := s10.grow x18
  refine ⟨_, _, _, _, _, s19.blk.cell 0, Blk.cellA s19.blk 1, Blk.cellA s19.blk 2, ?_⟩
  refine (same_ok (RdT.nil _ _) (RdT.nil _ _) (by decide)).mono fun v15 h20 ⟨x20, hv15⟩ => ⟨_, hv15, condYes (decide_eq_true rfl) (condYes rfl ?_)⟩
  have s20 := s19.grow x20
  refine HCalls.mono (K := fun v h' => v = .agg #[.int .i64 0, .slice none 0 0] ∧ Ext h20 h') (partialretro_Log_State_call ?_) fun v16 h21 ⟨hv16, x21⟩ => ⟨_, _, _, _, hv16, ?_⟩
  · rw [partialretro_Log_State_b0_eq]
    refine (St.start h20).new (cs := [.int .i64 0, .slice none 0 0]) fun b2 h6 _ s6 => condYes rfl ?_
    refine s6.wr rfl (by simp) fun h8 s8 => ?_
    refine s8.wr (o := 1) (add_mk _ _ _) (by simp) fun h9 s9 => ?_
    exact ⟨_, _, _, _, s9.blk.cell 0, Blk.cellA s9.blk 1, rfl, s9.ext⟩
  refine (same0_ok h21).mono fun v17 h22 ⟨hv17, x22⟩ => ⟨_, hv17, condYes rfl (condYes rfl ⟨rfl, ?_⟩)⟩
  exact (s20.grow x21).ext.trans x22
end Go.Proofs.YtdlkohenamlnaaaGreat

/- How the law's arguments are read: one operation, one step. -/
set_option maxRecDepth 10000
namespace Go.Proofs.YtdlkohenamlnaaaGreat
open Go Go.Sx Go.ChangeShapes Go.WideShapes Go.ChangeAt Go.RowKit Go.Deep
section
variable {H : Type} {enc : TypeId × Value → H} {w : World} {base : Nat} {held : Bool} {cs : Array Value} {d : DataW H} {ps : List MemPlace}
theorem rd_op1 (h : DataW.Trod enc Tryz.prog w base (fun _ => true) held 25 (.agg cs) d ps) : ∃ z a l c zs, cs = #[.int .i64 z, .slice a l c] ∧ l ≤ c ∧ InR z ∧ RdT TI w.heap a l zs := by
  obtain ⟨m, h⟩ := h
  obtain ⟨xs', m', _, _, hl', hxl', hx'⟩ := DataW.trod_struct Tryz.underlying25 h
  rw [show Tryz.prog.cellsOf 25 = 2 by kernel_rfl] at hl'
  have hcl : cs.toList.length = 2 := hl'
  obtain ⟨cl⟩ := cs
  change cl.length = 2 at hcl
  match cl, xs', hcl, hxl' with
  | [c3, c4], [v0, v1], _, _ =>
    obtain ⟨z3, e3, w3⟩ := dec_int (k := .i64) (by kernel_rfl) _ _ _ (hx' 0 _ rfl)
    have f3 : c3 = .int .i64 z3 := (List.cons.inj (show [c3] = [Value.int .i64 z3] from e3)).1
    have h1 : DataW.trod enc Tryz.prog w base (fun _ => true) held m' 23 [c4] = some v1 := hx' 1 _ rfl
    have key : ∃ a' l' c', [c4] = [Value.slice a' l' c'] := by
      rcases open_slice Tryz.underlying23 h1 with ⟨hcs, _⟩ | ⟨_, _, _, _, _, _, _, hcs, _⟩
      · exact ⟨_, _, _, hcs⟩
      · exact ⟨_, _, _, hcs⟩
    obtain ⟨a', l', c', hc1⟩ := key
    have f4 : c4 = .slice a' l' c' := (List.cons.inj hc1).1
    rw [hc1] at h1
    obtain ⟨zs, hr, hle, _⟩ := rd_flat (W := InR) TI Tryz.underlying23 (by kernel_rfl) (fun n cs x h => by
      obtain ⟨z, h1, h2⟩ := dec_int (k := .i64) (by kernel_rfl) n cs x h
      exact ⟨z, h1, bounds_i64 h2⟩) (d := v1.1) (ps := v1.2) ⟨m', h1⟩
    exact ⟨z3, a', l', c', zs, by rw [f3, f4], hle, bounds_i64 w3, hr⟩
theorem rd_step1 (h : DataW.Trod enc Tryz.prog w base (fun _ => true) held 27 (.agg cs) d ps) : ∃ z0 z1 z2 z a l c zs, cs = #[.int .i64 z0, .int .i64 z1, .int .i64 z2, .int .i64 z, .slice a l c] ∧ l ≤ c ∧ (InR z0 ∧ InR z1 ∧ InR z2 ∧ InR z) ∧ RdT TI w.heap a l zs := by
  obtain ⟨m, h⟩ := h
  obtain ⟨xs, m, _, _, hl, hxl, hx⟩ := DataW.trod_struct Tryz.underlying27 h
  rw [show Tryz.prog.cellsOf 27 = 5 by kernel_rfl] at hl
  have hcl : cs.toList.length = 5 := hl
  obtain ⟨cl⟩ := cs
  change cl.length = 5 at hcl
  match cl, xs, hcl, hxl with
  | [c0, c1, c2, c3, c4], [y0, y1, y2, y3], _, _ =>
    obtain ⟨z0, e0, w0⟩ := dec_int (k := .i64) (by kernel_rfl) _ _ _ (hx 0 _ rfl)
    obtain ⟨z1, e1, w1⟩ := dec_int (k := .i64) (by kernel_rfl) _ _ _ (hx 1 _ rfl)
    obtain ⟨z2, e2, w2⟩ := dec_int (k := .i64) (by kernel_rfl) _ _ _ (hx 2 _ rfl)
    have f0 : c0 = .int .i64 z0 := (List.cons.inj (show [c0] = [Value.int .i64 z0] from e0)).1
    have f1 : c1 = .int .i64 z1 := (List.cons.inj (show [c1] = [Value.int .i64 z1] from e1)).1
    have f2 : c2 = .int .i64 z2 := (List.cons.inj (show [c2] = [Value.int .i64 z2] from e2)).1
    have h3 : DataW.Trod enc Tryz.prog w base (fun _ => true) held 25 (.agg #[c3, c4]) y3.1 y3.2 := ⟨m, hx 3 _ rfl⟩
    obtain ⟨z, a, l, c, zs, hc, hle, hz, hr⟩ := rd_op1 h3
    have hc : [c3, c4] = [Value.int .i64 z, .slice a l c] := congrArg Array.toList hc
    have f3 : c3 = .int .i64 z := (List.cons.inj hc).1
    have f4 : c4 = .slice a l c := (List.cons.inj (List.cons.inj hc).2).1
    exact ⟨z0, z1, z2, z, a, l, c, zs, by rw [f0, f1, f2, f3, f4], hle, ⟨bounds_i64 w0, bounds_i64 w1, bounds_i64 w2, hz⟩, hr⟩
end
end Go.Proofs.YtdlkohenamlnaaaGreat
