/- Part Q7 Q8 Q9 Q10 Q11 R1 FB4 Q12 FB5 P36 P37 Q14 P40 SH SI SA SL SB SC SD SE I11 LZ of the proof: contracts of functions of the program, and what follows from them. -/
import Derived.Test.YtdlkohenamlnaaaGreatSxM4
import Derived.Test.YtdlkohenamlnaaaGreatSxX3
import Derived.Deep.Slices
import Derived.OpenShut
import Derived.Test.YtdlkohenamlnaaaGreatRows
import Derived.WalkKit
import Derived.ProofKit
import Derived.ShutString
import Derived.ChangeOld
import Derived.Below
import Derived.ChangeMaps5
import Derived.Deep.Grids
import Derived.Test.YtdlkohenamlnaaaGreatSxV
import Derived.Test.YtdlkohenamlnaaaGreatSxHR
set_option maxRecDepth 100000
/- A log in the past: changes, adding. -/
namespace Go.Proofs.YtdlkohenamlnaaaGreat
open Go Go.Sx
def PO (x : OpT) (y : OpL) (A : Bag) : Prop := x.1 = y.1 ∧ Sl TI x.2.1 x.2.2.1 x.2.2.2 y.2 A
theorem ybak {h0 h : Hp} {p : OA} {n c : Nat} {hs : List OpT} {ops : List OpL} {B0 B1 F : Bag} (a : Sl tO p n c hs B0) (al : AllH PO hs ops B1) (s : St h0 h (B0 + (B1 + F))) : OpsR h p n ops := by
  have hl := a.len
  have hl2 := al.len
  refine ⟨hs, a.rd s, by omega, fun i hi => ?_⟩
  obtain ⟨Ai, B, rfl, hp⟩ := al.pick (d := (0, [])) (d' := tO.d) (i := i) (by omega)
  exact ⟨hp.1, hp.2.cap, hp.2.rd (s.to (B := Ai + (B0 + (B + F))))⟩
def bad : List ResL → List Int → Int × Int
  | r :: rs, t :: ts => if r.1 = 0 then bad rs ts else (t, r.1)
  | _, _ => (0, 0)
theorem yayb : ∀ {rs : List ResL} {ts : List Int} {i : Nat}, rs.length = ts.length → i < rs.length → (∀ j, j < i → (rs.getD j (0, 0)).1 = 0) → (rs.getD i (0, 0)).1 ≠ 0 → bad rs ts = (ts.getD i 0, (rs.getD i (0, 0)).1)
  | [], _, _, _, hi, _, _ => by simp at hi
  | _ :: _, [], _, hl, _, _, _ => by simp at hl
  | r :: rs, t :: ts, 0, _, _, _, h => by
    have h : r.1 ≠ 0 := h
    rw [bad, if_neg h]; rfl
  | r :: rs, t :: ts, i + 1, hl, hi, ha, h => by
    have h0 : r.1 = 0 := ha 0 (by omega)
    rw [bad, if_pos h0, yayb (by simpa using hl) (by simpa using hi) (fun j hj => by simpa using ha (j + 1) (by omega)) (by simpa using h)]
    rfl
theorem yalg : ∀ {rs : List ResL} {ts : List Int}, rs.length = ts.length → (∀ j, j < rs.length → (rs.getD j (0, 0)).1 = 0) → bad rs ts = (0, 0)
  | [], [], _, _ => rfl
  | [], _ :: _, hl, _ => by simp at hl
  | _ :: _, [], hl, _ => by simp at hl
  | r :: rs, t :: ts, hl, ha => by
    have h0 : r.1 = 0 := ha 0 (by simp)
    rw [bad, if_pos h0]
    exact yalg (by simpa using hl) (fun j hj => by simpa using ha (j + 1) (by simpa using hj))
structure LogS where
  ts : List Int
  ops : List OpL
  rows : List (List Int)
  fl : Int
  wy : Int
abbrev logC (gb : Nat) (k : Int) (t o w : SH) (fl wy : Int) : Bag := cA gb [.int .i64 k, .slice t.1 t.2.1 t.2.2, .slice o.1 o.2.1 o.2.2, .int .i64 k, .slice w.1 w.2.1 w.2.2, .int .i64 fl, .int .i64 wy] 115
def LogA (k : Int) (gb : Nat) (L : LogS) (A : Bag) : Prop :=
  ∃ (t o w : SH) (hs : List OpT) (T B0 B1 R : Bag), A = logC gb k t o w L.fl L.wy + (T + (B0 + (B1 + R))) ∧ Sl TI t.1 t.2.1 t.2.2 L.ts T ∧ Sl tO o.1 o.2.1 o.2.2 hs B0 ∧ AllH PO hs L.ops B1 ∧ RowsA w L.rows R ∧ L.ts.length = L.ops.length
def RunK (k : Int) (runF : List OpL → List (List Int) × List ResL) (h : Hp) (ops : List OpL) (v : Value) (h' : Hp) : Prop :=
  ∃ q m d o od B C, v = .tuple #[.agg #[.int .i64 k, .slice q m d], .slice o ops.length od, .int .i64 0] ∧ RowsA (q, m, d) (runF ops).1 B ∧ Sl tRes o ops.length od (runF ops).2 C ∧ St h h' (B + (C + 0))
def RunOk (k : Int) (runF : List OpL → List (List Int) × List ResL) : Prop :=
  ∀ {h : Hp} {p : OA} {n c : Nat} {ops : List OpL}, OpsR h p n ops → n ≤ 1000 → AllV k ops → yaae Tryz.prog 121 #[.agg #[.int .i64 k, .slice none 0 0], .slice p n c] h (RunK k runF h ops)
theorem yaml {k : Int} (hk : 1 ≤ k ∧ k ≤ 6) (h : Hp) : yaae Tryz.prog 34 #[.int .i64 k] h (fun v h' => ∃ gb A, v = .tuple #[ptr gb, .int .i64 0] ∧ LogA k gb ⟨[], [], [], 0, 0⟩ A ∧ St h h' A) := by
  refine zby_call ?_
  rw [zby_b0]
  refine (yavd hk h).mono fun v h1 ⟨hv, x1⟩ => ⟨_, _, _, _, _, hv, ?_⟩
  have s1 := (St.start h).grow x1
  refine s1.new (cs := [.int .i64 0, .slice none 0 0]) fun b1 h2 _ s2 => ?_
  refine s2.wr rfl (by simp) fun h3 s3 => ?_
  refine s3.wr (o := 1) (yaaj _ _ _) (by simp) fun h4 s4 => yaam rfl ?_
  refine ⟨_, _, _, _, s4.blk.cell 0, Blk.cellA s4.blk 1, ?_⟩
  refine s4.drop.new (cs := [.int .i64 k, .slice none 0 0, .slice none 0 0, .int .i64 k, .slice none 0 0, .int .i64 0, .int .i64 0]) fun b2 h5 _ s5 => ?_
  exact ⟨b2, _, rfl, ⟨(none, 0, 0), (none, 0, 0), (none, 0, 0), [], 0, 0, 0, 0, rfl, Sl.nil, Sl.nil, rfl, Nest.nil, rfl⟩, s5.to⟩
def LogR (h0 : Hp) (G : Bag) (k : Int) (gb : Nat) (R : LogS × Int) (v : Value) (h' : Hp) : Prop := v = .int .i64 R.2 ∧ ∃ A', LogA k gb R.1 A' ∧ St h0 h' (A' + G)
def chgL (runF : List OpL → List (List Int) × List ResL) (L : LogS) (ts : List Int) (ops : List OpL) : LogS × Int :=
  if (bad (runF ops).2 ts).2 = 0 then (⟨ts, ops, (runF ops).1, L.fl, L.wy⟩, 0) else (⟨L.ts, L.ops, L.rows, (bad (runF ops).2 ts).1, (bad (runF ops).2 ts).2⟩, 13)
section
variable {h0 h : Hp} {k : Int} {gb : Nat} {L : LogS} {runF : List OpL → List (List Int) × List ResL} {t o w : SH} {hs : List OpT} {T B0 B1 R G : Bag}
theorem yaho (hk : 1 ≤ k ∧ k ≤ 6) (hR : RunOk k runF) (a1 : Sl TI t.1 t.2.1 t.2.2 L.ts T) (a2 : Sl tO o.1 o.2.1 o.2.2 hs B0) (a3 : AllH PO hs L.ops B1) (a4 : RowsA w L.rows R) (hle : L.ts.length = L.ops.length)
    {tp op : OA} {n tc oc : Nat} {ts' : List Int} {hs' : List OpT} {ops' : List OpL} {T' B0' X N Y : Bag} (hB : B1 + X = N + Y) (b1 : Sl TI tp n tc ts' T') (b2 : Sl tO op n oc hs' B0') (b3 : AllH PO hs' ops' N) (hn : n ≤ 1000) (hv : AllV k ops')
    (s : St h0 h (logC gb k t o w L.fl L.wy + (T' + (B0' + (B1 + X + (T + (B0 + (R + G)))))))) :
    yaae Tryz.prog 84 #[ptr gb, .slice tp n tc, .slice op n oc] h (LogR h0 G k gb (chgL runF L ts' ops')) := by
  have l1 := b1.len
  have l2 := b2.len
  have l3 := b3.len
  refine zbw_call ?_
  rw [zbw_b0]
  refine ⟨_, s.blk.cell 0, (yavd hk h).mono fun v1 h1 ⟨hv1, x1⟩ => ⟨_, _, _, _, _, hv1, ?_⟩⟩
  have s1 := s.grow x1
  refine s1.new (cs := [.int .i64 0, .slice none 0 0]) fun bb1 h2 _ s2 => ?_
  refine s2.wr rfl (by simp) fun h3 s3 => ?_
  refine s3.wr (o := 1) (yaaj _ _ _) (by simp) fun h4 s4 => ?_
  refine ⟨_, _, _, _, s4.blk.cell 0, Blk.cellA s4.blk 1, ?_⟩
  have s4 := s4.drop
  have s4n := s4
  rw [hB] at s4n
  refine (hR (ybak b2 b3 (s4n.to (B := B0' + (N + (Y + (logC gb k t o w L.fl L.wy + (T' + (T + (B0 + (R + G)))))))))) hn hv).mono fun v2 h5 ⟨q, m, d, ro, rod, RB, RC, hv2, na, oa, t5⟩ => ⟨_, _, _, _, _, _, _, _, hv2, ?_⟩
  have s5 := (s4.join t5).to (B := RB + (RC + (logC gb k t o w L.fl L.wy + (T' + (B0' + (B1 + X + (T + (B0 + (R + G)))))))))
  have hol := oa.len
  have hol : (runF ops').2.length = n := by omega
  refine s5.new (cs := [.int .i64 0, .slice none 0 0]) fun bb2 h6 _ s6 => ?_
  refine s6.wr rfl (by simp) fun h7 s7 => ?_
  refine s7.wr (o := 1) (yaaj _ _ _) (by simp) fun h8 s8 => yaam rfl ?_
  have s8 : St h0 h8 (cA bb2 [.int .i64 k, .slice q m d] 66 + (RB + (RC + (logC gb k t o w L.fl L.wy + (T' + (B0' + (B1 + X + (T + (B0 + (R + G)))))))))) := s8
  refine ⟨fun x h' => ∃ i : Nat, x.1 = i ∧ i ≤ n ∧ (∀ j, j < i → ((runF ops').2.getD j (0, 0)).1 = 0) ∧ St h0 h' (cA bb2 [.int .i64 k, .slice q m d] 66 + (RB + (RC + (logC gb k t o w L.fl L.wy + (T' + (B0' + (B1 + X + (T + (B0 + (R + G)))))))))), fun x _ => n - x.1.toNat, ⟨0, rfl, by omega, fun j hj => by omega, s8⟩, ?_⟩
  rintro ⟨_, _⟩ h9 ⟨i, rfl, hin, hall, s9⟩
  dsimp only
  rw [zbw_b1]
  refine condP (fun hlt => ?_) (fun hge => ?_)
  · have sC := s9.to (B := RC + (cA bb2 [.int .i64 k, .slice q m d] 66 + (RB + (logC gb k t o w L.fl L.wy + (T' + (B0' + (B1 + X + (T + (B0 + (R + G))))))))))
    refine (oa.rd sC).idx (by omega) (by omega) fun a _ hcl => ⟨((runF ops').2.getD i (0, 0)).1, ((runF ops').2.getD i (0, 0)).2, none, 0, 0, ?_, ?_, ?_, ?_⟩
    · rw [Int.toNat_natCast] at hcl; exact hcl 0 (show 0 < 3 by decide)
    · rw [Int.toNat_natCast] at hcl; exact hcl 1 (show 1 < 3 by decide)
    · rw [Int.toNat_natCast] at hcl; exact hcl 2 (show 2 < 3 by decide)
    generalize hre : (runF ops').2.getD i (0, 0) = re
    refine s9.new (cs := [.int .i64 0, .int .i64 0, .slice none 0 0]) fun bb3 h10 _ s10 => ?_
    refine s10.wr rfl (by simp) fun h11 s11 => ?_
    refine s11.wr (o := 1) (yaaj _ _ _) (by simp) fun h12 s12 => ?_
    refine s12.wr (o := 2) (yaaj _ _ _) (by simp) fun h13 s13 => ?_
    have s13 : St h0 h13 (cA bb3 [.int .i64 re.1, .int .i64 re.2, .slice none 0 0] 61 + (cA bb2 [.int .i64 k, .slice q m d] 66 + (RB + (RC + (logC gb k t o w L.fl L.wy + (T' + (B0' + (B1 + X + (T + (B0 + (R + G))))))))))) := s13
    refine ⟨_, s13.blk.cell 0, condN (fun hne => ?_) (fun he => ?_)⟩
    · have hb := yayb (rs := (runF ops').2) (ts := ts') (i := i) (by omega) (by omega) hall (by rw [hre]; exact hne)
      rw [hre] at hb
      have e : chgL runF L ts' ops' = (⟨L.ts, L.ops, L.rows, ts'.getD i 0, re.1⟩, 13) := by rw [chgL, hb, if_neg hne]
      rw [e]
      have sT := s13.to (B := T' + (cA bb3 [.int .i64 re.1, .int .i64 re.2, .slice none 0 0] 61 + (cA bb2 [.int .i64 k, .slice q m d] 66 + (RB + (RC + (logC gb k t o w L.fl L.wy + (B0' + (B1 + X + (T + (B0 + (R + G)))))))))))
      refine (b1.rd sT).int (by omega) (by omega) ?_
      rw [Int.toNat_natCast]
      refine ⟨_, s13.blk.cell 0, ?_⟩
      have s14 := s13.to (B := logC gb k t o w L.fl L.wy + (cA bb3 [.int .i64 re.1, .int .i64 re.2, .slice none 0 0] 61 + (cA bb2 [.int .i64 k, .slice q m d] 66 + (RB + (RC + (T' + (B0' + (B1 + X + (T + (B0 + (R + G)))))))))))
      refine s14.wr (o := 5) (yaaj _ _ _) (by simp) fun h14 s15 => ?_
      have k3 := (s15.at (cA bb3 [.int .i64 re.1, .int .i64 re.2, .slice none 0 0] 61)).blk
      refine ⟨⟨_, k3.cell 0, rfl⟩, ?_⟩
      refine s15.wr (o := 6) (yaaj _ _ _) (by simp) fun h15 s16 => ?_
      have s16 : St h0 h15 (logC gb k t o w (ts'.getD i 0) re.1 + (cA bb3 [.int .i64 re.1, .int .i64 re.2, .slice none 0 0] 61 + (cA bb2 [.int .i64 k, .slice q m d] 66 + (RB + (RC + (T' + (B0' + (B1 + X + (T + (B0 + (R + G))))))))))) := s16
      refine ⟨rfl, _, ⟨t, o, w, hs, T, B0, B1, R, rfl, a1, a2, a3, a4, hle⟩, ?_⟩
      exact (s16.to (B := (cA bb3 [.int .i64 re.1, .int .i64 re.2, .slice none 0 0] 61 + (cA bb2 [.int .i64 k, .slice q m d] 66 + (RB + (RC + (T' + (B0' + X)))))) + (logC gb k t o w (ts'.getD i 0) re.1 + (T + (B0 + (B1 + R))) + G))).drop
    · rw [zbw_b2]
      refine ⟨⟨by omega, by omega⟩, ⟨i + 1, by simp only; omega, by omega, fun j hj => ?_, s13.drop⟩, by simp only; omega⟩
      rcases Nat.lt_or_ge j i with hj2 | hj2
      · exact hall j hj2
      · obtain rfl : j = i := by omega
        rw [hre]; exact he
  · obtain rfl : i = n := by omega
    have hb := yalg (rs := (runF ops').2) (ts := ts') (by omega) (fun j hj => hall j (by omega))
    have e : chgL runF L ts' ops' = (⟨ts', ops', (runF ops').1, L.fl, L.wy⟩, 0) := by rw [chgL, hb, if_pos rfl]
    rw [e, zbw_b3]
    refine ⟨_, _, _, _, s9.blk.cell 0, Blk.cellA s9.blk 1, ?_⟩
    have s10 := s9.to (B := logC gb k t o w L.fl L.wy + (cA bb2 [.int .i64 k, .slice q m d] 66 + (RB + (RC + (T' + (B0' + (B1 + X + (T + (B0 + (R + G))))))))))
    refine s10.wr (o := 1) (yaaj _ _ _) (by simp) fun h11 s11 => ?_
    have k2 := s11.atomBlk
    refine ⟨⟨_, _, _, _, k2.cell 0, Blk.cellA k2 1, rfl⟩, ?_⟩
    refine s11.wr (o := 2) (yaaj _ _ _) (by simp) fun h12 s12 => ?_
    have k2 := s12.atomBlk
    refine ⟨⟨_, _, _, _, k2.cell 0, Blk.cellA k2 1, rfl⟩, ?_⟩
    refine s12.wr (o := 3) (yaaj _ _ _) (by simp) fun h13 s13 => ?_
    refine s13.wr (o := 4) (by rw [yaaj, yaaj]) (by simp) fun h14 s14 => ?_
    have s14 : St h0 h14 (logC gb k (tp, i, tc) (op, i, oc) (q, m, d) L.fl L.wy + (cA bb2 [.int .i64 k, .slice q m d] 66 + (RB + (RC + (T' + (B0' + (B1 + X + (T + (B0 + (R + G)))))))))) := s14
    refine ⟨rfl, _, ⟨(tp, i, tc), (op, i, oc), (q, m, d), hs', T', B0', N, RB, rfl, b1, b2, b3, na, by show ts'.length = ops'.length; omega⟩, ?_⟩
    rw [hB] at s14
    exact (s14.to (B := (cA bb2 [.int .i64 k, .slice q m d] 66 + (RC + (T + (B0 + (R + Y))))) + (logC gb k (tp, i, tc) (op, i, oc) (q, m, d) L.fl L.wy + (T' + (B0' + (N + RB))) + G))).drop
theorem yapb (hk : 1 ≤ k ∧ k ≤ 6) (hR : RunOk k runF) (a1 : Sl TI t.1 t.2.1 t.2.2 L.ts T) (a2 : Sl tO o.1 o.2.1 o.2.2 hs B0) (a3 : AllH PO hs L.ops B1) (a4 : RowsA w L.rows R) (hle : L.ts.length = L.ops.length)
    {tp op : OA} {n tc oc : Nat} {ts' : List Int} {hs' : List OpT} {ops' : List OpL} {T' B0' X : Bag} (b1 : Sl TI tp n tc ts' T') (b2 : Sl tO op n oc hs' B0') (b3 : AllH PO hs' ops' (B1 + X)) (hn : n ≤ 1000) (hv : AllV k ops')
    (s : St h0 h (logC gb k t o w L.fl L.wy + (T' + (B0' + (B1 + X + (T + (B0 + (R + G)))))))) :
    yaae Tryz.prog 84 #[ptr gb, .slice tp n tc, .slice op n oc] h (LogR h0 G k gb (chgL runF L ts' ops')) :=
  yaho (N := B1 + X) (Y := 0) hk hR a1 a2 a3 a4 hle (by rw [Bag.yaqx]) b1 b2 b3 hn hv s
end
end Go.Proofs.YtdlkohenamlnaaaGreat
/- A log in the past: adding an operation that may be added. -/
namespace Go.Proofs.YtdlkohenamlnaaaGreat
open Go Go.Sx
def updT (k c : Int) : Bool := ((wdT k).getD (c - 1).toNat tW.d).2.2
theorem yans {k c : Int} (_ : 1 ≤ k ∧ k ≤ 6) (hc : 1 ≤ c ∧ c ≤ (arT k).length) (h : Hp) : yaae Tryz.prog 110 #[.int .i64 k, .int .i64 c] h (fun v h' => v = .tuple #[.bool (updT k c), .int .i64 0] ∧ Ext h h') := by
  have hwl := ybax k
  refine zam_call ?_
  rw [zam_b0]
  refine (yald k h).mono fun v1 h2 ⟨q, d, hv1, rw1, x2⟩ => ⟨_, _, _, hv1, ?_⟩
  obtain ⟨a, rfl, _⟩ := rw1.at_ (i := 0) (by omega)
  refine yaam rfl (condP (fun h => by omega) (fun _ => condP (fun h => by omega) (fun _ => ?_)))
  have hl8 : (arT k).length ≤ 8 := by unfold arT; repeat' split
                                      all_goals decide
  rw [zam_b1]
  refine ⟨⟨by omega, by omega⟩, ?_⟩
  exact rw1.idx (by omega) (by omega) fun a _ hcl => ⟨_, hcl 2 (show 2 < 3 by decide), rfl, x2⟩
theorem yail {k c : Int} (hk : 1 ≤ k ∧ k ≤ 6) (hc : 1 ≤ c ∧ c ≤ (arT k).length) {h : Hp} {gb : Nat} {q : OA} {m d : Nat} (hg : cell h ⟨gb, 0, none⟩ = some (.int .i64 k)) :
    yaae Tryz.prog 72 #[ptr gb, .agg #[.int .i64 c, .slice q m d]] h (fun v h' => v = .bool (updT k c) ∧ Ext h h') := by
  refine zbx_call ?_
  rw [zbx_b0]
  refine (St.start h).new (cs := [.int .i64 c, .slice q m d]) fun b1 h1 x1 s1 => ?_
  refine ⟨_, x1.cell hg, _, s1.blk.cell 0, ?_⟩
  exact (yans hk hc h1).mono fun v h2 ⟨hv, x2⟩ => ⟨_, _, hv, rfl, x1.trans x2⟩
theorem AllH.cutO {hs : List OpT} {ops : List OpL} {A : Bag} (h : AllH PO hs ops A) (i : Nat) : ∃ A1 A2, A = A1 + A2 ∧ AllH PO (hs.take i) (ops.take i) A1 ∧ AllH PO (hs.drop i) (ops.drop i) A2 := by
  have hl := h.len
  refine AllH.split (hs.take i) (ops.take i) (by rw [List.length_take, List.length_take, hl]) ?_
  rw [List.take_append_drop, List.take_append_drop]
  exact h
def putL (i : Nat) {α : Type} (x : α) (l : List α) : List α := l.take i ++ x :: l.drop i
section
variable {h0 h : Hp} {k : Int} {gb : Nat} {L : LogS} {runF : List OpL → List (List Int) × List ResL} {t o w : SH} {hs : List OpT} {T B0 B1 R G : Bag}
theorem yaux (hk : 1 ≤ k ∧ k ≤ 6) (hR : RunOk k runF) (a1 : Sl TI t.1 t.2.1 t.2.2 L.ts T) (a2 : Sl tO o.1 o.2.1 o.2.2 hs B0) (a3 : AllH PO hs L.ops B1) (a4 : RowsA w L.rows R) (hle : L.ts.length = L.ops.length) (hn : L.ts.length < 1000)
    {time code : Int} {zs : List Int} {i bo : Nat} {q : OA} {m d : Nat} {X : Bag} {K : VK} (hK : ∀ v h', LogR h0 G k gb (chgL runF L (putL i time L.ts) (putL i (code, zs) L.ops)) v h' → K v h') (hi : i ≤ L.ts.length) (ox : Sl TI q m d zs X) (hv : AllV k L.ops) (hv1 : OpV k code zs)
    (s : St h0 h (cA bo [.int .i64 code, .slice q m d] 25 + (logC gb k t o w L.fl L.wy + (X + (T + (B0 + (B1 + (R + G)))))))) :
    zbr_b3 (some ⟨gb, 0, none⟩) time (i : Int) (some ⟨bo, 0, none⟩) h K := by
  have l1 := a1.len
  have l2 := a2.len
  have l3 := a3.len
  have ln : t.2.1 = o.2.1 := by omega
  have kg := s.atomBlk
  have ko := s.blk
  have c1 : cell h ((⟨gb, 0, none⟩ : Addr).add 1) = some (.slice t.1 t.2.1 t.2.2) := Blk.cellA kg 1
  have c2 : cell h ((⟨gb, 0, none⟩ : Addr).add 2) = some (.slice o.1 o.2.1 o.2.2) := Blk.cellA kg 2
  have e0 : cell h ⟨bo, 0, none⟩ = some (.int .i64 code) := ko.cell 0
  have e1 : cell h ((⟨bo, 0, none⟩ : Addr).add 1) = some (.slice q m d) := Blk.cellA ko 1
  have rt := a1.rd (s.to (B := T + (logC gb k t o w L.fl L.wy + (cA bo [.int .i64 code, .slice q m d] 25 + (X + (B0 + (B1 + (R + G))))))))
  have ro := a2.rd (s.to (B := B0 + (logC gb k t o w L.fl L.wy + (cA bo [.int .i64 code, .slice q m d] 25 + (X + (T + (B1 + (R + G))))))))
  have clone1 : ∀ {h' : Hp}, Ext h h' → yaae Tryz.prog 24 #[.slice t.1 t.2.1 t.2.2] h' (fun v h'' => ∃ q d A, v = .slice q t.2.1 d ∧ Sl TI q t.2.1 d L.ts A ∧ St h' h'' A) := fun x => yaca (rt.ext x) (by omega)
  have clone2 : ∀ {h' : Hp}, Ext h h' → yaae Tryz.prog 86 #[.slice o.1 o.2.1 o.2.2] h' (fun v h'' => ∃ q d A, v = .slice q t.2.1 d ∧ Sl tO q t.2.1 d hs A ∧ St h' h'' A) := fun x => by
    rw [ln]; exact yamd (ro.ext x) (by omega)
  have ins1 : ∀ {h' : Hp} {F : Bag} {p : OA} {c bv : Nat} {A : Bag}, Sl TI p t.2.1 c L.ts A → St h h' (A + (cA bv [.int .i64 time] 3 + F)) → yaae Tryz.prog 23 #[.slice p t.2.1 c, .int .i64 (i : Int), .slice (some ⟨bv, 0, none⟩) 1 1] h' (fun v h'' => ∃ p' c' A', v = .slice p' (t.2.1 + 1) c' ∧ Sl TI p' (t.2.1 + 1) c' (putL i time L.ts) A' ∧ St h h'' (A' + (cA bv [.int .i64 time] 3 + F))) :=
    fun a s => yara (x := time) s a rfl (by omega) (by omega)
  have ins2 : ∀ {h' : Hp} {F : Bag} {p : OA} {c bv : Nat} {A : Bag}, Sl tO p t.2.1 c hs A → St h h' (A + (cA bv [.int .i64 code, .slice q m d] 25 + F)) → yaae Tryz.prog 85 #[.slice p t.2.1 c, .int .i64 (i : Int), .slice (some ⟨bv, 0, none⟩) 1 1] h' (fun v h'' => ∃ p' c' A', v = .slice p' (t.2.1 + 1) c' ∧ Sl tO p' (t.2.1 + 1) c' (putL i (code, q, m, d) hs) A' ∧ St h h'' (A' + (cA bv [.int .i64 code, .slice q m d] 25 + F))) :=
    fun a s => yaom (x := (code, q, m, d)) s a rfl (by omega) (by omega)
  have b3 : AllH PO (putL i (code, q, m, d) hs) (putL i (code, zs) L.ops) (B1 + X) := by
    obtain ⟨C1, C2, rfl, x1, x2⟩ := AllH.cutO a3 i
    have := x1.append (AllH.append (AllH.one (P := PO) (b := (code, q, m, d)) (t := (code, zs)) ⟨rfl, ox⟩) x2)
    rwa [show C1 + (X + C2) = C1 + C2 + X by ac_rfl] at this
  have hv' : AllV k (putL i (code, zs) L.ops) := fun y hy => by
    rcases List.mem_append.1 hy with hy | hy
    · exact hv y (List.mem_of_mem_take hy)
    · rcases List.mem_cons.1 hy with rfl | hy
      · exact hv1
      · exact hv y (List.mem_of_mem_drop hy)
  have fin : ∀ {h' : Hp} {p1 p2 : OA} {c1' c2' : Nat} {A1 A2 J : Bag}, Sl TI p1 (t.2.1 + 1) c1' (putL i time L.ts) A1 → Sl tO p2 (t.2.1 + 1) c2' (putL i (code, q, m, d) hs) A2 → St h h' (A1 + (A2 + J)) →
      yaae Tryz.prog 84 #[ptr gb, .slice p1 (t.2.1 + 1) c1', .slice p2 (t.2.1 + 1) c2'] h' (fun v h'' => ∃ r : Int, v = .int .i64 r ∧ K (.int .i64 r) h'') := by
    intro h' p1 p2 c1' c2' A1 A2 J f1 f2 s'
    have sj := (s.join s').to (B := (J + cA bo [.int .i64 code, .slice q m d] 25) + (logC gb k t o w L.fl L.wy + (A1 + (A2 + (B1 + X + (T + (B0 + (R + G))))))))
    exact (yapb hk hR a1 a2 a3 a4 hle f1 f2 b3 (by omega) hv' sj.drop).mono fun v h'' ⟨hv, hA⟩ => ⟨_, hv, hK _ _ ⟨rfl, hA⟩⟩
  rw [zbr_b3]
  refine ⟨_, _, _, c1, _, _, _, c2, _, _, _, _, e0, e1, ?_⟩
  have s := St.start h
  repeat' first
    | (with_reducible refine St.new s (cs := [.int .i64 time]) ?_); intro bt _ _ s
    | (with_reducible refine St.new s (cs := [.int .i64 code, .slice q m d]) ?_); intro bp _ _ s
    | (with_reducible refine yaae.mono (clone1 s.ext) ?_); rintro _ _ ⟨q1, d1, A1, hv, o1, tt⟩; refine ⟨_, _, _, hv, ?_⟩; have s := s.join tt; clear tt
    | (with_reducible refine yaae.mono (clone2 s.ext) ?_); rintro _ _ ⟨q2, d2, A2, hv, o2, tt⟩; refine ⟨_, _, _, hv, ?_⟩; have s := s.join tt; clear tt
    | (with_reducible refine yaae.mono (ins1 (F := 0) o1 ?_) ?_); (exact s.to); rintro _ _ ⟨q1, d1, A1, hv, o1, s⟩; refine ⟨_, _, _, hv, ?_⟩
    | (with_reducible refine yaae.mono (ins1 (F := cA bp [.int .i64 code, .slice q m d] 25) o1 ?_) ?_); (exact s.to); rintro _ _ ⟨q1, d1, A1, hv, o1, s⟩; refine ⟨_, _, _, hv, ?_⟩
    | (with_reducible refine yaae.mono (ins2 (F := A1 + cA bt [.int .i64 time] 3) o2 ?_) ?_); (exact s.to); rintro _ _ ⟨q2, d2, A2, hv, o2, s⟩; refine ⟨_, _, _, hv, ?_⟩
    | (with_reducible refine fin (J := cA bt [.int .i64 time] 3 + cA bp [.int .i64 code, .slice q m d] 25) o1 o2 ?_); exact s.to
    | with_reducible refine ⟨⟨_, _, _, s.ext.cell c1, rfl⟩, ?_⟩
    | with_reducible refine ⟨⟨_, _, _, s.ext.cell c2, rfl⟩, ?_⟩
    | with_reducible refine ⟨⟨_, _, _, _, s.ext.cell e0, s.ext.cell e1, rfl⟩, ?_⟩
    | with_reducible refine ⟨?_, ?_⟩
end
end Go.Proofs.YtdlkohenamlnaaaGreat
/- A log in the past: Add; comparing lists; the law's small functions. -/
namespace Go.Proofs.YtdlkohenamlnaaaGreat
open Go Go.Sx
section
variable {h0 h : Hp} {k : Int} {gb : Nat} {L : LogS} {runF : List OpL → List (List Int) × List ResL} {A G : Bag}
theorem yauw {k c : Int} {zs : List Int} (hv : OpV k c zs) : zs.length ≤ 64 := by
  have h4 := yaxl k (c - 1).toNat
  have := hv.2
  split at this
  · omega
  · omega
theorem yapr (hk : 1 ≤ k ∧ k ≤ 6) (hR : RunOk k runF) (la : LogA k gb L A) (hn : L.ts.length < 1000) (hinc : Inc L.ts) {time code : Int} {zs : List Int} {q : OA} {m d : Nat} (hno : ∀ z ∈ L.ts, z ≠ time) (ht : timeP time) (hv : AllV k L.ops) (hv1 : OpV k code zs) (hu : updT k code = true)
    (rz : RdS h0 G TI q m zs) (s : St h0 h (A + G)) :
    yaae Tryz.prog 41 #[ptr gb, .int .i64 time, .agg #[.int .i64 code, .slice q m d]] h (fun v h' => ∃ i : Nat, IsLb L.ts time i ∧ LogR h0 G k gb (chgL runF ⟨L.ts, L.ops, L.rows, 0, 0⟩ (putL i time L.ts) (putL i (code, zs) L.ops)) v h') := by
  obtain ⟨t, o, w, hs, T, B0, B1, R, rfl, a1, a2, a3, a4, hle⟩ := la
  have l1 := a1.len
  refine zbr_call ?_
  rw [zbr_b0]
  refine s.new (cs := [.int .i64 code, .slice q m d]) fun b1 h1 _ s1 => yaam rfl ?_
  have s1 := s1.to (B := logC gb k t o w L.fl L.wy + (cA b1 [.int .i64 code, .slice q m d] 25 + (T + (B0 + (B1 + (R + G))))))
  refine s1.wr (o := 5) (yaaj _ _ _) (by simp) fun h2 s2 => ?_
  refine s2.wr (o := 6) (yaaj _ _ _) (by simp) fun h3 s3 => ?_
  have s3 : St h0 h3 (logC gb k t o w 0 0 + (cA b1 [.int .i64 code, .slice q m d] 25 + (T + (B0 + (B1 + (R + G)))))) := s3
  have rz3 := rz h3 (logC gb k t o w 0 0 + (cA b1 [.int .i64 code, .slice q m d] 25 + (T + (B0 + (B1 + R))))) s3.to
  have k1 := s3.atomBlk
  refine ⟨_, s3.blk.cell 0, _, _, _, _, k1.cell 0, Blk.cellA k1 1, ?_⟩
  refine (yajw (k := k) (c := code) rz3).mono fun v1 h4 ⟨hv1', x4⟩ => ⟨_, hv1', yaam (by rw [decide_eq_true hv1]; rfl) ?_⟩
  have s4 := s3.grow x4
  have k1 := s4.atomBlk
  refine ⟨_, _, _, _, k1.cell 0, Blk.cellA k1 1, ?_⟩
  refine (yail hk hv1.1 (s4.blk.cell 0)).mono fun v2 h5 ⟨hv2, x5⟩ => ⟨_, hv2, yaam (by rw [hu]; rfl) ?_⟩
  have s5 := s4.grow x5
  refine (yain time h5).mono fun v3 h6 ⟨hv3, hh⟩ => ⟨_, hv3, yaam (by rw [decide_eq_true (show 0 ≤ time ∧ time ≤ 1073741824 from ht)]; rfl) ?_⟩
  subst hh
  rw [zbr_b1]
  refine ⟨_, _, _, Blk.cellA s5.blk 1, ?_⟩
  have rT := a1.rd (s5.to (B := T + (logC gb k t o w 0 0 + (cA b1 [.int .i64 code, .slice q m d] 25 + (B0 + (B1 + (R + G)))))))
  refine (yahv (key := time) rT.ints (by omega) hinc).mono fun v4 h7 ⟨hh, i, hlb, hv4⟩ => ⟨_, _, hv4, ?_⟩
  subst hh
  have hilen := hlb.1
  refine yaam (decide_eq_false fun hx => ?_) ?_
  · exact hno _ (yatc (l := L.ts) (i := i) (d := 0) (by omega)) hx.2
  refine ⟨_, _, _, Blk.cellA s5.blk 1, condP (fun h => by omega) (fun _ => ?_)⟩
  have k1 := s5.atomBlk
  rw [zbr_b2]
  refine ⟨_, k1.cell 0, _, _, _, Blk.cellA k1 1, ?_, ?_⟩
  · have rz5 := rz h7 (logC gb k t o w 0 0 + (cA b1 [.int .i64 code, .slice q m d] 25 + (T + (B0 + (B1 + R))))) s5.to
    have hlz := yauw hv1
    have hzl := rz5.len
    refine (yaca rz5 (by omega)).mono fun v5 h8 ⟨q5, d5, X, hv5, o5, t5⟩ => ⟨_, _, _, hv5, ?_⟩
    have s8 := s5.join t5
    have k1 := (s8.at (cA b1 [.int .i64 code, .slice q m d] 25)).blk
    refine ⟨⟨_, k1.cell 0, rfl⟩, ?_⟩
    refine s8.new (cs := [.int .i64 0, .slice none 0 0]) fun b2 h9 x9 s9 => ⟨rfl, ⟨_, (k1.ext x9).cell 0, rfl⟩, ?_⟩
    refine s9.wr rfl (by simp) fun h10 s10 => ?_
    refine s10.wr (o := 1) (yaaj _ _ _) (by simp) fun h11 s11 => ?_
    have s11 : St h0 h11 (cA b2 [.int .i64 code, .slice q5 m d5] 25 + (X + (logC gb k t o w 0 0 + (cA b1 [.int .i64 code, .slice q m d] 25 + (T + (B0 + (B1 + (R + G)))))))) := s11
    exact yaux (L := ⟨L.ts, L.ops, L.rows, 0, 0⟩) (G := G) hk hR a1 a2 a3 a4 hle hn (fun v h' hv => ⟨i, hlb, hv⟩) hilen o5 hv hv1 ((s11.to (B := cA b1 [.int .i64 code, .slice q m d] 25 + (cA b2 [.int .i64 code, .slice q5 m d5] 25 + (logC gb k t o w 0 0 + (X + (T + (B0 + (B1 + (R + G))))))))).drop)
  · refine s5.new (cs := [.int .i64 0, .slice none 0 0]) fun b2 h9 x9 s9 => ⟨⟨_, _, _, Blk.cellA (k1.ext x9) 1, rfl⟩, ⟨_, (k1.ext x9).cell 0, rfl⟩, ?_⟩
    have s9 := s9.to (B := cA b2 [.int .i64 0, .slice none 0 0] 25 + (logC gb k t o w 0 0 + (cA b1 [.int .i64 code, .slice q m d] 25 + (T + (B0 + (B1 + (R + G)))))))
    have rz5 := rz h9 (cA b2 [.int .i64 0, .slice none 0 0] 25 + (logC gb k t o w 0 0 + (cA b1 [.int .i64 code, .slice q m d] 25 + (T + (B0 + (B1 + R)))))) s9.to
    have hlz := yauw hv1
    have hzl := rz5.len
    refine (yaca rz5 (by omega)).mono fun v5 h8 ⟨q5, d5, X, hv5, o5, t5⟩ => ⟨_, _, _, hv5, ?_⟩
    have s8 := (s9.join t5).to (B := cA b2 [.int .i64 0, .slice none 0 0] 25 + (X + (logC gb k t o w 0 0 + (cA b1 [.int .i64 code, .slice q m d] 25 + (T + (B0 + (B1 + (R + G))))))))
    have k1 := (s8.at (cA b1 [.int .i64 code, .slice q m d] 25)).blk
    refine ⟨⟨_, k1.cell 0, rfl⟩, ?_⟩
    refine s8.wr rfl (by simp) fun h10 s10 => ?_
    refine s10.wr (o := 1) (yaaj _ _ _) (by simp) fun h11 s11 => ?_
    have s11 : St h0 h11 (cA b2 [.int .i64 code, .slice q5 m d5] 25 + (X + (logC gb k t o w 0 0 + (cA b1 [.int .i64 code, .slice q m d] 25 + (T + (B0 + (B1 + (R + G)))))))) := s11
    exact yaux (L := ⟨L.ts, L.ops, L.rows, 0, 0⟩) (G := G) hk hR a1 a2 a3 a4 hle hn (fun v h' hv => ⟨i, hlb, hv⟩) hilen o5 hv hv1 ((s11.to (B := cA b1 [.int .i64 code, .slice q m d] 25 + (cA b2 [.int .i64 code, .slice q5 m d5] 25 + (logC gb k t o w 0 0 + (X + (T + (B0 + (B1 + (R + G))))))))).drop)
end
end Go.Proofs.YtdlkohenamlnaaaGreat
/- The law's small functions, its example. -/
namespace Go.Proofs.YtdlkohenamlnaaaGreat
open Go Go.Sx
theorem yask {h : Hp} {p q : OA} {n m c d : Nat} {xs ys : List Int} (r1 : RdT TI h p n xs) (r2 : RdT TI h q m ys) (hn : n ≤ 1000000000) :
    yaae Tryz.prog 22 #[.slice p n c, .slice q m d] h (fun v h' => h' = h ∧ v = .bool (decide (xs = ys))) := by
  have l1 := r1.len
  have l2 := r2.len
  refine zaa_call ?_
  rw [zaa_b0]
  refine condN (fun hl => ?_) (fun hl => ?_)
  · exact ⟨rfl, by rw [decide_eq_false (fun h => hl (by subst h; omega))]⟩
  refine ⟨fun x h' => h' = h ∧ ∃ i : Nat, x.1 = i ∧ i ≤ n ∧ ∀ j, j < i → xs.getD j 0 = ys.getD j 0, fun x _ => n - x.1.toNat, ⟨rfl, 0, rfl, by omega, fun j hj => by omega⟩, ?_⟩
  rintro ⟨_, _⟩ h1 ⟨rfl, i, rfl, hin, heq⟩
  dsimp only
  rw [zaa_b1]
  refine condP (fun hlt => ?_) (fun hge => ?_)
  · refine r1.int (by omega) (by omega) (r2.int (by omega) (by omega) ?_)
    rw [Int.toNat_natCast]
    refine condN (fun hne => ?_) (fun he => ?_)
    · exact ⟨rfl, by rw [decide_eq_false (fun h => hne (by rw [h]))]⟩
    · rw [zaa_b2]
      refine ⟨⟨by omega, by omega⟩, ⟨rfl, i + 1, by simp only; omega, by omega, fun j hj => ?_⟩, by simp only; omega⟩
      rcases Nat.lt_or_ge j i with h | h
      · exact heq j h
      · obtain rfl : j = i := by omega
        exact he
  · rw [zaa_b3]
    refine ⟨rfl, ?_⟩
    rw [decide_eq_true]
    refine List.ext_getElem (by omega) fun j h1 h2 => ?_
    have := heq j (by omega)
    rwa [yaaf h1, yaaf h2] at this
abbrev S5 := Int × Int × Int × Int × SH
abbrev tS5 : Ty S5 := ⟨27, 5, fun x => [.int .i64 x.1, .int .i64 x.2.1, .int .i64 x.2.2.1, .int .i64 x.2.2.2.1, .slice x.2.2.2.2.1 x.2.2.2.2.2.1 x.2.2.2.2.2.2], (0, 0, 0, 0, none, 0, 0), fun _ => rfl, by decide, fun _ v hv => by simp at hv; rcases hv with rfl | rfl | rfl | rfl | rfl <;> rfl⟩
theorem yavg {h : Hp} {p : OA} {n : Nat} {l : List S5} {i : Int} {Q : Int → Int → Int → Int → OA → Nat → Nat → Prop} (r : RdT tS5 h p n l) (h0 : 0 ≤ i) (h1 : i < n) (hq : Q (l.getD i.toNat tS5.d).1 (l.getD i.toNat tS5.d).2.1 (l.getD i.toNat tS5.d).2.2.1 (l.getD i.toNat tS5.d).2.2.2.1 (l.getD i.toNat tS5.d).2.2.2.2.1 (l.getD i.toNat tS5.d).2.2.2.2.2.1 (l.getD i.toNat tS5.d).2.2.2.2.2.2) :
    (0 ≤ i ∧ i < (n : Int)) ∧ NN p fun a => ∃ x : Int, ∃ y : Int, ∃ z : Int, ∃ u : Int, ∃ b m c, cell h (a.add (Int.toNat i * 5)) = some (.int .i64 x) ∧ cell h ((a.add (Int.toNat i * 5)).add 1) = some (.int .i64 y) ∧ cell h ((a.add (Int.toNat i * 5)).add 2) = some (.int .i64 z) ∧ cell h ((a.add (Int.toNat i * 5)).add 3) = some (.int .i64 u) ∧ cell h ((a.add (Int.toNat i * 5)).add 4) = some (.slice b m c) ∧ Q x y z u b m c :=
  r.idx h0 h1 fun _ _ hc => ⟨_, _, _, _, _, _, _, hc 0 (show 0 < 5 by decide), hc 1 (show 1 < 5 by decide), hc 2 (show 2 < 5 by decide), hc 3 (show 3 < 5 by decide), hc 4 (show 4 < 5 by decide), hq⟩
theorem ybbg {h : Hp} {p : OA} {n c : Nat} {l : List S5} (r : RdT tS5 h p n l) :
    yaae Tryz.prog 10 #[.slice p n c] h (fun v h' => Ext h h' ∧ ∃ b, v = .bool b ∧ (b = true → n ≤ 30 ∧ ∀ x ∈ l, x.2.2.2.2.2.1 ≤ 70)) := by
  have hl := r.len
  refine zah_call ?_
  rw [zah_b0]
  refine condP (fun h30 => ?_) (fun h30 => ⟨Ext.refl h, _, rfl, fun h => by cases h⟩)
  refine yaae.mono (K := fun v h' => Ext h h' ∧ ∃ b, v = .bool b ∧ (b = false → ∀ x ∈ l, x.2.2.2.2.2.1 ≤ 70)) ?_ fun v h' ⟨x, b, hv, hb⟩ => ⟨_, hv, x, _, rfl, fun h => ⟨by omega, hb (by simpa using h)⟩⟩
  refine zeb_call ?_
  rw [zeb_b0]
  refine zek_call ?_
  rw [zek_b0]
  refine ⟨fun s h' => Ext h h' ∧ ∃ i : Nat, s.1 = i ∧ i ≤ n ∧ ∀ x ∈ l.take i, x.2.2.2.2.2.1 ≤ 70, fun s _ => n - s.1.toNat, ⟨Ext.refl h, 0, rfl, by omega, by simp⟩, ?_⟩
  rintro ⟨_, _⟩ h1 ⟨x1, i, rfl, hin, hall⟩
  dsimp only
  rw [zek_b1]
  refine condP (fun hlt => ?_) (fun hge => ?_)
  · refine yavg (r.ext x1) (by omega) (by omega) ?_
    rw [Int.toNat_natCast]
    have hil : i < l.length := by omega
    have hg : l.getD i tS5.d = l[i] := yaaf hil
    generalize l.getD i tS5.d = x at hg ⊢
    show callX Tryz.prog F 55 #[.agg #[.int .i64 x.1, .int .i64 x.2.1, .int .i64 x.2.2.1, .int .i64 x.2.2.2.1, .slice x.2.2.2.2.1 x.2.2.2.2.2.1 x.2.2.2.2.2.2]] _ _
    refine yacw (by kernel_rfl) (zai_call ?_)
    rw [zai_b0]
    refine (St.start h1).new (cs := [.int .i64 x.1, .int .i64 x.2.1, .int .i64 x.2.2.1, .int .i64 x.2.2.2.1, .slice x.2.2.2.2.1 x.2.2.2.2.2.1 x.2.2.2.2.2.2]) fun b1 h2 x2 s2 => ?_
    refine ⟨_, _, _, by rw [yaaj, yaaj]; exact s2.blk.cell 4, _, rfl, condP (fun hbig => ?_) (fun hbig => ?_)⟩
    · exact ⟨_, rfl, x1.trans x2, _, rfl, fun h => by rw [decide_eq_true (by omega)] at h; cases h⟩
    · rw [zek_b2]
      refine ⟨⟨by omega, by omega⟩, ⟨x1.trans x2, i + 1, by simp only; omega, by omega, fun y hy => ?_⟩, by simp only; omega⟩
      rw [List.take_succ_eq_append_getElem hil, List.mem_append, List.mem_singleton, ← hg] at hy
      rcases hy with hy | rfl
      · exact hall y hy
      · omega
  · rw [zek_b3]
    rw [List.take_of_length_le (by omega)] at hall
    exact ⟨_, rfl, x1, _, rfl, fun _ => hall⟩
end Go.Proofs.YtdlkohenamlnaaaGreat
/- The chapter's example; the law Queue. -/
namespace Go.Proofs.YtdlkohenamlnaaaGreat
open Go Go.Sx
theorem yaye {i : Nat} {z : Int} (h : IsLb [] z i) : i = 0 := by have := h.1; simpa using this
end Go.Proofs.YtdlkohenamlnaaaGreat
/- How a slice that is handed in is read: elements of any number of cells. -/
namespace Go.Sx
open Go Go.ChangeShapes Go.WideShapes Go.Deep
section
variable {H : Type} {enc : TypeId × Value → H} {P : Program} {w : World} {base : Nat} {sp : Nat → Bool} {held : Bool} {α : Type}
theorem yaut {t : TypeId} (T : Ty α) {W : α → Prop} {a : Option Addr} {len cap : Nat} {d : DataW H} {ps : List MemPlace} (ht : P.underlying t = some (.slice T.e)) (hc : P.cellsOf T.e = T.sz)
    (dec : ∀ n cs x, DataW.trod enc P w base sp held n T.e cs = some x → ∃ a, cs = T.enc a ∧ W a) (h : DataW.Trod enc P w base sp held t (.slice a len cap) d ps) :
    ∃ xs : List α, RdT T w.heap a len xs ∧ len ≤ cap ∧ ∀ x ∈ xs, W x := by
  obtain ⟨fuel, hf⟩ := h
  have e0 : (Value.slice a len cap).cells.toList = [.slice a len cap] := rfl
  rw [e0] at hf
  rcases open_slice ht hf with ⟨hcs, _⟩ | ⟨x, l, c, m, n, D, Pl, hcs, _, hl, _, hm, _, hx⟩
  · injection hcs with h1 _
    injection h1 with h1 h2 h3
    subst h1 h2 h3
    exact ⟨[], RdT.nil _ _, Nat.le_refl _, fun _ h => nomatch h⟩
  · injection hcs with h1 _
    injection h1 with h1 h2 h3
    subst h1 h2 h3
    have hlm : len ≤ m := by rw [hm]; split <;> omega
    haveI : Inhabited α := ⟨T.d⟩
    obtain ⟨f, hf⟩ := choose_lt (α := α) (n := len) (p := fun i z => w.cells? base (x.add (i * T.sz)) T.sz = some (T.enc z) ∧ W z) (fun i hi => by
      obtain ⟨cs, h1, h2⟩ := hx i (by omega)
      obtain ⟨z, hz, hw⟩ := dec n cs _ h2
      rw [hc] at h1
      exact ⟨z, by rw [h1, hz], hw⟩)
    refine ⟨(List.range len).map f, ⟨by simp, .inr ⟨x, rfl, fun i hi => ?_⟩⟩, hl, fun z hz => ?_⟩
    · have hp := T.pos
      have hdm : T.sz * (i / T.sz) + i % T.sz = i := Nat.div_add_mod i T.sz
      have hq : i / T.sz < len := (Nat.div_lt_iff_lt_mul hp).2 hi
      have hr : i % T.sz < T.sz := Nat.mod_lt _ hp
      obtain ⟨_, _, h3⟩ := World.cells?_some (hf _ hq).1
      have h4 := h3 _ hr
      have e1 : i / T.sz * T.sz + i % T.sz = i := by rw [Nat.mul_comm]; exact hdm
      rw [yacj, e1] at h4
      show cell w.heap (x.add i) = _
      rw [← yamn, h4]
      have := T.cells_get ((List.range len).map f) (i := i / T.sz) (j := i % T.sz) (by simpa using hq) hr
      rw [e1] at this
      rw [this]
      simp [List.getD, hq]
    · obtain ⟨i, hi, rfl⟩ := List.mem_map.1 hz
      exact (hf i (List.mem_range.1 hi)).2
theorem yajl {e : TypeId} {k : IntKind} (he : P.underlying e = some (.int k)) (n : Nat) (cs : List Value) (x : DataW H × List MemPlace) (h : DataW.trod enc P w base sp held n e cs = some x) : ∃ z, cs = [.int k z] ∧ (Lit.int k z).wf = true := by
  obtain ⟨z, h1, _, h2⟩ := DataW.trod_int he h
  exact ⟨z, h1, h2⟩
end
end Go.Sx
/- How the law's arguments are read. -/
namespace Go.Proofs.YtdlkohenamlnaaaGreat
open Go Go.Sx Go.ChangeShapes Go.WideShapes Go.ChangeAt Go.RowKit Go.Deep
theorem own : ownKnob Tryz.prog.godebug = none := by kernel_rfl
theorem ybaj : laidOutB Tryz.prog = true := by kernel_rfl
theorem yaxv {P : Program} {f : FuncId} {args : Array Value} {w : World} (hc : yaae P f args w.heap (fun v h' => v = .bool true ∧ Ext w.heap h')) :
    Calls P f args w fun e w' => e = .returned (.bool true) ∧ Below w.heap.size w w' :=
  (hc w rfl).mono fun e w' ⟨v, he, hs, hv, hx⟩ => ⟨by rw [he, hv], ⟨hs.os, hs.tape, hs.output, hx.size, hx.same⟩⟩
section
variable {H : Type} {enc : TypeId × Value → H} {w : World} {base : Nat} {held : Bool} {a : OA} {len cap : Nat} {d : DataW H} {ps : List MemPlace}
theorem ybay (h : DataW.Trod enc Tryz.prog w base (fun _ => true) held 22 (.slice a len cap) d ps) : ∃ l : List S5, RdT tS5 w.heap a len l ∧ len ≤ cap ∧ ∀ x ∈ l, x.2.2.2.2.2.1 ≤ x.2.2.2.2.2.2 ∧ InR x.2.2.2.1 ∧ ∃ zs, RdT TI w.heap x.2.2.2.2.1 x.2.2.2.2.2.1 zs :=
  yaut tS5 Tryz.underlying22 (by kernel_rfl) (fun n cs x h => by
    obtain ⟨xs, m, _, _, hl, hxl, hx⟩ := DataW.trod_struct Tryz.underlying27 h
    rw [show Tryz.prog.cellsOf 27 = 5 by kernel_rfl] at hl
    match cs, xs, hl, hxl with
    | [c0, c1, c2, c3, c4], [y0, y1, y2, y3], _, _ =>
      obtain ⟨z0, e0, w0⟩ := yajl (k := .i64) (by kernel_rfl) _ _ _ (hx 0 _ rfl)
      obtain ⟨z1, e1, w1⟩ := yajl (k := .i64) (by kernel_rfl) _ _ _ (hx 1 _ rfl)
      obtain ⟨z2, e2, w2⟩ := yajl (k := .i64) (by kernel_rfl) _ _ _ (hx 2 _ rfl)
      have f0 : c0 = .int .i64 z0 := (List.cons.inj (show [c0] = [Value.int .i64 z0] from e0)).1
      have f1 : c1 = .int .i64 z1 := (List.cons.inj (show [c1] = [Value.int .i64 z1] from e1)).1
      have f2 : c2 = .int .i64 z2 := (List.cons.inj (show [c2] = [Value.int .i64 z2] from e2)).1
      have h3 : DataW.trod enc Tryz.prog w base (fun _ => true) held m 25 [c3, c4] = some y3 := hx 3 _ rfl
      obtain ⟨xs', m', _, _, hl', hxl', hx'⟩ := DataW.trod_struct Tryz.underlying25 h3
      match xs', hxl' with
      | [v0, v1], _ =>
        obtain ⟨z3, e3, w3⟩ := yajl (k := .i64) (by kernel_rfl) _ _ _ (hx' 0 _ rfl)
        have f3 : c3 = .int .i64 z3 := (List.cons.inj (show [c3] = [Value.int .i64 z3] from e3)).1
        have h1 : DataW.trod enc Tryz.prog w base (fun _ => true) held m' 23 [c4] = some v1 := hx' 1 _ rfl
        have key : ∃ a' l' c', [c4] = [Value.slice a' l' c'] := by
          rcases open_slice Tryz.underlying23 h1 with ⟨hcs, _⟩ | ⟨_, _, _, _, _, _, _, hcs, _⟩
          · exact ⟨_, _, _, hcs⟩
          · exact ⟨_, _, _, hcs⟩
        obtain ⟨a', l', c', hc1⟩ := key
        have f4 : c4 = .slice a' l' c' := (List.cons.inj hc1).1
        rw [hc1] at h1
        obtain ⟨zs, hr, hle, _⟩ := yaut (W := InR) TI Tryz.underlying23 (by kernel_rfl) (fun n cs x h => by
          obtain ⟨z, h1, h2⟩ := yajl (k := .i64) (by kernel_rfl) n cs x h
          exact ⟨z, h1, bounds_i64 h2⟩) (d := v1.1) (ps := v1.2) ⟨m', h1⟩
        rw [f0, f1, f2, f3, f4]
        exact ⟨(z0, z1, z2, z3, a', l', c'), rfl, hle, bounds_i64 w3, zs, hr⟩) h
end
end Go.Proofs.YtdlkohenamlnaaaGreat
/- Methods of nil pointers: the law Nil. -/
namespace Go.Proofs.YtdlkohenamlnaaaGreat
open Go Go.Sx
end Go.Proofs.YtdlkohenamlnaaaGreat
/- How the law's arguments are read: one operation, one step. -/
namespace Go.Proofs.YtdlkohenamlnaaaGreat
open Go Go.Sx Go.ChangeShapes Go.WideShapes Go.ChangeAt Go.RowKit Go.Deep
section
variable {H : Type} {enc : TypeId × Value → H} {w : World} {base : Nat} {held : Bool} {cs : Array Value} {d : DataW H} {ps : List MemPlace}
end
end Go.Proofs.YtdlkohenamlnaaaGreat
/- Plain lists: what one more operation changes. -/
namespace Go.Sx
end Go.Sx
/- Plain lists: bridges, and the key that comes or goes. -/
namespace Go.Sx
section
variable {l : List Ev} {x : Ev} (g : GoodQ l) (hd : x.2.2 = true) {p : Nat} (hp : p ≤ l.length)
include g hd hp
end
end Go.Sx
/- Searching in ascending numbers with repetitions; whether a list has a number. -/
namespace Go.Proofs.YtdlkohenamlnaaaGreat
open Go Go.Sx
theorem yazz {zs : List Int} {key : Int} (hs : zs.Pairwise (· ≤ ·)) : IsLb zs key (zs.takeWhile fun z => decide (z < key)).length := by
  have e : zs.takeWhile (fun z => decide (z < key)) ++ zs.dropWhile (fun z => decide (z < key)) = zs := List.takeWhile_append_dropWhile
  have hlen := congrArg List.length e
  rw [List.length_append] at hlen
  refine ⟨by omega, fun j hj => ?_, fun j hj hjl => ?_⟩
  · have hm : zs.getD j 0 ∈ zs.takeWhile (fun z => decide (z < key)) := by
      have : zs.getD j 0 = (zs.takeWhile (fun z => decide (z < key)))[j]'hj := by
        rw [yaaf (by omega)]
        conv => lhs; arg 1; rw [← e]
        rw [List.getElem_append_left hj]
      rw [this]; exact List.getElem_mem hj
    exact of_decide_eq_true (List.all_eq_true.1 (List.all_takeWhile (p := fun z : Int => decide (z < key)) (l := zs)) _ hm)
  · have hd : zs.drop (zs.takeWhile (fun z => decide (z < key))).length = zs.dropWhile (fun z => decide (z < key)) := (yabq e.symm).2
    have h0 : key ≤ zs.getD (zs.takeWhile (fun z => decide (z < key))).length 0 := by
      have h1 := List.head?_dropWhile_not (fun z : Int => decide (z < key)) zs
      rw [← hd, List.drop_eq_getElem_cons (by omega), List.head?_cons] at h1
      rw [yaaf (by omega)]
      simpa using h1
    show key ≤ zs.getD j 0
    rcases Nat.lt_or_ge (zs.takeWhile (fun z => decide (z < key))).length j with h | h
    · have := List.pairwise_iff_getElem.1 hs _ _ (by omega) hjl h
      rw [yaaf (by omega)] at h0 ⊢
      omega
    · obtain rfl : j = (zs.takeWhile (fun z => decide (z < key))).length := by omega
      exact h0
end Go.Proofs.YtdlkohenamlnaaaGreat
/- Plain lists: sorting by swaps. -/
namespace Go.Sx
variable {α : Type} {d : α}
def swapL (d : α) (xs : List α) (i j : Nat) : List α := (xs.set i (xs.getD j d)).set j (xs.getD i d)
theorem yana (xs : List α) (i j : Nat) : (swapL d xs i j).length = xs.length := by unfold swapL; rw [List.length_set, List.length_set]
theorem yafu {xs : List α} {i k : Nat} {x : α} (hi : i < xs.length) : (xs.set i x).getD k d = if k = i then x else xs.getD k d := by
  rw [List.getD_eq_getElem?_getD, List.getElem?_set, List.getD_eq_getElem?_getD]
  by_cases h : k = i
  · subst h; rw [if_pos rfl, if_pos rfl, if_pos hi]; rfl
  · rw [if_neg (fun e => h e.symm), if_neg h]
theorem yaba {xs : List α} {i j : Nat} (hi : i < xs.length) (hj : j < xs.length) (k : Nat) : (swapL d xs i j).getD k d = if k = j then xs.getD i d else if k = i then xs.getD j d else xs.getD k d := by
  unfold swapL
  rw [yafu (by rw [List.length_set]; exact hj), yafu hi]
theorem yard {xs : List α} {i j : Nat} (hi : i < xs.length) (hj : j < xs.length) : (swapL d xs i j).Perm xs := by
  unfold swapL
  have h1 : xs.getD i d = xs[i] := by rw [List.getD_eq_getElem?_getD, List.getElem?_eq_getElem hi]; rfl
  have h2 : xs.getD j d = xs[j] := by rw [List.getD_eq_getElem?_getD, List.getElem?_eq_getElem hj]; rfl
  rw [h1, h2]
  exact List.set_set_perm hi hj
inductive Swp (d : α) (a b : Nat) : List α → List α → Prop
  | refl (xs) : Swp d a b xs xs
  | step {xs ys} {i j : Nat} : Swp d a b xs ys → a ≤ i → i < b → a ≤ j → j < b → b ≤ ys.length → Swp d a b xs (swapL d ys i j)
theorem Swp.one {a b : Nat} {xs : List α} {i j : Nat} (h1 : a ≤ i) (h2 : i < b) (h3 : a ≤ j) (h4 : j < b) (h5 : b ≤ xs.length) : Swp d a b xs (swapL d xs i j) := .step (.refl xs) h1 h2 h3 h4 h5
theorem Swp.trans {a b : Nat} {xs ys zs : List α} (h1 : Swp d a b xs ys) (h2 : Swp d a b ys zs) : Swp d a b xs zs := by
  induction h2 with
  | refl => exact h1
  | step _ i1 i2 j1 j2 hl ih => exact .step ih i1 i2 j1 j2 hl
theorem Swp.mono {a b a' b' : Nat} {xs ys : List α} (ha : a' ≤ a) (hb : b ≤ b') (hl : b' ≤ xs.length) (h : Swp d a b xs ys) : Swp d a' b' xs ys ∧ ys.length = xs.length := by
  induction h with
  | refl => exact ⟨.refl _, rfl⟩
  | step _ i1 i2 j1 j2 _ ih => exact ⟨.step ih.1 (by omega) (by omega) (by omega) (by omega) (by rw [ih.2]; exact hl), by rw [yana, ih.2]⟩
theorem Swp.len {a b : Nat} {xs ys : List α} (h : Swp d a b xs ys) : ys.length = xs.length := by
  induction h with
  | refl => rfl
  | step _ _ _ _ _ _ ih => rw [yana, ih]
theorem Swp.out {a b : Nat} {xs ys : List α} (h : Swp d a b xs ys) {k : Nat} (hk : k < a ∨ b ≤ k) : ys.getD k d = xs.getD k d := by
  induction h with
  | refl => rfl
  | step _ i1 i2 j1 j2 hl ih => rw [yaba (by omega) (by omega), if_neg (by omega), if_neg (by omega), ih]
theorem Swp.all {a b : Nat} {xs ys : List α} (h : Swp d a b xs ys) {P : α → Prop} (hP : ∀ k, a ≤ k → k < b → P (xs.getD k d)) : ∀ k, a ≤ k → k < b → P (ys.getD k d) := by
  induction h with
  | refl => exact hP
  | step _ i1 i2 j1 j2 hl ih =>
    intro k h1 h2
    rw [yaba (by omega) (by omega)]
    split
    · exact ih _ i1 i2
    · split
      · exact ih _ j1 j2
      · exact ih k h1 h2
theorem Swp.perm {a b : Nat} {xs ys : List α} (h : Swp d a b xs ys) : ys.Perm xs := by
  induction h with
  | refl => exact .refl _
  | step _ i1 i2 j1 j2 hl ih => exact (yard (by omega) (by omega)).trans ih
theorem Swp.allN {a b : Nat} {xs ys : List α} (h : Swp d a b xs ys) {P : α → Prop} {n : Nat} (hn : xs.length = n) (hP : ∀ k, k < n → P (xs.getD k d)) : ∀ k, k < n → P (ys.getD k d) := by
  subst hn
  induction h with
  | refl => exact hP
  | step t i1 i2 j1 j2 hl ih =>
    intro k h2
    have := t.len
    rw [yaba (by omega) (by omega)]
    split
    · exact ih _ (by omega)
    · split
      · exact ih _ (by omega)
      · exact ih k h2
structure OrdP (lt : α → α → Prop) : Prop where
  asymm : ∀ x y, lt x y → ¬ lt y x
  trans : ∀ x y z, ¬ lt y x → ¬ lt z y → ¬ lt z x
theorem OrdP.irr {lt : α → α → Prop} (o : OrdP lt) (x : α) : ¬ lt x x := fun h => o.asymm x x h h
section
variable {lt : α → α → Prop} (o : OrdP lt)
def SrtR (d : α) (lt : α → α → Prop) (a b : Nat) (xs : List α) : Prop := ∀ p q, a ≤ p → p < q → q < b → ¬ lt (xs.getD q d) (xs.getD p d)
theorem SrtR.mono {a b a' b' : Nat} {xs : List α} (h : SrtR d lt a b xs) (ha : a ≤ a') (hb : b' ≤ b) : SrtR d lt a' b' xs := fun p q h1 h2 h3 => h p q (by omega) h2 (by omega)
theorem yajz {n : Nat} {xs : List α} (hl : xs.length = n) (h : SrtR d lt 0 n xs) : xs.Pairwise (fun x y => ¬ lt y x) := by
  rw [List.pairwise_iff_getElem]
  intro i j hi hj hij
  have := h i j (by omega) hij (by omega)
  rwa [List.getD_eq_getElem?_getD, List.getD_eq_getElem?_getD, List.getElem?_eq_getElem hi, List.getElem?_eq_getElem hj] at this
def InsR (d : α) (lt : α → α → Prop) (a j i : Nat) (xs : List α) : Prop := ∀ p q, a ≤ p → p < q → q ≤ i → q ≠ j → ¬ lt (xs.getD q d) (xs.getD p d)
theorem yaio {a i : Nat} {xs : List α} (h : SrtR d lt a i xs) : InsR d lt a i i xs := fun p q h1 h2 h3 h4 => h p q h1 h2 (by omega)
include o in
theorem yaqd {a j i : Nat} {xs : List α} (haj : a < j) (hji : j ≤ i) (hi : i < xs.length) (h : InsR d lt a j i xs) (hl : lt (xs.getD j d) (xs.getD (j - 1) d)) : InsR d lt a (j - 1) i (swapL d xs j (j - 1)) := by
  intro p q h1 h2 h3 h4
  rw [yaba (by omega) (by omega), yaba (by omega) (by omega), if_neg h4]
  by_cases hq : q = j
  · rw [if_pos hq]
    by_cases hp : p = j - 1
    · rw [if_pos hp]; exact o.asymm _ _ hl
    · rw [if_neg hp, if_neg (by omega)]; exact h p (j - 1) h1 (by omega) (by omega) (by omega)
  · rw [if_neg hq]
    by_cases hp : p = j - 1
    · rw [if_pos hp]; exact h j q (by omega) (by omega) h3 hq
    · rw [if_neg hp]
      by_cases hp2 : p = j
      · rw [if_pos hp2]; exact h (j - 1) q (by omega) (by omega) h3 hq
      · rw [if_neg hp2]; exact h p q h1 h2 h3 hq
include o in
theorem yapn {a j i : Nat} {xs : List α} (haj : a ≤ j) (h : InsR d lt a j i xs) (hl : a < j → ¬ lt (xs.getD j d) (xs.getD (j - 1) d)) : SrtR d lt a (i + 1) xs := by
  intro p q h1 h2 h3
  by_cases hq : q = j
  · subst hq
    have hl := hl (by omega)
    by_cases hp : p = q - 1
    · rw [hp]; exact hl
    · exact o.trans _ _ _ (h p (q - 1) h1 (by omega) (by omega) (by omega)) hl
  · exact h p q h1 h2 (by omega) hq
theorem yahp {a b : Nat} {xs : List α} (h : b ≤ a + 1) : SrtR d lt a b xs := fun _ _ h1 h2 h3 => by omega
def HeapX (d : α) (lt : α → α → Prop) (f lo hi r : Nat) (xs : List α) : Prop :=
  (∀ k c, lo ≤ k → (c = 2 * k + 1 ∨ c = 2 * k + 2) → c < hi → k ≠ r → ¬ lt (xs.getD (f + k) d) (xs.getD (f + c) d)) ∧
  ∀ k c, lo ≤ k → (r = 2 * k + 1 ∨ r = 2 * k + 2) → (c = 2 * r + 1 ∨ c = 2 * r + 2) → c < hi → ¬ lt (xs.getD (f + k) d) (xs.getD (f + c) d)
def HeapR (d : α) (lt : α → α → Prop) (f lo hi : Nat) (xs : List α) : Prop := ∀ k c, lo ≤ k → (c = 2 * k + 1 ∨ c = 2 * k + 2) → c < hi → ¬ lt (xs.getD (f + k) d) (xs.getD (f + c) d)
theorem yamg {f lo hi r : Nat} {xs : List α} (h : HeapX d lt f lo hi r xs) (hr : ∀ c, (c = 2 * r + 1 ∨ c = 2 * r + 2) → c < hi → ¬ lt (xs.getD (f + r) d) (xs.getD (f + c) d)) : HeapR d lt f lo hi xs := by
  intro k c h1 h2 h3
  by_cases hk : k = r
  · subst hk; exact hr c h2 h3
  · exact h.1 k c h1 h2 h3 hk
include o in
theorem yatb {f lo hi r ch : Nat} {xs : List α} (h : HeapX d lt f lo hi r xs) (hc : ch = 2 * r + 1 ∨ ch = 2 * r + 2) (hch : ch < hi) (hlen : f + hi ≤ xs.length) (hl : lt (xs.getD (f + r) d) (xs.getD (f + ch) d))
    (hmax : ∀ c, (c = 2 * r + 1 ∨ c = 2 * r + 2) → c < hi → ¬ lt (xs.getD (f + ch) d) (xs.getD (f + c) d)) (hlr : lo ≤ r) : HeapX d lt f lo hi ch (swapL d xs (f + r) (f + ch)) := by
  have g : ∀ k, (swapL d xs (f + r) (f + ch)).getD (f + k) d = if k = ch then xs.getD (f + r) d else if k = r then xs.getD (f + ch) d else xs.getD (f + k) d := by
    intro k
    rw [yaba (by omega) (by omega)]
    by_cases h1 : k = ch
    · rw [if_pos (by omega), if_pos h1]
    · rw [if_neg (by omega), if_neg h1]
      by_cases h2 : k = r
      · rw [if_pos (by omega), if_pos h2]
      · rw [if_neg (by omega), if_neg h2]
  refine ⟨fun k c h1 h2 h3 h4 => ?_, fun k c h1 h2 h3 h4 => ?_⟩
  · rw [g, g, if_neg h4]
    by_cases hk : k = r
    · subst hk
      rw [if_pos rfl]
      by_cases hcc : c = ch
      · rw [if_pos hcc]; exact o.asymm _ _ hl
      · rw [if_neg hcc, if_neg (by omega)]; exact hmax c h2 h3
    · rw [if_neg hk]
      by_cases hcc : c = ch
      · omega
      · rw [if_neg hcc]
        by_cases hcr : c = r
        · subst hcr
          rw [if_pos rfl]
          exact h.2 k ch h1 h2 hc hch
        · rw [if_neg hcr]; exact h.1 k c h1 h2 h3 hk
  · have hkr : k = r := by omega
    subst hkr
    rw [g, g, if_neg (by omega), if_pos rfl, if_neg (by omega), if_neg (by omega)]
    exact h.1 ch c (by omega) h3 h4 (by omega)
include o in
theorem yavw {f hi : Nat} {xs : List α} (h : HeapR d lt f 0 hi xs) : ∀ k, k < hi → ¬ lt (xs.getD f d) (xs.getD (f + k) d) := by
  intro k
  induction k using Nat.strongRecOn with
  | _ k ih =>
    intro hk
    by_cases h0 : k = 0
    · subst h0; exact o.irr _
    · have h1 := ih ((k - 1) / 2) (by omega) (by omega)
      have h2 := h ((k - 1) / 2) k (by omega) (by omega) hk
      exact o.trans _ _ _ h2 h1
def OutR (d : α) (lt : α → α → Prop) (a0 b0 a b : Nat) (xs : List α) : Prop := ∀ p q, a0 ≤ p → p < q → q < b0 → ¬ (a ≤ p ∧ q < b) → ¬ lt (xs.getD q d) (xs.getD p d)
theorem yakj {a b : Nat} {xs : List α} : OutR d lt a b a b xs := fun _ _ h1 _ h3 h4 => absurd ⟨h1, h3⟩ h4
theorem yacv {a0 b0 a b : Nat} {xs ys : List α} (h1 : a0 ≤ a) (h2 : b ≤ b0) (h : OutR d lt a0 b0 a b xs) (s : Swp d a b xs ys) : OutR d lt a0 b0 a b ys := by
  intro p q g1 g2 g3 g4
  by_cases hp : a ≤ p ∧ p < b
  · have hq : b ≤ q := by omega
    rw [s.out (k := q) (.inr hq)]
    exact s.all (P := fun x => ¬ lt (xs.getD q d) x) (fun k k1 k2 => h k q (by omega) (by omega) g3 (by omega)) p hp.1 hp.2
  · rw [s.out (k := p) (by omega)]
    by_cases hq : a ≤ q ∧ q < b
    · exact s.all (P := fun x => ¬ lt x (xs.getD p d)) (fun k k1 k2 => h p k g1 (by omega) (by omega) (by omega)) q hq.1 hq.2
    · rw [s.out (k := q) (by omega)]
      exact h p q g1 g2 g3 g4
theorem yalr {a0 b0 a b : Nat} {xs : List α} (h : OutR d lt a0 b0 a b xs) (hs : SrtR d lt a b xs) : SrtR d lt a0 b0 xs := by
  intro p q h1 h2 h3
  by_cases hi : a ≤ p ∧ q < b
  · exact hs p q hi.1 h2 hi.2
  · exact h p q h1 h2 h3 hi
def PartR (d : α) (lt : α → α → Prop) (a b m : Nat) (xs : List α) : Prop := (∀ k, a ≤ k → k < m → lt (xs.getD k d) (xs.getD m d)) ∧ ∀ k, m < k → k < b → ¬ lt (xs.getD k d) (xs.getD m d)
def LoR (d : α) (lt : α → α → Prop) (a i : Nat) (xs : List α) : Prop := ∀ k, a < k → k < i → lt (xs.getD k d) (xs.getD a d)
def HiR (d : α) (lt : α → α → Prop) (a J b : Nat) (xs : List α) : Prop := ∀ k, J ≤ k → k < b → ¬ lt (xs.getD k d) (xs.getD a d)
theorem yaun {a i : Nat} {xs : List α} (h : LoR d lt a i xs) (hl : lt (xs.getD i d) (xs.getD a d)) : LoR d lt a (i + 1) xs := fun k h1 h2 => by
  by_cases hk : k = i
  · subst hk; exact hl
  · exact h k h1 (by omega)
theorem yavn {a J b : Nat} {xs : List α} (h : HiR d lt a J b xs) (hl : ¬ lt (xs.getD (J - 1) d) (xs.getD a d)) : HiR d lt a (J - 1) b xs := fun k h1 h2 => by
  by_cases hk : k = J - 1
  · subst hk; exact hl
  · exact h k (by omega) h2
theorem yams {a i J b : Nat} {xs : List α} (ha : a < i) (hiJ : i < J) (hJ : J ≤ b) (hb : b ≤ xs.length) (lo : LoR d lt a i xs) (hi : HiR d lt a J b xs) (h1 : ¬ lt (xs.getD i d) (xs.getD a d)) (h2 : lt (xs.getD (J - 1) d) (xs.getD a d)) :
    LoR d lt a (i + 1) (swapL d xs i (J - 1)) ∧ HiR d lt a (J - 1) b (swapL d xs i (J - 1)) := by
  have hne : i ≠ J - 1 := fun e => h1 (e ▸ h2)
  refine ⟨fun k k1 k2 => ?_, fun k k1 k2 => ?_⟩
  · rw [yaba (by omega) (by omega), yaba (by omega) (by omega) a, if_neg (by omega), if_neg (by omega : ¬ a = J - 1), if_neg (by omega : ¬ a = i)]
    by_cases hk : k = i
    · rw [if_pos hk]; exact h2
    · rw [if_neg hk]; exact lo k k1 (by omega)
  · rw [yaba (by omega) (by omega), yaba (by omega) (by omega) a, if_neg (by omega : ¬ a = J - 1), if_neg (by omega : ¬ a = i)]
    by_cases hk : k = J - 1
    · rw [if_pos hk]; exact h1
    · rw [if_neg hk, if_neg (by omega)]; exact hi k (by omega) k2
theorem yaqj {a i J b : Nat} {xs : List α} (ha : a < J) (hib : i ≤ b) (hJi : J ≤ i) (hb : b ≤ xs.length) (lo : LoR d lt a i xs) (hi : HiR d lt a J b xs) : PartR d lt a b (J - 1) (swapL d xs (J - 1) a) := by
  have he : J = i := by
    rcases Nat.lt_or_ge J i with h | h
    · exact absurd (lo J ha h) (hi J (Nat.le_refl _) (by omega))
    · omega
  subst he
  refine ⟨fun k k1 k2 => ?_, fun k k1 k2 => ?_⟩
  · rw [yaba (by omega) (by omega), yaba (by omega) (by omega) (J - 1), if_neg (by omega : ¬ J - 1 = a), if_pos rfl]
    by_cases hk : k = a
    · rw [if_pos hk]; exact lo _ (by omega) (by omega)
    · rw [if_neg hk, if_neg (by omega)]; exact lo k (by omega) (by omega)
  · rw [yaba (by omega) (by omega), yaba (by omega) (by omega) (J - 1), if_neg (by omega), if_neg (by omega)]
    by_cases hk : J - 1 = a
    · rw [if_pos hk, hk]; exact hi k (by omega) k2
    · rw [if_neg hk, if_pos rfl]; exact hi k (by omega) k2
def EqR (d : α) (lt : α → α → Prop) (x : α) (a i : Nat) (xs : List α) : Prop := xs.getD a d = x ∧ ∀ k, a ≤ k → k < i → ¬ lt x (xs.getD k d)
theorem yayl {a i : Nat} {xs : List α} {x : α} (h : EqR d lt x a i xs) (hl : ¬ lt (xs.getD a d) (xs.getD i d)) : EqR d lt x a (i + 1) xs := ⟨h.1, fun k h1 h2 => by
  by_cases hk : k = i
  · subst hk; rw [← h.1]; exact hl
  · exact h.2 k h1 (by omega)⟩
theorem ybaz {a i j : Nat} {xs : List α} {x : α} (ha : a < i) (hij : i ≤ j) (hj : j < xs.length) (h : EqR d lt x a i xs) (hl : ¬ lt (xs.getD a d) (xs.getD j d)) : EqR d lt x a (i + 1) (swapL d xs i j) := by
  refine ⟨?_, fun k k1 k2 => ?_⟩
  · rw [yaba (by omega) (by omega), if_neg (by omega), if_neg (by omega)]; exact h.1
  · rw [yaba (by omega) (by omega)]
    by_cases hk : k = j
    · rw [if_pos hk, show i = j by omega, ← h.1]; exact hl
    · rw [if_neg hk]
      by_cases hk : k = i
      · rw [if_pos hk, ← h.1]; exact hl
      · rw [if_neg hk]; exact h.2 k k1 (by omega)
include o in
theorem yati {a0 b0 a b m : Nat} {xs : List α} (_ : a0 ≤ a) (_ : b ≤ b0) (_ : a ≤ m) (_ : m < b) (h : OutR d lt a0 b0 a b xs) (hp : PartR d lt a b m xs) (hs : SrtR d lt a m xs) : OutR d lt a0 b0 (m + 1) b xs := by
  intro p q g1 g2 g3 g4
  by_cases hin : a ≤ p ∧ q < b
  · have hpm : p ≤ m := by omega
    rcases Nat.lt_trichotomy q m with hq | hq | hq
    · exact hs p q hin.1 g2 hq
    · subst hq; exact o.asymm _ _ (hp.1 p hin.1 g2)
    · rcases Nat.lt_or_ge p m with hpm' | hpm'
      · exact o.trans _ _ _ (o.asymm _ _ (hp.1 p hin.1 hpm')) (hp.2 q hq hin.2)
      · obtain rfl : p = m := by omega
        exact hp.2 q hq hin.2
  · exact h p q g1 g2 g3 hin
include o in
theorem yarn {a0 b0 a b m : Nat} {xs : List α} (_ : a0 ≤ a) (_ : b ≤ b0) (_ : a ≤ m) (_ : m < b) (h : OutR d lt a0 b0 a b xs) (hp : PartR d lt a b m xs) (hs : SrtR d lt (m + 1) b xs) : OutR d lt a0 b0 a m xs := by
  intro p q g1 g2 g3 g4
  by_cases hin : a ≤ p ∧ q < b
  · have hqm : m ≤ q := by omega
    rcases Nat.lt_trichotomy p m with hq | hq | hq
    · rcases Nat.lt_or_ge m q with h5 | h5
      · exact o.trans _ _ _ (o.asymm _ _ (hp.1 p hin.1 hq)) (hp.2 q h5 hin.2)
      · obtain rfl : q = m := by omega
        exact o.asymm _ _ (hp.1 p hin.1 hq)
    · subst hq; exact hp.2 q g2 hin.2
    · exact hs p q (by omega) g2 hin.2
  · exact h p q g1 g2 g3 hin
include o in
theorem yaqp {a0 b0 a b m : Nat} {xs : List α} {x : α} (_ : a0 ≤ a) (_ : b ≤ b0) (_ : a ≤ m) (_ : m ≤ b) (h : OutR d lt a0 b0 a b xs) (hlo : ∀ k, a ≤ k → k < m → ¬ lt x (xs.getD k d)) (hall : ∀ k, a ≤ k → k < b → ¬ lt (xs.getD k d) x) : OutR d lt a0 b0 m b xs := by
  intro p q g1 g2 g3 g4
  by_cases hin : a ≤ p ∧ q < b
  · exact o.trans _ _ _ (hlo p hin.1 (by omega)) (hall q (by omega) hin.2)
  · exact h p q g1 g2 g3 hin
end
end Go.Sx
/- Sorting: the elements' own lemmas (steps of a queue). -/
namespace Go.Proofs.YtdlkohenamlnaaaGreat
open Go Go.Sx
theorem yace {xs : List S5} {i : Nat} {x d : S5} (hi : i < xs.length) : (xs.set i x).getD i d = x := by rw [yafu hi, if_pos rfl]
end Go.Proofs.YtdlkohenamlnaaaGreat
/- Sorting: the elements' own lemmas (integers). -/
namespace Go.Proofs.YtdlkohenamlnaaaGreat
open Go Go.Sx
theorem ldOI {h : Hp} {p : OA} {n : Nat} {l : List Int} {i : Int} {i' : Nat} {Q : Int → Prop} (r : RdT (tI 3) h p n l) (ei : i = (i' : Int)) (h1 : i' < n) (hq : Q (l.getD i' (tI 3).d)) :
    (0 ≤ i ∧ i < (n : Int)) ∧ NN p fun a => ∃ x, cell h (a.add (Int.toNat i * 1)) = some (.int .i64 x) ∧ Q x := by
  subst ei
  exact r.int (by omega) (by omega) (by rw [Int.toNat_natCast]; exact hq)
theorem swOIx {h0 h : Hp} {p : OA} {n c : Nat} {u v : Int} {u' v' : Nat} {xs : List Int} {A F : Bag} {k : Hp → Prop} {X : Prop} (hx : X) (a : Sl (tI 3) p n c xs A) (s : St h0 h (A + F)) (eu : u = (u' : Int)) (ev : v = (v' : Int)) (hu1 : u' < n) (hv1 : v' < n)
    (hk : ∀ h' A', Sl (tI 3) p n c (swapL (tI 3).d xs u' v') A' → St h0 h' (A' + F) → k h') :
    (0 ≤ v ∧ v < (n : Int)) ∧ NN p fun a1 => ∃ n1, cell h (a1.add (Int.toNat v * 1)) = some (.int .i64 n1) ∧ X ∧ (0 ≤ u ∧ u < (n : Int)) ∧ NN p fun a2 => ∃ n2, cell h (a2.add (Int.toNat u * 1)) = some (.int .i64 n2) ∧
      (0 ≤ u ∧ u < (n : Int)) ∧ NN p fun a3 => Wr h (a3.add (Int.toNat u * 1)) (.int .i64 n1) fun h1 => (0 ≤ v ∧ v < (n : Int)) ∧ NN p fun a4 => Wr h1 (a4.add (Int.toNat v * 1)) (.int .i64 n2) k := by
  subst eu ev
  have r := a.rd s
  refine ldOI r rfl hv1 ⟨hx, ldOI r rfl hu1 ?_⟩
  refine a.wrI (x := xs.getD v' (tI 3).d) s (by omega) (by omega) rfl rfl fun h1 A1 a1 s1 => ?_
  refine a1.wrI (x := xs.getD u' (tI 3).d) s1 (by omega) (by omega) rfl rfl fun h2 A2 a2 s2 => ?_
  rw [Int.toNat_natCast, Int.toNat_natCast] at a2
  exact hk h2 A2 a2 s2
theorem swOI {h0 h : Hp} {p : OA} {n c : Nat} {u v : Int} {u' v' : Nat} {xs : List Int} {A F : Bag} {k : Hp → Prop} (a : Sl (tI 3) p n c xs A) (s : St h0 h (A + F)) (eu : u = (u' : Int)) (ev : v = (v' : Int)) (hu1 : u' < n) (hv1 : v' < n)
    (hk : ∀ h' A', Sl (tI 3) p n c (swapL (tI 3).d xs u' v') A' → St h0 h' (A' + F) → k h') :
    (0 ≤ v ∧ v < (n : Int)) ∧ NN p fun a1 => ∃ n1, cell h (a1.add (Int.toNat v * 1)) = some (.int .i64 n1) ∧ (0 ≤ u ∧ u < (n : Int)) ∧ NN p fun a2 => ∃ n2, cell h (a2.add (Int.toNat u * 1)) = some (.int .i64 n2) ∧
      (0 ≤ u ∧ u < (n : Int)) ∧ NN p fun a3 => Wr h (a3.add (Int.toNat u * 1)) (.int .i64 n1) fun h1 => (0 ≤ v ∧ v < (n : Int)) ∧ NN p fun a4 => Wr h1 (a4.add (Int.toNat v * 1)) (.int .i64 n2) k := by
  subst eu ev
  have r := a.rd s
  refine ldOI r rfl hv1 (ldOI r rfl hu1 ?_)
  refine a.wrI (x := xs.getD v' (tI 3).d) s (by omega) (by omega) rfl rfl fun h1 A1 a1 s1 => ?_
  refine a1.wrI (x := xs.getD u' (tI 3).d) s1 (by omega) (by omega) rfl rfl fun h2 A2 a2 s2 => ?_
  rw [Int.toNat_natCast, Int.toNat_natCast] at a2
  exact hk h2 A2 a2 s2
theorem ordI : OrdP (fun x y : Int => x < y) := ⟨fun x y h => by omega, fun x y z h1 h2 => by omega⟩
end Go.Proofs.YtdlkohenamlnaaaGreat
/- Sorting: insertionSort, siftDown, heapSort, reverseRange. -/
namespace Go.Proofs.YtdlkohenamlnaaaGreat
open Go Go.Sx
abbrev OutOI (h0 : Hp) (p : OA) (n cp a b : Nat) (xs : List Int) (F : Bag) (h' : Hp) (Q : List Int → Prop) : Prop := ∃ ys A', Sl (tI 3) p n cp ys A' ∧ St h0 h' (A' + F) ∧ Swp (tI 3).d a b xs ys ∧ Q ys
theorem yagz {h0 h : Hp} {p : OA} {n cp a' b' : Nat} {a b : Int} {xs : List Int} {A F : Bag} {P : Int → Prop} (s : St h0 h (A + F)) (o : Sl (tI 3) p n cp xs A) (hP : ∀ k, k < n → P (xs.getD k (tI 3).d)) (ea : a = (a' : Int)) (eb : b = (b' : Int)) (ha : a' ≤ n) (hb : b' ≤ n) (hn : n < 1000000) :
    yaae Tryz.prog 187 #[.slice p n cp, .int .i64 a, .int .i64 b] h (fun v h' => v = .tuple #[] ∧ OutOI h0 p n cp a' b' xs F h' (SrtR (tI 3).d (fun x y : Int => x < y) a' b')) := by
  subst ea eb
  have hl0 := o.len
  refine zew_call ?_
  rw [zew_b0]
  refine ⟨⟨by omega, by omega⟩, fun i h1 => ∃ i' : Nat, i.1 = i' ∧ a' + 1 ≤ i' ∧ OutOI h0 p n cp a' b' xs F h1 (SrtR (tI 3).d (fun x y : Int => x < y) a' i'), fun i _ => (b' - i.1).toNat, ⟨a' + 1, rfl, Nat.le_refl _, xs, A, o, s, .refl _, yahp (by omega)⟩, ?_⟩
  rintro ⟨_, _⟩ h1 ⟨i', rfl, hi, ys, A1, o, s, w, hs⟩
  dsimp only
  rw [zew_b1]
  refine condP (fun hlt => ?_) (fun hge => ⟨rfl, ys, A1, o, s, w, SrtR.mono hs (Nat.le_refl _) (by omega)⟩)
  refine ⟨fun j h2 => ∃ j' : Nat, j.1 = j' ∧ a' ≤ j' ∧ j' ≤ i' ∧ OutOI h0 p n cp a' b' xs F h2 (InsR (tI 3).d (fun x y : Int => x < y) a' j' i'), fun j _ => j.1.toNat, ⟨i', rfl, by omega, by omega, ys, A1, o, s, w, yaio hs⟩, ?_⟩
  clear hs w s o ys
  rintro ⟨_, _⟩ h2 ⟨j', rfl, hj1, hj2, ys, A1, o, s, w, hs⟩
  dsimp only
  have hl := o.len
  have hP := w.allN hl0 hP
  have fin : ∀ h3, St h0 h3 (A1 + F) → (a' < j' → ¬ (fun x y : Int => x < y) (ys.getD j' (tI 3).d) (ys.getD (j' - 1) (tI 3).d)) → zew_b4 p n cp a' b' i' h3 (fun s' h' => (∃ i' : Nat, s'.1 = i' ∧ a' + 1 ≤ i' ∧ OutOI h0 p n cp a' b' xs F h' (SrtR (tI 3).d (fun x y : Int => x < y) a' i')) ∧ (b' - s'.1).toNat < (b' - (i' : Int)).toNat) (fun v h' => v = .tuple #[] ∧ OutOI h0 p n cp a' b' xs F h' (SrtR (tI 3).d (fun x y : Int => x < y) a' b')) := by
    intro h3 s hx
    rw [zew_b4]
    exact ⟨⟨by omega, by omega⟩, ⟨i' + 1, by push_cast; rfl, by omega, ys, A1, o, s, w, yapn ordI hj1 hs hx⟩, by omega⟩
  rw [zew_b2]
  refine condP (fun hj => ?_) (fun hj => fin _ s fun h => by omega)
  have r := o.rd s
  refine ldOI (i' := j') r rfl (by omega) ⟨⟨by omega, by omega⟩, ldOI (i' := j' - 1) r (by omega) (by omega) ?_⟩
  refine ⟨_, (yaco _ _ _).mono fun v9 h9 ⟨hh9, hv9⟩ => ⟨hv9, hh9⟩, ?_⟩
  refine condP (fun hc => ?_) (fun hc => fin _ s fun _ => hc)
  rw [zew_b3]
  refine ⟨⟨by omega, by omega⟩, ⟨by omega, by omega⟩, ?_⟩
  refine swOI (u' := j') (v' := j' - 1) o s rfl (by omega) (by omega) (by omega) fun h6 A6 o6 s6 => ?_
  rw [zew_b5]
  exact ⟨⟨by omega, by omega⟩, ⟨j' - 1, by omega, by omega, by omega, _, A6, o6, s6, .step w (by omega) (by omega) (by omega) (by omega) (by omega), yaqd ordI (by omega) hj2 (by omega) hs hc⟩, by omega⟩
theorem yaki {h0 h : Hp} {p : OA} {n cp lo' hi' f' : Nat} {lo hi f : Int} {xs : List Int} {A F : Bag} {P : Int → Prop} (s : St h0 h (A + F)) (o : Sl (tI 3) p n cp xs A) (hP : ∀ k, k < n → P (xs.getD k (tI 3).d)) (el : lo = (lo' : Int)) (eh : hi = (hi' : Int)) (ef : f = (f' : Int)) (hf : f' + hi' ≤ n) (hlo : lo' ≤ n) (hn : n < 1000000)
    (hx : HeapX (tI 3).d (fun x y : Int => x < y) f' lo' hi' lo' xs) :
    yaae Tryz.prog 197 #[.slice p n cp, .int .i64 lo, .int .i64 hi, .int .i64 f] h (fun v h' => v = .tuple #[] ∧ OutOI h0 p n cp (f' + lo') (f' + hi') xs F h' (HeapR (tI 3).d (fun x y : Int => x < y) f' lo' hi')) := by
  subst el eh ef
  have hl0 := o.len
  refine zfh_call ?_
  rw [zfh_b0]
  refine ⟨fun i h1 => ∃ r : Nat, i.1 = r ∧ lo' ≤ r ∧ r ≤ n ∧ OutOI h0 p n cp (f' + lo') (f' + hi') xs F h1 (HeapX (tI 3).d (fun x y : Int => x < y) f' lo' hi' r), fun i _ => (hi' - i.1).toNat, ⟨lo', rfl, Nat.le_refl _, hlo, xs, A, o, s, .refl _, hx⟩, ?_⟩
  rintro ⟨_, _⟩ h1 ⟨r, rfl, hr, hrn, ys, A1, o, s, w, hs⟩
  dsimp only
  have hl := o.len
  have hP := w.allN hl0 hP
  rw [zfh_b1]
  refine ⟨⟨by omega, by omega⟩, ⟨by omega, by omega⟩, condP (fun hle => ⟨rfl, ys, A1, o, s, w, yamg hs fun c h1 h2 => by omega⟩) (fun hle => ⟨⟨by omega, by omega⟩, ?_⟩)⟩
  have fin : ∀ (ch : Nat) (h3 : Hp) (ci : Int), ci = (ch : Int) → St h0 h3 (A1 + F) → (ch = 2 * r + 1 ∨ ch = 2 * r + 2) → ch < hi' → (∀ c, (c = 2 * r + 1 ∨ c = 2 * r + 2) → c < hi' → ¬ (fun x y : Int => x < y) (ys.getD (f' + ch) (tI 3).d) (ys.getD (f' + c) (tI 3).d)) →
      zfh_b2 p n cp hi' f' r ci h3 (fun s' h' => (∃ r : Nat, s'.1 = r ∧ lo' ≤ r ∧ r ≤ n ∧ OutOI h0 p n cp (f' + lo') (f' + hi') xs F h' (HeapX (tI 3).d (fun x y : Int => x < y) f' lo' hi' r)) ∧ (hi' - s'.1).toNat < (hi' - (r : Int)).toNat) (fun v h' => v = .tuple #[] ∧ OutOI h0 p n cp (f' + lo') (f' + hi') xs F h' (HeapR (tI 3).d (fun x y : Int => x < y) f' lo' hi')) := by
    rintro ch h3 _ rfl s hc1 hc2 hmax
    rw [zfh_b2]
    have rd := o.rd s
    refine ⟨⟨by omega, by omega⟩, ldOI (i' := f' + r) rd (by omega) (by omega) ⟨⟨by omega, by omega⟩, ldOI (i' := f' + ch) rd (by omega) (by omega) ?_⟩⟩
    refine ⟨_, (yaco _ _ _).mono fun v9 h9 ⟨hh9, hv9⟩ => ⟨hv9, hh9⟩, ?_⟩
    refine condN (fun hc => ⟨rfl, ys, A1, o, s, w, yamg hs fun c k1 k2 k3 => ordI.trans _ _ _ (hmax c k1 k2) hc k3⟩) (fun hc => ⟨⟨by omega, by omega⟩, ⟨by omega, by omega⟩, ⟨by omega, by omega⟩, ?_⟩)
    refine swOIx ⟨by omega, by omega⟩ (u' := f' + r) (v' := f' + ch) o s (by omega) (by omega) (by omega) (by omega) fun h6 A6 o6 s6 => ?_
    exact ⟨⟨ch, rfl, by omega, by omega, _, A6, o6, s6, .step (i := f' + r) (j := f' + ch) w (by omega) (by omega) (by omega) (by omega) (by omega), yatb ordI hs hc1 hc2 (by omega) hc hmax hr⟩, by omega⟩
  refine condP (fun h2 => ?_) (fun h2 => fin (2 * r + 1) _ _ (by omega) s (.inl rfl) (by omega) fun c k1 k2 => ?_)
  · have rd := o.rd s
    refine ⟨⟨by omega, by omega⟩, ldOI (i' := f' + (2 * r + 1)) rd (by omega) (by omega) ⟨⟨by omega, by omega⟩, ⟨by omega, by omega⟩, ldOI (i' := f' + (2 * r + 2)) rd (by omega) (by omega) ?_⟩⟩
    refine ⟨_, (yaco _ _ _).mono fun v9 h9 ⟨hh9, hv9⟩ => ⟨hv9, hh9⟩, ?_⟩
    refine condP (fun hc => ⟨⟨by omega, by omega⟩, fin (2 * r + 2) _ _ (by push_cast; rfl) s (.inr rfl) (by omega) fun c k1 k2 => ?_⟩) (fun hc => fin (2 * r + 1) _ _ (by omega) s (.inl rfl) (by omega) fun c k1 k2 => ?_)
    · rcases k1 with rfl | rfl
      · exact ordI.asymm _ _ hc
      · exact ordI.irr _
    · rcases k1 with rfl | rfl
      · exact ordI.irr _
      · exact hc
  · rcases k1 with rfl | rfl
    · exact ordI.irr _
    · omega
theorem yarq {h0 h : Hp} {p : OA} {n cp a' b' : Nat} {a b : Int} {xs : List Int} {A F : Bag} {P : Int → Prop} (s : St h0 h (A + F)) (o : Sl (tI 3) p n cp xs A) (hP : ∀ k, k < n → P (xs.getD k (tI 3).d)) (ea : a = (a' : Int)) (eb : b = (b' : Int)) (hab : a' < b') (hb : b' ≤ n) (hn : n < 1000000) :
    yaae Tryz.prog 188 #[.slice p n cp, .int .i64 a, .int .i64 b] h (fun v h' => v = .tuple #[] ∧ OutOI h0 p n cp a' b' xs F h' (SrtR (tI 3).d (fun x y : Int => x < y) a' b')) := by
  subst ea eb
  have hl0 := o.len
  refine zev_call ?_
  rw [zev_b0]
  refine ⟨⟨by omega, by omega⟩, ⟨by omega, by omega⟩, yact (by omega) (by omega) (by omega) ?_⟩
  obtain ⟨q, hq⟩ : ∃ q : Nat, ((b' : Int) - a' - 1) / 2 + 1 = q := ⟨(((b' : Int) - a' - 1) / 2 + 1).toNat, by omega⟩
  refine ⟨fun i h1 => ∃ m : Nat, i.1 = (m : Int) - 1 ∧ m ≤ b' - a' ∧ OutOI h0 p n cp a' b' xs F h1 (HeapR (tI 3).d (fun x y : Int => x < y) a' m (b' - a')), fun i _ => (i.1 + 1).toNat, ⟨q, by show _ / _ = _; omega, by omega, xs, A, o, s, .refl _, fun k c k1 k2 k3 => by omega⟩, ?_⟩
  rintro ⟨_, _⟩ h1 ⟨m, rfl, hm, ys, A1, o, s, w, hs⟩
  dsimp only
  have hl := o.len
  have hPy := w.allN hl0 hP
  rw [zev_b1]
  refine condP (fun hi => ?_) (fun hi => ?_)
  · refine (yaki  s o hPy (lo' := m - 1) (hi' := b' - a') (f' := a') (by omega) (by omega) rfl (by omega) (by omega) hn ⟨fun k c k1 k2 k3 k4 => hs k c (by omega) k2 k3, fun k c k1 k2 => by omega⟩).mono fun v h2 ⟨hv, zs, A2, o2, s2, w2, hs2⟩ => ⟨hv, ?_⟩
    rw [zev_b2]
    exact ⟨⟨by omega, by omega⟩, ⟨m - 1, by omega, by omega, zs, A2, o2, s2, w.trans (w2.mono (by omega) (by omega) (by omega)).1, hs2⟩, by omega⟩
  · obtain rfl : m = 0 := by omega
    rw [zev_b3]
    refine ⟨⟨by omega, by omega⟩, ?_⟩
    refine ⟨fun i h1 => ∃ m : Nat, i.1 = (m : Int) - 1 ∧ m ≤ b' - a' ∧ OutOI h0 p n cp a' b' xs F h1 (fun ys => HeapR (tI 3).d (fun x y : Int => x < y) a' 0 m ys ∧ OutR (tI 3).d (fun x y : Int => x < y) a' b' a' (a' + m) ys), fun i _ => (i.1 + 1).toNat, ⟨b' - a', by show (_ : Int) - 1 = _; omega, by omega, ys, A1, o, s, w, hs, by rw [show a' + (b' - a') = b' by omega]; exact yakj⟩, ?_⟩
    clear hs w s o hl hPy ys
    rintro ⟨_, _⟩ h2 ⟨m, rfl, hm, ys, A1, o, s, w, hs, ho2⟩
    dsimp only
    have hl := o.len
    rw [zev_b4]
    refine condP (fun hi => ⟨⟨by omega, by omega⟩, ⟨by omega, by omega⟩, ?_⟩) (fun hi => ?_)
    · refine swOI (u' := a') (v' := a' + (m - 1)) o s rfl (by omega) (by omega) (by omega) fun h6 A6 o6 s6 => ?_
      have w1 : Swp (tI 3).d a' (a' + m) ys (swapL (tI 3).d ys a' (a' + (m - 1))) := .one (by omega) (by omega) (by omega) (by omega) (by omega)
      have w6 := w.trans (w1.mono (Nat.le_refl _) (by omega) (by omega)).1
      have hg : ∀ k, (swapL (tI 3).d ys a' (a' + (m - 1))).getD k (tI 3).d = if k = a' + (m - 1) then ys.getD a' (tI 3).d else if k = a' then ys.getD (a' + (m - 1)) (tI 3).d else ys.getD k (tI 3).d := yaba (by omega) (by omega)
      have ho6 : OutR (tI 3).d (fun x y : Int => x < y) a' b' a' (a' + (m - 1)) (swapL (tI 3).d ys a' (a' + (m - 1))) := by
        intro p q k1 k2 k3 k4
        by_cases hq : q = a' + (m - 1)
        · rw [hq, hg, if_pos rfl]
          exact w1.all (P := fun x => ¬ (fun x y : Int => x < y) (ys.getD a' (tI 3).d) x) (fun k j1 j2 => by
            have := yavw ordI hs (k - a') (by omega)
            rwa [show a' + (k - a') = k by omega] at this) p k1 (by omega)
        · exact yacv (Nat.le_refl _) (by omega) ho2 w1 p q k1 k2 k3 (by omega)
      generalize swapL (tI 3).d ys a' (a' + (m - 1)) = us at *
      refine (yaki  s6 o6 (w6.allN hl0 hP) (lo' := 0) (hi' := m - 1) (f' := a') (by rfl) (by omega) rfl (by omega) (by omega) hn ⟨fun k c k1 k2 k3 k4 => ?_, fun k c k1 k2 => by omega⟩).mono fun v h2 ⟨hv, zs, A2, o2, s2, w2, hs2⟩ => ⟨hv, ?_⟩
      · rw [hg, hg, if_neg (by omega), if_neg (by omega), if_neg (by omega), if_neg (by omega)]
        exact hs k c (by omega) k2 (by omega)
      · rw [zev_b5]
        exact ⟨⟨by omega, by omega⟩, ⟨m - 1, by omega, by omega, zs, A2, o2, s2, w6.trans (w2.mono (by omega) (by omega) (by rw [w6.len]; omega)).1, hs2, yacv (Nat.le_refl _) (by omega) ho6 w2⟩, by omega⟩
    · obtain rfl : m = 0 := by omega
      exact ⟨rfl, ys, A1, o, s, w, yalr ho2 (yahp (by omega))⟩
theorem yaiw {h0 h : Hp} {p : OA} {n cp a' b' : Nat} {a b : Int} {xs : List Int} {A F : Bag} (s : St h0 h (A + F)) (o : Sl (tI 3) p n cp xs A) (ea : a = (a' : Int)) (eb : b = (b' : Int)) (hab : a' ≤ b') (hb : b' ≤ n) (hn : n < 1000000) :
    yaae Tryz.prog 191 #[.slice p n cp, .int .i64 a, .int .i64 b] h (fun v h' => v = .tuple #[] ∧ OutOI h0 p n cp a' b' xs F h' fun _ => True) := by
  subst ea eb
  have hl0 := o.len
  refine zfg_call ?_
  rw [zfg_b0]
  refine ⟨⟨by omega, by omega⟩, fun i h1 => ∃ i' : Nat, i.1 = i' ∧ a' ≤ i' ∧ i.2.1 < b' ∧ i' ≤ n ∧ -1 ≤ i.2.1 ∧ OutOI h0 p n cp a' b' xs F h1 fun _ => True, fun i _ => (i.2.1 - i.1).toNat, ⟨a', rfl, Nat.le_refl _, by show (_ : Int) - 1 < _; omega, by omega, by show -1 ≤ (_ : Int) - 1; omega, xs, A, o, s, .refl _, trivial⟩, ?_⟩
  rintro ⟨_, j, _⟩ h1 ⟨i', rfl, hi, hj, hin, hj1, ys, A1, o, s, w, _⟩
  dsimp only at hj hj1 ⊢
  have hl := o.len
  rw [zfg_b1]
  refine condP (fun hlt => ?_) (fun hlt => ⟨rfl, ys, A1, o, s, w, trivial⟩)
  refine swOI (u' := i') (v' := j.toNat) o s rfl (by omega) (by omega) (by omega) fun h6 A6 o6 s6 => ?_
  exact ⟨⟨by omega, by omega⟩, ⟨by omega, by omega⟩, ⟨i' + 1, by push_cast; rfl, by omega, by show j - 1 < _; omega, by omega, by show -1 ≤ j - 1; omega, _, A6, o6, s6, .step w (by omega) (by omega) (by omega) (by omega) (by omega), trivial⟩, by dsimp only; omega⟩
end Go.Proofs.YtdlkohenamlnaaaGreat
/- Numbers that sorting wants: bits.Len, xorshift, nextPowerOfTwo. -/
namespace Go.Proofs.YtdlkohenamlnaaaGreat
open Go Go.Sx
def blen (x : Nat) : Nat := if x = 0 then 0 else x.log2 + 1
theorem yagu {x k : Nat} (h : 2 ^ k ≤ x) : blen x = blen (x / 2 ^ k) + k := by
  have hp : 0 < 2 ^ k := Nat.two_pow_pos k
  have hx : x ≠ 0 := by omega
  have hq : x / 2 ^ k ≠ 0 := by have := Nat.div_pos h hp; omega
  unfold blen
  rw [if_neg hx, if_neg hq]
  have : x.log2 = (x / 2 ^ k).log2 + k := by
    rw [Nat.log2_eq_iff hx]
    have h1 := Nat.log2_self_le hq
    have h2 := @Nat.lt_log2_self (x / 2 ^ k)
    constructor
    · rw [Nat.pow_add]
      exact Nat.le_trans (Nat.mul_le_mul_right _ h1) (Nat.div_mul_le_self _ _)
    · rw [show (x / 2 ^ k).log2 + k + 1 = ((x / 2 ^ k).log2 + 1) + k by omega, Nat.pow_add]
      exact (Nat.div_lt_iff_lt_mul hp).1 h2
  omega
theorem yarx {x k : Nat} (h : x < 2 ^ k) : blen x ≤ k := by
  unfold blen
  split
  · omega
  · rename_i hx
    have h1 := Nat.log2_self_le hx
    have : 2 ^ x.log2 < 2 ^ k := Nat.lt_of_le_of_lt h1 h
    have := (Nat.pow_lt_pow_iff_right (by decide : 1 < 2)).1 this
    omega
theorem yawn {s : ByteArray} {m : Nat} {nv : Int} {h : Hp} {K : VK} (hz : s.size = 256) (hs : ∀ n, n < 256 → (s.data.toList.getD n 0).toNat = blen n) (hm : m < 256) (h0 : 0 ≤ nv) (h1 : nv < 1000)
    (hk : K (.int .i64 (nv + (blen m : Nat))) h) : (0 ≤ IntKind.u8.wrap (m : Int) ∧ IntKind.u8.wrap (m : Int) < (s.size : Int)) ∧ InR (((s.data.toList.getD (Int.toNat (IntKind.u8.wrap (m : Int))) 0).toNat : Int)) ∧
      InR (nv + (((s.data.toList.getD (Int.toNat (IntKind.u8.wrap (m : Int))) 0).toNat : Int))) ∧ K (.int .i64 (nv + (((s.data.toList.getD (Int.toNat (IntKind.u8.wrap (m : Int))) 0).toNat : Int)))) h := by
  have hw : IntKind.u8.wrap (m : Int) = m := yarr _ (by omega) (by omega)
  have hb : blen m ≤ 8 := yarx (by omega)
  rw [hw, show ((m : Nat) : Int).toNat = m by simp, hs m hm, hz]
  exact ⟨⟨by omega, by omega⟩, ⟨by omega, by omega⟩, ⟨by omega, by omega⟩, hk⟩
theorem yaxr (x : Nat) (hx : x < 18446744073709551616) (h : Hp) : yaae Tryz.prog 133 #[.int .u64 (x : Int)] h (fun r h' => r = .int .i64 (blen x : Nat) ∧ h' = h) := by
  refine zak_call ?_
  have shr : ∀ (y k : Nat), y >>> k = y / 2 ^ k := fun y k => Nat.shiftRight_eq_div_pow y k
  have b3 : ∀ (y : Nat) (nv : Int), y < 256 → 0 ≤ nv → nv < 100 → nv + (blen y : Nat) = (blen x : Nat) → zak_b3 (y : Int) nv h (fun r h' => r = .int .i64 (blen x : Nat) ∧ h' = h) := by
    intro y nv hy h0 h1 he
    rw [zak_b3_eq]
    refine yawn (K := fun r h' => r = .int .i64 (blen x : Nat) ∧ h' = h) ?_ ?_ hy h0 (by omega) ?_
    · decide +kernel
    · decide +kernel
    · rw [he]; exact ⟨rfl, rfl⟩
  have b2 : ∀ (y : Nat) (nv : Int), y < 65536 → 0 ≤ nv → nv < 90 → nv + (blen y : Nat) = (blen x : Nat) → zak_b2 (y : Int) nv h (fun r h' => r = .int .i64 (blen x : Nat) ∧ h' = h) := by
    intro y nv hy h0 h1 he
    rw [zak_b2_eq]
    refine condP (fun hc => ?_) (fun hc => b3 y nv (by omega) h0 (by omega) he)
    refine yaih (x := y) (s := 8) rfl rfl (by decide) ⟨⟨by omega, by omega⟩, ?_⟩
    rw [shr]
    have := yagu (x := y) (k := 8) (by omega)
    exact b3 _ _ (by omega) (by omega) (by omega) (by omega)
  have b1 : ∀ (y : Nat) (nv : Int), y < 4294967296 → 0 ≤ nv → nv < 70 → nv + (blen y : Nat) = (blen x : Nat) → zak_b1 (y : Int) nv h (fun r h' => r = .int .i64 (blen x : Nat) ∧ h' = h) := by
    intro y nv hy h0 h1 he
    rw [zak_b1_eq]
    refine condP (fun hc => ?_) (fun hc => b2 y nv (by omega) h0 (by omega) he)
    refine yaih (x := y) (s := 16) rfl rfl (by decide) ⟨⟨by omega, by omega⟩, ?_⟩
    rw [shr]
    have := yagu (x := y) (k := 16) (by omega)
    exact b2 _ _ (by omega) (by omega) (by omega) (by omega)
  rw [zak_b0_eq]
  refine condP (fun hc => ?_) (fun hc => b1 x 0 (by omega) (by omega) (by omega) (by omega))
  refine yaih (x := x) (s := 32) rfl rfl (by decide) ?_
  rw [shr]
  have := yagu (x := x) (k := 32) (by omega)
  exact b1 _ _ (by omega) (by omega) (by omega) (by omega)
theorem yajf (x : Nat) (hx : x < 18446744073709551616) (h : Hp) : yaae Tryz.prog 89 #[.int .u64 (x : Int)] h (fun r h' => r = .int .i64 (blen x : Nat) ∧ h' = h) := by
  refine zaj_call ?_
  rw [zaj_b0]
  refine (yaxr x hx h).mono fun v h' ⟨hv, hh⟩ => ?_
  exact ⟨_, hv, rfl, hh⟩
theorem yaox {x : Nat} (h : 1 ≤ x) : 2 ^ blen x ≤ 2 * x ∧ x < 2 ^ blen x := by
  unfold blen
  rw [if_neg (by omega)]
  have h1 := Nat.log2_self_le (show x ≠ 0 by omega)
  have h2 := @Nat.lt_log2_self x
  rw [Nat.pow_succ]
  rw [Nat.pow_succ] at h2
  omega
theorem yaqv (x : Nat) (h1 : 1 ≤ x) (hx : x < 1000000) (h : Hp) : yaae Tryz.prog 155 #[.int .i64 (x : Int)] h (fun r h' => r = .int .u64 ((2 ^ blen x : Nat) : Int) ∧ h' = h) := by
  refine zfa_call ?_
  rw [zfa_b0, yadc _ (by omega) (by omega)]
  refine (yajf x (by omega) h).mono fun v h' ⟨hv, hh⟩ => ⟨_, hv, ?_⟩
  have hb := yaox h1
  have hl : blen x ≤ 20 := yarx (by omega)
  refine yasr (x := 1) (s := blen x) rfl rfl (by show blen x ≤ 64; omega) ?_ ⟨?_, hh⟩
  · exact yadc _ (by omega) (by omega)
  · rw [Nat.one_mul]
theorem ybab {h0 h : Hp} {b : Nat} {z : Int} {e : TypeId} {F : Bag} (s : St h0 h (cA b [.int .u64 z] e + F)) : yaae Tryz.prog 156 #[.pointer (some ⟨b, 0, none⟩)] h (fun r h' => ∃ y : Int, r = .int .u64 y ∧ St h0 h' (cA b [.int .u64 y] e + F)) := by
  refine zfi_call ?_
  rw [zfi_b0]
  refine ⟨_, s.cell 0, _, s.cell 0, _, ⟨by decide, rfl⟩, _, rfl, s.wr (o := 0) rfl Nat.zero_lt_one fun h1 s => ?_⟩
  refine ⟨_, s.cell 0, _, s.cell 0, _, ⟨by decide, rfl⟩, _, rfl, s.wr (o := 0) rfl Nat.zero_lt_one fun h2 s => ?_⟩
  refine ⟨_, s.cell 0, _, s.cell 0, _, ⟨by decide, rfl⟩, _, rfl, s.wr (o := 0) rfl Nat.zero_lt_one fun h3 s => ?_⟩
  exact ⟨_, s.cell 0, _, rfl, s⟩
theorem yayv (r : Int) (m : Nat) (h1 : 1 ≤ m) (hm : m < 10000000) {Q : Int → Prop} (hq : ∀ k : Nat, k < m → Q (k : Int)) : ∃ an1 : Int, Sx.And .u64 r (IntKind.u64.wrap ((m : Int) - 1)) an1 ∧ Q an1 := by
  refine ⟨_, rfl, ?_⟩
  rw [yadc ((m : Int) - 1) (by omega) (by omega)]
  have h2 : ((BitVec.ofInt IntKind.u64.bits r) &&& (BitVec.ofInt IntKind.u64.bits ((m : Int) - 1))).toNat ≤ m - 1 := by
    rw [BitVec.toNat_and]
    refine Nat.le_trans Nat.and_le_right ?_
    rw [show ((m : Int) - 1) = ((m - 1 : Nat) : Int) by omega, BitVec.ofInt_natCast, BitVec.toNat_ofNat]
    exact Nat.mod_le _ _
  rw [yadc _ (by omega) (by omega)]
  exact hq _ (by omega)
end Go.Proofs.YtdlkohenamlnaaaGreat
/- Sorting: the choice of a pivot, breakPatterns. -/
namespace Go.Proofs.YtdlkohenamlnaaaGreat
open Go Go.Sx
theorem yakp {h0 h : Hp} {p : OA} {n cp a' b' sb : Nat} {a b z : Int} {e : TypeId} {xs : List Int} {A F : Bag} {P : Int → Prop} (s : St h0 h (A + (cA sb [.int .i64 z] e + F))) (o : Sl (tI 3) p n cp xs A) (hP : ∀ k, k < n → P (xs.getD k (tI 3).d)) (ea : a = (a' : Int)) (eb : b = (b' : Int)) (ha : a' < n) (hb : b' < n) (hz : 0 ≤ z) (hz1 : z < 1000) :
    yaae Tryz.prog 200 #[.slice p n cp, .int .i64 a, .int .i64 b, .pointer (some ⟨sb, 0, none⟩)] h (fun v h' => ∃ u w z' : Int, v = .tuple #[.int .i64 u, .int .i64 w] ∧ (u = a ∧ w = b ∨ u = b ∧ w = a) ∧ z ≤ z' ∧ z' ≤ z + 1 ∧ St h0 h' (A + (cA sb [.int .i64 z'] e + F))) := by
  subst ea eb
  have hl0 := o.len
  refine zfb_call ?_
  rw [zfb_b0]
  have r := o.rd s
  refine ldOI (i' := b') r rfl hb (ldOI (i' := a') r rfl ha ?_)
  refine ⟨_, (yaco _ _ _).mono fun v9 h9 ⟨hh9, hv9⟩ => ⟨hv9, hh9⟩, ?_⟩
  refine condP (fun hc => ?_) (fun hc => ⟨_, _, z, rfl, .inl ⟨rfl, rfl⟩, by omega, by omega, s⟩)
  have s := s.to (B := cA sb [.int .i64 z] e + (A + F))
  refine ⟨_, s.cell 0, ⟨by omega, by omega⟩, s.wr (o := 0) rfl Nat.zero_lt_one fun h2 s => ?_⟩
  exact ⟨_, _, z + 1, rfl, .inr ⟨rfl, rfl⟩, by omega, by omega, s.to⟩
theorem yapj {h0 h : Hp} {p : OA} {n cp sb : Nat} {a b c z : Int} {e : TypeId} {xs : List Int} {A F : Bag} {P : Int → Prop} (s : St h0 h (A + (cA sb [.int .i64 z] e + F))) (o : Sl (tI 3) p n cp xs A) (hP : ∀ k, k < n → P (xs.getD k (tI 3).d)) (ha : 0 ≤ a ∧ a < n) (hb : 0 ≤ b ∧ b < n) (hc : 0 ≤ c ∧ c < n) (hz : 0 ≤ z) (hz1 : z < 900) :
    yaae Tryz.prog 199 #[.slice p n cp, .int .i64 a, .int .i64 b, .int .i64 c, .pointer (some ⟨sb, 0, none⟩)] h (fun v h' => ∃ u z' : Int, v = .int .i64 u ∧ (u = a ∨ u = b ∨ u = c) ∧ z ≤ z' ∧ z' ≤ z + 3 ∧ St h0 h' (A + (cA sb [.int .i64 z'] e + F))) := by
  refine zez_call ?_
  rw [zez_b0]
  refine (yakp  s o hP (a' := a.toNat) (b' := b.toNat) (by omega) (by omega) (by omega) (by omega) hz (by omega)).mono fun v1 h1 ⟨u1, w1, z1, hv1, hu1, g1, g2, s⟩ => ⟨_, _, hv1, ?_⟩
  refine (yakp  s o hP (a' := w1.toNat) (b' := c.toNat) (by omega) (by omega) (by omega) (by omega) (by omega) (by omega)).mono fun v2 h2 ⟨u2, w2, z2, hv2, hu2, g3, g4, s⟩ => ⟨_, _, hv2, ?_⟩
  refine (yakp  s o hP (a' := u1.toNat) (b' := u2.toNat) (by omega) (by omega) (by omega) (by omega) (by omega) (by omega)).mono fun v3 h3 ⟨u3, w3, z3, hv3, hu3, g5, g6, s⟩ => ⟨_, _, hv3, ?_⟩
  exact ⟨_, z3, rfl, by omega, by omega, by omega, s⟩
theorem yack {h0 h : Hp} {p : OA} {n cp sb : Nat} {a z : Int} {e : TypeId} {xs : List Int} {A F : Bag} {P : Int → Prop} (s : St h0 h (A + (cA sb [.int .i64 z] e + F))) (o : Sl (tI 3) p n cp xs A) (hP : ∀ k, k < n → P (xs.getD k (tI 3).d)) (ha : 1 ≤ a ∧ a + 1 < n) (hn : n < 1000000) (hz : 0 ≤ z) (hz1 : z < 900) :
    yaae Tryz.prog 198 #[.slice p n cp, .int .i64 a, .pointer (some ⟨sb, 0, none⟩)] h (fun v h' => ∃ u z' : Int, v = .int .i64 u ∧ (a - 1 ≤ u ∧ u ≤ a + 1) ∧ z ≤ z' ∧ z' ≤ z + 3 ∧ St h0 h' (A + (cA sb [.int .i64 z'] e + F))) := by
  refine zey_call ?_
  rw [zey_b0]
  refine ⟨⟨by omega, by omega⟩, ⟨by omega, by omega⟩, (yapj  s o hP (by omega) (by omega) (by omega) hz hz1).mono fun v1 h1 ⟨u, z', hv, hu, g1, g2, s⟩ => ⟨_, hv, _, z', rfl, by omega, g1, g2, s⟩⟩
theorem yajq {h0 h : Hp} {p : OA} {n cp a' b' : Nat} {a b : Int} {xs : List Int} {A F : Bag} {P : Int → Prop} (s : St h0 h (A + F)) (o : Sl (tI 3) p n cp xs A) (hP : ∀ k, k < n → P (xs.getD k (tI 3).d)) (ea : a = (a' : Int)) (eb : b = (b' : Int)) (hab : a' < b') (hb : b' ≤ n) (hn : n < 1000000) :
    yaae Tryz.prog 190 #[.slice p n cp, .int .i64 a, .int .i64 b] h (fun v h' => ∃ u hint : Int, v = .tuple #[.int .i64 u, .int .i64 hint] ∧ a ≤ u ∧ u < b ∧ St h0 h' (A + F)) := by
  subst ea eb
  refine zeu_call ?_
  rw [zeu_b0]
  refine ⟨⟨by omega, by omega⟩, s.new (cs := [.int .i64 0]) fun sb h1 _ s => ?_⟩
  have s := s.to (B := A + (cA sb [.int .i64 0] 3 + F))
  have b2 : ∀ (u z : Int) (h' : Hp), a' ≤ u → u < b' → St h0 h' (A + (cA sb [.int .i64 z] 3 + F)) → zeu_b2 (some ⟨sb, 0, none⟩) u h' (fun v h' => ∃ u hint : Int, v = .tuple #[.int .i64 u, .int .i64 hint] ∧ (a' : Int) ≤ u ∧ u < b' ∧ St h0 h' (A + F)) := by
    intro u z h' h1 h2 s
    rw [zeu_b2]
    have s := s.to (B := cA sb [.int .i64 z] 3 + (A + F))
    exact ⟨_, s.cell 0, condP (fun _ => ⟨_, _, rfl, h1, h2, s.drop⟩) fun _ => condP (fun _ => ⟨_, _, rfl, h1, h2, s.drop⟩) fun _ => ⟨_, _, rfl, h1, h2, s.drop⟩⟩
  have b1 : ∀ (u v w z : Int) (h' : Hp), (a' ≤ u ∧ u < b') → (a' ≤ v ∧ v < b') → (a' ≤ w ∧ w < b') → 0 ≤ z → z < 100 → St h0 h' (A + (cA sb [.int .i64 z] 3 + F)) → zeu_b1 p n cp (some ⟨sb, 0, none⟩) u v w h' (fun v h' => ∃ u hint : Int, v = .tuple #[.int .i64 u, .int .i64 hint] ∧ (a' : Int) ≤ u ∧ u < b' ∧ St h0 h' (A + F)) := by
    intro u v w z h' h1 h2 h3 hz hz1 s
    rw [zeu_b1]
    refine (yapj  s o hP (by omega) (by omega) (by omega) hz (by omega)).mono fun v1 h1 ⟨u, z', hv, hu, g1, g2, s⟩ => ⟨_, hv, ?_⟩
    exact b2 _ _ _ (by omega) (by omega) s
  refine yact (by omega) (by omega) (by omega) ⟨⟨by omega, by omega⟩, ⟨by omega, by omega⟩, ?_⟩
  refine yact (by omega) (by omega) (by omega) ⟨⟨by omega, by omega⟩, ⟨by omega, by omega⟩, ?_⟩
  refine yact (by omega) (by omega) (by omega) ⟨⟨by omega, by omega⟩, ⟨by omega, by omega⟩, ?_⟩
  refine condP (fun h8 => ?_) (fun h8 => b2 _ _ _ (by omega) (by omega) s)
  refine condP (fun h50 => ?_) (fun h50 => b1 _ _ _ _ _ (by omega) (by omega) (by omega) (by omega) (by omega) s)
  refine (yack  s o hP (by omega) hn (by omega) (by omega)).mono fun v1 h1 ⟨u1, z1, hv, hu, g1, g2, s⟩ => ⟨_, hv, ?_⟩
  refine (yack  s o hP (by omega) hn (by omega) (by omega)).mono fun v1 h1 ⟨u2, z2, hv, hu, g3, g4, s⟩ => ⟨_, hv, ?_⟩
  refine (yack  s o hP (by omega) hn (by omega) (by omega)).mono fun v1 h1 ⟨u3, z3, hv, hu, g5, g6, s⟩ => ⟨_, hv, ?_⟩
  exact b1 _ _ _ _ _ (by omega) (by omega) (by omega) (by omega) (by omega) s
theorem yaha {h0 h : Hp} {p : OA} {n cp a' b' : Nat} {a b : Int} {xs : List Int} {A F : Bag} (s : St h0 h (A + F)) (o : Sl (tI 3) p n cp xs A) (ea : a = (a' : Int)) (eb : b = (b' : Int)) (hab : a' ≤ b') (hb : b' ≤ n) (hn : n < 1000000) :
    yaae Tryz.prog 189 #[.slice p n cp, .int .i64 a, .int .i64 b] h (fun v h' => v = .tuple #[] ∧ OutOI h0 p n cp a' b' xs F h' fun _ => True) := by
  subst ea eb
  have hl0 := o.len
  refine zet_call ?_
  rw [zet_b0]
  refine ⟨⟨by omega, by omega⟩, condP (fun h8 => ?_) (fun h8 => ⟨rfl, xs, A, o, s, .refl _, trivial⟩)⟩
  refine s.new (cs := [.int .u64 0]) fun rb h1 _ s => ?_
  refine s.wr (o := 0) rfl Nat.zero_lt_one fun h2 s => ?_
  rw [show ((b' : Int) - a') = ((b' - a' : Nat) : Int) by omega]
  refine (yaqv (b' - a') (by omega) (by omega) h2).mono fun v h3 ⟨hv, hh⟩ => ⟨_, hv, ?_⟩
  subst hh
  have hm := yaox (x := b' - a') (by omega)
  generalize 2 ^ blen (b' - a') = m at *
  refine yact (by omega) (by omega) (by omega) ⟨⟨by omega, by omega⟩, ⟨by omega, by omega⟩, ⟨by omega, by omega⟩, ?_⟩
  obtain ⟨q, hq⟩ : ∃ q : Nat, ((b' - a' : Nat) : Int) / 4 = q := ⟨(b' - a') / 4, by omega⟩
  rw [hq]
  refine ⟨fun i h1 => ∃ (i' : Nat) (z : Int), i.1 = i' ∧ a' ≤ i' ∧ ∃ ys A1, Sl (tI 3) p n cp ys A1 ∧ St h0 h1 (cA rb [.int .u64 z] 183 + (A1 + F)) ∧ Swp (tI 3).d a' b' xs ys, fun i _ => (b' - i.1).toNat, ⟨a' + 2 * q - 1, _, by show (_ : Int) - 1 = _; omega, by omega, xs, A, o, s, .refl _⟩, ?_⟩
  rintro ⟨_, _⟩ h1 ⟨i', z, rfl, hi, ys, A1, o, s, w⟩
  dsimp only
  have hl := o.len
  rw [zet_b1]
  refine yact (by omega) (by omega) (by omega) ?_
  rw [hq]
  refine ⟨⟨by omega, by omega⟩, ⟨by omega, by omega⟩, ⟨by omega, by omega⟩, condP (fun hlt => ?_) (fun hlt => ⟨rfl, ys, A1, o, s.drop, w, trivial⟩)⟩
  refine (ybab s).mono fun v h3 ⟨y, hv, s⟩ => ⟨_, hv, yayv y m (by omega) (by omega) fun k hk => ⟨⟨by omega, by omega⟩, ?_⟩⟩
  have fin : ∀ u : Nat, u < b' - a' → zet_b2 p n cp a' ((b' - a' : Nat) : Int) (some ⟨rb, 0, none⟩) m i' u h3 (fun s' h' => (∃ (i' : Nat) (z : Int), s'.1 = i' ∧ a' ≤ i' ∧ ∃ ys A1, Sl (tI 3) p n cp ys A1 ∧ St h0 h' (cA rb [.int .u64 z] 183 + (A1 + F)) ∧ Swp (tI 3).d a' b' xs ys) ∧ (b' - s'.1).toNat < (b' - (i' : Int)).toNat) (fun v h' => v = .tuple #[] ∧ OutOI h0 p n cp a' b' xs F h' fun _ => True) := by
    intro u hu
    rw [zet_b2]
    have s := s.to (B := A1 + (cA rb [.int .u64 y] 183 + F))
    refine ⟨⟨by omega, by omega⟩, ⟨by omega, by omega⟩, swOI (u' := i') (v' := a' + u) o s rfl (by push_cast; rfl) (by omega) (by omega) fun h6 A6 o6 s6 => ?_⟩
    rw [zet_b3]
    exact ⟨⟨by omega, by omega⟩, ⟨i' + 1, y, by push_cast; rfl, by omega, _, A6, o6, s6.to, .step w (by omega) (by omega) (by omega) (by omega) (by omega)⟩, by omega⟩
  refine condP (fun hk2 => ⟨⟨by omega, by omega⟩, ?_⟩) (fun hk2 => fin k (by omega))
  have := fin (k - (b' - a')) (by omega)
  rwa [show ((k - (b' - a') : Nat) : Int) = (k : Int) - ((b' - a' : Nat) : Int) by omega] at this
end Go.Proofs.YtdlkohenamlnaaaGreat
/- Sorting: partition, partitionEqual. -/
namespace Go.Proofs.YtdlkohenamlnaaaGreat
open Go Go.Sx
abbrev yahx (cf : Unit) (h0 : Hp) (p : OA) (n cp a' b' : Nat) (xs : List Int) (F : Bag) (i' J : Nat) (h : Hp) : Prop := a' + 1 ≤ i' ∧ i' ≤ b' ∧ a' + 1 ≤ J ∧ J ≤ b' ∧ OutOI h0 p n cp a' b' xs F h (fun ys => LoR (tI 3).d (fun x y : Int => x < y) a' i' ys ∧ HiR (tI 3).d (fun x y : Int => x < y) a' J b' ys)
abbrev yasu (cf : Unit) (h0 : Hp) (p : OA) (n cp a' b' : Nat) (xs : List Int) (F : Bag) (i' J : Nat) (h : Hp) : Prop := a' + 1 ≤ i' ∧ i' ≤ b' ∧ a' + 1 ≤ J ∧ J ≤ b' ∧ OutOI h0 p n cp a' b' xs F h (fun ys => LoR (tI 3).d (fun x y : Int => x < y) a' i' ys ∧ HiR (tI 3).d (fun x y : Int => x < y) a' J b' ys ∧ (i' < J → ¬ (fun x y : Int => x < y) (ys.getD i' (tI 3).d) (ys.getD a' (tI 3).d)))
abbrev ybad (cf : Unit) (h0 : Hp) (p : OA) (n cp a' b' : Nat) (xs : List Int) (F : Bag) (i' J : Nat) (h : Hp) : Prop := a' + 1 ≤ i' ∧ i' ≤ b' ∧ a' + 1 ≤ J ∧ J ≤ b' ∧ OutOI h0 p n cp a' b' xs F h (fun ys => LoR (tI 3).d (fun x y : Int => x < y) a' i' ys ∧ HiR (tI 3).d (fun x y : Int => x < y) a' J b' ys ∧ (i' < J → ¬ (fun x y : Int => x < y) (ys.getD i' (tI 3).d) (ys.getD a' (tI 3).d)) ∧ (i' < J → (fun x y : Int => x < y) (ys.getD (J - 1) (tI 3).d) (ys.getD a' (tI 3).d)))
theorem yano {h0 h : Hp} {p : OA} {n cp a' b' pv' : Nat} {a b pv : Int} {xs : List Int} {A F : Bag} {P : Int → Prop} (s : St h0 h (A + F)) (o : Sl (tI 3) p n cp xs A) (hP : ∀ k, k < n → P (xs.getD k (tI 3).d)) (ea : a = (a' : Int)) (eb : b = (b' : Int)) (ev : pv = (pv' : Int)) (hpv : a' ≤ pv' ∧ pv' < b') (hb : b' ≤ n) (hn : n < 1000000) :
    yaae Tryz.prog 194 #[.slice p n cp, .int .i64 a, .int .i64 b, .int .i64 pv] h (fun v h' => ∃ (m : Nat) (bb : Bool), v = .tuple #[.int .i64 (m : Int), .bool bb] ∧ a' ≤ m ∧ m < b' ∧ OutOI h0 p n cp a' b' xs F h' (PartR (tI 3).d (fun x y : Int => x < y) a' b' m)) := by
  subst ea eb ev
  have hl0 := o.len
  refine zfe_call ?_
  generalize hR : (fun v h' => ∃ (m : Nat) (bb : Bool), v = Value.tuple #[.int .i64 (m : Int), .bool bb] ∧ a' ≤ m ∧ m < b' ∧ OutOI h0 p n cp a' b' xs F h' (PartR (tI 3).d (fun x y : Int => x < y) a' b' m)) = R
  have hRi : ∀ (v : Value) (h' : Hp) (m : Nat) (bb : Bool), v = .tuple #[.int .i64 (m : Int), .bool bb] → a' ≤ m → m < b' → OutOI h0 p n cp a' b' xs F h' (PartR (tI 3).d (fun x y : Int => x < y) a' b' m) → R v h' := by
    intro v h' m bb h1 h2 h3 h4; rw [← hR]; exact ⟨m, bb, h1, h2, h3, h4⟩
  clear hR
  have b13 : ∀ (i' J : Nat) (h' : Hp) (nx : Int × Int × Unit → Hp → Prop) , ybad () h0 p n cp a' b' xs F i' J h' → (∀ h', yahx () h0 p n cp a' b' xs F (i' + 1) (J - 1) h' → i' < J → nx ((i' : Int) + 1, (J : Int) - 1 - 1, ()) h') → zfe_b13 p n cp a' i' ((J : Int) - 1) h' nx R := by
    rintro i' J h' nx ⟨hi1, hi2, hJ1, hJ2, ys, A1, o, s, w, lo, hi, hst, hs2⟩ hnx
    have hl := o.len
    rw [zfe_b13_eq]
    refine condP (fun hlt => ?_) (fun hlt => ?_)
    · rw [zfe_b14_eq]
      refine swOI (u' := J - 1) (v' := a') o s (by omega) rfl (by omega) (by omega) fun h6 A6 o6 s6 => ?_
      refine hRi _ _ (J - 1) false (by rw [show ((J - 1 : Nat) : Int) = (J : Int) - 1 by omega]) (by omega) (by omega) ⟨_, A6, o6, s6, .step w (by omega) (by omega) (by omega) (by omega) (by omega), yaqj (by omega) hi2 (by omega) (by omega) lo hi⟩
    · refine swOI (u' := i') (v' := J - 1) o s rfl (by omega) (by omega) (by omega) fun h6 A6 o6 s6 => ⟨⟨by omega, by omega⟩, ⟨by omega, by omega⟩, ?_⟩
      have hs2 := hs2 (by omega)
      exact hnx _ ⟨by omega, by omega, by omega, by omega, _, A6, o6, s6, .step w (by omega) (by omega) (by omega) (by omega) (by omega), yams (by omega) (by omega) hJ2 (by omega) lo hi (hst (by omega)) hs2⟩ (by omega)
  have b10 : ∀ (i' J : Nat) (h' : Hp) (nx : Int × Int × Unit → Hp → Prop) , yasu () h0 p n cp a' b' xs F i' J h' → (∀ i2 J2 h', i' + 1 ≤ i2 → J2 + 1 ≤ J → yahx () h0 p n cp a' b' xs F i2 J2 h' → nx ((i2 : Int), (J2 : Int) - 1, ()) h') → zfe_b10 p n cp a' i' ((J : Int) - 1) h' nx R := by
    rintro i' J h' nx hI hnx
    rw [zfe_b10_eq]
    refine ⟨fun j h2 => ∃ J2 : Nat, j.1 = (J2 : Int) - 1 ∧ J2 ≤ J ∧ yasu () h0 p n cp a' b' xs F i' J2 h2, fun j _ => (j.1 + 1).toNat, ⟨J, rfl, Nat.le_refl _, hI⟩, ?_⟩
    clear hI
    rintro ⟨_, _⟩ h2 ⟨J2, rfl, hJJ, hi1, hi2, hJ1, hJ2, ys, A1, o, s, w, lo, hi, hst⟩
    dsimp only
    have hl := o.len
    have hP := w.allN hl0 hP
    have ch := fun (h3 : Hp) (s : St h0 h3 (A1 + F)) (g : i' < J2 → (fun x y : Int => x < y) (ys.getD (J2 - 1) (tI 3).d) (ys.getD a' (tI 3).d)) => b13 i' J2 h3 nx ⟨hi1, hi2, hJ1, hJ2, ys, A1, o, s, w, lo, hi, hst, g⟩ fun h' hp hq => by have := hnx (i' + 1) (J2 - 1) h' (by omega) (by omega) hp; rwa [show ((i' + 1 : Nat) : Int) = (i' : Int) + 1 by push_cast; rfl, show ((J2 - 1 : Nat) : Int) - 1 = (J2 : Int) - 1 - 1 by omega] at this
    rw [zfe_b11_eq]
    refine condP (fun hlt => ?_) (fun hlt => ch _ s fun h => by omega)
    have r := o.rd s
    refine ldOI (i' := J2 - 1) r (by omega) (by omega) (ldOI (i' := a') r rfl (by omega) ?_)
    refine ⟨_, (yaco _ _ _).mono fun v9 h9 ⟨hh9, hv9⟩ => ⟨hv9, hh9⟩, ?_⟩
    refine condN (fun hc => ?_) (fun hc => ch _ s fun _ => hc)
    rw [zfe_b12_eq]
    exact ⟨⟨by omega, by omega⟩, ⟨J2 - 1, by omega, by omega, hi1, hi2, by omega, by omega, ys, A1, o, s, w, lo, yavn hi hc, fun h => hst (by omega)⟩, by omega⟩
  have b8 : ∀ (i' J : Nat) (h' : Hp) (nx : Int × Int × Unit → Hp → Prop) , yahx () h0 p n cp a' b' xs F i' J h' → (∀ i2 J2 h', i' + 1 ≤ i2 → J2 + 1 ≤ J → yahx () h0 p n cp a' b' xs F i2 J2 h' → nx ((i2 : Int), (J2 : Int) - 1, ()) h') → yaau (((i' : Int), ()) : Int × Unit) h' (fun (nx1 : Int × Unit → Hp → Prop) (s4 : Int × Unit) h36 => zfe_b8 s4.1 p n cp a' ((J : Int) - 1) h36 nx nx1 R) := by
    rintro i' J h' nx hI hnx
    refine ⟨fun i h2 => ∃ i2 : Nat, i.1 = (i2 : Int) ∧ i' ≤ i2 ∧ yahx () h0 p n cp a' b' xs F i2 J h2, fun i _ => (b' - i.1).toNat, ⟨i', rfl, Nat.le_refl _, hI⟩, ?_⟩
    clear hI
    rintro ⟨_, _⟩ h2 ⟨i2, rfl, hii, hi1, hi2, hJ1, hJ2, ys, A1, o, s, w, lo, hi⟩
    dsimp only
    have hl := o.len
    have hP := w.allN hl0 hP
    have ch := fun (h3 : Hp) (s : St h0 h3 (A1 + F)) (g : i2 < J → ¬ (fun x y : Int => x < y) (ys.getD i2 (tI 3).d) (ys.getD a' (tI 3).d)) => b10 i2 J h3 nx ⟨hi1, hi2, hJ1, hJ2, ys, A1, o, s, w, lo, hi, g⟩ fun i3 J3 h' g1 g2 g3 => hnx i3 J3 h' (by omega) (by omega) g3
    rw [zfe_b8_eq]
    refine condP (fun hlt => ?_) (fun hlt => ch _ s fun h => by omega)
    have r := o.rd s
    refine ldOI (i' := i2) r rfl (by omega) (ldOI (i' := a') r rfl (by omega) ?_)
    refine ⟨_, (yaco _ _ _).mono fun v9 h9 ⟨hh9, hv9⟩ => ⟨hv9, hh9⟩, ?_⟩
    refine condP (fun hc => ?_) (fun hc => ch _ s fun _ => hc)
    rw [zfe_b9_eq]
    exact ⟨⟨by omega, by omega⟩, ⟨i2 + 1, by push_cast; rfl, by omega, by omega, by omega, hJ1, hJ2, ys, A1, o, s, w, yaun lo hc, hi⟩, by omega⟩
  have b7 : ∀ (i' J : Nat) (h' : Hp), yahx () h0 p n cp a' b' xs F i' J h' → yaau ((i', (J : Int) - 1, ()) : Int × Int × Unit) h' (fun (nx0 : Int × Int × Unit → Hp → Prop) (s3 : Int × Int × Unit) h35 => zfe_b7 s3.1 s3.2.1 p n cp a' h35 nx0 R) := by
    intro i' J h' hI
    refine ⟨fun ij h2 => ∃ i2 J2 : Nat, ij.1 = (i2 : Int) ∧ ij.2.1 = (J2 : Int) - 1 ∧ yahx () h0 p n cp a' b' xs F i2 J2 h2, fun ij _ => (b' - ij.1).toNat + (ij.2.1 + 1).toNat, ⟨i', J, rfl, rfl, hI⟩, ?_⟩
    clear hI
    rintro ⟨_, _, _⟩ h2 ⟨i2, J2, rfl, rfl, hI⟩
    dsimp only
    rw [zfe_b7_eq]
    refine b8 i2 J2 h2 _ hI fun i3 J3 h3 g1 g2 hI3 => ⟨⟨i3, J3, rfl, rfl, hI3⟩, ?_⟩
    have := hI.1
    have := hI.2.1
    have := hI3.2.1
    dsimp only
    omega
  have b6 : ∀ (i' J : Nat) (h' : Hp) , ybad () h0 p n cp a' b' xs F i' J h' → zfe_b6 p n cp a' i' ((J : Int) - 1) h' R := by
    rintro i' J h' ⟨hi1, hi2, hJ1, hJ2, ys, A1, o, s, w, lo, hi, hst, hs2⟩
    have hl := o.len
    rw [zfe_b6_eq]
    refine condP (fun hlt => ?_) (fun hlt => ?_)
    · refine swOI (u' := J - 1) (v' := a') o s (by omega) rfl (by omega) (by omega) fun h6 A6 o6 s6 => ?_
      refine hRi _ _ (J - 1) true (by rw [show ((J - 1 : Nat) : Int) = (J : Int) - 1 by omega]) (by omega) (by omega) ⟨_, A6, o6, s6, .step w (by omega) (by omega) (by omega) (by omega) (by omega), yaqj (by omega) hi2 (by omega) (by omega) lo hi⟩
    · refine swOI (u' := i') (v' := J - 1) o s rfl (by omega) (by omega) (by omega) fun h6 A6 o6 s6 => ⟨⟨by omega, by omega⟩, ⟨by omega, by omega⟩, ?_⟩
      have hs2 := hs2 (by omega)
      have := b7 (i' + 1) (J - 1) h6 ⟨by omega, by omega, by omega, by omega, _, A6, o6, s6, .step w (by omega) (by omega) (by omega) (by omega) (by omega), yams (by omega) (by omega) hJ2 (by omega) lo hi (hst (by omega)) hs2⟩
      rwa [show ((i' + 1 : Nat) : Int) = (i' : Int) + 1 by push_cast; rfl, show ((J - 1 : Nat) : Int) - 1 = (J : Int) - 1 - 1 by omega] at this
  have b3 : ∀ (i' J : Nat) (h' : Hp) , yasu () h0 p n cp a' b' xs F i' J h' → zfe_b3 p n cp a' i' ((J : Int) - 1) h' R := by
    rintro i' J h' hI
    rw [zfe_b3_eq]
    refine ⟨fun j h2 => ∃ J2 : Nat, j.1 = (J2 : Int) - 1 ∧ J2 ≤ J ∧ yasu () h0 p n cp a' b' xs F i' J2 h2, fun j _ => (j.1 + 1).toNat, ⟨J, rfl, Nat.le_refl _, hI⟩, ?_⟩
    clear hI
    rintro ⟨_, _⟩ h2 ⟨J2, rfl, hJJ, hi1, hi2, hJ1, hJ2, ys, A1, o, s, w, lo, hi, hst⟩
    dsimp only
    have hl := o.len
    have hP := w.allN hl0 hP
    have ch := fun (h3 : Hp) (s : St h0 h3 (A1 + F)) (g : i' < J2 → (fun x y : Int => x < y) (ys.getD (J2 - 1) (tI 3).d) (ys.getD a' (tI 3).d)) => b6 i' J2 h3  ⟨hi1, hi2, hJ1, hJ2, ys, A1, o, s, w, lo, hi, hst, g⟩
    rw [zfe_b4_eq]
    refine condP (fun hlt => ?_) (fun hlt => ch _ s fun h => by omega)
    have r := o.rd s
    refine ldOI (i' := J2 - 1) r (by omega) (by omega) (ldOI (i' := a') r rfl (by omega) ?_)
    refine ⟨_, (yaco _ _ _).mono fun v9 h9 ⟨hh9, hv9⟩ => ⟨hv9, hh9⟩, ?_⟩
    refine condN (fun hc => ?_) (fun hc => ch _ s fun _ => hc)
    rw [zfe_b5_eq]
    exact ⟨⟨by omega, by omega⟩, ⟨J2 - 1, by omega, by omega, hi1, hi2, by omega, by omega, ys, A1, o, s, w, lo, yavn hi hc, fun h => hst (by omega)⟩, by omega⟩
  have b1 : ∀ (i' J : Nat) (h' : Hp) , yahx () h0 p n cp a' b' xs F i' J h' → yaau (((i' : Int), ()) : Int × Unit) h' (fun (nx1 : Int × Unit → Hp → Prop) (s4 : Int × Unit) h36 => zfe_b1 s4.1 p n cp a' ((J : Int) - 1) h36 nx1 R) := by
    rintro i' J h' hI
    refine ⟨fun i h2 => ∃ i2 : Nat, i.1 = (i2 : Int) ∧ i' ≤ i2 ∧ yahx () h0 p n cp a' b' xs F i2 J h2, fun i _ => (b' - i.1).toNat, ⟨i', rfl, Nat.le_refl _, hI⟩, ?_⟩
    clear hI
    rintro ⟨_, _⟩ h2 ⟨i2, rfl, hii, hi1, hi2, hJ1, hJ2, ys, A1, o, s, w, lo, hi⟩
    dsimp only
    have hl := o.len
    have hP := w.allN hl0 hP
    have ch := fun (h3 : Hp) (s : St h0 h3 (A1 + F)) (g : i2 < J → ¬ (fun x y : Int => x < y) (ys.getD i2 (tI 3).d) (ys.getD a' (tI 3).d)) => b3 i2 J h3  ⟨hi1, hi2, hJ1, hJ2, ys, A1, o, s, w, lo, hi, g⟩
    rw [zfe_b1_eq]
    refine condP (fun hlt => ?_) (fun hlt => ch _ s fun h => by omega)
    have r := o.rd s
    refine ldOI (i' := i2) r rfl (by omega) (ldOI (i' := a') r rfl (by omega) ?_)
    refine ⟨_, (yaco _ _ _).mono fun v9 h9 ⟨hh9, hv9⟩ => ⟨hv9, hh9⟩, ?_⟩
    refine condP (fun hc => ?_) (fun hc => ch _ s fun _ => hc)
    rw [zfe_b2_eq]
    exact ⟨⟨by omega, by omega⟩, ⟨i2 + 1, by push_cast; rfl, by omega, by omega, by omega, hJ1, hJ2, ys, A1, o, s, w, yaun lo hc, hi⟩, by omega⟩
  rw [zfe_b0_eq]
  refine swOI (u' := a') (v' := pv') o s rfl rfl (by omega) (by omega) fun h6 A6 o6 s6 => ⟨⟨by omega, by omega⟩, ⟨by omega, by omega⟩, ?_⟩
  have := b1 (a' + 1) b' h6 ⟨Nat.le_refl _, by omega, by omega, Nat.le_refl _, _, A6, o6, s6, .one (Nat.le_refl _) (by omega) (by omega) (by omega) (by omega), fun k h1 h2 => by omega, fun k h1 h2 => by omega⟩
  rwa [show ((a' + 1 : Nat) : Int) = (a' : Int) + 1 by push_cast; rfl] at this
end Go.Proofs.YtdlkohenamlnaaaGreat
/- Sorting: partitionEqual, partialInsertionSort. -/
namespace Go.Proofs.YtdlkohenamlnaaaGreat
open Go Go.Sx
abbrev yaka (cf : Unit) (h0 : Hp) (p : OA) (n cp a' b' : Nat) (x : Int) (xs : List Int) (F : Bag) (i' J : Nat) (h : Hp) : Prop := a' + 1 ≤ i' ∧ i' ≤ b' ∧ a' + 1 ≤ J ∧ J ≤ b' ∧ OutOI h0 p n cp a' b' xs F h (fun ys => EqR (tI 3).d (fun x y : Int => x < y) x a' i' ys)
abbrev EStOI (cf : Unit) (h0 : Hp) (p : OA) (n cp a' b' : Nat) (x : Int) (xs : List Int) (F : Bag) (i' J : Nat) (h : Hp) : Prop := a' + 1 ≤ i' ∧ i' ≤ b' ∧ a' + 1 ≤ J ∧ J ≤ b' ∧ OutOI h0 p n cp a' b' xs F h (fun ys => EqR (tI 3).d (fun x y : Int => x < y) x a' i' ys ∧ (i' < J → ¬ (fun x y : Int => x < y) (ys.getD a' (tI 3).d) (ys.getD (J - 1) (tI 3).d)))
theorem yagp {h0 h : Hp} {p : OA} {n cp a' b' pv' : Nat} {a b pv : Int} {xs : List Int} {A F : Bag} {P : Int → Prop} (s : St h0 h (A + F)) (o : Sl (tI 3) p n cp xs A) (hP : ∀ k, k < n → P (xs.getD k (tI 3).d)) (ea : a = (a' : Int)) (eb : b = (b' : Int)) (ev : pv = (pv' : Int)) (hpv : a' ≤ pv' ∧ pv' < b') (hb : b' ≤ n) (hn : n < 1000000) :
    yaae Tryz.prog 193 #[.slice p n cp, .int .i64 a, .int .i64 b, .int .i64 pv] h (fun v h' => ∃ m : Nat, v = .int .i64 (m : Int) ∧ a' + 1 ≤ m ∧ m ≤ b' ∧ OutOI h0 p n cp a' b' xs F h' (EqR (tI 3).d (fun x y : Int => x < y) (xs.getD pv' (tI 3).d) a' m)) := by
  subst ea eb ev
  have hl0 := o.len
  refine zfd_call ?_
  generalize hx : xs.getD pv' (tI 3).d = x
  generalize hR : (fun v h' => ∃ m : Nat, v = Value.int .i64 (m : Int) ∧ a' + 1 ≤ m ∧ m ≤ b' ∧ OutOI h0 p n cp a' b' xs F h' (EqR (tI 3).d (fun x y : Int => x < y) x a' m)) = R
  have hRi : ∀ (v : Value) (h' : Hp) (m : Nat), v = .int .i64 (m : Int) → a' + 1 ≤ m → m ≤ b' → OutOI h0 p n cp a' b' xs F h' (EqR (tI 3).d (fun x y : Int => x < y) x a' m) → R v h' := by
    intro v h' m h1 h2 h3 h4; rw [← hR]; exact ⟨m, h1, h2, h3, h4⟩
  clear hR
  have b7 : ∀ (i' J : Nat) (h' : Hp) (nx : Int × Int × Unit → Hp → Prop), EStOI () h0 p n cp a' b' x xs F i' J h' → (∀ h', yaka () h0 p n cp a' b' x xs F (i' + 1) (J - 1) h' → i' < J → nx ((i' : Int) + 1, (J : Int) - 1 - 1, ()) h') → zfd_b7 p n cp a' i' ((J : Int) - 1) h' nx R := by
    rintro i' J h' nx ⟨hi1, hi2, hJ1, hJ2, ys, A1, o, s, w, he, hs2⟩ hnx
    have hl := o.len
    rw [zfd_b7]
    refine condP (fun hlt => ?_) (fun hlt => ?_)
    · rw [zfd_b8]
      exact hRi _ _ i' rfl hi1 hi2 ⟨ys, A1, o, s, w, he⟩
    · refine swOI (u' := i') (v' := J - 1) o s rfl (by omega) (by omega) (by omega) fun h6 A6 o6 s6 => ⟨⟨by omega, by omega⟩, ⟨by omega, by omega⟩, ?_⟩
      exact hnx _ ⟨by omega, by omega, by omega, by omega, _, A6, o6, s6, .step w (by omega) (by omega) (by omega) (by omega) (by omega), ybaz (by omega) (by omega) (by omega) he (hs2 (by omega))⟩ (by omega)
  have b4 : ∀ (i' J : Nat) (h' : Hp) (nx : Int × Int × Unit → Hp → Prop), yaka () h0 p n cp a' b' x xs F i' J h' → (∀ i2 J2 h', i' + 1 ≤ i2 → J2 + 1 ≤ J → yaka () h0 p n cp a' b' x xs F i2 J2 h' → nx ((i2 : Int), (J2 : Int) - 1, ()) h') → zfd_b4 p n cp a' i' ((J : Int) - 1) h' nx R := by
    rintro i' J h' nx hI hnx
    rw [zfd_b4]
    refine ⟨fun j h2 => ∃ J2 : Nat, j.1 = (J2 : Int) - 1 ∧ J2 ≤ J ∧ yaka () h0 p n cp a' b' x xs F i' J2 h2, fun j _ => (j.1 + 1).toNat, ⟨J, rfl, Nat.le_refl _, hI⟩, ?_⟩
    clear hI
    rintro ⟨_, _⟩ h2 ⟨J2, rfl, hJJ, hi1, hi2, hJ1, hJ2, ys, A1, o, s, w, he⟩
    dsimp only
    have hl := o.len
    have hP := w.allN hl0 hP
    have ch := fun (h3 : Hp) (s : St h0 h3 (A1 + F)) (g : i' < J2 → ¬ (fun x y : Int => x < y) (ys.getD a' (tI 3).d) (ys.getD (J2 - 1) (tI 3).d)) => b7 i' J2 h3 nx ⟨hi1, hi2, hJ1, hJ2, ys, A1, o, s, w, he, g⟩ fun h' hp hq => by have := hnx (i' + 1) (J2 - 1) h' (by omega) (by omega) hp; rwa [show ((i' + 1 : Nat) : Int) = (i' : Int) + 1 by push_cast; rfl, show ((J2 - 1 : Nat) : Int) - 1 = (J2 : Int) - 1 - 1 by omega] at this
    rw [zfd_b5]
    refine condP (fun hlt => ?_) (fun hlt => ch _ s fun h => by omega)
    have r := o.rd s
    refine ldOI (i' := a') r rfl (by omega) (ldOI (i' := J2 - 1) r (by omega) (by omega) ?_)
    refine ⟨_, (yaco _ _ _).mono fun v9 h9 ⟨hh9, hv9⟩ => ⟨hv9, hh9⟩, ?_⟩
    refine condP (fun hc => ?_) (fun hc => ch _ s fun _ => hc)
    rw [zfd_b6]
    exact ⟨⟨by omega, by omega⟩, ⟨J2 - 1, by omega, by omega, hi1, hi2, by omega, by omega, ys, A1, o, s, w, he⟩, by omega⟩
  have b2 : ∀ (i' J : Nat) (h' : Hp) (nx : Int × Int × Unit → Hp → Prop), yaka () h0 p n cp a' b' x xs F i' J h' → (∀ i2 J2 h', i' + 1 ≤ i2 → J2 + 1 ≤ J → yaka () h0 p n cp a' b' x xs F i2 J2 h' → nx ((i2 : Int), (J2 : Int) - 1, ()) h') → yaau (((i' : Int), ()) : Int × Unit) h' (fun (nx1 : Int × Unit → Hp → Prop) (s4 : Int × Unit) h36 => zfd_b2 s4.1 p n cp a' ((J : Int) - 1) h36 nx nx1 R) := by
    rintro i' J h' nx hI hnx
    refine ⟨fun i h2 => ∃ i2 : Nat, i.1 = (i2 : Int) ∧ i' ≤ i2 ∧ yaka () h0 p n cp a' b' x xs F i2 J h2, fun i _ => (b' - i.1).toNat, ⟨i', rfl, Nat.le_refl _, hI⟩, ?_⟩
    clear hI
    rintro ⟨_, _⟩ h2 ⟨i2, rfl, hii, hi1, hi2, hJ1, hJ2, ys, A1, o, s, w, he⟩
    dsimp only
    have hl := o.len
    have hP := w.allN hl0 hP
    have ch := fun (h3 : Hp) (s : St h0 h3 (A1 + F)) => b4 i2 J h3 nx ⟨hi1, hi2, hJ1, hJ2, ys, A1, o, s, w, he⟩ fun i3 J3 h' g1 g2 g3 => hnx i3 J3 h' (by omega) (by omega) g3
    rw [zfd_b2]
    refine condP (fun hlt => ?_) (fun hlt => ch _ s)
    have r := o.rd s
    refine ldOI (i' := a') r rfl (by omega) (ldOI (i' := i2) r rfl (by omega) ?_)
    refine ⟨_, (yaco _ _ _).mono fun v9 h9 ⟨hh9, hv9⟩ => ⟨hv9, hh9⟩, ?_⟩
    refine condN (fun hc => ?_) (fun hc => ch _ s)
    rw [zfd_b3]
    exact ⟨⟨by omega, by omega⟩, ⟨i2 + 1, by push_cast; rfl, by omega, by omega, by omega, hJ1, hJ2, ys, A1, o, s, w, yayl he hc⟩, by omega⟩
  rw [zfd_b0]
  refine swOI (u' := a') (v' := pv') o s rfl rfl (by omega) (by omega) fun h6 A6 o6 s6 => ⟨⟨by omega, by omega⟩, ⟨by omega, by omega⟩, ?_⟩
  have hx2 : (swapL (tI 3).d xs a' pv').getD a' (tI 3).d = x := by
    rw [yaba (by omega) (by omega)]
    by_cases hk : a' = pv'
    · rw [if_pos hk, hk, hx]
    · rw [if_neg hk, if_pos rfl, hx]
  refine ⟨fun ij h2 => ∃ i2 J2 : Nat, ij.1 = (i2 : Int) ∧ ij.2.1 = (J2 : Int) - 1 ∧ yaka () h0 p n cp a' b' x xs F i2 J2 h2, fun ij _ => (b' - ij.1).toNat + (ij.2.1 + 1).toNat, ⟨a' + 1, b', by push_cast; rfl, rfl, Nat.le_refl _, by omega, by omega, Nat.le_refl _, _, A6, o6, s6, .one (Nat.le_refl _) (by omega) (by omega) (by omega) (by omega), hx2, fun k h1 h2 => by rw [show k = a' by omega, hx2]; exact ordI.irr _⟩, ?_⟩
  rintro ⟨_, _, _⟩ h2 ⟨i2, J2, rfl, rfl, hI⟩
  dsimp only
  rw [zfd_b1]
  refine b2 i2 J2 h2 _ hI fun i3 J3 h3 g1 g2 hI3 => ⟨⟨i3, J3, rfl, rfl, hI3⟩, ?_⟩
  have := hI.1
  have := hI.2.1
  have := hI3.2.1
  dsimp only
  omega
theorem yadn {h0 h : Hp} {p : OA} {n cp a' b' : Nat} {a b : Int} {xs : List Int} {A F : Bag} {P : Int → Prop} (s : St h0 h (A + F)) (o : Sl (tI 3) p n cp xs A) (hP : ∀ k, k < n → P (xs.getD k (tI 3).d)) (ea : a = (a' : Int)) (eb : b = (b' : Int)) (hab : a' < b') (hb : b' ≤ n) (hn : n < 1000000)
    (hlow : 0 < a' → ∀ k, a' ≤ k → k < b' → ¬ (fun x y : Int => x < y) (xs.getD k (tI 3).d) (xs.getD (a' - 1) (tI 3).d)) :
    yaae Tryz.prog 192 #[.slice p n cp, .int .i64 a, .int .i64 b] h (fun v h' => ∃ bb : Bool, v = .bool bb ∧ OutOI h0 p n cp a' b' xs F h' (fun ys => bb = true → SrtR (tI 3).d (fun x y : Int => x < y) a' b' ys)) := by
  subst ea eb
  have hl0 := o.len
  refine zfc_call ?_
  generalize hR : (fun v h' => ∃ bb : Bool, v = Value.bool bb ∧ OutOI h0 p n cp a' b' xs F h' (fun ys => bb = true → SrtR (tI 3).d (fun x y : Int => x < y) a' b' ys)) = R
  have hRf : ∀ (h' : Hp), OutOI h0 p n cp a' b' xs F h' (fun _ => True) → R (.bool false) h' := by
    rintro h' ⟨ys, A1, o, s, w, _⟩; rw [← hR]; exact ⟨false, rfl, ys, A1, o, s, w, fun h => by cases h⟩
  have hRt : ∀ (h' : Hp), OutOI h0 p n cp a' b' xs F h' (SrtR (tI 3).d (fun x y : Int => x < y) a' b') → R (.bool true) h' := by
    rintro h' ⟨ys, A1, o, s, w, hs⟩; rw [← hR]; exact ⟨true, rfl, ys, A1, o, s, w, fun _ => hs⟩
  clear hR
  rw [zfc_b0_eq]
  refine ⟨⟨by omega, by omega⟩, fun ic h1 => ∃ (i' c : Nat), ic.1 = (i' : Int) ∧ ic.2.1 = (c : Int) ∧ c ≤ 5 ∧ a' + 1 ≤ i' ∧ i' ≤ b' ∧ OutOI h0 p n cp a' b' xs F h1 (SrtR (tI 3).d (fun x y : Int => x < y) a' i'), fun ic _ => (5 - ic.2.1).toNat, ⟨a' + 1, 0, by push_cast; rfl, rfl, by omega, Nat.le_refl _, by omega, xs, A, o, s, .refl _, yahp (by omega)⟩, ?_⟩
  rintro ⟨_, _, _⟩ h1 ⟨i0, c, rfl, rfl, hc5, hi01, hi02, hO⟩
  dsimp only
  rw [zfc_b1_eq]
  refine condP (fun hc => ?_) (fun hc => ?_)
  · generalize hNX : (fun (s' : Int × Int × Unit) (h' : Hp) => (∃ (i' c : Nat), s'.1 = (i' : Int) ∧ s'.2.1 = (c : Int) ∧ c ≤ 5 ∧ a' + 1 ≤ i' ∧ i' ≤ b' ∧ OutOI h0 p n cp a' b' xs F h' (SrtR (tI 3).d (fun x y : Int => x < y) a' i')) ∧ (5 - s'.2.1).toNat < (5 - (c : Int)).toNat) = NX
    have b10 : ∀ (i' : Nat) (h' : Hp), a' + 1 ≤ i' → i' ≤ b' → OutOI h0 p n cp a' b' xs F h' (SrtR (tI 3).d (fun x y : Int => x < y) a' i') → zfc_b10 p n cp a' b' i' c h' NX R := by
      intro i' h' g1 g2 g3
      rw [zfc_b10_eq, ← hNX]
      exact ⟨⟨by omega, by omega⟩, ⟨i', c + 1, rfl, by push_cast; rfl, by omega, g1, g2, g3⟩, by dsimp only; omega⟩
    clear hNX
    have b7 : ∀ (i' : Nat) (h' : Hp), a' + 1 ≤ i' → i' ≤ b' → OutOI h0 p n cp a' b' xs F h' (SrtR (tI 3).d (fun x y : Int => x < y) a' i') → zfc_b7 p n cp a' b' i' c h' NX R := by
      intro i' h' g1 g2 g3
      rw [zfc_b7_eq]
      refine ⟨⟨by omega, by omega⟩, condP (fun h2 => ⟨⟨by omega, by omega⟩, ?_⟩) (fun _ => b10 i' h' g1 g2 g3)⟩
      refine ⟨fun j h2 => ∃ j' : Nat, j.1 = (j' : Int) ∧ i' + 1 ≤ j' ∧ j' ≤ b' ∧ OutOI h0 p n cp a' b' xs F h2 (SrtR (tI 3).d (fun x y : Int => x < y) a' i'), fun j _ => (b' - j.1).toNat, ⟨i' + 1, by push_cast; rfl, Nat.le_refl _, by omega, g3⟩, ?_⟩
      clear g3
      rintro ⟨_, _⟩ h2 ⟨j', rfl, hj1, hj2, ys, A1, o, s, w, hs⟩
      dsimp only
      have hl := o.len
      have hP := w.allN hl0 hP
      rw [zfc_b9_eq]
      refine condP (fun hlt => ?_) (fun hlt => b10 i' _ g1 g2 ⟨ys, A1, o, s, w, hs⟩)
      have r := o.rd s
      refine ldOI (i' := j') r rfl (by omega) ⟨⟨by omega, by omega⟩, ldOI (i' := j' - 1) r (by omega) (by omega) ?_⟩
      refine ⟨_, (yaco _ _ _).mono fun v9 h9 ⟨hh9, hv9⟩ => ⟨hv9, hh9⟩, ?_⟩
      refine condN (fun hc => b10 i' _ g1 g2 ⟨ys, A1, o, s, w, hs⟩) (fun hc => ⟨⟨by omega, by omega⟩, ⟨by omega, by omega⟩, ?_⟩)
      refine swOI (u' := j') (v' := j' - 1) o s rfl (by omega) (by omega) (by omega) fun h6 A6 o6 s6 => ?_
      rw [zfc_b11_eq]
      refine ⟨⟨by omega, by omega⟩, ⟨j' + 1, by push_cast; rfl, by omega, by omega, _, A6, o6, s6, .step w (by omega) (by omega) (by omega) (by omega) (by omega), fun x y k1 k2 k3 => ?_⟩, by omega⟩
      rw [yaba (by omega) (by omega), yaba (by omega) (by omega), if_neg (by omega), if_neg (by omega), if_neg (by omega), if_neg (by omega)]
      exact hs x y k1 k2 k3
    have b5 : ∀ (i' : Nat) (h' : Hp), a' + 1 ≤ i' → i' ≤ b' → OutOI h0 p n cp a' b' xs F h' (SrtR (tI 3).d (fun x y : Int => x < y) a' i') → zfc_b5 p n cp a' b' i' c h' NX R := by
      rintro i' h' g1 g2 ⟨ys, A1, o, s, w, hs⟩
      have hl := o.len
      rw [zfc_b5_eq]
      refine condP (fun he => hRt _ ⟨ys, A1, o, s, w, by rw [show i' = b' by omega] at hs; exact hs⟩) (fun hne => ⟨⟨by omega, by omega⟩, condP (fun _ => hRf _ ⟨ys, A1, o, s, w, trivial⟩) (fun _ => ⟨⟨by omega, by omega⟩, ⟨by omega, by omega⟩, ?_⟩)⟩)
      refine swOI (u' := i') (v' := i' - 1) o s rfl (by omega) (by omega) (by omega) fun h6 A6 o6 s6 => ⟨⟨by omega, by omega⟩, ?_⟩
      have w6 : Swp (tI 3).d a' b' xs (swapL (tI 3).d ys i' (i' - 1)) := .step w (by omega) (by omega) (by omega) (by omega) (by omega)
      have hs6 : SrtR (tI 3).d (fun x y : Int => x < y) a' (i' - 1) (swapL (tI 3).d ys i' (i' - 1)) := fun x y k1 k2 k3 => by
        rw [yaba (by omega) (by omega), yaba (by omega) (by omega), if_neg (by omega), if_neg (by omega), if_neg (by omega), if_neg (by omega)]
        exact hs x y k1 k2 (by omega)
      generalize swapL (tI 3).d ys i' (i' - 1) = zs at *
      clear hs w s o hl
      refine condP (fun h2 => ⟨⟨by omega, by omega⟩, ?_⟩) (fun h2 => b7 i' _ g1 g2 ⟨zs, A6, o6, s6, w6, yahp (by omega)⟩)
      refine ⟨fun j h2 => ∃ j' : Nat, j.1 = (j' : Int) ∧ a' ≤ j' ∧ j' ≤ i' - 1 ∧ OutOI h0 p n cp a' b' xs F h2 (InsR (tI 3).d (fun x y : Int => x < y) a' j' (i' - 1)), fun j _ => j.1.toNat, ⟨i' - 1, by dsimp only; omega, by omega, by omega, zs, A6, o6, s6, w6, yaio hs6⟩, ?_⟩
      clear hs6 w6 s6 o6 zs
      rintro ⟨_, _⟩ h2 ⟨j', rfl, hj1, hj2, ys, A1, o, s, w, hs⟩
      dsimp only
      have hl := o.len
      have hP := w.allN hl0 hP
      have fin := fun (h3 : Hp) (s : St h0 h3 (A1 + F)) (hx : a' < j' → ¬ (fun x y : Int => x < y) (ys.getD j' (tI 3).d) (ys.getD (j' - 1) (tI 3).d)) => b7 i' h3 g1 g2 ⟨ys, A1, o, s, w, by have := yapn ordI hj1 hs hx; rwa [show i' - 1 + 1 = i' by omega] at this⟩
      rw [zfc_b6_eq]
      refine condP (fun hlt => ?_) (fun hlt => fin _ s fun h => by omega)
      have r := o.rd s
      refine ldOI (i' := j') r rfl (by omega) ⟨⟨by omega, by omega⟩, ldOI (i' := j' - 1) r (by omega) (by omega) ?_⟩
      refine ⟨_, (yaco _ _ _).mono fun v9 h9 ⟨hh9, hv9⟩ => ⟨hv9, hh9⟩, ?_⟩
      refine condN (fun hc => fin _ s fun _ => hc) (fun hc => ⟨⟨by omega, by omega⟩, ⟨by omega, by omega⟩, ?_⟩)
      have hja : a' < j' := by
        rcases Nat.lt_or_ge a' j' with h | h
        · exact h
        · obtain rfl : j' = a' := by omega
          rw [w.out (k := j' - 1) (.inl (by omega))] at hc
          exact absurd hc (w.all (P := fun x => ¬ (fun x y : Int => x < y) x (xs.getD (j' - 1) (tI 3).d)) (hlow (by omega)) j' (Nat.le_refl _) (by omega))
      refine swOI (u' := j') (v' := j' - 1) o s rfl (by omega) (by omega) (by omega) fun h6 A6 o6 s6 => ?_
      rw [zfc_b8_eq]
      exact ⟨⟨by omega, by omega⟩, ⟨j' - 1, by omega, by omega, by omega, _, A6, o6, s6, .step w (by omega) (by omega) (by omega) (by omega) (by omega), yaqd ordI (by omega) hj2 (by omega) hs hc⟩, by omega⟩
    refine ⟨fun i h2 => ∃ i' : Nat, i.1 = (i' : Int) ∧ a' + 1 ≤ i' ∧ i' ≤ b' ∧ OutOI h0 p n cp a' b' xs F h2 (SrtR (tI 3).d (fun x y : Int => x < y) a' i'), fun i _ => (b' - i.1).toNat, ⟨i0, rfl, hi01, hi02, hO⟩, ?_⟩
    clear hO
    rintro ⟨_, _⟩ h2 ⟨i', rfl, g1, g2, ys, A1, o, s, w, hs⟩
    dsimp only
    have hl := o.len
    have hP := w.allN hl0 hP
    rw [zfc_b2_eq]
    refine condP (fun hlt => ?_) (fun hlt => b5 i' _ g1 g2 ⟨ys, A1, o, s, w, hs⟩)
    have r := o.rd s
    refine ldOI (i' := i') r rfl (by omega) ⟨⟨by omega, by omega⟩, ldOI (i' := i' - 1) r (by omega) (by omega) ?_⟩
    refine ⟨_, (yaco _ _ _).mono fun v9 h9 ⟨hh9, hv9⟩ => ⟨hv9, hh9⟩, ?_⟩
    refine condN (fun hc => ?_) (fun hc => b5 i' _ g1 g2 ⟨ys, A1, o, s, w, hs⟩)
    rw [zfc_b4_eq]
    exact ⟨⟨by omega, by omega⟩, ⟨i' + 1, by push_cast; rfl, by omega, by omega, ys, A1, o, s, w, yapn ordI (by omega) (yaio hs) fun _ => hc⟩, by omega⟩
  · obtain ⟨ys, A1, o, s, w, hs⟩ := hO
    rw [zfc_b3_eq]
    exact hRf _ ⟨ys, A1, o, s, w, trivial⟩
end Go.Proofs.YtdlkohenamlnaaaGreat
/- Sorting: pdqsort. -/
namespace Go.Proofs.YtdlkohenamlnaaaGreat
open Go Go.Sx
abbrev yafp (cf : Unit) (h0 : Hp) (p : OA) (n cp a0 b0 : Nat) (xs : List Int) (F : Bag) (a1 b1 : Nat) (h : Hp) : Prop := a0 ≤ a1 ∧ a1 ≤ b1 ∧ b1 ≤ b0 ∧ OutOI h0 p n cp a0 b0 xs F h (OutR (tI 3).d (fun x y : Int => x < y) a0 b0 a1 b1)
theorem pdqOI {h0 : Hp} {p : OA} {n cp : Nat} {F : Bag} {P : Int → Prop} (hn : n < 1000000) : ∀ (N : Nat) {h : Hp} {a0 b0 : Nat} {a b lim : Int} {xs : List Int} {A : Bag} (_ : b0 - a0 ≤ N) (_ : St h0 h (A + F)) (_ : Sl (tI 3) p n cp xs A) (_ : ∀ k, k < n → P (xs.getD k (tI 3).d)) (_ : a = (a0 : Int)) (_ : b = (b0 : Int)) (_ : a0 ≤ b0) (_ : b0 ≤ n) (_ : 0 ≤ lim ∧ lim < 1000000)
    (_ : 0 < a0 → ∀ k, a0 ≤ k → k < b0 → ¬ (fun x y : Int => x < y) (xs.getD k (tI 3).d) (xs.getD (a0 - 1) (tI 3).d)),
    yaae Tryz.prog 178 #[.slice p n cp, .int .i64 a, .int .i64 b, .int .i64 lim] h (fun v h' => v = .tuple #[] ∧ OutOI h0 p n cp a0 b0 xs F h' (SrtR (tI 3).d (fun x y : Int => x < y) a0 b0)) := by
  intro N
  induction N using Nat.strongRecOn with
  | _ N ih =>
  intro h a0 b0 a b lim xs A hN s o hP ea eb hab hb hlim hlow
  subst ea eb
  have hl0 := o.len
  refine zff_call ?_
  generalize hR : (fun v h' => v = Value.tuple #[] ∧ OutOI h0 p n cp a0 b0 xs F h' (SrtR (tI 3).d (fun x y : Int => x < y) a0 b0)) = R
  have fin : ∀ (a1 b1 : Nat) (h' : Hp) (ys : List Int), a0 ≤ a1 → b1 ≤ b0 → Swp (tI 3).d a0 b0 xs ys → OutR (tI 3).d (fun x y : Int => x < y) a0 b0 a1 b1 ys → OutOI h0 p n cp a1 b1 ys F h' (SrtR (tI 3).d (fun x y : Int => x < y) a1 b1) → R (.tuple #[]) h' := by
    rintro a1 b1 h' ys g1 g2 w ho ⟨zs, A2, o2, s2, w2, hs⟩
    have := w.len
    rw [← hR]
    exact ⟨rfl, zs, A2, o2, s2, w.trans (w2.mono g1 g2 (by omega)).1, yalr (yacv g1 g2 ho w2) hs⟩
  clear hR
  -- what lies before the range is not more than what lies in it
  have low : ∀ (a1 b1 : Nat) (ys : List Int), a0 ≤ a1 → b1 ≤ b0 → Swp (tI 3).d a0 b0 xs ys → OutR (tI 3).d (fun x y : Int => x < y) a0 b0 a1 b1 ys → 0 < a1 → ∀ k, a1 ≤ k → k < b1 → ¬ (fun x y : Int => x < y) (ys.getD k (tI 3).d) (ys.getD (a1 - 1) (tI 3).d) := by
    intro a1 b1 ys g1 g2 w ho h1 k k1 k2
    by_cases he : a1 = a0
    · subst he
      rw [w.out (k := a1 - 1) (.inl (by omega))]
      exact w.all (P := fun x => ¬ (fun x y : Int => x < y) x (xs.getD (a1 - 1) (tI 3).d)) (hlow h1) k k1 (by omega)
    · exact ho (a1 - 1) k (by omega) (by omega) (by omega) (by omega)
  have b5 : ∀ (a1 b1 pv : Nat) (lim : Int) (h' : Hp) (nx : Int × Int × Int × Bool × Bool × Unit → Hp → Prop), yafp () h0 p n cp a0 b0 xs F a1 b1 h' → a1 ≤ pv → pv < b1 → 0 ≤ lim → lim < 1000000 →
      (∀ (a2 b2 : Nat) (l2 : Int) (wb wp : Bool) (h2 : Hp), yafp () h0 p n cp a0 b0 xs F a2 b2 h2 → b2 - a2 < b1 - a1 → 0 ≤ l2 → l2 < 1000000 → nx ((a2 : Int), (b2 : Int), l2, wb, wp, ()) h2) → zff_b5 p n cp a1 b1 lim ((b1 : Int) - a1) pv h' nx R := by
    rintro a1 b1 pv lim h' nx ⟨g1, g2, g3, ys, A1, o, s, w, ho2⟩ hv1 hv2 hl1 hl2 hnx
    have hl := o.len
    have hPy := w.allN hl0 hP
    rw [zff_b5_eq]
    refine (yano  s o hPy rfl rfl rfl ⟨hv1, hv2⟩ (by omega) hn).mono fun v h2 ⟨m, bb, hv, m1, m2, zs, A2, o2, s2, w2, hp⟩ => ⟨_, _, hv, ⟨by omega, by omega⟩, ⟨by omega, by omega⟩, yact (by omega) (by omega) (by omega) ?_⟩
    have w02 := w.trans (w2.mono g1 g3 (by omega)).1
    have ho3 := yacv g1 g3 ho2 w2
    have hPz := w02.allN hl0 hP
    have hlz := o2.len
    have hlow2 := low a1 b1 zs g1 g3 w02 ho3
    refine condP (fun hlt => ?_) (fun hlt => ⟨⟨by omega, by omega⟩, ?_⟩)
    · refine (ih (m - a1) (by omega) (a0 := a1) (b0 := m) (Nat.le_refl _) s2 o2 hPz rfl rfl m1 (by omega) ⟨hl1, hl2⟩ fun q k k1 k2 => hlow2 q k k1 (by omega)).mono fun v h3 ⟨hv, us, A3, o3, s3, w3, hs3⟩ => ⟨hv, ⟨by omega, by omega⟩, ?_⟩
      have hm : us.getD m (tI 3).d = zs.getD m (tI 3).d := w3.out (.inr (Nat.le_refl _))
      have hp3 : PartR (tI 3).d (fun x y : Int => x < y) a1 b1 m us := ⟨by rw [hm]; exact w3.all (P := fun x => (fun x y : Int => x < y) x (zs.getD m (tI 3).d)) hp.1, fun k k1 k2 => by rw [hm, w3.out (k := k) (.inr (by omega))]; exact hp.2 k k1 k2⟩
      have := hnx (m + 1) b1 lim (decide (((b1 : Int) - a1) / 8 ≤ (m : Int) - a1)) bb h3 ⟨by omega, by omega, g3, us, A3, o3, s3, w02.trans (w3.mono g1 (by omega) (by omega)).1, yati ordI g1 g3 m1 m2 (yacv g1 g3 ho3 (w3.mono (Nat.le_refl _) (by omega) (by omega)).1) hp3 hs3⟩ (by omega) hl1 hl2
      rwa [show ((m + 1 : Nat) : Int) = (m : Int) + 1 by push_cast; rfl] at this
    · refine (ih (b1 - (m + 1)) (by omega) (a0 := m + 1) (b0 := b1) (Nat.le_refl _) s2 o2 hPz (by push_cast; rfl) rfl (by omega) (by omega) ⟨hl1, hl2⟩ fun q k k1 k2 => hp.2 k (by omega) k2).mono fun v h3 ⟨hv, us, A3, o3, s3, w3, hs3⟩ => ⟨hv, ?_⟩
      have hm : us.getD m (tI 3).d = zs.getD m (tI 3).d := w3.out (.inl (by omega))
      have hp3 : PartR (tI 3).d (fun x y : Int => x < y) a1 b1 m us := ⟨fun k k1 k2 => by rw [hm, w3.out (k := k) (.inl (by omega))]; exact hp.1 k k1 k2, fun k k1 k2 => by rw [hm]; exact w3.all (P := fun x => ¬ (fun x y : Int => x < y) x (zs.getD m (tI 3).d)) (fun k k1 k2 => hp.2 k (by omega) k2) k (by omega) k2⟩
      exact hnx a1 m lim _ bb h3 ⟨g1, m1, by omega, us, A3, o3, s3, w02.trans (w3.mono (by omega) g3 (by omega)).1, yarn ordI g1 g3 m1 m2 (yacv g1 g3 ho3 (w3.mono (by omega) (Nat.le_refl _) (by omega)).1) hp3 hs3⟩ (by omega) hl1 hl2
  have b4 : ∀ (a1 b1 pv : Nat) (lim : Int) (wb wp : Bool) (h' : Hp) (nx : Int × Int × Int × Bool × Bool × Unit → Hp → Prop), yafp () h0 p n cp a0 b0 xs F a1 b1 h' → a1 ≤ pv → pv < b1 → 0 ≤ lim → lim < 1000000 →
      (∀ (a2 b2 : Nat) (l2 : Int) (wb wp : Bool) (h2 : Hp), yafp () h0 p n cp a0 b0 xs F a2 b2 h2 → b2 - a2 < b1 - a1 → 0 ≤ l2 → l2 < 1000000 → nx ((a2 : Int), (b2 : Int), l2, wb, wp, ()) h2) → zff_b4 p n cp a1 b1 lim wb wp ((b1 : Int) - a1) pv h' nx R := by
    rintro a1 b1 pv lim wb wp h' nx ⟨g1, g2, g3, ys, A1, o, s, w, ho2⟩ hv1 hv2 hl1 hl2 hnx
    have hl := o.len
    rw [zff_b4_eq]
    refine condP (fun ha => ⟨⟨by omega, by omega⟩, ?_⟩) (fun _ => b5 a1 b1 pv lim _ _ ⟨g1, g2, g3, ys, A1, o, s, w, ho2⟩ hv1 hv2 hl1 hl2 hnx)
    have hlow2 := low a1 b1 ys g1 g3 w ho2 (by omega)
    have r := o.rd s
    have hPy := w.allN hl0 hP
    have hP := hPy
    refine ldOI (i' := a1 - 1) r (by omega) (by omega) (ldOI (i' := pv) r rfl (by omega) ?_)
    refine ⟨_, (yaco _ _ _).mono fun v9 h9 ⟨hh9, hv9⟩ => ⟨hv9, hh9⟩, ?_⟩
    refine condN (fun hc => ?_) (fun hc => b5 a1 b1 pv lim _ _ ⟨g1, g2, g3, ys, A1, o, s, w, ho2⟩ hv1 hv2 hl1 hl2 hnx)
    refine (yagp  s o hPy rfl rfl rfl ⟨hv1, hv2⟩ (by omega) hn).mono fun v h2 ⟨m, hv, m1, m2, zs, A2, o2, s2, w2, hp⟩ => ⟨_, hv, ?_⟩
    exact hnx m b1 lim wb wp h2 ⟨by omega, m2, g3, zs, A2, o2, s2, w.trans (w2.mono g1 g3 (by omega)).1, yaqp ordI g1 g3 (by omega) m2 (yacv g1 g3 ho2 w2) hp.2 (w2.all (P := fun x => ¬ (fun x y : Int => x < y) x (ys.getD pv (tI 3).d)) fun k k1 k2 => ordI.trans _ _ _ hc (hlow2 k k1 k2))⟩ (by omega) hl1 hl2
  have b3 : ∀ (a1 b1 pv : Nat) (hint lim : Int) (wb wp : Bool) (h' : Hp) (nx : Int × Int × Int × Bool × Bool × Unit → Hp → Prop), yafp () h0 p n cp a0 b0 xs F a1 b1 h' → a1 ≤ pv → pv < b1 → 0 ≤ lim → lim < 1000000 →
      (∀ (a2 b2 : Nat) (l2 : Int) (wb wp : Bool) (h2 : Hp), yafp () h0 p n cp a0 b0 xs F a2 b2 h2 → b2 - a2 < b1 - a1 → 0 ≤ l2 → l2 < 1000000 → nx ((a2 : Int), (b2 : Int), l2, wb, wp, ()) h2) → zff_b3 p n cp a1 b1 lim wb wp ((b1 : Int) - a1) pv hint h' nx R := by
    rintro a1 b1 pv hint lim wb wp h' nx hI hv1 hv2 hl1 hl2 hnx
    have go := fun h2 (hI : yafp () h0 p n cp a0 b0 xs F a1 b1 h2) => b4 a1 b1 pv lim wb wp h2 nx hI hv1 hv2 hl1 hl2 hnx
    rw [zff_b3_eq]
    refine yaay (fun _ => yaay (fun _ => condP (fun _ => ?_) fun _ => go _ hI) fun _ => go _ hI) fun _ => go _ hI
    obtain ⟨g1, g2, g3, ys, A1, o, s, w, ho2⟩ := hI
    have hl := o.len
    refine (yadn  s o (w.allN hl0 hP) rfl rfl (by omega) (by omega) hn (low a1 b1 ys g1 g3 w ho2)).mono fun v h2 ⟨bb, hv, zs, A2, o2, s2, w2, hp⟩ => ⟨_, hv, yaay (fun hb => ?_) (fun hb => ?_)⟩
    · exact fin a1 b1 h2 ys g1 g3 w ho2 ⟨zs, A2, o2, s2, w2, hp hb⟩
    · exact go _ ⟨g1, g2, g3, zs, A2, o2, s2, w.trans (w2.mono g1 g3 (by omega)).1, yacv g1 g3 ho2 w2⟩
  have b2 : ∀ (a1 b1 : Nat) (lim : Int) (wb wp : Bool) (h' : Hp) (nx : Int × Int × Int × Bool × Bool × Unit → Hp → Prop), yafp () h0 p n cp a0 b0 xs F a1 b1 h' → a1 < b1 → 0 ≤ lim → lim < 1000000 →
      (∀ (a2 b2 : Nat) (l2 : Int) (wb wp : Bool) (h2 : Hp), yafp () h0 p n cp a0 b0 xs F a2 b2 h2 → b2 - a2 < b1 - a1 → 0 ≤ l2 → l2 < 1000000 → nx ((a2 : Int), (b2 : Int), l2, wb, wp, ()) h2) → zff_b2 p n cp a1 b1 lim wb wp ((b1 : Int) - a1) h' nx R := by
    rintro a1 b1 lim wb wp h' nx ⟨g1, g2, g3, ys, A1, o, s, w, ho2⟩ hlt hl1 hl2 hnx
    have hl := o.len
    rw [zff_b2_eq]
    refine (yajq  s o (w.allN hl0 hP) rfl rfl hlt (by omega) hn).mono fun v h2 ⟨u, hint, hv, u1, u2, s⟩ => ⟨_, _, hv, condP (fun _ => ?_) (fun _ => ?_)⟩
    · refine (yaiw s o rfl rfl (by omega) (by omega) hn).mono fun v h2 ⟨hv, zs, A2, o2, s2, w2, _⟩ => ⟨hv, ⟨by omega, by omega⟩, ⟨by omega, by omega⟩, ⟨by omega, by omega⟩, ?_⟩
      have := b3 a1 b1 ((b1 : Int) - 1 - (u - a1)).toNat 1 lim wb wp h2 nx ⟨g1, g2, g3, zs, A2, o2, s2, w.trans (w2.mono g1 g3 (by omega)).1, yacv g1 g3 ho2 w2⟩ (by omega) (by omega) hl1 hl2 hnx
      rwa [Int.toNat_of_nonneg (by omega)] at this
    · have := b3 a1 b1 u.toNat hint lim wb wp h2 nx ⟨g1, g2, g3, ys, A1, o, s, w, ho2⟩ (by omega) (by omega) hl1 hl2 hnx
      rwa [Int.toNat_of_nonneg (by omega)] at this
  rw [zff_b0_eq]
  refine ⟨fun st h1 => ∃ (a1 b1 : Nat), st.1 = (a1 : Int) ∧ st.2.1 = (b1 : Int) ∧ 0 ≤ st.2.2.1 ∧ st.2.2.1 < 1000000 ∧ yafp () h0 p n cp a0 b0 xs F a1 b1 h1, fun st _ => (st.2.1 - st.1).toNat, ⟨a0, b0, rfl, rfl, hlim.1, hlim.2, Nat.le_refl _, hab, Nat.le_refl _, xs, A, o, s, .refl _, yakj⟩, ?_⟩
  rintro ⟨_, _, lim, wb, wp, _⟩ h1 ⟨a1, b1, rfl, rfl, hl1, hl2, hI⟩
  dsimp only at hl1 hl2 ⊢
  have go := fun (l2 : Int) (h2 : Hp) (hI : yafp () h0 p n cp a0 b0 xs F a1 b1 h2) (hlt : a1 < b1) (q1 : 0 ≤ l2) (q2 : l2 < 1000000) => b2 a1 b1 l2 wb wp h2 (fun s' h' => (∃ (a1 b1 : Nat), s'.1 = (a1 : Int) ∧ s'.2.1 = (b1 : Int) ∧ 0 ≤ s'.2.2.1 ∧ s'.2.2.1 < 1000000 ∧ yafp () h0 p n cp a0 b0 xs F a1 b1 h') ∧ (s'.2.1 - s'.1).toNat < ((b1 : Int) - a1).toNat) hI hlt q1 q2 fun a2 b2 l2 wb wp h2 hI2 hm k1 k2 => ⟨⟨a2, b2, rfl, rfl, k1, k2, hI2⟩, by have := hI2.2.1; dsimp only; omega⟩
  have hI' := hI
  obtain ⟨g1, g2, g3, ys, A1, o, s, w, ho2⟩ := hI
  have hl := o.len
  rw [zff_b1_eq]
  refine ⟨⟨by omega, by omega⟩, condP (fun h12 => ?_) (fun h12 => condP (fun hz => ?_) (fun hz => yaay (fun _ => ?_) (fun _ => ?_)))⟩
  · exact (yagz  s o (w.allN hl0 hP) rfl rfl (by omega) (by omega) hn).mono fun v h2 ⟨hv, hO⟩ => ⟨hv, fin a1 b1 h2 ys g1 g3 w ho2 hO⟩
  · exact (yarq  s o (w.allN hl0 hP) rfl rfl (by omega) (by omega) hn).mono fun v h2 ⟨hv, hO⟩ => ⟨hv, fin a1 b1 h2 ys g1 g3 w ho2 hO⟩
  · refine (yaha s o rfl rfl (by omega) (by omega) hn).mono fun v h2 ⟨hv, zs, A2, o2, s2, w2, _⟩ => ⟨hv, ⟨by omega, by omega⟩, ?_⟩
    exact go (lim - 1) h2 ⟨g1, g2, g3, zs, A2, o2, s2, w.trans (w2.mono g1 g3 (by omega)).1, yacv g1 g3 ho2 w2⟩ (by omega) (by omega) (by omega)
  · exact go lim h1 hI' (by omega) hl1 hl2
theorem ybah {h0 h : Hp} {p : OA} {n cp : Nat} {xs : List Int} {A F : Bag} {P : Int → Prop} (s : St h0 h (A + F)) (o : Sl (tI 3) p n cp xs A) (hP : ∀ k, k < n → P (xs.getD k (tI 3).d)) (hn : n < 1000000) :
    yaae Tryz.prog 162 #[.slice p n cp] h (fun v h' => v = .tuple #[] ∧ ∃ ys A', Sl (tI 3) p n cp ys A' ∧ St h0 h' (A' + F) ∧ ys.Perm xs ∧ ys.Pairwise (fun x y => ¬ (fun x y : Int => x < y) y x)) := by
  refine zes_call ?_
  rw [zes_b0, yadc _ (by omega) (by omega)]
  refine (yajf n (by omega) h).mono fun v h1 ⟨hv, hh⟩ => ⟨_, hv, ?_⟩
  subst hh
  have hl : blen n ≤ 20 := yarx (by omega)
  refine (pdqOI  hn n (a0 := 0) (b0 := n) (by omega) s o hP rfl rfl (by omega) (Nat.le_refl _) ⟨by omega, by omega⟩ (fun h => by omega)).mono fun v h2 ⟨hv, ys, A', o2, s2, w, hs⟩ => ⟨hv, rfl, ys, A', o2, s2, w.perm, yajz o2.len hs⟩
end Go.Proofs.YtdlkohenamlnaaaGreat
/- Steps on states: a block is found in the bag; records of loops; what a callee in the older style made. -/
namespace Go.Sx
open Go
class Bag.Has (b : Nat) (B : Bag) (cs : outParam (List Value)) (e : outParam TypeId) (C : outParam Bag) : Prop where
  eq : B = cA b cs e + C
instance Bag.Has.one (b : Nat) (cs : List Value) (e : TypeId) : Bag.Has b (cA b cs e) cs e 0 := ⟨(Bag.yaqx _).symm⟩
instance Bag.Has.head (b : Nat) (cs : List Value) (e : TypeId) (Y : Bag) : Bag.Has b (cA b cs e + Y) cs e Y := ⟨rfl⟩
instance Bag.Has.right (b : Nat) (X Y : Bag) (cs : List Value) (e : TypeId) (C : Bag) [h : Bag.Has b Y cs e C] : Bag.Has b (X + Y) cs e (X + C) := ⟨by rw [h.eq]; ac_rfl⟩
instance (priority := low) Bag.Has.left (b : Nat) (X Y : Bag) (cs : List Value) (e : TypeId) (C : Bag) [h : Bag.Has b X cs e C] : Bag.Has b (X + Y) cs e (C + Y) := ⟨by rw [h.eq, Bag.assoc]⟩
section
variable {h0 h : Hp} {B : Bag} {b k : Nat} {cs : List Value} {e : TypeId} {C : Bag} {v : Value}
theorem St.find (s : St h0 h B) (b : Nat) {cs : List Value} {e : TypeId} {C : Bag} [x : Bag.Has b B cs e C] : St h0 h (cA b cs e + C) := x.eq ▸ s
theorem St.ldB (s : St h0 h B) [x : Bag.Has b B cs e C] (hv : cs[k]? = some v := by with_unfolding_all exact rfl) : Sx.cell h ((⟨b, 0, none⟩ : Addr).add k) = some v := by
  rw [(s.find b).cellA k]; exact hv
theorem St.ld0 (s : St h0 h B) [x : Bag.Has b B cs e C] (hv : cs[0]? = some v := by with_unfolding_all exact rfl) : Sx.cell h ⟨b, 0, none⟩ = some v := by
  rw [(s.find b).cell 0]; exact hv
theorem St.wrB {K : Hp → Prop} (s : St h0 h B) [x : Bag.Has b B cs e C] (hK : ∀ h', St h0 h' (cA b (cs.set k v) e + C) → K h') (hk : Nat.blt k cs.length = true := by with_unfolding_all exact rfl) : Wr h ((⟨b, 0, none⟩ : Addr).add k) v K :=
  (s.find b).wr (o := k) (by rw [yaaj, Nat.zero_add]) (Nat.le_of_ble_eq_true hk) hK
end
def Held (B : Bag) (Q : Hp → Prop) : Prop := ∀ h0 h F, St h0 h (B + F) → Q h
theorem Held.of (h0 h : Hp) (B F : Bag) {Q : Hp → Prop} (q : Held B Q) (s : St h0 h (B + F)) : Q h := q h0 h F s
theorem Held.mono {B : Bag} {Q Q' : Hp → Prop} (q : Held B Q) (hm : ∀ h, Q h → Q' h) : Held B Q' := fun h0 h F s => hm _ (q h0 h F s)
abbrev lA (rec : LoopState → Option Code → Loop) (l : Nat) (st : LoopState) (pe : Option Code) : Bag := Bag.one (l, .loop (rec st pe))
abbrev dA (d : Nat) : Bag := Bag.one (d, .deferred (some []))
section
variable {h0 h : Hp} {F : Bag} {rec : LoopState → Option Code → Loop} {l d : Nat} {st st' : LoopState} {pe pe' : Option Code}
theorem St.range (s : St h0 h F) (rec : LoopState → Option Code → Loop) : St h0 (ybbe h rec) (lA rec (h.size + 1) .ready none + (dA h.size + F)) := by
  have s2 := (s.push (.deferred (some []))).push (.loop (rec .ready none))
  rw [Array.size_push] at s2
  exact s2
theorem St.deferred (s : St h0 h (dA d + F)) : h[d]? = some (.deferred (some [])) ∧ St h0 (h.setIfInBounds d (.deferred none)) (Bag.one (d, .deferred none) + F) := by
  have hb := s.head.2
  have hl := yaev hb
  refine ⟨hb, s.set (by simp) (fun j hj => by rw [Array.getElem?_setIfInBounds_ne (Ne.symm hj)]) ?_⟩
  rw [Array.getElem?_setIfInBounds_self, if_pos hl]
end
open Go
class Bag.HasO (n : Nat) (B : Bag) (o : outParam Obj) (C : outParam Bag) : Prop where
  eq : B = Bag.one (n, o) + C
instance Bag.HasO.one (n : Nat) (o : Obj) : Bag.HasO n (Bag.one (n, o)) o 0 := ⟨(Bag.yaqx _).symm⟩
instance Bag.HasO.head (n : Nat) (o : Obj) (Y : Bag) : Bag.HasO n (Bag.one (n, o) + Y) o Y := ⟨rfl⟩
instance Bag.HasO.right (n : Nat) (X Y : Bag) (o : Obj) (C : Bag) [h : Bag.HasO n Y o C] : Bag.HasO n (X + Y) o (X + C) := ⟨by rw [h.eq]; ac_rfl⟩
instance (priority := low) Bag.HasO.left (n : Nat) (X Y : Bag) (o : Obj) (C : Bag) [h : Bag.HasO n X o C] : Bag.HasO n (X + Y) o (C + Y) := ⟨by rw [h.eq, Bag.assoc]⟩
section
variable {h0 h : Hp} {B C : Bag} {rec : LoopState → Option Code → Loop} {l d : Nat} {st st' : LoopState} {pe pe' : Option Code}
end
end Go.Sx
/- Layer 3's model: copies. -/
namespace Go.Proofs.YtdlkohenamlnaaaGreat
open Go Go.Sx
theorem yagh {h0 h : Hp} {p : OA} {n c : Nat} {q : OA} {m d : Nat} {xs : List (List Int)} {x : List Int} {A B G : Bag} {e' : TypeId} {k : OA → Nat → Nat → Hp → Prop}
    (s : St h0 h (A + (B + G))) (a : RowsA (p, n, c) xs A) (b : RowP (q, m, d) x B) (he : e' = 23) (hn : n + 1 < 1073741824)
    (hk : ∀ p' c' h' A', RowsA (p', n + 1, c') (xs ++ [x]) A' → St h0 h' (A' + G) → k p' (n + 1) c' h') :
    New h (.cells #[.slice q m d] e') fun b h1 => yaan Tryz.prog 64 64 (.slice p n c) (.slice (some ⟨b, 0, none⟩) 1 1) h1 (slK k) := by
  subst he
  obtain ⟨hs, B0, B1, rfl, h1, h2⟩ := a
  refine s.new (cs := [.slice q m d]) fun b h3 x3 s3 => ?_
  have sx : Sl TR (some ⟨b, 0, none⟩) 1 1 [(q, m, d)] (cA b [.slice q m d] 23) := Sl.of_blk (T := TR) (xs := [(q, m, d)]) rfl rfl
  refine yaat yalk (s3.to (B := B0 + (cA b [.slice q m d] 23 + (B1 + (B + G))))) h1 (sx.rd s3) hn fun p' c' h' A' a' s' => ?_
  have s5 := (s'.to (B := cA b [.slice q m d] 23 + (A' + (B1 + B) + G))).drop
  exact hk p' c' h' (A' + (B1 + B)) ⟨hs ++ [(q, m, d)], A', B1 + B, rfl, a', h2.append (AllH.one ‹RowP (q, m, d) x B›)⟩ s5
theorem ldI {h : Hp} {p : OA} {n : Nat} {l : List Int} {i : Int} {i' : Nat} {Q : Int → Prop} (r : RdT TI h p n l) (ei : i = (i' : Int)) (h1 : i' < n) (hq : Q (l.getD i' 0)) :
    (0 ≤ i ∧ i < (n : Int)) ∧ NN p fun a => ∃ x, cell h (a.add (Int.toNat i * 1)) = some (.int .i64 x) ∧ Q x := by
  subst ei
  exact r.int (by omega) (by omega) (by rw [Int.toNat_natCast]; exact hq)
theorem yadm {α : Type} {d : α} {l m : List α} (hl : l.length = m.length) (h : ∀ i, i < m.length → l.getD i d = m.getD i d) : l = m := by
  refine List.ext_getElem hl fun i h1 h2 => ?_
  have := h i h2
  simpa [List.getD, h1, h2] using this
end Go.Proofs.YtdlkohenamlnaaaGreat
