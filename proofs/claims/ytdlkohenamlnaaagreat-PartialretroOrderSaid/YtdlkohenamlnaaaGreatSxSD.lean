/- Part Q10 Q11 R1 FB4 Q12 P36 P37 Q14 Z1 Z2 P40 SH SI SA SL SB SC SD of the proof: contracts of functions of the program, and what follows from them. -/
import Derived.Test.YtdlkohenamlnaaaGreatSxQ9
import Derived.Test.YtdlkohenamlnaaaGreatSxB33
import Derived.Deep.Slices
import Derived.OpenShut
import Derived.Test.YtdlkohenamlnaaaGreatRows
import Derived.WalkKit
import Derived.ProofKit
import Derived.ShutString
import Derived.ChangeOld
import Derived.Below
import Derived.ChangeMaps5
import Derived.Deep.Grids
import Derived.Test.YtdlkohenamlnaaaGreatSxV
/- The law's small functions, its example. -/
set_option maxRecDepth 100000
namespace Go.Proofs.YtdlkohenamlnaaaGreat
open Go Go.Sx
theorem eqI_ok {h : Hp} {p q : Option Addr} {n m c d : Nat} {xs ys : List Int} (r1 : RdT TI h p n xs) (r2 : RdT TI h q m ys) (hn : n ≤ 1000000000) :
    HCalls Tryz.prog 22 #[.slice p n c, .slice q m d] h (fun v h' => h' = h ∧ v = .bool (decide (xs = ys))) := by
  have l1 := r1.len
  have l2 := r2.len
  refine EqI_call ?_
  rw [EqI_b0_eq]
  refine condN (fun hl => ?_) (fun hl => ?_)
  · exact ⟨rfl, by rw [decide_eq_false (fun h => hl (by subst h; omega))]⟩
  refine ⟨fun x h' => h' = h ∧ ∃ i : Nat, x.1 = i ∧ i ≤ n ∧ ∀ j, j < i → xs.getD j 0 = ys.getD j 0, fun x _ => n - x.1.toNat, ⟨rfl, 0, rfl, by omega, fun j hj => by omega⟩, ?_⟩
  rintro ⟨_, _⟩ h1 ⟨rfl, i, rfl, hin, heq⟩
  dsimp only
  rw [EqI_b1_eq]
  refine condP (fun hlt => ?_) (fun hge => ?_)
  · refine r1.int (by omega) (by omega) (r2.int (by omega) (by omega) ?_)
    rw [Int.toNat_natCast]
    refine condN (fun hne => ?_) (fun he => ?_)
    · exact ⟨rfl, by rw [decide_eq_false (fun h => hne (by rw [h]))]⟩
    · rw [EqI_b2_eq]
      refine ⟨⟨by omega, by omega⟩, ⟨rfl, i + 1, by simp only; omega, by omega, fun j hj => ?_⟩, by simp only; omega⟩
      rcases Nat.lt_or_ge j i with h | h
      · exact heq j h
      · obtain rfl : j = i := by omega
        exact he
  · rw [EqI_b3_eq]
    refine ⟨rfl, ?_⟩
    rw [decide_eq_true]
    refine List.ext_getElem (by omega) fun j h1 h2 => ?_
    have := heq j (by omega)
    rwa [getD_get h1, getD_get h2] at this
abbrev S5 := Int × Int × Int × Int × SH
abbrev tS5 : Ty S5 := ⟨27, 5, fun x => [.int .i64 x.1, .int .i64 x.2.1, .int .i64 x.2.2.1, .int .i64 x.2.2.2.1, .slice x.2.2.2.2.1 x.2.2.2.2.2.1 x.2.2.2.2.2.2], (0, 0, 0, 0, none, 0, 0), fun _ => rfl, by decide, fun _ v hv => by simp at hv; rcases hv with rfl | rfl | rfl | rfl | rfl <;> rfl⟩
theorem s5_load {h : Hp} {p : Option Addr} {n : Nat} {l : List S5} {i : Int} {Q : Int → Int → Int → Int → Option Addr → Nat → Nat → Prop} (r : RdT tS5 h p n l) (h0 : 0 ≤ i) (h1 : i < n) (hq : Q (l.getD i.toNat tS5.d).1 (l.getD i.toNat tS5.d).2.1 (l.getD i.toNat tS5.d).2.2.1 (l.getD i.toNat tS5.d).2.2.2.1 (l.getD i.toNat tS5.d).2.2.2.2.1 (l.getD i.toNat tS5.d).2.2.2.2.2.1 (l.getD i.toNat tS5.d).2.2.2.2.2.2) :
    (0 ≤ i ∧ i < (n : Int)) ∧ NN p fun a => ∃ x : Int, ∃ y : Int, ∃ z : Int, ∃ u : Int, ∃ (b : Option Addr) (m c : Nat), cell h (a.add (Int.toNat i * 5)) = some (.int .i64 x) ∧ cell h ((a.add (Int.toNat i * 5)).add 1) = some (.int .i64 y) ∧ cell h ((a.add (Int.toNat i * 5)).add 2) = some (.int .i64 z) ∧ cell h ((a.add (Int.toNat i * 5)).add 3) = some (.int .i64 u) ∧ cell h ((a.add (Int.toNat i * 5)).add 4) = some (.slice b m c) ∧ Q x y z u b m c :=
  r.idx h0 h1 fun _ _ hc => ⟨_, _, _, _, _, _, _, hc 0 (show 0 < 5 by decide), hc 1 (show 1 < 5 by decide), hc 2 (show 2 < 5 by decide), hc 3 (show 3 < 5 by decide), hc 4 (show 4 < 5 by decide), hq⟩
theorem few_ok {h : Hp} {p : Option Addr} {n c : Nat} {l : List S5} (r : RdT tS5 h p n l) :
    HCalls Tryz.prog 10 #[.slice p n c] h (fun v h' => Ext h h' ∧ ∃ b, v = .bool b ∧ (b = true → n ≤ 30 ∧ ∀ x ∈ l, x.2.2.2.2.2.1 ≤ 70)) := by
  have hl := r.len
  refine l35_few_call ?_
  rw [l35_few_b0_eq]
  refine condP (fun h30 => ?_) (fun h30 => ⟨Ext.refl h, _, rfl, fun h => by cases h⟩)
  refine HCalls.mono (K := fun v h' => Ext h h' ∧ ∃ b, v = .bool b ∧ (b = false → ∀ x ∈ l, x.2.2.2.2.2.1 ≤ 70)) ?_ fun v h' ⟨x, b, hv, hb⟩ => ⟨_, hv, x, _, rfl, fun h => ⟨by omega, hb (by simpa using h)⟩⟩
  refine slices_ContainsFunc_Sl35_Step_l35_Step_call ?_
  rw [slices_ContainsFunc_Sl35_Step_l35_Step_b0_eq]
  refine slices_IndexFunc_Sl35_Step_l35_Step_call ?_
  rw [slices_IndexFunc_Sl35_Step_l35_Step_b0_eq]
  refine ⟨fun s h' => Ext h h' ∧ ∃ i : Nat, s.1 = i ∧ i ≤ n ∧ ∀ x ∈ l.take i, x.2.2.2.2.2.1 ≤ 70, fun s _ => n - s.1.toNat, ⟨Ext.refl h, 0, rfl, by omega, by simp⟩, ?_⟩
  rintro ⟨_, _⟩ h1 ⟨x1, i, rfl, hin, hall⟩
  dsimp only
  rw [slices_IndexFunc_Sl35_Step_l35_Step_b1_eq]
  refine condP (fun hlt => ?_) (fun hge => ?_)
  · refine s5_load (r.ext x1) (by omega) (by omega) ?_
    rw [Int.toNat_natCast]
    have hil : i < l.length := by omega
    have hg : l.getD i tS5.d = l[i] := getD_get hil
    generalize l.getD i tS5.d = x at hg ⊢
    show callX Tryz.prog F 55 #[.agg #[.int .i64 x.1, .int .i64 x.2.1, .int .i64 x.2.2.1, .int .i64 x.2.2.2.1, .slice x.2.2.2.2.1 x.2.2.2.2.2.1 x.2.2.2.2.2.2]] _ _
    refine callX_of (by kernel_rfl) (l35_few_c1_call ?_)
    rw [l35_few_c1_b0_eq]
    refine (St.start h1).new (cs := [.int .i64 x.1, .int .i64 x.2.1, .int .i64 x.2.2.1, .int .i64 x.2.2.2.1, .slice x.2.2.2.2.1 x.2.2.2.2.2.1 x.2.2.2.2.2.2]) fun b1 h2 x2 s2 => ?_
    refine ⟨_, _, _, by rw [add_mk, add_mk]; exact s2.blk.cell 4, _, rfl, condP (fun hbig => ?_) (fun hbig => ?_)⟩
    · exact ⟨_, rfl, x1.trans x2, _, rfl, fun h => by rw [decide_eq_true (by omega)] at h; cases h⟩
    · rw [slices_IndexFunc_Sl35_Step_l35_Step_b2_eq]
      refine ⟨⟨by omega, by omega⟩, ⟨x1.trans x2, i + 1, by simp only; omega, by omega, fun y hy => ?_⟩, by simp only; omega⟩
      rw [List.take_succ_eq_append_getElem hil, List.mem_append, List.mem_singleton, ← hg] at hy
      rcases hy with hy | rfl
      · exact hall y hy
      · omega
  · rw [slices_IndexFunc_Sl35_Step_l35_Step_b3_eq]
    rw [List.take_of_length_le (by omega)] at hall
    exact ⟨_, rfl, x1, _, rfl, fun _ => hall⟩
end Go.Proofs.YtdlkohenamlnaaaGreat

/- The chapter's example; the law Queue. -/
set_option maxRecDepth 100000
namespace Go.Proofs.YtdlkohenamlnaaaGreat
open Go Go.Sx
theorem isLb_nil {i : Nat} {z : Int} (h : IsLb [] z i) : i = 0 := by have := h.1; simpa using this
theorem awake_ok (h : Hp) : HCalls Tryz.prog 9 #[] h (fun v h' => v = .bool true ∧ Ext h h') := by
  refine l35_awake_call ?_
  rw [l35_awake_b0_eq]
  refine (newQueue_ok h).mono fun v1 h1 ⟨qb, A1, hv1, q1, s1⟩ => ⟨_, hv1, condNo rfl ?_⟩
  have s1 := s1.to (B := A1 + 0)
  refine (qinsert_ok (t := 1) (k := 5) q1 .nil (by decide) s1).mono fun v2 h2 ⟨hv2, A2, q2, s2⟩ => ⟨_, hv2, ?_⟩
  have e2 : insP [] 1 5 = ([(1, 5, false)], 0) := by decide
  rw [e2] at q2 ⊢
  refine condNo rfl ((qinsert_ok (t := 2) (k := 3) q2 (by decide) (by decide) s2).mono fun v3 h3 ⟨hv3, A3, q3, s3⟩ => ⟨_, hv3, ?_⟩)
  have e3 : insP [(1, 5, false)] 2 3 = ([(1, 5, false), (2, 3, false)], 0) := by decide
  rw [e3] at q3 ⊢
  refine condNo rfl ((qinsert_ok (t := 4) (k := 8) q3 (by decide) (by decide) s3).mono fun v4 h4 ⟨hv4, A4, q4, s4⟩ => ⟨_, hv4, ?_⟩)
  have e4 : insP [(1, 5, false), (2, 3, false)] 4 8 = ([(1, 5, false), (2, 3, false), (4, 8, false)], 0) := by decide
  rw [e4] at q4 ⊢
  refine condNo rfl ((qdelete_ok (t := 3) q4 (by decide) (by decide) s4).mono fun v5 h5 ⟨hv5, A5, q5, s5⟩ => ⟨_, hv5, ?_⟩)
  have e5 : delP [(1, 5, false), (2, 3, false), (4, 8, false)] 3 = ([(1, 5, false), (2, 3, false), (3, 0, true), (4, 8, false)], 0) := by decide
  rw [e5] at q5 ⊢
  refine condNo rfl ((qdelete_ok (t := 6) q5 (by decide) (by decide) s5).mono fun v6 h6 ⟨hv6, A6, q6, s6⟩ => ⟨_, hv6, ?_⟩)
  have e6 : delP [(1, 5, false), (2, 3, false), (3, 0, true), (4, 8, false)] 6 = ([(1, 5, false), (2, 3, false), (3, 0, true), (4, 8, false), (6, 0, true)], 0) := by decide
  rw [e6] at q6 ⊢
  refine condNo rfl ?_
  rw [l35_awake_b1_eq]
  refine (qkeys_ok q6 (by decide) s6).mono fun v7 h7 ⟨p7, d7, B7, hv7, o7, t7⟩ => ⟨_, _, _, hv7, ?_⟩
  have s7 := s6.join t7
  refine s7.new (cs := [.int .i64 8]) fun b1 h8 _ s8 => ?_
  have o8 : Sl TI (some ⟨b1, 0, none⟩) 1 1 [8] (cA b1 [.int .i64 8] 3) := Sl.of_blk (T := TI) (xs := [8]) rfl rfl
  refine (eqI_ok (o7.rd (s8.to (B := B7 + (cA b1 [.int .i64 8] 3 + (A6 + 0))))) (o8.rd s8) (by decide)).mono fun v8 h9 ⟨hh9, hv8⟩ => ⟨_, hv8, condNo (by decide) ?_⟩
  subst hh9
  have s8 := s8.drop.to (B := A6 + B7)
  refine (qbridges_ok q6 (by decide) s8).mono fun v9 h10 ⟨p9, d9, B9, hv9, o9, t9⟩ => ⟨_, _, _, hv9, ?_⟩
  have s10 := s8.join t9
  refine s10.new (cs := [.int .i64 6]) fun b2 h11 _ s11 => ?_
  have o11 : Sl TI (some ⟨b2, 0, none⟩) 1 1 [6] (cA b2 [.int .i64 6] 3) := Sl.of_blk (T := TI) (xs := [6]) rfl rfl
  refine (eqI_ok (o9.rd (s11.to (B := B9 + (cA b2 [.int .i64 6] 3 + (A6 + B7))))) (o11.rd s11) (by decide)).mono fun v10 h12 ⟨hh12, hv10⟩ => ⟨_, hv10, condNo (by decide) ?_⟩
  subst hh12
  have s11 := s11.drop.drop
  refine (qinsert_ok (t := 5) (k := 4) q6 (by decide) (by decide) s11).mono fun v11 h13 ⟨hv11, A13, q13, s13⟩ => ⟨_, hv11, ?_⟩
  have e13 : insP [(1, 5, false), (2, 3, false), (3, 0, true), (4, 8, false), (6, 0, true)] 5 4 = ([(1, 5, false), (2, 3, false), (3, 0, true), (4, 8, false), (5, 4, false), (6, 0, true)], 0) := by decide
  rw [e13] at q13 ⊢
  refine condNo rfl ?_
  rw [l35_awake_b2_eq]
  refine (newLog_ok (k := 1) (by decide) h13).mono fun v12 h14 ⟨gb, L0, hv12, la, t14⟩ => ⟨_, _, hv12, ?_⟩
  have s14 := (s13.join t14).to (B := A13 + (L0 + B7))
  refine (qkeys_ok q13 (by decide) s14).mono fun v13 h15 ⟨p13, d13, B13, hv13, o13, t15⟩ => ⟨_, _, _, hv13, ?_⟩
  have s15 := s14.join t15
  refine s15.new (cs := [.int .i64 5, .int .i64 8]) fun b3 h16 _ s16 => ?_
  have o16 : Sl TI (some ⟨b3, 0, none⟩) 2 2 [5, 8] (cA b3 [.int .i64 5, .int .i64 8] 3) := Sl.of_blk (T := TI) (xs := [5, 8]) rfl rfl
  refine (eqI_ok (o13.rd (s16.to (B := B13 + (cA b3 [.int .i64 5, .int .i64 8] 3 + (A13 + (L0 + B7)))))) (o16.rd s16) (by decide)).mono fun v14 h17 ⟨hh17, hv14⟩ => ⟨_, hv14, condYes (by decide) (condYes rfl (condYes rfl ?_))⟩
  subst hh17
  have s16 := s16.drop.to (B := (A13 + (B7 + B13)) + L0)
  have s16 := s16.drop
  refine s16.new (cs := [.int .i64 1, .int .i64 2]) fun b4 h18 _ s18 => ?_
  have o18 : Sl TI (some ⟨b4, 0, none⟩) 2 2 [1, 2] (cA b4 [.int .i64 1, .int .i64 2] 3) := Sl.of_blk (T := TI) (xs := [1, 2]) rfl rfl
  have s18 := s18.to (B := L0 + (cA b4 [.int .i64 1, .int .i64 2] 3 + 0))
  refine (ladd_ok (k := 1) (L := ⟨[], [], [], 0, 0⟩) (by decide) runOk1 la (by decide) (fun i j _ hj => by simp at hj) (time := 3) (code := 1) (zs := [1, 2]) (fun z hz => nomatch hz) (by decide) (fun y hy => nomatch hy) (by decide) (by decide) (RdS.own o18) s18).mono fun v15 h19 ⟨i, hlb, hv15, L1, la1, s19⟩ => ⟨_, hv15, ?_⟩
  obtain rfl := isLb_nil hlb
  have e19 : chgL (fun ops => ((runS ops).1.map row2, (runS ops).2)) ⟨[], [], [], 0, 0⟩ (putL 0 3 []) (putL 0 (1, [1, 2]) []) = (⟨[3], [(1, [1, 2])], [[1, 2]], 0, 0⟩, 0) := rfl
  rw [e19] at la1 ⊢
  refine condYes rfl ?_
  refine s19.new (cs := [.int .i64 1]) fun b5 h20 _ s20 => ?_
  have o20 : Sl TI (some ⟨b5, 0, none⟩) 1 1 [1] (cA b5 [.int .i64 1] 3) := Sl.of_blk (T := TI) (xs := [1]) rfl rfl
  have s20 := s20.to (B := L1 + (cA b5 [.int .i64 1] 3 + (cA b4 [.int .i64 1, .int .i64 2] 3 + 0)))
  refine (ladd_ok (k := 1) (L := ⟨[3], [(1, [1, 2])], [[1, 2]], 0, 0⟩) (by decide) runOk1 la1 (by decide) (fun i j _ hj => by simp at hj; omega) (time := 2) (code := 3) (zs := [1]) (by decide) (by decide) (by decide) (by decide) (by decide) (RdS.own o20) s20).mono fun v16 h21 ⟨i, hlb, hv16, L2, la2, s21⟩ => ⟨_, hv16, ?_, s21.ext⟩
  obtain rfl : i = 0 := by
    obtain ⟨c1, c2, _⟩ := hlb
    rcases Nat.eq_zero_or_pos i with h | h
    · exact h
    · have : (3 : Int) < 2 := c2 0 h
      omega
  have e21 : (chgL (fun ops => ((runS ops).1.map row2, (runS ops).2)) ⟨[3], [(1, [1, 2])], [[1, 2]], 0, 0⟩ (putL 0 2 [3]) (putL 0 (3, [1]) [(1, [1, 2])])).2 = 13 := rfl
  rw [e21]
  rfl
end Go.Proofs.YtdlkohenamlnaaaGreat

/- How a slice that is handed in is read: elements of any number of cells. -/
namespace Go.Sx
open Go Go.ChangeShapes Go.WideShapes Go.Deep
section
variable {H : Type} {enc : TypeId × Value → H} {P : Program} {w : World} {base : Nat} {sp : Nat → Bool} {held : Bool} {α : Type}
theorem rd_flat {t : TypeId} (T : Ty α) {W : α → Prop} {a : Option Addr} {len cap : Nat} {d : DataW H} {ps : List MemPlace} (ht : P.underlying t = some (.slice T.e)) (hc : P.cellsOf T.e = T.sz)
    (dec : ∀ n cs x, DataW.trod enc P w base sp held n T.e cs = some x → ∃ a, cs = T.enc a ∧ W a) (h : DataW.Trod enc P w base sp held t (.slice a len cap) d ps) :
    ∃ xs : List α, RdT T w.heap a len xs ∧ len ≤ cap ∧ ∀ x ∈ xs, W x := by
  obtain ⟨fuel, hf⟩ := h
  have e0 : (Value.slice a len cap).cells.toList = [.slice a len cap] := rfl
  rw [e0] at hf
  rcases open_slice ht hf with ⟨hcs, _⟩ | ⟨x, l, c, m, n, D, Pl, hcs, _, hl, _, hm, _, hx⟩
  · injection hcs with h1 _
    injection h1 with h1 h2 h3
    subst h1 h2 h3
    exact ⟨[], RdT.nil _ _, Nat.le_refl _, fun _ h => nomatch h⟩
  · injection hcs with h1 _
    injection h1 with h1 h2 h3
    subst h1 h2 h3
    have hlm : len ≤ m := by rw [hm]; split <;> omega
    haveI : Inhabited α := ⟨T.d⟩
    obtain ⟨f, hf⟩ := choose_lt (α := α) (n := len) (p := fun i z => w.cells? base (x.add (i * T.sz)) T.sz = some (T.enc z) ∧ W z) (fun i hi => by
      obtain ⟨cs, h1, h2⟩ := hx i (by omega)
      obtain ⟨z, hz, hw⟩ := dec n cs _ h2
      rw [hc] at h1
      exact ⟨z, by rw [h1, hz], hw⟩)
    refine ⟨(List.range len).map f, ⟨by simp, .inr ⟨x, rfl, fun i hi => ?_⟩⟩, hl, fun z hz => ?_⟩
    · have hp := T.pos
      have hdm : T.sz * (i / T.sz) + i % T.sz = i := Nat.div_add_mod i T.sz
      have hq : i / T.sz < len := (Nat.div_lt_iff_lt_mul hp).2 hi
      have hr : i % T.sz < T.sz := Nat.mod_lt _ hp
      obtain ⟨_, _, h3⟩ := World.cells?_some (hf _ hq).1
      have h4 := h3 _ hr
      have e1 : i / T.sz * T.sz + i % T.sz = i := by rw [Nat.mul_comm]; exact hdm
      rw [add_add, e1] at h4
      show cell w.heap (x.add i) = _
      rw [← cell_eq, h4]
      have := T.cells_get ((List.range len).map f) (i := i / T.sz) (j := i % T.sz) (by simpa using hq) hr
      rw [e1] at this
      rw [this]
      simp [List.getD, hq]
    · obtain ⟨i, hi, rfl⟩ := List.mem_map.1 hz
      exact (hf i (List.mem_range.1 hi)).2
theorem dec_int {e : TypeId} {k : IntKind} (he : P.underlying e = some (.int k)) (n : Nat) (cs : List Value) (x : DataW H × List MemPlace) (h : DataW.trod enc P w base sp held n e cs = some x) : ∃ z, cs = [.int k z] ∧ (Lit.int k z).wf = true := by
  obtain ⟨z, h1, _, h2⟩ := DataW.trod_int he h
  exact ⟨z, h1, h2⟩
end
end Go.Sx

/- How the law's arguments are read. -/
set_option maxRecDepth 10000
namespace Go.Proofs.YtdlkohenamlnaaaGreat
open Go Go.Sx Go.ChangeShapes Go.WideShapes Go.ChangeAt Go.RowKit Go.Deep

theorem own : ownKnob Tryz.prog.godebug = none := by kernel_rfl
theorem laidOut : laidOutB Tryz.prog = true := by kernel_rfl
theorem below_of {P : Program} {f : FuncId} {args : Array Value} {w : World} (hc : HCalls P f args w.heap (fun v h' => v = .bool true ∧ Ext w.heap h')) :
    Calls P f args w fun e w' => e = .returned (.bool true) ∧ Below w.heap.size w w' :=
  (hc w rfl).mono fun e w' ⟨v, he, hs, hv, hx⟩ => ⟨by rw [he, hv], ⟨hs.os, hs.tape, hs.output, hx.size, hx.same⟩⟩
section
variable {H : Type} {enc : TypeId × Value → H} {w : World} {base : Nat} {held : Bool} {a : Option Addr} {len cap : Nat} {d : DataW H} {ps : List MemPlace}
theorem rd_st35 (h : DataW.Trod enc Tryz.prog w base (fun _ => true) held 22 (.slice a len cap) d ps) : ∃ l : List S5, RdT tS5 w.heap a len l ∧ len ≤ cap ∧ ∀ x ∈ l, x.2.2.2.2.2.1 ≤ x.2.2.2.2.2.2 ∧ InR x.2.2.2.1 ∧ ∃ zs, RdT TI w.heap x.2.2.2.2.1 x.2.2.2.2.2.1 zs :=
  rd_flat tS5 Tryz.underlying22 (by kernel_rfl) (fun n cs x h => by
    obtain ⟨xs, m, _, _, hl, hxl, hx⟩ := DataW.trod_struct Tryz.underlying27 h
    rw [show Tryz.prog.cellsOf 27 = 5 by kernel_rfl] at hl
    match cs, xs, hl, hxl with
    | [c0, c1, c2, c3, c4], [y0, y1, y2, y3], _, _ =>
      obtain ⟨z0, e0, w0⟩ := dec_int (k := .i64) (by kernel_rfl) _ _ _ (hx 0 _ rfl)
      obtain ⟨z1, e1, w1⟩ := dec_int (k := .i64) (by kernel_rfl) _ _ _ (hx 1 _ rfl)
      obtain ⟨z2, e2, w2⟩ := dec_int (k := .i64) (by kernel_rfl) _ _ _ (hx 2 _ rfl)
      have f0 : c0 = .int .i64 z0 := (List.cons.inj (show [c0] = [Value.int .i64 z0] from e0)).1
      have f1 : c1 = .int .i64 z1 := (List.cons.inj (show [c1] = [Value.int .i64 z1] from e1)).1
      have f2 : c2 = .int .i64 z2 := (List.cons.inj (show [c2] = [Value.int .i64 z2] from e2)).1
      have h3 : DataW.trod enc Tryz.prog w base (fun _ => true) held m 25 [c3, c4] = some y3 := hx 3 _ rfl
      obtain ⟨xs', m', _, _, hl', hxl', hx'⟩ := DataW.trod_struct Tryz.underlying25 h3
      match xs', hxl' with
      | [v0, v1], _ =>
        obtain ⟨z3, e3, w3⟩ := dec_int (k := .i64) (by kernel_rfl) _ _ _ (hx' 0 _ rfl)
        have f3 : c3 = .int .i64 z3 := (List.cons.inj (show [c3] = [Value.int .i64 z3] from e3)).1
        have h1 : DataW.trod enc Tryz.prog w base (fun _ => true) held m' 23 [c4] = some v1 := hx' 1 _ rfl
        have key : ∃ a' l' c', [c4] = [Value.slice a' l' c'] := by
          rcases open_slice Tryz.underlying23 h1 with ⟨hcs, _⟩ | ⟨_, _, _, _, _, _, _, hcs, _⟩
          · exact ⟨_, _, _, hcs⟩
          · exact ⟨_, _, _, hcs⟩
        obtain ⟨a', l', c', hc1⟩ := key
        have f4 : c4 = .slice a' l' c' := (List.cons.inj hc1).1
        rw [hc1] at h1
        obtain ⟨zs, hr, hle, _⟩ := rd_flat (W := InR) TI Tryz.underlying23 (by kernel_rfl) (fun n cs x h => by
          obtain ⟨z, h1, h2⟩ := dec_int (k := .i64) (by kernel_rfl) n cs x h
          exact ⟨z, h1, bounds_i64 h2⟩) (d := v1.1) (ps := v1.2) ⟨m', h1⟩
        rw [f0, f1, f2, f3, f4]
        exact ⟨(z0, z1, z2, z3, a', l', c'), rfl, hle, bounds_i64 w3, zs, hr⟩) h
end
end Go.Proofs.YtdlkohenamlnaaaGreat

/- Methods of nil pointers: the law Nil. -/
set_option maxRecDepth 100000
namespace Go.Proofs.YtdlkohenamlnaaaGreat
open Go Go.Sx
end Go.Proofs.YtdlkohenamlnaaaGreat

/- Plain lists: what one more operation changes. -/
namespace Go.Sx
/-- Equal operations at the front leave equal queues. -/
theorem nowAt_congr {l l' : List Ev} : ∀ {i : Nat}, (∀ j, j < i → l.getD j evD = l'.getD j evD) → nowAt l i = nowAt l' i
  | 0, _ => rfl
  | i + 1, h => by
    unfold nowAt
    rw [nowAt_congr (fun j hj => h j (by omega)), h i (by omega)]
abbrev keysL (now : List El) : List Int := now.map Prod.fst
theorem keysL_srt {now : List El} (h : SrtE now) : (keysL now).Pairwise (· ≤ ·) := by
  rw [List.pairwise_map]
  exact h.imp fun {a b} (h : LtE a b) => by unfold LtE at h; omega
theorem keysL_ins {x : El} {now : List El} : (keysL (insE x now)).Perm (x.1 :: keysL now) := insE_perm.map Prod.fst
theorem stepN_ins {now : List El} {i : Nat} {a : Ev} (hd : a.2.2 = false) : stepN now i a = some (insE (a.2.1, (i : Int)) now) := by unfold stepN; rw [hd]; rfl
theorem stepN_del {now : List El} {i : Nat} {a : Ev} (hd : a.2.2 = true) : stepN now i a = match now with | [] => none | _ :: t => some t := by unfold stepN; rw [hd]; rfl
theorem nowAt_step {l : List Ev} {i : Nat} {now : List El} (h : nowAt l (i + 1) = some now) : ∃ prev, nowAt l i = some prev ∧ stepN prev i (l.getD i evD) = some now := by
  unfold nowAt at h
  cases h1 : nowAt l i with
  | none => rw [h1] at h; cases h
  | some prev => rw [h1] at h; exact ⟨prev, rfl, h⟩
/-- A success of adding. -/
theorem addP_ok {l : List Ev} {x : Ev} (h : (addP l x).2 = 0) : timeP x.1 ∧ hasT x.1 l = false ∧ l.length < 2000 ∧ (nowAt (putT x l) (putT x l).length).isSome = true ∧ addP l x = (putT x l, 0) := by
  unfold addP at h ⊢
  split at h
  · rename_i h1
    split at h
    · cases h
    · rename_i h2
      split at h
      · cases h
      · rename_i h3
        rw [if_pos h1, if_neg h2, if_neg h3]
        unfold chgP at h ⊢
        split at h
        · rename_i h4
          exact ⟨h1, by simpa using h2, by omega, h4, by rw [if_pos h4]⟩
        · cases h
  · cases h
theorem addP_keep {l : List Ev} {x : Ev} (h : (addP l x).2 ≠ 0) : (addP l x).1 = l := by
  unfold addP at h ⊢
  split
  · rename_i h1
    split
    · rfl
    · rename_i h2
      split
      · rfl
      · rename_i h3
        rw [if_pos h1, if_neg h2, if_neg h3] at h
        unfold chgP at h ⊢
        split
        · rename_i h4; rw [if_pos h4] at h; exact absurd rfl h
        · rfl
  · rfl
end Go.Sx

/- Plain lists: bridges, and the key that comes or goes. -/
namespace Go.Sx
theorem goodAt {l : List Ev} (g : GoodQ l) {i : Nat} (hi : i ≤ l.length) : nowAt l i = some (nowD l i) := by
  obtain ⟨prev, hp⟩ := nowAt_le hi g.ok
  rw [hp, nowD_some hp]
theorem nowD_step {l : List Ev} (g : GoodQ l) {i : Nat} (hi : i < l.length) : ((l.getD i evD).2.2 = false ∧ nowD l (i + 1) = insE ((l.getD i evD).2.1, (i : Int)) (nowD l i)) ∨ ((l.getD i evD).2.2 = true ∧ ∃ e, nowD l i = e :: nowD l (i + 1)) := by
  obtain ⟨prev, h1, h2⟩ := nowAt_step (goodAt g (i := i + 1) (by omega))
  rw [goodAt g (by omega)] at h1
  cases h1
  cases hd : (l.getD i evD).2.2 with
  | false => rw [stepN_ins hd] at h2; exact .inl ⟨rfl, (Option.some.inj h2).symm⟩
  | true =>
    rw [stepN_del hd] at h2
    refine .inr ⟨rfl, ?_⟩
    cases hc : nowD l i with
    | nil => rw [hc] at h2; cases h2
    | cons e es => rw [hc] at h2; exact ⟨e, by rw [Option.some.inj h2]⟩
theorem nowD_srt {l : List Ev} (g : GoodQ l) {i : Nat} (hi : i ≤ l.length) : SrtE (nowD l i) := (nowAt_inv (goodAt g hi)).1
theorem nowD_lt {l : List Ev} (g : GoodQ l) {i : Nat} (hi : i ≤ l.length) {e : El} (he : e ∈ nowD l i) : 0 ≤ e.2 ∧ e.2 < i := ((nowAt_inv (goodAt g hi)).2.2 e he).1
/-! ### an insertion -/
end Go.Sx
namespace Go.Sx
/-! ### a deletion -/
section
variable {l : List Ev} {x : Ev} (g : GoodQ l) (hd : x.2.2 = true) {p : Nat} (hp : p ≤ l.length)
include g hd hp
end
end Go.Sx

/- Searching in ascending numbers with repetitions; whether a list has a number. -/
set_option maxRecDepth 100000
namespace Go.Proofs.YtdlkohenamlnaaaGreat
open Go Go.Sx
/-- The place in ascending numbers. -/
theorem isLb_of {zs : List Int} {key : Int} (hs : zs.Pairwise (· ≤ ·)) : IsLb zs key (zs.takeWhile fun z => decide (z < key)).length := by
  have e : zs.takeWhile (fun z => decide (z < key)) ++ zs.dropWhile (fun z => decide (z < key)) = zs := List.takeWhile_append_dropWhile
  have hlen := congrArg List.length e
  rw [List.length_append] at hlen
  refine ⟨by omega, fun j hj => ?_, fun j hj hjl => ?_⟩
  · have hm : zs.getD j 0 ∈ zs.takeWhile (fun z => decide (z < key)) := by
      have : zs.getD j 0 = (zs.takeWhile (fun z => decide (z < key)))[j]'hj := by
        rw [getD_get (by omega)]
        conv => lhs; arg 1; rw [← e]
        rw [List.getElem_append_left hj]
      rw [this]; exact List.getElem_mem hj
    exact of_decide_eq_true (List.all_eq_true.1 (List.all_takeWhile (p := fun z : Int => decide (z < key)) (l := zs)) _ hm)
  · have hd : zs.drop (zs.takeWhile (fun z => decide (z < key))).length = zs.dropWhile (fun z => decide (z < key)) := (take_of_app e.symm).2
    have h0 : key ≤ zs.getD (zs.takeWhile (fun z => decide (z < key))).length 0 := by
      have h1 := List.head?_dropWhile_not (fun z : Int => decide (z < key)) zs
      rw [← hd, List.drop_eq_getElem_cons (by omega), List.head?_cons] at h1
      rw [getD_get (by omega)]
      simpa using h1
    show key ≤ zs.getD j 0
    rcases Nat.lt_or_ge (zs.takeWhile (fun z => decide (z < key))).length j with h | h
    · have := List.pairwise_iff_getElem.1 hs _ _ (by omega) hjl h
      rw [getD_get (by omega)] at h0 ⊢
      omega
    · obtain rfl : j = (zs.takeWhile (fun z => decide (z < key))).length := by omega
      exact h0
end Go.Proofs.YtdlkohenamlnaaaGreat

/- Layer 3's model: a heap's step; whether rows are valid; copies; Apply. -/
set_option maxRecDepth 100000
namespace Go.Proofs.YtdlkohenamlnaaaGreat
open Go Go.Sx
abbrev row1 (k : Int) : List Int := [k]
def insI (k : Int) (l : List Int) : List Int := l.takeWhile (fun z => decide (z < k)) ++ k :: l.dropWhile (fun z => decide (z < k))
/-- A heap's step: its keys ascending. -/
def heapS (l : List Int) (c : Int) (zs : List Int) : List Int × Int × Int :=
  if c = 4 then (l, 0, (l.length : Int)) else if c = 1 then (if l.length = 500 then (l, 4, 0) else (insI (zs.getD 0 0) l, 0, 0))
  else if l.length = 0 then (l, 14, 0) else if c = 3 then (l.tail, 0, l.getD 0 0) else (l, 0, l.getD 0 0)
theorem row1_get {l : List Int} {i : Nat} (h : i < l.length) : (l.map row1).getD i [] = [l.getD i 0] := by
  rw [List.getD_eq_getElem?_getD, List.getElem?_map, List.getElem?_eq_getElem h, List.getD_eq_getElem?_getD, List.getElem?_eq_getElem h]; rfl
theorem cmpK1 {l : List Int} {k : Int} {j : Nat} (hj : j < l.length) : cmpK (l.map row1) [k] j = cmpS (l.getD j 0) k := by
  rw [cmpK, row1_get hj]
  show (if l.getD j 0 < k then (-1 : Int) else if k < l.getD j 0 then 1 else cmpL [] []) = _
  rfl
section
variable {h0 h : Hp} {b1 b2 : Nat} {l : List Int} {p q : Option Addr} {n c m cc : Nat} {code : Int} {zs : List Int} {B G : Bag}
abbrev MHeapP (h0 : Hp) (G : Bag) (l : List Int) (c : Int) (zs : List Int) : Value → Hp → Prop := MStepP h0 G ((heapS l c zs).1.map row1) (heapS l c zs).2.1 (heapS l c zs).2.2
theorem mheap_ok (so : l.Pairwise (· ≤ ·)) (na : RowsA (p, n, c) (l.map row1) B) (rz : RdS h0 G TI q m zs) (hmc : m ≤ cc) (s : St h0 h (B + G)) (hn : n ≤ 1000) (hc : 1 ≤ code ∧ code ≤ 4) (h1 : code = 1 → zs.length = 1) :
    HCalls Tryz.prog 138 #[.slice p n c, .agg #[.int .i64 code, .slice q m cc]] h (MHeapP h0 G l code zs) := by
  have hl : (l.map row1).length = n := rows_len na
  rw [List.length_map] at hl
  refine model_heap_call ?_
  rw [model_heap_b0_eq]
  refine s.new (cs := [.int .i64 code, .slice q m cc]) fun b1 h3 _ s1 => ?_
  refine s1.new (cs := [.int .i64 0, .int .i64 0, .slice none 0 0]) fun b2 h4 _ s2 => ?_
  have s2 : St h0 h4 (cA b2 [.int .i64 0, .int .i64 0, .slice none 0 0] 61 + (cA b1 [.int .i64 code, .slice q m cc] 25 + (B + G))) := s2
  have kb1 := s2.atomBlk
  refine ⟨_, kb1.cell 0, condP (fun h8 => ?_) (fun h8 => ?_)⟩
  · have e : heapS l code zs = (l, 0, (l.length : Int)) := by subst h8; rfl
    rw [MHeapP, e, hl]
    exact mboxT na s2 (mresult_ok _ _)
  refine condP (fun hp => condP (fun h5 => ?_) (fun h5 => ?_)) (fun hp => ?_)
  · have e : heapS l code zs = (if l.length = 500 then (l, 4, 0) else (insI (zs.getD 0 0) l, 0, 0)) := by subst hp; rfl
    rw [MHeapP, e, if_pos (by omega)]
    exact mboxT na s2 (mfailed_ok _ _)
  · have e : heapS l code zs = (if l.length = 500 then (l, 4, 0) else (insI (zs.getD 0 0) l, 0, 0)) := by subst hp; rfl
    rw [MHeapP, e, if_neg (by omega)]
    have hrz : RdT TI h4 q m zs := rz h4 (cA b2 [.int .i64 0, .int .i64 0, .slice none 0 0] 61 + (cA b1 [.int .i64 code, .slice q m cc] 25 + B)) s2.to
    have hzl := hrz.len
    have h1 := h1 hp
    have hz : zs = [zs.getD 0 0] := by match zs, h1 with | [a], _ => rfl
    have rk : RdT TI h4 q m [zs.getD 0 0] := by rw [← hz]; exact hrz
    obtain ⟨f1, f2, f3⟩ := isLb_of (key := zs.getD 0 0) so
    refine ⟨_, _, _, Blk.cellA kb1 1, ?_⟩
    refine (find_ok (t := (l.takeWhile fun z => decide (z < zs.getD 0 0)).length) na (s2.to (B := B + (cA b2 [.int .i64 0, .int .i64 0, .slice none 0 0] 61 + (cA b1 [.int .i64 code, .slice q m cc] 25 + G)))) rk (by omega) (fun r hr => by obtain ⟨e, _, rfl⟩ := List.mem_map.1 hr; simp; omega)
      ⟨by omega, fun j hj => by rw [cmpK1 (by omega)]; have : l.getD j 0 < zs.getD 0 0 := f2 j hj; unfold cmpS; rw [if_pos this]; decide, fun j hj hjn => by rw [cmpK1 (by omega)]; have : zs.getD 0 0 ≤ l.getD j 0 := f3 j hj (by omega); unfold cmpS; rw [if_neg (by omega)]; split <;> decide⟩).mono fun v h5 ⟨hv, hh⟩ => ⟨_, _, hv, ?_⟩
    subst hh
    refine ⟨_, _, _, Blk.cellA kb1 1, (cloneI_st hrz (by omega)).mono fun v6 h6 ⟨q6, d6, A6, hv6, o6, t6⟩ => ⟨_, _, _, hv6, ?_⟩⟩
    have s6 := s2.join t6
    refine s6.new (cs := [.slice q6 m d6]) fun b3 h7 x7 s7 => ?_
    have s7 := s7.to (B := cA b3 [.slice q6 m d6] 23 + (B + (A6 + (cA b2 [.int .i64 0, .int .i64 0, .slice none 0 0] 61 + (cA b1 [.int .i64 code, .slice q m cc] 25 + G)))))
    refine (mrows_put na o6 s7 (by omega) (by omega)).mono fun v8 h8 ⟨q', d', B', hv8, na', s8⟩ => ⟨_, _, _, hv8, ?_⟩
    have hrow : (l.map row1).take (l.takeWhile fun z => decide (z < zs.getD 0 0)).length ++ zs :: (l.map row1).drop (l.takeWhile fun z => decide (z < zs.getD 0 0)).length = (insI (zs.getD 0 0) l).map row1 := by
      have e := (List.takeWhile_append_dropWhile (p := fun z : Int => decide (z < zs.getD 0 0)) (l := l)).symm
      obtain ⟨e1, e2⟩ := take_of_app e
      rw [← List.map_take, ← List.map_drop, e1, e2, insI, List.map_append, List.map_cons]
      show _ ++ zs :: _ = _ ++ [zs.getD 0 0] :: _
      rw [← hz]
    rw [hrow] at na'
    exact mboxT na' (s8.to (B := cA b2 [.int .i64 0, .int .i64 0, .slice none 0 0] 61 + (cA b1 [.int .i64 code, .slice q m cc] 25 + (B' + G)))) (mresult_ok _ _)
  · have e : heapS l code zs = (if l.length = 0 then (l, 14, 0) else if code = 3 then (l.tail, 0, l.getD 0 0) else (l, 0, l.getD 0 0)) := by
      unfold heapS; rw [if_neg h8, if_neg hp]
    rw [MHeapP, e, model_heap_b1_eq]
    refine condP (fun h0 => ?_) (fun h0 => ?_)
    · rw [if_pos (by omega)]
      exact mboxT na s2 (mfailed_ok _ _)
    · rw [if_neg (by omega)]
      refine rows_get na (s2.at B) (by omega) (by omega) (by omega) (by rw [show Int.toNat (0 : Int) = 0 from rfl, row1_get (by omega)]; simp) ?_
      rw [show Int.toNat (0 : Int) = 0 from rfl, row1_get (by omega)]
      refine ⟨_, kb1.cell 0, condP (fun h3 => ?_) (fun h3 => ?_)⟩
      · rw [if_pos h3]
        refine (mrows_cut (i := 0) na (s2.to (B := B + (cA b2 [.int .i64 0, .int .i64 0, .slice none 0 0] 61 + (cA b1 [.int .i64 code, .slice q m cc] 25 + G)))) (by omega) rfl (by omega)).mono fun v h' ⟨B', hv, na', s'⟩ => ⟨_, _, _, hv, ?_⟩
        have hrow : (l.map row1).take 0 ++ (l.map row1).drop (0 + 1) = l.tail.map row1 := by
          rw [List.take_zero, List.nil_append, ← List.map_drop, List.drop_one]
        rw [hrow] at na'
        rw [model_heap_b2_eq]
        exact mboxT na' (s'.to (B := cA b2 [.int .i64 0, .int .i64 0, .slice none 0 0] 61 + (cA b1 [.int .i64 code, .slice q m cc] 25 + (B' + G)))) (mresult_ok _ _)
      · rw [if_neg h3, model_heap_b2_eq]
        exact mboxT na s2 (mresult_ok _ _)
theorem mapplyH_ok (so : l.Pairwise (· ≤ ·)) (na : RowsA (p, n, c) (l.map row1) B) (rz : RdS h0 G TI q m zs) (hmc : m ≤ cc) (s : St h0 h (B + G)) (hn : n ≤ 1000) (hc : 1 ≤ code ∧ code ≤ 4) (h1 : code = 1 → zs.length = 1) :
    HCalls Tryz.prog 92 #[.int .i64 2, .slice p n c, .agg #[.int .i64 code, .slice q m cc]] h (MHeapP h0 G l code zs) := by
  refine model_apply_call ?_
  rw [model_apply_b0_eq]
  refine s.new (cs := [.int .i64 code, .slice q m cc]) fun b1 h1' _ s1 => ?_
  refine s1.new (cs := [.int .i64 0, .int .i64 0, .slice none 0 0]) fun b2 h2 _ s2 => ?_
  have s2 : St h0 h2 (cA b2 [.int .i64 0, .int .i64 0, .slice none 0 0] 61 + (cA b1 [.int .i64 code, .slice q m cc] 25 + (B + G))) := s2
  have kb1 := s2.atomBlk
  refine condNo rfl (condYes rfl ⟨_, _, _, _, kb1.cell 0, Blk.cellA kb1 1, ?_⟩)
  refine (mheap_ok so na (G := cA b2 [.int .i64 0, .int .i64 0, .slice none 0 0] 61 + (cA b1 [.int .i64 code, .slice q m cc] 25 + G)) (fun h' A s' => rz h' (A + (cA b2 [.int .i64 0, .int .i64 0, .slice none 0 0] 61 + cA b1 [.int .i64 code, .slice q m cc] 25)) s'.to) hmc s2.to hn hc h1).mono fun v h3 ⟨q', m', d', B', hv, na', s3⟩ => ⟨_, _, _, _, _, _, _, _, hv, ?_⟩
  have s3 := s3.to (B := cA b2 [.int .i64 0, .int .i64 0, .slice none 0 0] 61 + (cA b1 [.int .i64 code, .slice q m cc] 25 + (B' + G)))
  exact mboxW na' s3
end
/-- 'out = append(out, x)' of a slice x. -/
theorem push_nestS {h0 h : Hp} {p : Option Addr} {n c : Nat} {q : Option Addr} {m d : Nat} {xs : List (List Int)} {x : List Int} {A B G : Bag} {e' : TypeId} {k : Option Addr → Nat → Nat → Hp → Prop}
    (s : St h0 h (A + (B + G))) (a : RowsA (p, n, c) xs A) (b : RowP (q, m, d) x B) (he : e' = 23) (hn : n + 1 < 1073741824)
    (hk : ∀ p' c' h' A', RowsA (p', n + 1, c') (xs ++ [x]) A' → St h0 h' (A' + G) → k p' (n + 1) c' h') :
    New h (.cells #[.slice q m d] e') fun b h1 => appendV Tryz.prog 64 64 (.slice p n c) (.slice (some ⟨b, 0, none⟩) 1 1) h1 (slK k) := by
  subst he
  obtain ⟨hs, B0, B1, rfl, h1, h2⟩ := a
  refine s.new (cs := [.slice q m d]) fun b h3 x3 s3 => ?_
  have sx : Sl TR (some ⟨b, 0, none⟩) 1 1 [(q, m, d)] (cA b [.slice q m d] 23) := Sl.of_blk (T := TR) (xs := [(q, m, d)]) rfl rfl
  refine append_sl ok_row (s3.to (B := B0 + (cA b [.slice q m d] 23 + (B1 + (B + G))))) h1 (sx.rd s3) hn fun p' c' h' A' a' s' => ?_
  have s5 := (s'.to (B := cA b [.slice q m d] 23 + (A' + (B1 + B) + G))).drop
  exact hk p' c' h' (A' + (B1 + B)) ⟨hs ++ [(q, m, d)], A', B1 + B, rfl, a', h2.append (AllH.one ‹RowP (q, m, d) x B›)⟩ s5
/-- A copy of rows. -/
theorem copied_ok {h0 h : Hp} {p : Option Addr} {n c : Nat} {rows : List (List Int)} {B G : Bag} (na : RowsA (p, n, c) rows B) (s : St h0 h (B + G)) (hn : n < 1000000) (hr : ∀ r ∈ rows, r.length < 1000000) :
    HCalls Tryz.prog 93 #[.slice p n c] h (fun v h' => ∃ q d B', v = .slice q n d ∧ RowsA (q, n, d) rows B' ∧ St h h' B') := by
  have hl : rows.length = n := rows_len na
  refine model_copied_call ?_
  rw [model_copied_b0_eq]
  refine ⟨fun x h1 => ∃ (i : Nat) (B' : Bag), x.2.1 = i ∧ i ≤ n ∧ RowsA (x.1.1, x.1.2.1, x.1.2.2) (rows.take i) B' ∧ St h h1 B', fun x _ => n - x.2.1.toNat, ⟨0, 0, rfl, by omega, Nest.nil, St.start h⟩, ?_⟩
  rintro ⟨⟨q, m, d⟩, _, _⟩ h1 ⟨i, B', rfl, hin, na', s'⟩
  dsimp only at na' ⊢
  have hm := rows_len na'
  rw [List.length_take] at hm
  dsimp only at hm
  rw [model_copied_b1_eq]
  refine condP (fun hlt => ?_) (fun hlt => ?_)
  · refine Nest.at_ (d := []) na (s.grow s'.ext) (by omega) (by omega) fun a L C Bi Br o hB => ?_
    rw [Int.toNat_natCast] at o
    have o : Sl TI a L C (rows.getD i []) Bi := o
    have st2 : St h0 h1 (Bi + (Br + G)) := by have := s.grow s'.ext; rw [hB] at this; exact this.to
    have hg : rows.getD i [] = rows[i] := by simp [List.getD, show i < rows.length by omega]
    have hll := o.len
    have hlr := hr _ (List.getElem_mem (show i < rows.length by omega))
    rw [← hg] at hlr
    refine (cloneI_st (o.rd st2) (by omega)).mono fun v h2 ⟨q2, d2, A2, hv, o2, t2⟩ => ⟨_, _, _, hv, ?_⟩
    have s2 := s'.join t2
    refine push_nestS (G := 0) (s2.to (B := B' + (A2 + 0))) na' o2 rfl (by show m + 1 < _; omega) fun q3 d3 h3 B3 na3 s3 => ?_
    rw [model_copied_b2_eq]
    have e : rows.take i ++ [rows.getD i []] = rows.take (i + 1) := by rw [hg, List.take_succ_eq_append_getElem (by omega)]
    rw [e] at na3
    exact ⟨⟨by omega, by omega⟩, ⟨i + 1, B3, by push_cast; rfl, by omega, na3, by have := s3; rwa [Bag.add_zero] at this⟩, by simp only; omega⟩
  · obtain rfl : i = n := by omega
    rw [model_copied_b3_eq]
    rw [← hl, List.take_length] at na'
    obtain rfl : m = i := by omega
    exact ⟨q, d, B', rfl, na', s'⟩
end Go.Proofs.YtdlkohenamlnaaaGreat

/- Layer 3's model: whether rows are valid; Apply to a heap. -/
set_option maxRecDepth 100000
namespace Go.Proofs.YtdlkohenamlnaaaGreat
open Go Go.Sx
theorem rowv_x (z : Int) (h : Hp) (K : Value → Hp → Prop) (hk : K (.bool (!decide (KeyP z))) h) : callX Tryz.prog F 160 #[.int .i64 z] h K := by
  refine callX_of (by kernel_rfl) (model_validRows_c1_call ?_)
  rw [model_validRows_c1_b0_eq]
  exact (numb_ok z h).mono fun v h' ⟨hv, hh⟩ => ⟨_, hv, by rw [hh]; exact hk⟩
/-- Rows that are valid, of a kind whose rows have one width and are in order. -/
structure RowsV (k : Int) (w ky : Nat) (rows : List (List Int)) : Prop where
  len : rows.length ≤ 500
  wid : ∀ r ∈ rows, r.length = w ∧ ∀ z ∈ r, KeyP z
  ord : ∀ i, i + 1 < rows.length → 0 < ky → cmpL ((rows.getD i []).take ky) ((rows.getD (i + 1) []).take ky) < 0 ∨ (cmpL ((rows.getD i []).take ky) ((rows.getD (i + 1) []).take ky) = 0 ∧ k = 2)
theorem validRows_ok {k : Int} {w ky : Nat} {h0 h : Hp} {p : Option Addr} {n c : Nat} {rows : List (List Int)} {B G : Bag} (hW : ∀ h, HCalls Tryz.prog 159 #[.int .i64 k] h (fun v h' => v = .tuple #[.int .i64 (w : Int), .int .i64 (ky : Int)] ∧ h' = h)) (hw : ky ≤ w ∧ w < 100) (hv : RowsV k w ky rows) (na : RowsA (p, n, c) rows B) (s : St h0 h (B + G)) :
    HCalls Tryz.prog 134 #[.agg #[.int .i64 k, .slice p n c]] h (fun v h' => v = .bool true ∧ Ext h h') := by
  have hl : rows.length = n := rows_len na
  have hlen := hv.len
  refine model_validRows_call ?_
  rw [model_validRows_b0_eq]
  refine (St.start h).new (cs := [.int .i64 k, .slice p n c]) fun b1 h1 x1 s1 => ?_
  refine ⟨_, _, _, Blk.cellA s1.blk 1, condP (fun h5 => by omega) (fun _ => ⟨_, s1.blk.cell 0, ?_⟩)⟩
  refine (hW h1).mono fun v h2 ⟨hv2, hh⟩ => ⟨_, _, hv2, ?_⟩
  subst hh
  refine ⟨_, _, _, Blk.cellA s1.blk 1, ?_⟩
  refine ⟨fun x h' => ∃ i : Nat, x.1 = (i : Int) ∧ i ≤ n ∧ Ext h2 h', fun x _ => n - x.1.toNat, ⟨0, rfl, by omega, Ext.refl _⟩, ?_⟩
  rintro ⟨_, _⟩ h3 ⟨i, rfl, hin, x3⟩
  dsimp only
  have s3 := s1.grow x3
  have sb := s.grow s3.ext
  have rd : ∀ {j : Nat} {Q : Option Addr → Nat → Nat → Prop}, j < n → (∀ a L C, RdT TI h3 a L (rows.getD j []) → L ≤ C → Q a L C) → (0 ≤ (j : Int) ∧ (j : Int) < (n : Int)) ∧ NN p fun a1 => ∃ (a2 : Option Addr) (L1 C1 : Nat), cell h3 (a1.add (Int.toNat (j : Int) * 1)) = some (.slice a2 L1 C1) ∧ Q a2 L1 C1 := by
    intro j Q hj hq
    refine Nest.at_ (d := []) na sb (by omega) (by show (j : Int) < n; omega) fun a L C Bi Br o hB => ?_
    rw [Int.toNat_natCast] at o
    have o : Sl TI a L C (rows.getD j []) Bi := o
    have st2 : St h0 h3 (Bi + (Br + G)) := by rw [hB] at sb; exact sb.to
    exact hq a L C (o.rd st2) o.cap
  have wd : ∀ j, j < n → (rows.getD j []).length = w ∧ ∀ z ∈ rows.getD j [], KeyP z := fun j hj => by
    have hg : rows.getD j [] = rows[j] := by simp [List.getD, show j < rows.length by omega]
    rw [hg]; exact hv.wid _ (List.getElem_mem (by omega))
  rw [model_validRows_b1_eq]
  refine condP (fun hlt => ?_) (fun hge => ?_)
  · refine rd (by omega) fun a L C r hLC => ?_
    obtain ⟨w1, w2⟩ := wd i (by omega)
    have hL := r.len
    refine condN (fun hne => by omega) (fun _ => ?_)
    refine (int_index_ok rowv_x r (by omega)).mono fun v h4 ⟨hh4, hv4⟩ => ⟨_, hv4, ?_⟩
    subst hh4
    have hany : ((rows.getD i []).any fun z => !decide (KeyP z)) = false := by
      rw [List.any_eq_false]; intro z hz; rw [decide_eq_true (w2 z hz)]; simp
    refine condNo hany ?_
    have b4 : model_validRows_b4 (some ⟨b1, 0, none⟩) (w : Int) (ky : Int) p n c (n : Int) (i : Int) h4 (fun s' h' => (∃ i : Nat, s'.1 = (i : Int) ∧ i ≤ n ∧ Ext h2 h') ∧ n - s'.1.toNat < n - (i : Int).toNat) (fun v h' => v = .bool true ∧ Ext h h') := by
      rw [model_validRows_b4_eq]
      exact ⟨⟨by omega, by omega⟩, ⟨i + 1, by push_cast; rfl, by omega, x3⟩, by simp only; omega⟩
    rw [model_validRows_b2_eq]
    refine condP (fun _ => b4) (fun hi0 => condP (fun _ => b4) (fun hk0 => ?_))
    rw [model_validRows_b5_eq]
    refine ⟨_, _, _, Blk.cellA s3.blk 1, ⟨by omega, by omega⟩, ?_⟩
    rw [show (i : Int) - 1 = ((i - 1 : Nat) : Int) by omega]
    refine rd (by omega) fun a' L' C' r' hLC' => ?_
    obtain ⟨w3, _⟩ := wd (i - 1) (by omega)
    have hL' := r'.len
    refine ⟨⟨by omega, by omega, by omega⟩, ⟨by omega, by omega, by omega⟩, ?_⟩
    rw [show Int.toNat (0 : Int) = 0 from rfl, subAddr_z, subAddr_z, Int.toNat_natCast, Nat.sub_zero]
    refine ⟨_, cmpL_ok (r'.take (i := ky) (by omega)) (r.take (i := ky) (by omega)) (by omega), ?_⟩
    have ho := hv.ord (i - 1) (by omega) (by omega)
    rw [show i - 1 + 1 = i by omega] at ho
    refine condP (fun h0 => by omega) (fun _ => condP (fun he => ?_) (fun _ => b4))
    exact ⟨_, s3.blk.cell 0, condN (fun hne => by omega) (fun _ => b4)⟩
  · rw [model_validRows_b3_eq]
    exact ⟨rfl, s3.ext⟩
theorem mwidth2_ok (h : Hp) : HCalls Tryz.prog 159 #[.int .i64 2] h (fun v h' => v = .tuple #[.int .i64 ((1 : Nat) : Int), .int .i64 ((1 : Nat) : Int)] ∧ h' = h) := by
  refine model_width_call ?_
  rw [model_width_b0_eq]
  exact condNo rfl (condNo rfl (condYes rfl ⟨rfl, rfl⟩))
theorem mvalidH_ok {h0 h : Hp} {p : Option Addr} {n c : Nat} {l : List Int} {B G : Bag} (so : l.Pairwise (· ≤ ·)) (hk : ∀ z ∈ l, KeyP z) (hn : l.length ≤ 500) (na : RowsA (p, n, c) (l.map row1) B) (s : St h0 h (B + G)) :
    HCalls Tryz.prog 91 #[.agg #[.int .i64 2, .slice p n c]] h (fun v h' => v = .bool true ∧ Ext h h') := by
  have hv : RowsV 2 1 1 (l.map row1) := by
    refine ⟨by rw [List.length_map]; exact hn, fun r hr => ?_, fun i hi _ => ?_⟩
    · obtain ⟨z, hz, rfl⟩ := List.mem_map.1 hr
      exact ⟨rfl, fun y hy => by rw [List.mem_singleton.1 hy]; exact hk z hz⟩
    · rw [List.length_map] at hi
      rw [row1_get (by omega), row1_get hi]
      have h1 : l.getD i 0 ≤ l.getD (i + 1) 0 := by
        rw [getD_get (by omega), getD_get hi]
        exact List.pairwise_iff_getElem.1 so i (i + 1) (by omega) hi (by omega)
      show (if l.getD i 0 < l.getD (i + 1) 0 then (-1 : Int) else if l.getD (i + 1) 0 < l.getD i 0 then 1 else cmpL [] []) < 0 ∨ ((if l.getD i 0 < l.getD (i + 1) 0 then (-1 : Int) else if l.getD (i + 1) 0 < l.getD i 0 then 1 else cmpL [] []) = 0 ∧ _)
      by_cases h2 : l.getD i 0 < l.getD (i + 1) 0
      · rw [if_pos h2]; exact .inl (by decide)
      · rw [if_neg h2, if_neg (by omega)]; exact .inr ⟨rfl, rfl⟩
  refine model_Valid_call ?_
  rw [model_Valid_b0_eq]
  refine (St.start h).new (cs := [.int .i64 2, .slice p n c]) fun b1 h1 x1 s1 => ?_
  refine ⟨_, s1.blk.cell 0, condNo rfl (condYes rfl ?_)⟩
  rw [model_Valid_b1_eq]
  refine condYes rfl ⟨_, _, _, _, s1.blk.cell 0, Blk.cellA s1.blk 1, ?_⟩
  exact (validRows_ok mwidth2_ok ⟨by decide, by decide⟩ hv na (s.grow s1.ext)).mono fun v h' ⟨hv, x⟩ => ⟨_, hv, rfl, s1.ext.trans x⟩
/-- What Apply leaves: a new state and a result. -/
def MApplyP (h0 : Hp) (G : Bag) (k : Int) (rows : List (List Int)) (e z : Int) (v : Value) (h' : Hp) : Prop :=
  ∃ q m d B', v = .tuple #[.agg #[.int .i64 k, .slice q m d], .agg #[.int .i64 e, .int .i64 z, .slice none 0 0], .int .i64 0] ∧ RowsA (q, m, d) rows B' ∧ St h0 h' (B' + G)
theorem applyH_ok {h0 h : Hp} {l : List Int} {p q : Option Addr} {n c m cc : Nat} {code : Int} {zs : List Int} {B G : Bag} (so : l.Pairwise (· ≤ ·)) (hk : ∀ z ∈ l, KeyP z) (hn : n ≤ 500) (na : RowsA (p, n, c) (l.map row1) B) (rz : RdT TI h q m zs) (hmc : m ≤ cc) (s : St h0 h (B + G)) (hv : OpV 2 code zs) :
    HCalls Tryz.prog 53 #[.agg #[.int .i64 2, .slice p n c], .agg #[.int .i64 code, .slice q m cc]] h (MApplyP h0 (B + G) 2 ((heapS l code zs).1.map row1) (heapS l code zs).2.1 (heapS l code zs).2.2) := by
  have hl : (l.map row1).length = n := rows_len na
  rw [List.length_map] at hl
  have hc : (1 ≤ code ∧ code ≤ 4) := by have := hv.1; exact ⟨this.1, this.2⟩
  have h1 : code = 1 → zs.length = 1 := fun h => by
    subst h
    have := hv.2
    rw [if_neg (by decide)] at this
    have := this.1
    have e : (arT 2).getD ((1 : Int) - 1).toNat 0 = 1 := rfl
    omega
  refine model_Apply_call ?_
  rw [model_Apply_b0_eq]
  refine (St.start h).new (cs := [.int .i64 2, .slice p n c]) fun b1 h1' x1 s1 => ?_
  refine s1.new (cs := [.int .i64 code, .slice q m cc]) fun b2 h2 x2 s2 => ?_
  refine s2.new (cs := [.int .i64 0, .slice none 0 0]) fun b3 h3 x3 s3 => ?_
  refine s3.new (cs := [.int .i64 0, .int .i64 0, .slice none 0 0]) fun b4 h4 x4 s => ?_
  have s4 := (St.join ‹St h0 h (B + G)› s).to (B := cA b1 [.int .i64 2, .slice p n c] 66 + (cA b2 [.int .i64 code, .slice q m cc] 25 + (cA b3 [.int .i64 0, .slice none 0 0] 66 + (cA b4 [.int .i64 0, .int .i64 0, .slice none 0 0] 61 + (B + G)))))
  have x5 := s.ext
  clear s s1 s2 s3
  refine ⟨_, _, _, _, s4.blk.cell 0, Blk.cellA s4.blk 1, ?_⟩
  refine (mvalidH_ok so hk (by omega) na (s4.at B)).mono fun v5 h5 ⟨hv5, x6⟩ => ⟨_, hv5, condNo rfl ?_⟩
  have s5 := s4.grow x6
  refine ⟨_, s5.blk.cell 0, _, _, _, _, s5.atomBlk.cell 0, Blk.cellA s5.atomBlk 1, ?_⟩
  refine (mValid' (rz.ext (x5.trans x6))).mono fun v6 h6 ⟨hv6, x7⟩ => ⟨_, hv6, condNo (by rw [decide_eq_true hv]; rfl) ?_⟩
  have s6 := s5.grow x7
  have rz6 := (rz.ext (x5.trans x6)).ext x7
  clear s5 s4
  rw [model_Apply_b1_eq]
  have c1 : cell h6 ⟨b1, 0, none⟩ = some (.int .i64 2) := s6.blk.cell 0
  have c1' : cell h6 ((⟨b1, 0, none⟩ : Addr).add 1) = some (.slice p n c) := Blk.cellA s6.blk 1
  have c2 : cell h6 ⟨b2, 0, none⟩ = some (.int .i64 code) := s6.atomBlk.cell 0
  have c2' : cell h6 ((⟨b2, 0, none⟩ : Addr).add 1) = some (.slice q m cc) := Blk.cellA s6.atomBlk 1
  have cp : ∀ {h' : Hp}, Ext h6 h' → HCalls Tryz.prog 93 #[.slice p n c] h' (fun v h'' => ∃ q d B', v = .slice q n d ∧ RowsA (q, n, d) (l.map row1) B' ∧ St h' h'' B') := fun x => copied_ok na ((s6.grow x).at B) (by omega) (fun r hr => by obtain ⟨z, _, rfl⟩ := List.mem_map.1 hr; show 1 < 1000000; decide)
  have ap : ∀ {h' : Hp} {q1 : Option Addr} {d1 : Nat} {B1 G1 : Bag}, RowsA (q1, n, d1) (l.map row1) B1 → St h6 h' (B1 + G1) → HCalls Tryz.prog 92 #[.int .i64 2, .slice q1 n d1, .agg #[.int .i64 code, .slice q m cc]] h' (MHeapP h6 G1 l code zs) := fun na1 s => mapplyH_ok so na1 (fun h' A s' => rz6.ext s'.ext) hmc s (by omega) hc h1
  have fin : ∀ {h' : Hp} {bx : Nat} {q2 : Option Addr} {m2 d2 : Nat} {B2 : Bag}, RowsA (q2, m2, d2) ((heapS l code zs).1.map row1) B2 → St h6 h' (cA bx [.int .i64 0, .int .i64 0, .slice none 0 0] 61 + B2) →
      Wr h' ⟨bx, 0, none⟩ (.int .i64 (heapS l code zs).2.1) fun h20 => Wr h20 ((⟨bx, 0, none⟩ : Addr).add 1) (.int .i64 (heapS l code zs).2.2) fun h21 => Wr h21 ((⟨bx, 0, none⟩ : Addr).add 2) (.slice none 0 0) fun h22 => model_Apply_b2 (some ⟨b1, 0, none⟩) (some ⟨b3, 0, none⟩) (some ⟨b4, 0, none⟩) q2 m2 d2 (some ⟨bx, 0, none⟩) h22 (MApplyP h0 (B + G) 2 ((heapS l code zs).1.map row1) (heapS l code zs).2.1 (heapS l code zs).2.2) := by
    intro h' bx q2 m2 d2 B2 na2 s'
    refine s'.wr rfl (by simp) fun h20 s' => ?_
    refine s'.wr (o := 1) (add_mk _ _ _) (by simp) fun h21 s' => ?_
    refine s'.wr (o := 2) (add_mk _ _ _) (by simp) fun h22 s' => ?_
    have s' : St h6 h22 (cA bx [.int .i64 (heapS l code zs).2.1, .int .i64 (heapS l code zs).2.2, .slice none 0 0] 61 + B2) := s'
    rw [model_Apply_b2_eq]
    have cx := s'.blk
    have s := (s6.join s').to (B := cA b3 [.int .i64 0, .slice none 0 0] 66 + (cA b4 [.int .i64 0, .int .i64 0, .slice none 0 0] 61 + (cA bx [.int .i64 (heapS l code zs).2.1, .int .i64 (heapS l code zs).2.2, .slice none 0 0] 61 + (cA b1 [.int .i64 2, .slice p n c] 66 + (cA b2 [.int .i64 code, .slice q m cc] 25 + (B2 + (B + G)))))))
    refine ⟨_, s'.ext.cell c1, _, _, _, _, _, cx.cell 0, Blk.cellA cx 1, Blk.cellA cx 2, ?_⟩
    refine s.wr rfl (by simp) fun h23 s => ?_
    refine s.wr (o := 1) (add_mk _ _ _) (by simp) fun h24 s => ?_
    have s : St h0 h24 (cA b3 [.int .i64 2, .slice q2 m2 d2] 66 + (cA b4 [.int .i64 0, .int .i64 0, .slice none 0 0] 61 + (cA bx [.int .i64 (heapS l code zs).2.1, .int .i64 (heapS l code zs).2.2, .slice none 0 0] 61 + (cA b1 [.int .i64 2, .slice p n c] 66 + (cA b2 [.int .i64 code, .slice q m cc] 25 + (B2 + (B + G))))))) := s
    have cx := (s.to (B := cA bx [.int .i64 (heapS l code zs).2.1, .int .i64 (heapS l code zs).2.2, .slice none 0 0] 61 + (cA b4 [.int .i64 0, .int .i64 0, .slice none 0 0] 61 + (cA b3 [.int .i64 2, .slice q2 m2 d2] 66 + (cA b1 [.int .i64 2, .slice p n c] 66 + (cA b2 [.int .i64 code, .slice q m cc] 25 + (B2 + (B + G)))))))).blk
    refine ⟨⟨_, _, _, _, _, cx.cell 0, Blk.cellA cx 1, Blk.cellA cx 2, rfl⟩, ?_⟩
    have s := s.to (B := cA b4 [.int .i64 0, .int .i64 0, .slice none 0 0] 61 + (cA b3 [.int .i64 2, .slice q2 m2 d2] 66 + (cA bx [.int .i64 (heapS l code zs).2.1, .int .i64 (heapS l code zs).2.2, .slice none 0 0] 61 + (cA b1 [.int .i64 2, .slice p n c] 66 + (cA b2 [.int .i64 code, .slice q m cc] 25 + (B2 + (B + G)))))))
    refine s.wr rfl (by simp) fun h25 s => ?_
    refine s.wr (o := 1) (add_mk _ _ _) (by simp) fun h26 s => ?_
    refine s.wr (o := 2) (add_mk _ _ _) (by simp) fun h27 s => ?_
    have s : St h0 h27 (cA b4 [.int .i64 (heapS l code zs).2.1, .int .i64 (heapS l code zs).2.2, .slice none 0 0] 61 + (cA b3 [.int .i64 2, .slice q2 m2 d2] 66 + (cA bx [.int .i64 (heapS l code zs).2.1, .int .i64 (heapS l code zs).2.2, .slice none 0 0] 61 + (cA b1 [.int .i64 2, .slice p n c] 66 + (cA b2 [.int .i64 code, .slice q m cc] 25 + (B2 + (B + G))))))) := s
    refine ⟨_, _, _, _, s.atomBlk.cell 0, Blk.cellA s.atomBlk 1, _, _, _, _, _, s.blk.cell 0, Blk.cellA s.blk 1, Blk.cellA s.blk 2, q2, m2, d2, B2, rfl, na2, s.drop.drop.drop.drop.drop⟩
  refine ⟨_, c1, _, _, _, c1', _, _, _, _, c2, c2', ?_⟩
  have s := St.start h6
  repeat' first
    | (with_reducible refine fin na2 ?_); exact s.to
    | (with_reducible refine St.new s (cs := [.int .i64 0, .int .i64 0, .slice none 0 0]) ?_); intro _ _ _ s
    | (with_reducible refine HCalls.mono (cp s.ext) ?_); rintro _ _ ⟨q1, d1, B1, hv1, na1, tt⟩; refine ⟨_, _, _, hv1, ?_⟩; have s := s.join tt; clear tt
    | (with_reducible refine HCalls.mono (ap na1 (s.at _)) ?_); rintro _ _ ⟨q2, m2, d2, B2, hv2, na2, s⟩; refine ⟨_, _, _, _, _, _, _, _, hv2, ?_⟩
    | with_reducible refine ⟨⟨_, _, _, _, s.ext.cell c2, s.ext.cell c2', rfl⟩, ?_⟩
    | with_reducible refine ⟨⟨_, s.ext.cell c1, rfl⟩, ?_⟩
    | with_reducible refine ⟨⟨_, _, _, s.ext.cell c1', rfl⟩, ?_⟩
    | with_reducible refine And.intro ?_ ?_
end Go.Proofs.YtdlkohenamlnaaaGreat

/- Plain lists: sorting by swaps. -/
namespace Go.Sx
variable {α : Type} {d : α}
def swapL (d : α) (xs : List α) (i j : Nat) : List α := (xs.set i (xs.getD j d)).set j (xs.getD i d)
theorem swapL_len (xs : List α) (i j : Nat) : (swapL d xs i j).length = xs.length := by unfold swapL; rw [List.length_set, List.length_set]
theorem getD_setS {xs : List α} {i k : Nat} {x : α} (hi : i < xs.length) : (xs.set i x).getD k d = if k = i then x else xs.getD k d := by
  rw [List.getD_eq_getElem?_getD, List.getElem?_set, List.getD_eq_getElem?_getD]
  by_cases h : k = i
  · subst h; rw [if_pos rfl, if_pos rfl, if_pos hi]; rfl
  · rw [if_neg (fun e => h e.symm), if_neg h]
theorem swapL_get {xs : List α} {i j : Nat} (hi : i < xs.length) (hj : j < xs.length) (k : Nat) : (swapL d xs i j).getD k d = if k = j then xs.getD i d else if k = i then xs.getD j d else xs.getD k d := by
  unfold swapL
  rw [getD_setS (by rw [List.length_set]; exact hj), getD_setS hi]
theorem swapL_perm {xs : List α} {i j : Nat} (hi : i < xs.length) (hj : j < xs.length) : (swapL d xs i j).Perm xs := by
  unfold swapL
  have h1 : xs.getD i d = xs[i] := by rw [List.getD_eq_getElem?_getD, List.getElem?_eq_getElem hi]; rfl
  have h2 : xs.getD j d = xs[j] := by rw [List.getD_eq_getElem?_getD, List.getElem?_eq_getElem hj]; rfl
  rw [h1, h2]
  exact List.set_set_perm hi hj
/-- By swaps inside a range. -/
inductive Swp (d : α) (a b : Nat) : List α → List α → Prop
  | refl (xs) : Swp d a b xs xs
  | step {xs ys} {i j : Nat} : Swp d a b xs ys → a ≤ i → i < b → a ≤ j → j < b → b ≤ ys.length → Swp d a b xs (swapL d ys i j)
theorem Swp.one {a b : Nat} {xs : List α} {i j : Nat} (h1 : a ≤ i) (h2 : i < b) (h3 : a ≤ j) (h4 : j < b) (h5 : b ≤ xs.length) : Swp d a b xs (swapL d xs i j) := .step (.refl xs) h1 h2 h3 h4 h5
theorem Swp.trans {a b : Nat} {xs ys zs : List α} (h1 : Swp d a b xs ys) (h2 : Swp d a b ys zs) : Swp d a b xs zs := by
  induction h2 with
  | refl => exact h1
  | step _ i1 i2 j1 j2 hl ih => exact .step ih i1 i2 j1 j2 hl
theorem Swp.mono {a b a' b' : Nat} {xs ys : List α} (ha : a' ≤ a) (hb : b ≤ b') (hl : b' ≤ xs.length) (h : Swp d a b xs ys) : Swp d a' b' xs ys ∧ ys.length = xs.length := by
  induction h with
  | refl => exact ⟨.refl _, rfl⟩
  | step _ i1 i2 j1 j2 _ ih => exact ⟨.step ih.1 (by omega) (by omega) (by omega) (by omega) (by rw [ih.2]; exact hl), by rw [swapL_len, ih.2]⟩
theorem Swp.len {a b : Nat} {xs ys : List α} (h : Swp d a b xs ys) : ys.length = xs.length := by
  induction h with
  | refl => rfl
  | step _ _ _ _ _ _ ih => rw [swapL_len, ih]
theorem Swp.out {a b : Nat} {xs ys : List α} (h : Swp d a b xs ys) {k : Nat} (hk : k < a ∨ b ≤ k) : ys.getD k d = xs.getD k d := by
  induction h with
  | refl => rfl
  | step _ i1 i2 j1 j2 hl ih => rw [swapL_get (by omega) (by omega), if_neg (by omega), if_neg (by omega), ih]
theorem Swp.all {a b : Nat} {xs ys : List α} (h : Swp d a b xs ys) {P : α → Prop} (hP : ∀ k, a ≤ k → k < b → P (xs.getD k d)) : ∀ k, a ≤ k → k < b → P (ys.getD k d) := by
  induction h with
  | refl => exact hP
  | step _ i1 i2 j1 j2 hl ih =>
    intro k h1 h2
    rw [swapL_get (by omega) (by omega)]
    split
    · exact ih _ i1 i2
    · split
      · exact ih _ j1 j2
      · exact ih k h1 h2
theorem Swp.perm {a b : Nat} {xs ys : List α} (h : Swp d a b xs ys) : ys.Perm xs := by
  induction h with
  | refl => exact .refl _
  | step _ i1 i2 j1 j2 hl ih => exact (swapL_perm (by omega) (by omega)).trans ih
theorem Swp.allN {a b : Nat} {xs ys : List α} (h : Swp d a b xs ys) {P : α → Prop} {n : Nat} (hn : xs.length = n) (hP : ∀ k, k < n → P (xs.getD k d)) : ∀ k, k < n → P (ys.getD k d) := by
  subst hn
  induction h with
  | refl => exact hP
  | step t i1 i2 j1 j2 hl ih =>
    intro k h2
    have := t.len
    rw [swapL_get (by omega) (by omega)]
    split
    · exact ih _ (by omega)
    · split
      · exact ih _ (by omega)
      · exact ih k h2
/-- What a comparison must be. -/
structure OrdP (lt : α → α → Prop) : Prop where
  asymm : ∀ x y, lt x y → ¬ lt y x
  trans : ∀ x y z, ¬ lt y x → ¬ lt z y → ¬ lt z x
theorem OrdP.irr {lt : α → α → Prop} (o : OrdP lt) (x : α) : ¬ lt x x := fun h => o.asymm x x h h
section
variable {lt : α → α → Prop} (o : OrdP lt)
/-- Sorted in a range. -/
def SrtR (d : α) (lt : α → α → Prop) (a b : Nat) (xs : List α) : Prop := ∀ p q, a ≤ p → p < q → q < b → ¬ lt (xs.getD q d) (xs.getD p d)
theorem SrtR.mono {a b a' b' : Nat} {xs : List α} (h : SrtR d lt a b xs) (ha : a ≤ a') (hb : b' ≤ b) : SrtR d lt a' b' xs := fun p q h1 h2 h3 => h p q (by omega) h2 (by omega)
theorem srtR_pairwise {n : Nat} {xs : List α} (hl : xs.length = n) (h : SrtR d lt 0 n xs) : xs.Pairwise (fun x y => ¬ lt y x) := by
  rw [List.pairwise_iff_getElem]
  intro i j hi hj hij
  have := h i j (by omega) hij (by omega)
  rwa [List.getD_eq_getElem?_getD, List.getD_eq_getElem?_getD, List.getElem?_eq_getElem hi, List.getElem?_eq_getElem hj] at this
def InsR (d : α) (lt : α → α → Prop) (a j i : Nat) (xs : List α) : Prop := ∀ p q, a ≤ p → p < q → q ≤ i → q ≠ j → ¬ lt (xs.getD q d) (xs.getD p d)
theorem ins_start {a i : Nat} {xs : List α} (h : SrtR d lt a i xs) : InsR d lt a i i xs := fun p q h1 h2 h3 h4 => h p q h1 h2 (by omega)
include o in
theorem ins_swap {a j i : Nat} {xs : List α} (haj : a < j) (hji : j ≤ i) (hi : i < xs.length) (h : InsR d lt a j i xs) (hl : lt (xs.getD j d) (xs.getD (j - 1) d)) : InsR d lt a (j - 1) i (swapL d xs j (j - 1)) := by
  intro p q h1 h2 h3 h4
  rw [swapL_get (by omega) (by omega), swapL_get (by omega) (by omega), if_neg h4]
  by_cases hq : q = j
  · rw [if_pos hq]
    by_cases hp : p = j - 1
    · rw [if_pos hp]; exact o.asymm _ _ hl
    · rw [if_neg hp, if_neg (by omega)]; exact h p (j - 1) h1 (by omega) (by omega) (by omega)
  · rw [if_neg hq]
    by_cases hp : p = j - 1
    · rw [if_pos hp]; exact h j q (by omega) (by omega) h3 hq
    · rw [if_neg hp]
      by_cases hp2 : p = j
      · rw [if_pos hp2]; exact h (j - 1) q (by omega) (by omega) h3 hq
      · rw [if_neg hp2]; exact h p q h1 h2 h3 hq
include o in
theorem ins_end {a j i : Nat} {xs : List α} (haj : a ≤ j) (h : InsR d lt a j i xs) (hl : a < j → ¬ lt (xs.getD j d) (xs.getD (j - 1) d)) : SrtR d lt a (i + 1) xs := by
  intro p q h1 h2 h3
  by_cases hq : q = j
  · subst hq
    have hl := hl (by omega)
    by_cases hp : p = q - 1
    · rw [hp]; exact hl
    · exact o.trans _ _ _ (h p (q - 1) h1 (by omega) (by omega) (by omega)) hl
  · exact h p q h1 h2 (by omega) hq
theorem srtR_one {a b : Nat} {xs : List α} (h : b ≤ a + 1) : SrtR d lt a b xs := fun _ _ h1 h2 h3 => by omega
/-! ### heaps -/
def HeapX (d : α) (lt : α → α → Prop) (f lo hi r : Nat) (xs : List α) : Prop :=
  (∀ k c, lo ≤ k → (c = 2 * k + 1 ∨ c = 2 * k + 2) → c < hi → k ≠ r → ¬ lt (xs.getD (f + k) d) (xs.getD (f + c) d)) ∧
  ∀ k c, lo ≤ k → (r = 2 * k + 1 ∨ r = 2 * k + 2) → (c = 2 * r + 1 ∨ c = 2 * r + 2) → c < hi → ¬ lt (xs.getD (f + k) d) (xs.getD (f + c) d)
def HeapR (d : α) (lt : α → α → Prop) (f lo hi : Nat) (xs : List α) : Prop := ∀ k c, lo ≤ k → (c = 2 * k + 1 ∨ c = 2 * k + 2) → c < hi → ¬ lt (xs.getD (f + k) d) (xs.getD (f + c) d)
theorem heap_stop {f lo hi r : Nat} {xs : List α} (h : HeapX d lt f lo hi r xs) (hr : ∀ c, (c = 2 * r + 1 ∨ c = 2 * r + 2) → c < hi → ¬ lt (xs.getD (f + r) d) (xs.getD (f + c) d)) : HeapR d lt f lo hi xs := by
  intro k c h1 h2 h3
  by_cases hk : k = r
  · subst hk; exact hr c h2 h3
  · exact h.1 k c h1 h2 h3 hk
include o in
theorem heap_swap {f lo hi r ch : Nat} {xs : List α} (h : HeapX d lt f lo hi r xs) (hc : ch = 2 * r + 1 ∨ ch = 2 * r + 2) (hch : ch < hi) (hlen : f + hi ≤ xs.length) (hl : lt (xs.getD (f + r) d) (xs.getD (f + ch) d))
    (hmax : ∀ c, (c = 2 * r + 1 ∨ c = 2 * r + 2) → c < hi → ¬ lt (xs.getD (f + ch) d) (xs.getD (f + c) d)) (hlr : lo ≤ r) : HeapX d lt f lo hi ch (swapL d xs (f + r) (f + ch)) := by
  have g : ∀ k, (swapL d xs (f + r) (f + ch)).getD (f + k) d = if k = ch then xs.getD (f + r) d else if k = r then xs.getD (f + ch) d else xs.getD (f + k) d := by
    intro k
    rw [swapL_get (by omega) (by omega)]
    by_cases h1 : k = ch
    · rw [if_pos (by omega), if_pos h1]
    · rw [if_neg (by omega), if_neg h1]
      by_cases h2 : k = r
      · rw [if_pos (by omega), if_pos h2]
      · rw [if_neg (by omega), if_neg h2]
  refine ⟨fun k c h1 h2 h3 h4 => ?_, fun k c h1 h2 h3 h4 => ?_⟩
  · rw [g, g, if_neg h4]
    by_cases hk : k = r
    · subst hk
      rw [if_pos rfl]
      by_cases hcc : c = ch
      · rw [if_pos hcc]; exact o.asymm _ _ hl
      · rw [if_neg hcc, if_neg (by omega)]; exact hmax c h2 h3
    · rw [if_neg hk]
      by_cases hcc : c = ch
      · omega
      · rw [if_neg hcc]
        by_cases hcr : c = r
        · subst hcr
          rw [if_pos rfl]
          exact h.2 k ch h1 h2 hc hch
        · rw [if_neg hcr]; exact h.1 k c h1 h2 h3 hk
  · have hkr : k = r := by omega
    subst hkr
    rw [g, g, if_neg (by omega), if_pos rfl, if_neg (by omega), if_neg (by omega)]
    exact h.1 ch c (by omega) h3 h4 (by omega)
include o in
theorem heap_max {f hi : Nat} {xs : List α} (h : HeapR d lt f 0 hi xs) : ∀ k, k < hi → ¬ lt (xs.getD f d) (xs.getD (f + k) d) := by
  intro k
  induction k using Nat.strongRecOn with
  | _ k ih =>
    intro hk
    by_cases h0 : k = 0
    · subst h0; exact o.irr _
    · have h1 := ih ((k - 1) / 2) (by omega) (by omega)
      have h2 := h ((k - 1) / 2) k (by omega) (by omega) hk
      exact o.trans _ _ _ h2 h1
/-! ### the main loop: pairs that are not both inside are in order -/
def OutR (d : α) (lt : α → α → Prop) (a0 b0 a b : Nat) (xs : List α) : Prop := ∀ p q, a0 ≤ p → p < q → q < b0 → ¬ (a ≤ p ∧ q < b) → ¬ lt (xs.getD q d) (xs.getD p d)
theorem outR_start {a b : Nat} {xs : List α} : OutR d lt a b a b xs := fun _ _ h1 _ h3 h4 => absurd ⟨h1, h3⟩ h4
theorem outR_swp {a0 b0 a b : Nat} {xs ys : List α} (h1 : a0 ≤ a) (h2 : b ≤ b0) (h : OutR d lt a0 b0 a b xs) (s : Swp d a b xs ys) : OutR d lt a0 b0 a b ys := by
  intro p q g1 g2 g3 g4
  by_cases hp : a ≤ p ∧ p < b
  · have hq : b ≤ q := by omega
    rw [s.out (k := q) (.inr hq)]
    exact s.all (P := fun x => ¬ lt (xs.getD q d) x) (fun k k1 k2 => h k q (by omega) (by omega) g3 (by omega)) p hp.1 hp.2
  · rw [s.out (k := p) (by omega)]
    by_cases hq : a ≤ q ∧ q < b
    · exact s.all (P := fun x => ¬ lt x (xs.getD p d)) (fun k k1 k2 => h p k g1 (by omega) (by omega) (by omega)) q hq.1 hq.2
    · rw [s.out (k := q) (by omega)]
      exact h p q g1 g2 g3 g4
theorem outR_done {a0 b0 a b : Nat} {xs : List α} (h : OutR d lt a0 b0 a b xs) (hs : SrtR d lt a b xs) : SrtR d lt a0 b0 xs := by
  intro p q h1 h2 h3
  by_cases hi : a ≤ p ∧ q < b
  · exact hs p q hi.1 h2 hi.2
  · exact h p q h1 h2 h3 hi
/-- What a partition leaves. -/
def PartR (d : α) (lt : α → α → Prop) (a b m : Nat) (xs : List α) : Prop := (∀ k, a ≤ k → k < m → lt (xs.getD k d) (xs.getD m d)) ∧ ∀ k, m < k → k < b → ¬ lt (xs.getD k d) (xs.getD m d)
def LoR (d : α) (lt : α → α → Prop) (a i : Nat) (xs : List α) : Prop := ∀ k, a < k → k < i → lt (xs.getD k d) (xs.getD a d)
def HiR (d : α) (lt : α → α → Prop) (a J b : Nat) (xs : List α) : Prop := ∀ k, J ≤ k → k < b → ¬ lt (xs.getD k d) (xs.getD a d)
theorem lo_next {a i : Nat} {xs : List α} (h : LoR d lt a i xs) (hl : lt (xs.getD i d) (xs.getD a d)) : LoR d lt a (i + 1) xs := fun k h1 h2 => by
  by_cases hk : k = i
  · subst hk; exact hl
  · exact h k h1 (by omega)
theorem hi_next {a J b : Nat} {xs : List α} (h : HiR d lt a J b xs) (hl : ¬ lt (xs.getD (J - 1) d) (xs.getD a d)) : HiR d lt a (J - 1) b xs := fun k h1 h2 => by
  by_cases hk : k = J - 1
  · subst hk; exact hl
  · exact h k (by omega) h2
theorem part_swap {a i J b : Nat} {xs : List α} (ha : a < i) (hiJ : i < J) (hJ : J ≤ b) (hb : b ≤ xs.length) (lo : LoR d lt a i xs) (hi : HiR d lt a J b xs) (h1 : ¬ lt (xs.getD i d) (xs.getD a d)) (h2 : lt (xs.getD (J - 1) d) (xs.getD a d)) :
    LoR d lt a (i + 1) (swapL d xs i (J - 1)) ∧ HiR d lt a (J - 1) b (swapL d xs i (J - 1)) := by
  have hne : i ≠ J - 1 := fun e => h1 (e ▸ h2)
  refine ⟨fun k k1 k2 => ?_, fun k k1 k2 => ?_⟩
  · rw [swapL_get (by omega) (by omega), swapL_get (by omega) (by omega) a, if_neg (by omega), if_neg (by omega : ¬ a = J - 1), if_neg (by omega : ¬ a = i)]
    by_cases hk : k = i
    · rw [if_pos hk]; exact h2
    · rw [if_neg hk]; exact lo k k1 (by omega)
  · rw [swapL_get (by omega) (by omega), swapL_get (by omega) (by omega) a, if_neg (by omega : ¬ a = J - 1), if_neg (by omega : ¬ a = i)]
    by_cases hk : k = J - 1
    · rw [if_pos hk]; exact h1
    · rw [if_neg hk, if_neg (by omega)]; exact hi k (by omega) k2
theorem part_end {a i J b : Nat} {xs : List α} (ha : a < J) (hib : i ≤ b) (hJi : J ≤ i) (hb : b ≤ xs.length) (lo : LoR d lt a i xs) (hi : HiR d lt a J b xs) : PartR d lt a b (J - 1) (swapL d xs (J - 1) a) := by
  have he : J = i := by
    rcases Nat.lt_or_ge J i with h | h
    · exact absurd (lo J ha h) (hi J (Nat.le_refl _) (by omega))
    · omega
  subst he
  refine ⟨fun k k1 k2 => ?_, fun k k1 k2 => ?_⟩
  · rw [swapL_get (by omega) (by omega), swapL_get (by omega) (by omega) (J - 1), if_neg (by omega : ¬ J - 1 = a), if_pos rfl]
    by_cases hk : k = a
    · rw [if_pos hk]; exact lo _ (by omega) (by omega)
    · rw [if_neg hk, if_neg (by omega)]; exact lo k (by omega) (by omega)
  · rw [swapL_get (by omega) (by omega), swapL_get (by omega) (by omega) (J - 1), if_neg (by omega), if_neg (by omega)]
    by_cases hk : J - 1 = a
    · rw [if_pos hk, hk]; exact hi k (by omega) k2
    · rw [if_neg hk, if_pos rfl]; exact hi k (by omega) k2
/-- Partition of what is equal. -/
def EqR (d : α) (lt : α → α → Prop) (x : α) (a i : Nat) (xs : List α) : Prop := xs.getD a d = x ∧ ∀ k, a ≤ k → k < i → ¬ lt x (xs.getD k d)
theorem eq_next {a i : Nat} {xs : List α} {x : α} (h : EqR d lt x a i xs) (hl : ¬ lt (xs.getD a d) (xs.getD i d)) : EqR d lt x a (i + 1) xs := ⟨h.1, fun k h1 h2 => by
  by_cases hk : k = i
  · subst hk; rw [← h.1]; exact hl
  · exact h.2 k h1 (by omega)⟩
theorem eq_swap {a i j : Nat} {xs : List α} {x : α} (ha : a < i) (hij : i ≤ j) (hj : j < xs.length) (h : EqR d lt x a i xs) (hl : ¬ lt (xs.getD a d) (xs.getD j d)) : EqR d lt x a (i + 1) (swapL d xs i j) := by
  refine ⟨?_, fun k k1 k2 => ?_⟩
  · rw [swapL_get (by omega) (by omega), if_neg (by omega), if_neg (by omega)]; exact h.1
  · rw [swapL_get (by omega) (by omega)]
    by_cases hk : k = j
    · rw [if_pos hk, show i = j by omega, ← h.1]; exact hl
    · rw [if_neg hk]
      by_cases hk : k = i
      · rw [if_pos hk, ← h.1]; exact hl
      · rw [if_neg hk]; exact h.2 k k1 (by omega)
include o in
theorem outR_left {a0 b0 a b m : Nat} {xs : List α} (_ : a0 ≤ a) (_ : b ≤ b0) (_ : a ≤ m) (_ : m < b) (h : OutR d lt a0 b0 a b xs) (hp : PartR d lt a b m xs) (hs : SrtR d lt a m xs) : OutR d lt a0 b0 (m + 1) b xs := by
  intro p q g1 g2 g3 g4
  by_cases hin : a ≤ p ∧ q < b
  · have hpm : p ≤ m := by omega
    rcases Nat.lt_trichotomy q m with hq | hq | hq
    · exact hs p q hin.1 g2 hq
    · subst hq; exact o.asymm _ _ (hp.1 p hin.1 g2)
    · rcases Nat.lt_or_ge p m with hpm' | hpm'
      · exact o.trans _ _ _ (o.asymm _ _ (hp.1 p hin.1 hpm')) (hp.2 q hq hin.2)
      · obtain rfl : p = m := by omega
        exact hp.2 q hq hin.2
  · exact h p q g1 g2 g3 hin
include o in
theorem outR_right {a0 b0 a b m : Nat} {xs : List α} (_ : a0 ≤ a) (_ : b ≤ b0) (_ : a ≤ m) (_ : m < b) (h : OutR d lt a0 b0 a b xs) (hp : PartR d lt a b m xs) (hs : SrtR d lt (m + 1) b xs) : OutR d lt a0 b0 a m xs := by
  intro p q g1 g2 g3 g4
  by_cases hin : a ≤ p ∧ q < b
  · have hqm : m ≤ q := by omega
    rcases Nat.lt_trichotomy p m with hq | hq | hq
    · rcases Nat.lt_or_ge m q with h5 | h5
      · exact o.trans _ _ _ (o.asymm _ _ (hp.1 p hin.1 hq)) (hp.2 q h5 hin.2)
      · obtain rfl : q = m := by omega
        exact o.asymm _ _ (hp.1 p hin.1 hq)
    · subst hq; exact hp.2 q g2 hin.2
    · exact hs p q (by omega) g2 hin.2
  · exact h p q g1 g2 g3 hin
include o in
/-- What comes of elements that are all like one. -/
theorem outR_equal {a0 b0 a b m : Nat} {xs : List α} {x : α} (_ : a0 ≤ a) (_ : b ≤ b0) (_ : a ≤ m) (_ : m ≤ b) (h : OutR d lt a0 b0 a b xs) (hlo : ∀ k, a ≤ k → k < m → ¬ lt x (xs.getD k d)) (hall : ∀ k, a ≤ k → k < b → ¬ lt (xs.getD k d) x) : OutR d lt a0 b0 m b xs := by
  intro p q g1 g2 g3 g4
  by_cases hin : a ≤ p ∧ q < b
  · exact o.trans _ _ _ (hlo p hin.1 (by omega)) (hall q (by omega) hin.2)
  · exact h p q g1 g2 g3 hin
end
end Go.Sx

/- Sorting: the elements' own lemmas (steps of a queue). -/
set_option maxRecDepth 100000
namespace Go.Proofs.YtdlkohenamlnaaaGreat
open Go Go.Sx
abbrev encS (x : S5) : Value := .agg #[.int .i64 x.1, .int .i64 x.2.1, .int .i64 x.2.2.1, .int .i64 x.2.2.2.1, .slice x.2.2.2.2.1 x.2.2.2.2.2.1 x.2.2.2.2.2.2]
/-- A cell of an element is written; the slice's block is known. -/
theorem wrS {T : Ty S5} {h0 h : Hp} {ad : Addr} {n c i j : Nat} {xs : List S5} {A F : Bag} {v : Value} {x : S5} {k : Hp → Prop} (a : Sl T (some ad) n c xs A) (s : St h0 h (A + F)) (hi : i < n) (hj : j < T.sz) (hx : T.enc x = (T.enc (xs.getD i T.d)).set j v)
    (hk : ∀ h' A', Sl T (some ad) n c (xs.set i x) A' → St h0 h' (A' + F) → k h') : Wr h ((ad.add (i * T.sz)).add j) v k := by
  obtain ⟨ad', e, w⟩ := a.wr s hi hj hx hk
  cases e
  exact w
theorem getD_set_self {xs : List S5} {i : Nat} {x d : S5} (hi : i < xs.length) : (xs.set i x).getD i d = x := by rw [getD_setS hi, if_pos rfl]
/-- All cells of an element are written. -/
theorem wrS5 {h0 h : Hp} {ad : Addr} {n c i : Nat} {xs : List S5} {A F : Bag} {x : S5} {k : Hp → Prop} (a : Sl tS5 (some ad) n c xs A) (s : St h0 h (A + F)) (hi : i < n)
    (hk : ∀ h' A', Sl tS5 (some ad) n c (xs.set i x) A' → St h0 h' (A' + F) → k h') :
    Wr h (ad.add (i * 5)) (.int .i64 x.1) fun h4 => Wr h4 ((ad.add (i * 5)).add 1) (.int .i64 x.2.1) fun h5 => Wr h5 ((ad.add (i * 5)).add 2) (.int .i64 x.2.2.1) fun h6 => Wr h6 ((ad.add (i * 5)).add 3) (.int .i64 x.2.2.2.1) fun h7 => Wr h7 ((ad.add (i * 5)).add 4) (.slice x.2.2.2.2.1 x.2.2.2.2.2.1 x.2.2.2.2.2.2) k := by
  have hl := a.len
  obtain ⟨y, hy⟩ : ∃ y, xs.getD i tS5.d = y := ⟨_, rfl⟩
  refine wrS (j := 0) (x := (x.1, y.2)) a s hi (by decide) (by rw [hy]; rfl) fun h1 A1 a1 s1 => ?_
  refine wrS (j := 1) (x := (x.1, x.2.1, y.2.2)) a1 s1 hi (by decide) (by rw [getD_set_self (by omega)]; rfl) fun h2 A2 a2 s2 => ?_
  rw [List.set_set] at a2
  refine wrS (j := 2) (x := (x.1, x.2.1, x.2.2.1, y.2.2.2)) a2 s2 hi (by decide) (by rw [getD_set_self (by omega)]; rfl) fun h3 A3 a3 s3 => ?_
  rw [List.set_set] at a3
  refine wrS (j := 3) (x := (x.1, x.2.1, x.2.2.1, x.2.2.2.1, y.2.2.2.2)) a3 s3 hi (by decide) (by rw [getD_set_self (by omega)]; rfl) fun h4 A4 a4 s4 => ?_
  rw [List.set_set] at a4
  refine wrS (j := 4) (x := x) a4 s4 hi (by decide) (by rw [getD_set_self (by omega)]; rfl) fun h5 A5 a5 s5 => ?_
  rw [List.set_set] at a5
  exact hk h5 A5 a5 s5
/-- An element is loaded. -/
theorem ldS5 {h : Hp} {p : Option Addr} {n : Nat} {l : List S5} {i : Int} {i' : Nat} {Q : Int → Int → Int → Int → Option Addr → Nat → Nat → Prop} (r : RdT tS5 h p n l) (ei : i = (i' : Int)) (h1 : i' < n) (hq : Q (l.getD i' tS5.d).1 (l.getD i' tS5.d).2.1 (l.getD i' tS5.d).2.2.1 (l.getD i' tS5.d).2.2.2.1 (l.getD i' tS5.d).2.2.2.2.1 (l.getD i' tS5.d).2.2.2.2.2.1 (l.getD i' tS5.d).2.2.2.2.2.2) :
    (0 ≤ i ∧ i < (n : Int)) ∧ NN p fun a => ∃ x : Int, ∃ y : Int, ∃ z : Int, ∃ u : Int, ∃ (b : Option Addr) (m c : Nat), cell h (a.add (Int.toNat i * 5)) = some (.int .i64 x) ∧ cell h ((a.add (Int.toNat i * 5)).add 1) = some (.int .i64 y) ∧ cell h ((a.add (Int.toNat i * 5)).add 2) = some (.int .i64 z) ∧ cell h ((a.add (Int.toNat i * 5)).add 3) = some (.int .i64 u) ∧ cell h ((a.add (Int.toNat i * 5)).add 4) = some (.slice b m c) ∧ Q x y z u b m c := by
  subst ei
  exact s5_load r (by omega) (by omega) (by rw [Int.toNat_natCast]; exact hq)
/-- Two elements change places. -/
theorem swS5 {h0 h : Hp} {p : Option Addr} {n c : Nat} {u v : Int} {u' v' : Nat} {xs : List S5} {A F : Bag} {k : Hp → Prop} (a : Sl tS5 p n c xs A) (s : St h0 h (A + F)) (eu : u = (u' : Int)) (ev : v = (v' : Int)) (hu1 : u' < n) (hv1 : v' < n)
    (hk : ∀ h' A', Sl tS5 p n c (swapL tS5.d xs u' v') A' → St h0 h' (A' + F) → k h') :
    (0 ≤ v ∧ v < (n : Int)) ∧ NN p fun a5 => ∃ n9 : Int, ∃ n10 : Int, ∃ n11 : Int, ∃ n12 : Int, ∃ (a6 : Option Addr) (L3 C3 : Nat), cell h (a5.add (Int.toNat v * 5)) = some (.int .i64 n9) ∧ cell h ((a5.add (Int.toNat v * 5)).add 1) = some (.int .i64 n10) ∧ cell h ((a5.add (Int.toNat v * 5)).add 2) = some (.int .i64 n11) ∧ cell h ((a5.add (Int.toNat v * 5)).add 3) = some (.int .i64 n12) ∧ cell h ((a5.add (Int.toNat v * 5)).add 4) = some (.slice a6 L3 C3) ∧
      (0 ≤ u ∧ u < (n : Int)) ∧ NN p fun a7 => ∃ n13 : Int, ∃ n14 : Int, ∃ n15 : Int, ∃ n16 : Int, ∃ (a8 : Option Addr) (L4 C4 : Nat), cell h (a7.add (Int.toNat u * 5)) = some (.int .i64 n13) ∧ cell h ((a7.add (Int.toNat u * 5)).add 1) = some (.int .i64 n14) ∧ cell h ((a7.add (Int.toNat u * 5)).add 2) = some (.int .i64 n15) ∧ cell h ((a7.add (Int.toNat u * 5)).add 3) = some (.int .i64 n16) ∧ cell h ((a7.add (Int.toNat u * 5)).add 4) = some (.slice a8 L4 C4) ∧
      (0 ≤ u ∧ u < (n : Int)) ∧ NN p fun a9 => Wr h (a9.add (Int.toNat u * 5)) (.int .i64 n9) fun h4 => Wr h4 ((a9.add (Int.toNat u * 5)).add 1) (.int .i64 n10) fun h5 => Wr h5 ((a9.add (Int.toNat u * 5)).add 2) (.int .i64 n11) fun h6 => Wr h6 ((a9.add (Int.toNat u * 5)).add 3) (.int .i64 n12) fun h7 => Wr h7 ((a9.add (Int.toNat u * 5)).add 4) (.slice a6 L3 C3) fun h8 =>
      (0 ≤ v ∧ v < (n : Int)) ∧ NN p fun a10 => Wr h8 (a10.add (Int.toNat v * 5)) (.int .i64 n13) fun h9 => Wr h9 ((a10.add (Int.toNat v * 5)).add 1) (.int .i64 n14) fun h10 => Wr h10 ((a10.add (Int.toNat v * 5)).add 2) (.int .i64 n15) fun h11 => Wr h11 ((a10.add (Int.toNat v * 5)).add 3) (.int .i64 n16) fun h12 => Wr h12 ((a10.add (Int.toNat v * 5)).add 4) (.slice a8 L4 C4) k := by
  subst eu ev
  have r := a.rd s
  have hl := a.len
  obtain ⟨ad, rfl, _⟩ := r.at_ (i := u') (by omega)
  refine ldS5 r rfl hv1 (ldS5 r rfl hu1 ⟨⟨by omega, by omega⟩, ?_⟩)
  rw [Int.toNat_natCast, Int.toNat_natCast]
  refine wrS5 (x := xs.getD v' tS5.d) a s (by omega) fun h1 A1 a1 s1 => ⟨⟨by omega, by omega⟩, ?_⟩
  exact wrS5 (x := xs.getD u' tS5.d) a1 s1 (by omega) hk
/-- Two elements change places. -/
theorem swS5x {h0 h : Hp} {p : Option Addr} {n c : Nat} {u v : Int} {u' v' : Nat} {xs : List S5} {A F : Bag} {k : Hp → Prop} {X : Prop} (hx : X) (a : Sl tS5 p n c xs A) (s : St h0 h (A + F)) (eu : u = (u' : Int)) (ev : v = (v' : Int)) (hu1 : u' < n) (hv1 : v' < n)
    (hk : ∀ h' A', Sl tS5 p n c (swapL tS5.d xs u' v') A' → St h0 h' (A' + F) → k h') :
    (0 ≤ v ∧ v < (n : Int)) ∧ NN p fun a5 => ∃ n9 : Int, ∃ n10 : Int, ∃ n11 : Int, ∃ n12 : Int, ∃ (a6 : Option Addr) (L3 C3 : Nat), cell h (a5.add (Int.toNat v * 5)) = some (.int .i64 n9) ∧ cell h ((a5.add (Int.toNat v * 5)).add 1) = some (.int .i64 n10) ∧ cell h ((a5.add (Int.toNat v * 5)).add 2) = some (.int .i64 n11) ∧ cell h ((a5.add (Int.toNat v * 5)).add 3) = some (.int .i64 n12) ∧ cell h ((a5.add (Int.toNat v * 5)).add 4) = some (.slice a6 L3 C3) ∧
      X ∧ (0 ≤ u ∧ u < (n : Int)) ∧ NN p fun a7 => ∃ n13 : Int, ∃ n14 : Int, ∃ n15 : Int, ∃ n16 : Int, ∃ (a8 : Option Addr) (L4 C4 : Nat), cell h (a7.add (Int.toNat u * 5)) = some (.int .i64 n13) ∧ cell h ((a7.add (Int.toNat u * 5)).add 1) = some (.int .i64 n14) ∧ cell h ((a7.add (Int.toNat u * 5)).add 2) = some (.int .i64 n15) ∧ cell h ((a7.add (Int.toNat u * 5)).add 3) = some (.int .i64 n16) ∧ cell h ((a7.add (Int.toNat u * 5)).add 4) = some (.slice a8 L4 C4) ∧
      (0 ≤ u ∧ u < (n : Int)) ∧ NN p fun a9 => Wr h (a9.add (Int.toNat u * 5)) (.int .i64 n9) fun h4 => Wr h4 ((a9.add (Int.toNat u * 5)).add 1) (.int .i64 n10) fun h5 => Wr h5 ((a9.add (Int.toNat u * 5)).add 2) (.int .i64 n11) fun h6 => Wr h6 ((a9.add (Int.toNat u * 5)).add 3) (.int .i64 n12) fun h7 => Wr h7 ((a9.add (Int.toNat u * 5)).add 4) (.slice a6 L3 C3) fun h8 =>
      (0 ≤ v ∧ v < (n : Int)) ∧ NN p fun a10 => Wr h8 (a10.add (Int.toNat v * 5)) (.int .i64 n13) fun h9 => Wr h9 ((a10.add (Int.toNat v * 5)).add 1) (.int .i64 n14) fun h10 => Wr h10 ((a10.add (Int.toNat v * 5)).add 2) (.int .i64 n15) fun h11 => Wr h11 ((a10.add (Int.toNat v * 5)).add 3) (.int .i64 n16) fun h12 => Wr h12 ((a10.add (Int.toNat v * 5)).add 4) (.slice a8 L4 C4) k := by
  subst eu ev
  have r := a.rd s
  have hl := a.len
  obtain ⟨ad, rfl, _⟩ := r.at_ (i := u') (by omega)
  refine ldS5 r rfl hv1 ⟨hx, ldS5 r rfl hu1 ⟨⟨by omega, by omega⟩, ?_⟩⟩
  rw [Int.toNat_natCast, Int.toNat_natCast]
  refine wrS5 (x := xs.getD v' tS5.d) a s (by omega) fun h1 A1 a1 s1 => ⟨⟨by omega, by omega⟩, ?_⟩
  exact wrS5 (x := xs.getD u' tS5.d) a1 s1 (by omega) hk
/-- What the comparison does. -/
def CmpS5 (h0 : Hp) (cmp : Value) (cf : S5 → S5 → Int) (P : S5 → Prop) : Prop := ∀ (x y : S5) (h : Hp) (K : Value → Hp → Prop), Ext h0 h → P x → P y → (∀ h', Ext h h' → K (.int .i64 (cf x y)) h') → funV cmp fun fg fa fc => callX Tryz.prog F fg (fa ++ (([encS x, encS y] : List Value) ++ fc)).toArray h K
end Go.Proofs.YtdlkohenamlnaaaGreat

/- Sorting: the elements' own lemmas (integers). -/
set_option maxRecDepth 100000
namespace Go.Proofs.YtdlkohenamlnaaaGreat
open Go Go.Sx
end Go.Proofs.YtdlkohenamlnaaaGreat

/- Sorting: insertionSort, siftDown, heapSort, reverseRange. -/
set_option maxRecDepth 100000
namespace Go.Proofs.YtdlkohenamlnaaaGreat
open Go Go.Sx
/-- What a step of sorting leaves: the same elements in a range, in another order. -/
abbrev OutS5 (h0 : Hp) (p : Option Addr) (n cp a b : Nat) (xs : List S5) (F : Bag) (h' : Hp) (Q : List S5 → Prop) : Prop := ∃ ys A', Sl tS5 p n cp ys A' ∧ St h0 h' (A' + F) ∧ Swp tS5.d a b xs ys ∧ Q ys
theorem insertionSortS5 {h0 h : Hp} {p : Option Addr} {n cp a' b' : Nat} {a b : Int} {xs : List S5} {A F : Bag} {cmp : Value} {cf : S5 → S5 → Int} {P : S5 → Prop} (hX : CmpS5 h0 cmp cf P) (ho : OrdP (fun x y : S5 => cf x y < 0)) (s : St h0 h (A + F)) (o : Sl tS5 p n cp xs A) (hP : ∀ k, k < n → P (xs.getD k tS5.d)) (ea : a = (a' : Int)) (eb : b = (b' : Int)) (ha : a' ≤ n) (hb : b' ≤ n) (hn : n < 1000000) :
    HCalls Tryz.prog 124 #[.slice p n cp, .int .i64 a, .int .i64 b, cmp] h (fun v h' => v = .tuple #[] ∧ OutS5 h0 p n cp a' b' xs F h' (SrtR tS5.d (fun x y : S5 => cf x y < 0) a' b')) := by
  subst ea eb
  have hl0 := o.len
  refine slices_insertionSortCmpFunc_l35_Step_call ?_
  rw [slices_insertionSortCmpFunc_l35_Step_b0_eq]
  refine ⟨⟨by omega, by omega⟩, fun i h1 => ∃ i' : Nat, i.1 = i' ∧ a' + 1 ≤ i' ∧ OutS5 h0 p n cp a' b' xs F h1 (SrtR tS5.d (fun x y : S5 => cf x y < 0) a' i'), fun i _ => (b' - i.1).toNat, ⟨a' + 1, rfl, Nat.le_refl _, xs, A, o, s, .refl _, srtR_one (by omega)⟩, ?_⟩
  rintro ⟨_, _⟩ h1 ⟨i', rfl, hi, ys, A1, o, s, w, hs⟩
  dsimp only
  rw [slices_insertionSortCmpFunc_l35_Step_b1_eq]
  refine condP (fun hlt => ?_) (fun hge => ⟨rfl, ys, A1, o, s, w, SrtR.mono hs (Nat.le_refl _) (by omega)⟩)
  refine ⟨fun j h2 => ∃ j' : Nat, j.1 = j' ∧ a' ≤ j' ∧ j' ≤ i' ∧ OutS5 h0 p n cp a' b' xs F h2 (InsR tS5.d (fun x y : S5 => cf x y < 0) a' j' i'), fun j _ => j.1.toNat, ⟨i', rfl, by omega, by omega, ys, A1, o, s, w, ins_start hs⟩, ?_⟩
  clear hs w s o ys
  rintro ⟨_, _⟩ h2 ⟨j', rfl, hj1, hj2, ys, A1, o, s, w, hs⟩
  dsimp only
  have hl := o.len
  have hP := w.allN hl0 hP
  have fin : ∀ h3, St h0 h3 (A1 + F) → (a' < j' → ¬ (fun x y : S5 => cf x y < 0) (ys.getD j' tS5.d) (ys.getD (j' - 1) tS5.d)) → slices_insertionSortCmpFunc_l35_Step_b4 p n cp a' b' cmp i' h3 (fun s' h' => (∃ i' : Nat, s'.1 = i' ∧ a' + 1 ≤ i' ∧ OutS5 h0 p n cp a' b' xs F h' (SrtR tS5.d (fun x y : S5 => cf x y < 0) a' i')) ∧ (b' - s'.1).toNat < (b' - (i' : Int)).toNat) (fun v h' => v = .tuple #[] ∧ OutS5 h0 p n cp a' b' xs F h' (SrtR tS5.d (fun x y : S5 => cf x y < 0) a' b')) := by
    intro h3 s hx
    rw [slices_insertionSortCmpFunc_l35_Step_b4_eq]
    exact ⟨⟨by omega, by omega⟩, ⟨i' + 1, by push_cast; rfl, by omega, ys, A1, o, s, w, ins_end ho hj1 hs hx⟩, by omega⟩
  rw [slices_insertionSortCmpFunc_l35_Step_b2_eq]
  refine condP (fun hj => ?_) (fun hj => fin _ s fun h => by omega)
  have r := o.rd s
  refine ldS5 (i' := j') r rfl (by omega) ⟨⟨by omega, by omega⟩, ldS5 (i' := j' - 1) r (by omega) (by omega) ?_⟩
  refine hX _ _ _ _ s.ext (hP _ (by omega)) (hP _ (by omega)) fun h5 e5 => ⟨_, rfl, ?_⟩; have s := s.grow e5
  refine condP (fun hc => ?_) (fun hc => fin _ s fun _ => hc)
  rw [slices_insertionSortCmpFunc_l35_Step_b3_eq]
  refine ⟨⟨by omega, by omega⟩, ⟨by omega, by omega⟩, ?_⟩
  refine swS5 (u' := j') (v' := j' - 1) o s rfl (by omega) (by omega) (by omega) fun h6 A6 o6 s6 => ?_
  rw [slices_insertionSortCmpFunc_l35_Step_b5_eq]
  exact ⟨⟨by omega, by omega⟩, ⟨j' - 1, by omega, by omega, by omega, _, A6, o6, s6, .step w (by omega) (by omega) (by omega) (by omega) (by omega), ins_swap ho (by omega) hj2 (by omega) hs hc⟩, by omega⟩
theorem siftDownS5 {h0 h : Hp} {p : Option Addr} {n cp lo' hi' f' : Nat} {lo hi f : Int} {xs : List S5} {A F : Bag} {cmp : Value} {cf : S5 → S5 → Int} {P : S5 → Prop} (hX : CmpS5 h0 cmp cf P) (ho : OrdP (fun x y : S5 => cf x y < 0)) (s : St h0 h (A + F)) (o : Sl tS5 p n cp xs A) (hP : ∀ k, k < n → P (xs.getD k tS5.d)) (el : lo = (lo' : Int)) (eh : hi = (hi' : Int)) (ef : f = (f' : Int)) (hf : f' + hi' ≤ n) (hlo : lo' ≤ n) (hn : n < 1000000)
    (hx : HeapX tS5.d (fun x y : S5 => cf x y < 0) f' lo' hi' lo' xs) :
    HCalls Tryz.prog 154 #[.slice p n cp, .int .i64 lo, .int .i64 hi, .int .i64 f, cmp] h (fun v h' => v = .tuple #[] ∧ OutS5 h0 p n cp (f' + lo') (f' + hi') xs F h' (HeapR tS5.d (fun x y : S5 => cf x y < 0) f' lo' hi')) := by
  subst el eh ef
  have hl0 := o.len
  refine slices_siftDownCmpFunc_l35_Step_call ?_
  rw [slices_siftDownCmpFunc_l35_Step_b0_eq]
  refine ⟨fun i h1 => ∃ r : Nat, i.1 = r ∧ lo' ≤ r ∧ r ≤ n ∧ OutS5 h0 p n cp (f' + lo') (f' + hi') xs F h1 (HeapX tS5.d (fun x y : S5 => cf x y < 0) f' lo' hi' r), fun i _ => (hi' - i.1).toNat, ⟨lo', rfl, Nat.le_refl _, hlo, xs, A, o, s, .refl _, hx⟩, ?_⟩
  rintro ⟨_, _⟩ h1 ⟨r, rfl, hr, hrn, ys, A1, o, s, w, hs⟩
  dsimp only
  have hl := o.len
  have hP := w.allN hl0 hP
  rw [slices_siftDownCmpFunc_l35_Step_b1_eq]
  refine ⟨⟨by omega, by omega⟩, ⟨by omega, by omega⟩, condP (fun hle => ⟨rfl, ys, A1, o, s, w, heap_stop hs fun c h1 h2 => by omega⟩) (fun hle => ⟨⟨by omega, by omega⟩, ?_⟩)⟩
  have fin : ∀ (ch : Nat) (h3 : Hp) (ci : Int), ci = (ch : Int) → St h0 h3 (A1 + F) → (ch = 2 * r + 1 ∨ ch = 2 * r + 2) → ch < hi' → (∀ c, (c = 2 * r + 1 ∨ c = 2 * r + 2) → c < hi' → ¬ (fun x y : S5 => cf x y < 0) (ys.getD (f' + ch) tS5.d) (ys.getD (f' + c) tS5.d)) →
      slices_siftDownCmpFunc_l35_Step_b2 p n cp hi' f' cmp r ci h3 (fun s' h' => (∃ r : Nat, s'.1 = r ∧ lo' ≤ r ∧ r ≤ n ∧ OutS5 h0 p n cp (f' + lo') (f' + hi') xs F h' (HeapX tS5.d (fun x y : S5 => cf x y < 0) f' lo' hi' r)) ∧ (hi' - s'.1).toNat < (hi' - (r : Int)).toNat) (fun v h' => v = .tuple #[] ∧ OutS5 h0 p n cp (f' + lo') (f' + hi') xs F h' (HeapR tS5.d (fun x y : S5 => cf x y < 0) f' lo' hi')) := by
    rintro ch h3 _ rfl s hc1 hc2 hmax
    rw [slices_siftDownCmpFunc_l35_Step_b2_eq]
    have rd := o.rd s
    refine ⟨⟨by omega, by omega⟩, ldS5 (i' := f' + r) rd (by omega) (by omega) ⟨⟨by omega, by omega⟩, ldS5 (i' := f' + ch) rd (by omega) (by omega) ?_⟩⟩
    refine hX _ _ _ _ s.ext (hP _ (by omega)) (hP _ (by omega)) fun h5 e5 => ⟨_, rfl, ?_⟩; have s := s.grow e5
    refine condN (fun hc => ⟨rfl, ys, A1, o, s, w, heap_stop hs fun c k1 k2 k3 => ho.trans _ _ _ (hmax c k1 k2) hc k3⟩) (fun hc => ⟨⟨by omega, by omega⟩, ⟨by omega, by omega⟩, ⟨by omega, by omega⟩, ?_⟩)
    refine swS5x ⟨by omega, by omega⟩ (u' := f' + r) (v' := f' + ch) o s (by omega) (by omega) (by omega) (by omega) fun h6 A6 o6 s6 => ?_
    exact ⟨⟨ch, rfl, by omega, by omega, _, A6, o6, s6, .step (i := f' + r) (j := f' + ch) w (by omega) (by omega) (by omega) (by omega) (by omega), heap_swap ho hs hc1 hc2 (by omega) hc hmax hr⟩, by omega⟩
  refine condP (fun h2 => ?_) (fun h2 => fin (2 * r + 1) _ _ (by omega) s (.inl rfl) (by omega) fun c k1 k2 => ?_)
  · have rd := o.rd s
    refine ⟨⟨by omega, by omega⟩, ldS5 (i' := f' + (2 * r + 1)) rd (by omega) (by omega) ⟨⟨by omega, by omega⟩, ⟨by omega, by omega⟩, ldS5 (i' := f' + (2 * r + 2)) rd (by omega) (by omega) ?_⟩⟩
    refine hX _ _ _ _ s.ext (hP _ (by omega)) (hP _ (by omega)) fun h5 e5 => ⟨_, rfl, ?_⟩; have s := s.grow e5
    refine condP (fun hc => ⟨⟨by omega, by omega⟩, fin (2 * r + 2) _ _ (by push_cast; rfl) s (.inr rfl) (by omega) fun c k1 k2 => ?_⟩) (fun hc => fin (2 * r + 1) _ _ (by omega) s (.inl rfl) (by omega) fun c k1 k2 => ?_)
    · rcases k1 with rfl | rfl
      · exact ho.asymm _ _ hc
      · exact ho.irr _
    · rcases k1 with rfl | rfl
      · exact ho.irr _
      · exact hc
  · rcases k1 with rfl | rfl
    · exact ho.irr _
    · omega
theorem heapSortS5 {h0 h : Hp} {p : Option Addr} {n cp a' b' : Nat} {a b : Int} {xs : List S5} {A F : Bag} {cmp : Value} {cf : S5 → S5 → Int} {P : S5 → Prop} (hX : CmpS5 h0 cmp cf P) (ho : OrdP (fun x y : S5 => cf x y < 0)) (s : St h0 h (A + F)) (o : Sl tS5 p n cp xs A) (hP : ∀ k, k < n → P (xs.getD k tS5.d)) (ea : a = (a' : Int)) (eb : b = (b' : Int)) (hab : a' < b') (hb : b' ≤ n) (hn : n < 1000000) :
    HCalls Tryz.prog 125 #[.slice p n cp, .int .i64 a, .int .i64 b, cmp] h (fun v h' => v = .tuple #[] ∧ OutS5 h0 p n cp a' b' xs F h' (SrtR tS5.d (fun x y : S5 => cf x y < 0) a' b')) := by
  subst ea eb
  have hl0 := o.len
  refine slices_heapSortCmpFunc_l35_Step_call ?_
  rw [slices_heapSortCmpFunc_l35_Step_b0_eq]
  refine ⟨⟨by omega, by omega⟩, ⟨by omega, by omega⟩, quo_intro (by omega) (by omega) (by omega) ?_⟩
  obtain ⟨q, hq⟩ : ∃ q : Nat, ((b' : Int) - a' - 1) / 2 + 1 = q := ⟨(((b' : Int) - a' - 1) / 2 + 1).toNat, by omega⟩
  refine ⟨fun i h1 => ∃ m : Nat, i.1 = (m : Int) - 1 ∧ m ≤ b' - a' ∧ OutS5 h0 p n cp a' b' xs F h1 (HeapR tS5.d (fun x y : S5 => cf x y < 0) a' m (b' - a')), fun i _ => (i.1 + 1).toNat, ⟨q, by show _ / _ = _; omega, by omega, xs, A, o, s, .refl _, fun k c k1 k2 k3 => by omega⟩, ?_⟩
  rintro ⟨_, _⟩ h1 ⟨m, rfl, hm, ys, A1, o, s, w, hs⟩
  dsimp only
  have hl := o.len
  have hPy := w.allN hl0 hP
  rw [slices_heapSortCmpFunc_l35_Step_b1_eq]
  refine condP (fun hi => ?_) (fun hi => ?_)
  · refine (siftDownS5 hX ho s o hPy (lo' := m - 1) (hi' := b' - a') (f' := a') (by omega) (by omega) rfl (by omega) (by omega) hn ⟨fun k c k1 k2 k3 k4 => hs k c (by omega) k2 k3, fun k c k1 k2 => by omega⟩).mono fun v h2 ⟨hv, zs, A2, o2, s2, w2, hs2⟩ => ⟨hv, ?_⟩
    rw [slices_heapSortCmpFunc_l35_Step_b2_eq]
    exact ⟨⟨by omega, by omega⟩, ⟨m - 1, by omega, by omega, zs, A2, o2, s2, w.trans (w2.mono (by omega) (by omega) (by omega)).1, hs2⟩, by omega⟩
  · obtain rfl : m = 0 := by omega
    rw [slices_heapSortCmpFunc_l35_Step_b3_eq]
    refine ⟨⟨by omega, by omega⟩, ?_⟩
    refine ⟨fun i h1 => ∃ m : Nat, i.1 = (m : Int) - 1 ∧ m ≤ b' - a' ∧ OutS5 h0 p n cp a' b' xs F h1 (fun ys => HeapR tS5.d (fun x y : S5 => cf x y < 0) a' 0 m ys ∧ OutR tS5.d (fun x y : S5 => cf x y < 0) a' b' a' (a' + m) ys), fun i _ => (i.1 + 1).toNat, ⟨b' - a', by show (_ : Int) - 1 = _; omega, by omega, ys, A1, o, s, w, hs, by rw [show a' + (b' - a') = b' by omega]; exact outR_start⟩, ?_⟩
    clear hs w s o hl hPy ys
    rintro ⟨_, _⟩ h2 ⟨m, rfl, hm, ys, A1, o, s, w, hs, ho2⟩
    dsimp only
    have hl := o.len
    rw [slices_heapSortCmpFunc_l35_Step_b4_eq]
    refine condP (fun hi => ⟨⟨by omega, by omega⟩, ⟨by omega, by omega⟩, ?_⟩) (fun hi => ?_)
    · refine swS5 (u' := a') (v' := a' + (m - 1)) o s rfl (by omega) (by omega) (by omega) fun h6 A6 o6 s6 => ?_
      have w1 : Swp tS5.d a' (a' + m) ys (swapL tS5.d ys a' (a' + (m - 1))) := .one (by omega) (by omega) (by omega) (by omega) (by omega)
      have w6 := w.trans (w1.mono (Nat.le_refl _) (by omega) (by omega)).1
      have hg : ∀ k, (swapL tS5.d ys a' (a' + (m - 1))).getD k tS5.d = if k = a' + (m - 1) then ys.getD a' tS5.d else if k = a' then ys.getD (a' + (m - 1)) tS5.d else ys.getD k tS5.d := swapL_get (by omega) (by omega)
      have ho6 : OutR tS5.d (fun x y : S5 => cf x y < 0) a' b' a' (a' + (m - 1)) (swapL tS5.d ys a' (a' + (m - 1))) := by
        intro p q k1 k2 k3 k4
        by_cases hq : q = a' + (m - 1)
        · rw [hq, hg, if_pos rfl]
          exact w1.all (P := fun x => ¬ (fun x y : S5 => cf x y < 0) (ys.getD a' tS5.d) x) (fun k j1 j2 => by
            have := heap_max ho hs (k - a') (by omega)
            rwa [show a' + (k - a') = k by omega] at this) p k1 (by omega)
        · exact outR_swp (Nat.le_refl _) (by omega) ho2 w1 p q k1 k2 k3 (by omega)
      generalize swapL tS5.d ys a' (a' + (m - 1)) = us at *
      refine (siftDownS5 hX ho s6 o6 (w6.allN hl0 hP) (lo' := 0) (hi' := m - 1) (f' := a') (by rfl) (by omega) rfl (by omega) (by omega) hn ⟨fun k c k1 k2 k3 k4 => ?_, fun k c k1 k2 => by omega⟩).mono fun v h2 ⟨hv, zs, A2, o2, s2, w2, hs2⟩ => ⟨hv, ?_⟩
      · rw [hg, hg, if_neg (by omega), if_neg (by omega), if_neg (by omega), if_neg (by omega)]
        exact hs k c (by omega) k2 (by omega)
      · rw [slices_heapSortCmpFunc_l35_Step_b5_eq]
        exact ⟨⟨by omega, by omega⟩, ⟨m - 1, by omega, by omega, zs, A2, o2, s2, w6.trans (w2.mono (by omega) (by omega) (by rw [w6.len]; omega)).1, hs2, outR_swp (Nat.le_refl _) (by omega) ho6 w2⟩, by omega⟩
    · obtain rfl : m = 0 := by omega
      exact ⟨rfl, ys, A1, o, s, w, outR_done ho2 (srtR_one (by omega))⟩
theorem reverseRangeS5 {h0 h : Hp} {p : Option Addr} {n cp a' b' : Nat} {a b : Int} {xs : List S5} {A F : Bag} {cmp : Value} (s : St h0 h (A + F)) (o : Sl tS5 p n cp xs A) (ea : a = (a' : Int)) (eb : b = (b' : Int)) (hab : a' ≤ b') (hb : b' ≤ n) (hn : n < 1000000) :
    HCalls Tryz.prog 128 #[.slice p n cp, .int .i64 a, .int .i64 b, cmp] h (fun v h' => v = .tuple #[] ∧ OutS5 h0 p n cp a' b' xs F h' fun _ => True) := by
  subst ea eb
  have hl0 := o.len
  refine slices_reverseRangeCmpFunc_l35_Step_call ?_
  rw [slices_reverseRangeCmpFunc_l35_Step_b0_eq]
  refine ⟨⟨by omega, by omega⟩, fun i h1 => ∃ i' : Nat, i.1 = i' ∧ a' ≤ i' ∧ i.2.1 < b' ∧ i' ≤ n ∧ -1 ≤ i.2.1 ∧ OutS5 h0 p n cp a' b' xs F h1 fun _ => True, fun i _ => (i.2.1 - i.1).toNat, ⟨a', rfl, Nat.le_refl _, by show (_ : Int) - 1 < _; omega, by omega, by show -1 ≤ (_ : Int) - 1; omega, xs, A, o, s, .refl _, trivial⟩, ?_⟩
  rintro ⟨_, j, _⟩ h1 ⟨i', rfl, hi, hj, hin, hj1, ys, A1, o, s, w, _⟩
  dsimp only at hj hj1 ⊢
  have hl := o.len
  rw [slices_reverseRangeCmpFunc_l35_Step_b1_eq]
  refine condP (fun hlt => ?_) (fun hlt => ⟨rfl, ys, A1, o, s, w, trivial⟩)
  refine swS5 (u' := i') (v' := j.toNat) o s rfl (by omega) (by omega) (by omega) fun h6 A6 o6 s6 => ?_
  exact ⟨⟨by omega, by omega⟩, ⟨by omega, by omega⟩, ⟨i' + 1, by push_cast; rfl, by omega, by show j - 1 < _; omega, by omega, by show -1 ≤ j - 1; omega, _, A6, o6, s6, .step w (by omega) (by omega) (by omega) (by omega) (by omega), trivial⟩, by dsimp only; omega⟩
end Go.Proofs.YtdlkohenamlnaaaGreat

/- Numbers that sorting wants: bits.Len, xorshift, nextPowerOfTwo. -/
set_option maxRecDepth 100000
namespace Go.Proofs.YtdlkohenamlnaaaGreat
open Go Go.Sx
/-! ### logarithms -/
/-- How many bits a number has. -/
def blen (x : Nat) : Nat := if x = 0 then 0 else x.log2 + 1
theorem blen_shift {x k : Nat} (h : 2 ^ k ≤ x) : blen x = blen (x / 2 ^ k) + k := by
  have hp : 0 < 2 ^ k := Nat.two_pow_pos k
  have hx : x ≠ 0 := by omega
  have hq : x / 2 ^ k ≠ 0 := by have := Nat.div_pos h hp; omega
  unfold blen
  rw [if_neg hx, if_neg hq]
  have : x.log2 = (x / 2 ^ k).log2 + k := by
    rw [Nat.log2_eq_iff hx]
    have h1 := Nat.log2_self_le hq
    have h2 := @Nat.lt_log2_self (x / 2 ^ k)
    constructor
    · rw [Nat.pow_add]
      exact Nat.le_trans (Nat.mul_le_mul_right _ h1) (Nat.div_mul_le_self _ _)
    · rw [show (x / 2 ^ k).log2 + k + 1 = ((x / 2 ^ k).log2 + 1) + k by omega, Nat.pow_add]
      exact (Nat.div_lt_iff_lt_mul hp).1 h2
  omega
theorem blen_le {x k : Nat} (h : x < 2 ^ k) : blen x ≤ k := by
  unfold blen
  split
  · omega
  · rename_i hx
    have h1 := Nat.log2_self_le hx
    have : 2 ^ x.log2 < 2 ^ k := Nat.lt_of_le_of_lt h1 h
    have := (Nat.pow_lt_pow_iff_right (by decide : 1 < 2)).1 this
    omega

theorem tab_step {s : ByteArray} {m : Nat} {nv : Int} {h : Hp} {K : Value → Hp → Prop} (hz : s.size = 256) (hs : ∀ n, n < 256 → (s.data.toList.getD n 0).toNat = blen n) (hm : m < 256) (h0 : 0 ≤ nv) (h1 : nv < 1000)
    (hk : K (.int .i64 (nv + (blen m : Nat))) h) : (0 ≤ IntKind.u8.wrap (m : Int) ∧ IntKind.u8.wrap (m : Int) < (s.size : Int)) ∧ InR (((s.data.toList.getD (Int.toNat (IntKind.u8.wrap (m : Int))) 0).toNat : Int)) ∧
      InR (nv + (((s.data.toList.getD (Int.toNat (IntKind.u8.wrap (m : Int))) 0).toNat : Int))) ∧ K (.int .i64 (nv + (((s.data.toList.getD (Int.toNat (IntKind.u8.wrap (m : Int))) 0).toNat : Int)))) h := by
  have hw : IntKind.u8.wrap (m : Int) = m := wrap_u8_in _ (by omega) (by omega)
  have hb : blen m ≤ 8 := blen_le (by omega)
  rw [hw, show ((m : Nat) : Int).toNat = m by simp, hs m hm, hz]
  exact ⟨⟨by omega, by omega⟩, ⟨by omega, by omega⟩, ⟨by omega, by omega⟩, hk⟩

theorem Len64_ok (x : Nat) (hx : x < 18446744073709551616) (h : Hp) : HCalls Tryz.prog 133 #[.int .u64 (x : Int)] h (fun r h' => r = .int .i64 (blen x : Nat) ∧ h' = h) := by
  refine math_bits_Len64_call ?_
  have shr : ∀ (y k : Nat), y >>> k = y / 2 ^ k := fun y k => Nat.shiftRight_eq_div_pow y k
  have b3 : ∀ (y : Nat) (nv : Int), y < 256 → 0 ≤ nv → nv < 100 → nv + (blen y : Nat) = (blen x : Nat) → math_bits_Len64_b3 (y : Int) nv h (fun r h' => r = .int .i64 (blen x : Nat) ∧ h' = h) := by
    intro y nv hy h0 h1 he
    rw [math_bits_Len64_b3_eq]
    refine tab_step (K := fun r h' => r = .int .i64 (blen x : Nat) ∧ h' = h) ?_ ?_ hy h0 (by omega) ?_
    · decide +kernel
    · decide +kernel
    · rw [he]; exact ⟨rfl, rfl⟩
  have b2 : ∀ (y : Nat) (nv : Int), y < 65536 → 0 ≤ nv → nv < 90 → nv + (blen y : Nat) = (blen x : Nat) → math_bits_Len64_b2 (y : Int) nv h (fun r h' => r = .int .i64 (blen x : Nat) ∧ h' = h) := by
    intro y nv hy h0 h1 he
    rw [math_bits_Len64_b2_eq]
    refine condP (fun hc => ?_) (fun hc => b3 y nv (by omega) h0 (by omega) he)
    refine shr_intro (x := y) (s := 8) rfl rfl (by decide) ⟨⟨by omega, by omega⟩, ?_⟩
    rw [shr]
    have := blen_shift (x := y) (k := 8) (by omega)
    exact b3 _ _ (by omega) (by omega) (by omega) (by omega)
  have b1 : ∀ (y : Nat) (nv : Int), y < 4294967296 → 0 ≤ nv → nv < 70 → nv + (blen y : Nat) = (blen x : Nat) → math_bits_Len64_b1 (y : Int) nv h (fun r h' => r = .int .i64 (blen x : Nat) ∧ h' = h) := by
    intro y nv hy h0 h1 he
    rw [math_bits_Len64_b1_eq]
    refine condP (fun hc => ?_) (fun hc => b2 y nv (by omega) h0 (by omega) he)
    refine shr_intro (x := y) (s := 16) rfl rfl (by decide) ⟨⟨by omega, by omega⟩, ?_⟩
    rw [shr]
    have := blen_shift (x := y) (k := 16) (by omega)
    exact b2 _ _ (by omega) (by omega) (by omega) (by omega)
  rw [math_bits_Len64_b0_eq]
  refine condP (fun hc => ?_) (fun hc => b1 x 0 (by omega) (by omega) (by omega) (by omega))
  refine shr_intro (x := x) (s := 32) rfl rfl (by decide) ?_
  rw [shr]
  have := blen_shift (x := x) (k := 32) (by omega)
  exact b1 _ _ (by omega) (by omega) (by omega) (by omega)

theorem Len_ok (x : Nat) (hx : x < 18446744073709551616) (h : Hp) : HCalls Tryz.prog 89 #[.int .u64 (x : Int)] h (fun r h' => r = .int .i64 (blen x : Nat) ∧ h' = h) := by
  refine math_bits_Len_call ?_
  rw [math_bits_Len_b0_eq]
  refine (Len64_ok x hx h).mono fun v h' ⟨hv, hh⟩ => ?_
  exact ⟨_, hv, rfl, hh⟩
theorem blen_pow {x : Nat} (h : 1 ≤ x) : 2 ^ blen x ≤ 2 * x ∧ x < 2 ^ blen x := by
  unfold blen
  rw [if_neg (by omega)]
  have h1 := Nat.log2_self_le (show x ≠ 0 by omega)
  have h2 := @Nat.lt_log2_self x
  rw [Nat.pow_succ]
  rw [Nat.pow_succ] at h2
  omega
/-- A power of two beyond a length. -/
theorem nextPow_ok (x : Nat) (h1 : 1 ≤ x) (hx : x < 1000000) (h : Hp) : HCalls Tryz.prog 155 #[.int .i64 (x : Int)] h (fun r h' => r = .int .u64 ((2 ^ blen x : Nat) : Int) ∧ h' = h) := by
  refine slices_nextPowerOfTwo_call ?_
  rw [slices_nextPowerOfTwo_b0_eq, wrap_u64_in _ (by omega) (by omega)]
  refine (Len_ok x (by omega) h).mono fun v h' ⟨hv, hh⟩ => ⟨_, hv, ?_⟩
  have hb := blen_pow h1
  have hl : blen x ≤ 20 := blen_le (by omega)
  refine shl_intro (x := 1) (s := blen x) rfl rfl (by show blen x ≤ 64; omega) ?_ ⟨?_, hh⟩
  · exact wrap_u64_in _ (by omega) (by omega)
  · rw [Nat.one_mul]
theorem Next_ok {h0 h : Hp} {b : Nat} {z : Int} {e : TypeId} {F : Bag} (s : St h0 h (cA b [.int .u64 z] e + F)) : HCalls Tryz.prog 156 #[.pointer (some ⟨b, 0, none⟩)] h (fun r h' => ∃ y : Int, r = .int .u64 y ∧ St h0 h' (cA b [.int .u64 y] e + F)) := by
  refine slices_xorshift_Next_call ?_
  rw [slices_xorshift_Next_b0_eq]
  refine ⟨_, s.cell 0, _, s.cell 0, _, ⟨by decide, rfl⟩, _, rfl, s.wr (o := 0) rfl Nat.zero_lt_one fun h1 s => ?_⟩
  refine ⟨_, s.cell 0, _, s.cell 0, _, ⟨by decide, rfl⟩, _, rfl, s.wr (o := 0) rfl Nat.zero_lt_one fun h2 s => ?_⟩
  refine ⟨_, s.cell 0, _, s.cell 0, _, ⟨by decide, rfl⟩, _, rfl, s.wr (o := 0) rfl Nat.zero_lt_one fun h3 s => ?_⟩
  exact ⟨_, s.cell 0, _, rfl, s⟩
/-- Bits of a mask. -/
theorem mask_lt (r : Int) (m : Nat) (h1 : 1 ≤ m) (hm : m < 10000000) {Q : Int → Prop} (hq : ∀ k : Nat, k < m → Q (k : Int)) : ∃ an1 : Int, Sx.And .u64 r (IntKind.u64.wrap ((m : Int) - 1)) an1 ∧ Q an1 := by
  refine ⟨_, rfl, ?_⟩
  rw [wrap_u64_in ((m : Int) - 1) (by omega) (by omega)]
  have h2 : ((BitVec.ofInt IntKind.u64.bits r) &&& (BitVec.ofInt IntKind.u64.bits ((m : Int) - 1))).toNat ≤ m - 1 := by
    rw [BitVec.toNat_and]
    refine Nat.le_trans Nat.and_le_right ?_
    rw [show ((m : Int) - 1) = ((m - 1 : Nat) : Int) by omega, BitVec.ofInt_natCast, BitVec.toNat_ofNat]
    exact Nat.mod_le _ _
  rw [wrap_u64_in _ (by omega) (by omega)]
  exact hq _ (by omega)
end Go.Proofs.YtdlkohenamlnaaaGreat

/- Sorting: the choice of a pivot, breakPatterns. -/
set_option maxRecDepth 100000
namespace Go.Proofs.YtdlkohenamlnaaaGreat
open Go Go.Sx
theorem order2S5 {h0 h : Hp} {p : Option Addr} {n cp a' b' sb : Nat} {a b z : Int} {e : TypeId} {xs : List S5} {A F : Bag} {cmp : Value} {cf : S5 → S5 → Int} {P : S5 → Prop} (hX : CmpS5 h0 cmp cf P) (ho : OrdP (fun x y : S5 => cf x y < 0)) (s : St h0 h (A + (cA sb [.int .i64 z] e + F))) (o : Sl tS5 p n cp xs A) (hP : ∀ k, k < n → P (xs.getD k tS5.d)) (ea : a = (a' : Int)) (eb : b = (b' : Int)) (ha : a' < n) (hb : b' < n) (hz : 0 ≤ z) (hz1 : z < 1000) :
    HCalls Tryz.prog 177 #[.slice p n cp, .int .i64 a, .int .i64 b, .pointer (some ⟨sb, 0, none⟩), cmp] h (fun v h' => ∃ u w z' : Int, v = .tuple #[.int .i64 u, .int .i64 w] ∧ (u = a ∧ w = b ∨ u = b ∧ w = a) ∧ z ≤ z' ∧ z' ≤ z + 1 ∧ St h0 h' (A + (cA sb [.int .i64 z'] e + F))) := by
  subst ea eb
  have hl0 := o.len
  refine slices_order2CmpFunc_l35_Step_call ?_
  rw [slices_order2CmpFunc_l35_Step_b0_eq]
  have r := o.rd s
  refine ldS5 (i' := b') r rfl hb (ldS5 (i' := a') r rfl ha ?_)
  refine hX _ _ _ _ s.ext (hP _ (by omega)) (hP _ (by omega)) fun h5 e5 => ⟨_, rfl, ?_⟩; have s := s.grow e5
  refine condP (fun hc => ?_) (fun hc => ⟨_, _, z, rfl, .inl ⟨rfl, rfl⟩, by omega, by omega, s⟩)
  have s := s.to (B := cA sb [.int .i64 z] e + (A + F))
  refine ⟨_, s.cell 0, ⟨by omega, by omega⟩, s.wr (o := 0) rfl Nat.zero_lt_one fun h2 s => ?_⟩
  exact ⟨_, _, z + 1, rfl, .inr ⟨rfl, rfl⟩, by omega, by omega, s.to⟩
theorem medianS5 {h0 h : Hp} {p : Option Addr} {n cp sb : Nat} {a b c z : Int} {e : TypeId} {xs : List S5} {A F : Bag} {cmp : Value} {cf : S5 → S5 → Int} {P : S5 → Prop} (hX : CmpS5 h0 cmp cf P) (ho : OrdP (fun x y : S5 => cf x y < 0)) (s : St h0 h (A + (cA sb [.int .i64 z] e + F))) (o : Sl tS5 p n cp xs A) (hP : ∀ k, k < n → P (xs.getD k tS5.d)) (ha : 0 ≤ a ∧ a < n) (hb : 0 ≤ b ∧ b < n) (hc : 0 ≤ c ∧ c < n) (hz : 0 ≤ z) (hz1 : z < 900) :
    HCalls Tryz.prog 158 #[.slice p n cp, .int .i64 a, .int .i64 b, .int .i64 c, .pointer (some ⟨sb, 0, none⟩), cmp] h (fun v h' => ∃ u z' : Int, v = .int .i64 u ∧ (u = a ∨ u = b ∨ u = c) ∧ z ≤ z' ∧ z' ≤ z + 3 ∧ St h0 h' (A + (cA sb [.int .i64 z'] e + F))) := by
  refine slices_medianCmpFunc_l35_Step_call ?_
  rw [slices_medianCmpFunc_l35_Step_b0_eq]
  refine (order2S5 hX ho s o hP (a' := a.toNat) (b' := b.toNat) (by omega) (by omega) (by omega) (by omega) hz (by omega)).mono fun v1 h1 ⟨u1, w1, z1, hv1, hu1, g1, g2, s⟩ => ⟨_, _, hv1, ?_⟩
  refine (order2S5 hX ho s o hP (a' := w1.toNat) (b' := c.toNat) (by omega) (by omega) (by omega) (by omega) (by omega) (by omega)).mono fun v2 h2 ⟨u2, w2, z2, hv2, hu2, g3, g4, s⟩ => ⟨_, _, hv2, ?_⟩
  refine (order2S5 hX ho s o hP (a' := u1.toNat) (b' := u2.toNat) (by omega) (by omega) (by omega) (by omega) (by omega) (by omega)).mono fun v3 h3 ⟨u3, w3, z3, hv3, hu3, g5, g6, s⟩ => ⟨_, _, hv3, ?_⟩
  exact ⟨_, z3, rfl, by omega, by omega, by omega, s⟩
theorem medianAdjacentS5 {h0 h : Hp} {p : Option Addr} {n cp sb : Nat} {a z : Int} {e : TypeId} {xs : List S5} {A F : Bag} {cmp : Value} {cf : S5 → S5 → Int} {P : S5 → Prop} (hX : CmpS5 h0 cmp cf P) (ho : OrdP (fun x y : S5 => cf x y < 0)) (s : St h0 h (A + (cA sb [.int .i64 z] e + F))) (o : Sl tS5 p n cp xs A) (hP : ∀ k, k < n → P (xs.getD k tS5.d)) (ha : 1 ≤ a ∧ a + 1 < n) (hn : n < 1000000) (hz : 0 ≤ z) (hz1 : z < 900) :
    HCalls Tryz.prog 157 #[.slice p n cp, .int .i64 a, .pointer (some ⟨sb, 0, none⟩), cmp] h (fun v h' => ∃ u z' : Int, v = .int .i64 u ∧ (a - 1 ≤ u ∧ u ≤ a + 1) ∧ z ≤ z' ∧ z' ≤ z + 3 ∧ St h0 h' (A + (cA sb [.int .i64 z'] e + F))) := by
  refine slices_medianAdjacentCmpFunc_l35_Step_call ?_
  rw [slices_medianAdjacentCmpFunc_l35_Step_b0_eq]
  refine ⟨⟨by omega, by omega⟩, ⟨by omega, by omega⟩, (medianS5 hX ho s o hP (by omega) (by omega) (by omega) hz hz1).mono fun v1 h1 ⟨u, z', hv, hu, g1, g2, s⟩ => ⟨_, hv, _, z', rfl, by omega, g1, g2, s⟩⟩
theorem choosePivotS5 {h0 h : Hp} {p : Option Addr} {n cp a' b' : Nat} {a b : Int} {xs : List S5} {A F : Bag} {cmp : Value} {cf : S5 → S5 → Int} {P : S5 → Prop} (hX : CmpS5 h0 cmp cf P) (ho : OrdP (fun x y : S5 => cf x y < 0)) (s : St h0 h (A + F)) (o : Sl tS5 p n cp xs A) (hP : ∀ k, k < n → P (xs.getD k tS5.d)) (ea : a = (a' : Int)) (eb : b = (b' : Int)) (hab : a' < b') (hb : b' ≤ n) (hn : n < 1000000) :
    HCalls Tryz.prog 127 #[.slice p n cp, .int .i64 a, .int .i64 b, cmp] h (fun v h' => ∃ u hint : Int, v = .tuple #[.int .i64 u, .int .i64 hint] ∧ a ≤ u ∧ u < b ∧ St h0 h' (A + F)) := by
  subst ea eb
  refine slices_choosePivotCmpFunc_l35_Step_call ?_
  rw [slices_choosePivotCmpFunc_l35_Step_b0_eq]
  refine ⟨⟨by omega, by omega⟩, s.new (cs := [.int .i64 0]) fun sb h1 _ s => ?_⟩
  have s := s.to (B := A + (cA sb [.int .i64 0] 3 + F))
  have b2 : ∀ (u z : Int) (h' : Hp), a' ≤ u → u < b' → St h0 h' (A + (cA sb [.int .i64 z] 3 + F)) → slices_choosePivotCmpFunc_l35_Step_b2 (some ⟨sb, 0, none⟩) u h' (fun v h' => ∃ u hint : Int, v = .tuple #[.int .i64 u, .int .i64 hint] ∧ (a' : Int) ≤ u ∧ u < b' ∧ St h0 h' (A + F)) := by
    intro u z h' h1 h2 s
    rw [slices_choosePivotCmpFunc_l35_Step_b2_eq]
    have s := s.to (B := cA sb [.int .i64 z] 3 + (A + F))
    exact ⟨_, s.cell 0, condP (fun _ => ⟨_, _, rfl, h1, h2, s.drop⟩) fun _ => condP (fun _ => ⟨_, _, rfl, h1, h2, s.drop⟩) fun _ => ⟨_, _, rfl, h1, h2, s.drop⟩⟩
  have b1 : ∀ (u v w z : Int) (h' : Hp), (a' ≤ u ∧ u < b') → (a' ≤ v ∧ v < b') → (a' ≤ w ∧ w < b') → 0 ≤ z → z < 100 → St h0 h' (A + (cA sb [.int .i64 z] 3 + F)) → slices_choosePivotCmpFunc_l35_Step_b1 p n cp cmp (some ⟨sb, 0, none⟩) u v w h' (fun v h' => ∃ u hint : Int, v = .tuple #[.int .i64 u, .int .i64 hint] ∧ (a' : Int) ≤ u ∧ u < b' ∧ St h0 h' (A + F)) := by
    intro u v w z h' h1 h2 h3 hz hz1 s
    rw [slices_choosePivotCmpFunc_l35_Step_b1_eq]
    refine (medianS5 hX ho s o hP (by omega) (by omega) (by omega) hz (by omega)).mono fun v1 h1 ⟨u, z', hv, hu, g1, g2, s⟩ => ⟨_, hv, ?_⟩
    exact b2 _ _ _ (by omega) (by omega) s
  refine quo_intro (by omega) (by omega) (by omega) ⟨⟨by omega, by omega⟩, ⟨by omega, by omega⟩, ?_⟩
  refine quo_intro (by omega) (by omega) (by omega) ⟨⟨by omega, by omega⟩, ⟨by omega, by omega⟩, ?_⟩
  refine quo_intro (by omega) (by omega) (by omega) ⟨⟨by omega, by omega⟩, ⟨by omega, by omega⟩, ?_⟩
  refine condP (fun h8 => ?_) (fun h8 => b2 _ _ _ (by omega) (by omega) s)
  refine condP (fun h50 => ?_) (fun h50 => b1 _ _ _ _ _ (by omega) (by omega) (by omega) (by omega) (by omega) s)
  refine (medianAdjacentS5 hX ho s o hP (by omega) hn (by omega) (by omega)).mono fun v1 h1 ⟨u1, z1, hv, hu, g1, g2, s⟩ => ⟨_, hv, ?_⟩
  refine (medianAdjacentS5 hX ho s o hP (by omega) hn (by omega) (by omega)).mono fun v1 h1 ⟨u2, z2, hv, hu, g3, g4, s⟩ => ⟨_, hv, ?_⟩
  refine (medianAdjacentS5 hX ho s o hP (by omega) hn (by omega) (by omega)).mono fun v1 h1 ⟨u3, z3, hv, hu, g5, g6, s⟩ => ⟨_, hv, ?_⟩
  exact b1 _ _ _ _ _ (by omega) (by omega) (by omega) (by omega) (by omega) s
theorem breakPatternsS5 {h0 h : Hp} {p : Option Addr} {n cp a' b' : Nat} {a b : Int} {xs : List S5} {A F : Bag} {cmp : Value} (s : St h0 h (A + F)) (o : Sl tS5 p n cp xs A) (ea : a = (a' : Int)) (eb : b = (b' : Int)) (hab : a' ≤ b') (hb : b' ≤ n) (hn : n < 1000000) :
    HCalls Tryz.prog 126 #[.slice p n cp, .int .i64 a, .int .i64 b, cmp] h (fun v h' => v = .tuple #[] ∧ OutS5 h0 p n cp a' b' xs F h' fun _ => True) := by
  subst ea eb
  have hl0 := o.len
  refine slices_breakPatternsCmpFunc_l35_Step_call ?_
  rw [slices_breakPatternsCmpFunc_l35_Step_b0_eq]
  refine ⟨⟨by omega, by omega⟩, condP (fun h8 => ?_) (fun h8 => ⟨rfl, xs, A, o, s, .refl _, trivial⟩)⟩
  refine s.new (cs := [.int .u64 0]) fun rb h1 _ s => ?_
  refine s.wr (o := 0) rfl Nat.zero_lt_one fun h2 s => ?_
  rw [show ((b' : Int) - a') = ((b' - a' : Nat) : Int) by omega]
  refine (nextPow_ok (b' - a') (by omega) (by omega) h2).mono fun v h3 ⟨hv, hh⟩ => ⟨_, hv, ?_⟩
  subst hh
  have hm := blen_pow (x := b' - a') (by omega)
  generalize 2 ^ blen (b' - a') = m at *
  refine quo_intro (by omega) (by omega) (by omega) ⟨⟨by omega, by omega⟩, ⟨by omega, by omega⟩, ⟨by omega, by omega⟩, ?_⟩
  obtain ⟨q, hq⟩ : ∃ q : Nat, ((b' - a' : Nat) : Int) / 4 = q := ⟨(b' - a') / 4, by omega⟩
  rw [hq]
  refine ⟨fun i h1 => ∃ (i' : Nat) (z : Int), i.1 = i' ∧ a' ≤ i' ∧ ∃ ys A1, Sl tS5 p n cp ys A1 ∧ St h0 h1 (cA rb [.int .u64 z] 183 + (A1 + F)) ∧ Swp tS5.d a' b' xs ys, fun i _ => (b' - i.1).toNat, ⟨a' + 2 * q - 1, _, by show (_ : Int) - 1 = _; omega, by omega, xs, A, o, s, .refl _⟩, ?_⟩
  rintro ⟨_, _⟩ h1 ⟨i', z, rfl, hi, ys, A1, o, s, w⟩
  dsimp only
  have hl := o.len
  rw [slices_breakPatternsCmpFunc_l35_Step_b1_eq]
  refine quo_intro (by omega) (by omega) (by omega) ?_
  rw [hq]
  refine ⟨⟨by omega, by omega⟩, ⟨by omega, by omega⟩, ⟨by omega, by omega⟩, condP (fun hlt => ?_) (fun hlt => ⟨rfl, ys, A1, o, s.drop, w, trivial⟩)⟩
  refine (Next_ok s).mono fun v h3 ⟨y, hv, s⟩ => ⟨_, hv, mask_lt y m (by omega) (by omega) fun k hk => ⟨⟨by omega, by omega⟩, ?_⟩⟩
  have fin : ∀ u : Nat, u < b' - a' → slices_breakPatternsCmpFunc_l35_Step_b2 p n cp a' ((b' - a' : Nat) : Int) (some ⟨rb, 0, none⟩) m i' u h3 (fun s' h' => (∃ (i' : Nat) (z : Int), s'.1 = i' ∧ a' ≤ i' ∧ ∃ ys A1, Sl tS5 p n cp ys A1 ∧ St h0 h' (cA rb [.int .u64 z] 183 + (A1 + F)) ∧ Swp tS5.d a' b' xs ys) ∧ (b' - s'.1).toNat < (b' - (i' : Int)).toNat) (fun v h' => v = .tuple #[] ∧ OutS5 h0 p n cp a' b' xs F h' fun _ => True) := by
    intro u hu
    rw [slices_breakPatternsCmpFunc_l35_Step_b2_eq]
    have s := s.to (B := A1 + (cA rb [.int .u64 y] 183 + F))
    refine ⟨⟨by omega, by omega⟩, ⟨by omega, by omega⟩, swS5 (u' := i') (v' := a' + u) o s rfl (by push_cast; rfl) (by omega) (by omega) fun h6 A6 o6 s6 => ?_⟩
    rw [slices_breakPatternsCmpFunc_l35_Step_b3_eq]
    exact ⟨⟨by omega, by omega⟩, ⟨i' + 1, y, by push_cast; rfl, by omega, _, A6, o6, s6.to, .step w (by omega) (by omega) (by omega) (by omega) (by omega)⟩, by omega⟩
  refine condP (fun hk2 => ⟨⟨by omega, by omega⟩, ?_⟩) (fun hk2 => fin k (by omega))
  have := fin (k - (b' - a')) (by omega)
  rwa [show ((k - (b' - a') : Nat) : Int) = (k : Int) - ((b' - a' : Nat) : Int) by omega] at this
end Go.Proofs.YtdlkohenamlnaaaGreat

/- Sorting: partition, partitionEqual. -/
set_option maxRecDepth 100000
namespace Go.Proofs.YtdlkohenamlnaaaGreat
open Go Go.Sx
abbrev PInvS5 (cf : S5 → S5 → Int) (h0 : Hp) (p : Option Addr) (n cp a' b' : Nat) (xs : List S5) (F : Bag) (i' J : Nat) (h : Hp) : Prop := a' + 1 ≤ i' ∧ i' ≤ b' ∧ a' + 1 ≤ J ∧ J ≤ b' ∧ OutS5 h0 p n cp a' b' xs F h (fun ys => LoR tS5.d (fun x y : S5 => cf x y < 0) a' i' ys ∧ HiR tS5.d (fun x y : S5 => cf x y < 0) a' J b' ys)
abbrev PSt1S5 (cf : S5 → S5 → Int) (h0 : Hp) (p : Option Addr) (n cp a' b' : Nat) (xs : List S5) (F : Bag) (i' J : Nat) (h : Hp) : Prop := a' + 1 ≤ i' ∧ i' ≤ b' ∧ a' + 1 ≤ J ∧ J ≤ b' ∧ OutS5 h0 p n cp a' b' xs F h (fun ys => LoR tS5.d (fun x y : S5 => cf x y < 0) a' i' ys ∧ HiR tS5.d (fun x y : S5 => cf x y < 0) a' J b' ys ∧ (i' < J → ¬ (fun x y : S5 => cf x y < 0) (ys.getD i' tS5.d) (ys.getD a' tS5.d)))
abbrev PSt2S5 (cf : S5 → S5 → Int) (h0 : Hp) (p : Option Addr) (n cp a' b' : Nat) (xs : List S5) (F : Bag) (i' J : Nat) (h : Hp) : Prop := a' + 1 ≤ i' ∧ i' ≤ b' ∧ a' + 1 ≤ J ∧ J ≤ b' ∧ OutS5 h0 p n cp a' b' xs F h (fun ys => LoR tS5.d (fun x y : S5 => cf x y < 0) a' i' ys ∧ HiR tS5.d (fun x y : S5 => cf x y < 0) a' J b' ys ∧ (i' < J → ¬ (fun x y : S5 => cf x y < 0) (ys.getD i' tS5.d) (ys.getD a' tS5.d)) ∧ (i' < J → (fun x y : S5 => cf x y < 0) (ys.getD (J - 1) tS5.d) (ys.getD a' tS5.d)))
theorem partitionS5 {h0 h : Hp} {p : Option Addr} {n cp a' b' pv' : Nat} {a b pv : Int} {xs : List S5} {A F : Bag} {cmp : Value} {cf : S5 → S5 → Int} {P : S5 → Prop} (hX : CmpS5 h0 cmp cf P) (ho : OrdP (fun x y : S5 => cf x y < 0)) (s : St h0 h (A + F)) (o : Sl tS5 p n cp xs A) (hP : ∀ k, k < n → P (xs.getD k tS5.d)) (ea : a = (a' : Int)) (eb : b = (b' : Int)) (ev : pv = (pv' : Int)) (hpv : a' ≤ pv' ∧ pv' < b') (hb : b' ≤ n) (hn : n < 1000000) :
    HCalls Tryz.prog 131 #[.slice p n cp, .int .i64 a, .int .i64 b, .int .i64 pv, cmp] h (fun v h' => ∃ (m : Nat) (bb : Bool), v = .tuple #[.int .i64 (m : Int), .bool bb] ∧ a' ≤ m ∧ m < b' ∧ OutS5 h0 p n cp a' b' xs F h' (PartR tS5.d (fun x y : S5 => cf x y < 0) a' b' m)) := by
  subst ea eb ev
  have hl0 := o.len
  refine slices_partitionCmpFunc_l35_Step_call ?_
  generalize hR : (fun v h' => ∃ (m : Nat) (bb : Bool), v = Value.tuple #[.int .i64 (m : Int), .bool bb] ∧ a' ≤ m ∧ m < b' ∧ OutS5 h0 p n cp a' b' xs F h' (PartR tS5.d (fun x y : S5 => cf x y < 0) a' b' m)) = R
  have hRi : ∀ (v : Value) (h' : Hp) (m : Nat) (bb : Bool), v = .tuple #[.int .i64 (m : Int), .bool bb] → a' ≤ m → m < b' → OutS5 h0 p n cp a' b' xs F h' (PartR tS5.d (fun x y : S5 => cf x y < 0) a' b' m) → R v h' := by
    intro v h' m bb h1 h2 h3 h4; rw [← hR]; exact ⟨m, bb, h1, h2, h3, h4⟩
  clear hR
  have b13 : ∀ (i' J : Nat) (h' : Hp) (nx : Int × Int × Unit → Hp → Prop) , PSt2S5 cf h0 p n cp a' b' xs F i' J h' → (∀ h', PInvS5 cf h0 p n cp a' b' xs F (i' + 1) (J - 1) h' → i' < J → nx ((i' : Int) + 1, (J : Int) - 1 - 1, ()) h') → slices_partitionCmpFunc_l35_Step_b13 p n cp a' cmp i' ((J : Int) - 1) h' nx R := by
    rintro i' J h' nx ⟨hi1, hi2, hJ1, hJ2, ys, A1, o, s, w, lo, hi, hst, hs2⟩ hnx 
    have hl := o.len
    rw [slices_partitionCmpFunc_l35_Step_b13_eq]
    refine condP (fun hlt => ?_) (fun hlt => ?_)
    · rw [slices_partitionCmpFunc_l35_Step_b14_eq]
      refine swS5 (u' := J - 1) (v' := a') o s (by omega) rfl (by omega) (by omega) fun h6 A6 o6 s6 => ?_
      refine hRi _ _ (J - 1) false (by rw [show ((J - 1 : Nat) : Int) = (J : Int) - 1 by omega]) (by omega) (by omega) ⟨_, A6, o6, s6, .step w (by omega) (by omega) (by omega) (by omega) (by omega), part_end (by omega) hi2 (by omega) (by omega) lo hi⟩
    · refine swS5 (u' := i') (v' := J - 1) o s rfl (by omega) (by omega) (by omega) fun h6 A6 o6 s6 => ⟨⟨by omega, by omega⟩, ⟨by omega, by omega⟩, ?_⟩
      have hs2 := hs2 (by omega)
      exact hnx _ ⟨by omega, by omega, by omega, by omega, _, A6, o6, s6, .step w (by omega) (by omega) (by omega) (by omega) (by omega), part_swap (by omega) (by omega) hJ2 (by omega) lo hi (hst (by omega)) hs2⟩ (by omega)
  have b10 : ∀ (i' J : Nat) (h' : Hp) (nx : Int × Int × Unit → Hp → Prop) , PSt1S5 cf h0 p n cp a' b' xs F i' J h' → (∀ i2 J2 h', i' + 1 ≤ i2 → J2 + 1 ≤ J → PInvS5 cf h0 p n cp a' b' xs F i2 J2 h' → nx ((i2 : Int), (J2 : Int) - 1, ()) h') → slices_partitionCmpFunc_l35_Step_b10 p n cp a' cmp i' ((J : Int) - 1) h' nx R := by
    rintro i' J h' nx hI hnx 
    rw [slices_partitionCmpFunc_l35_Step_b10_eq]
    refine ⟨fun j h2 => ∃ J2 : Nat, j.1 = (J2 : Int) - 1 ∧ J2 ≤ J ∧ PSt1S5 cf h0 p n cp a' b' xs F i' J2 h2, fun j _ => (j.1 + 1).toNat, ⟨J, rfl, Nat.le_refl _, hI⟩, ?_⟩
    clear hI
    rintro ⟨_, _⟩ h2 ⟨J2, rfl, hJJ, hi1, hi2, hJ1, hJ2, ys, A1, o, s, w, lo, hi, hst⟩
    dsimp only
    have hl := o.len
    have hP := w.allN hl0 hP
    have ch := fun (h3 : Hp) (s : St h0 h3 (A1 + F)) (g : i' < J2 → (fun x y : S5 => cf x y < 0) (ys.getD (J2 - 1) tS5.d) (ys.getD a' tS5.d)) => b13 i' J2 h3 nx ⟨hi1, hi2, hJ1, hJ2, ys, A1, o, s, w, lo, hi, hst, g⟩ fun h' hp hq => by have := hnx (i' + 1) (J2 - 1) h' (by omega) (by omega) hp; rwa [show ((i' + 1 : Nat) : Int) = (i' : Int) + 1 by push_cast; rfl, show ((J2 - 1 : Nat) : Int) - 1 = (J2 : Int) - 1 - 1 by omega] at this
    rw [slices_partitionCmpFunc_l35_Step_b11_eq]
    refine condP (fun hlt => ?_) (fun hlt => ch _ s fun h => by omega)
    have r := o.rd s
    refine ldS5 (i' := J2 - 1) r (by omega) (by omega) (ldS5 (i' := a') r rfl (by omega) ?_)
    refine hX _ _ _ _ s.ext (hP _ (by omega)) (hP _ (by omega)) fun h5 e5 => ⟨_, rfl, ?_⟩; have s := s.grow e5
    refine condN (fun hc => ?_) (fun hc => ch _ s fun _ => hc)
    rw [slices_partitionCmpFunc_l35_Step_b12_eq]
    exact ⟨⟨by omega, by omega⟩, ⟨J2 - 1, by omega, by omega, hi1, hi2, by omega, by omega, ys, A1, o, s, w, lo, hi_next hi hc, fun h => hst (by omega)⟩, by omega⟩
  have b8 : ∀ (i' J : Nat) (h' : Hp) (nx : Int × Int × Unit → Hp → Prop) , PInvS5 cf h0 p n cp a' b' xs F i' J h' → (∀ i2 J2 h', i' + 1 ≤ i2 → J2 + 1 ≤ J → PInvS5 cf h0 p n cp a' b' xs F i2 J2 h' → nx ((i2 : Int), (J2 : Int) - 1, ()) h') → LoopVC (((i' : Int), ()) : Int × Unit) h' (fun (nx1 : Int × Unit → Hp → Prop) (s4 : Int × Unit) h36 => slices_partitionCmpFunc_l35_Step_b8 s4.1 p n cp a' cmp ((J : Int) - 1) h36 nx nx1 R) := by
    rintro i' J h' nx hI hnx 
    refine ⟨fun i h2 => ∃ i2 : Nat, i.1 = (i2 : Int) ∧ i' ≤ i2 ∧ PInvS5 cf h0 p n cp a' b' xs F i2 J h2, fun i _ => (b' - i.1).toNat, ⟨i', rfl, Nat.le_refl _, hI⟩, ?_⟩
    clear hI
    rintro ⟨_, _⟩ h2 ⟨i2, rfl, hii, hi1, hi2, hJ1, hJ2, ys, A1, o, s, w, lo, hi⟩
    dsimp only
    have hl := o.len
    have hP := w.allN hl0 hP
    have ch := fun (h3 : Hp) (s : St h0 h3 (A1 + F)) (g : i2 < J → ¬ (fun x y : S5 => cf x y < 0) (ys.getD i2 tS5.d) (ys.getD a' tS5.d)) => b10 i2 J h3 nx ⟨hi1, hi2, hJ1, hJ2, ys, A1, o, s, w, lo, hi, g⟩ fun i3 J3 h' g1 g2 g3 => hnx i3 J3 h' (by omega) (by omega) g3
    rw [slices_partitionCmpFunc_l35_Step_b8_eq]
    refine condP (fun hlt => ?_) (fun hlt => ch _ s fun h => by omega)
    have r := o.rd s
    refine ldS5 (i' := i2) r rfl (by omega) (ldS5 (i' := a') r rfl (by omega) ?_)
    refine hX _ _ _ _ s.ext (hP _ (by omega)) (hP _ (by omega)) fun h5 e5 => ⟨_, rfl, ?_⟩; have s := s.grow e5
    refine condP (fun hc => ?_) (fun hc => ch _ s fun _ => hc)
    rw [slices_partitionCmpFunc_l35_Step_b9_eq]
    exact ⟨⟨by omega, by omega⟩, ⟨i2 + 1, by push_cast; rfl, by omega, by omega, by omega, hJ1, hJ2, ys, A1, o, s, w, lo_next lo hc, hi⟩, by omega⟩
  have b7 : ∀ (i' J : Nat) (h' : Hp), PInvS5 cf h0 p n cp a' b' xs F i' J h' → LoopVC ((i', (J : Int) - 1, ()) : Int × Int × Unit) h' (fun (nx0 : Int × Int × Unit → Hp → Prop) (s3 : Int × Int × Unit) h35 => slices_partitionCmpFunc_l35_Step_b7 s3.1 s3.2.1 p n cp a' cmp h35 nx0 R) := by
    intro i' J h' hI
    refine ⟨fun ij h2 => ∃ i2 J2 : Nat, ij.1 = (i2 : Int) ∧ ij.2.1 = (J2 : Int) - 1 ∧ PInvS5 cf h0 p n cp a' b' xs F i2 J2 h2, fun ij _ => (b' - ij.1).toNat + (ij.2.1 + 1).toNat, ⟨i', J, rfl, rfl, hI⟩, ?_⟩
    clear hI
    rintro ⟨_, _, _⟩ h2 ⟨i2, J2, rfl, rfl, hI⟩
    dsimp only
    rw [slices_partitionCmpFunc_l35_Step_b7_eq]
    refine b8 i2 J2 h2 _ hI fun i3 J3 h3 g1 g2 hI3 => ⟨⟨i3, J3, rfl, rfl, hI3⟩, ?_⟩
    have := hI.1
    have := hI.2.1
    have := hI3.2.1
    dsimp only
    omega
  have b6 : ∀ (i' J : Nat) (h' : Hp) , PSt2S5 cf h0 p n cp a' b' xs F i' J h' → slices_partitionCmpFunc_l35_Step_b6 p n cp a' cmp i' ((J : Int) - 1) h' R := by
    rintro i' J h' ⟨hi1, hi2, hJ1, hJ2, ys, A1, o, s, w, lo, hi, hst, hs2⟩
    have hl := o.len
    rw [slices_partitionCmpFunc_l35_Step_b6_eq]
    refine condP (fun hlt => ?_) (fun hlt => ?_)
    · refine swS5 (u' := J - 1) (v' := a') o s (by omega) rfl (by omega) (by omega) fun h6 A6 o6 s6 => ?_
      refine hRi _ _ (J - 1) true (by rw [show ((J - 1 : Nat) : Int) = (J : Int) - 1 by omega]) (by omega) (by omega) ⟨_, A6, o6, s6, .step w (by omega) (by omega) (by omega) (by omega) (by omega), part_end (by omega) hi2 (by omega) (by omega) lo hi⟩
    · refine swS5 (u' := i') (v' := J - 1) o s rfl (by omega) (by omega) (by omega) fun h6 A6 o6 s6 => ⟨⟨by omega, by omega⟩, ⟨by omega, by omega⟩, ?_⟩
      have hs2 := hs2 (by omega)
      have := b7 (i' + 1) (J - 1) h6 ⟨by omega, by omega, by omega, by omega, _, A6, o6, s6, .step w (by omega) (by omega) (by omega) (by omega) (by omega), part_swap (by omega) (by omega) hJ2 (by omega) lo hi (hst (by omega)) hs2⟩
      rwa [show ((i' + 1 : Nat) : Int) = (i' : Int) + 1 by push_cast; rfl, show ((J - 1 : Nat) : Int) - 1 = (J : Int) - 1 - 1 by omega] at this
  have b3 : ∀ (i' J : Nat) (h' : Hp) , PSt1S5 cf h0 p n cp a' b' xs F i' J h' → slices_partitionCmpFunc_l35_Step_b3 p n cp a' cmp i' ((J : Int) - 1) h' R := by
    rintro i' J h' hI 
    rw [slices_partitionCmpFunc_l35_Step_b3_eq]
    refine ⟨fun j h2 => ∃ J2 : Nat, j.1 = (J2 : Int) - 1 ∧ J2 ≤ J ∧ PSt1S5 cf h0 p n cp a' b' xs F i' J2 h2, fun j _ => (j.1 + 1).toNat, ⟨J, rfl, Nat.le_refl _, hI⟩, ?_⟩
    clear hI
    rintro ⟨_, _⟩ h2 ⟨J2, rfl, hJJ, hi1, hi2, hJ1, hJ2, ys, A1, o, s, w, lo, hi, hst⟩
    dsimp only
    have hl := o.len
    have hP := w.allN hl0 hP
    have ch := fun (h3 : Hp) (s : St h0 h3 (A1 + F)) (g : i' < J2 → (fun x y : S5 => cf x y < 0) (ys.getD (J2 - 1) tS5.d) (ys.getD a' tS5.d)) => b6 i' J2 h3  ⟨hi1, hi2, hJ1, hJ2, ys, A1, o, s, w, lo, hi, hst, g⟩ 
    rw [slices_partitionCmpFunc_l35_Step_b4_eq]
    refine condP (fun hlt => ?_) (fun hlt => ch _ s fun h => by omega)
    have r := o.rd s
    refine ldS5 (i' := J2 - 1) r (by omega) (by omega) (ldS5 (i' := a') r rfl (by omega) ?_)
    refine hX _ _ _ _ s.ext (hP _ (by omega)) (hP _ (by omega)) fun h5 e5 => ⟨_, rfl, ?_⟩; have s := s.grow e5
    refine condN (fun hc => ?_) (fun hc => ch _ s fun _ => hc)
    rw [slices_partitionCmpFunc_l35_Step_b5_eq]
    exact ⟨⟨by omega, by omega⟩, ⟨J2 - 1, by omega, by omega, hi1, hi2, by omega, by omega, ys, A1, o, s, w, lo, hi_next hi hc, fun h => hst (by omega)⟩, by omega⟩
  have b1 : ∀ (i' J : Nat) (h' : Hp) , PInvS5 cf h0 p n cp a' b' xs F i' J h' → LoopVC (((i' : Int), ()) : Int × Unit) h' (fun (nx1 : Int × Unit → Hp → Prop) (s4 : Int × Unit) h36 => slices_partitionCmpFunc_l35_Step_b1 s4.1 p n cp a' cmp ((J : Int) - 1) h36 nx1 R) := by
    rintro i' J h' hI 
    refine ⟨fun i h2 => ∃ i2 : Nat, i.1 = (i2 : Int) ∧ i' ≤ i2 ∧ PInvS5 cf h0 p n cp a' b' xs F i2 J h2, fun i _ => (b' - i.1).toNat, ⟨i', rfl, Nat.le_refl _, hI⟩, ?_⟩
    clear hI
    rintro ⟨_, _⟩ h2 ⟨i2, rfl, hii, hi1, hi2, hJ1, hJ2, ys, A1, o, s, w, lo, hi⟩
    dsimp only
    have hl := o.len
    have hP := w.allN hl0 hP
    have ch := fun (h3 : Hp) (s : St h0 h3 (A1 + F)) (g : i2 < J → ¬ (fun x y : S5 => cf x y < 0) (ys.getD i2 tS5.d) (ys.getD a' tS5.d)) => b3 i2 J h3  ⟨hi1, hi2, hJ1, hJ2, ys, A1, o, s, w, lo, hi, g⟩ 
    rw [slices_partitionCmpFunc_l35_Step_b1_eq]
    refine condP (fun hlt => ?_) (fun hlt => ch _ s fun h => by omega)
    have r := o.rd s
    refine ldS5 (i' := i2) r rfl (by omega) (ldS5 (i' := a') r rfl (by omega) ?_)
    refine hX _ _ _ _ s.ext (hP _ (by omega)) (hP _ (by omega)) fun h5 e5 => ⟨_, rfl, ?_⟩; have s := s.grow e5
    refine condP (fun hc => ?_) (fun hc => ch _ s fun _ => hc)
    rw [slices_partitionCmpFunc_l35_Step_b2_eq]
    exact ⟨⟨by omega, by omega⟩, ⟨i2 + 1, by push_cast; rfl, by omega, by omega, by omega, hJ1, hJ2, ys, A1, o, s, w, lo_next lo hc, hi⟩, by omega⟩
  rw [slices_partitionCmpFunc_l35_Step_b0_eq]
  refine swS5 (u' := a') (v' := pv') o s rfl rfl (by omega) (by omega) fun h6 A6 o6 s6 => ⟨⟨by omega, by omega⟩, ⟨by omega, by omega⟩, ?_⟩
  have := b1 (a' + 1) b' h6 ⟨Nat.le_refl _, by omega, by omega, Nat.le_refl _, _, A6, o6, s6, .one (Nat.le_refl _) (by omega) (by omega) (by omega) (by omega), fun k h1 h2 => by omega, fun k h1 h2 => by omega⟩
  rwa [show ((a' + 1 : Nat) : Int) = (a' : Int) + 1 by push_cast; rfl] at this
end Go.Proofs.YtdlkohenamlnaaaGreat

/- Sorting: partitionEqual, partialInsertionSort. -/
set_option maxRecDepth 100000
namespace Go.Proofs.YtdlkohenamlnaaaGreat
open Go Go.Sx
abbrev EInvS5 (cf : S5 → S5 → Int) (h0 : Hp) (p : Option Addr) (n cp a' b' : Nat) (x : S5) (xs : List S5) (F : Bag) (i' J : Nat) (h : Hp) : Prop := a' + 1 ≤ i' ∧ i' ≤ b' ∧ a' + 1 ≤ J ∧ J ≤ b' ∧ OutS5 h0 p n cp a' b' xs F h (fun ys => EqR tS5.d (fun x y : S5 => cf x y < 0) x a' i' ys)
abbrev EStS5 (cf : S5 → S5 → Int) (h0 : Hp) (p : Option Addr) (n cp a' b' : Nat) (x : S5) (xs : List S5) (F : Bag) (i' J : Nat) (h : Hp) : Prop := a' + 1 ≤ i' ∧ i' ≤ b' ∧ a' + 1 ≤ J ∧ J ≤ b' ∧ OutS5 h0 p n cp a' b' xs F h (fun ys => EqR tS5.d (fun x y : S5 => cf x y < 0) x a' i' ys ∧ (i' < J → ¬ (fun x y : S5 => cf x y < 0) (ys.getD a' tS5.d) (ys.getD (J - 1) tS5.d)))
theorem partitionEqualS5 {h0 h : Hp} {p : Option Addr} {n cp a' b' pv' : Nat} {a b pv : Int} {xs : List S5} {A F : Bag} {cmp : Value} {cf : S5 → S5 → Int} {P : S5 → Prop} (hX : CmpS5 h0 cmp cf P) (ho : OrdP (fun x y : S5 => cf x y < 0)) (s : St h0 h (A + F)) (o : Sl tS5 p n cp xs A) (hP : ∀ k, k < n → P (xs.getD k tS5.d)) (ea : a = (a' : Int)) (eb : b = (b' : Int)) (ev : pv = (pv' : Int)) (hpv : a' ≤ pv' ∧ pv' < b') (hb : b' ≤ n) (hn : n < 1000000) :
    HCalls Tryz.prog 130 #[.slice p n cp, .int .i64 a, .int .i64 b, .int .i64 pv, cmp] h (fun v h' => ∃ m : Nat, v = .int .i64 (m : Int) ∧ a' + 1 ≤ m ∧ m ≤ b' ∧ OutS5 h0 p n cp a' b' xs F h' (EqR tS5.d (fun x y : S5 => cf x y < 0) (xs.getD pv' tS5.d) a' m)) := by
  subst ea eb ev
  have hl0 := o.len
  refine slices_partitionEqualCmpFunc_l35_Step_call ?_
  generalize hx : xs.getD pv' tS5.d = x
  generalize hR : (fun v h' => ∃ m : Nat, v = Value.int .i64 (m : Int) ∧ a' + 1 ≤ m ∧ m ≤ b' ∧ OutS5 h0 p n cp a' b' xs F h' (EqR tS5.d (fun x y : S5 => cf x y < 0) x a' m)) = R
  have hRi : ∀ (v : Value) (h' : Hp) (m : Nat), v = .int .i64 (m : Int) → a' + 1 ≤ m → m ≤ b' → OutS5 h0 p n cp a' b' xs F h' (EqR tS5.d (fun x y : S5 => cf x y < 0) x a' m) → R v h' := by
    intro v h' m h1 h2 h3 h4; rw [← hR]; exact ⟨m, h1, h2, h3, h4⟩
  clear hR
  have b7 : ∀ (i' J : Nat) (h' : Hp) (nx : Int × Int × Unit → Hp → Prop), EStS5 cf h0 p n cp a' b' x xs F i' J h' → (∀ h', EInvS5 cf h0 p n cp a' b' x xs F (i' + 1) (J - 1) h' → i' < J → nx ((i' : Int) + 1, (J : Int) - 1 - 1, ()) h') → slices_partitionEqualCmpFunc_l35_Step_b7 p n cp a' cmp i' ((J : Int) - 1) h' nx R := by
    rintro i' J h' nx ⟨hi1, hi2, hJ1, hJ2, ys, A1, o, s, w, he, hs2⟩ hnx
    have hl := o.len
    rw [slices_partitionEqualCmpFunc_l35_Step_b7_eq]
    refine condP (fun hlt => ?_) (fun hlt => ?_)
    · rw [slices_partitionEqualCmpFunc_l35_Step_b8_eq]
      exact hRi _ _ i' rfl hi1 hi2 ⟨ys, A1, o, s, w, he⟩
    · refine swS5 (u' := i') (v' := J - 1) o s rfl (by omega) (by omega) (by omega) fun h6 A6 o6 s6 => ⟨⟨by omega, by omega⟩, ⟨by omega, by omega⟩, ?_⟩
      exact hnx _ ⟨by omega, by omega, by omega, by omega, _, A6, o6, s6, .step w (by omega) (by omega) (by omega) (by omega) (by omega), eq_swap (by omega) (by omega) (by omega) he (hs2 (by omega))⟩ (by omega)
  have b4 : ∀ (i' J : Nat) (h' : Hp) (nx : Int × Int × Unit → Hp → Prop), EInvS5 cf h0 p n cp a' b' x xs F i' J h' → (∀ i2 J2 h', i' + 1 ≤ i2 → J2 + 1 ≤ J → EInvS5 cf h0 p n cp a' b' x xs F i2 J2 h' → nx ((i2 : Int), (J2 : Int) - 1, ()) h') → slices_partitionEqualCmpFunc_l35_Step_b4 p n cp a' cmp i' ((J : Int) - 1) h' nx R := by
    rintro i' J h' nx hI hnx
    rw [slices_partitionEqualCmpFunc_l35_Step_b4_eq]
    refine ⟨fun j h2 => ∃ J2 : Nat, j.1 = (J2 : Int) - 1 ∧ J2 ≤ J ∧ EInvS5 cf h0 p n cp a' b' x xs F i' J2 h2, fun j _ => (j.1 + 1).toNat, ⟨J, rfl, Nat.le_refl _, hI⟩, ?_⟩
    clear hI
    rintro ⟨_, _⟩ h2 ⟨J2, rfl, hJJ, hi1, hi2, hJ1, hJ2, ys, A1, o, s, w, he⟩
    dsimp only
    have hl := o.len
    have hP := w.allN hl0 hP
    have ch := fun (h3 : Hp) (s : St h0 h3 (A1 + F)) (g : i' < J2 → ¬ (fun x y : S5 => cf x y < 0) (ys.getD a' tS5.d) (ys.getD (J2 - 1) tS5.d)) => b7 i' J2 h3 nx ⟨hi1, hi2, hJ1, hJ2, ys, A1, o, s, w, he, g⟩ fun h' hp hq => by have := hnx (i' + 1) (J2 - 1) h' (by omega) (by omega) hp; rwa [show ((i' + 1 : Nat) : Int) = (i' : Int) + 1 by push_cast; rfl, show ((J2 - 1 : Nat) : Int) - 1 = (J2 : Int) - 1 - 1 by omega] at this
    rw [slices_partitionEqualCmpFunc_l35_Step_b5_eq]
    refine condP (fun hlt => ?_) (fun hlt => ch _ s fun h => by omega)
    have r := o.rd s
    refine ldS5 (i' := a') r rfl (by omega) (ldS5 (i' := J2 - 1) r (by omega) (by omega) ?_)
    refine hX _ _ _ _ s.ext (hP _ (by omega)) (hP _ (by omega)) fun h5 e5 => ⟨_, rfl, ?_⟩; have s := s.grow e5
    refine condP (fun hc => ?_) (fun hc => ch _ s fun _ => hc)
    rw [slices_partitionEqualCmpFunc_l35_Step_b6_eq]
    exact ⟨⟨by omega, by omega⟩, ⟨J2 - 1, by omega, by omega, hi1, hi2, by omega, by omega, ys, A1, o, s, w, he⟩, by omega⟩
  have b2 : ∀ (i' J : Nat) (h' : Hp) (nx : Int × Int × Unit → Hp → Prop), EInvS5 cf h0 p n cp a' b' x xs F i' J h' → (∀ i2 J2 h', i' + 1 ≤ i2 → J2 + 1 ≤ J → EInvS5 cf h0 p n cp a' b' x xs F i2 J2 h' → nx ((i2 : Int), (J2 : Int) - 1, ()) h') → LoopVC (((i' : Int), ()) : Int × Unit) h' (fun (nx1 : Int × Unit → Hp → Prop) (s4 : Int × Unit) h36 => slices_partitionEqualCmpFunc_l35_Step_b2 s4.1 p n cp a' cmp ((J : Int) - 1) h36 nx nx1 R) := by
    rintro i' J h' nx hI hnx
    refine ⟨fun i h2 => ∃ i2 : Nat, i.1 = (i2 : Int) ∧ i' ≤ i2 ∧ EInvS5 cf h0 p n cp a' b' x xs F i2 J h2, fun i _ => (b' - i.1).toNat, ⟨i', rfl, Nat.le_refl _, hI⟩, ?_⟩
    clear hI
    rintro ⟨_, _⟩ h2 ⟨i2, rfl, hii, hi1, hi2, hJ1, hJ2, ys, A1, o, s, w, he⟩
    dsimp only
    have hl := o.len
    have hP := w.allN hl0 hP
    have ch := fun (h3 : Hp) (s : St h0 h3 (A1 + F)) => b4 i2 J h3 nx ⟨hi1, hi2, hJ1, hJ2, ys, A1, o, s, w, he⟩ fun i3 J3 h' g1 g2 g3 => hnx i3 J3 h' (by omega) (by omega) g3
    rw [slices_partitionEqualCmpFunc_l35_Step_b2_eq]
    refine condP (fun hlt => ?_) (fun hlt => ch _ s)
    have r := o.rd s
    refine ldS5 (i' := a') r rfl (by omega) (ldS5 (i' := i2) r rfl (by omega) ?_)
    refine hX _ _ _ _ s.ext (hP _ (by omega)) (hP _ (by omega)) fun h5 e5 => ⟨_, rfl, ?_⟩; have s := s.grow e5
    refine condN (fun hc => ?_) (fun hc => ch _ s)
    rw [slices_partitionEqualCmpFunc_l35_Step_b3_eq]
    exact ⟨⟨by omega, by omega⟩, ⟨i2 + 1, by push_cast; rfl, by omega, by omega, by omega, hJ1, hJ2, ys, A1, o, s, w, eq_next he hc⟩, by omega⟩
  rw [slices_partitionEqualCmpFunc_l35_Step_b0_eq]
  refine swS5 (u' := a') (v' := pv') o s rfl rfl (by omega) (by omega) fun h6 A6 o6 s6 => ⟨⟨by omega, by omega⟩, ⟨by omega, by omega⟩, ?_⟩
  have hx2 : (swapL tS5.d xs a' pv').getD a' tS5.d = x := by
    rw [swapL_get (by omega) (by omega)]
    by_cases hk : a' = pv'
    · rw [if_pos hk, hk, hx]
    · rw [if_neg hk, if_pos rfl, hx]
  refine ⟨fun ij h2 => ∃ i2 J2 : Nat, ij.1 = (i2 : Int) ∧ ij.2.1 = (J2 : Int) - 1 ∧ EInvS5 cf h0 p n cp a' b' x xs F i2 J2 h2, fun ij _ => (b' - ij.1).toNat + (ij.2.1 + 1).toNat, ⟨a' + 1, b', by push_cast; rfl, rfl, Nat.le_refl _, by omega, by omega, Nat.le_refl _, _, A6, o6, s6, .one (Nat.le_refl _) (by omega) (by omega) (by omega) (by omega), hx2, fun k h1 h2 => by rw [show k = a' by omega, hx2]; exact ho.irr _⟩, ?_⟩
  rintro ⟨_, _, _⟩ h2 ⟨i2, J2, rfl, rfl, hI⟩
  dsimp only
  rw [slices_partitionEqualCmpFunc_l35_Step_b1_eq]
  refine b2 i2 J2 h2 _ hI fun i3 J3 h3 g1 g2 hI3 => ⟨⟨i3, J3, rfl, rfl, hI3⟩, ?_⟩
  have := hI.1
  have := hI.2.1
  have := hI3.2.1
  dsimp only
  omega
theorem partialInsertionSortS5 {h0 h : Hp} {p : Option Addr} {n cp a' b' : Nat} {a b : Int} {xs : List S5} {A F : Bag} {cmp : Value} {cf : S5 → S5 → Int} {P : S5 → Prop} (hX : CmpS5 h0 cmp cf P) (ho : OrdP (fun x y : S5 => cf x y < 0)) (s : St h0 h (A + F)) (o : Sl tS5 p n cp xs A) (hP : ∀ k, k < n → P (xs.getD k tS5.d)) (ea : a = (a' : Int)) (eb : b = (b' : Int)) (hab : a' < b') (hb : b' ≤ n) (hn : n < 1000000)
    (hlow : 0 < a' → ∀ k, a' ≤ k → k < b' → ¬ (fun x y : S5 => cf x y < 0) (xs.getD k tS5.d) (xs.getD (a' - 1) tS5.d)) :
    HCalls Tryz.prog 129 #[.slice p n cp, .int .i64 a, .int .i64 b, cmp] h (fun v h' => ∃ bb : Bool, v = .bool bb ∧ OutS5 h0 p n cp a' b' xs F h' (fun ys => bb = true → SrtR tS5.d (fun x y : S5 => cf x y < 0) a' b' ys)) := by
  subst ea eb
  have hl0 := o.len
  refine slices_partialInsertionSortCmpFunc_l35_Step_call ?_
  generalize hR : (fun v h' => ∃ bb : Bool, v = Value.bool bb ∧ OutS5 h0 p n cp a' b' xs F h' (fun ys => bb = true → SrtR tS5.d (fun x y : S5 => cf x y < 0) a' b' ys)) = R
  have hRf : ∀ (h' : Hp), OutS5 h0 p n cp a' b' xs F h' (fun _ => True) → R (.bool false) h' := by
    rintro h' ⟨ys, A1, o, s, w, _⟩; rw [← hR]; exact ⟨false, rfl, ys, A1, o, s, w, fun h => by cases h⟩
  have hRt : ∀ (h' : Hp), OutS5 h0 p n cp a' b' xs F h' (SrtR tS5.d (fun x y : S5 => cf x y < 0) a' b') → R (.bool true) h' := by
    rintro h' ⟨ys, A1, o, s, w, hs⟩; rw [← hR]; exact ⟨true, rfl, ys, A1, o, s, w, fun _ => hs⟩
  clear hR
  rw [slices_partialInsertionSortCmpFunc_l35_Step_b0_eq]
  refine ⟨⟨by omega, by omega⟩, fun ic h1 => ∃ (i' c : Nat), ic.1 = (i' : Int) ∧ ic.2.1 = (c : Int) ∧ c ≤ 5 ∧ a' + 1 ≤ i' ∧ i' ≤ b' ∧ OutS5 h0 p n cp a' b' xs F h1 (SrtR tS5.d (fun x y : S5 => cf x y < 0) a' i'), fun ic _ => (5 - ic.2.1).toNat, ⟨a' + 1, 0, by push_cast; rfl, rfl, by omega, Nat.le_refl _, by omega, xs, A, o, s, .refl _, srtR_one (by omega)⟩, ?_⟩
  rintro ⟨_, _, _⟩ h1 ⟨i0, c, rfl, rfl, hc5, hi01, hi02, hO⟩
  dsimp only
  rw [slices_partialInsertionSortCmpFunc_l35_Step_b1_eq]
  refine condP (fun hc => ?_) (fun hc => ?_)
  · generalize hNX : (fun (s' : Int × Int × Unit) (h' : Hp) => (∃ (i' c : Nat), s'.1 = (i' : Int) ∧ s'.2.1 = (c : Int) ∧ c ≤ 5 ∧ a' + 1 ≤ i' ∧ i' ≤ b' ∧ OutS5 h0 p n cp a' b' xs F h' (SrtR tS5.d (fun x y : S5 => cf x y < 0) a' i')) ∧ (5 - s'.2.1).toNat < (5 - (c : Int)).toNat) = NX
    have b10 : ∀ (i' : Nat) (h' : Hp), a' + 1 ≤ i' → i' ≤ b' → OutS5 h0 p n cp a' b' xs F h' (SrtR tS5.d (fun x y : S5 => cf x y < 0) a' i') → slices_partialInsertionSortCmpFunc_l35_Step_b10 p n cp a' b' cmp i' c h' NX R := by
      intro i' h' g1 g2 g3
      rw [slices_partialInsertionSortCmpFunc_l35_Step_b10_eq, ← hNX]
      exact ⟨⟨by omega, by omega⟩, ⟨i', c + 1, rfl, by push_cast; rfl, by omega, g1, g2, g3⟩, by dsimp only; omega⟩
    clear hNX
    have b7 : ∀ (i' : Nat) (h' : Hp), a' + 1 ≤ i' → i' ≤ b' → OutS5 h0 p n cp a' b' xs F h' (SrtR tS5.d (fun x y : S5 => cf x y < 0) a' i') → slices_partialInsertionSortCmpFunc_l35_Step_b7 p n cp a' b' cmp i' c h' NX R := by
      intro i' h' g1 g2 g3
      rw [slices_partialInsertionSortCmpFunc_l35_Step_b7_eq]
      refine ⟨⟨by omega, by omega⟩, condP (fun h2 => ⟨⟨by omega, by omega⟩, ?_⟩) (fun _ => b10 i' h' g1 g2 g3)⟩
      refine ⟨fun j h2 => ∃ j' : Nat, j.1 = (j' : Int) ∧ i' + 1 ≤ j' ∧ j' ≤ b' ∧ OutS5 h0 p n cp a' b' xs F h2 (SrtR tS5.d (fun x y : S5 => cf x y < 0) a' i'), fun j _ => (b' - j.1).toNat, ⟨i' + 1, by push_cast; rfl, Nat.le_refl _, by omega, g3⟩, ?_⟩
      clear g3
      rintro ⟨_, _⟩ h2 ⟨j', rfl, hj1, hj2, ys, A1, o, s, w, hs⟩
      dsimp only
      have hl := o.len
      have hP := w.allN hl0 hP
      rw [slices_partialInsertionSortCmpFunc_l35_Step_b9_eq]
      refine condP (fun hlt => ?_) (fun hlt => b10 i' _ g1 g2 ⟨ys, A1, o, s, w, hs⟩)
      have r := o.rd s
      refine ldS5 (i' := j') r rfl (by omega) ⟨⟨by omega, by omega⟩, ldS5 (i' := j' - 1) r (by omega) (by omega) ?_⟩
      refine hX _ _ _ _ s.ext (hP _ (by omega)) (hP _ (by omega)) fun h5 e5 => ⟨_, rfl, ?_⟩; have s := s.grow e5
      refine condN (fun hc => b10 i' _ g1 g2 ⟨ys, A1, o, s, w, hs⟩) (fun hc => ⟨⟨by omega, by omega⟩, ⟨by omega, by omega⟩, ?_⟩)
      refine swS5 (u' := j') (v' := j' - 1) o s rfl (by omega) (by omega) (by omega) fun h6 A6 o6 s6 => ?_
      rw [slices_partialInsertionSortCmpFunc_l35_Step_b11_eq]
      refine ⟨⟨by omega, by omega⟩, ⟨j' + 1, by push_cast; rfl, by omega, by omega, _, A6, o6, s6, .step w (by omega) (by omega) (by omega) (by omega) (by omega), fun x y k1 k2 k3 => ?_⟩, by omega⟩
      rw [swapL_get (by omega) (by omega), swapL_get (by omega) (by omega), if_neg (by omega), if_neg (by omega), if_neg (by omega), if_neg (by omega)]
      exact hs x y k1 k2 k3
    have b5 : ∀ (i' : Nat) (h' : Hp), a' + 1 ≤ i' → i' ≤ b' → OutS5 h0 p n cp a' b' xs F h' (SrtR tS5.d (fun x y : S5 => cf x y < 0) a' i') → slices_partialInsertionSortCmpFunc_l35_Step_b5 p n cp a' b' cmp i' c h' NX R := by
      rintro i' h' g1 g2 ⟨ys, A1, o, s, w, hs⟩
      have hl := o.len
      rw [slices_partialInsertionSortCmpFunc_l35_Step_b5_eq]
      refine condP (fun he => hRt _ ⟨ys, A1, o, s, w, by rw [show i' = b' by omega] at hs; exact hs⟩) (fun hne => ⟨⟨by omega, by omega⟩, condP (fun _ => hRf _ ⟨ys, A1, o, s, w, trivial⟩) (fun _ => ⟨⟨by omega, by omega⟩, ⟨by omega, by omega⟩, ?_⟩)⟩)
      refine swS5 (u' := i') (v' := i' - 1) o s rfl (by omega) (by omega) (by omega) fun h6 A6 o6 s6 => ⟨⟨by omega, by omega⟩, ?_⟩
      have w6 : Swp tS5.d a' b' xs (swapL tS5.d ys i' (i' - 1)) := .step w (by omega) (by omega) (by omega) (by omega) (by omega)
      have hs6 : SrtR tS5.d (fun x y : S5 => cf x y < 0) a' (i' - 1) (swapL tS5.d ys i' (i' - 1)) := fun x y k1 k2 k3 => by
        rw [swapL_get (by omega) (by omega), swapL_get (by omega) (by omega), if_neg (by omega), if_neg (by omega), if_neg (by omega), if_neg (by omega)]
        exact hs x y k1 k2 (by omega)
      generalize swapL tS5.d ys i' (i' - 1) = zs at *
      clear hs w s o hl
      refine condP (fun h2 => ⟨⟨by omega, by omega⟩, ?_⟩) (fun h2 => b7 i' _ g1 g2 ⟨zs, A6, o6, s6, w6, srtR_one (by omega)⟩)
      refine ⟨fun j h2 => ∃ j' : Nat, j.1 = (j' : Int) ∧ a' ≤ j' ∧ j' ≤ i' - 1 ∧ OutS5 h0 p n cp a' b' xs F h2 (InsR tS5.d (fun x y : S5 => cf x y < 0) a' j' (i' - 1)), fun j _ => j.1.toNat, ⟨i' - 1, by dsimp only; omega, by omega, by omega, zs, A6, o6, s6, w6, ins_start hs6⟩, ?_⟩
      clear hs6 w6 s6 o6 zs
      rintro ⟨_, _⟩ h2 ⟨j', rfl, hj1, hj2, ys, A1, o, s, w, hs⟩
      dsimp only
      have hl := o.len
      have hP := w.allN hl0 hP
      have fin := fun (h3 : Hp) (s : St h0 h3 (A1 + F)) (hx : a' < j' → ¬ (fun x y : S5 => cf x y < 0) (ys.getD j' tS5.d) (ys.getD (j' - 1) tS5.d)) => b7 i' h3 g1 g2 ⟨ys, A1, o, s, w, by have := ins_end ho hj1 hs hx; rwa [show i' - 1 + 1 = i' by omega] at this⟩
      rw [slices_partialInsertionSortCmpFunc_l35_Step_b6_eq]
      refine condP (fun hlt => ?_) (fun hlt => fin _ s fun h => by omega)
      have r := o.rd s
      refine ldS5 (i' := j') r rfl (by omega) ⟨⟨by omega, by omega⟩, ldS5 (i' := j' - 1) r (by omega) (by omega) ?_⟩
      refine hX _ _ _ _ s.ext (hP _ (by omega)) (hP _ (by omega)) fun h5 e5 => ⟨_, rfl, ?_⟩; have s := s.grow e5
      refine condN (fun hc => fin _ s fun _ => hc) (fun hc => ⟨⟨by omega, by omega⟩, ⟨by omega, by omega⟩, ?_⟩)
      have hja : a' < j' := by
        rcases Nat.lt_or_ge a' j' with h | h
        · exact h
        · obtain rfl : j' = a' := by omega
          rw [w.out (k := j' - 1) (.inl (by omega))] at hc
          exact absurd hc (w.all (P := fun x => ¬ (fun x y : S5 => cf x y < 0) x (xs.getD (j' - 1) tS5.d)) (hlow (by omega)) j' (Nat.le_refl _) (by omega))
      refine swS5 (u' := j') (v' := j' - 1) o s rfl (by omega) (by omega) (by omega) fun h6 A6 o6 s6 => ?_
      rw [slices_partialInsertionSortCmpFunc_l35_Step_b8_eq]
      exact ⟨⟨by omega, by omega⟩, ⟨j' - 1, by omega, by omega, by omega, _, A6, o6, s6, .step w (by omega) (by omega) (by omega) (by omega) (by omega), ins_swap ho (by omega) hj2 (by omega) hs hc⟩, by omega⟩
    refine ⟨fun i h2 => ∃ i' : Nat, i.1 = (i' : Int) ∧ a' + 1 ≤ i' ∧ i' ≤ b' ∧ OutS5 h0 p n cp a' b' xs F h2 (SrtR tS5.d (fun x y : S5 => cf x y < 0) a' i'), fun i _ => (b' - i.1).toNat, ⟨i0, rfl, hi01, hi02, hO⟩, ?_⟩
    clear hO
    rintro ⟨_, _⟩ h2 ⟨i', rfl, g1, g2, ys, A1, o, s, w, hs⟩
    dsimp only
    have hl := o.len
    have hP := w.allN hl0 hP
    rw [slices_partialInsertionSortCmpFunc_l35_Step_b2_eq]
    refine condP (fun hlt => ?_) (fun hlt => b5 i' _ g1 g2 ⟨ys, A1, o, s, w, hs⟩)
    have r := o.rd s
    refine ldS5 (i' := i') r rfl (by omega) ⟨⟨by omega, by omega⟩, ldS5 (i' := i' - 1) r (by omega) (by omega) ?_⟩
    refine hX _ _ _ _ s.ext (hP _ (by omega)) (hP _ (by omega)) fun h5 e5 => ⟨_, rfl, ?_⟩; have s := s.grow e5
    refine condN (fun hc => ?_) (fun hc => b5 i' _ g1 g2 ⟨ys, A1, o, s, w, hs⟩)
    rw [slices_partialInsertionSortCmpFunc_l35_Step_b4_eq]
    exact ⟨⟨by omega, by omega⟩, ⟨i' + 1, by push_cast; rfl, by omega, by omega, ys, A1, o, s, w, ins_end ho (by omega) (ins_start hs) fun _ => hc⟩, by omega⟩
  · obtain ⟨ys, A1, o, s, w, hs⟩ := hO
    rw [slices_partialInsertionSortCmpFunc_l35_Step_b3_eq]
    exact hRf _ ⟨ys, A1, o, s, w, trivial⟩
end Go.Proofs.YtdlkohenamlnaaaGreat
