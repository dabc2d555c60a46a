/- Part N4 N5 N6 N7 U0 SH SI SA P44 ST N8 N9 N10 SL SB of the proof: contracts of functions of the program, and what follows from them. -/
import Derived.Test.YtfkimbdjgadelaaSxP43
import Derived.Test.YtfkimbdjgadelaaSxV
/- A wavelet tree: Get, Rank, Select, Quantile. -/
set_option maxRecDepth 100000
namespace Go.Proofs.Ytfkimbdjgadelaa
open Go Go.Sx
theorem Len_w {h : Hp} {tb : Nat} {xs : List Int} {sg : Int} {H : Nat} (t : WT h tb xs sg H) : HCalls Try.prog 29 #[ptr tb] h (fun v h' => v = .int .i64 (xs.length : Int) ∧ h' = h) := by
  refine wavelet_Tree_Len_call ?_
  rw [wavelet_Tree_Len_b0_eq]
  exact ⟨_, t.cn, rfl, rfl⟩
theorem Space_w {h : Hp} {tb : Nat} {xs : List Int} {sg : Int} {H : Nat} (t : WT h tb xs sg H) : HCalls Try.prog 30 #[ptr tb] h (fun v h' => v = .int .i64 ((xs.length * H : Nat) : Int) ∧ h' = h) := by
  have h1 := t.len
  have h2 := t.hH
  have h3 : xs.length * H ≤ 4096 * 10 := Nat.mul_le_mul h1 h2
  refine wavelet_Tree_Space_call ?_
  rw [wavelet_Tree_Space_b0_eq]
  refine ⟨_, t.cn, _, t.ch, ⟨?_, ?_⟩, by rw [Int.natCast_mul], rfl⟩
  · rw [← Int.natCast_mul]; omega
  · rw [← Int.natCast_mul]; omega
theorem Get_w {h : Hp} {tb : Nat} {xs : List Int} {sg : Int} {H : Nat} (t : WT h tb xs sg H) (i : Int) :
    HCalls Try.prog 23 #[ptr tb, .int .i64 i] h (fun v h' => v = (if 0 ≤ i ∧ i < xs.length then .tuple #[.int .i64 (xs.getD i.toNat 0), .int .i64 0] else .tuple #[.int .i64 0, .int .i64 2]) ∧ Ext h h') := by
  have hH := t.hH
  have hn := t.len
  refine wavelet_Tree_Get_call ?_
  rw [wavelet_Tree_Get_b0_eq]
  refine condP (fun h1 => ⟨by rw [if_neg (by omega)], .refl _⟩) (fun h1 => ⟨_, t.cn, condP (fun h2 => ⟨by rw [if_neg (by omega)], .refl _⟩) (fun h2 => ?_)⟩)
  rw [if_pos ⟨by omega, by omega⟩]
  obtain ⟨i, rfl⟩ := Int.eq_ofNat_of_zero_le (show 0 ≤ i by omega)
  have hi : i < xs.length := by omega
  rw [show Int.toNat (i : Int) = i from Int.toNat_natCast i]
  generalize hx : xs.getD i 0 = x
  have hmem : x ∈ xs := by rw [← hx]; simp [List.getD, hi]
  obtain ⟨hx0, hxs⟩ := t.val x hmem
  have hxH : x < 2 ^ H := by have := t.sgH; omega
  rw [wavelet_Tree_Get_b1_eq]
  refine ⟨⟨by omega, by omega⟩, ?_⟩
  have s := St.start h
  refine (root_ok t i (i + 1) (by omega) (by omega)).mono fun r h2 ⟨hr, x2⟩ => ⟨_, _, _, _, _, _, hr, ?_⟩
  have s := s.grow x2
  refine s.new (cs := [_, _, _, _, _, _]) fun b1 _ _ s => s.wr6 fun h3 s => ?_
  refine ⟨fun _ h' => ∃ k v : Nat, k ≤ H ∧ (v : Int) = up k x ∧ ∃ G, St h h' (cA b1 (ndC xs H k v i (i + 1)) 60 + G), fun _ h' => match cell h' ⟨b1, 0, none⟩ with | some (.int _ n) => ((H : Int) - n).toNat | _ => 0, ⟨H, 0, Nat.le_refl _, (up_top hx0 hxH).symm, _, s.find b1⟩, ?_⟩
  rintro ⟨⟩ h4 ⟨k, v, hk, hv, G, s⟩
  dsimp only
  rw [wavelet_Tree_Get_b2_eq]
  refine ⟨_, s.ld0, _, s.ext.cell t.ch, condP (fun hlt => ?_) (fun hlt => ?_)⟩
  · obtain ⟨k, rfl⟩ : ∃ j, k = j + 1 := ⟨k - 1, by omega⟩
    have hvb : v ≤ 1024 := by
      have h5 := up_lt hx0 hxH hk
      have h6 : (2 : Int) ^ (H - (k + 1)) ≤ 2 ^ 10 := by exact_mod_cast Nat.pow_le_pow_right (by decide : 0 < 2) (by omega : H - (k + 1) ≤ 10)
      have h7 : (2 : Int) ^ 10 = 1024 := by decide
      omega
    have m0 : (match cell h4 ⟨b1, 0, none⟩ with | some (.int _ n) => ((H : Int) - n).toNat | _ => 0) = k + 1 := by rw [s.ld0]; show ((H : Int) - ((H : Int) - ((k + 1 : Nat) : Int))).toNat = k + 1; rw [Int.sub_sub_self]; exact Int.toNat_natCast _
    rw [m0]
    refine s.ld6 ?_
    refine (children_ok (k := k) (t.ext s.ext) (by omega) v i (i + 1) hvb (by omega) (by omega)).mono fun r h5 ⟨hr, x5⟩ => ⟨_, _, _, _, _, _, _, _, _, _, _, _, hr, ?_⟩
    have s := s.grow x5
    refine s.new (cs := [_, _, _, _, _, _]) fun b3 _ _ s => ?_
    refine s.new (cs := [_, _, _, _, _, _]) fun b4 _ _ s => ?_
    refine s.wr6 fun _ s => s.wr6 fun _ s => s.ld6 (s.wr6 fun _ s => ?_)
    have hst := cnt_step (xs := xs) (k := k) (i := i) (v := ((2 * v : Nat) : Int)) hi
    rw [hx] at hst
    have hu := up_succ k x
    have ev0 : ((2 * v : Nat) : Int) = 2 * (v : Int) := by push_cast; rfl
    refine ⟨_, s.ldB, _, s.ldB, condP (fun he => ?_) (fun he => ?_)⟩
    · have hne : up k x ≠ ((2 * v : Nat) : Int) := fun h => by rw [if_pos h] at hst; omega
      refine s.ld6 (s.wr6 fun _ s => ⟨⟨k, 2 * v + 1, by omega, by push_cast; omega, _, s.find b1⟩, ?_⟩)
      rw [s.ld0]
      show ((H : Int) - ((H : Int) - (k : Int))).toNat < k + 1
      rw [Int.sub_sub_self]; omega
    · have heq : up k x = ((2 * v : Nat) : Int) := Classical.byContradiction fun h => he (by rw [if_neg h] at hst; omega)
      refine ⟨⟨k, 2 * v, by omega, heq.symm, _, s.find b1⟩, ?_⟩
      rw [s.ld0]
      show ((H : Int) - ((H : Int) - (k : Int))).toNat < k + 1
      rw [Int.sub_sub_self]; omega
  · obtain rfl : k = 0 := by omega
    rw [up_zero] at hv
    rw [wavelet_Tree_Get_b3_eq]
    exact ⟨_, s.ldB, by rw [hv], s.ext⟩
theorem Rank_w {h : Hp} {tb : Nat} {xs : List Int} {sg : Int} {H : Nat} (t : WT h tb xs sg H) (v i : Int) :
    HCalls Try.prog 25 #[ptr tb, .int .i64 v, .int .i64 i] h (fun r h' => r = (if 0 ≤ v ∧ v < sg ∧ 0 ≤ i ∧ i ≤ xs.length then .tuple #[.int .i64 (cntU xs 0 v i.toNat : Nat), .int .i64 0] else .tuple #[.int .i64 0, .int .i64 2]) ∧ Ext h h') := by
  have hn := t.len
  refine wavelet_Tree_Rank_call ?_
  rw [wavelet_Tree_Rank_b0_eq]
  refine condP (fun h1 => ⟨by rw [if_neg (by omega)], .refl _⟩) (fun h1 => ⟨_, t.cs, condP (fun h2 => ⟨by rw [if_neg (by omega)], .refl _⟩) (fun h2 => ?_)⟩)
  refine condP (fun h3 => ⟨by rw [if_neg (by omega)], .refl _⟩) (fun h3 => ⟨_, t.cn, condP (fun h4 => ⟨by rw [if_neg (by omega)], .refl _⟩) (fun h4 => ?_)⟩)
  rw [if_pos ⟨by omega, by omega, by omega, by omega⟩]
  obtain ⟨i, rfl⟩ := Int.eq_ofNat_of_zero_le (show 0 ≤ i by omega)
  obtain ⟨v, rfl⟩ := Int.eq_ofNat_of_zero_le (show 0 ≤ v by omega)
  have c0 : cntU xs 0 v 0 = 0 := by unfold cntU; simp
  have ci := cntU_le (xs := xs) (k := 0) (v := v) (i := i)
  rw [wavelet_Tree_Rank_b1_eq]
  refine (leaf_ok t v (by omega) 0 i (by omega) (by omega)).mono fun r h2 ⟨hr, x2⟩ => ⟨_, _, _, _, _, _, hr, ?_⟩
  have s := (St.start h).grow x2
  refine s.new (cs := [_, _, _, _, _, _]) fun b1 _ _ s => s.wr6 fun h3 s => ?_
  refine ⟨_, s.ldB, _, s.ldB, ⟨by omega, by omega⟩, ?_, s.ext⟩
  rw [show Int.toNat (i : Int) = i from Int.toNat_natCast i]
  congr 4
  omega
theorem Select_w {h : Hp} {tb : Nat} {xs : List Int} {sg : Int} {H : Nat} (t : WT h tb xs sg H) (v k : Int) :
    HCalls Try.prog 27 #[ptr tb, .int .i64 v, .int .i64 k] h (fun r h' => Ext h h' ∧ (if 0 ≤ v ∧ v < sg ∧ 0 ≤ k then (if k < cntU xs 0 v xs.length then ∃ p : Nat, p < xs.length ∧ xs.getD p 0 = v ∧ (cntU xs 0 v p : Nat) = k ∧ r = .tuple #[.int .i64 (p : Int), .int .i64 0] else r = .tuple #[.int .i64 0, .int .i64 12]) else r = .tuple #[.int .i64 0, .int .i64 2])) := by
  have hn := t.len
  refine wavelet_Tree_Select_call ?_
  rw [wavelet_Tree_Select_b0_eq]
  refine condP (fun h1 => ⟨.refl _, by rw [if_neg (by omega)]⟩) (fun h1 => ⟨_, t.cs, condP (fun h2 => ⟨.refl _, by rw [if_neg (by omega)]⟩) (fun h2 => ?_)⟩)
  refine condP (fun h3 => ⟨.refl _, by rw [if_neg (by omega)]⟩) (fun h3 => ?_)
  simp only [if_pos (⟨by omega, by omega, by omega⟩ : 0 ≤ v ∧ v < sg ∧ 0 ≤ k)]
  rw [wavelet_Tree_Select_b1_eq]
  refine ⟨_, t.cn, (Rank_w t v _).mono fun r h2 ⟨hr, x2⟩ => ?_⟩
  rw [if_pos ⟨by omega, by omega, by omega, by omega⟩, show Int.toNat (xs.length : Int) = xs.length from Int.toNat_natCast _] at hr
  refine ⟨_, _, hr, condP (fun h4 => ⟨x2, by rw [if_neg (by omega)]⟩) (fun h4 => ⟨_, x2.cell t.cn, ?_⟩)⟩
  simp only [if_pos (show k < (cntU xs 0 v xs.length : Nat) by omega)]
  have c0 : cntU xs 0 v 0 = 0 := by unfold cntU; simp
  refine ⟨fun s h' => Ext h h' ∧ ∃ i j : Nat, s.1 = i ∧ s.2.1 = j ∧ i ≤ j ∧ j ≤ xs.length ∧ (i = 0 ∨ (cntU xs 0 v (i - 1) : Nat) ≤ k) ∧ k < (cntU xs 0 v j : Nat), fun s _ => (s.2.1 - s.1).toNat, ⟨x2, 0, xs.length, rfl, rfl, by omega, by omega, .inl rfl, by omega⟩, ?_⟩
  rintro ⟨_, _, _⟩ h3 ⟨x3, i, j, rfl, rfl, hij, hj, hi, hjk⟩
  dsimp only
  rw [wavelet_Tree_Select_b2_eq]
  refine condP (fun hlt => ⟨⟨by omega, by omega⟩, quo_intro (by omega) (by omega) (by omega) ?_⟩) (fun hlt => ?_)
  · obtain ⟨m, hm⟩ : ∃ m : Nat, ((i : Int) + j) / 2 = m := ⟨((i : Int) + j).toNat / 2, by omega⟩
    rw [hm]
    refine (Rank_w (t.ext x3) v m).mono fun r h4 ⟨hr, x4⟩ => ?_
    rw [if_pos ⟨by omega, by omega, by omega, by omega⟩, show Int.toNat (m : Int) = m from Int.toNat_natCast _] at hr
    refine ⟨_, _, hr, condP (fun h5 => ⟨⟨x3.trans x4, i, m, rfl, rfl, by omega, by omega, hi, h5⟩, by dsimp only; omega⟩) (fun h5 => ⟨⟨by omega, by omega⟩, ⟨x3.trans x4, m + 1, j, by push_cast; rfl, rfl, by omega, hj, .inr (by rw [Nat.add_sub_cancel]; omega), hjk⟩, by dsimp only; omega⟩)⟩
  · obtain rfl : i = j := by omega
    rcases hi with rfl | hi
    · omega
    · have hi0 : i ≠ 0 := fun h => by subst h; omega
      have hst := cnt_step (xs := xs) (k := 0) (i := i - 1) (v := v) (by omega)
      rw [show i - 1 + 1 = i by omega, up_zero] at hst
      rw [wavelet_Tree_Select_b3_eq]
      have he : xs.getD (i - 1) 0 = v := Classical.byContradiction fun h => by rw [if_neg h] at hst; omega
      rw [if_pos he] at hst
      exact ⟨⟨by omega, by omega⟩, x3, i - 1, by omega, he, by omega, by rw [show ((i - 1 : Nat) : Int) = (i : Int) - 1 by omega]⟩
theorem Quantile_w {h : Hp} {tb : Nat} {xs : List Int} {sg : Int} {H : Nat} (t : WT h tb xs sg H) (a b q : Int) :
    HCalls Try.prog 12 #[ptr tb, .int .i64 a, .int .i64 b, .int .i64 q] h (fun r h' => Ext h h' ∧ (if (0 ≤ a ∧ a ≤ b ∧ b ≤ xs.length) ∧ 0 ≤ q ∧ q < b - a then ∃ x : Int, IsQ (rng xs a.toNat b.toNat) q.toNat x ∧ r = .tuple #[.int .i64 x, .int .i64 0] else r = .tuple #[.int .i64 0, .int .i64 2])) := by
  have hH := t.hH
  have hn := t.len
  refine wavelet_Tree_Quantile_call ?_
  rw [wavelet_Tree_Quantile_b0_eq]
  refine condNo rfl ?_
  refine (inside_ok t a b).mono fun r hx ⟨hr, hh⟩ => ⟨_, hr, ?_⟩
  rw [hh]
  refine condN (fun h1 => ⟨.refl _, by rw [if_neg (fun h => h1 h.1)]⟩) (fun h1 => condP (fun h2 => ⟨.refl _, by rw [if_neg (by omega)]⟩) (fun h2 => ⟨⟨by omega, by omega⟩, condP (fun h3 => ⟨.refl _, by rw [if_neg (by omega)]⟩) (fun h3 => ?_)⟩))
  simp only [if_pos (⟨h1, by omega, by omega⟩ : (0 ≤ a ∧ a ≤ b ∧ b ≤ xs.length) ∧ 0 ≤ q ∧ q < b - a)]
  rw [wavelet_Tree_Quantile_b1_eq]
  obtain ⟨a, rfl⟩ := Int.eq_ofNat_of_zero_le (show 0 ≤ a by omega)
  obtain ⟨b, rfl⟩ := Int.eq_ofNat_of_zero_le (show 0 ≤ b by omega)
  obtain ⟨q, rfl⟩ := Int.eq_ofNat_of_zero_le (show 0 ≤ q by omega)
  rw [show Int.toNat (a : Int) = a from Int.toNat_natCast _, show Int.toNat (b : Int) = b from Int.toNat_natCast _, show Int.toNat (q : Int) = q from Int.toNat_natCast _]
  generalize hR : rng xs a b = R
  have hRm : ∀ x ∈ R, 0 ≤ x ∧ x < 2 ^ H := fun x hx => by
    rw [← hR] at hx
    have h4 := t.val x (rng_mem hx)
    have := t.sgH
    exact ⟨h4.1, by omega⟩
  have hRl : R.length = b - a := by rw [← hR]; exact rng_len xs (by omega)
  have top : ∀ x ∈ R, up H x = 0 := fun x hx => up_top (hRm x hx).1 (hRm x hx).2
  have l0 : lR R H 0 = 0 := by
    unfold lR
    rw [List.length_eq_zero_iff, List.filter_eq_nil_iff]
    intro x hx
    rw [top x hx]; simp
  have c0 : cR R H 0 = b - a := by
    unfold cR
    have : R.filter (fun x => decide (up H x = 0)) = R := by
      rw [List.filter_eq_self]
      intro x hx
      rw [top x hx]; simp
    rw [this, hRl]
  have s := St.start h
  refine (root_ok t a b (by omega) (by omega)).mono fun r h2 ⟨hr, x2⟩ => ⟨_, _, _, _, _, _, hr, ?_⟩
  have s := s.grow x2
  refine s.new (cs := [_, _, _, _, _, _]) fun b1 _ _ s => s.wr6 fun h3 s => ?_
  refine ⟨fun z h' => ∃ k v m : Nat, k ≤ H ∧ v < 2 ^ (H - k) ∧ z.1 = (m : Int) ∧ lR R k v + m = q ∧ m < cR R k v ∧ ∃ G, St h h' (cA b1 (ndC xs H k v a b) 60 + G), fun _ h' => match cell h' ⟨b1, 0, none⟩ with | some (.int _ n) => ((H : Int) - n).toNat | _ => 0, ⟨H, 0, q, Nat.le_refl _, by simp, rfl, by rw [show ((0 : Nat) : Int) = 0 from rfl, l0]; omega, by rw [show ((0 : Nat) : Int) = 0 from rfl, c0]; omega, _, s.find b1⟩, ?_⟩
  rintro ⟨_, _⟩ h4 ⟨k, v, m, hk, hv, rfl, hl, hm, G, s⟩
  dsimp only
  rw [wavelet_Tree_Quantile_b2_eq]
  refine ⟨_, s.ld0, _, s.ext.cell t.ch, condP (fun hlt => ?_) (fun hlt => ?_)⟩
  · obtain ⟨k, rfl⟩ : ∃ j, k = j + 1 := ⟨k - 1, by omega⟩
    have h2k : 2 ^ (H - k) = 2 * 2 ^ (H - (k + 1)) := by rw [show H - k = H - (k + 1) + 1 by omega, Nat.pow_succ]; omega
    have hvb : v ≤ 1024 := by
      have h6 : (2 : Nat) ^ (H - (k + 1)) ≤ 2 ^ 10 := Nat.pow_le_pow_right (by decide : 0 < 2) (by omega)
      omega
    have m0 : (match cell h4 ⟨b1, 0, none⟩ with | some (.int _ n) => ((H : Int) - n).toNat | _ => 0) = k + 1 := by rw [s.ld0]; show ((H : Int) - ((H : Int) - ((k + 1 : Nat) : Int))).toNat = k + 1; rw [Int.sub_sub_self]; exact Int.toNat_natCast _
    rw [m0]
    refine s.ld6 ?_
    refine (children_ok (k := k) (t.ext s.ext) (by omega) v a b hvb (by omega) (by omega)).mono fun r h5 ⟨hr, x5⟩ => ⟨_, _, _, _, _, _, _, _, _, _, _, _, hr, ?_⟩
    have s := s.grow x5
    refine s.new (cs := [_, _, _, _, _, _]) fun b3 _ _ s => ?_
    refine s.new (cs := [_, _, _, _, _, _]) fun b4 _ _ s => ?_
    refine s.wr6 fun _ s => s.wr6 fun _ s => ?_
    have ev0 : ((2 * v : Nat) : Int) = 2 * (v : Int) := by push_cast; rfl
    have ev1 : ((2 * v + 1 : Nat) : Int) = 2 * (v : Int) + 1 := by push_cast; rfl
    have hcr := cnt_rng xs k ((2 * v : Nat) : Int) (show a ≤ b by omega)
    rw [hR] at hcr
    have ct := cR_two R k v
    have ll := lR_left R k v
    have lr := lR_right R k v
    rw [← ev0] at ct ll lr
    rw [← ev0, ← ev1] at *
    have hcl : cR R k ((2 * v : Nat) : Int) ≤ 4096 := by
      unfold cR
      exact Nat.le_trans (List.length_filter_le _ _) (by omega)
    refine ⟨_, s.ldB, _, s.ldB, ⟨by omega, by omega⟩, condP (fun h6 => ?_) (fun h6 => ?_)⟩
    · refine s.ld6 (s.wr6 fun _ s => ⟨⟨k, 2 * v, m, by omega, by omega, rfl, by omega, by omega, _, s.find b1⟩, ?_⟩)
      rw [s.ld0]
      show ((H : Int) - ((H : Int) - (k : Int))).toNat < k + 1
      rw [Int.sub_sub_self]; omega
    · refine s.ld6 ⟨⟨by omega, by omega⟩, s.wr6 fun _ s => ⟨⟨k, 2 * v + 1, m - cR R k ((2 * v : Nat) : Int), by omega, by omega, by omega, by omega, by omega, _, s.find b1⟩, ?_⟩⟩
      rw [s.ld0]
      show ((H : Int) - ((H : Int) - (k : Int))).toNat < k + 1
      rw [Int.sub_sub_self]; omega
  · obtain rfl : k = 0 := by omega
    rw [wavelet_Tree_Quantile_b3_eq]
    exact ⟨_, s.ldB, s.ext, v, ⟨by omega, by omega⟩, rfl⟩
end Go.Proofs.Ytfkimbdjgadelaa

/- A wavelet tree: the leaves of a range. -/
set_option maxRecDepth 100000
namespace Go.Proofs.Ytfkimbdjgadelaa
open Go Go.Sx
/-- The values of the leaves of a node, from low to high, with elements of a range. -/
def lvs (xs : List Int) (a b : Nat) (low high : Int) : Nat → Nat → List Nat
  | 0, v => if cntU xs 0 v a = cntU xs 0 v b ∨ (v : Int) < low ∨ high < v then [] else [v]
  | k + 1, v => lvs xs a b low high k (2 * v) ++ lvs xs a b low high k (2 * v + 1)
theorem lvs_none {xs : List Int} {a b : Nat} {low high : Int} (hab : a ≤ b) : ∀ (k v : Nat), (cntU xs k v a = cntU xs k v b ∨ ((v * 2 ^ k + 2 ^ k - 1 : Nat) : Int) < low ∨ high < ((v * 2 ^ k : Nat) : Int)) → lvs xs a b low high k v = []
  | 0, v, h => by
    unfold lvs
    rw [if_pos]
    rw [Nat.pow_zero, Nat.mul_one, Nat.add_sub_cancel] at h
    exact h
  | k + 1, v, h => by
    have ca := cnt_two xs k v a
    have cb := cnt_two xs k v b
    have m1 := cntU_mono (xs := xs) (k := k) (v := 2 * (v : Int)) hab
    have m2 := cntU_mono (xs := xs) (k := k) (v := 2 * (v : Int) + 1) hab
    have ev0 : ((2 * v : Nat) : Int) = 2 * (v : Int) := by push_cast; rfl
    have ev1 : ((2 * v + 1 : Nat) : Int) = 2 * (v : Int) + 1 := by push_cast; rfl
    have p := Nat.two_pow_pos k
    rw [Nat.pow_succ, show v * (2 ^ k * 2) = 2 * v * 2 ^ k by rw [Nat.mul_comm (2 ^ k) 2, ← Nat.mul_assoc, Nat.mul_comm v 2]] at h
    have e1 : (2 * v + 1) * 2 ^ k = 2 * v * 2 ^ k + 2 ^ k := by rw [Nat.add_mul, Nat.one_mul]
    unfold lvs
    rw [lvs_none hab k (2 * v) (by rw [ev0]; omega), lvs_none hab k (2 * v + 1) (by rw [ev1, e1]; omega)]
    rfl
theorem funY_of {P : Program} {F : Nat → Bool} {l : Nat} {args : List Value} {h : Hp} {K : Value → Hp → Prop} (hc : YCalls P l args.toArray h K) : callVY P F (.func (.yield l) #[] #[]) args h K := hc
theorem funG_of {P : Program} {F : Nat → Bool} {g : Nat} {first cap : Array Value} {args : List Value} {args' : Array Value} {h : Hp} {K : Value → Hp → Prop} (hF : F g = true) (hc : HCalls P g args' h K) (ha : (first.toList ++ (args ++ cap.toList)).toArray = args' := by with_unfolding_all exact rfl) :
    callVY P F (.func (.func g) first cap) args h K := by
  show callX P F g (first.toList ++ (args ++ cap.toList)).toArray h K
  unfold callX; rw [hF, ha]; exact hc
section
variable {h0 : Hp} {tb : Nat} {xs : List Int} {sg : Int} {H : Nat} (t : WT h0 tb xs sg H) {a b : Nat} (hab : a ≤ b) (hb : b ≤ xs.length) {low high : Int} {l : Nat} {VS : List Nat} {J : Nat → Bag → Prop} {Jx : Bag → Prop}
  (Y : Yld Try.prog h0 l (VS.map fun u => ndV xs H 0 u a b) J Jx) {b1 b2 b3 b4 b5 : Nat}
/-- What the visits have in common. -/
abbrev visA (tb : Nat) (low high : Int) (l b1 b2 b3 b4 b5 : Nat) : Bag := cA b1 [ptr tb] 25 + (cA b2 [.int .i64 low] 3 + (cA b3 [.int .i64 high] 3 + (cA b4 [.func (.yield l) #[] #[]] 82 + cA b5 [.func (.func 54) #[] #[ptr b1, ptr b2, ptr b3, ptr b4, ptr b5]] 82)))
include t hab hb Y
theorem visit_ok : ∀ (k v : Nat) (pre post : List Nat) (h : Hp) (A F0 : Bag), k ≤ H → v < 2 ^ (H - k) → VS = pre ++ (lvs xs a b low high k v ++ post) → J pre.length A → St h0 h (A + (visA tb low high l b1 b2 b3 b4 b5 + F0)) →
    HCalls Try.prog 54 #[ndV xs H k v a b, ptr b1, ptr b2, ptr b3, ptr b4, ptr b5] h fun r h' => (r = .bool true ∧ ∃ A', J (pre.length + (lvs xs a b low high k v).length) A' ∧ St h0 h' (A' + (visA tb low high l b1 b2 b3 b4 b5 + F0))) ∨ (r = .bool false ∧ ∃ A', Jx A' ∧ St h0 h' (A' + (visA tb low high l b1 b2 b3 b4 b5 + F0))) := by
  intro k
  induction k with
  | zero =>
    intro v pre post h A F0 hk hv hVS hJ s
    have hH := t.hH
    have hn := t.len
    have h10 : (2 : Nat) ^ (H - 0) ≤ 1024 := Nat.pow_le_pow_right (by decide : 0 < 2) (by omega : H - 0 ≤ 10)
    have m1 := cntU_mono (xs := xs) (k := 0) (v := (v : Int)) hab
    refine wavelet_Tree_leaves_c1_c1_call ?_
    rw [wavelet_Tree_leaves_c1_c1_b0_eq]
    refine s.new (cs := ndC xs H 0 v a b) fun bx h1 _ s => ?_
    have noneV : lvs xs a b low high 0 v = [] → (Value.bool true = .bool true ∧ ∃ A', J (pre.length + (lvs xs a b low high 0 v).length) A' ∧ St h0 h1 (A' + (visA tb low high l b1 b2 b3 b4 b5 + F0))) ∨ (Value.bool true = .bool false ∧ ∃ A', Jx A' ∧ St h0 h1 (A' + (visA tb low high l b1 b2 b3 b4 b5 + F0))) :=
      fun he => .inl ⟨rfl, A, by rw [he]; exact hJ, s.drop⟩
    have e0 : ((H : Int) - ((H : Int) - ((0 : Nat) : Int))) = ((0 : Nat) : Int) := by omega
    refine ⟨some ⟨tb, 0, none⟩, s.ld0, _, s.ext.cell t.ch, _, s.ld0, ?_⟩
    rw [e0]
    refine ⟨⟨by omega, by omega⟩, _, s.ldB, ?_⟩
    refine shl_intro (x := v) (s := 0) rfl rfl (by decide) (by rw [wrap_i64_in _ ⟨by omega, by omega⟩]) ⟨_, s.ldB, ?_⟩
    refine shl_intro (x := v) (s := 0) rfl rfl (by decide) (by rw [wrap_i64_in _ ⟨by omega, by omega⟩]) ?_
    refine shl_intro (x := 1) (s := 0) rfl rfl (by decide) (by rw [wrap_i64_in _ ⟨by omega, by omega⟩]) ?_
    rw [Nat.pow_zero, Nat.mul_one]
    refine ⟨⟨by omega, by omega⟩, ⟨by omega, by omega⟩, _, s.ldB, _, s.ldB, condP (fun h2 => noneV ?_) (fun h2 => ⟨_, s.ld0, condP (fun h3 => noneV ?_) (fun h3 => ⟨_, s.ld0, condP (fun h4 => noneV ?_) (fun h4 => ?_)⟩)⟩)⟩
    · unfold lvs; rw [if_pos (.inl (by omega))]
    · unfold lvs; rw [if_pos (.inr (.inl (by omega)))]
    · unfold lvs; rw [if_pos (.inr (.inr (by omega)))]
    · have he : lvs xs a b low high 0 v = [v] := by unfold lvs; rw [if_neg]; omega
      rw [he] at hVS ⊢
      rw [wavelet_Tree_leaves_c1_c1_b1_eq]
      refine ⟨_, s.ld0, some ⟨tb, 0, none⟩, s.ld0, _, s.ext.cell t.ch, condYes (decide_eq_true (by omega)) ⟨_, s.ld0, s.ld6 ?_⟩⟩
      have y := Y pre.length A _ _ (by rw [hVS]; simp) hJ (s.to (B := A + (cA bx (ndC xs H 0 v a b) 60 + (visA tb low high l b1 b2 b3 b4 b5 + F0))))
      have eg : (VS.map fun u => ndV xs H 0 u a b).getD pre.length .nilFunc = ndV xs H 0 v a b := by
        rw [hVS]; simp [List.getD]
      rw [eg] at y
      refine funY_of (y.mono fun r h2 hr => ?_)
      rcases hr with ⟨rfl, A', hJ', s'⟩ | ⟨rfl, A', hJ', s'⟩
      · exact ⟨_, rfl, .inl ⟨rfl, A', hJ', (s'.to (B := cA bx (ndC xs H 0 v a b) 60 + (A' + (visA tb low high l b1 b2 b3 b4 b5 + F0)))).drop⟩⟩
      · exact ⟨_, rfl, .inr ⟨rfl, A', hJ', (s'.to (B := cA bx (ndC xs H 0 v a b) 60 + (A' + (visA tb low high l b1 b2 b3 b4 b5 + F0)))).drop⟩⟩
  | succ k ih =>
    intro v pre post h A F0 hk hv hVS hJ s
    have hH := t.hH
    have hn := t.len
    have h10 : (2 : Nat) ^ H ≤ 1024 := Nat.pow_le_pow_right (by decide : 0 < 2) (by omega : H ≤ 10)
    have hpk : (2 : Nat) ^ (k + 1) ≤ 1024 := Nat.pow_le_pow_right (by decide : 0 < 2) (by omega : k + 1 ≤ 10)
    have hvk : v * 2 ^ (k + 1) + 2 ^ (k + 1) ≤ 1024 := by
      have h1 : (v + 1) * 2 ^ (k + 1) ≤ 2 ^ (H - (k + 1)) * 2 ^ (k + 1) := Nat.mul_le_mul_right _ hv
      rw [← Nat.pow_add, show H - (k + 1) + (k + 1) = H by omega, Nat.add_mul, Nat.one_mul] at h1
      omega
    have hp := Nat.two_pow_pos (k + 1)
    have h2k : 2 ^ (H - k) = 2 * 2 ^ (H - (k + 1)) := by rw [show H - k = H - (k + 1) + 1 by omega, Nat.pow_succ]; omega
    have hvb : v ≤ 1024 := by
      have : v * 1 ≤ v * 2 ^ (k + 1) := Nat.mul_le_mul_left _ hp
      omega
    have m1 := cntU_mono (xs := xs) (k := k + 1) (v := (v : Int)) hab
    refine wavelet_Tree_leaves_c1_c1_call ?_
    rw [wavelet_Tree_leaves_c1_c1_b0_eq]
    refine s.new (cs := ndC xs H (k + 1) v a b) fun bx h1 _ s => ?_
    have noneV : lvs xs a b low high (k + 1) v = [] → (Value.bool true = .bool true ∧ ∃ A', J (pre.length + (lvs xs a b low high (k + 1) v).length) A' ∧ St h0 h1 (A' + (visA tb low high l b1 b2 b3 b4 b5 + F0))) ∨ (Value.bool true = .bool false ∧ ∃ A', Jx A' ∧ St h0 h1 (A' + (visA tb low high l b1 b2 b3 b4 b5 + F0))) :=
      fun he => .inl ⟨rfl, A, by rw [he]; exact hJ, s.drop⟩
    have e0 : ((H : Int) - ((H : Int) - ((k + 1 : Nat) : Int))) = ((k + 1 : Nat) : Int) := by omega
    refine ⟨some ⟨tb, 0, none⟩, s.ld0, _, s.ext.cell t.ch, _, s.ld0, ?_⟩
    rw [e0]
    have w1 : ∀ m : Nat, m ≤ 2000 → IntKind.i64.wrap (m : Int) = (m : Int) := fun m hm => wrap_i64_in _ ⟨by omega, by omega⟩
    refine ⟨⟨by omega, by omega⟩, _, s.ldB, ?_⟩
    refine shl_intro (x := v) (s := k + 1) rfl rfl (by show k + 1 ≤ 64; omega) (w1 _ (by omega)) ⟨_, s.ldB, ?_⟩
    refine shl_intro (x := v) (s := k + 1) rfl rfl (by show k + 1 ≤ 64; omega) (w1 _ (by omega)) ?_
    refine shl_intro (x := 1) (s := k + 1) rfl rfl (by show k + 1 ≤ 64; omega) (w1 _ (by omega)) ?_
    rw [Nat.one_mul]
    refine ⟨⟨by omega, by omega⟩, ⟨by omega, by omega⟩, _, s.ldB, _, s.ldB, condP (fun h2 => noneV (lvs_none hab _ _ (.inl (by omega)))) (fun h2 => ⟨_, s.ld0, condP (fun h3 => noneV (lvs_none hab _ _ (.inr (.inl (by omega))))) (fun h3 => ⟨_, s.ld0, condP (fun h4 => noneV (lvs_none hab _ _ (.inr (.inr (by omega))))) (fun h4 => ?_)⟩)⟩)⟩
    rw [wavelet_Tree_leaves_c1_c1_b1_eq]
    refine ⟨_, s.ld0, some ⟨tb, 0, none⟩, s.ld0, _, s.ext.cell t.ch, condNo (decide_eq_false (by omega)) ⟨_, s.ld0, s.ld6 ?_⟩⟩
    refine (children_ok (k := k) (t.ext s.ext) (by omega) v a b hvb (by omega) hb).mono fun r h5 ⟨hr, x5⟩ => ⟨_, _, _, _, _, _, _, _, _, _, _, _, hr, ?_⟩
    have s := s.grow x5
    refine s.new (cs := [_, _, _, _, _, _]) fun b6 _ _ s => ?_
    refine s.new (cs := [_, _, _, _, _, _]) fun b7 _ _ s => ?_
    refine s.wr6 fun _ s => s.wr6 fun _ s => ⟨_, s.ld0, s.ld6 ?_⟩
    have hl : lvs xs a b low high (k + 1) v = lvs xs a b low high k (2 * v) ++ lvs xs a b low high k (2 * v + 1) := rfl
    rw [hl] at hVS ⊢
    generalize hC : lvs xs a b low high k (2 * v) = C at *
    generalize hD : lvs xs a b low high k (2 * v + 1) = D at *
    have s := s.to (B := A + (visA tb low high l b1 b2 b3 b4 b5 + (cA bx (ndC xs H (k + 1) v a b) 60 + (cA b6 (ndC xs H k (2 * v) a b) 60 + (cA b7 (ndC xs H k (2 * v + 1) a b) 60 + F0)))))
    have fin : ∀ {A' : Bag} {h' : Hp}, St h0 h' (A' + (visA tb low high l b1 b2 b3 b4 b5 + (cA bx (ndC xs H (k + 1) v a b) 60 + (cA b6 (ndC xs H k (2 * v) a b) 60 + (cA b7 (ndC xs H k (2 * v + 1) a b) 60 + F0))))) → St h0 h' (A' + (visA tb low high l b1 b2 b3 b4 b5 + F0)) :=
      fun {A' h'} s' => (s'.to (B := (cA bx (ndC xs H (k + 1) v a b) 60 + (cA b6 (ndC xs H k (2 * v) a b) 60 + cA b7 (ndC xs H k (2 * v + 1) a b) 60)) + (A' + (visA tb low high l b1 b2 b3 b4 b5 + F0)))).drop
    refine funG_of (by kernel_rfl) ((ih (2 * v) pre (D ++ post) _ A _ (by omega) (by omega) (by rw [hVS, hC]; simp) hJ s).mono fun r h6 hr => ?_)
    rw [hC] at hr
    rcases hr with ⟨rfl, A', hJ', s'⟩ | ⟨rfl, A', hJ', s'⟩
    · refine ⟨_, rfl, condYes rfl ⟨_, s'.ld0, s'.ld6 ?_⟩⟩
      have hJ2 : J (pre ++ C).length A' := by rw [List.length_append]; exact hJ'
      refine funG_of (by kernel_rfl) ((ih (2 * v + 1) (pre ++ C) post _ A' _ (by omega) (by omega) (by rw [hVS, hD]; simp) hJ2 s').mono fun r h7 hr => ?_)
      rw [hD] at hr
      rcases hr with ⟨rfl, A2, hJ3, s2⟩ | ⟨rfl, A2, hJ3, s2⟩
      · exact ⟨_, rfl, .inl ⟨rfl, A2, by rw [List.length_append, ← Nat.add_assoc, ← List.length_append]; exact hJ3, fin s2⟩⟩
      · exact ⟨_, rfl, .inr ⟨rfl, A2, hJ3, fin s2⟩⟩
    · exact ⟨_, rfl, condNo rfl (.inr ⟨rfl, A', hJ', fin s'⟩)⟩
end
end Go.Proofs.Ytfkimbdjgadelaa

/- A wavelet tree: Count and Next. -/
set_option maxRecDepth 100000
namespace Go.Proofs.Ytfkimbdjgadelaa
open Go Go.Sx
theorem leaves_ok {h : Hp} (t : Nat) (a b low high : Int) :
    HCalls Try.prog 38 #[ptr t, .int .i64 a, .int .i64 b, .int .i64 low, .int .i64 high] h fun v h' => ∃ b1 b2 b3 b4 b5, v = .func (.func 53) #[] #[ptr b1, ptr b4, ptr b5, ptr b2, ptr b3] ∧
      St h h' (cA b1 [ptr t] 25 + (cA b4 [.int .i64 low] 3 + (cA b5 [.int .i64 high] 3 + (cA b2 [.int .i64 a] 3 + cA b3 [.int .i64 b] 3)))) := by
  refine wavelet_Tree_leaves_call ?_
  rw [wavelet_Tree_leaves_b0_eq]
  have s := St.start h
  refine s.new (cs := [_]) fun b1 _ _ s => s.new (cs := [_]) fun b2 _ _ s => s.new (cs := [_]) fun b3 _ _ s => s.new (cs := [_]) fun b4 _ _ s => s.new (cs := [_]) fun b5 _ _ s => ?_
  exact ⟨b1, b2, b3, b4, b5, rfl, s.to⟩
theorem leaves_c1_ok {h0 h : Hp} {tb : Nat} {xs : List Int} {sg : Int} {H : Nat} (t : WT h0 tb xs sg H) {a b : Nat} (hab : a ≤ b) (hb : b ≤ xs.length) {low high : Int} {l : Nat} {J : Nat → Bag → Prop} {Jx : Bag → Prop} {A F0 : Bag}
    (Y : Yld Try.prog h0 l ((lvs xs a b low high H 0).map fun u => ndV xs H 0 u a b) J Jx) {b1 b2 b3 b4 b5 : Nat} (hJ : J 0 A)
    (s : St h0 h (A + ((cA b1 [ptr tb] 25 + (cA b4 [.int .i64 low] 3 + (cA b5 [.int .i64 high] 3 + (cA b2 [.int .i64 (a : Int)] 3 + cA b3 [.int .i64 (b : Int)] 3)))) + F0))) :
    HCalls Try.prog 53 #[.func (.yield l) #[] #[], ptr b1, ptr b4, ptr b5, ptr b2, ptr b3] h fun _ h' => ∃ A' G, (J (lvs xs a b low high H 0).length A' ∨ Jx A') ∧ St h0 h' (A' + (G + F0)) := by
  refine wavelet_Tree_leaves_c1_call ?_
  rw [wavelet_Tree_leaves_c1_b0_eq]
  refine New_cells rfl ?_
  refine s.new (cs := [_]) fun b6 h1 _ s => s.new (cs := [_]) fun b7 _ _ s => s.wr1 fun h3 s => ?_
  refine ⟨.func (.func 54) #[] #[ptr b1, ptr b4, ptr b5, ptr b6, ptr b7], s.ld0, some ⟨tb, 0, none⟩, s.ld0, _, s.ld0, _, s.ld0, ?_⟩
  refine (root_ok (t.ext s.ext) a b (by omega) hb).mono fun r h4 ⟨hr, x4⟩ => ⟨_, _, _, _, _, _, hr, again_val (x4.cell s.ld0), ?_⟩
  have s := s.grow x4
  have s : St h0 h4 (A + (visA tb low high l b1 b4 b5 b6 b7 + (cA b2 [.int .i64 (a : Int)] 3 + (cA b3 [.int .i64 (b : Int)] 3 + F0)))) := s.to (B := A + ((cA b1 [ptr tb] 25 + (cA b4 [.int .i64 low] 3 + (cA b5 [.int .i64 high] 3 + (cA b6 [.func (.yield l) #[] #[]] 82 + cA b7 [.func (.func 54) #[] #[ptr b1, ptr b4, ptr b5, ptr b6, ptr b7]] 82)))) + (cA b2 [.int .i64 (a : Int)] 3 + (cA b3 [.int .i64 (b : Int)] 3 + F0))))
  refine funX_of (by kernel_rfl) ((visit_ok t hab hb Y H 0 [] [] h4 A _ (Nat.le_refl _) (by simp) (by simp) hJ s).mono fun r h5 hr => ?_)
  rcases hr with ⟨rfl, A', hJ', s'⟩ | ⟨rfl, A', hJ', s'⟩
  · exact ⟨_, rfl, A', visA tb low high l b1 b4 b5 b6 b7 + (cA b2 [.int .i64 (a : Int)] 3 + cA b3 [.int .i64 (b : Int)] 3), .inl (by simpa using hJ'), s'.to⟩
  · exact ⟨_, rfl, A', visA tb low high l b1 b4 b5 b6 b7 + (cA b2 [.int .i64 (a : Int)] 3 + cA b3 [.int .i64 (b : Int)] 3), .inr hJ', s'.to⟩
/-- How many elements are from low to high. -/
def inL (R : List Int) (low high : Int) : Nat := (R.filter fun x => decide (low ≤ x ∧ x ≤ high)).length
def inU (R : List Int) (low high : Int) (k : Nat) (v : Int) : Nat := (R.filter fun x => decide (up k x = v ∧ low ≤ x ∧ x ≤ high)).length
theorem inU_two (R : List Int) (low high : Int) (k : Nat) (v : Int) : inU R low high (k + 1) v = inU R low high k (2 * v) + inU R low high k (2 * v + 1) := by
  unfold inU
  induction R with
  | nil => rfl
  | cons x l ih =>
    rw [List.filter_cons, List.filter_cons, List.filter_cons]
    simp only [decide_eq_true_eq, up_succ] at ih ⊢
    have c1 : (up k x / 2 = v ∧ low ≤ x ∧ x ≤ high) ↔ ((up k x = 2 * v ∧ low ≤ x ∧ x ≤ high) ∨ (up k x = 2 * v + 1 ∧ low ≤ x ∧ x ≤ high)) := by omega
    by_cases h1 : up k x = 2 * v ∧ low ≤ x ∧ x ≤ high
    · have h2 : ¬ (up k x = 2 * v + 1 ∧ low ≤ x ∧ x ≤ high) := by omega
      rw [if_pos (c1.2 (.inl h1)), if_pos h1, if_neg h2, List.length_cons, List.length_cons, ih]; omega
    · by_cases h2 : up k x = 2 * v + 1 ∧ low ≤ x ∧ x ≤ high
      · rw [if_pos (c1.2 (.inr h2)), if_neg h1, if_pos h2, List.length_cons, List.length_cons, ih]; omega
      · rw [if_neg (fun h => (c1.1 h).elim h1 h2), if_neg h1, if_neg h2, ih]
theorem lvs_sum {xs : List Int} {a b : Nat} {low high : Int} (hab : a ≤ b) : ∀ (k v : Nat), ((lvs xs a b low high k v).map fun u : Nat => cR (rng xs a b) 0 u).sum = inU (rng xs a b) low high k v
  | 0, v => by
    have hc := cnt_rng xs 0 v hab
    unfold lvs
    split
    · rename_i h
      have : inU (rng xs a b) low high 0 v = 0 := by
        unfold inU
        rw [List.length_eq_zero_iff, List.filter_eq_nil_iff]
        intro x hx
        rw [decide_eq_true_iff, up_zero]
        rintro ⟨rfl, h1, h2⟩
        rcases h with h | h | h
        · have := cR_pos.2 hx
          omega
        · omega
        · omega
      rw [this]; rfl
    · rename_i h
      have e : inU (rng xs a b) low high 0 v = cR (rng xs a b) 0 v := by
        unfold inU cR
        congr 1
        refine List.filter_congr fun x _ => ?_
        rw [Bool.eq_iff_iff, decide_eq_true_iff, decide_eq_true_iff, up_zero]
        constructor
        · exact fun h => h.1
        · rintro rfl; exact ⟨rfl, by omega, by omega⟩
      rw [e]; simp
  | k + 1, v => by
    unfold lvs
    rw [List.map_append, List.sum_append, lvs_sum hab k (2 * v), lvs_sum hab k (2 * v + 1), inU_two]
    push_cast
    rfl
theorem inU_top {R : List Int} {low high : Int} {H : Nat} (h : ∀ x ∈ R, up H x = 0) : inU R low high H 0 = inL R low high := by
  unfold inU inL
  congr 1
  refine List.filter_congr fun x hx => ?_
  rw [Bool.eq_iff_iff, decide_eq_true_iff, decide_eq_true_iff]
  exact ⟨fun h => h.2, fun h2 => ⟨h x hx, h2⟩⟩
theorem WT.top {h : Hp} {tb : Nat} {xs : List Int} {sg : Int} {H : Nat} (t : WT h tb xs sg H) {a b : Nat} : ∀ x ∈ rng xs a b, up H x = 0 := fun x hx => up_top (t.val x (rng_mem hx)).1 (by have := (t.val x (rng_mem hx)).2; have := t.sgH; omega)
theorem Count_w {h : Hp} {tb : Nat} {xs : List Int} {sg : Int} {H : Nat} (t : WT h tb xs sg H) (a b low high : Int) :
    HCalls Try.prog 14 #[ptr tb, .int .i64 a, .int .i64 b, .int .i64 low, .int .i64 high] h (fun r h' => Ext h h' ∧ r = (if 0 ≤ a ∧ a ≤ b ∧ b ≤ xs.length then .tuple #[.int .i64 (inL (rng xs a.toNat b.toNat) low high : Nat), .int .i64 0] else .tuple #[.int .i64 0, .int .i64 2])) := by
  have hn := t.len
  refine wavelet_Tree_Count_call ?_
  rw [wavelet_Tree_Count_b0_eq]
  refine condNo rfl ((inside_ok t a b).mono fun r hx ⟨hr, hh⟩ => ⟨_, hr, ?_⟩)
  rw [hh]
  refine condN (fun h1 => ⟨.refl _, by rw [if_neg h1]⟩) (fun h1 => ?_)
  simp only [if_pos h1]
  obtain ⟨a, rfl⟩ := Int.eq_ofNat_of_zero_le (show 0 ≤ a by omega)
  obtain ⟨b, rfl⟩ := Int.eq_ofNat_of_zero_le (show 0 ≤ b by omega)
  simp only [Int.toNat_natCast]
  have hab : a ≤ b := by omega
  have hb : b ≤ xs.length := by omega
  have hsum : ∀ i, (((lvs xs a b low high H 0).take i).map fun u : Nat => cR (rng xs a b) 0 u).sum ≤ 4096 := by
    intro i
    have h2 := lvs_sum (xs := xs) (low := low) (high := high) hab H 0
    have h3 : (((lvs xs a b low high H 0).take i).map fun u : Nat => cR (rng xs a b) 0 u).sum ≤ ((lvs xs a b low high H 0).map fun u : Nat => cR (rng xs a b) 0 u).sum := by
      conv => rhs; rw [← List.take_append_drop i (lvs xs a b low high H 0)]
      rw [List.map_append, List.sum_append]; omega
    have h4 : inU (rng xs a b) low high H ((0 : Nat) : Int) ≤ (rng xs a b).length := List.length_filter_le _ _
    have h5 := rng_len xs (a := a) hb
    omega
  have s := St.start h
  refine s.new (cs := [_]) fun bn _ _ s => s.wr1 fun h3 s => ?_
  refine (leaves_ok tb a b low high).mono fun v h4 ⟨b1, b2, b3, b4, b5, hv, s4⟩ => ⟨_, rfl, 53, #[ptr b1, ptr b4, ptr b5, ptr b2, ptr b3], hv, by kernel_rfl, fun rec HR => ?_⟩
  have s := (s.join s4).range rec
  refine HCalls.mono (K := fun _ h' => ∃ A' G, ((A' = lA rec (h4.size + 1) .ready none + (dA h4.size + cA bn [.int .i64 ((((lvs xs a b low high H 0).take (lvs xs a b low high H 0).length).map fun u : Nat => cR (rng xs a b) 0 u).sum : Nat)] 3)) ∨ False) ∧ St h h' (A' + (G + 0)))
    (leaves_c1_ok (F0 := 0) t hab hb (J := fun i A => A = lA rec (h4.size + 1) .ready none + (dA h4.size + cA bn [.int .i64 (((lvs xs a b low high H 0).take i).map fun u : Nat => cR (rng xs a b) 0 u).sum] 3)) (Jx := fun _ => False) ?_ rfl ?_) ?_
  · rintro i _ F h5 hi rfl s
    rw [List.length_map] at hi
    have eg : ((lvs xs a b low high H 0).map fun u => ndV xs H 0 u a b).getD i .nilFunc = ndV xs H 0 ((lvs xs a b low high H 0).getD i 0) a b := by simp [List.getD, hi]
    rw [eg]
    have hcr := cnt_rng xs 0 (((lvs xs a b low high H 0).getD i 0 : Nat) : Int) hab
    have hs1 := hsum (i + 1)
    have est : (((lvs xs a b low high H 0).take (i + 1)).map fun u : Nat => cR (rng xs a b) 0 u).sum = (((lvs xs a b low high H 0).take i).map fun u : Nat => cR (rng xs a b) 0 u).sum + cR (rng xs a b) 0 ((lvs xs a b low high H 0).getD i 0 : Nat) := by
      rw [List.take_succ_eq_append_getElem hi, List.map_append, List.sum_append]
      simp [List.getD, hi]
    refine HR _ _ _ _ _ _ h5 _ s.lpB ?_
    refine s.new (cs := [_, _, _, _, _, _]) fun bx h7 _ s => s.wr6 fun h8 s => ⟨s.lpB, ?_⟩
    have s := s.setLpB (rec := rec) (st := .ready) (pe := none) (st' := .busy) (pe' := none) (l := h4.size + 1)
    refine ⟨_, s.ld0, _, s.ldB, _, s.ldB, ⟨by omega, by omega⟩, ⟨by omega, by omega⟩, s.wr1 fun h9 s => ⟨s.lpB, .inl ⟨rfl, _, rfl, ?_⟩⟩⟩
    have s := s.setLpB (rec := rec) (st := .busy) (pe := none) (st' := .ready) (pe' := none) (l := h4.size + 1)
    have ev : ((((lvs xs a b low high H 0).take i).map fun u : Nat => cR (rng xs a b) 0 u).sum : Int) + ((lessU xs 0 ((lvs xs a b low high H 0).getD i 0 : Nat) : Nat) + (cntU xs 0 ((lvs xs a b low high H 0).getD i 0 : Nat) b : Nat) - ((lessU xs 0 ((lvs xs a b low high H 0).getD i 0 : Nat) : Nat) + (cntU xs 0 ((lvs xs a b low high H 0).getD i 0 : Nat) a : Nat)) : Int) = ((((lvs xs a b low high H 0).take (i + 1)).map fun u : Nat => cR (rng xs a b) 0 u).sum : Nat) := by
      rw [est]; omega
    rw [ev] at s
    exact (s.find bx).drop.to (B := (lA rec (h4.size + 1) .ready none + (dA h4.size + cA bn [.int .i64 ((((lvs xs a b low high H 0).take (i + 1)).map fun u : Nat => cR (rng xs a b) 0 u).sum : Nat)] 3)) + F)
  · have e0 : (((lvs xs a b low high H 0).take 0).map fun u : Nat => cR (rng xs a b) 0 u).sum = 0 := by simp
    rw [e0]
    exact s.to
  · rintro v h6 ⟨A', G, rfl | hf, s⟩
    · have s2 := s.setLpB (rec := rec) (st := .ready) (pe := none) (st' := .exhausted) (pe' := none) (l := h4.size + 1)
      refine ⟨.ready, none, s.lpB, by simp, .inl ⟨rfl, _, s2.ld0, s2.defB.1, s2.defB.2.ext, ?_⟩⟩
      rw [List.take_length, lvs_sum hab H 0, show ((0 : Nat) : Int) = 0 from rfl, inU_top t.top]
    · exact hf.elim
end Go.Proofs.Ytfkimbdjgadelaa

/- A wavelet tree: Next; what the leaves are. -/
set_option maxRecDepth 100000
namespace Go.Proofs.Ytfkimbdjgadelaa
open Go Go.Sx
theorem Next_w {h : Hp} {tb : Nat} {xs : List Int} {sg : Int} {H : Nat} (t : WT h tb xs sg H) (a b low : Int) :
    HCalls Try.prog 16 #[ptr tb, .int .i64 a, .int .i64 b, .int .i64 low] h (fun r h' => Ext h h' ∧ r = (if 0 ≤ a ∧ a ≤ b ∧ b ≤ xs.length then (match lvs xs a.toNat b.toNat low sg H 0 with | [] => .tuple #[.int .i64 0, .int .i64 12] | v :: _ => .tuple #[.int .i64 (v : Int), .int .i64 0]) else .tuple #[.int .i64 0, .int .i64 2])) := by
  have hn := t.len
  refine wavelet_Tree_Next_call ?_
  rw [wavelet_Tree_Next_b0_eq]
  have s := St.start h
  refine s.new (cs := [_]) fun q1 _ _ s => s.new (cs := [_]) fun q2 h2 _ s => ?_
  refine condNo rfl ((inside_ok (t.ext s.ext) a b).mono fun r hx ⟨hr, hh⟩ => ⟨_, hr, ?_⟩)
  rw [hh]
  refine condN (fun h1 => s.wr1 fun _ s => s.wr1 fun _ s => ⟨_, s.ld0, _, s.ld0, s.ext, by rw [if_neg h1]⟩) (fun h1 => ?_)
  simp only [if_pos h1]
  obtain ⟨a, rfl⟩ := Int.eq_ofNat_of_zero_le (show 0 ≤ a by omega)
  obtain ⟨b, rfl⟩ := Int.eq_ofNat_of_zero_le (show 0 ≤ b by omega)
  simp only [Int.toNat_natCast]
  have hab : a ≤ b := by omega
  have hb : b ≤ xs.length := by omega
  refine ⟨_, s.ext.cell t.cs, ?_⟩
  refine (leaves_ok tb a b low sg).mono fun v h4 ⟨b1, b2, b3, b4, b5, hv, s4⟩ => ⟨_, rfl, 53, #[ptr b1, ptr b4, ptr b5, ptr b2, ptr b3], hv, by kernel_rfl, fun rec HR => ?_⟩
  have s := (s.join s4).range rec
  generalize hL : lvs xs a b low sg H 0 = L at *
  refine HCalls.mono (K := fun _ h' => ∃ A' G, ((L.length = 0 ∧ A' = lA rec (h4.size + 1) .ready none + (dA h4.size + (cA q1 [.int .i64 0] 3 + cA q2 [.int .i64 0] 28))) ∨ (∃ v L', L = v :: L' ∧ A' = lA rec (h4.size + 1) .done (some .ret) + (dA h4.size + (cA q1 [.int .i64 (v : Int)] 3 + cA q2 [.int .i64 0] 28)))) ∧ St h h' (A' + (G + 0)))
    (by
      rw [← hL]
      exact leaves_c1_ok (F0 := 0) t hab hb (J := fun i A => i = 0 ∧ A = lA rec (h4.size + 1) .ready none + (dA h4.size + (cA q1 [.int .i64 0] 3 + cA q2 [.int .i64 0] 28))) (Jx := fun A => ∃ v L', lvs xs a b low sg H 0 = v :: L' ∧ A = lA rec (h4.size + 1) .done (some .ret) + (dA h4.size + (cA q1 [.int .i64 (v : Int)] 3 + cA q2 [.int .i64 0] 28)))
        (by
          rw [hL]
          rintro i _ F h5 hi ⟨rfl, rfl⟩ s
          rw [List.length_map] at hi
          obtain ⟨v, L', hLv⟩ : ∃ v L', L = v :: L' := by
            cases L with
            | nil => simp at hi
            | cons v L' => exact ⟨v, L', rfl⟩
          have eg : (L.map fun u => ndV xs H 0 u a b).getD 0 .nilFunc = ndV xs H 0 v a b := by rw [hLv]; rfl
          rw [eg]
          refine HR _ _ _ _ _ _ h5 _ s.lpB ?_
          refine s.new (cs := [_, _, _, _, _, _]) fun bx h7 _ s => s.wr6 fun h8 s => ⟨s.lpB, ?_⟩
          have s := s.setLpB (rec := rec) (st := .ready) (pe := none) (st' := .busy) (pe' := none) (l := h4.size + 1)
          refine ⟨_, s.ldB, s.wr1 fun _ s => s.wr1 fun _ s => ⟨s.lpB, .inr ⟨rfl, _, ⟨v, L', hLv, rfl⟩, ?_⟩⟩⟩
          have s := s.setLpB (rec := rec) (st := .busy) (pe := none) (st' := .done) (pe' := some .ret) (l := h4.size + 1)
          exact (s.find bx).drop.to (B := (lA rec (h4.size + 1) .done (some .ret) + (dA h4.size + (cA q1 [.int .i64 (v : Int)] 3 + cA q2 [.int .i64 0] 28))) + F)) ⟨rfl, rfl⟩ s.to) ?_
  rintro v h6 ⟨A', G, ⟨hl0, rfl⟩ | ⟨v, L', rfl, rfl⟩, s⟩
  · have hL0 : L = [] := List.eq_nil_of_length_eq_zero hl0
    subst hL0
    have s2 := s.setLpB (rec := rec) (st := .ready) (pe := none) (st' := .exhausted) (pe' := none) (l := h4.size + 1)
    refine ⟨.ready, none, s.lpB, by simp, .inl ⟨rfl, s2.wr1 fun _ s => s.wr1 fun _ s => ⟨s.defB.1, ?_⟩⟩⟩
    have s3 := (s.defB (d := h4.size)).2
    exact ⟨_, s3.ld0, _, s3.ld0, s3.ext, rfl⟩
  · have s2 := s.setLpB (rec := rec) (st := .done) (pe := some .ret) (st' := .exhausted) (pe' := some .ret) (l := h4.size + 1)
    refine ⟨.done, some .ret, s.lpB, by simp, .inr (.inl ⟨rfl, s2.defB.1, ?_⟩)⟩
    have s3 := (s2.defB (d := h4.size)).2
    exact ⟨_, s3.ld0, _, s3.ld0, s3.ext, rfl⟩
/-- The leaves are the values that occur, ascending. -/
theorem lvs_mem {xs : List Int} {a b : Nat} {low high : Int} (hab : a ≤ b) : ∀ (k v u : Nat), u ∈ lvs xs a b low high k v ↔ up k u = v ∧ (u : Int) ∈ rng xs a b ∧ low ≤ u ∧ u ≤ high
  | 0, v, u => by
    have hc := cnt_rng xs 0 v hab
    have hp := cR_pos (R := rng xs a b) (x := v)
    unfold lvs
    rw [up_zero]
    split
    · rename_i h
      simp only [List.not_mem_nil, false_iff]
      rintro ⟨h1, h2, h3, h4⟩
      have : u = v := by omega
      subst this
      have := hp.2 h2
      omega
    · rename_i h
      rw [List.mem_singleton]
      constructor
      · rintro rfl; exact ⟨rfl, hp.1 (by omega), by omega, by omega⟩
      · rintro ⟨h1, _⟩; omega
  | k + 1, v, u => by
    unfold lvs
    rw [List.mem_append, lvs_mem hab k, lvs_mem hab k, up_succ]
    push_cast
    constructor
    · rintro (⟨h1, h2⟩ | ⟨h1, h2⟩) <;> exact ⟨by omega, h2⟩
    · rintro ⟨h1, h2⟩
      by_cases h3 : up k u = 2 * v
      · exact .inl ⟨h3, h2⟩
      · exact .inr ⟨by omega, h2⟩
theorem lvs_inc {xs : List Int} {a b : Nat} {low high : Int} (hab : a ≤ b) : ∀ (k v : Nat), (lvs xs a b low high k v).Pairwise (· < ·)
  | 0, v => by unfold lvs; split <;> simp
  | k + 1, v => by
    unfold lvs
    rw [List.pairwise_append]
    refine ⟨lvs_inc hab k _, lvs_inc hab k _, fun x hx y hy => ?_⟩
    have h1 := ((lvs_mem hab k (2 * v) x).1 hx).1
    have h2 := ((lvs_mem hab k (2 * v + 1) y).1 hy).1
    rcases Nat.lt_or_ge x y with h | h
    · exact h
    · have := up_le (k := k) (x := (y : Int)) (y := (x : Int)) (by omega)
      push_cast at h1 h2
      omega
end Go.Proofs.Ytfkimbdjgadelaa

/- What sorting builds on, in this seat. -/
set_option maxRecDepth 100000
namespace Go.Proofs.Ytfkimbdjgadelaa
open Go Go.Sx
end Go.Proofs.Ytfkimbdjgadelaa

/- Sorting: the elements' own lemmas (pairs of numbers; numbers by a closure). -/
set_option maxRecDepth 100000
namespace Go.Proofs.Ytfkimbdjgadelaa
open Go Go.Sx
abbrev P2 := Int × Int
abbrev tP2 : Ty P2 := tPP 42
abbrev encP (x : P2) : Value := .agg #[.int .i64 x.1, .int .i64 x.2]
theorem wrP {h0 h : Hp} {ad : Addr} {n c i j : Nat} {xs : List P2} {A F : Bag} {v : Value} {x : P2} {k : Hp → Prop} (a : Sl tP2 (some ad) n c xs A) (s : St h0 h (A + F)) (hi : i < n) (hj : j < tP2.sz) (hx : tP2.enc x = (tP2.enc (xs.getD i tP2.d)).set j v)
    (hk : ∀ h' A', Sl tP2 (some ad) n c (xs.set i x) A' → St h0 h' (A' + F) → k h') : Wr h ((ad.add (i * tP2.sz)).add j) v k := by
  obtain ⟨ad', e, w⟩ := a.wr s hi hj hx hk
  cases e
  exact w
theorem getD_set_selfP {xs : List P2} {i : Nat} {x d : P2} (hi : i < xs.length) : (xs.set i x).getD i d = x := by rw [getD_setS hi, if_pos rfl]
theorem wrP2 {h0 h : Hp} {ad : Addr} {n c i : Nat} {xs : List P2} {A F : Bag} {x : P2} {k : Hp → Prop} (a : Sl tP2 (some ad) n c xs A) (s : St h0 h (A + F)) (hi : i < n)
    (hk : ∀ h' A', Sl tP2 (some ad) n c (xs.set i x) A' → St h0 h' (A' + F) → k h') :
    Wr h (ad.add (i * 2)) (.int .i64 x.1) fun h4 => Wr h4 ((ad.add (i * 2)).add 1) (.int .i64 x.2) k := by
  have hl := a.len
  obtain ⟨y, hy⟩ : ∃ y, xs.getD i tP2.d = y := ⟨_, rfl⟩
  refine wrP (j := 0) (x := (x.1, y.2)) a s hi (by decide) (by rw [hy]; rfl) fun h1 A1 a1 s1 => ?_
  refine wrP (j := 1) (x := x) a1 s1 hi (by decide) (by rw [getD_set_selfP (by omega)]; rfl) fun h2 A2 a2 s2 => ?_
  rw [List.set_set] at a2
  exact hk h2 A2 a2 s2
theorem ldP2 {h : Hp} {p : Option Addr} {n : Nat} {l : List P2} {i : Int} {i' : Nat} {Q : Int → Int → Prop} (r : RdT tP2 h p n l) (ei : i = (i' : Int)) (h1 : i' < n) (hq : Q (l.getD i' tP2.d).1 (l.getD i' tP2.d).2) :
    (0 ≤ i ∧ i < (n : Int)) ∧ NN p fun a => ∃ x : Int, ∃ y : Int, cell h (a.add (Int.toNat i * 2)) = some (.int .i64 x) ∧ cell h ((a.add (Int.toNat i * 2)).add 1) = some (.int .i64 y) ∧ Q x y := by
  subst ei
  refine r.idx (by omega) (by omega) fun a _ hc => ?_
  rw [Int.toNat_natCast] at hc ⊢
  exact ⟨_, _, hc 0 (by decide), hc 1 (by decide), hq⟩
theorem swP2 {h0 h : Hp} {p : Option Addr} {n c : Nat} {u v : Int} {u' v' : Nat} {xs : List P2} {A F : Bag} {k : Hp → Prop} (a : Sl tP2 p n c xs A) (s : St h0 h (A + F)) (eu : u = (u' : Int)) (ev : v = (v' : Int)) (hu1 : u' < n) (hv1 : v' < n)
    (hk : ∀ h' A', Sl tP2 p n c (swapL tP2.d xs u' v') A' → St h0 h' (A' + F) → k h') :
    (0 ≤ v ∧ v < (n : Int)) ∧ NN p fun a5 => ∃ n9 : Int, ∃ n10 : Int, cell h (a5.add (Int.toNat v * 2)) = some (.int .i64 n9) ∧ cell h ((a5.add (Int.toNat v * 2)).add 1) = some (.int .i64 n10) ∧
      (0 ≤ u ∧ u < (n : Int)) ∧ NN p fun a7 => ∃ n13 : Int, ∃ n14 : Int, cell h (a7.add (Int.toNat u * 2)) = some (.int .i64 n13) ∧ cell h ((a7.add (Int.toNat u * 2)).add 1) = some (.int .i64 n14) ∧
      (0 ≤ u ∧ u < (n : Int)) ∧ NN p fun a9 => Wr h (a9.add (Int.toNat u * 2)) (.int .i64 n9) fun h4 => Wr h4 ((a9.add (Int.toNat u * 2)).add 1) (.int .i64 n10) fun h8 =>
      (0 ≤ v ∧ v < (n : Int)) ∧ NN p fun a10 => Wr h8 (a10.add (Int.toNat v * 2)) (.int .i64 n13) fun h9 => Wr h9 ((a10.add (Int.toNat v * 2)).add 1) (.int .i64 n14) k := by
  subst eu ev
  have r := a.rd s
  obtain ⟨ad, rfl, _⟩ := r.at_ (i := u') (by omega)
  refine ldP2 r rfl hv1 (ldP2 r rfl hu1 ⟨⟨by omega, by omega⟩, ?_⟩)
  rw [Int.toNat_natCast, Int.toNat_natCast]
  refine wrP2 (x := xs.getD v' tP2.d) a s (by omega) fun h1 A1 a1 s1 => ⟨⟨by omega, by omega⟩, ?_⟩
  exact wrP2 (x := xs.getD u' tP2.d) a1 s1 (by omega) hk
theorem swP2x {h0 h : Hp} {p : Option Addr} {n c : Nat} {u v : Int} {u' v' : Nat} {xs : List P2} {A F : Bag} {k : Hp → Prop} {X : Prop} (hx : X) (a : Sl tP2 p n c xs A) (s : St h0 h (A + F)) (eu : u = (u' : Int)) (ev : v = (v' : Int)) (hu1 : u' < n) (hv1 : v' < n)
    (hk : ∀ h' A', Sl tP2 p n c (swapL tP2.d xs u' v') A' → St h0 h' (A' + F) → k h') :
    (0 ≤ v ∧ v < (n : Int)) ∧ NN p fun a5 => ∃ n9 : Int, ∃ n10 : Int, cell h (a5.add (Int.toNat v * 2)) = some (.int .i64 n9) ∧ cell h ((a5.add (Int.toNat v * 2)).add 1) = some (.int .i64 n10) ∧
      X ∧ (0 ≤ u ∧ u < (n : Int)) ∧ NN p fun a7 => ∃ n13 : Int, ∃ n14 : Int, cell h (a7.add (Int.toNat u * 2)) = some (.int .i64 n13) ∧ cell h ((a7.add (Int.toNat u * 2)).add 1) = some (.int .i64 n14) ∧
      (0 ≤ u ∧ u < (n : Int)) ∧ NN p fun a9 => Wr h (a9.add (Int.toNat u * 2)) (.int .i64 n9) fun h4 => Wr h4 ((a9.add (Int.toNat u * 2)).add 1) (.int .i64 n10) fun h8 =>
      (0 ≤ v ∧ v < (n : Int)) ∧ NN p fun a10 => Wr h8 (a10.add (Int.toNat v * 2)) (.int .i64 n13) fun h9 => Wr h9 ((a10.add (Int.toNat v * 2)).add 1) (.int .i64 n14) k := by
  subst eu ev
  have r := a.rd s
  obtain ⟨ad, rfl, _⟩ := r.at_ (i := u') (by omega)
  refine ldP2 r rfl hv1 ⟨hx, ldP2 r rfl hu1 ⟨⟨by omega, by omega⟩, ?_⟩⟩
  rw [Int.toNat_natCast, Int.toNat_natCast]
  refine wrP2 (x := xs.getD v' tP2.d) a s (by omega) fun h1 A1 a1 s1 => ⟨⟨by omega, by omega⟩, ?_⟩
  exact wrP2 (x := xs.getD u' tP2.d) a1 s1 (by omega) hk
/-- What the comparison does. -/
def CmpP2 (h0 : Hp) (cmp : Value) (cf : P2 → P2 → Int) (P : P2 → Prop) : Prop := ∀ (x y : P2) (h : Hp) (K : Value → Hp → Prop), Ext h0 h → P x → P y → (∀ h', Ext h h' → K (.int .i64 (cf x y)) h') → funV cmp fun fg fa fc => callX Try.prog F fg (fa ++ (([encP x, encP y] : List Value) ++ fc)).toArray h K
/-- What a closure's comparison does, in a state. -/
def CmpCI (h0 : Hp) (G : Bag) (cmp : Value) (cf : Int → Int → Int) (P : Int → Prop) : Prop := ∀ (x y : Int) (h : Hp) (B : Bag) (K : Value → Hp → Prop), St h0 h (G + B) → P x → P y → (∀ h', Ext h h' → K (.int .i64 (cf x y)) h') → funV cmp fun fg fa fc => callX Try.prog F fg (fa ++ (([.int .i64 x, .int .i64 y] : List Value) ++ fc)).toArray h K
end Go.Proofs.Ytfkimbdjgadelaa

/- Sorting: the elements' own lemmas (integers). -/
set_option maxRecDepth 100000
namespace Go.Proofs.Ytfkimbdjgadelaa
open Go Go.Sx
theorem ldOI {h : Hp} {p : Option Addr} {n : Nat} {l : List Int} {i : Int} {i' : Nat} {Q : Int → Prop} (r : RdT (tI 3) h p n l) (ei : i = (i' : Int)) (h1 : i' < n) (hq : Q (l.getD i' (tI 3).d)) :
    (0 ≤ i ∧ i < (n : Int)) ∧ NN p fun a => ∃ x : Int, cell h (a.add (Int.toNat i * 1)) = some (.int .i64 x) ∧ Q x := by
  subst ei
  exact r.int (by omega) (by omega) (by rw [Int.toNat_natCast]; exact hq)
theorem swOIx {h0 h : Hp} {p : Option Addr} {n c : Nat} {u v : Int} {u' v' : Nat} {xs : List Int} {A F : Bag} {k : Hp → Prop} {X : Prop} (hx : X) (a : Sl (tI 3) p n c xs A) (s : St h0 h (A + F)) (eu : u = (u' : Int)) (ev : v = (v' : Int)) (hu1 : u' < n) (hv1 : v' < n)
    (hk : ∀ h' A', Sl (tI 3) p n c (swapL (tI 3).d xs u' v') A' → St h0 h' (A' + F) → k h') :
    (0 ≤ v ∧ v < (n : Int)) ∧ NN p fun a1 => ∃ n1 : Int, cell h (a1.add (Int.toNat v * 1)) = some (.int .i64 n1) ∧ X ∧ (0 ≤ u ∧ u < (n : Int)) ∧ NN p fun a2 => ∃ n2 : Int, cell h (a2.add (Int.toNat u * 1)) = some (.int .i64 n2) ∧
      (0 ≤ u ∧ u < (n : Int)) ∧ NN p fun a3 => Wr h (a3.add (Int.toNat u * 1)) (.int .i64 n1) fun h1 => (0 ≤ v ∧ v < (n : Int)) ∧ NN p fun a4 => Wr h1 (a4.add (Int.toNat v * 1)) (.int .i64 n2) k := by
  subst eu ev
  have r := a.rd s
  refine ldOI r rfl hv1 ⟨hx, ldOI r rfl hu1 ?_⟩
  refine a.wrI (x := xs.getD v' (tI 3).d) s (by omega) (by omega) rfl rfl fun h1 A1 a1 s1 => ?_
  refine a1.wrI (x := xs.getD u' (tI 3).d) s1 (by omega) (by omega) rfl rfl fun h2 A2 a2 s2 => ?_
  rw [Int.toNat_natCast, Int.toNat_natCast] at a2
  exact hk h2 A2 a2 s2
theorem swOI {h0 h : Hp} {p : Option Addr} {n c : Nat} {u v : Int} {u' v' : Nat} {xs : List Int} {A F : Bag} {k : Hp → Prop} (a : Sl (tI 3) p n c xs A) (s : St h0 h (A + F)) (eu : u = (u' : Int)) (ev : v = (v' : Int)) (hu1 : u' < n) (hv1 : v' < n)
    (hk : ∀ h' A', Sl (tI 3) p n c (swapL (tI 3).d xs u' v') A' → St h0 h' (A' + F) → k h') :
    (0 ≤ v ∧ v < (n : Int)) ∧ NN p fun a1 => ∃ n1 : Int, cell h (a1.add (Int.toNat v * 1)) = some (.int .i64 n1) ∧ (0 ≤ u ∧ u < (n : Int)) ∧ NN p fun a2 => ∃ n2 : Int, cell h (a2.add (Int.toNat u * 1)) = some (.int .i64 n2) ∧
      (0 ≤ u ∧ u < (n : Int)) ∧ NN p fun a3 => Wr h (a3.add (Int.toNat u * 1)) (.int .i64 n1) fun h1 => (0 ≤ v ∧ v < (n : Int)) ∧ NN p fun a4 => Wr h1 (a4.add (Int.toNat v * 1)) (.int .i64 n2) k := by
  subst eu ev
  have r := a.rd s
  refine ldOI r rfl hv1 (ldOI r rfl hu1 ?_)
  refine a.wrI (x := xs.getD v' (tI 3).d) s (by omega) (by omega) rfl rfl fun h1 A1 a1 s1 => ?_
  refine a1.wrI (x := xs.getD u' (tI 3).d) s1 (by omega) (by omega) rfl rfl fun h2 A2 a2 s2 => ?_
  rw [Int.toNat_natCast, Int.toNat_natCast] at a2
  exact hk h2 A2 a2 s2
end Go.Proofs.Ytfkimbdjgadelaa

/- Sorting: insertionSort, siftDown, heapSort, reverseRange. -/
set_option maxRecDepth 100000
namespace Go.Proofs.Ytfkimbdjgadelaa
open Go Go.Sx
/-- What a step of sorting leaves: the same elements in a range, in another order. -/
abbrev OutP2 (h0 : Hp) (p : Option Addr) (n cp a b : Nat) (xs : List P2) (F : Bag) (h' : Hp) (Q : List P2 → Prop) : Prop := ∃ ys A', Sl tP2 p n cp ys A' ∧ St h0 h' (A' + F) ∧ Swp tP2.d a b xs ys ∧ Q ys
theorem insertionSortP2 {h0 h : Hp} {p : Option Addr} {n cp a' b' : Nat} {a b : Int} {xs : List P2} {A F : Bag} {cmp : Value} {cf : P2 → P2 → Int} {P : P2 → Prop} (hX : CmpP2 h0 cmp cf P) (ho : OrdP (fun x y : P2 => cf x y < 0)) (s : St h0 h (A + F)) (o : Sl tP2 p n cp xs A) (hP : ∀ k, k < n → P (xs.getD k tP2.d)) (ea : a = (a' : Int)) (eb : b = (b' : Int)) (ha : a' ≤ n) (hb : b' ≤ n) (hn : n < 1000000) :
    HCalls Try.prog 62 #[.slice p n cp, .int .i64 a, .int .i64 b, cmp] h (fun v h' => v = .tuple #[] ∧ OutP2 h0 p n cp a' b' xs F h' (SrtR tP2.d (fun x y : P2 => cf x y < 0) a' b')) := by
  subst ea eb
  have hl0 := o.len
  refine slices_insertionSortCmpFunc_2_int_call ?_
  rw [slices_insertionSortCmpFunc_2_int_b0_eq]
  refine ⟨⟨by omega, by omega⟩, fun i h1 => ∃ i' : Nat, i.1 = i' ∧ a' + 1 ≤ i' ∧ OutP2 h0 p n cp a' b' xs F h1 (SrtR tP2.d (fun x y : P2 => cf x y < 0) a' i'), fun i _ => (b' - i.1).toNat, ⟨a' + 1, rfl, Nat.le_refl _, xs, A, o, s, .refl _, srtR_one (by omega)⟩, ?_⟩
  rintro ⟨_, _⟩ h1 ⟨i', rfl, hi, ys, A1, o, s, w, hs⟩
  dsimp only
  rw [slices_insertionSortCmpFunc_2_int_b1_eq]
  refine condP (fun hlt => ?_) (fun hge => ⟨rfl, ys, A1, o, s, w, SrtR.mono hs (Nat.le_refl _) (by omega)⟩)
  refine ⟨fun j h2 => ∃ j' : Nat, j.1 = j' ∧ a' ≤ j' ∧ j' ≤ i' ∧ OutP2 h0 p n cp a' b' xs F h2 (InsR tP2.d (fun x y : P2 => cf x y < 0) a' j' i'), fun j _ => j.1.toNat, ⟨i', rfl, by omega, by omega, ys, A1, o, s, w, ins_start hs⟩, ?_⟩
  clear hs w s o ys
  rintro ⟨_, _⟩ h2 ⟨j', rfl, hj1, hj2, ys, A1, o, s, w, hs⟩
  dsimp only
  have hl := o.len
  have hP := w.allN hl0 hP
  have fin : ∀ h3, St h0 h3 (A1 + F) → (a' < j' → ¬ (fun x y : P2 => cf x y < 0) (ys.getD j' tP2.d) (ys.getD (j' - 1) tP2.d)) → slices_insertionSortCmpFunc_2_int_b4 p n cp a' b' cmp i' h3 (fun s' h' => (∃ i' : Nat, s'.1 = i' ∧ a' + 1 ≤ i' ∧ OutP2 h0 p n cp a' b' xs F h' (SrtR tP2.d (fun x y : P2 => cf x y < 0) a' i')) ∧ (b' - s'.1).toNat < (b' - (i' : Int)).toNat) (fun v h' => v = .tuple #[] ∧ OutP2 h0 p n cp a' b' xs F h' (SrtR tP2.d (fun x y : P2 => cf x y < 0) a' b')) := by
    intro h3 s hx
    rw [slices_insertionSortCmpFunc_2_int_b4_eq]
    exact ⟨⟨by omega, by omega⟩, ⟨i' + 1, by push_cast; rfl, by omega, ys, A1, o, s, w, ins_end ho hj1 hs hx⟩, by omega⟩
  rw [slices_insertionSortCmpFunc_2_int_b2_eq]
  refine condP (fun hj => ?_) (fun hj => fin _ s fun h => by omega)
  have r := o.rd s
  refine ldP2 (i' := j') r rfl (by omega) ⟨⟨by omega, by omega⟩, ldP2 (i' := j' - 1) r (by omega) (by omega) ?_⟩
  refine hX _ _ _ _ s.ext (hP _ (by omega)) (hP _ (by omega)) fun h5 e5 => ⟨_, rfl, ?_⟩; have s := s.grow e5
  refine condP (fun hc => ?_) (fun hc => fin _ s fun _ => hc)
  rw [slices_insertionSortCmpFunc_2_int_b3_eq]
  refine ⟨⟨by omega, by omega⟩, ⟨by omega, by omega⟩, ?_⟩
  refine swP2 (u' := j') (v' := j' - 1) o s rfl (by omega) (by omega) (by omega) fun h6 A6 o6 s6 => ?_
  rw [slices_insertionSortCmpFunc_2_int_b5_eq]
  exact ⟨⟨by omega, by omega⟩, ⟨j' - 1, by omega, by omega, by omega, _, A6, o6, s6, .step w (by omega) (by omega) (by omega) (by omega) (by omega), ins_swap ho (by omega) hj2 (by omega) hs hc⟩, by omega⟩
theorem siftDownP2 {h0 h : Hp} {p : Option Addr} {n cp lo' hi' f' : Nat} {lo hi f : Int} {xs : List P2} {A F : Bag} {cmp : Value} {cf : P2 → P2 → Int} {P : P2 → Prop} (hX : CmpP2 h0 cmp cf P) (ho : OrdP (fun x y : P2 => cf x y < 0)) (s : St h0 h (A + F)) (o : Sl tP2 p n cp xs A) (hP : ∀ k, k < n → P (xs.getD k tP2.d)) (el : lo = (lo' : Int)) (eh : hi = (hi' : Int)) (ef : f = (f' : Int)) (hf : f' + hi' ≤ n) (hlo : lo' ≤ n) (hn : n < 1000000)
    (hx : HeapX tP2.d (fun x y : P2 => cf x y < 0) f' lo' hi' lo' xs) :
    HCalls Try.prog 76 #[.slice p n cp, .int .i64 lo, .int .i64 hi, .int .i64 f, cmp] h (fun v h' => v = .tuple #[] ∧ OutP2 h0 p n cp (f' + lo') (f' + hi') xs F h' (HeapR tP2.d (fun x y : P2 => cf x y < 0) f' lo' hi')) := by
  subst el eh ef
  have hl0 := o.len
  refine slices_siftDownCmpFunc_2_int_call ?_
  rw [slices_siftDownCmpFunc_2_int_b0_eq]
  refine ⟨fun i h1 => ∃ r : Nat, i.1 = r ∧ lo' ≤ r ∧ r ≤ n ∧ OutP2 h0 p n cp (f' + lo') (f' + hi') xs F h1 (HeapX tP2.d (fun x y : P2 => cf x y < 0) f' lo' hi' r), fun i _ => (hi' - i.1).toNat, ⟨lo', rfl, Nat.le_refl _, hlo, xs, A, o, s, .refl _, hx⟩, ?_⟩
  rintro ⟨_, _⟩ h1 ⟨r, rfl, hr, hrn, ys, A1, o, s, w, hs⟩
  dsimp only
  have hl := o.len
  have hP := w.allN hl0 hP
  rw [slices_siftDownCmpFunc_2_int_b1_eq]
  refine ⟨⟨by omega, by omega⟩, ⟨by omega, by omega⟩, condP (fun hle => ⟨rfl, ys, A1, o, s, w, heap_stop hs fun c h1 h2 => by omega⟩) (fun hle => ⟨⟨by omega, by omega⟩, ?_⟩)⟩
  have fin : ∀ (ch : Nat) (h3 : Hp) (ci : Int), ci = (ch : Int) → St h0 h3 (A1 + F) → (ch = 2 * r + 1 ∨ ch = 2 * r + 2) → ch < hi' → (∀ c, (c = 2 * r + 1 ∨ c = 2 * r + 2) → c < hi' → ¬ (fun x y : P2 => cf x y < 0) (ys.getD (f' + ch) tP2.d) (ys.getD (f' + c) tP2.d)) →
      slices_siftDownCmpFunc_2_int_b2 p n cp hi' f' cmp r ci h3 (fun s' h' => (∃ r : Nat, s'.1 = r ∧ lo' ≤ r ∧ r ≤ n ∧ OutP2 h0 p n cp (f' + lo') (f' + hi') xs F h' (HeapX tP2.d (fun x y : P2 => cf x y < 0) f' lo' hi' r)) ∧ (hi' - s'.1).toNat < (hi' - (r : Int)).toNat) (fun v h' => v = .tuple #[] ∧ OutP2 h0 p n cp (f' + lo') (f' + hi') xs F h' (HeapR tP2.d (fun x y : P2 => cf x y < 0) f' lo' hi')) := by
    rintro ch h3 _ rfl s hc1 hc2 hmax
    rw [slices_siftDownCmpFunc_2_int_b2_eq]
    have rd := o.rd s
    refine ⟨⟨by omega, by omega⟩, ldP2 (i' := f' + r) rd (by omega) (by omega) ⟨⟨by omega, by omega⟩, ldP2 (i' := f' + ch) rd (by omega) (by omega) ?_⟩⟩
    refine hX _ _ _ _ s.ext (hP _ (by omega)) (hP _ (by omega)) fun h5 e5 => ⟨_, rfl, ?_⟩; have s := s.grow e5
    refine condN (fun hc => ⟨rfl, ys, A1, o, s, w, heap_stop hs fun c k1 k2 k3 => ho.trans _ _ _ (hmax c k1 k2) hc k3⟩) (fun hc => ⟨⟨by omega, by omega⟩, ⟨by omega, by omega⟩, ⟨by omega, by omega⟩, ?_⟩)
    refine swP2x ⟨by omega, by omega⟩ (u' := f' + r) (v' := f' + ch) o s (by omega) (by omega) (by omega) (by omega) fun h6 A6 o6 s6 => ?_
    exact ⟨⟨ch, rfl, by omega, by omega, _, A6, o6, s6, .step (i := f' + r) (j := f' + ch) w (by omega) (by omega) (by omega) (by omega) (by omega), heap_swap ho hs hc1 hc2 (by omega) hc hmax hr⟩, by omega⟩
  refine condP (fun h2 => ?_) (fun h2 => fin (2 * r + 1) _ _ (by omega) s (.inl rfl) (by omega) fun c k1 k2 => ?_)
  · have rd := o.rd s
    refine ⟨⟨by omega, by omega⟩, ldP2 (i' := f' + (2 * r + 1)) rd (by omega) (by omega) ⟨⟨by omega, by omega⟩, ⟨by omega, by omega⟩, ldP2 (i' := f' + (2 * r + 2)) rd (by omega) (by omega) ?_⟩⟩
    refine hX _ _ _ _ s.ext (hP _ (by omega)) (hP _ (by omega)) fun h5 e5 => ⟨_, rfl, ?_⟩; have s := s.grow e5
    refine condP (fun hc => ⟨⟨by omega, by omega⟩, fin (2 * r + 2) _ _ (by push_cast; rfl) s (.inr rfl) (by omega) fun c k1 k2 => ?_⟩) (fun hc => fin (2 * r + 1) _ _ (by omega) s (.inl rfl) (by omega) fun c k1 k2 => ?_)
    · rcases k1 with rfl | rfl
      · exact ho.asymm _ _ hc
      · exact ho.irr _
    · rcases k1 with rfl | rfl
      · exact ho.irr _
      · exact hc
  · rcases k1 with rfl | rfl
    · exact ho.irr _
    · omega
theorem heapSortP2 {h0 h : Hp} {p : Option Addr} {n cp a' b' : Nat} {a b : Int} {xs : List P2} {A F : Bag} {cmp : Value} {cf : P2 → P2 → Int} {P : P2 → Prop} (hX : CmpP2 h0 cmp cf P) (ho : OrdP (fun x y : P2 => cf x y < 0)) (s : St h0 h (A + F)) (o : Sl tP2 p n cp xs A) (hP : ∀ k, k < n → P (xs.getD k tP2.d)) (ea : a = (a' : Int)) (eb : b = (b' : Int)) (hab : a' < b') (hb : b' ≤ n) (hn : n < 1000000) :
    HCalls Try.prog 63 #[.slice p n cp, .int .i64 a, .int .i64 b, cmp] h (fun v h' => v = .tuple #[] ∧ OutP2 h0 p n cp a' b' xs F h' (SrtR tP2.d (fun x y : P2 => cf x y < 0) a' b')) := by
  subst ea eb
  have hl0 := o.len
  refine slices_heapSortCmpFunc_2_int_call ?_
  rw [slices_heapSortCmpFunc_2_int_b0_eq]
  refine ⟨⟨by omega, by omega⟩, ⟨by omega, by omega⟩, quo_intro (by omega) (by omega) (by omega) ?_⟩
  obtain ⟨q, hq⟩ : ∃ q : Nat, ((b' : Int) - a' - 1) / 2 + 1 = q := ⟨(((b' : Int) - a' - 1) / 2 + 1).toNat, by omega⟩
  refine ⟨fun i h1 => ∃ m : Nat, i.1 = (m : Int) - 1 ∧ m ≤ b' - a' ∧ OutP2 h0 p n cp a' b' xs F h1 (HeapR tP2.d (fun x y : P2 => cf x y < 0) a' m (b' - a')), fun i _ => (i.1 + 1).toNat, ⟨q, by show _ / _ = _; omega, by omega, xs, A, o, s, .refl _, fun k c k1 k2 k3 => by omega⟩, ?_⟩
  rintro ⟨_, _⟩ h1 ⟨m, rfl, hm, ys, A1, o, s, w, hs⟩
  dsimp only
  have hl := o.len
  have hPy := w.allN hl0 hP
  rw [slices_heapSortCmpFunc_2_int_b1_eq]
  refine condP (fun hi => ?_) (fun hi => ?_)
  · refine (siftDownP2 hX ho s o hPy (lo' := m - 1) (hi' := b' - a') (f' := a') (by omega) (by omega) rfl (by omega) (by omega) hn ⟨fun k c k1 k2 k3 k4 => hs k c (by omega) k2 k3, fun k c k1 k2 => by omega⟩).mono fun v h2 ⟨hv, zs, A2, o2, s2, w2, hs2⟩ => ⟨hv, ?_⟩
    rw [slices_heapSortCmpFunc_2_int_b2_eq]
    exact ⟨⟨by omega, by omega⟩, ⟨m - 1, by omega, by omega, zs, A2, o2, s2, w.trans (w2.mono (by omega) (by omega) (by omega)).1, hs2⟩, by omega⟩
  · obtain rfl : m = 0 := by omega
    rw [slices_heapSortCmpFunc_2_int_b3_eq]
    refine ⟨⟨by omega, by omega⟩, ?_⟩
    refine ⟨fun i h1 => ∃ m : Nat, i.1 = (m : Int) - 1 ∧ m ≤ b' - a' ∧ OutP2 h0 p n cp a' b' xs F h1 (fun ys => HeapR tP2.d (fun x y : P2 => cf x y < 0) a' 0 m ys ∧ OutR tP2.d (fun x y : P2 => cf x y < 0) a' b' a' (a' + m) ys), fun i _ => (i.1 + 1).toNat, ⟨b' - a', by show (_ : Int) - 1 = _; omega, by omega, ys, A1, o, s, w, hs, by rw [show a' + (b' - a') = b' by omega]; exact outR_start⟩, ?_⟩
    clear hs w s o hl hPy ys
    rintro ⟨_, _⟩ h2 ⟨m, rfl, hm, ys, A1, o, s, w, hs, ho2⟩
    dsimp only
    have hl := o.len
    rw [slices_heapSortCmpFunc_2_int_b4_eq]
    refine condP (fun hi => ⟨⟨by omega, by omega⟩, ⟨by omega, by omega⟩, ?_⟩) (fun hi => ?_)
    · refine swP2 (u' := a') (v' := a' + (m - 1)) o s rfl (by omega) (by omega) (by omega) fun h6 A6 o6 s6 => ?_
      have w1 : Swp tP2.d a' (a' + m) ys (swapL tP2.d ys a' (a' + (m - 1))) := .one (by omega) (by omega) (by omega) (by omega) (by omega)
      have w6 := w.trans (w1.mono (Nat.le_refl _) (by omega) (by omega)).1
      have hg : ∀ k, (swapL tP2.d ys a' (a' + (m - 1))).getD k tP2.d = if k = a' + (m - 1) then ys.getD a' tP2.d else if k = a' then ys.getD (a' + (m - 1)) tP2.d else ys.getD k tP2.d := swapL_get (by omega) (by omega)
      have ho6 : OutR tP2.d (fun x y : P2 => cf x y < 0) a' b' a' (a' + (m - 1)) (swapL tP2.d ys a' (a' + (m - 1))) := by
        intro p q k1 k2 k3 k4
        by_cases hq : q = a' + (m - 1)
        · rw [hq, hg, if_pos rfl]
          exact w1.all (P := fun x => ¬ (fun x y : P2 => cf x y < 0) (ys.getD a' tP2.d) x) (fun k j1 j2 => by
            have := heap_max ho hs (k - a') (by omega)
            rwa [show a' + (k - a') = k by omega] at this) p k1 (by omega)
        · exact outR_swp (Nat.le_refl _) (by omega) ho2 w1 p q k1 k2 k3 (by omega)
      generalize swapL tP2.d ys a' (a' + (m - 1)) = us at *
      refine (siftDownP2 hX ho s6 o6 (w6.allN hl0 hP) (lo' := 0) (hi' := m - 1) (f' := a') (by rfl) (by omega) rfl (by omega) (by omega) hn ⟨fun k c k1 k2 k3 k4 => ?_, fun k c k1 k2 => by omega⟩).mono fun v h2 ⟨hv, zs, A2, o2, s2, w2, hs2⟩ => ⟨hv, ?_⟩
      · rw [hg, hg, if_neg (by omega), if_neg (by omega), if_neg (by omega), if_neg (by omega)]
        exact hs k c (by omega) k2 (by omega)
      · rw [slices_heapSortCmpFunc_2_int_b5_eq]
        exact ⟨⟨by omega, by omega⟩, ⟨m - 1, by omega, by omega, zs, A2, o2, s2, w6.trans (w2.mono (by omega) (by omega) (by rw [w6.len]; omega)).1, hs2, outR_swp (Nat.le_refl _) (by omega) ho6 w2⟩, by omega⟩
    · obtain rfl : m = 0 := by omega
      exact ⟨rfl, ys, A1, o, s, w, outR_done ho2 (srtR_one (by omega))⟩
theorem reverseRangeP2 {h0 h : Hp} {p : Option Addr} {n cp a' b' : Nat} {a b : Int} {xs : List P2} {A F : Bag} {cmp : Value} (s : St h0 h (A + F)) (o : Sl tP2 p n cp xs A) (ea : a = (a' : Int)) (eb : b = (b' : Int)) (hab : a' ≤ b') (hb : b' ≤ n) (hn : n < 1000000) :
    HCalls Try.prog 66 #[.slice p n cp, .int .i64 a, .int .i64 b, cmp] h (fun v h' => v = .tuple #[] ∧ OutP2 h0 p n cp a' b' xs F h' fun _ => True) := by
  subst ea eb
  have hl0 := o.len
  refine slices_reverseRangeCmpFunc_2_int_call ?_
  rw [slices_reverseRangeCmpFunc_2_int_b0_eq]
  refine ⟨⟨by omega, by omega⟩, fun i h1 => ∃ i' : Nat, i.1 = i' ∧ a' ≤ i' ∧ i.2.1 < b' ∧ i' ≤ n ∧ -1 ≤ i.2.1 ∧ OutP2 h0 p n cp a' b' xs F h1 fun _ => True, fun i _ => (i.2.1 - i.1).toNat, ⟨a', rfl, Nat.le_refl _, by show (_ : Int) - 1 < _; omega, by omega, by show -1 ≤ (_ : Int) - 1; omega, xs, A, o, s, .refl _, trivial⟩, ?_⟩
  rintro ⟨_, j, _⟩ h1 ⟨i', rfl, hi, hj, hin, hj1, ys, A1, o, s, w, _⟩
  dsimp only at hj hj1 ⊢
  have hl := o.len
  rw [slices_reverseRangeCmpFunc_2_int_b1_eq]
  refine condP (fun hlt => ?_) (fun hlt => ⟨rfl, ys, A1, o, s, w, trivial⟩)
  refine swP2 (u' := i') (v' := j.toNat) o s rfl (by omega) (by omega) (by omega) fun h6 A6 o6 s6 => ?_
  exact ⟨⟨by omega, by omega⟩, ⟨by omega, by omega⟩, ⟨i' + 1, by push_cast; rfl, by omega, by show j - 1 < _; omega, by omega, by show -1 ≤ j - 1; omega, _, A6, o6, s6, .step w (by omega) (by omega) (by omega) (by omega) (by omega), trivial⟩, by dsimp only; omega⟩
/-- What a step of sorting leaves: the same elements in a range, in another order. -/
abbrev OutCI (h0 : Hp) (p : Option Addr) (n cp a b : Nat) (xs : List Int) (F : Bag) (h' : Hp) (Q : List Int → Prop) : Prop := ∃ ys A', Sl (tI 3) p n cp ys A' ∧ St h0 h' (A' + F) ∧ Swp (tI 3).d a b xs ys ∧ Q ys
end Go.Proofs.Ytfkimbdjgadelaa

/- Plain lists: merging of sorted ranges, the steps. -/
namespace Go.Sx
variable {α : Type} {d : α} {lt : α → α → Prop}
/-- The first element goes to its place. -/
theorem merge_first (o : OrdP lt) {a b i : Nat} {xs zs : List α} (h2 : SrtR d lt (a + 1) b xs) (hr : Rot d a (a + 1) i xs zs) (k1 : a + 1 ≤ i) (k2 : i ≤ b) (hb : b ≤ xs.length)
    (f1 : ∀ k, a + 1 ≤ k → k < i → lt (xs.getD k d) (xs.getD a d)) (f2 : ∀ k, i ≤ k → k < b → ¬ lt (xs.getD k d) (xs.getD a d)) : SrtR d lt a b zs ∧ Stb lt xs zs := by
  refine ⟨fun p q g1 g2 g3 => ?_, rot_stb o (by omega) k1 (by omega) hr fun u v c1 c2 c3 c4 => by rw [show u = a by omega]; exact f1 v c3 c4⟩
  rw [hr.2 q, hr.2 p]
  by_cases c1 : q < i - 1
  · rw [if_neg (by omega), if_pos (by omega), if_neg (by omega), if_pos (by omega)]
    exact h2 _ _ (by omega) (by omega) (by omega)
  · by_cases c2 : q = i - 1
    · rw [if_neg (by omega), if_neg (by omega), if_neg (by omega), if_pos (by omega)]
      rw [show q - (i - (a + 1)) = a by omega]
      exact o.asymm _ _ (f1 _ (by omega) (by omega))
    · rw [if_pos (by omega)]
      by_cases c3 : p < i - 1
      · rw [if_neg (by omega), if_pos (by omega)]
        exact h2 _ _ (by omega) (by omega) g3
      · by_cases c4 : p = i - 1
        · rw [if_neg (by omega), if_neg (by omega), show p - (i - (a + 1)) = a by omega]
          exact f2 q (by omega) g3
        · rw [if_pos (by omega)]
          exact h2 _ _ (by omega) g2 g3
/-- The last element goes to its place. -/
theorem merge_last (o : OrdP lt) {a m i : Nat} {xs zs : List α} (h1 : SrtR d lt a m xs) (hr : Rot d i m (m + 1) xs zs) (k1 : a ≤ i) (k2 : i ≤ m) (hb : m + 1 ≤ xs.length)
    (f1 : ∀ k, a ≤ k → k < i → ¬ lt (xs.getD m d) (xs.getD k d)) (f2 : ∀ k, i ≤ k → k < m → lt (xs.getD m d) (xs.getD k d)) : SrtR d lt a (m + 1) zs ∧ Stb lt xs zs := by
  refine ⟨fun p q g1 g2 g3 => ?_, rot_stb o k2 (by omega) hb hr fun u v c1 c2 c3 c4 => by rw [show v = m by omega]; exact f2 u c1 c2⟩
  rw [hr.2 q, hr.2 p]
  by_cases c1 : q < i
  · rw [if_pos (by omega), if_pos (by omega)]
    exact h1 _ _ g1 g2 (by omega)
  · by_cases c2 : q = i
    · rw [if_neg (by omega), if_pos (by omega), if_pos (by omega), show q + (m - i) = m by omega]
      exact f1 p g1 (by omega)
    · rw [if_neg (by omega), if_neg (by omega)]
      by_cases c3 : p < i
      · rw [if_pos (by omega)]
        exact h1 _ _ g1 (by omega) (by omega)
      · by_cases c4 : p = i
        · rw [if_neg (by omega), if_pos (by omega), show p + (m - i) = m by omega]
          exact o.asymm _ _ (f2 _ (by omega) (by omega))
        · rw [if_neg (by omega), if_neg (by omega)]
          exact h1 _ _ (by omega) (by omega) (by omega)
theorem cross_left {a mid b : Nat} {zs ys : List α} (w : Swp d a mid zs ys) (hc : ∀ p q, a ≤ p → p < mid → mid ≤ q → q < b → ¬ lt (zs.getD q d) (zs.getD p d)) : ∀ p q, a ≤ p → p < mid → mid ≤ q → q < b → ¬ lt (ys.getD q d) (ys.getD p d) := by
  intro p q h1 h2 h3 h4
  rw [w.out (k := q) (.inr h3)]
  exact w.all (P := fun x => ¬ lt (zs.getD q d) x) (fun k k1 k2 => hc k q k1 k2 h3 h4) p h1 h2
theorem cross_right {a mid b : Nat} {zs ys : List α} (w : Swp d mid b zs ys) (hc : ∀ p q, a ≤ p → p < mid → mid ≤ q → q < b → ¬ lt (zs.getD q d) (zs.getD p d)) : ∀ p q, a ≤ p → p < mid → mid ≤ q → q < b → ¬ lt (ys.getD q d) (ys.getD p d) := by
  intro p q h1 h2 h3 h4
  rw [w.out (k := p) (.inl h2)]
  exact w.all (P := fun x => ¬ lt x (zs.getD p d)) (fun k k1 k2 => hc p k h1 h2 k1 k2) q h3 h4
theorem srtR_out {a b a' b' : Nat} {zs ys : List α} (w : Swp d a' b' zs ys) (h : SrtR d lt a b zs) (hd : b ≤ a' ∨ b' ≤ a) : SrtR d lt a b ys := by
  intro p q h1 h2 h3
  rw [w.out (k := q) (by omega), w.out (k := p) (by omega)]
  exact h p q h1 h2 h3
end Go.Sx
namespace Go.Sx
variable {α : Type} {d : α} {lt : α → α → Prop}
/-- Sorted within each block of a size, between two places. -/
def BlkS (d : α) (lt : α → α → Prop) (bs a m : Nat) (xs : List α) : Prop := ∀ p q, a ≤ p → p < q → q < m → p / bs = q / bs → ¬ lt (xs.getD q d) (xs.getD p d)
theorem blk_start {bs : Nat} {xs : List α} : BlkS d lt bs 0 0 xs := fun _ _ _ _ h _ => by omega
theorem blk_out {bs a m a' b' : Nat} {xs zs : List α} (w : Swp d a' b' xs zs) (h : BlkS d lt bs a m xs) (hd : m ≤ a' ∨ b' ≤ a) : BlkS d lt bs a m zs := fun p q h1 h2 h3 h4 => by
  rw [w.out (k := q) (by omega), w.out (k := p) (by omega)]; exact h p q h1 h2 h3 h4
/-- One more block is sorted. -/
theorem blk_step {bs k b : Nat} {xs zs : List α} (hb : 0 < bs) (h : BlkS d lt bs 0 (bs * k) xs) (w : Swp d (bs * k) b xs zs) (hs : SrtR d lt (bs * k) b zs) : BlkS d lt bs 0 b zs := by
  intro p q h1 h2 h3 h4
  rcases Nat.lt_or_ge q (bs * k) with h5 | h5
  · rw [w.out (k := q) (.inl h5), w.out (k := p) (by omega)]
    exact h p q h1 h2 h5 h4
  · refine hs p q ?_ h2 h3
    have h6 : k ≤ q / bs := (Nat.le_div_iff_mul_le hb).2 (by rw [Nat.mul_comm]; exact h5)
    rw [← h4] at h6
    have := (Nat.le_div_iff_mul_le hb).1 h6
    rw [Nat.mul_comm] at this
    exact this
theorem blk_srt {bs k m : Nat} {xs : List α} (hb : 0 < bs) (h : BlkS d lt bs (bs * k) m xs) {a b : Nat} (ha : bs * k ≤ a) (hab : a / bs * bs = a) (hbb : b ≤ a + bs) (hm : b ≤ m) : SrtR d lt a b xs := by
  intro p q h1 h2 h3
  refine h p q (by omega) h2 (by omega) ?_
  have e1 : p / bs = a / bs := by
    rw [Nat.div_eq_iff hb]
    omega
  have e2 : q / bs = a / bs := by
    rw [Nat.div_eq_iff hb]
    omega
  rw [e1, e2]
theorem blk_all {bs m : Nat} {xs : List α} (hm : m ≤ bs) (h : BlkS d lt bs 0 m xs) : SrtR d lt 0 m xs := fun p q h1 h2 h3 => h p q h1 h2 h3 (by rw [Nat.div_eq_of_lt (by omega), Nat.div_eq_of_lt (by omega)])
end Go.Sx

/- Sorting: stable sorting. -/
set_option maxRecDepth 100000
namespace Go.Proofs.Ytfkimbdjgadelaa
open Go Go.Sx
theorem insertionStableCI {h0 h : Hp} {p : Option Addr} {n cp a' b' : Nat} {a b : Int} {xs : List Int} {A F : Bag} {cmp : Value} {cf : Int → Int → Int} {P : Int → Prop} (hX : CmpCI h0 F cmp cf P) (ho : OrdP (fun x y : Int => cf x y < 0)) (s : St h0 h (A + F)) (o : Sl (tI 3) p n cp xs A) (hP : ∀ k, k < n → P (xs.getD k (tI 3).d)) (ea : a = (a' : Int)) (eb : b = (b' : Int)) (ha : a' ≤ n) (hb : b' ≤ n) (hn : n < 1000000) :
    HCalls Try.prog 73 #[.slice p n cp, .int .i64 a, .int .i64 b, cmp] h (fun v h' => v = .tuple #[] ∧ OutCI h0 p n cp a' b' xs F h' (fun ys => SrtR (tI 3).d (fun x y : Int => cf x y < 0) a' b' ys ∧ Stb (fun x y : Int => cf x y < 0) xs ys)) := by
  subst ea eb
  have hl0 := o.len
  refine slices_insertionSortCmpFunc_int_call ?_
  rw [slices_insertionSortCmpFunc_int_b0_eq]
  refine ⟨⟨by omega, by omega⟩, fun i h1 => ∃ i' : Nat, i.1 = i' ∧ a' + 1 ≤ i' ∧ OutCI h0 p n cp a' b' xs F h1 (fun ys => SrtR (tI 3).d (fun x y : Int => cf x y < 0) a' i' ys ∧ Stb (fun x y : Int => cf x y < 0) xs ys), fun i _ => (b' - i.1).toNat, ⟨a' + 1, rfl, Nat.le_refl _, xs, A, o, s, .refl _, srtR_one (by omega), .refl _⟩, ?_⟩
  rintro ⟨_, _⟩ h1 ⟨i', rfl, hi, ys, A1, o, s, w, hs, hb2⟩
  dsimp only
  rw [slices_insertionSortCmpFunc_int_b1_eq]
  refine condP (fun hlt => ?_) (fun hge => ⟨rfl, ys, A1, o, s, w, SrtR.mono hs (Nat.le_refl _) (by omega), hb2⟩)
  refine ⟨fun j h2 => ∃ j' : Nat, j.1 = j' ∧ a' ≤ j' ∧ j' ≤ i' ∧ OutCI h0 p n cp a' b' xs F h2 (fun ys => InsR (tI 3).d (fun x y : Int => cf x y < 0) a' j' i' ys ∧ Stb (fun x y : Int => cf x y < 0) xs ys), fun j _ => j.1.toNat, ⟨i', rfl, by omega, by omega, ys, A1, o, s, w, ins_start hs, hb2⟩, ?_⟩
  clear hs hb2 w s o ys
  rintro ⟨_, _⟩ h2 ⟨j', rfl, hj1, hj2, ys, A1, o, s, w, hs, hb2⟩
  dsimp only
  have hl := o.len
  have hP := w.allN hl0 hP
  have fin : ∀ h3, St h0 h3 (A1 + F) → (a' < j' → ¬ (fun x y : Int => cf x y < 0) (ys.getD j' (tI 3).d) (ys.getD (j' - 1) (tI 3).d)) → slices_insertionSortCmpFunc_int_b4 p n cp a' b' cmp i' h3 (fun s' h' => (∃ i' : Nat, s'.1 = i' ∧ a' + 1 ≤ i' ∧ OutCI h0 p n cp a' b' xs F h' (fun ys => SrtR (tI 3).d (fun x y : Int => cf x y < 0) a' i' ys ∧ Stb (fun x y : Int => cf x y < 0) xs ys)) ∧ (b' - s'.1).toNat < (b' - (i' : Int)).toNat) (fun v h' => v = .tuple #[] ∧ OutCI h0 p n cp a' b' xs F h' (fun ys => SrtR (tI 3).d (fun x y : Int => cf x y < 0) a' b' ys ∧ Stb (fun x y : Int => cf x y < 0) xs ys)) := by
    intro h3 s hx
    rw [slices_insertionSortCmpFunc_int_b4_eq]
    exact ⟨⟨by omega, by omega⟩, ⟨i' + 1, by push_cast; rfl, by omega, ys, A1, o, s, w, ins_end ho hj1 hs hx, hb2⟩, by omega⟩
  rw [slices_insertionSortCmpFunc_int_b2_eq]
  refine condP (fun hj => ?_) (fun hj => fin _ s fun h => by omega)
  have r := o.rd s
  refine ldOI (i' := j') r rfl (by omega) ⟨⟨by omega, by omega⟩, ldOI (i' := j' - 1) r (by omega) (by omega) ?_⟩
  refine hX _ _ _ _ _ (s.at F) (hP _ (by omega)) (hP _ (by omega)) fun h5 e5 => ⟨_, rfl, ?_⟩; have s := s.grow e5
  refine condP (fun hc => ?_) (fun hc => fin _ s fun _ => hc)
  rw [slices_insertionSortCmpFunc_int_b3_eq]
  refine ⟨⟨by omega, by omega⟩, ⟨by omega, by omega⟩, ?_⟩
  refine swOI (u' := j') (v' := j' - 1) o s rfl (by omega) (by omega) (by omega) fun h6 A6 o6 s6 => ?_
  rw [slices_insertionSortCmpFunc_int_b5_eq]
  exact ⟨⟨by omega, by omega⟩, ⟨j' - 1, by omega, by omega, by omega, _, A6, o6, s6, .step w (by omega) (by omega) (by omega) (by omega) (by omega), ins_swap ho (by omega) hj2 (by omega) hs hc, hb2.trans (by have := stb_swap ho (d := (tI 3).d) (i := j' - 1) (xs := ys) (by omega) (by rw [show j' - 1 + 1 = j' by omega]; exact hc); rwa [show j' - 1 + 1 = j' by omega] at this)⟩, by omega⟩
theorem swapRangeCI {h0 h : Hp} {p : Option Addr} {n cp a' b' m' lo hi : Nat} {a b m : Int} {xs : List Int} {A F : Bag} {cmp : Value} (s : St h0 h (A + F)) (o : Sl (tI 3) p n cp xs A) (ea : a = (a' : Int)) (eb : b = (b' : Int)) (em : m = (m' : Int)) (h1 : lo ≤ a') (h2 : a' + m' ≤ b') (h3 : b' + m' ≤ hi) (h4 : hi ≤ n) (hn : n < 1000000) :
    HCalls Try.prog 84 #[.slice p n cp, .int .i64 a, .int .i64 b, .int .i64 m, cmp] h (fun v h' => v = .tuple #[] ∧ OutCI h0 p n cp lo hi xs F h' (SwR (tI 3).d a' b' m' xs)) := by
  subst ea eb em
  have hl0 := o.len
  refine slices_swapRangeCmpFunc_int_call ?_
  rw [slices_swapRangeCmpFunc_int_b0_eq]
  refine ⟨fun i h1 => ∃ i' : Nat, i.1 = i' ∧ i' ≤ m' ∧ OutCI h0 p n cp lo hi xs F h1 (SwR (tI 3).d a' b' i' xs), fun i _ => (m' - i.1).toNat, ⟨0, rfl, by omega, xs, A, o, s, .refl _, swR_zero⟩, ?_⟩
  rintro ⟨_, _⟩ h1 ⟨i', rfl, hi', ys, A1, o, s, w, hs⟩
  dsimp only
  have hl := o.len
  rw [slices_swapRangeCmpFunc_int_b1_eq]
  refine condP (fun hlt => ?_) (fun hge => ?_)
  · refine ⟨⟨by omega, by omega⟩, ⟨by omega, by omega⟩, ⟨by omega, by omega⟩, ?_⟩
    refine swOIx (u' := a' + i') (v' := b' + i') ⟨by omega, by omega⟩ o s (by omega) (by omega) (by omega) (by omega) fun h6 A6 o6 s6 => ?_
    rw [slices_swapRangeCmpFunc_int_b2_eq]
    exact ⟨⟨by omega, by omega⟩, ⟨i' + 1, by push_cast; rfl, by omega, _, A6, o6, s6, .step w (by omega) (by omega) (by omega) (by omega) (by omega), swR_succ (by omega) (by omega) hs⟩, by dsimp only; omega⟩
  · obtain rfl : i' = m' := by omega
    exact ⟨rfl, ys, A1, o, s, w, hs⟩
theorem rotateCI {h0 h : Hp} {p : Option Addr} {n cp a' m' b' : Nat} {a m b : Int} {xs : List Int} {A F : Bag} {cmp : Value} (s : St h0 h (A + F)) (o : Sl (tI 3) p n cp xs A) (ea : a = (a' : Int)) (em : m = (m' : Int)) (eb : b = (b' : Int)) (h1 : a' < m') (h2 : m' < b') (h4 : b' ≤ n) (hn : n < 1000000) :
    HCalls Try.prog 81 #[.slice p n cp, .int .i64 a, .int .i64 m, .int .i64 b, cmp] h (fun v h' => v = .tuple #[] ∧ OutCI h0 p n cp a' b' xs F h' (Rot (tI 3).d a' m' b' xs)) := by
  subst ea em eb
  have hl0 := o.len
  refine slices_rotateCmpFunc_int_call ?_
  rw [slices_rotateCmpFunc_int_b0_eq]
  refine ⟨⟨by omega, by omega⟩, ⟨by omega, by omega⟩, fun z h1 => ∃ i j : Nat, z.1 = (i : Int) ∧ z.2.1 = (j : Int) ∧ 0 < i ∧ 0 < j ∧ a' + i ≤ m' ∧ m' + j ≤ b' ∧ OutCI h0 p n cp a' b' xs F h1 (fun ys => ∀ zs, Rot (tI 3).d (m' - i) m' (m' + j) ys zs → Rot (tI 3).d a' m' b' xs zs), fun z _ => (z.1 + z.2.1).toNat,
    ⟨m' - a', b' - m', by show (m' : Int) - a' = _; omega, by show (b' : Int) - m' = _; omega, by omega, by omega, by omega, by omega, xs, A, o, s, .refl _, fun zs hz => by rwa [show m' - (m' - a') = a' by omega, show m' + (b' - m') = b' by omega] at hz⟩, ?_⟩
  rintro ⟨_, _, _⟩ h2' ⟨i, j, rfl, rfl, hi0, hj0, hi, hj, ys, A1, o, s, w, hs⟩
  dsimp only
  have hl := o.len
  rw [slices_rotateCmpFunc_int_b1_eq]
  refine condN (fun hne => condP (fun hlt => ?_) (fun hge => ?_)) (fun heq => ?_)
  · refine ⟨⟨by omega, by omega⟩, (swapRangeCI s o (a' := m' - i) (b' := m') (m' := j) (lo := a') (hi := b') (by omega) rfl rfl (by omega) (by omega) (by omega) h4 hn).mono fun v h3 ⟨hv, zs, A2, o2, s2, w2, hz⟩ => ⟨hv, ⟨by omega, by omega⟩, ⟨i - j, j, by show (i : Int) - j = _; omega, rfl, by omega, hj0, by omega, hj, zs, A2, o2, s2, w.trans w2, fun us hu => hs us (rot_left (by omega) (by omega) hz hu)⟩, by dsimp only; omega⟩⟩
  · refine ⟨⟨by omega, by omega⟩, ⟨by omega, by omega⟩, ⟨by omega, by omega⟩, (swapRangeCI s o (a' := m' - i) (b' := m' + j - i) (m' := i) (lo := a') (hi := b') (by omega) (by omega) rfl (by omega) (by omega) (by omega) h4 hn).mono fun v h3 ⟨hv, zs, A2, o2, s2, w2, hz⟩ => ⟨hv, ⟨by omega, by omega⟩, ⟨i, j - i, rfl, by show (j : Int) - i = _; omega, hi0, by omega, hi, by omega, zs, A2, o2, s2, w.trans w2, fun us hu => hs us (rot_right (by omega) (by omega) hz hu)⟩, by dsimp only; omega⟩⟩
  · obtain rfl : i = j := by omega
    rw [slices_rotateCmpFunc_int_b2_eq]
    exact ⟨⟨by omega, by omega⟩, (swapRangeCI s o (a' := m' - i) (b' := m') (m' := i) (lo := a') (hi := b') (by omega) rfl rfl (by omega) (by omega) (by omega) h4 hn).mono fun v h3 ⟨hv, zs, A2, o2, s2, w2, hz⟩ => ⟨hv, rfl, zs, A2, o2, s2, w.trans w2, hs zs (rot_last (by omega) hz)⟩⟩
theorem halfCI {a b : Nat} (h : a + b < 4000000) : IntKind.u64.wrap ((a : Int) + (b : Int)) = ((a + b : Nat) : Int) := by rw [wrap_u64_in _ (by omega) (by omega)]; push_cast; rfl
theorem symMergeCI {h0 : Hp} {p : Option Addr} {n cp : Nat} {F : Bag} {cmp : Value} {cf : Int → Int → Int} {P : Int → Prop} (hX : CmpCI h0 F cmp cf P) (ho : OrdP (fun x y : Int => cf x y < 0)) (hn : n < 1000000) : ∀ (len a' m' b' : Nat) (a m b : Int) (h : Hp) (xs : List Int) (A : Bag), b' - a' ≤ len → St h0 h (A + F) → Sl (tI 3) p n cp xs A → (∀ k, k < n → P (xs.getD k (tI 3).d)) → a = (a' : Int) → m = (m' : Int) → b = (b' : Int) → a' < m' → m' < b' → b' ≤ n →
    SrtR (tI 3).d (fun x y : Int => cf x y < 0) a' m' xs → SrtR (tI 3).d (fun x y : Int => cf x y < 0) m' b' xs →
    HCalls Try.prog 74 #[.slice p n cp, .int .i64 a, .int .i64 m, .int .i64 b, cmp] h (fun v h' => v = .tuple #[] ∧ OutCI h0 p n cp a' b' xs F h' (fun ys => SrtR (tI 3).d (fun x y : Int => cf x y < 0) a' b' ys ∧ Stb (fun x y : Int => cf x y < 0) xs ys)) := by
  intro len
  induction len with
  | zero => intro a' m' b' a m b h xs A hlen; omega
  | succ len ih =>
  rintro a' m' b' _ _ _ h xs A hlen s o hP rfl rfl rfl h1 h2 h4 hs1 hs2
  have hl0 := o.len
  refine slices_symMergeCmpFunc_int_call ?_
  rw [slices_symMergeCmpFunc_int_b0_eq]
  refine ⟨⟨by omega, by omega⟩, condP (fun he => ?_) (fun he => ⟨⟨by omega, by omega⟩, condP (fun he2 => ?_) (fun he2 => ?_)⟩)⟩
  · obtain rfl : m' = a' + 1 := by omega
    refine ⟨fun z h1 => ∃ i j : Nat, z.1 = (i : Int) ∧ z.2.1 = (j : Int) ∧ a' + 1 ≤ i ∧ i ≤ j ∧ j ≤ b' ∧ St h0 h1 (A + F) ∧ (∀ k, a' + 1 ≤ k → k < i → (fun x y : Int => cf x y < 0) (xs.getD k (tI 3).d) (xs.getD a' (tI 3).d)) ∧ (∀ k, j ≤ k → k < b' → ¬ (fun x y : Int => cf x y < 0) (xs.getD k (tI 3).d) (xs.getD a' (tI 3).d)), fun z _ => (z.2.1 - z.1).toNat,
      ⟨a' + 1, b', rfl, rfl, by omega, by omega, by omega, s, fun k k1 k2 => by omega, fun k k1 k2 => by omega⟩, ?_⟩
    clear s
    rintro ⟨_, _, _⟩ h3 ⟨i, j, rfl, rfl, hi, hij, hj, s, q1, q2⟩
    dsimp only
    rw [slices_symMergeCmpFunc_int_b1_eq]
    refine condP (fun hlt => ?_) (fun hge => ?_)
    · refine ⟨⟨by omega, by omega⟩, ?_⟩
      rw [halfCI (by omega)]
      refine shr_intro (x := i + j) (s := 1) rfl rfl (by decide) ?_
      rw [Nat.shiftRight_eq_div_pow, Nat.pow_one]
      obtain ⟨c, hc⟩ : ∃ c, (i + j) / 2 = c := ⟨_, rfl⟩
      rw [hc]
      have r := o.rd s
      refine ⟨⟨by omega, by omega⟩, ldOI (i' := c) r rfl (by omega) (ldOI (i' := a') r rfl (by omega) ?_)⟩
      refine hX _ _ _ _ _ (s.at F) (hP _ (by omega)) (hP _ (by omega)) fun h5 e5 => ⟨_, rfl, ?_⟩; have s := s.grow e5
      refine condP (fun hcl => ⟨⟨by omega, by omega⟩, ⟨c + 1, j, by push_cast; rfl, rfl, by omega, by omega, hj, s, fun k k1 k2 => ?_, q2⟩, by dsimp only; omega⟩) (fun hcl => ⟨⟨i, c, rfl, rfl, hi, by omega, by omega, s, q1, fun k k1 k2 => ?_⟩, by dsimp only; omega⟩)
      · rcases Nat.lt_or_ge k c with hk | hk
        · have := srtR_le ho hs2 (p := k) (q := c) k1 (by omega) (by omega)
          exact Classical.byContradiction fun hn => ho.trans _ _ _ hn this hcl
        · rw [show k = c by omega]; exact hcl
      · rcases Nat.lt_or_ge c k with hk | hk
        · have := srtR_le ho hs2 (p := c) (q := k) (by omega) (by omega) (by omega)
          exact ho.trans _ _ _ hcl this
        · rw [show k = c by omega]; exact hcl
    · obtain rfl : i = j := by omega
      rw [slices_symMergeCmpFunc_int_b4_eq]
      refine ⟨fun z h1 => ∃ k : Nat, z.1 = (k : Int) ∧ a' ≤ k ∧ k + 1 ≤ i ∧ OutCI h0 p n cp a' b' xs F h1 (Rot (tI 3).d a' (a' + 1) (k + 1) xs), fun z _ => (i - z.1).toNat, ⟨a', rfl, by omega, by omega, xs, A, o, s, .refl _, rot_id (.inr (Nat.le_refl _)) (by omega) (by omega)⟩, ?_⟩
      rintro ⟨_, _⟩ h5 ⟨k, rfl, hk1, hk2, ys, A1, o1, s1, w, hr⟩
      dsimp only
      have hl := o1.len
      rw [slices_symMergeCmpFunc_int_b7_eq]
      refine ⟨⟨by omega, by omega⟩, condP (fun hlt => ?_) (fun hge2 => ?_)⟩
      · refine ⟨⟨by omega, by omega⟩, ⟨by omega, by omega⟩, ?_⟩
        refine swOI (u' := k) (v' := k + 1) o1 s1 rfl (by push_cast; rfl) (by omega) (by omega) fun h6 A6 o6 s6 => ?_
        rw [slices_symMergeCmpFunc_int_b10_eq]
        have := rot_snoc (by omega) (by omega) hr
        rw [show k + 1 - 1 = k by omega] at this
        exact ⟨⟨by omega, by omega⟩, ⟨k + 1, by push_cast; rfl, by omega, by omega, _, A6, o6, s6, .step w (by omega) (by omega) (by omega) (by omega) (by omega), this⟩, by dsimp only; omega⟩
      · obtain rfl : i = k + 1 := by omega
        have := merge_first ho hs2 hr (by omega) (by omega) (by omega) q1 q2
        exact ⟨rfl, ys, A1, o1, s1, w, this.1, this.2⟩
  · obtain rfl : b' = m' + 1 := by omega
    refine ⟨fun z h1 => ∃ i j : Nat, z.1 = (i : Int) ∧ z.2.1 = (j : Int) ∧ a' ≤ i ∧ i ≤ j ∧ j ≤ m' ∧ St h0 h1 (A + F) ∧ (∀ k, a' ≤ k → k < i → ¬ (fun x y : Int => cf x y < 0) (xs.getD m' (tI 3).d) (xs.getD k (tI 3).d)) ∧ (∀ k, j ≤ k → k < m' → (fun x y : Int => cf x y < 0) (xs.getD m' (tI 3).d) (xs.getD k (tI 3).d)), fun z _ => (z.2.1 - z.1).toNat,
      ⟨a', m', rfl, rfl, by omega, by omega, by omega, s, fun k k1 k2 => by omega, fun k k1 k2 => by omega⟩, ?_⟩
    clear s
    rintro ⟨_, _, _⟩ h3 ⟨i, j, rfl, rfl, hi, hij, hj, s, q1, q2⟩
    dsimp only
    rw [slices_symMergeCmpFunc_int_b2_eq]
    refine condP (fun hlt => ?_) (fun hge => ?_)
    · refine ⟨⟨by omega, by omega⟩, ?_⟩
      rw [halfCI (by omega)]
      refine shr_intro (x := i + j) (s := 1) rfl rfl (by decide) ?_
      rw [Nat.shiftRight_eq_div_pow, Nat.pow_one]
      obtain ⟨c, hc⟩ : ∃ c, (i + j) / 2 = c := ⟨_, rfl⟩
      rw [hc]
      have r := o.rd s
      refine ⟨⟨by omega, by omega⟩, ldOI (i' := m') r rfl (by omega) (ldOI (i' := c) r rfl (by omega) ?_)⟩
      refine hX _ _ _ _ _ (s.at F) (hP _ (by omega)) (hP _ (by omega)) fun h5 e5 => ⟨_, rfl, ?_⟩; have s := s.grow e5
      refine condN (fun hcl => ⟨⟨by omega, by omega⟩, ⟨c + 1, j, by push_cast; rfl, rfl, by omega, by omega, hj, s, fun k k1 k2 => ?_, q2⟩, by dsimp only; omega⟩) (fun hcl => ⟨⟨i, c, rfl, rfl, hi, by omega, by omega, s, q1, fun k k1 k2 => ?_⟩, by dsimp only; omega⟩)
      · rcases Nat.lt_or_ge k c with hk | hk
        · have := srtR_le ho hs1 (p := k) (q := c) k1 (by omega) (by omega)
          exact ho.trans _ _ _ this hcl
        · rw [show k = c by omega]; exact hcl
      · rcases Nat.lt_or_ge c k with hk | hk
        · have := srtR_le ho hs1 (p := c) (q := k) (by omega) (by omega) (by omega)
          exact Classical.byContradiction fun hn => ho.trans _ _ _ this hn hcl
        · rw [show k = c by omega]; exact hcl
    · obtain rfl : i = j := by omega
      rw [slices_symMergeCmpFunc_int_b5_eq]
      refine ⟨fun z h1 => ∃ k : Nat, z.1 = (k : Int) ∧ i ≤ k ∧ k ≤ m' ∧ OutCI h0 p n cp a' (m' + 1) xs F h1 (Rot (tI 3).d k m' (m' + 1) xs), fun z _ => (z.1 - i).toNat, ⟨m', rfl, by omega, by omega, xs, A, o, s, .refl _, rot_id (.inl (Nat.le_refl _)) (by omega) (by omega)⟩, ?_⟩
      rintro ⟨_, _⟩ h5 ⟨k, rfl, hk1, hk2, ys, A1, o1, s1, w, hr⟩
      dsimp only
      have hl := o1.len
      rw [slices_symMergeCmpFunc_int_b8_eq]
      refine condP (fun hlt => ?_) (fun hge2 => ?_)
      · refine ⟨⟨by omega, by omega⟩, ⟨by omega, by omega⟩, ?_⟩
        refine swOI (u' := k) (v' := k - 1) o1 s1 rfl (by omega) (by omega) (by omega) fun h6 A6 o6 s6 => ?_
        rw [slices_symMergeCmpFunc_int_b11_eq]
        exact ⟨⟨by omega, by omega⟩, ⟨k - 1, by omega, by omega, by omega, _, A6, o6, s6, .step w (by omega) (by omega) (by omega) (by omega) (by omega), rot_cons (by omega) hk2 (by omega) hr⟩, by dsimp only; omega⟩
      · obtain rfl : k = i := by omega
        have := merge_last ho hs1 hr (by omega) (by omega) (by omega) q1 q2
        exact ⟨rfl, ys, A1, o1, s1, w, this.1, this.2⟩
  · refine ⟨⟨by omega, by omega⟩, ?_⟩
    rw [halfCI (by omega)]
    refine shr_intro (x := a' + b') (s := 1) rfl rfl (by decide) ?_
    rw [Nat.shiftRight_eq_div_pow, Nat.pow_one]
    obtain ⟨mid, hmid⟩ : ∃ c, (a' + b') / 2 = c := ⟨_, rfl⟩
    rw [hmid]
    refine ⟨⟨by omega, by omega⟩, ⟨by omega, by omega⟩, ?_⟩
    -- the right half is merged
    have b13 : ∀ (e : Nat) (h5 : Hp) (ys : List Int) (A1 : Bag), mid ≤ e → e ≤ b' → Sl (tI 3) p n cp ys A1 → St h0 h5 (A1 + F) → Swp (tI 3).d a' b' xs ys → SrtR (tI 3).d (fun x y : Int => cf x y < 0) a' mid ys → SrtR (tI 3).d (fun x y : Int => cf x y < 0) mid e ys → SrtR (tI 3).d (fun x y : Int => cf x y < 0) e b' ys → (∀ p q, a' ≤ p → p < mid → mid ≤ q → q < b' → ¬ (fun x y : Int => cf x y < 0) (ys.getD q (tI 3).d) (ys.getD p (tI 3).d)) → Stb (fun x y : Int => cf x y < 0) xs ys →
        slices_symMergeCmpFunc_int_b13 p n cp b' cmp mid e h5 (fun v h' => v = .tuple #[] ∧ OutCI h0 p n cp a' b' xs F h' (fun ys => SrtR (tI 3).d (fun x y : Int => cf x y < 0) a' b' ys ∧ Stb (fun x y : Int => cf x y < 0) xs ys)) := by
      intro e h5 ys A1 g1 g2 o1 s1 w t1 t2 t3 t4 t5
      have hl := o1.len
      rw [slices_symMergeCmpFunc_int_b13_eq]
      refine condP (fun c1 => condP (fun c2 => ?_) (fun c2 => ?_)) (fun c1 => ?_)
      · refine (ih mid e b' mid e b' h5 ys A1 (by omega) s1 o1 (w.allN hl0 hP) rfl rfl rfl (by omega) (by omega) h4 t2 t3).mono fun v h6 ⟨hv, zs, A2, o2, s2, w2, u1, u2⟩ => ⟨hv, rfl, zs, A2, o2, s2, w.trans (w2.mono (by omega) (Nat.le_refl _) (by omega)).1, srtR_join (srtR_out w2 t1 (.inl (Nat.le_refl _))) u1 (cross_right (lt := (fun x y : Int => cf x y < 0)) w2 t4), t5.trans u2⟩
      · obtain rfl : e = b' := by omega
        exact ⟨rfl, ys, A1, o1, s1, w, srtR_join t1 t2 t4, t5⟩
      · obtain rfl : e = mid := by omega
        exact ⟨rfl, ys, A1, o1, s1, w, srtR_join t1 t3 t4, t5⟩
    -- the left half is merged
    have b12 : ∀ (st e : Nat) (h5 : Hp) (ys : List Int) (A1 : Bag), a' ≤ st → st ≤ mid → mid ≤ e → e ≤ b' → Sl (tI 3) p n cp ys A1 → St h0 h5 (A1 + F) → Swp (tI 3).d a' b' xs ys → MergeR (tI 3).d (fun x y : Int => cf x y < 0) a' st mid e b' xs ys →
        slices_symMergeCmpFunc_int_b12 p n cp a' b' cmp mid st e h5 (fun v h' => v = .tuple #[] ∧ OutCI h0 p n cp a' b' xs F h' (fun ys => SrtR (tI 3).d (fun x y : Int => cf x y < 0) a' b' ys ∧ Stb (fun x y : Int => cf x y < 0) xs ys)) := by
      intro st e h5 ys A1 g0 g1 g2 g3 o1 s1 w mr
      have hl := o1.len
      rw [slices_symMergeCmpFunc_int_b12_eq]
      refine condP (fun c1 => condP (fun c2 => ?_) (fun c2 => ?_)) (fun c1 => ?_)
      · refine (ih a' st mid a' st mid h5 ys A1 (by omega) s1 o1 (w.allN hl0 hP) rfl rfl rfl (by omega) (by omega) (by omega) mr.s1 mr.s2).mono fun v h6 ⟨hv, zs, A2, o2, s2, w2, u1, u2⟩ => ⟨hv, b13 e h6 zs A2 g2 g3 o2 s2 (w.trans (w2.mono (Nat.le_refl _) (by omega) (by omega)).1) u1 (srtR_out w2 mr.s3 (.inr (Nat.le_refl _))) (srtR_out w2 mr.s4 (.inr g2)) (cross_left (lt := (fun x y : Int => cf x y < 0)) w2 mr.cross) (mr.stb.trans u2)⟩
      · obtain rfl : st = mid := by omega
        exact b13 e h5 ys A1 g2 g3 o1 s1 w mr.s1 mr.s3 mr.s4 mr.cross mr.stb
      · obtain rfl : st = a' := by omega
        exact b13 e h5 ys A1 g2 g3 o1 s1 w mr.s2 mr.s3 mr.s4 mr.cross mr.stb
    -- the search for the place
    have b3 : ∀ (st r : Nat) (si : Int), si = (st : Int) → a' ≤ st → st ≤ r → r ≤ m' → r ≤ mid → mid + m' ≤ b' + st → (st = a' ∨ mid + m' = b' + st) → (r = m' ∨ r = mid) → slices_symMergeCmpFunc_int_b3 p n cp a' m' b' cmp mid ((mid : Int) + m') si r h (fun v h' => v = .tuple #[] ∧ OutCI h0 p n cp a' b' xs F h' (fun ys => SrtR (tI 3).d (fun x y : Int => cf x y < 0) a' b' ys ∧ Stb (fun x y : Int => cf x y < 0) xs ys)) := by
      rintro st0 r0 _ rfl v1 v2 v3 v4 v5 v6 v7
      rw [slices_symMergeCmpFunc_int_b3_eq]
      refine ⟨⟨by omega, by omega⟩, fun z h1 => ∃ i j : Nat, z.1 = (i : Int) ∧ z.2.1 = (j : Int) ∧ st0 ≤ i ∧ i ≤ j ∧ j ≤ r0 ∧ St h0 h1 (A + F) ∧ (i = st0 ∨ ¬ (fun x y : Int => cf x y < 0) (xs.getD (mid + m' - i) (tI 3).d) (xs.getD (i - 1) (tI 3).d)) ∧ (j = r0 ∨ (fun x y : Int => cf x y < 0) (xs.getD (mid + m' - 1 - j) (tI 3).d) (xs.getD j (tI 3).d)), fun z _ => (z.2.1 - z.1).toNat,
        ⟨st0, r0, rfl, rfl, by omega, v2, by omega, s, .inl rfl, .inl rfl⟩, ?_⟩
      clear s
      rintro ⟨_, _, _⟩ h3 ⟨i, j, rfl, rfl, hi, hij, hj, s, q1, q2⟩
      dsimp only
      rw [slices_symMergeCmpFunc_int_b6_eq]
      refine condP (fun hlt => ?_) (fun hge => ?_)
      · refine ⟨⟨by omega, by omega⟩, ?_⟩
        rw [halfCI (by omega)]
        refine shr_intro (x := i + j) (s := 1) rfl rfl (by decide) ?_
        rw [Nat.shiftRight_eq_div_pow, Nat.pow_one]
        obtain ⟨c, hc⟩ : ∃ c, (i + j) / 2 = c := ⟨_, rfl⟩
        rw [hc]
        have r := o.rd s
        refine ⟨⟨by omega, by omega⟩, ⟨by omega, by omega⟩, ldOI (i' := mid + m' - 1 - c) r (by omega) (by omega) (ldOI (i' := c) r rfl (by omega) ?_)⟩
        refine hX _ _ _ _ _ (s.at F) (hP _ (by omega)) (hP _ (by omega)) fun h5 e5 => ⟨_, rfl, ?_⟩; have s := s.grow e5
        refine condN (fun hcl => ⟨⟨by omega, by omega⟩, ⟨c + 1, j, by push_cast; rfl, rfl, by omega, by omega, hj, s, .inr ?_, q2⟩, by dsimp only; omega⟩) (fun hcl => ⟨⟨i, c, rfl, rfl, hi, by omega, by omega, s, q1, .inr hcl⟩, by dsimp only; omega⟩)
        rw [show mid + m' - (c + 1) = mid + m' - 1 - c by omega, show c + 1 - 1 = c by omega]
        exact hcl
      · obtain rfl : i = j := by omega
        rw [slices_symMergeCmpFunc_int_b9_eq]
        obtain ⟨e, he⟩ : ∃ e, mid + m' - i = e := ⟨_, rfl⟩
        have ee : (mid : Int) + m' - i = (e : Int) := by omega
        rw [ee]
        have mr : ∀ zs : List Int, Rot (tI 3).d i m' e xs zs → MergeR (tI 3).d (fun x y : Int => cf x y < 0) a' i mid e b' xs zs := fun zs hz => merge_rot ho hs1 hs2 hz (by omega) (by omega) (by omega) (by omega) (by omega) (by omega)
          (fun c1 c2 => by
            rcases q2 with q2 | q2
            · omega
            · rwa [show e - 1 = mid + m' - 1 - i by omega])
          (fun c1 c2 => by
            rcases q1 with q1 | q1
            · omega
            · rwa [← he])
        refine ⟨⟨by omega, by omega⟩, condP (fun c1 => condP (fun c2 => ?_) (fun c2 => ?_)) (fun c1 => ?_)⟩
        · refine (rotateCI s o rfl rfl rfl (by omega) (by omega) (by omega) hn).mono fun v h6 ⟨hv, zs, A2, o2, s2, w2, hz⟩ => ⟨hv, b12 i e h6 zs A2 (by omega) (by omega) (by omega) (by omega) o2 s2 (w2.mono (by omega) (by omega) (by omega)).1 (mr zs hz)⟩
        · exact b12 i e h3 xs A (by omega) (by omega) (by omega) (by omega) o s (.refl _) (mr xs (rot_id (.inr (by omega)) (by omega) (by omega)))
        · exact b12 i e h3 xs A (by omega) (by omega) (by omega) (by omega) o s (.refl _) (mr xs (rot_id (.inl (by omega)) (by omega) (by omega)))
    refine condP (fun hm => ⟨⟨by omega, by omega⟩, ?_⟩) (fun hm => ?_)
    · exact b3 (mid + m' - b') mid _ (by omega) (by omega) (by omega) (by omega) (Nat.le_refl _) (by omega) (.inr (by omega)) (.inr rfl)
    · exact b3 a' m' _ rfl (Nat.le_refl _) (by omega) (Nat.le_refl _) (by omega) (by omega) (.inl rfl) (.inl rfl)
theorem stableCI {h0 h : Hp} {p : Option Addr} {n cp : Nat} {xs : List Int} {A F : Bag} {cmp : Value} {cf : Int → Int → Int} {P : Int → Prop} (hX : CmpCI h0 F cmp cf P) (ho : OrdP (fun x y : Int => cf x y < 0)) (s : St h0 h (A + F)) (o : Sl (tI 3) p n cp xs A) (hP : ∀ k, k < n → P (xs.getD k (tI 3).d)) (hn : n < 400000) :
    HCalls Try.prog 60 #[.slice p n cp, .int .i64 (n : Int), cmp] h (fun v h' => v = .tuple #[] ∧ OutCI h0 p n cp 0 n xs F h' (fun ys => SrtR (tI 3).d (fun x y : Int => cf x y < 0) 0 n ys ∧ Stb (fun x y : Int => cf x y < 0) xs ys)) := by
  have hl0 := o.len
  refine slices_stableCmpFunc_int_call ?_
  rw [slices_stableCmpFunc_int_b0_eq]
  refine ⟨fun z h1 => ∃ k : Nat, z.1 = ((20 * k : Nat) : Int) ∧ z.2.1 = ((20 * k + 20 : Nat) : Int) ∧ 20 * k ≤ n ∧ OutCI h0 p n cp 0 n xs F h1 (fun ys => BlkS (tI 3).d (fun x y : Int => cf x y < 0) 20 0 (20 * k) ys ∧ Stb (fun x y : Int => cf x y < 0) xs ys), fun z _ => (n - z.1).toNat, ⟨0, rfl, rfl, by omega, xs, A, o, s, .refl _, blk_start, .refl _⟩, ?_⟩
  clear s
  rintro ⟨_, _, _⟩ h1 ⟨k, rfl, rfl, hk, ys, A1, o, s, w, hb, hst⟩
  dsimp only
  have hl := o.len
  rw [slices_stableCmpFunc_int_b1_eq]
  refine condP (fun hlt => ?_) (fun hge => ?_)
  · refine (insertionStableCI hX ho s o (w.allN hl0 hP) (a' := 20 * k) (b' := 20 * k + 20) rfl rfl (by omega) (by omega) (by omega)).mono fun v h2 ⟨hv, zs, A2, o2, s2, w2, u1, u2⟩ => ⟨hv, ⟨by omega, by omega⟩, ⟨k + 1, by push_cast; omega, by push_cast; omega, by omega, zs, A2, o2, s2, w.trans (w2.mono (by omega) (by omega) (by omega)).1, ?_, hst.trans u2⟩, by dsimp only; omega⟩
    have := blk_step (by omega) hb w2 u1
    rwa [show 20 * k + 20 = 20 * (k + 1) by omega] at this
  rw [slices_stableCmpFunc_int_b2_eq]
  refine (insertionStableCI hX ho s o (w.allN hl0 hP) (a' := 20 * k) (b' := n) rfl rfl (by omega) (by omega) (by omega)).mono fun v h2 ⟨hv, zs, A2, o2, s2, w2, u1, u2⟩ => ⟨hv, ?_⟩
  have hb0 := blk_step (by omega) hb w2 u1
  refine ⟨fun z h1 => ∃ bs : Nat, z.1 = (bs : Int) ∧ 20 ≤ bs ∧ bs ≤ 2 * n + 20 ∧ OutCI h0 p n cp 0 n xs F h1 (fun ys => BlkS (tI 3).d (fun x y : Int => cf x y < 0) bs 0 n ys ∧ Stb (fun x y : Int => cf x y < 0) xs ys), fun z _ => (n - z.1).toNat, ⟨20, rfl, by omega, by omega, zs, A2, o2, s2, w.trans (w2.mono (by omega) (by omega) (by omega)).1, hb0, hst.trans u2⟩, ?_⟩
  clear hb0 hb hst u1 u2 w2 s2 o2 w s o
  rintro ⟨_, _⟩ h3 ⟨bs, rfl, hbs1, hbs2, ys, A1, o, s, w, hb, hst⟩
  dsimp only
  have hl := o.len
  rw [slices_stableCmpFunc_int_b3_eq]
  refine condP (fun hlt => ⟨⟨by omega, by omega⟩, ?_⟩) (fun hge => ⟨rfl, ys, A1, o, s, w, blk_all (by omega) hb, hst⟩)
  refine ⟨fun z h1 => ∃ k : Nat, z.1 = ((2 * bs * k : Nat) : Int) ∧ z.2.1 = ((2 * bs * k + 2 * bs : Nat) : Int) ∧ 2 * bs * k ≤ n ∧ OutCI h0 p n cp 0 n xs F h1 (fun ys => BlkS (tI 3).d (fun x y : Int => cf x y < 0) (2 * bs) 0 (2 * bs * k) ys ∧ BlkS (tI 3).d (fun x y : Int => cf x y < 0) bs (bs * (2 * k)) n ys ∧ Stb (fun x y : Int => cf x y < 0) xs ys), fun z _ => (n - z.1).toNat,
    ⟨0, by show (0 : Int) = _; simp, by show 2 * (bs : Int) = _; push_cast; omega, by omega, ys, A1, o, s, w, by rw [Nat.mul_zero]; exact blk_start, by exact hb, hst⟩, ?_⟩
  clear hb hst w s o
  rintro ⟨_, _, _⟩ h4 ⟨k, rfl, rfl, hk, ys, A1, o, s, w, hb, hb2, hst⟩
  dsimp only
  have hl := o.len
  have ek : bs * (2 * k) = 2 * bs * k := by rw [← Nat.mul_assoc, Nat.mul_comm bs 2]
  have d1 : 2 * bs * k / bs * bs = 2 * bs * k := by rw [← ek, Nat.mul_comm bs, Nat.mul_div_cancel _ (by omega)]
  have d2 : (2 * bs * k + bs) / bs * bs = 2 * bs * k + bs := by rw [← ek, show bs * (2 * k) + bs = (2 * k + 1) * bs by rw [Nat.add_mul, Nat.mul_comm bs, Nat.one_mul], Nat.mul_div_cancel _ (by omega)]
  generalize hK : 2 * bs * k = Kb at *
  rw [slices_stableCmpFunc_int_b4_eq]
  refine condP (fun hlt2 => ⟨⟨by omega, by omega⟩, ?_⟩) (fun hge => ?_)
  · have t1 : SrtR (tI 3).d (fun x y : Int => cf x y < 0) Kb (Kb + bs) ys := blk_srt (by omega) hb2 (by omega) d1 (by omega) (by omega)
    have t2 : SrtR (tI 3).d (fun x y : Int => cf x y < 0) (Kb + bs) (Kb + 2 * bs) ys := blk_srt (by omega) hb2 (by omega) d2 (by omega) (by omega)
    refine (symMergeCI hX ho (by omega) n Kb (Kb + bs) (Kb + 2 * bs) _ _ _ h4 ys A1 (by omega) s o (w.allN hl0 hP) rfl (by push_cast; rfl) rfl (by omega) (by omega) (by omega) t1 t2).mono fun v h5 ⟨hv, zs, A2, o2, s2, w2, u1, u2⟩ => ⟨hv, ⟨by omega, by omega⟩, ⟨by omega, by omega⟩, ⟨k + 1, ?_, ?_, ?_, zs, A2, o2, s2, w.trans (w2.mono (by omega) (by omega) (by omega)).1, ?_, ?_, hst.trans u2⟩, by dsimp only; omega⟩
    · rw [Nat.mul_add, hK, Nat.mul_one]
    · rw [Nat.mul_add, hK, Nat.mul_one]; push_cast; omega
    · rw [Nat.mul_add, hK, Nat.mul_one]; omega
    · rw [Nat.mul_add, hK, Nat.mul_one]
      rw [← hK] at hb w2 u1 ⊢
      exact blk_step (by omega) hb w2 u1
    · have hb3 : BlkS (tI 3).d (fun x y : Int => cf x y < 0) bs (bs * (2 * (k + 1))) n ys := fun p q h1 h2 h3 h4 => hb2 p q (by rw [Nat.mul_add, Nat.mul_add] at h1; omega) h2 h3 h4
      exact blk_out w2 hb3 (.inr (by rw [Nat.mul_add, Nat.mul_add, ek]; omega))
  rw [slices_stableCmpFunc_int_b5_eq]
  have fin : ∀ (h5 : Hp) (zs : List Int) (A2 : Bag), Sl (tI 3) p n cp zs A2 → St h0 h5 (A2 + F) → Swp (tI 3).d 0 n xs zs → BlkS (tI 3).d (fun x y : Int => cf x y < 0) (2 * bs) 0 n zs → Stb (fun x y : Int => cf x y < 0) xs zs → slices_stableCmpFunc_int_b6 p n cp n cmp bs h5 (fun s' h' => (∃ bs : Nat, s'.1 = (bs : Int) ∧ 20 ≤ bs ∧ bs ≤ 2 * n + 20 ∧ OutCI h0 p n cp 0 n xs F h' (fun ys => BlkS (tI 3).d (fun x y : Int => cf x y < 0) bs 0 n ys ∧ Stb (fun x y : Int => cf x y < 0) xs ys)) ∧ (n - s'.1).toNat < ((n : Int) - bs).toNat) (fun v h' => v = .tuple #[] ∧ OutCI h0 p n cp 0 n xs F h' (fun ys => SrtR (tI 3).d (fun x y : Int => cf x y < 0) 0 n ys ∧ Stb (fun x y : Int => cf x y < 0) xs ys)) := by
    intro h5 zs A2 o2 s2 w2 u1 u2
    rw [slices_stableCmpFunc_int_b6_eq]
    exact ⟨⟨by omega, by omega⟩, ⟨bs * 2, by push_cast; rfl, by omega, by omega, zs, A2, o2, s2, w2, by rw [Nat.mul_comm]; exact u1, u2⟩, by dsimp only; omega⟩
  refine ⟨⟨by omega, by omega⟩, condP (fun hm => ?_) (fun hm => ?_)⟩
  · have t1 : SrtR (tI 3).d (fun x y : Int => cf x y < 0) Kb (Kb + bs) ys := blk_srt (by omega) hb2 (by omega) d1 (by omega) (by omega)
    have t2 : SrtR (tI 3).d (fun x y : Int => cf x y < 0) (Kb + bs) n ys := blk_srt (by omega) hb2 (by omega) d2 (by omega) (by omega)
    refine (symMergeCI hX ho (by omega) n Kb (Kb + bs) n _ _ _ h4 ys A1 (by omega) s o (w.allN hl0 hP) rfl (by push_cast; rfl) rfl (by omega) (by omega) (by omega) t1 t2).mono fun v h5 ⟨hv, zs, A2, o2, s2, w2, u1, u2⟩ => ⟨hv, fin h5 zs A2 o2 s2 (w.trans (w2.mono (by omega) (by omega) (by omega)).1) ?_ (hst.trans u2)⟩
    rw [← hK] at hb w2 u1
    exact blk_step (by omega) hb w2 u1
  · have t1 : SrtR (tI 3).d (fun x y : Int => cf x y < 0) Kb n ys := blk_srt (by omega) hb2 (by omega) d1 (by omega) (by omega)
    refine fin h4 ys A1 o s w ?_ hst
    rw [← hK] at hb t1
    exact blk_step (by omega) hb (.refl _) t1
/-- The whole slice. -/
theorem sortStableCI {h0 h : Hp} {p : Option Addr} {n cp : Nat} {xs : List Int} {A F : Bag} {cmp : Value} {cf : Int → Int → Int} {P : Int → Prop} (hX : CmpCI h0 F cmp cf P) (ho : OrdP (fun x y : Int => cf x y < 0)) (s : St h0 h (A + F)) (o : Sl (tI 3) p n cp xs A) (hP : ∀ k, k < n → P (xs.getD k (tI 3).d)) (hn : n < 400000) :
    HCalls Try.prog 48 #[.slice p n cp, cmp] h (fun v h' => v = .tuple #[] ∧ ∃ ys A', Sl (tI 3) p n cp ys A' ∧ St h0 h' (A' + F) ∧ ys.Pairwise (fun x y => ¬ (fun x y : Int => cf x y < 0) y x) ∧ Stb (fun x y : Int => cf x y < 0) xs ys) := by
  refine slices_SortStableFunc_Sint_int_call ?_
  rw [slices_SortStableFunc_Sint_int_b0_eq]
  exact (stableCI hX ho s o hP hn).mono fun v h' ⟨hv, ys, A', o2, s2, w, hs, hst⟩ => ⟨hv, rfl, ys, A', o2, s2, srtR_pairwise o2.len hs, hst⟩
end Go.Proofs.Ytfkimbdjgadelaa

/- A wavelet tree is made: what is needed. -/
set_option maxRecDepth 100000
namespace Go.Proofs.Ytfkimbdjgadelaa
open Go Go.Sx
abbrev tB : Ty Bool := ⟨4, 1, fun b => [.bool b], false, fun _ => rfl, by decide, fun _ v hv => by simp at hv; subst hv; rfl⟩
theorem ok_int : ElOk TI Try.prog 22 := elB_spec (by kernel_rfl)
theorem ok_vec : ElOk tV Try.prog 62 := elB_spec (by kernel_rfl)
theorem tB_cells (zs : List Bool) : tB.cells zs = zs.map Value.bool := by
  induction zs with
  | nil => rfl
  | cons z r ih => rw [Ty.cells_cons, ih]; rfl
theorem rd_bools {h : Hp} {p : Option Addr} {n : Nat} {zs : List Bool} (r : RdT tB h p n zs) : Rd h p n (zs.map Value.bool) := by
  have := r.rd
  rw [tB_cells] at this
  rwa [show n * tB.sz = n from Nat.mul_one n] at this
theorem cloneI_w {h : Hp} {p : Option Addr} {n c : Nat} {xs : List Int} (r : RdT TI h p n xs) (hn : n < 1000000) :
    HCalls Try.prog 32 #[.slice p n c] h (fun v h' => ∃ q d A, v = .slice q n d ∧ Sl TI q n d xs A ∧ St h h' A) := by
  refine slices_Clone_Sint_int_call ?_
  rw [slices_Clone_Sint_int_b0_eq]
  have s := St.start h
  refine cond_intro (fun h1 => ?_) (fun h1 => ?_)
  · have hp : p = none := by simpa using h1
    subst hp
    have hn0 : n = 0 := by
      rcases r.2 with h0 | ⟨a, ha, _⟩
      · exact h0
      · cases ha
    subst hn0
    have : xs = [] := List.eq_nil_of_length_eq_zero r.len
    subst this
    exact ⟨none, 0, 0, rfl, Sl.nil, s⟩
  · refine s.new (cs := []) fun b h2 x2 s => ?_
    have o : Sl TI (some ⟨b, 0, none⟩) 0 0 [] (cA b [] 3) := ⟨rfl, .inr ⟨b, [], rfl, Nat.le_refl _, by simp, rfl⟩⟩
    refine append_sl ok_int s o (r.ext x2) (by omega) fun p' c' h3 A' o' s' => ?_
    rw [Nat.zero_add, List.nil_append] at o'
    exact ⟨p', c', A', by rw [Nat.zero_add], o', s'.to⟩
theorem up_natCast (x k : Nat) : up k (x : Int) = ((x >>> k : Nat) : Int) := by
  unfold up
  rw [Nat.shiftRight_eq_div_pow, Int.natCast_ediv, Int.natCast_pow]; rfl
theorem isNaN_w (x : Int) (h : Hp) : HCalls Try.prog 57 #[.int .i64 x] h (fun v h' => h' = h ∧ v = .bool false) := by
  refine cmp_isNaN_int_call ?_
  rw [cmp_isNaN_int_b0_eq]
  exact ⟨rfl, by simp⟩
def cmpI (x y : Int) : Int := if x < y then -1 else if y < x then 1 else 0
theorem cmpI_neg {x y : Int} : cmpI x y < 0 ↔ x < y := by unfold cmpI; split <;> (try split) <;> omega
theorem Compare_w (x y : Int) (h : Hp) : HCalls Try.prog 42 #[.int .i64 x, .int .i64 y] h (fun v h' => v = .int .i64 (cmpI x y) ∧ h' = h) := by
  refine cmp_Compare_int_call ?_
  rw [cmp_Compare_int_b0_eq]
  refine (isNaN_w x h).mono fun v h1 ⟨hh, hv⟩ => ⟨_, hv, ?_⟩
  subst hh
  refine (isNaN_w y _).mono fun v h2 ⟨hh, hv⟩ => ⟨_, hv, ?_⟩
  subst hh
  refine condNo rfl (condNo rfl (condP (fun h1 => ⟨?_, rfl⟩) (fun h1 => condP (fun h2 => ⟨?_, rfl⟩) (fun h2 => ⟨?_, rfl⟩))))
  · unfold cmpI; rw [if_pos h1]
  · unfold cmpI; rw [if_neg h1, if_pos h2]
  · unfold cmpI; rw [if_neg h1, if_neg h2]
/-- The order of a level. -/
def cfU (k : Nat) (x y : Int) : Int := cmpI (up k x) (up k y)
theorem ordU (k : Nat) : OrdP (fun x y : Int => cfU k x y < 0) := by
  constructor
  · intro x y h1 h2
    have := cmpI_neg.1 h1
    have := cmpI_neg.1 h2
    omega
  · intro x y z h1 h2 h3
    unfold cfU at h1 h2 h3
    rw [cmpI_neg] at h1 h2 h3
    omega
theorem cmpU_ok {h0 : Hp} {G : Bag} {sb k : Nat} {D : Bag} [x : Bag.Has sb G [.int .i64 (k : Int)] 3 D] (hk : k ≤ 64) : CmpCI h0 G (.func (.func 49) #[] #[ptr sb]) (cfU k) (fun x => 0 ≤ x) := by
  intro u v h B K s hu hv hK
  obtain ⟨u, rfl⟩ := Int.eq_ofNat_of_zero_le hu
  obtain ⟨v, rfl⟩ := Int.eq_ofNat_of_zero_le hv
  have c : cell h ⟨sb, 0, none⟩ = some (.int .i64 (k : Int)) := by
    have s' : St h0 h (cA sb [.int .i64 (k : Int)] 3 + (D + B)) := by
      rw [x.eq] at s
      exact s.to
    exact s'.cell 0
  refine funX_of (by kernel_rfl) (wavelet_Make_c2_call ?_)
  rw [wavelet_Make_c2_b0_eq]
  refine ⟨_, c, shr_intro (x := u) (s := k) rfl rfl hk ⟨_, c, shr_intro (x := v) (s := k) rfl rfl hk ⟨_, Compare_w _ _ _, ?_⟩⟩⟩
  have := hK h (.refl _)
  unfold cfU at this
  rwa [up_natCast, up_natCast] at this
/-- Whether an element is out of range. -/
theorem contains_w {h : Hp} {p : Option Addr} {n c sb : Nat} {l : List Int} {sg : Int} (r : RdT TI h p n l) (hn : n < 1000000) (cs : cell h ⟨sb, 0, none⟩ = some (.int .i64 sg)) :
    HCalls Try.prog 45 #[.slice p n c, .func (.func 46) #[] #[ptr sb]] h (fun v h' => h' = h ∧ v = .bool (decide (∃ x ∈ l, x < 0 ∨ sg ≤ x))) := by
  have hl := r.len
  refine slices_ContainsFunc_Sint_int_call ?_
  rw [slices_ContainsFunc_Sint_int_b0_eq]
  refine HCalls.mono (K := fun v h' => h' = h ∧ ∃ z : Int, v = .int .i64 z ∧ (0 ≤ z ↔ ∃ x ∈ l, x < 0 ∨ sg ≤ x)) ?_ fun v h1 ⟨hh, z, hv, hz⟩ => ⟨z, hv, hh, by rw [decide_eq_decide.2 hz]⟩
  refine slices_IndexFunc_Sint_int_call ?_
  rw [slices_IndexFunc_Sint_int_b0_eq]
  refine ⟨fun i h1 => h1 = h ∧ ∃ i' : Nat, i.1 = i' ∧ i' ≤ n ∧ ∀ k, k < i' → ¬ (l.getD k 0 < 0 ∨ sg ≤ l.getD k 0), fun i _ => (n - i.1).toNat, ⟨rfl, 0, rfl, by omega, fun k hk => by omega⟩, ?_⟩
  rintro ⟨_, _⟩ h1 ⟨rfl, i, rfl, hi, hall⟩
  dsimp only
  rw [slices_IndexFunc_Sint_int_b1_eq]
  refine condP (fun hlt => ?_) (fun hge => ?_)
  · refine r.int (by omega) (by omega) ?_
    rw [Int.toNat_natCast]
    have hil : i < l.length := by omega
    have hmem : l.getD i 0 ∈ l := by simp [List.getD, hil]
    generalize hx : l.getD i 0 = x at *
    refine funX_of (by kernel_rfl) (wavelet_Make_c1_call ?_)
    rw [wavelet_Make_c1_b0_eq]
    refine condP (fun h2 => ⟨_, rfl, condYes rfl ⟨rfl, i, rfl, ?_⟩⟩) (fun h2 => ⟨_, cs, _, rfl, condP (fun h3 => ⟨rfl, i, rfl, ?_⟩) (fun h3 => ?_)⟩)
    · exact ⟨fun _ => ⟨x, hmem, .inl h2⟩, fun _ => by omega⟩
    · exact ⟨fun _ => ⟨x, hmem, .inr h3⟩, fun _ => by omega⟩
    · rw [slices_IndexFunc_Sint_int_b2_eq]
      refine ⟨⟨by omega, by omega⟩, ⟨rfl, i + 1, by push_cast; rfl, by omega, fun k hk => ?_⟩, by dsimp only; omega⟩
      rcases Nat.lt_or_ge k i with h4 | h4
      · exact hall k h4
      · rw [show k = i by omega, hx]; omega
  · rw [slices_IndexFunc_Sint_int_b3_eq]
    refine ⟨rfl, -1, rfl, fun h => by omega, ?_⟩
    rintro ⟨x, hx, hbad⟩
    obtain ⟨k, hk, rfl⟩ := List.getElem_of_mem hx
    have := hall k (by omega)
    simp [List.getD, hk] at this
    omega
end Go.Proofs.Ytfkimbdjgadelaa

/- A wavelet tree is made. -/
set_option maxRecDepth 100000
namespace Go.Proofs.Ytfkimbdjgadelaa
open Go Go.Sx
/-- The height. -/
def IsH (sg : Int) (H : Nat) : Prop := sg ≤ 2 ^ H ∧ (H = 0 ∨ (2 : Int) ^ (H - 1) < sg)
theorem isH_le {sg : Int} {H : Nat} (h : IsH sg H) (hs : sg ≤ 1024) : H ≤ 10 := by
  rcases h.2 with h0 | h0
  · omega
  · refine Classical.byContradiction fun hn => ?_
    have h1 : (2 : Nat) ^ 10 ≤ 2 ^ (H - 1) := Nat.pow_le_pow_right (by decide) (by omega)
    have h2 : (2 : Int) ^ (H - 1) = ((2 ^ (H - 1) : Nat) : Int) := by push_cast; rfl
    have h3 : (2 : Nat) ^ 10 = 1024 := by decide
    omega
theorem isH_uniq {sg : Int} {H H' : Nat} (h : IsH sg H) (h' : IsH sg H') : H = H' := by
  have key : ∀ {A B : Nat}, IsH sg A → IsH sg B → A ≤ B := by
    intro A B ha hb
    rcases ha.2 with h0 | h0
    · omega
    · refine Classical.byContradiction fun hn => ?_
      have h1 : (2 : Nat) ^ B ≤ 2 ^ (A - 1) := Nat.pow_le_pow_right (by decide) (by omega)
      have h2 : (2 : Int) ^ (A - 1) = ((2 ^ (A - 1) : Nat) : Int) := by push_cast; rfl
      have h3 : (2 : Int) ^ B = ((2 ^ B : Nat) : Int) := by push_cast; rfl
      have := hb.1
      omega
  have h1 := key h h'
  have h2 := key h' h
  omega
/-- A vector in memory, with its blocks. -/
def PV (a : Addr) (x : List Bool) (A : Bag) : Prop := Held A fun h => Vec h a x
theorem AllH.held {bs : List Addr} {xs : List (List Bool)} {A F : Bag} {h0 h : Hp} (a : AllH PV bs xs A) (s : St h0 h (A + F)) : ∀ i, i < bs.length → Vec h (bs.getD i tV.d) (xs.getD i []) := by
  intro i hi
  obtain ⟨Ai, B, rfl, hp⟩ := AllH.pick (d := []) (d' := tV.d) a hi
  exact hp h0 h (B + F) s.to
theorem make_vec {h : Hp} {p : Option Addr} {n c : Nat} {bits : List Bool} (r : RdT tB h p n bits) (hn : n ≤ 65536) : HCalls Try.prog 47 #[.slice p n c] h fun v h' => ∃ a B, v = .tuple #[.pointer (some a), .int .i64 0] ∧ PV a bits B ∧ St h h' B :=
  (Make_loc (rd_bools r) hn).mono fun v h' ⟨x, a, hv, l⟩ => by
    obtain ⟨B, s, hd⟩ := held_of_loc x l
    exact ⟨a, B, hv, hd, s⟩
section
variable {h : Hp} {b1 tb q0 : Nat} {l : List Int} {sg : Int} {H : Nat} {q : Option Addr} {n e : Nat}
/-- What holds before the level d is made. -/
def MkInv (h : Hp) (tb : Nat) (l : List Int) (sg : Int) (H : Nat) (q : Option Addr) (n e d : Nat) (h' : Hp) : Prop :=
  ∃ ys Aq lp lc bs Al lvls V, Sl TI q n e ys Aq ∧ LvP l (H - d) ys ∧ Sl tV lp d lc bs Al ∧ AllH PV bs lvls V ∧ (∀ i, i < d → ∃ z, LvP l (H - i) z ∧ lvls.getD i [] = z.map (bitU (H - 1 - i))) ∧
    St h h' (Aq + (cA tb [.int .i64 (n : Int), .int .i64 sg, .int .i64 (H : Int), .slice lp d lc] 64 + (Al + V)))
theorem mk_done (hl : l.length = n) (hn : n ≤ 4096) (hval : ∀ x ∈ l, 0 ≤ x ∧ x < sg) (h1 : 1 ≤ sg) (h2 : sg ≤ 1024) (hH : IsH sg H) {h' : Hp} (m : MkInv h tb l sg H q n e H h') : Ext h h' ∧ WT h' tb l sg H ∧ ∃ A, St h h' A ∧ Held A fun g => WT g tb l sg H := by
  obtain ⟨ys, Aq, lp, lc, bs, Al, lvls, V, o, lv, ol, av, hv, s0⟩ := m
  have hbl := ol.len
  have key : Held (Aq + (cA tb [.int .i64 (n : Int), .int .i64 sg, .int .i64 (H : Int), .slice lp H lc] 64 + (Al + V))) fun g => WT g tb l sg H := by
    intro h0 g F0 s0
    have s := s0.to (B := Aq + (cA tb [.int .i64 (n : Int), .int .i64 sg, .int .i64 (H : Int), .slice lp H lc] 64 + (Al + (V + F0))))
    refine ⟨?_, s.ldB, s.ldB, ⟨lp, lc, bs, s.ldB, ol.rd (s.to (B := Al + (Aq + (cA tb [.int .i64 (n : Int), .int .i64 sg, .int .i64 (H : Int), .slice lp H lc] 64 + (V + F0))))), fun d hd => ?_⟩, by omega, hval, h1, hH.1, isH_le hH h2⟩
    · rw [hl]; exact s.ld0
    · obtain ⟨z, hz, he⟩ := hv d hd
      refine ⟨z, hz, ?_⟩
      rw [← he]
      exact AllH.held av (s.to (B := V + (Aq + (cA tb [.int .i64 (n : Int), .int .i64 sg, .int .i64 (H : Int), .slice lp H lc] 64 + (Al + F0))))) d (by omega)
  exact ⟨s0.ext, key h h' 0 (s0.to), _, s0, key⟩
end
end Go.Proofs.Ytfkimbdjgadelaa

/- A wavelet tree is made: Make. -/
set_option maxRecDepth 100000
namespace Go.Proofs.Ytfkimbdjgadelaa
open Go Go.Sx
theorem bit_nat (x k : Nat) : bitU k (x : Int) = decide ((((x >>> k) % 2 : Nat) : Int) = 1) := by
  unfold bitU
  rw [up_natCast]
  congr 1
theorem Make_w {h : Hp} {p : Option Addr} {n c : Nat} {l : List Int} (r : RdT TI h p n l) (hn : n < 1000000) (sg : Int) :
    HCalls Try.prog 33 #[.slice p n c, .int .i64 sg] h (fun v h' => Ext h h' ∧ (if sg < 1 ∨ 1024 < sg ∨ (∃ x ∈ l, x < 0 ∨ sg ≤ x) then v = .tuple #[.pointer none, .int .i64 2] else if 4096 < n then v = .tuple #[.pointer none, .int .i64 4] else ∃ tb H, v = .tuple #[ptr tb, .int .i64 0] ∧ IsH sg H ∧ WT h' tb l sg H ∧ ∃ A, St h h' A ∧ Held A fun g => WT g tb l sg H)) := by
  have hll := r.len
  refine wavelet_Make_call ?_
  rw [wavelet_Make_b0_eq]
  have s := St.start h
  refine s.new (cs := [_]) fun b1 h1 x1 s => ?_
  refine ⟨_, s.ld0, condP (fun c1 => ⟨x1, by rw [if_pos (.inl c1)]⟩) (fun c1 => ⟨_, s.ld0, condP (fun c2 => ⟨x1, by rw [if_pos (.inr (.inl c2))]⟩) (fun c2 => ?_)⟩)⟩
  refine (contains_w (sg := sg) (r.ext x1) hn s.ld0).mono fun v h2 ⟨hh, hv⟩ => ⟨_, hv, ?_⟩
  subst hh
  refine condP (fun c3 => ⟨x1, by rw [if_pos (.inr (.inr c3))]⟩) (fun c3 => ?_)
  have hno : ¬ (sg < 1 ∨ 1024 < sg ∨ (∃ x ∈ l, x < 0 ∨ sg ≤ x)) := fun hx => hx.elim c1 fun hx => hx.elim c2 c3
  simp only [if_neg hno]
  rw [wavelet_Make_b1_eq]
  refine condP (fun c4 => ⟨x1, by rw [if_pos (by omega)]⟩) (fun c4 => ?_)
  have hn4 : ¬ 4096 < n := by omega
  simp only [if_neg hn4]
  have hval : ∀ x ∈ l, 0 ≤ x ∧ x < sg := fun x hx => by
    have : ¬ (x < 0 ∨ sg ≤ x) := fun hb => c3 ⟨x, hx, hb⟩
    omega
  refine ⟨_, s.ld0, s.new (cs := [_, _, _, _]) fun tb h3 x3 s => ?_⟩
  -- the height
  refine ⟨fun _ h' => ∃ H : Nat, (H = 0 ∨ (2 : Int) ^ (H - 1) < sg) ∧ St h h' (cA tb [.int .i64 (n : Int), .int .i64 sg, .int .i64 (H : Int), .slice none 0 0] 64 + cA b1 [.int .i64 sg] 3), fun _ h' => match cell h' ((⟨tb, 0, none⟩ : Addr).add 2) with | some (.int _ z) => (100 - z).toNat | _ => 0, ⟨0, .inl rfl, s.to⟩, ?_⟩
  clear s x3
  rintro ⟨⟩ h4 ⟨H, hH0, s⟩
  dsimp only
  have hH11 : H ≤ 11 := by
    rcases hH0 with h0 | h0
    · omega
    · refine Classical.byContradiction fun hn => ?_
      have h1 : (2 : Nat) ^ 10 ≤ 2 ^ (H - 1) := Nat.pow_le_pow_right (by decide) (by omega)
      have h2 : (2 : Int) ^ (H - 1) = ((2 ^ (H - 1) : Nat) : Int) := by push_cast; rfl
      have h3 : (2 : Nat) ^ 10 = 1024 := by decide
      omega
  have hp11 : (2 : Nat) ^ H ≤ 2048 := Nat.le_trans (Nat.pow_le_pow_right (by decide) hH11) (by decide)
  have hp0 : 0 < (2 : Nat) ^ H := Nat.two_pow_pos H
  have ch4 : cell h4 ((⟨tb, 0, none⟩ : Addr).add 2) = some (.int .i64 (H : Int)) := s.ldB
  rw [wavelet_Make_b2_eq]
  refine ⟨_, s.ldB, shl_intro (x := 1) (s := H) rfl rfl (by show H ≤ 64; omega) (by rw [Nat.one_mul]; exact wrap_i64_in _ ⟨by omega, by omega⟩) ⟨_, s.ld0, condP (fun c5 => ?_) (fun c5 => ?_)⟩⟩
  · rw [Nat.one_mul] at c5
    refine ⟨_, s.ldB, ⟨by omega, by omega⟩, s.wrB fun h5 s => ⟨⟨H + 1, .inr ?_, s⟩, ?_⟩⟩
    · rw [Nat.add_sub_cancel]; exact_mod_cast c5
    · have c5' : cell h5 ((⟨tb, 0, none⟩ : Addr).add 2) = some (.int .i64 ((H : Int) + 1)) := s.ldB
      rw [c5', ch4]
      dsimp only
      omega
  rw [Nat.one_mul] at c5
  have hH : IsH sg H := ⟨by have h2 : (2 : Int) ^ H = ((2 ^ H : Nat) : Int) := by { push_cast; rfl }
                            omega, hH0⟩
  have h10 := isH_le hH (by omega)
  rw [wavelet_Make_b3_eq]
  refine (cloneI_w (r.ext s.ext) hn).mono fun v h5 ⟨q, e, Aq, hv, oq, s5⟩ => ⟨_, _, _, hv, _, (s5.ext.cell s.ldB), ?_⟩
  have s := s.join s5
  have hpl := r.len
  -- the levels
  refine ⟨fun d h' => ∃ d' : Nat, d.1 = (d' : Int) ∧ d' ≤ H ∧ MkInv h tb l sg H q n e d' h', fun d _ => (H - d.1).toNat, ⟨0, rfl, by omega, l, Aq, none, 0, [], 0, [], 0, oq, lvP_top fun x hx => ⟨(hval x hx).1, by have := (hval x hx).2; have := hH.1; simp; omega⟩, Sl.nil, rfl, fun i hi => by omega, ?_⟩, ?_⟩
  · exact (s.find b1).drop.to
  clear s s5 oq hv
  rintro ⟨_, _⟩ h6 ⟨d, rfl, hd, ys, Aq, lp, lc, bs, Al, lvls, V, oq, lv, ol, av, hlv, s⟩
  dsimp only
  rw [wavelet_Make_b4_eq]
  refine condP (fun c6 => ?_) (fun c6 => ?_)
  rotate_left
  · obtain rfl : d = H := by omega
    rw [wavelet_Make_b6_eq]
    have := mk_done r.len (by omega) hval (by omega) (by omega) hH ⟨ys, Aq, lp, lc, bs, Al, lvls, V, oq, lv, ol, av, hlv, s⟩
    exact ⟨this.1, tb, d, rfl, hH, this.2⟩
  have hdH : d < H := by omega
  obtain ⟨k, hk⟩ : ∃ k, H - 1 - d = k := ⟨_, rfl⟩
  have ek : (H : Int) - 1 - (d : Int) = (k : Int) := by omega
  refine ⟨_, s.ldB, ⟨by omega, by omega⟩, ⟨by omega, by omega⟩, s.new (cs := [_]) fun sb _ _ s => s.wr1 fun _ s => ⟨⟨by omega, by omega, by omega, by omega⟩, ?_⟩⟩
  rw [ek] at s
  simp only [Int.toNat_natCast, Nat.mul_one, repL_one]
  refine s.new (cs := List.replicate n (.bool false)) fun bb h8 _ s => ?_
  have ob : Sl tB (some ⟨bb, 0, none⟩) n n (List.replicate n false) (cA bb (List.replicate n (.bool false)) 4) := Sl.of_blk (by simp) (by rw [tB_cells]; simp)
  have hyl := oq.len
  have hypos : ∀ j, j < n → 0 ≤ ys.getD j 0 := fun j hj => by
    have hm : ys.getD j 0 ∈ ys := by simp [List.getD, show j < ys.length by omega]
    exact (hval _ (lv.perm.mem_iff.1 hm)).1
  refine ⟨fun z h' => ∃ (i : Nat) (bits : List Bool) (Ab : Bag), z.1 = (i : Int) ∧ i ≤ n ∧ Sl tB (some ⟨bb, 0, none⟩) n n bits Ab ∧ (∀ j, j < i → bits.getD j false = bitU k (ys.getD j 0)) ∧ St h h' (Ab + (cA sb [.int .i64 (k : Int)] 3 + (Aq + (cA tb [.int .i64 (n : Int), .int .i64 sg, .int .i64 (H : Int), .slice lp d lc] 64 + (Al + V))))), fun z _ => (n - z.1).toNat, ⟨0, _, _, rfl, by omega, ob, fun j hj => by omega, s⟩, ?_⟩
  clear s ob
  rintro ⟨_, _⟩ h9 ⟨i, bits, Ab, rfl, hi, ob, hbits, s⟩
  dsimp only
  have hbl := ob.len
  rw [wavelet_Make_b5_eq]
  refine condP (fun c7 => ?_) (fun c7 => ?_)
  · obtain ⟨u, hu⟩ := Int.eq_ofNat_of_zero_le (hypos i (by omega))
    refine (oq.rd (s.to (B := Aq + (Ab + (cA sb [.int .i64 (k : Int)] 3 + (cA tb [.int .i64 (n : Int), .int .i64 sg, .int .i64 (H : Int), .slice lp d lc] 64 + (Al + V))))))).int (by omega) (by omega) ?_
    rw [show ys.getD (Int.toNat (i : Int)) 0 = (u : Int) by rw [Int.toNat_natCast]; exact hu]
    refine ⟨_, s.ld0, shr_intro (x := u) (s := k) rfl rfl (by show k ≤ 64; omega) ?_⟩
    have hub : u ≤ 1024 := by
      have hm : ys.getD i 0 ∈ ys := by simp [List.getD, show i < ys.length by omega]
      have := (hval _ (lv.perm.mem_iff.1 hm)).2
      omega
    have hus : u >>> k ≤ 1024 := Nat.le_trans (by rw [Nat.shiftRight_eq_div_pow]; exact Nat.div_le_self _ _) hub
    refine and_i64 (x := u >>> k) (y := 1) rfl rfl (by omega) (by omega) ?_
    rw [Nat.and_one_is_mod]
    refine ob.wrI (x := bitU k (u : Int)) s (by omega) (by omega) rfl (by rw [bit_nat]) fun h12 Ab' ob' s' => ?_
    rw [wavelet_Make_b7_eq]
    rw [Int.toNat_natCast] at ob'
    refine ⟨⟨by omega, by omega⟩, ⟨i + 1, _, Ab', by push_cast; rfl, by omega, ob', fun j hj => ?_, s'⟩, by dsimp only; omega⟩
    rcases Nat.lt_or_ge j i with h13 | h13
    · rw [List.getD_eq_getElem?_getD, List.getElem?_set_ne (by omega), ← List.getD_eq_getElem?_getD]
      exact hbits j h13
    · obtain rfl : j = i := by omega
      rw [hu]
      simp [List.getD, show j < bits.length by omega]
  · obtain rfl : i = n := by omega
    have hbm : bits = ys.map (bitU k) := by
      refine List.ext_getElem (by simp; omega) fun j g1 g2 => ?_
      have := hbits j (by omega)
      simp [List.getD, g1, show j < ys.length by omega] at this
      simp [this]
    rw [wavelet_Make_b8_eq]
    refine (make_vec (ob.rd s) (by omega)).mono fun v h13 ⟨a, B, hv, hpv, s13⟩ => ⟨_, _, hv, condNo rfl ?_⟩
    have s := s.join s13
    have s := (s.to (B := Ab + (cA tb [.int .i64 (i : Int), .int .i64 sg, .int .i64 (H : Int), .slice lp d lc] 64 + (Al + (cA sb [.int .i64 (k : Int)] 3 + (Aq + (V + B))))))).drop
    refine ⟨_, _, _, s.ldB, ?_⟩
    refine push_sl ok_vec (s.to (B := Al + (cA tb [.int .i64 (i : Int), .int .i64 sg, .int .i64 (H : Int), .slice lp d lc] 64 + (cA sb [.int .i64 (k : Int)] 3 + (Aq + (V + B)))))) ol (x := a) rfl rfl (by omega) fun p' c' h15 Al' ol' s => ?_
    have s := s.to (B := cA tb [.int .i64 (i : Int), .int .i64 sg, .int .i64 (H : Int), .slice lp d lc] 64 + (Al' + (cA sb [.int .i64 (k : Int)] 3 + (Aq + (V + B)))))
    refine s.wr (o := 3) rfl (by simp) fun h16 s => ?_
    have s : St h h16 (Aq + (cA sb [.int .i64 (k : Int)] 3 + (cA tb [.int .i64 (i : Int), .int .i64 sg, .int .i64 (H : Int), .slice p' (d + 1) c'] 64 + (Al' + (V + B))))) :=
      St.to (A := cA tb [.int .i64 (i : Int), .int .i64 sg, .int .i64 (H : Int), .slice p' (d + 1) c'] 64 + (Al' + (cA sb [.int .i64 (k : Int)] 3 + (Aq + (V + B))))) s
    refine (sortStableCI (cmpU_ok (sb := sb) (k := k) (by omega)) (ordU k) s oq hypos (by omega)).mono fun v h17 ⟨hv, ys', Aq', oq', s, hpw, hst⟩ => ⟨hv, ?_⟩
    rw [wavelet_Make_b9_eq]
    have e1 : H - d = k + 1 := by omega
    have e2 : H - (d + 1) = k := by omega
    rw [e1] at lv
    have erel : (fun x y : Int => cfU k x y < 0) = fun x y => up k x < up k y := by
      funext x y
      exact propext cmpI_neg
    rw [erel] at hst
    have lv' := lvP_next lv hst (hpw.imp fun h => fun h2 => h (cmpI_neg.2 h2))
    refine ⟨⟨by omega, by omega⟩, ⟨d + 1, by push_cast; rfl, by omega, ys', Aq', p', c', bs ++ [a], Al', lvls ++ [bits], V + B, oq', by rw [e2]; exact lv', ol', av.append (AllH.one hpv), fun j hj => ?_, ?_⟩, by dsimp only; omega⟩
    · have hvl := av.len
      have hbl2 := ol.len
      rcases Nat.lt_or_ge j d with h18 | h18
      · obtain ⟨z, hz1, hz2⟩ := hlv j h18
        refine ⟨z, hz1, ?_⟩
        rw [← hz2, List.getD_eq_getElem?_getD, List.getElem?_append_left (by omega), ← List.getD_eq_getElem?_getD]
      · obtain rfl : j = d := by omega
        refine ⟨ys, by rw [e1]; exact lv, ?_⟩
        rw [hk, List.getD_eq_getElem?_getD, List.getElem?_append_right (by omega), show j - lvls.length = 0 by omega]
        simpa using hbm
    · have := (s.find sb).drop
      exact this.to
end Go.Proofs.Ytfkimbdjgadelaa

/- Numbers that sorting wants: bits.Len, xorshift, nextPowerOfTwo. -/
set_option maxRecDepth 100000
namespace Go.Proofs.Ytfkimbdjgadelaa
open Go Go.Sx
/-! ### logarithms -/
/-- How many bits a number has. -/
def blen (x : Nat) : Nat := if x = 0 then 0 else x.log2 + 1
theorem blen_shift {x k : Nat} (h : 2 ^ k ≤ x) : blen x = blen (x / 2 ^ k) + k := by
  have hp : 0 < 2 ^ k := Nat.two_pow_pos k
  have hx : x ≠ 0 := by omega
  have hq : x / 2 ^ k ≠ 0 := by have := Nat.div_pos h hp; omega
  unfold blen
  rw [if_neg hx, if_neg hq]
  have : x.log2 = (x / 2 ^ k).log2 + k := by
    rw [Nat.log2_eq_iff hx]
    have h1 := Nat.log2_self_le hq
    have h2 := @Nat.lt_log2_self (x / 2 ^ k)
    constructor
    · rw [Nat.pow_add]
      exact Nat.le_trans (Nat.mul_le_mul_right _ h1) (Nat.div_mul_le_self _ _)
    · rw [show (x / 2 ^ k).log2 + k + 1 = ((x / 2 ^ k).log2 + 1) + k by omega, Nat.pow_add]
      exact (Nat.div_lt_iff_lt_mul hp).1 h2
  omega
theorem blen_le {x k : Nat} (h : x < 2 ^ k) : blen x ≤ k := by
  unfold blen
  split
  · omega
  · rename_i hx
    have h1 := Nat.log2_self_le hx
    have : 2 ^ x.log2 < 2 ^ k := Nat.lt_of_le_of_lt h1 h
    have := (Nat.pow_lt_pow_iff_right (by decide : 1 < 2)).1 this
    omega

theorem tab_step {s : ByteArray} {m : Nat} {nv : Int} {h : Hp} {K : Value → Hp → Prop} (hz : s.size = 256) (hs : ∀ n, n < 256 → (s.data.toList.getD n 0).toNat = blen n) (hm : m < 256) (h0 : 0 ≤ nv) (h1 : nv < 1000)
    (hk : K (.int .i64 (nv + (blen m : Nat))) h) : (0 ≤ IntKind.u8.wrap (m : Int) ∧ IntKind.u8.wrap (m : Int) < (s.size : Int)) ∧ InR (((s.data.toList.getD (Int.toNat (IntKind.u8.wrap (m : Int))) 0).toNat : Int)) ∧
      InR (nv + (((s.data.toList.getD (Int.toNat (IntKind.u8.wrap (m : Int))) 0).toNat : Int))) ∧ K (.int .i64 (nv + (((s.data.toList.getD (Int.toNat (IntKind.u8.wrap (m : Int))) 0).toNat : Int)))) h := by
  have hw : IntKind.u8.wrap (m : Int) = m := wrap_u8_in _ (by omega) (by omega)
  have hb : blen m ≤ 8 := blen_le (by omega)
  rw [hw, show ((m : Nat) : Int).toNat = m by simp, hs m hm, hz]
  exact ⟨⟨by omega, by omega⟩, ⟨by omega, by omega⟩, ⟨by omega, by omega⟩, hk⟩

theorem Len64_ok (x : Nat) (hx : x < 18446744073709551616) (h : Hp) : HCalls Try.prog 71 #[.int .u64 (x : Int)] h (fun r h' => r = .int .i64 (blen x : Nat) ∧ h' = h) := by
  refine math_bits_Len64_call ?_
  have shr : ∀ (y k : Nat), y >>> k = y / 2 ^ k := fun y k => Nat.shiftRight_eq_div_pow y k
  have b3 : ∀ (y : Nat) (nv : Int), y < 256 → 0 ≤ nv → nv < 100 → nv + (blen y : Nat) = (blen x : Nat) → math_bits_Len64_b3 (y : Int) nv h (fun r h' => r = .int .i64 (blen x : Nat) ∧ h' = h) := by
    intro y nv hy h0 h1 he
    rw [math_bits_Len64_b3_eq]
    refine tab_step (K := fun r h' => r = .int .i64 (blen x : Nat) ∧ h' = h) ?_ ?_ hy h0 (by omega) ?_
    · decide +kernel
    · decide +kernel
    · rw [he]; exact ⟨rfl, rfl⟩
  have b2 : ∀ (y : Nat) (nv : Int), y < 65536 → 0 ≤ nv → nv < 90 → nv + (blen y : Nat) = (blen x : Nat) → math_bits_Len64_b2 (y : Int) nv h (fun r h' => r = .int .i64 (blen x : Nat) ∧ h' = h) := by
    intro y nv hy h0 h1 he
    rw [math_bits_Len64_b2_eq]
    refine condP (fun hc => ?_) (fun hc => b3 y nv (by omega) h0 (by omega) he)
    refine shr_intro (x := y) (s := 8) rfl rfl (by decide) ⟨⟨by omega, by omega⟩, ?_⟩
    rw [shr]
    have := blen_shift (x := y) (k := 8) (by omega)
    exact b3 _ _ (by omega) (by omega) (by omega) (by omega)
  have b1 : ∀ (y : Nat) (nv : Int), y < 4294967296 → 0 ≤ nv → nv < 70 → nv + (blen y : Nat) = (blen x : Nat) → math_bits_Len64_b1 (y : Int) nv h (fun r h' => r = .int .i64 (blen x : Nat) ∧ h' = h) := by
    intro y nv hy h0 h1 he
    rw [math_bits_Len64_b1_eq]
    refine condP (fun hc => ?_) (fun hc => b2 y nv (by omega) h0 (by omega) he)
    refine shr_intro (x := y) (s := 16) rfl rfl (by decide) ⟨⟨by omega, by omega⟩, ?_⟩
    rw [shr]
    have := blen_shift (x := y) (k := 16) (by omega)
    exact b2 _ _ (by omega) (by omega) (by omega) (by omega)
  rw [math_bits_Len64_b0_eq]
  refine condP (fun hc => ?_) (fun hc => b1 x 0 (by omega) (by omega) (by omega) (by omega))
  refine shr_intro (x := x) (s := 32) rfl rfl (by decide) ?_
  rw [shr]
  have := blen_shift (x := x) (k := 32) (by omega)
  exact b1 _ _ (by omega) (by omega) (by omega) (by omega)

theorem bitsLen_ok (x : Nat) (hx : x < 18446744073709551616) (h : Hp) : HCalls Try.prog 56 #[.int .u64 (x : Int)] h (fun r h' => r = .int .i64 (blen x : Nat) ∧ h' = h) := by
  refine math_bits_Len_call ?_
  rw [math_bits_Len_b0_eq]
  refine (Len64_ok x hx h).mono fun v h' ⟨hv, hh⟩ => ?_
  exact ⟨_, hv, rfl, hh⟩
theorem blen_pow {x : Nat} (h : 1 ≤ x) : 2 ^ blen x ≤ 2 * x ∧ x < 2 ^ blen x := by
  unfold blen
  rw [if_neg (by omega)]
  have h1 := Nat.log2_self_le (show x ≠ 0 by omega)
  have h2 := @Nat.lt_log2_self x
  rw [Nat.pow_succ]
  rw [Nat.pow_succ] at h2
  omega
/-- A power of two beyond a length. -/
theorem nextPow_ok (x : Nat) (h1 : 1 ≤ x) (hx : x < 1000000) (h : Hp) : HCalls Try.prog 77 #[.int .i64 (x : Int)] h (fun r h' => r = .int .u64 ((2 ^ blen x : Nat) : Int) ∧ h' = h) := by
  refine slices_nextPowerOfTwo_call ?_
  rw [slices_nextPowerOfTwo_b0_eq, wrap_u64_in _ (by omega) (by omega)]
  refine (bitsLen_ok x (by omega) h).mono fun v h' ⟨hv, hh⟩ => ⟨_, hv, ?_⟩
  have hb := blen_pow h1
  have hl : blen x ≤ 20 := blen_le (by omega)
  refine shl_intro (x := 1) (s := blen x) rfl rfl (by show blen x ≤ 64; omega) ?_ ⟨?_, hh⟩
  · exact wrap_u64_in _ (by omega) (by omega)
  · rw [Nat.one_mul]
theorem Next_ok {h0 h : Hp} {b : Nat} {z : Int} {e : TypeId} {F : Bag} (s : St h0 h (cA b [.int .u64 z] e + F)) : HCalls Try.prog 78 #[.pointer (some ⟨b, 0, none⟩)] h (fun r h' => ∃ y : Int, r = .int .u64 y ∧ St h0 h' (cA b [.int .u64 y] e + F)) := by
  refine slices_xorshift_Next_call ?_
  rw [slices_xorshift_Next_b0_eq]
  refine ⟨_, s.cell 0, _, s.cell 0, _, ⟨by decide, rfl⟩, _, rfl, s.wr (o := 0) rfl Nat.zero_lt_one fun h1 s => ?_⟩
  refine ⟨_, s.cell 0, _, s.cell 0, _, ⟨by decide, rfl⟩, _, rfl, s.wr (o := 0) rfl Nat.zero_lt_one fun h2 s => ?_⟩
  refine ⟨_, s.cell 0, _, s.cell 0, _, ⟨by decide, rfl⟩, _, rfl, s.wr (o := 0) rfl Nat.zero_lt_one fun h3 s => ?_⟩
  exact ⟨_, s.cell 0, _, rfl, s⟩
/-- Bits of a mask. -/
theorem mask_lt (r : Int) (m : Nat) (h1 : 1 ≤ m) (hm : m < 10000000) {Q : Int → Prop} (hq : ∀ k : Nat, k < m → Q (k : Int)) : ∃ an1 : Int, Sx.And .u64 r (IntKind.u64.wrap ((m : Int) - 1)) an1 ∧ Q an1 := by
  refine ⟨_, rfl, ?_⟩
  rw [wrap_u64_in ((m : Int) - 1) (by omega) (by omega)]
  have h2 : ((BitVec.ofInt IntKind.u64.bits r) &&& (BitVec.ofInt IntKind.u64.bits ((m : Int) - 1))).toNat ≤ m - 1 := by
    rw [BitVec.toNat_and]
    refine Nat.le_trans Nat.and_le_right ?_
    rw [show ((m : Int) - 1) = ((m - 1 : Nat) : Int) by omega, BitVec.ofInt_natCast, BitVec.toNat_ofNat]
    exact Nat.mod_le _ _
  rw [wrap_u64_in _ (by omega) (by omega)]
  exact hq _ (by omega)
end Go.Proofs.Ytfkimbdjgadelaa

/- Sorting: the choice of a pivot, breakPatterns. -/
set_option maxRecDepth 100000
namespace Go.Proofs.Ytfkimbdjgadelaa
open Go Go.Sx
theorem order2P2 {h0 h : Hp} {p : Option Addr} {n cp a' b' sb : Nat} {a b z : Int} {e : TypeId} {xs : List P2} {A F : Bag} {cmp : Value} {cf : P2 → P2 → Int} {P : P2 → Prop} (hX : CmpP2 h0 cmp cf P) (ho : OrdP (fun x y : P2 => cf x y < 0)) (s : St h0 h (A + (cA sb [.int .i64 z] e + F))) (o : Sl tP2 p n cp xs A) (hP : ∀ k, k < n → P (xs.getD k tP2.d)) (ea : a = (a' : Int)) (eb : b = (b' : Int)) (ha : a' < n) (hb : b' < n) (hz : 0 ≤ z) (hz1 : z < 1000) :
    HCalls Try.prog 83 #[.slice p n cp, .int .i64 a, .int .i64 b, .pointer (some ⟨sb, 0, none⟩), cmp] h (fun v h' => ∃ u w z' : Int, v = .tuple #[.int .i64 u, .int .i64 w] ∧ (u = a ∧ w = b ∨ u = b ∧ w = a) ∧ z ≤ z' ∧ z' ≤ z + 1 ∧ St h0 h' (A + (cA sb [.int .i64 z'] e + F))) := by
  subst ea eb
  have hl0 := o.len
  refine slices_order2CmpFunc_2_int_call ?_
  rw [slices_order2CmpFunc_2_int_b0_eq]
  have r := o.rd s
  refine ldP2 (i' := b') r rfl hb (ldP2 (i' := a') r rfl ha ?_)
  refine hX _ _ _ _ s.ext (hP _ (by omega)) (hP _ (by omega)) fun h5 e5 => ⟨_, rfl, ?_⟩; have s := s.grow e5
  refine condP (fun hc => ?_) (fun hc => ⟨_, _, z, rfl, .inl ⟨rfl, rfl⟩, by omega, by omega, s⟩)
  have s := s.to (B := cA sb [.int .i64 z] e + (A + F))
  refine ⟨_, s.cell 0, ⟨by omega, by omega⟩, s.wr (o := 0) rfl Nat.zero_lt_one fun h2 s => ?_⟩
  exact ⟨_, _, z + 1, rfl, .inr ⟨rfl, rfl⟩, by omega, by omega, s.to⟩
theorem medianP2 {h0 h : Hp} {p : Option Addr} {n cp sb : Nat} {a b c z : Int} {e : TypeId} {xs : List P2} {A F : Bag} {cmp : Value} {cf : P2 → P2 → Int} {P : P2 → Prop} (hX : CmpP2 h0 cmp cf P) (ho : OrdP (fun x y : P2 => cf x y < 0)) (s : St h0 h (A + (cA sb [.int .i64 z] e + F))) (o : Sl tP2 p n cp xs A) (hP : ∀ k, k < n → P (xs.getD k tP2.d)) (ha : 0 ≤ a ∧ a < n) (hb : 0 ≤ b ∧ b < n) (hc : 0 ≤ c ∧ c < n) (hz : 0 ≤ z) (hz1 : z < 900) :
    HCalls Try.prog 80 #[.slice p n cp, .int .i64 a, .int .i64 b, .int .i64 c, .pointer (some ⟨sb, 0, none⟩), cmp] h (fun v h' => ∃ u z' : Int, v = .int .i64 u ∧ (u = a ∨ u = b ∨ u = c) ∧ z ≤ z' ∧ z' ≤ z + 3 ∧ St h0 h' (A + (cA sb [.int .i64 z'] e + F))) := by
  refine slices_medianCmpFunc_2_int_call ?_
  rw [slices_medianCmpFunc_2_int_b0_eq]
  refine (order2P2 hX ho s o hP (a' := a.toNat) (b' := b.toNat) (by omega) (by omega) (by omega) (by omega) hz (by omega)).mono fun v1 h1 ⟨u1, w1, z1, hv1, hu1, g1, g2, s⟩ => ⟨_, _, hv1, ?_⟩
  refine (order2P2 hX ho s o hP (a' := w1.toNat) (b' := c.toNat) (by omega) (by omega) (by omega) (by omega) (by omega) (by omega)).mono fun v2 h2 ⟨u2, w2, z2, hv2, hu2, g3, g4, s⟩ => ⟨_, _, hv2, ?_⟩
  refine (order2P2 hX ho s o hP (a' := u1.toNat) (b' := u2.toNat) (by omega) (by omega) (by omega) (by omega) (by omega) (by omega)).mono fun v3 h3 ⟨u3, w3, z3, hv3, hu3, g5, g6, s⟩ => ⟨_, _, hv3, ?_⟩
  exact ⟨_, z3, rfl, by omega, by omega, by omega, s⟩
theorem medianAdjacentP2 {h0 h : Hp} {p : Option Addr} {n cp sb : Nat} {a z : Int} {e : TypeId} {xs : List P2} {A F : Bag} {cmp : Value} {cf : P2 → P2 → Int} {P : P2 → Prop} (hX : CmpP2 h0 cmp cf P) (ho : OrdP (fun x y : P2 => cf x y < 0)) (s : St h0 h (A + (cA sb [.int .i64 z] e + F))) (o : Sl tP2 p n cp xs A) (hP : ∀ k, k < n → P (xs.getD k tP2.d)) (ha : 1 ≤ a ∧ a + 1 < n) (hn : n < 1000000) (hz : 0 ≤ z) (hz1 : z < 900) :
    HCalls Try.prog 79 #[.slice p n cp, .int .i64 a, .pointer (some ⟨sb, 0, none⟩), cmp] h (fun v h' => ∃ u z' : Int, v = .int .i64 u ∧ (a - 1 ≤ u ∧ u ≤ a + 1) ∧ z ≤ z' ∧ z' ≤ z + 3 ∧ St h0 h' (A + (cA sb [.int .i64 z'] e + F))) := by
  refine slices_medianAdjacentCmpFunc_2_int_call ?_
  rw [slices_medianAdjacentCmpFunc_2_int_b0_eq]
  refine ⟨⟨by omega, by omega⟩, ⟨by omega, by omega⟩, (medianP2 hX ho s o hP (by omega) (by omega) (by omega) hz hz1).mono fun v1 h1 ⟨u, z', hv, hu, g1, g2, s⟩ => ⟨_, hv, _, z', rfl, by omega, g1, g2, s⟩⟩
theorem choosePivotP2 {h0 h : Hp} {p : Option Addr} {n cp a' b' : Nat} {a b : Int} {xs : List P2} {A F : Bag} {cmp : Value} {cf : P2 → P2 → Int} {P : P2 → Prop} (hX : CmpP2 h0 cmp cf P) (ho : OrdP (fun x y : P2 => cf x y < 0)) (s : St h0 h (A + F)) (o : Sl tP2 p n cp xs A) (hP : ∀ k, k < n → P (xs.getD k tP2.d)) (ea : a = (a' : Int)) (eb : b = (b' : Int)) (hab : a' < b') (hb : b' ≤ n) (hn : n < 1000000) :
    HCalls Try.prog 65 #[.slice p n cp, .int .i64 a, .int .i64 b, cmp] h (fun v h' => ∃ u hint : Int, v = .tuple #[.int .i64 u, .int .i64 hint] ∧ a ≤ u ∧ u < b ∧ St h0 h' (A + F)) := by
  subst ea eb
  refine slices_choosePivotCmpFunc_2_int_call ?_
  rw [slices_choosePivotCmpFunc_2_int_b0_eq]
  refine ⟨⟨by omega, by omega⟩, s.new (cs := [.int .i64 0]) fun sb h1 _ s => ?_⟩
  have s := s.to (B := A + (cA sb [.int .i64 0] 3 + F))
  have b2 : ∀ (u z : Int) (h' : Hp), a' ≤ u → u < b' → St h0 h' (A + (cA sb [.int .i64 z] 3 + F)) → slices_choosePivotCmpFunc_2_int_b2 (some ⟨sb, 0, none⟩) u h' (fun v h' => ∃ u hint : Int, v = .tuple #[.int .i64 u, .int .i64 hint] ∧ (a' : Int) ≤ u ∧ u < b' ∧ St h0 h' (A + F)) := by
    intro u z h' h1 h2 s
    rw [slices_choosePivotCmpFunc_2_int_b2_eq]
    have s := s.to (B := cA sb [.int .i64 z] 3 + (A + F))
    exact ⟨_, s.cell 0, condP (fun _ => ⟨_, _, rfl, h1, h2, s.drop⟩) fun _ => condP (fun _ => ⟨_, _, rfl, h1, h2, s.drop⟩) fun _ => ⟨_, _, rfl, h1, h2, s.drop⟩⟩
  have b1 : ∀ (u v w z : Int) (h' : Hp), (a' ≤ u ∧ u < b') → (a' ≤ v ∧ v < b') → (a' ≤ w ∧ w < b') → 0 ≤ z → z < 100 → St h0 h' (A + (cA sb [.int .i64 z] 3 + F)) → slices_choosePivotCmpFunc_2_int_b1 p n cp cmp (some ⟨sb, 0, none⟩) u v w h' (fun v h' => ∃ u hint : Int, v = .tuple #[.int .i64 u, .int .i64 hint] ∧ (a' : Int) ≤ u ∧ u < b' ∧ St h0 h' (A + F)) := by
    intro u v w z h' h1 h2 h3 hz hz1 s
    rw [slices_choosePivotCmpFunc_2_int_b1_eq]
    refine (medianP2 hX ho s o hP (by omega) (by omega) (by omega) hz (by omega)).mono fun v1 h1 ⟨u, z', hv, hu, g1, g2, s⟩ => ⟨_, hv, ?_⟩
    exact b2 _ _ _ (by omega) (by omega) s
  refine quo_intro (by omega) (by omega) (by omega) ⟨⟨by omega, by omega⟩, ⟨by omega, by omega⟩, ?_⟩
  refine quo_intro (by omega) (by omega) (by omega) ⟨⟨by omega, by omega⟩, ⟨by omega, by omega⟩, ?_⟩
  refine quo_intro (by omega) (by omega) (by omega) ⟨⟨by omega, by omega⟩, ⟨by omega, by omega⟩, ?_⟩
  refine condP (fun h8 => ?_) (fun h8 => b2 _ _ _ (by omega) (by omega) s)
  refine condP (fun h50 => ?_) (fun h50 => b1 _ _ _ _ _ (by omega) (by omega) (by omega) (by omega) (by omega) s)
  refine (medianAdjacentP2 hX ho s o hP (by omega) hn (by omega) (by omega)).mono fun v1 h1 ⟨u1, z1, hv, hu, g1, g2, s⟩ => ⟨_, hv, ?_⟩
  refine (medianAdjacentP2 hX ho s o hP (by omega) hn (by omega) (by omega)).mono fun v1 h1 ⟨u2, z2, hv, hu, g3, g4, s⟩ => ⟨_, hv, ?_⟩
  refine (medianAdjacentP2 hX ho s o hP (by omega) hn (by omega) (by omega)).mono fun v1 h1 ⟨u3, z3, hv, hu, g5, g6, s⟩ => ⟨_, hv, ?_⟩
  exact b1 _ _ _ _ _ (by omega) (by omega) (by omega) (by omega) (by omega) s
theorem breakPatternsP2 {h0 h : Hp} {p : Option Addr} {n cp a' b' : Nat} {a b : Int} {xs : List P2} {A F : Bag} {cmp : Value} (s : St h0 h (A + F)) (o : Sl tP2 p n cp xs A) (ea : a = (a' : Int)) (eb : b = (b' : Int)) (hab : a' ≤ b') (hb : b' ≤ n) (hn : n < 1000000) :
    HCalls Try.prog 64 #[.slice p n cp, .int .i64 a, .int .i64 b, cmp] h (fun v h' => v = .tuple #[] ∧ OutP2 h0 p n cp a' b' xs F h' fun _ => True) := by
  subst ea eb
  have hl0 := o.len
  refine slices_breakPatternsCmpFunc_2_int_call ?_
  rw [slices_breakPatternsCmpFunc_2_int_b0_eq]
  refine ⟨⟨by omega, by omega⟩, condP (fun h8 => ?_) (fun h8 => ⟨rfl, xs, A, o, s, .refl _, trivial⟩)⟩
  refine s.new (cs := [.int .u64 0]) fun rb h1 _ s => ?_
  refine s.wr (o := 0) rfl Nat.zero_lt_one fun h2 s => ?_
  rw [show ((b' : Int) - a') = ((b' - a' : Nat) : Int) by omega]
  refine (nextPow_ok (b' - a') (by omega) (by omega) h2).mono fun v h3 ⟨hv, hh⟩ => ⟨_, hv, ?_⟩
  subst hh
  have hm := blen_pow (x := b' - a') (by omega)
  generalize 2 ^ blen (b' - a') = m at *
  refine quo_intro (by omega) (by omega) (by omega) ⟨⟨by omega, by omega⟩, ⟨by omega, by omega⟩, ⟨by omega, by omega⟩, ?_⟩
  obtain ⟨q, hq⟩ : ∃ q : Nat, ((b' - a' : Nat) : Int) / 4 = q := ⟨(b' - a') / 4, by omega⟩
  rw [hq]
  refine ⟨fun i h1 => ∃ (i' : Nat) (z : Int), i.1 = i' ∧ a' ≤ i' ∧ ∃ ys A1, Sl tP2 p n cp ys A1 ∧ St h0 h1 (cA rb [.int .u64 z] 108 + (A1 + F)) ∧ Swp tP2.d a' b' xs ys, fun i _ => (b' - i.1).toNat, ⟨a' + 2 * q - 1, _, by show (_ : Int) - 1 = _; omega, by omega, xs, A, o, s, .refl _⟩, ?_⟩
  rintro ⟨_, _⟩ h1 ⟨i', z, rfl, hi, ys, A1, o, s, w⟩
  dsimp only
  have hl := o.len
  rw [slices_breakPatternsCmpFunc_2_int_b1_eq]
  refine quo_intro (by omega) (by omega) (by omega) ?_
  rw [hq]
  refine ⟨⟨by omega, by omega⟩, ⟨by omega, by omega⟩, ⟨by omega, by omega⟩, condP (fun hlt => ?_) (fun hlt => ⟨rfl, ys, A1, o, s.drop, w, trivial⟩)⟩
  refine (Next_ok s).mono fun v h3 ⟨y, hv, s⟩ => ⟨_, hv, mask_lt y m (by omega) (by omega) fun k hk => ⟨⟨by omega, by omega⟩, ?_⟩⟩
  have fin : ∀ u : Nat, u < b' - a' → slices_breakPatternsCmpFunc_2_int_b2 p n cp a' ((b' - a' : Nat) : Int) (some ⟨rb, 0, none⟩) m i' u h3 (fun s' h' => (∃ (i' : Nat) (z : Int), s'.1 = i' ∧ a' ≤ i' ∧ ∃ ys A1, Sl tP2 p n cp ys A1 ∧ St h0 h' (cA rb [.int .u64 z] 108 + (A1 + F)) ∧ Swp tP2.d a' b' xs ys) ∧ (b' - s'.1).toNat < (b' - (i' : Int)).toNat) (fun v h' => v = .tuple #[] ∧ OutP2 h0 p n cp a' b' xs F h' fun _ => True) := by
    intro u hu
    rw [slices_breakPatternsCmpFunc_2_int_b2_eq]
    have s := s.to (B := A1 + (cA rb [.int .u64 y] 108 + F))
    refine ⟨⟨by omega, by omega⟩, ⟨by omega, by omega⟩, swP2 (u' := i') (v' := a' + u) o s rfl (by push_cast; rfl) (by omega) (by omega) fun h6 A6 o6 s6 => ?_⟩
    rw [slices_breakPatternsCmpFunc_2_int_b3_eq]
    exact ⟨⟨by omega, by omega⟩, ⟨i' + 1, y, by push_cast; rfl, by omega, _, A6, o6, s6.to, .step w (by omega) (by omega) (by omega) (by omega) (by omega)⟩, by omega⟩
  refine condP (fun hk2 => ⟨⟨by omega, by omega⟩, ?_⟩) (fun hk2 => fin k (by omega))
  have := fin (k - (b' - a')) (by omega)
  rwa [show ((k - (b' - a') : Nat) : Int) = (k : Int) - ((b' - a' : Nat) : Int) by omega] at this
end Go.Proofs.Ytfkimbdjgadelaa
