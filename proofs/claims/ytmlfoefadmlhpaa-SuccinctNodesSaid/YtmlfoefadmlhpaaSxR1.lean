/- Part R1 of the proof: contracts of functions of the program, and what follows from them. -/
import Derived.Test.YtmlfoefadmlhpaaSxT9
set_option maxRecDepth 10000
namespace Go.Proofs.Ytmlfoefadmlhpaa
open Go Go.Sx

/-! ### the reference's functions of parentheses -/
section
variable {h : Hp} {b : List Bool}
theorem par_get {i : Nat} (hi : i < b.length) : (parS b).data.toList.getD i 0 = if b.getD i false then 40 else 41 := by
  have : (parS b).data.toList = parB b := by simp [parS]
  rw [this]
  unfold parB
  simp [List.getD, hi]
theorem par40 {i : Nat} (hi : i < b.length) : (((parS b).data.toList.getD i 0).toNat : Int) = 40 ↔ b.getD i false = true := by
  rw [par_get hi]
  cases b.getD i false <;> decide
/-- A look at a parenthesis. -/
theorem condPar {i : Nat} {X Y : Prop} (hi : i < b.length) (h1 : b.getD i false = true → X) (h0 : b.getD i false = false → Y) :
    cond (decide ((((parS b).data.toList.getD (Int.toNat (i : Int)) 0).toNat : Int) = 40)) X Y := by
  rw [show ((i : Nat) : Int).toNat = i by simp]
  refine condP (fun h => h1 ((par40 hi).1 h)) (fun h => h0 ?_)
  cases hb : b.getD i false
  · rfl
  · exact absurd ((par40 hi).2 hb) h

theorem rOpen_ok {v o : Nat} (hs : b.length ≤ 65536) (s : IsSel b true v o) : HCalls Try.prog 67 #[.string (parS b), .int .i64 (v : Int)] h (fun r h' => r = .int .i64 (o : Int) ∧ h' = h) := by
  obtain ⟨hol, hob, hoc⟩ := s
  refine r48_Open_call ?_
  rw [r48_Open_b0_eq]
  refine ⟨fun st h' => h' = h ∧ ∃ i : Nat, st.2.1 = i ∧ i ≤ o ∧ st.1 = (cntB b true i : Nat), fun st _ => (b.length - st.2.1).toNat, ⟨rfl, 0, rfl, by omega, by simp [cntB]⟩, ?_⟩
  rintro ⟨sn, si, _⟩ h' ⟨rfl, i, hi, hio, hn⟩
  simp only at hi hn
  subst hi hn
  dsimp only
  rw [r48_Open_b1_eq, parS_size]
  refine condP (fun hlt => ?_) (fun hge => by omega)
  have hs' := cntB_succ b true i (by omega)
  have hcl : cntB b true i ≤ i := by unfold cntB; exact Nat.le_trans (List.length_filter_le _ _) (by simp; omega)
  refine ⟨⟨by omega, by omega⟩, condPar (by omega) (fun hb => ?_) (fun hb => ?_)⟩
  · rw [if_pos hb] at hs'
    refine condP (fun heq => ?_) (fun hne => ?_)
    · have : i = o := by
        rcases Nat.lt_or_ge i o with h1 | h1
        · have := cntB_mono b true (show i + 1 ≤ o by omega); omega
        · omega
      subst this
      exact ⟨rfl, rfl⟩
    · rw [r48_Open_b2_eq]
      have hne' : i ≠ o := by intro e; subst e; omega
      exact ⟨⟨by omega, by omega⟩, ⟨by omega, by omega⟩, ⟨rfl, i + 1, by simp only; omega, by omega, by simp only; omega⟩, by simp only; omega⟩
  · rw [if_neg (by rw [hb]; simp)] at hs'
    rw [r48_Open_b2_eq]
    have hne' : i ≠ o := by intro e; subst e; rw [hob] at hb; cases hb
    exact ⟨⟨by omega, by omega⟩, ⟨rfl, i + 1, by simp only; omega, by omega, by simp only; omega⟩, by simp only; omega⟩

theorem rNode_ok {i : Nat} (hs : b.length ≤ 65536) (hi : i ≤ b.length) : HCalls Try.prog 68 #[.string (parS b), .int .i64 (i : Int)] h (fun r h' => r = .int .i64 (cntB b true i : Nat) ∧ h' = h) := by
  refine r48_Node_call ?_
  rw [r48_Node_b0_eq]
  refine ⟨fun st h' => h' = h ∧ ∃ k : Nat, st.2.1 = k ∧ k ≤ i ∧ st.1 = (cntB b true k : Nat), fun st _ => (i - st.2.1).toNat, ⟨rfl, 0, rfl, by omega, by simp [cntB]⟩, ?_⟩
  rintro ⟨sn, sk, _⟩ h' ⟨rfl, k, hk, hki, hn⟩
  simp only at hk hn
  subst hk hn
  dsimp only
  rw [r48_Node_b1_eq, parS_size]
  refine condP (fun hlt => ?_) (fun hge => ?_)
  · have hs' := cntB_succ b true k (by omega)
    have hcl : cntB b true k ≤ k := by unfold cntB; exact Nat.le_trans (List.length_filter_le _ _) (by simp; omega)
    refine ⟨⟨by omega, by omega⟩, condPar (by omega) (fun hb => ?_) (fun hb => ?_)⟩
    · rw [if_pos hb] at hs'
      rw [r48_Node_b2_eq]
      exact ⟨⟨by omega, by omega⟩, ⟨by omega, by omega⟩, ⟨rfl, k + 1, by simp only; omega, by omega, by simp only; omega⟩, by simp only; omega⟩
    · rw [if_neg (by rw [hb]; simp)] at hs'
      rw [r48_Node_b2_eq]
      exact ⟨⟨by omega, by omega⟩, ⟨rfl, k + 1, by simp only; omega, by omega, by simp only; omega⟩, by simp only; omega⟩
  · rw [r48_Node_b3_eq]
    have : k = i := by omega
    subst this
    exact ⟨rfl, rfl⟩

theorem rMatch_ok {i j : Nat} (hs : b.length ≤ 65536) (hc : IsClose b i j) : HCalls Try.prog 66 #[.string (parS b), .int .i64 (i : Int)] h (fun r h' => r = .int .i64 (j : Int) ∧ h' = h) := by
  obtain ⟨hij, hjb, hbi, hE, hin⟩ := hc
  refine r48_Match_call ?_
  rw [r48_Match_b0_eq]
  refine ⟨fun s h' => h' = h ∧ ∃ k : Nat, s.2.1 = k ∧ i ≤ k ∧ k ≤ j ∧ s.1 = Ex b k - Ex b i, fun s _ => (b.length - s.2.1).toNat, ⟨rfl, i, rfl, Nat.le_refl _, by omega, by simp only; omega⟩, ?_⟩
  rintro ⟨sd, si, _⟩ h' ⟨rfl, k, hk, hik, hkj, hd⟩
  simp only at hk hd
  subst hk hd
  dsimp only
  rw [r48_Match_b1_eq, parS_size]
  have hes := Ex_step b (t := k) (by omega)
  have hu := Ex_le b k
  have hl : 0 ≤ Ex b k - Ex b i := by
    rcases Nat.lt_or_ge i k with h4 | h4
    · have := hin k h4 hkj; omega
    · have : k = i := by omega
      subst this; omega
  have hei := Ex_ge b i
  have b2 : ∀ {K : Value → Hp → Prop} (d : Int), d = Ex b (k + 1) - Ex b i → K (.int .i64 (j : Int)) h' → r48_Match_b2 (parS b) d (k : Int) h' (fun s h'' => (h'' = h' ∧ ∃ k : Nat, s.2.1 = k ∧ i ≤ k ∧ k ≤ j ∧ s.1 = Ex b k - Ex b i) ∧ (b.length - s.2.1).toNat < (b.length - (k : Int)).toNat) K := by
    intro K d hd hK
    rw [r48_Match_b2_eq]
    refine condP (fun h0 => ?_) (fun h0 => ?_)
    · have : k = j := by
        rcases Nat.lt_or_ge k j with h4 | h4
        · have := hin (k + 1) (by omega) (by omega); omega
        · omega
      rw [this]; exact hK
    · rw [r48_Match_b4_eq]
      have hne : k ≠ j := by intro e; subst e; omega
      exact ⟨⟨by omega, by omega⟩, ⟨rfl, k + 1, by simp only; omega, by omega, by omega, hd⟩, by simp only; omega⟩
  refine condP (fun hlt => ?_) (fun hge => by omega)
  refine ⟨⟨by omega, by omega⟩, condPar (by omega) (fun hb => ?_) (fun hb => ?_)⟩
  · rcases hes with ⟨_, h5⟩ | ⟨h5, _⟩
    · exact ⟨⟨by omega, by omega⟩, b2 _ (by omega) ⟨rfl, rfl⟩⟩
    · rw [hb] at h5; cases h5
  · rcases hes with ⟨h5, _⟩ | ⟨_, h5⟩
    · rw [hb] at h5; cases h5
    · exact ⟨⟨by omega, by omega⟩, b2 _ (by omega) ⟨rfl, rfl⟩⟩

theorem rClose_ok (B : Bal1 b) (hs : b.length ≤ 65536) (i : Int) : HCalls Try.prog 38 #[.string (parS b), .int .i64 i] h (fun r h' => h' = h ∧ CloseR b i r) := by
  refine r48_Close_call ?_
  rw [r48_Close_b0_eq, parS_size]
  refine condP (fun h1 => ⟨rfl, .inl ⟨by omega, rfl⟩⟩) (fun h1 => ?_)
  refine condP (fun h2 => ⟨rfl, .inl ⟨by omega, rfl⟩⟩) (fun h2 => ?_)
  obtain ⟨k, rfl⟩ := Int.eq_ofNat_of_zero_le (show 0 ≤ i by omega)
  rw [r48_Close_b1_eq, parS_size]
  refine ⟨⟨by omega, by omega⟩, ?_⟩
  rw [show ((k : Nat) : Int).toNat = k by simp]
  have hkl : k < b.length := by omega
  refine condN (fun h3 => ?_) (fun h3 => ?_)
  · have hb : b.getD k false = false := by
      cases hb : b.getD k false
      · rfl
      · exact absurd ((par40 hkl).2 hb) h3
    exact ⟨rfl, .inr (.inl ⟨k, rfl, hkl, hb, rfl⟩)⟩
  · have hb := (par40 hkl).1 h3
    obtain ⟨j, hj⟩ := close_ex' B hkl hb
    refine (rMatch_ok hs hj).mono fun r h4 ⟨hr, hh⟩ => ?_
    subst hh
    exact ⟨_, hr, rfl, .inr (.inr ⟨k, j, rfl, hj, rfl⟩)⟩

theorem rIs_ok (hs : b.length ≤ 65536) (v : Int) : HCalls Try.prog 42 #[.string (parS b), .int .i64 v] h (fun r h' => h' = h ∧ ((isN b v ∧ r = .bool true) ∨ (¬ isN b v ∧ r = .bool false))) := by
  refine r48_Is_call ?_
  rw [r48_Is_b0_eq]
  refine condP (fun h0 => ?_) (fun h0 => ⟨rfl, .inr ⟨fun hn => h0 hn.1, rfl⟩⟩)
  refine r48_Len_call ?_
  rw [r48_Len_b0_eq, parS_size]
  refine quo_intro (by omega) (by omega) (by omega) ⟨_, rfl, rfl, ?_⟩
  by_cases h1 : v < (b.length : Int) / 2
  · exact .inl ⟨⟨h0, by omega⟩, by rw [decide_eq_true h1]⟩
  · exact .inr ⟨fun hn => by have := hn.2; omega, by rw [decide_eq_false h1]⟩

theorem rParent_ok (B : Bal1 b) (hs : b.length ≤ 65536) {v : Nat} (hv : v < b.length / 2) : HCalls Try.prog 43 #[.string (parS b), .int .i64 (v : Int)] h (fun r h' => h' = h ∧ ∃ q, r = .int .i64 q ∧ ParV b v q) := by
  obtain ⟨o, j, d⟩ := nd_ex B hv
  have hol := d.sel.1
  refine r48_Parent_call ?_
  rw [r48_Parent_b0_eq]
  refine (rOpen_ok hs d.sel).mono fun r h1 ⟨hr, hh⟩ => ?_
  subst hh
  refine ⟨_, hr, ⟨by omega, by omega⟩, ?_⟩
  refine ⟨fun s h' => h' = h1 ∧ ∃ k : Nat, s.2.1 = (k : Int) - 1 ∧ k ≤ o ∧ s.1 = Ex b k - Ex b o ∧ ∀ u, k ≤ u → u ≤ o → Ex b o ≤ Ex b u, fun s _ => (s.2.1 + 1).toNat,
    ⟨rfl, o, rfl, Nat.le_refl _, by simp only; omega, fun u h2 h3 => Int.le_of_eq (by rw [show u = o by omega])⟩, ?_⟩
  rintro ⟨sd, si, _⟩ h2 ⟨rfl, k, hk, hko, hd, hall⟩
  simp only at hk hd
  subst hk hd
  dsimp only
  rw [r48_Parent_b1_eq, parS_size]
  have hko' := hall k (Nat.le_refl _) hko
  have hle := Ex_le b k
  have hge := Ex_ge b o
  have hno := B.nonneg (t := o) (by omega)
  refine condP (fun hpos => ?_) (fun hneg => ?_)
  · obtain ⟨k', rfl⟩ : ∃ k', k = k' + 1 := ⟨k - 1, by omega⟩
    have hki : ((k' + 1 : Nat) : Int) - 1 = (k' : Int) := by omega
    rw [hki]
    have next : ∀ {K : Value → Hp → Prop} (d' : Int), d' = Ex b k' - Ex b o → Ex b o ≤ Ex b k' → r48_Parent_b4 (parS b) d' (k' : Int) h2 (fun s h' => (h' = h2 ∧ ∃ k : Nat, s.2.1 = (k : Int) - 1 ∧ k ≤ o ∧ s.1 = Ex b k - Ex b o ∧ ∀ u, k ≤ u → u ≤ o → Ex b o ≤ Ex b u) ∧ (s.2.1 + 1).toNat < ((k' : Int) + 1).toNat) K := by
      intro K d' hd' hle'
      rw [r48_Parent_b4_eq]
      refine ⟨⟨by omega, by omega⟩, ⟨rfl, k', rfl, by omega, hd', fun u h4 h5 => ?_⟩, by simp only; omega⟩
      rcases Nat.lt_or_ge k' u with h6 | h6
      · exact hall u (by omega) h5
      · have : u = k' := by omega
        subst this; exact hle'
    refine ⟨⟨by omega, by omega⟩, condPar (by omega) (fun hb => ?_) (fun hb => ?_)⟩
    · rcases Ex_step b (t := k') (by omega) with ⟨_, hE⟩ | ⟨hb', _⟩
      rotate_left
      · rw [hb] at hb'; cases hb'
      refine ⟨⟨by omega, by omega⟩, ?_⟩
      rw [r48_Parent_b2_eq]
      refine condP (fun hfound => ?_) (fun hnot => next _ (by omega) (by omega))
      refine (rNode_ok hs (show k' ≤ b.length by omega)).mono fun r4 h4 ⟨hr4, hh⟩ => ?_
      subst hh
      refine ⟨_, hr4, rfl, _, rfl, .inr ⟨cntB b true k', ⟨o, k', d.sel, ⟨by omega, hb, rfl⟩, ?_⟩, rfl⟩⟩
      refine ⟨by omega, hb, by omega, fun u h5 h6 => ?_⟩
      have := hall u (by omega) h6
      omega
    · rcases Ex_step b (t := k') (by omega) with ⟨hb', _⟩ | ⟨_, hE⟩
      · rw [hb] at hb'; cases hb'
      refine ⟨⟨by omega, by omega⟩, ?_⟩
      rw [r48_Parent_b2_eq]
      exact condP (fun hfound => by omega) (fun hnot => next _ (by omega) (by omega))
  · rw [r48_Parent_b3_eq]
    have hk0 : k = 0 := by omega
    subst hk0
    rw [Ex_zero] at hko'
    have ho0 := B.zero hol (by omega)
    subst ho0
    refine ⟨rfl, _, rfl, .inl ⟨?_, rfl⟩⟩
    have := d.sel.2.2
    simp [cntB] at this; omega

theorem rSize_ok (hs : b.length ≤ 65536) {v o j : Nat} (d : Nd b v o j) : HCalls Try.prog 45 #[.string (parS b), .int .i64 (v : Int)] h (fun r h' => r = .int .i64 (((j - o + 1) / 2 : Nat) : Int) ∧ h' = h) := by
  have hoj := d.close.1
  have hjl := d.close.2.1
  refine r48_Size_call ?_
  rw [r48_Size_b0_eq]
  refine (rOpen_ok hs d.sel).mono fun r h1 ⟨hr, hh⟩ => ?_
  subst hh
  refine ⟨_, hr, ?_⟩
  refine (rMatch_ok hs d.close).mono fun r2 h2 ⟨hr2, hh⟩ => ?_
  subst hh
  refine ⟨_, hr2, ⟨by omega, by omega⟩, ⟨by omega, by omega⟩, ?_⟩
  refine quo_intro (by omega) (by omega) (by omega) ⟨?_, rfl⟩
  rw [show (((j - o + 1) / 2 : Nat) : Int) = ((j : Int) - o + 1) / 2 by omega]

/-- The excess at a parent is one less. -/
theorem ParN.ex_one {v p o op : Nat} (h : ParN b v p) (g : IsSel b true v o) (gp : IsSel b true p op) : Ex b op = Ex b o - 1 := by
  obtain ⟨o', op', h1, h2, h3⟩ := h
  obtain rfl := sel_unique g h1
  obtain rfl := sel_unique gp h2
  exact h3.2.2.1
theorem sel_zero (B : Bal1 b) {o : Nat} (s : IsSel b true 0 o) : Ex b o = 0 := by
  obtain ⟨j, d⟩ := Nd.root B
  have := sel_unique s d.sel
  subst this
  exact Ex_zero b
theorem rDepth_ok (B : Bal1 b) (hs : b.length ≤ 65536) {v o : Nat} (hv : v < b.length / 2) (g : IsSel b true v o) : HCalls Try.prog 44 #[.string (parS b), .int .i64 (v : Int)] h (fun r h' => r = .int .i64 (Ex b o) ∧ h' = h) := by
  have hno := B.nonneg (t := o) (by have := g.1; omega)
  have hle := Ex_le b o
  have hol := g.1
  refine r48_Depth_call ?_
  rw [r48_Depth_b0_eq]
  -- the invariant after a parent is taken
  have step : ∀ {u ou : Nat} {q : Int}, u < b.length / 2 → IsSel b true u ou → ParV b u q → (q = -1 ∧ Ex b ou = 0) ∨ ∃ k ok : Nat, q = k ∧ k < u ∧ IsSel b true k ok ∧ Ex b ok = Ex b ou - 1 := by
    intro u ou q hu hou hq
    rcases hq with ⟨rfl, rfl⟩ | ⟨p, hp, rfl⟩
    · exact .inl ⟨rfl, sel_zero B hou⟩
    · have hpl := hp.lt
      obtain ⟨op, jp, dp⟩ := nd_ex B (show p < b.length / 2 by omega)
      exact .inr ⟨p, op, rfl, hpl, dp.sel, hp.ex_one hou dp.sel⟩
  refine (rParent_ok B hs hv).mono fun r h1 ⟨hh, q, hr, hq⟩ => ?_
  subst hh
  refine ⟨_, hr, ?_⟩
  refine ⟨fun s h' => h' = h1 ∧ ((s.2.1 = -1 ∧ s.1 = Ex b o) ∨ ∃ k ok : Nat, s.2.1 = k ∧ k < b.length / 2 ∧ IsSel b true k ok ∧ s.1 + Ex b ok + 1 = Ex b o) ∧ 0 ≤ s.1, fun s _ => (s.2.1 + 1).toNat, ⟨rfl, ?_, Int.le_refl _⟩, ?_⟩
  · rcases step hv g hq with ⟨h2, h3⟩ | ⟨k, ok, h2, h3, h4, h5⟩
    · exact .inl ⟨h2, h3.symm⟩
    · exact .inr ⟨k, ok, h2, by omega, h4, by simp only; omega⟩
  rintro ⟨sn, sk, _⟩ h2 ⟨rfl, hor, hn0⟩
  dsimp only
  simp only at hor hn0
  rw [r48_Depth_b1_eq]
  refine condP (fun hpos => ?_) (fun hneg => ?_)
  · rcases hor with ⟨h3, _⟩ | ⟨k, ok, rfl, hk, hsel, hsum⟩
    · omega
    have hnk := B.nonneg (t := ok) (by have := hsel.1; omega)
    refine ⟨⟨by omega, by omega⟩, ?_⟩
    rw [r48_Depth_b2_eq]
    refine (rParent_ok B hs hk).mono fun r3 h3 ⟨hh, q', hr3, hq'⟩ => ?_
    subst hh
    refine ⟨_, hr3, ⟨rfl, ?_, by simp only; omega⟩, ?_⟩
    · rcases step hk hsel hq' with ⟨h4, h5⟩ | ⟨k', ok', h4, h5, h6, h7⟩
      · exact .inl ⟨h4, by simp only; omega⟩
      · exact .inr ⟨k', ok', h4, by omega, h6, by simp only; omega⟩
    · rcases step hk hsel hq' with ⟨h4, h5⟩ | ⟨k', ok', h4, h5, h6, h7⟩ <;> (simp only; omega)
  · rw [r48_Depth_b3_eq]
    rcases hor with ⟨_, h3⟩ | ⟨k, ok, rfl, _⟩
    · exact ⟨by rw [h3], rfl⟩
    · omega

theorem rChild_ok (B : Bal1 b) (hs : b.length ≤ 65536) (v k : Int) : HCalls Try.prog 40 #[.string (parS b), .int .i64 v, .int .i64 k] h (fun r h' => h' = h ∧ ((∃ n o j : Nat, v = n ∧ n < b.length / 2 ∧ Nd b n o j ∧ ChildR b o k r) ∨ (¬ isN b v ∧ r = .tuple #[.int .i64 0, .int .i64 2]))) := by
  refine r48_Child_call ?_
  rw [r48_Child_b0_eq]
  refine (rIs_ok hs v).mono fun r h1 ⟨hh, hv⟩ => ?_
  subst hh
  rcases hv with ⟨hv, rfl⟩ | ⟨hv, rfl⟩
  rotate_left
  · exact ⟨_, rfl, condYes rfl ⟨rfl, .inr ⟨hv, rfl⟩⟩⟩
  obtain ⟨n, rfl, hn⟩ := isN_nat hv
  obtain ⟨o, j, d⟩ := nd_ex B hn
  have hds := d.size
  have hoj := d.close.1
  have hjl := d.close.2.1
  refine ⟨_, rfl, condNo rfl ⟨⟨by omega, by omega⟩, ?_⟩⟩
  refine ⟨fun s h' => h' = h1 ∧ ∃ m i : Nat, s.1 = m ∧ Sib b (o + 1) m i ∧ s.2.1 = (cntB b true i : Nat) ∧ m ≤ i ∧ (k < 0 ∨ (m : Int) ≤ k), fun s _ => (b.length - s.2.1).toNat, ⟨rfl, 0, o + 1, rfl, .zero, ?_, by omega, by omega⟩, ?_⟩
  · have hcs := cntB_succ b true o (by omega)
    rw [if_pos d.sel.2.1] at hcs
    have := d.sel.2.2
    simp only; omega
  rintro ⟨sm, sw, _⟩ h2 ⟨rfl, m, i, hm, hsib, hw, hmi, hmk⟩
  simp only at hm hw
  subst hm hw
  dsimp only
  have bt := sib_btw d.close hsib
  have hij := bt.2.1
  have hcl : cntB b true i ≤ i := by unfold cntB; exact Nat.le_trans (List.length_filter_le _ _) (by simp; omega)
  rw [r48_Child_b1_eq]
  refine (rSize_ok hs d).mono fun r2 h3 ⟨hr2, hh⟩ => ?_
  subst hh
  refine ⟨_, hr2, ⟨by omega, by omega⟩, ?_⟩
  have hsum : ((n : Int) + (((j - o + 1) / 2 : Nat) : Int)) = (cntB b true j : Nat) := by omega
  rw [hsum]
  cases hb : b.getD i false
  · have hie := btw_end d.close bt hb
    subst hie
    refine condP (fun hlt => by omega) (fun _ => ?_)
    rw [r48_Child_b3_eq]
    refine ⟨rfl, .inl ⟨n, o, i, rfl, hn, d, .inr ⟨?_, rfl⟩⟩⟩
    rcases hmk with h5 | h5
    · exact .inl h5
    · exact .inr ⟨m, i, h5, hsib, hb⟩
  · have hij' : i < j := by
      rcases Nat.lt_or_ge i j with h5 | h5
      · exact h5
      · have : i = j := by omega
        subst this
        rw [d.close.last] at hb; cases hb
    have hcs := cntB_succ b true i (by omega)
    rw [if_pos hb] at hcs
    have hmono := cntB_mono b true (show i + 1 ≤ j by omega)
    refine condP (fun _ => ?_) (fun hge => by omega)
    refine condP (fun heq => ⟨rfl, .inl ⟨n, o, j, rfl, hn, d, .inl ⟨m, i, by omega, hsib, hb, rfl⟩⟩⟩) (fun hne => ?_)
    refine ⟨⟨by omega, by omega⟩, ?_⟩
    rw [r48_Child_b2_eq]
    obtain ⟨c, dc⟩ := nd_at B (show i < b.length by omega) hb
    have hcsz := dc.size
    have hic := dc.close.1
    have hnx := btw_next d.close bt dc.close
    refine (rSize_ok hs dc).mono fun r4 h4 ⟨hr4, hh⟩ => ?_
    subst hh
    refine ⟨_, hr4, ⟨by omega, by omega⟩, ⟨rfl, m + 1, c + 1, by simp only; omega, hsib.succ dc.close, by simp only; omega, by omega, by omega⟩, by simp only; omega⟩

theorem rCommon_ok (B : Bal1 b) (hs : b.length ≤ 65536) {v w : Nat} (hv : v < b.length / 2) (hw : w < b.length / 2) : HCalls Try.prog 46 #[.string (parS b), .int .i64 (v : Int), .int .i64 (w : Int)] h (fun r h' => h' = h ∧ ∃ q : Nat, LcaR b v w q ∧ r = .int .i64 (q : Int)) := by
  obtain ⟨ow, jw, dw⟩ := nd_ex B hw
  refine r48_Common_call ?_
  rw [r48_Common_b0_eq]
  refine ⟨fun s h' => h' = h ∧ ∃ k : Nat, s.1 = k ∧ k < b.length / 2 ∧ Anc b k v ∧ ∀ c, Anc b c v → Anc b c w → Anc b c k, fun s _ => s.1.toNat, ⟨rfl, v, rfl, hv, ?_, fun c h1 _ => h1⟩, ?_⟩
  · obtain ⟨o, j, d⟩ := nd_ex B hv
    exact Anc.refl d
  rintro ⟨sk, _⟩ h2 ⟨rfl, k, hk, hkn, hkv, hall⟩
  simp only at hk
  subst hk
  dsimp only
  obtain ⟨o, j, d⟩ := nd_ex B hkn
  have hds := d.size
  have hjl := d.close.2.1
  have b2 : ¬ Anc b k w → ∀ {K : Value → Hp → Prop}, r48_Common_b2 (parS b) (w : Int) (k : Int) h2 (fun s h' => (h' = h2 ∧ ∃ k : Nat, s.1 = k ∧ k < b.length / 2 ∧ Anc b k v ∧ ∀ c, Anc b c v → Anc b c w → Anc b c k) ∧ s.1.toNat < ((k : Int)).toNat) K := by
    intro hno K
    rw [r48_Common_b2_eq]
    refine (rParent_ok B hs hkn).mono fun r3 h3 ⟨hh, q, hr3, hq⟩ => ?_
    subst hh
    rcases hq with ⟨h4, _⟩ | ⟨p, hp, rfl⟩
    · exfalso
      subst h4
      obtain ⟨jr, dr⟩ := Nd.root B
      refine hno ⟨0, jr, ow, jw, dr, dw, by omega, ?_⟩
      obtain ⟨rfl, rfl⟩ := d.uniq dr
      rcases Nat.lt_or_ge j ow with h5 | h5
      · have h6 := dr.close.2.2.2.1
        rw [Ex_zero] at h6
        have := B.2.2 (j + 1) (by omega) (by have := dw.sel.1; omega)
        omega
      · exact h5
    · have hpl := hp.lt
      refine ⟨_, hr3, ⟨rfl, p, rfl, by omega, (hp.anc B).trans hkv, fun c h5 h6 => (hall c h5 h6).par B (fun e => hno (e ▸ h6)) hp⟩, by simp only; omega⟩
  have hiff := anc_iff d dw
  rw [r48_Common_b1_eq]
  refine condP (fun hlt => b2 (fun ha => by have := ha.le; omega)) (fun hge => ?_)
  refine (rSize_ok hs d).mono fun r3 h3 ⟨hr3, hh⟩ => ?_
  subst hh
  refine ⟨_, hr3, ⟨by omega, by omega⟩, ?_⟩
  refine condP (fun hout => b2 (fun ha => by have := (hiff.1 ha).2; omega)) (fun hin => ?_)
  rw [r48_Common_b3_eq]
  have hkw : Anc b k w := hiff.2 ⟨by omega, by omega⟩
  exact ⟨rfl, k, ⟨⟨o, j, d⟩, fun c => ⟨fun ⟨h4, h5⟩ => hall c h4 h5, fun h4 => ⟨h4.trans hkv, h4.trans hkw⟩⟩⟩, rfl⟩
end
end Go.Proofs.Ytmlfoefadmlhpaa
