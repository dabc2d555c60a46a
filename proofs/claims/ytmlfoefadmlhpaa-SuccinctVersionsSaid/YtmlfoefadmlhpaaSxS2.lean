/- Part S2 of the proof: contracts of functions of the program, and what follows from them. -/
import Derived.Test.YtmlfoefadmlhpaaSxS1
import Derived.Test.YtmlfoefadmlhpaaSxWS
import Derived.Test.YtmlfoefadmlhpaaSxWB
set_option maxRecDepth 10000
namespace Go.Proofs.Ytmlfoefadmlhpaa
open Go Go.Sx

/-! ### lists of integers -/
abbrev ints (zs : List Int) : List Value := zs.map (Value.int .i64)
abbrev at_ (zs : List Int) (i : Nat) : Int := zs.getD i 0

def badAt (zs : List Int) (i : Nat) : Prop := at_ zs i < 0 ∨ 1099511627776 < at_ zs i ∨ (0 < i ∧ at_ zs i < at_ zs (i - 1))
def okL (zs : List Int) : Prop := ∀ i, i < zs.length → ¬ badAt zs i

theorem many_ok {p : Option Addr} {n c : Nat} (h : Hp) : HCalls Try.prog 12 #[.slice p n c] h (fun r h' => r = .bool (decide (60 < n ∧ n ≤ 1000 ∨ 1100 < n)) ∧ h' = h) := by
  refine l48_many_call ?_
  rw [l48_many_b0_eq]
  refine condP (fun h1 => condP (fun h2 => ⟨?_, rfl⟩) (fun h2 => ⟨?_, rfl⟩)) (fun h1 => ⟨?_, rfl⟩)
  · rw [decide_eq_true]; omega
  · congr 1; rw [decide_eq_decide]; omega
  · congr 1; rw [decide_eq_decide]; omega

theorem rList_ok {h : Hp} {p : Option Addr} {n c : Nat} {zs : List Int} (r : Rd h p n (ints zs)) (hn : n ≤ 4611686018427387904) :
    HCalls Try.prog 14 #[.slice p n c] h (fun v h' => h' = h ∧ ((okL zs ∧ n ≤ 1000 ∧ v = .int .i64 0) ∨ (okL zs ∧ 1000 < n ∧ v = .int .i64 4) ∨ (¬ okL zs ∧ v = .int .i64 1))) := by
  have hzl : zs.length = n := by have := r.len; simpa using this
  refine r48_List_call ?_
  rw [r48_List_b0_eq]
  refine ⟨fun s h' => h' = h ∧ ∃ i : Nat, s.1 = i ∧ i ≤ n ∧ ∀ t, t < i → ¬ badAt zs t, fun s _ => (n - s.1).toNat, ⟨rfl, 0, rfl, by omega, by omega⟩, ?_⟩
  rintro ⟨si, _⟩ h' ⟨rfl, i, hi, hin, hall⟩
  simp only at hi
  subst hi
  dsimp only
  rw [r48_List_b1_eq]
  have e : ((i : Nat) : Int).toNat = i := by simp
  refine condP (fun hlt => ?_) (fun hge => ?_)
  · have bad : badAt zs i → ¬ okL zs := fun hb ho => ho i (by omega) hb
    have good : ¬ badAt zs i → r48_List_b2 p n c (i : Int) h' (fun s' h'' => (h'' = h' ∧ ∃ i : Nat, s'.1 = i ∧ i ≤ n ∧ ∀ t, t < i → ¬ badAt zs t) ∧ (n - s'.1).toNat < (n - (i : Int)).toNat)
        (fun v h'' => h'' = h' ∧ ((okL zs ∧ n ≤ 1000 ∧ v = .int .i64 0) ∨ (okL zs ∧ 1000 < n ∧ v = .int .i64 4) ∨ (¬ okL zs ∧ v = .int .i64 1))) := by
      intro hg
      rw [r48_List_b2_eq]
      refine ⟨⟨by omega, by omega⟩, ⟨rfl, i + 1, by simp only; omega, by omega, fun t ht => ?_⟩, by simp only; omega⟩
      rcases Nat.lt_or_ge t i with h1 | h1
      · exact hall t h1
      · obtain rfl : t = i := by omega
        exact hg
    refine idx_int r (by omega) (by omega) ?_
    rw [e]
    refine condP (fun h1 => ⟨rfl, .inr (.inr ⟨bad (.inl h1), rfl⟩)⟩) (fun h1 => ?_)
    refine idx_int r (by omega) (by omega) ?_
    rw [e]
    refine condP (fun h2 => ⟨rfl, .inr (.inr ⟨bad (.inr (.inl h2)), rfl⟩)⟩) (fun h2 => ?_)
    refine condP (fun h3 => ?_) (fun h3 => good ?_)
    · refine idx_int r (by omega) (by omega) ?_
      rw [e]
      refine ⟨⟨by omega, by omega⟩, ?_⟩
      refine idx_int r (by omega) (by omega) ?_
      rw [show ((i : Int) - 1).toNat = i - 1 by omega]
      refine condP (fun h4 => ⟨rfl, .inr (.inr ⟨bad (.inr (.inr ⟨by omega, h4⟩)), rfl⟩)⟩) (fun h4 => good ?_)
      rintro (hb | hb | hb)
      · exact h1 hb
      · exact h2 hb
      · exact h4 hb.2
    · rintro (hb | hb | hb)
      · exact h1 hb
      · exact h2 hb
      · omega
  · rw [r48_List_b3_eq]
    have ok : okL zs := fun t ht => hall t (by omega)
    refine condP (fun h1 => ⟨rfl, .inr (.inl ⟨ok, by omega, rfl⟩)⟩) (fun h1 => ⟨rfl, .inl ⟨ok, by omega, rfl⟩⟩)

/-- The first number that is at least x. -/
def FirstG (zs : List Int) (x : Int) (i : Nat) : Prop := i ≤ zs.length ∧ (∀ t, t < i → at_ zs t < x) ∧ (i = zs.length ∨ x ≤ at_ zs i)
theorem FirstG.unique {zs : List Int} {x : Int} {i j : Nat} (h : FirstG zs x i) (g : FirstG zs x j) : i = j := by
  rcases Nat.lt_trichotomy i j with hl | hl | hl
  · have h1 := g.2.1 i hl
    rcases h.2.2 with h2 | h2
    · have := g.1; omega
    · omega
  · exact hl
  · have h1 := h.2.1 j hl
    rcases g.2.2 with h2 | h2
    · have := h.1; omega
    · omega
abbrev nextV (zs : List Int) (i : Nat) : Value := if i = zs.length then .tuple #[.int .i64 0, .int .i64 0, .int .i64 12] else .tuple #[.int .i64 (i : Int), .int .i64 (at_ zs i), .int .i64 0]
theorem rNext_ok {h : Hp} {p : Option Addr} {n c : Nat} {zs : List Int} (r : Rd h p n (ints zs)) (x : Int) (hn : n ≤ 4611686018427387904) :
    HCalls Try.prog 17 #[.slice p n c, .int .i64 x] h (fun v h' => h' = h ∧ ∃ i, FirstG zs x i ∧ v = nextV zs i) := by
  have hzl : zs.length = n := by have := r.len; simpa using this
  refine r48_Next_call ?_
  rw [r48_Next_b0_eq]
  refine ⟨fun s h' => h' = h ∧ ∃ i : Nat, s.1 = i ∧ i ≤ n ∧ ∀ t, t < i → at_ zs t < x, fun s _ => (n - s.1).toNat, ⟨rfl, 0, rfl, by omega, by omega⟩, ?_⟩
  rintro ⟨si, _⟩ h' ⟨rfl, i, hi, hin, hall⟩
  simp only at hi
  subst hi
  dsimp only
  rw [r48_Next_b1_eq]
  have e : ((i : Nat) : Int).toNat = i := by simp
  refine condP (fun hlt => ?_) (fun hge => ?_)
  · refine idx_int r (by omega) (by omega) ?_
    rw [e]
    refine condP (fun h1 => ?_) (fun h1 => ?_)
    · refine idx_int r (by omega) (by omega) ⟨rfl, i, ⟨by omega, hall, .inr h1⟩, ?_⟩
      rw [e]
      unfold nextV
      rw [if_neg (by omega)]
    · rw [r48_Next_b2_eq]
      refine ⟨⟨by omega, by omega⟩, ⟨rfl, i + 1, by simp only; omega, by omega, fun t ht => ?_⟩, by simp only; omega⟩
      rcases Nat.lt_or_ge t i with h2 | h2
      · exact hall t h2
      · obtain rfl : t = i := by omega
        exact Int.lt_of_not_ge h1
  · rw [r48_Next_b3_eq]
    refine ⟨rfl, i, ⟨by omega, hall, .inl (by omega)⟩, ?_⟩
    unfold nextV
    rw [if_pos (by omega)]

/-! ### the space -/
def shiftOf (zs : List Int) : Nat := if zs.length ≤ (at_ zs (zs.length - 1)).toNat then ((at_ zs (zs.length - 1)).toNat / zs.length).log2 else 0
def spaceOf (zs : List Int) : Nat := if zs.length = 0 then 0 else zs.length * shiftOf zs + zs.length + 1 + (at_ zs (zs.length - 1)).toNat / 2 ^ shiftOf zs
theorem okL.le {zs : List Int} (ok : okL zs) {i : Nat} (hi : i < zs.length) : 0 ≤ at_ zs i ∧ at_ zs i ≤ 1099511627776 := by
  have := ok i hi
  unfold badAt at this
  omega
theorem okL.mono {zs : List Int} (ok : okL zs) {i j : Nat} (hij : i ≤ j) (hj : j < zs.length) : at_ zs i ≤ at_ zs j := by
  induction j with
  | zero => have : i = 0 := by omega
            subst this; exact Int.le_refl _
  | succ j ih =>
    rcases Nat.lt_or_ge i (j + 1) with h1 | h1
    · have h2 := ih (by omega) (by omega)
      have := ok (j + 1) hj
      unfold badAt at this
      simp only [Nat.add_sub_cancel] at this
      omega
    · have : i = j + 1 := by omega
      subst this; exact Int.le_refl _
theorem log2_lt40 {x : Nat} (h : x ≤ 1099511627776) : x.log2 ≤ 40 := by
  rcases Nat.eq_zero_or_pos x with h0 | h0
  · subst h0; decide
  · have h3 := Nat.log2_self_le (n := x) (by omega)
    have : 2 ^ x.log2 < 2 ^ 41 := by omega
    have := (Nat.pow_lt_pow_iff_right (by decide : 1 < 2)).1 this
    omega
theorem shift_le {zs : List Int} (ok : okL zs) : shiftOf zs ≤ 40 := by
  unfold shiftOf
  split
  · refine log2_lt40 ?_
    rcases Nat.eq_zero_or_pos zs.length with h0 | h0
    · rw [h0, Nat.div_zero]; omega
    · have h1 := ok.le (i := zs.length - 1) (by omega)
      have := Nat.div_le_self (at_ zs (zs.length - 1)).toNat zs.length
      omega
  · omega
/-- The high part is at most twice the length. -/
theorem high_le {zs : List Int} (h0 : 0 < zs.length) : (at_ zs (zs.length - 1)).toNat / 2 ^ shiftOf zs ≤ 2 * zs.length := by
  unfold shiftOf
  split
  · rename_i hle
    generalize (at_ zs (zs.length - 1)).toNat = u at hle ⊢
    have hq : u / zs.length ≠ 0 := by have := Nat.div_pos hle h0; omega
    have h2 := @Nat.lt_log2_self (u / zs.length)
    have h3 : u < zs.length * 2 ^ ((u / zs.length).log2 + 1) := by
      have := (Nat.div_lt_iff_lt_mul h0).1 h2
      rw [Nat.mul_comm]; exact this
    have : u / 2 ^ (u / zs.length).log2 < 2 * zs.length := by
      rw [Nat.div_lt_iff_lt_mul (Nat.two_pow_pos _)]
      rw [Nat.pow_succ] at h3
      calc u < zs.length * (2 ^ (u / zs.length).log2 * 2) := h3
        _ = 2 * zs.length * 2 ^ (u / zs.length).log2 := by rw [Nat.mul_comm (2 ^ _) 2, ← Nat.mul_assoc, Nat.mul_comm zs.length 2]
    omega
  · rw [Nat.pow_zero, Nat.div_one]; omega
theorem rSpace_ok {h : Hp} {p : Option Addr} {n c : Nat} {zs : List Int} (r : Rd h p n (ints zs)) (ok : okL zs) (hn : n ≤ 1000) :
    HCalls Try.prog 20 #[.slice p n c] h (fun v h' => v = .int .i64 (spaceOf zs : Nat) ∧ h' = h) := by
  have hzl : zs.length = n := by have := r.len; simpa using this
  refine r48_Space_call ?_
  rw [r48_Space_b0_eq]
  refine condP (fun h0 => ⟨?_, rfl⟩) (fun h0 => ?_)
  · unfold spaceOf; rw [if_pos (by omega)]; rfl
  have hu := ok.le (i := zs.length - 1) (by omega)
  refine ⟨⟨by omega, by omega⟩, ?_⟩
  refine idx_int r (by omega) (by omega) ?_
  rw [show ((n : Int) - 1).toNat = zs.length - 1 by omega]
  generalize hU : at_ zs (zs.length - 1) = U at hu ⊢
  have hUe : zs.getD (zs.length - 1) 0 = U := hU
  rw [hUe]
  obtain ⟨u, rfl⟩ := Int.eq_ofNat_of_zero_le hu.1
  have fin : ∀ low : Nat, low = shiftOf zs → r48_Space_b1 (n : Int) (u : Int) (low : Int) h (fun v h' => v = .int .i64 (spaceOf zs : Nat) ∧ h' = h) := by
    intro low hlow
    have hl40 := shift_le ok
    rw [r48_Space_b1_eq]
    refine ⟨fun s h' => h' = h ∧ ∃ k : Nat, s.2.1 = k ∧ k ≤ low ∧ s.1 = ((u / 2 ^ k : Nat) : Int), fun s _ => (low - s.2.1).toNat, ⟨rfl, 0, rfl, by omega, by simp⟩, ?_⟩
    rintro ⟨sh, si, _⟩ h' ⟨rfl, k, hk, hkl, hsh⟩
    simp only at hk hsh
    subst hk hsh
    dsimp only
    have hq : u / 2 ^ k ≤ u := Nat.div_le_self _ _
    rw [r48_Space_b2_eq]
    have hs1 : u / 2 ^ (k + 1) = u / 2 ^ k / 2 := by rw [Nat.pow_succ, ← Nat.div_div_eq_div_mul]
    generalize hw : u / 2 ^ k = w at hq hs1 ⊢
    refine condP (fun hc => ?_) (fun hc => ?_)
    · refine quo_intro (by omega) (by omega) (by omega) ?_
      rw [r48_Space_b3_eq]
      refine ⟨⟨by omega, by omega⟩, ⟨rfl, k + 1, by simp only; omega, by omega, ?_⟩, by simp only; omega⟩
      simp only
      rw [hs1]
      omega
    · rw [r48_Space_b4_eq]
      have : k = low := by omega
      subst this
      have hm : n * k ≤ 1000 * 40 := Nat.mul_le_mul hn (by omega)
      have hmm : ((n : Int) * (k : Int)) = ((n * k : Nat) : Int) := by simp
      rw [hmm]
      refine ⟨⟨by omega, by omega⟩, ⟨by omega, by omega⟩, ⟨by omega, by omega⟩, ⟨by omega, by omega⟩, ?_, rfl⟩
      unfold spaceOf
      rw [if_neg (by omega), hU, ← hlow, hzl, ← hw]
      simp
  refine condP (fun hc => ?_) (fun hc => ?_)
  · refine quo_intro (by omega) (by omega) (by omega) ?_
    rw [show ((u : Int) / (n : Int)) = ((u / n : Nat) : Int) by simp]
    have hq := Nat.div_le_self u n
    refine (rLog_ok (u / n) (by omega) h).mono fun v h' ⟨hv, hh⟩ => ?_
    subst hh
    refine ⟨_, hv, fin _ ?_⟩
    unfold shiftOf
    rw [hU, if_pos (by simp; omega), hzl]
    simp
  · refine fin 0 ?_
    unfold shiftOf
    rw [hU, if_neg (by simp; omega)]
end Go.Proofs.Ytmlfoefadmlhpaa
