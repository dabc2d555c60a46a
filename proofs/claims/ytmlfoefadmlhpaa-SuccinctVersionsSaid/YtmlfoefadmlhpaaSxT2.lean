/- Part T2 of the proof: contracts of functions of the program, and what follows from them. -/
import Derived.Test.YtmlfoefadmlhpaaSxT1
set_option maxRecDepth 10000
namespace Go.Proofs.Ytmlfoefadmlhpaa
open Go Go.Sx

/-! ### the reference -/
theorem rParents_ok {h : Hp} {p : Option Addr} {n c : Nat} {l : List Int} (r : Rd h p n (ints l)) (hn : n ≤ 4611686018427387904) :
    HCalls Try.prog 72 #[.slice p n c] h (fun v h' => h' = h ∧ ((okP l ∧ v = .bool true) ∨ (¬ okP l ∧ v = .bool false))) := by
  have hzl : l.length = n := by have := r.len; simpa using this
  refine r48_Parents_call ?_
  rw [r48_Parents_b0_eq]
  refine condP (fun h0 => ⟨rfl, .inr ⟨fun ok => by have := ok.1; omega, rfl⟩⟩) (fun h0 => ?_)
  refine idx_int r (by omega) (by omega) ?_
  rw [show ((0 : Int)).toNat = 0 by rfl]
  refine condN (fun hne => ⟨rfl, .inr ⟨fun ok => hne ok.2.1, rfl⟩⟩) (fun h1 => ?_)
  rw [r48_Parents_b1_eq]
  refine ⟨fun s h' => h' = h ∧ ∃ i : Nat, s.1 = i ∧ 1 ≤ i ∧ i ≤ n ∧ ∀ t, 0 < t → t < i → 0 ≤ at_ l t ∧ at_ l t < (t : Int), fun s _ => (n - s.1).toNat, ⟨rfl, 1, rfl, by omega, by omega, by omega⟩, ?_⟩
  rintro ⟨si, _⟩ h' ⟨rfl, i, hi, hi1, hin, hall⟩
  simp only at hi
  subst hi
  dsimp only
  rw [r48_Parents_b2_eq]
  have e : ((i : Nat) : Int).toNat = i := by simp
  refine condP (fun hlt => ?_) (fun hge => ?_)
  · refine idx_int r (by omega) (by omega) ?_
    rw [e]
    refine condP (fun h2 => ⟨rfl, .inr ⟨fun ok => ?_, rfl⟩⟩) (fun h2 => ?_)
    · have := (ok.2.2 i (by omega) (by omega)).1
      exact absurd (show at_ l i < 0 from h2) (by omega)
    refine idx_int r (by omega) (by omega) ?_
    rw [e]
    refine condP (fun h3 => ⟨rfl, .inr ⟨fun ok => ?_, rfl⟩⟩) (fun h3 => ?_)
    · have := (ok.2.2 i (by omega) (by omega)).2
      exact absurd (show (i : Int) ≤ at_ l i from h3) (by omega)
    rw [r48_Parents_b3_eq]
    refine ⟨⟨by omega, by omega⟩, ⟨rfl, i + 1, by simp only; omega, by omega, by omega, fun t ht0 ht => ?_⟩, by simp only; omega⟩
    rcases Nat.lt_or_ge t i with h4 | h4
    · exact hall t ht0 h4
    · obtain rfl : t = i := by omega
      exact ⟨Int.not_lt.1 h2, Int.not_le.1 h3⟩
  · rw [r48_Parents_b4_eq]
    exact ⟨rfl, .inl ⟨⟨by omega, h1, fun t ht0 ht => hall t ht0 (by omega)⟩, rfl⟩⟩

/-- The children below a number. -/
def kidsTo (l : List Int) (v i : Nat) : List Nat := (List.range i).filter fun j => decide (at_ l j = (v : Int))
theorem kidsTo_succ (l : List Int) (v i : Nat) : kidsTo l v (i + 1) = kidsTo l v i ++ if at_ l i = (v : Int) then [i] else [] := by
  unfold kidsTo
  rw [List.range_succ, List.filter_append]
  congr 1
  by_cases h : at_ l i = (v : Int)
  · rw [if_pos h]; exact List.filter_cons_of_pos (by simpa using h)
  · rw [if_neg h]; exact List.filter_cons_of_neg (by simpa using h)
theorem kidsTo_small {l : List Int} (ok : okP l) {v i : Nat} (hi : i ≤ v + 1) (hin : i ≤ l.length) : kidsTo l v i = [] := by
  unfold kidsTo
  rw [List.filter_eq_nil_iff]
  intro j hj
  have := List.mem_range.1 hj
  simp only [decide_eq_true_eq]
  intro he
  have := kid_gt ok (mem_kids.2 ⟨show j < l.length by omega, he⟩)
  omega
theorem flat_kidsTo (l : List Int) (v i : Nat) : (((kidsTo l v i).map (txt l)).flatten).length = sumR i (fun j => if decide (at_ l j = (v : Int)) = true then (txt l j).length else 0) := by
  rw [flat_len, List.map_map]
  exact sumR_filter i _ (fun j => (txt l j).length)
theorem sumR_mono {i n : Nat} (h : i ≤ n) (f : Nat → Nat) : sumR i f ≤ sumR n f := by
  induction n with
  | zero => have : i = 0 := by omega
            subst this; exact Nat.le_refl _
  | succ n ih =>
    rcases Nat.lt_or_ge i (n + 1) with h1 | h1
    · have := ih (by omega); simp only [sumR]; omega
    · have : i = n + 1 := by omega
      subst this; exact Nat.le_refl _
theorem txt_pre {l : List Int} (ok : okP l) {v i : Nat} (hv : v < l.length) (hi : i ≤ l.length) : (((kidsTo l v i).map (txt l)).flatten).length + 2 ≤ (txt l v).length := by
  rw [txt_eq ok hv, flat_kidsTo]
  have := sumR_mono hi (fun j => if decide (at_ l j = (v : Int)) = true then (txt l j).length else 0)
  have h2 := flat_kidsTo l v l.length
  have h3 : kidsTo l v l.length = kids l v := rfl
  rw [h3] at h2
  simp only [List.length_cons, List.length_append, List.length_nil]
  omega
theorem txt_le {l : List Int} (ok : okP l) {v : Nat} (hv : v < l.length) : (txt l v).length ≤ 2 * l.length := by
  have hr := txt_len ok
  induction v using Nat.strongRecOn with
  | _ v ih =>
    rcases Nat.eq_zero_or_pos v with h0 | h0
    · subst h0; omega
    · have h1 := ok.2.2 v h0 hv
      obtain ⟨p, hp⟩ := Int.eq_ofNat_of_zero_le h1.1
      have h2 := ih p (by omega) (by omega)
      have h3 := txt_pre ok (v := p) (i := v + 1) (by omega) (by omega)
      rw [flat_kidsTo] at h3
      simp only [sumR] at h3
      have h4 : (if decide (at_ l v = (p : Int)) = true then (txt l v).length else 0) = (txt l v).length := by rw [if_pos (by simpa using hp)]
      rw [h4] at h3
      omega

theorem rtext_ok {h : Hp} {p : Option Addr} {n c : Nat} {l : List Int} (r : Rd h p n (ints l)) (ok : okP l) (hn : n ≤ 1000) : ∀ (m v : Nat), n - v = m → v < n →
    HCalls Try.prog 73 #[.slice p n c, .int .i64 (v : Int)] h (fun r h' => r = .string (parS (txt l v)) ∧ h' = h) := by
  have hzl : l.length = n := by have := r.len; simpa using this
  intro m
  induction m using Nat.strongRecOn with
  | _ m ihm =>
    intro v hm hv
    refine r48_text_call ?_
    rw [r48_text_b0_eq]
    refine ⟨⟨by omega, by omega⟩, ?_⟩
    have hle := txt_le ok (v := v) (by omega)
    refine ⟨fun s h' => h' = h ∧ ∃ i : Nat, s.2.1 = i ∧ v + 1 ≤ i ∧ i ≤ n ∧ s.1 = parS (true :: ((kidsTo l v i).map (txt l)).flatten), fun s _ => (n - s.2.1).toNat, ⟨rfl, v + 1, by simp only; omega, by omega, by omega, ?_⟩, ?_⟩
    · rw [kidsTo_small ok (Nat.le_refl _) (by omega)]
      rfl
    rintro ⟨ss, si, _⟩ h' ⟨rfl, i, hi, hvi, hin, hs⟩
    simp only at hi hs
    subst hi hs
    dsimp only
    rw [r48_text_b1_eq]
    have e : ((i : Nat) : Int).toNat = i := by simp
    refine condP (fun hlt => ?_) (fun hge => ?_)
    · have hks := kidsTo_succ l v i
      refine idx_int r (by omega) (by omega) ?_
      rw [e]
      refine condP (fun h1 => ?_) (fun h1 => ?_)
      · have h1' : at_ l i = (v : Int) := h1
        rw [if_pos h1'] at hks
        refine (ihm (n - i) (by omega) i rfl (by omega)).mono fun r1 h2 ⟨hr1, hh⟩ => ?_
        subst hh
        have hp := txt_pre ok (v := v) (i := i + 1) (by omega) (by omega)
        rw [hks, List.map_append, List.flatten_append, List.length_append] at hp
        simp only [List.map_cons, List.map_nil, List.flatten_cons, List.flatten_nil, List.append_nil] at hp
        refine ⟨_, hr1, ⟨?_, ?_⟩, ?_⟩
        · omega
        · rw [parS_size, parS_size, List.length_cons]; omega
        rw [r48_text_b2_eq]
        refine ⟨⟨by omega, by omega⟩, ⟨rfl, i + 1, by simp only; omega, by omega, by omega, ?_⟩, by simp only; omega⟩
        simp only
        rw [parS_app, hks, List.map_append, List.flatten_append]
        simp
      · have h1' : ¬ at_ l i = (v : Int) := h1
        rw [if_neg h1', List.append_nil] at hks
        rw [r48_text_b2_eq]
        refine ⟨⟨by omega, by omega⟩, ⟨rfl, i + 1, by simp only; omega, by omega, by omega, ?_⟩, by simp only; omega⟩
        simp only
        rw [hks]
    · rw [r48_text_b3_eq]
      have hin' : i = n := by omega
      subst hin'
      have hp := txt_pre ok (v := v) (i := i) (by omega) (by omega)
      refine ⟨⟨by omega, ?_⟩, ?_, rfl⟩
      · rw [parS_size, List.length_cons]
        have : ((⟨#[41]⟩ : ByteArray).size : Int) = 1 := rfl
        rw [this]; omega
      · have h41 : (⟨#[41]⟩ : ByteArray) = parS [false] := rfl
        rw [h41, parS_app, txt_eq ok (by omega), ← hzl]
        rfl

theorem rMakeTree_ok {h : Hp} {p : Option Addr} {n c : Nat} {l : List Int} (r : Rd h p n (ints l)) (hn : n ≤ 4611686018427387904) :
    HCalls Try.prog 53 #[.slice p n c] h (fun v h' => h' = h ∧ ((okP l ∧ n ≤ 1000 ∧ v = .tuple #[.string (parS (txt l 0)), .int .i64 0]) ∨ (okP l ∧ 1000 < n ∧ v = .tuple #[.string (parS []), .int .i64 4]) ∨ (¬ okP l ∧ v = .tuple #[.string (parS []), .int .i64 1]))) := by
  have hzl : l.length = n := by have := r.len; simpa using this
  refine r48_MakeTree_call ?_
  rw [r48_MakeTree_b0_eq]
  refine (rParents_ok r hn).mono fun v h1 ⟨hh, hv⟩ => ?_
  subst hh
  rcases hv with ⟨ok, rfl⟩ | ⟨nok, rfl⟩
  · refine ⟨_, rfl, condNo rfl ?_⟩
    refine condP (fun h1 => ⟨rfl, .inr (.inl ⟨ok, by omega, rfl⟩)⟩) (fun h1 => ?_)
    refine (rtext_ok r ok (by omega) n 0 (by omega) (by have := ok.1; omega)).mono fun v h2 ⟨hv, hh⟩ => ?_
    subst hh
    exact ⟨_, hv, rfl, .inl ⟨ok, by omega, rfl⟩⟩
  · exact ⟨_, rfl, condYes rfl ⟨rfl, .inr (.inr ⟨nok, rfl⟩)⟩⟩
end Go.Proofs.Ytmlfoefadmlhpaa
