/- Part P40 SH SI SA SL SB SC SD SE LH P41 P42 P43 P54 LI LJ of the proof: contracts of functions of the program, and what follows from them. -/
import Derived.Test.YtllhdhpjgihjfaaGreatDoorSxLG
import Derived.Test.YtllhdhpjgihjfaaGreatDoorSxY1
import Derived.Test.YtllhdhpjgihjfaaGreatDoorSxV
set_option maxRecDepth 100000
namespace Go.Sx
variable {α : Type} {d : α}
def swapL (d : α) (xs : List α) (i j : Nat) : List α := (xs.set i (xs.getD j d)).set j (xs.getD i d)
theorem yamq (xs : List α) (i j : Nat) : (swapL d xs i j).length = xs.length := by unfold swapL; rw [List.length_set, List.length_set]
theorem yadu {xs : List α} {i k : Nat} {x : α} (hi : i < xs.length) : (xs.set i x).getD k d = if k = i then x else xs.getD k d := by
  rw [List.getD_eq_getElem?_getD, List.getElem?_set, List.getD_eq_getElem?_getD]
  by_cases h : k = i
  · subst h; rw [if_pos rfl, if_pos rfl, if_pos hi]; rfl
  · rw [if_neg (fun e => h e.symm), if_neg h]
theorem yaay {xs : List α} {i j : Nat} (hi : i < xs.length) (hj : j < xs.length) (k : Nat) : (swapL d xs i j).getD k d = if k = j then xs.getD i d else if k = i then xs.getD j d else xs.getD k d := by
  unfold swapL
  rw [yadu (by rw [List.length_set]; exact hj), yadu hi]
theorem yapv {xs : List α} {i j : Nat} (hi : i < xs.length) (hj : j < xs.length) : (swapL d xs i j).Perm xs := by
  unfold swapL
  have h1 : xs.getD i d = xs[i] := by rw [List.getD_eq_getElem?_getD, List.getElem?_eq_getElem hi]; rfl
  have h2 : xs.getD j d = xs[j] := by rw [List.getD_eq_getElem?_getD, List.getElem?_eq_getElem hj]; rfl
  rw [h1, h2]
  exact List.set_set_perm hi hj
inductive Swp (d : α) (a b : Nat) : List α → List α → Prop
  | refl (xs) : Swp d a b xs xs
  | step {xs ys} {i j : Nat} : Swp d a b xs ys → a ≤ i → i < b → a ≤ j → j < b → b ≤ ys.length → Swp d a b xs (swapL d ys i j)
theorem Swp.one {a b : Nat} {xs : List α} {i j : Nat} (h1 : a ≤ i) (h2 : i < b) (h3 : a ≤ j) (h4 : j < b) (h5 : b ≤ xs.length) : Swp d a b xs (swapL d xs i j) := .step (.refl xs) h1 h2 h3 h4 h5
theorem Swp.trans {a b : Nat} {xs ys zs : List α} (h1 : Swp d a b xs ys) (h2 : Swp d a b ys zs) : Swp d a b xs zs := by
  induction h2 with
  | refl => exact h1
  | step _ i1 i2 j1 j2 hl ih => exact .step ih i1 i2 j1 j2 hl
theorem Swp.mono {a b a' b' : Nat} {xs ys : List α} (ha : a' ≤ a) (hb : b ≤ b') (hl : b' ≤ xs.length) (h : Swp d a b xs ys) : Swp d a' b' xs ys ∧ ys.length = xs.length := by
  induction h with
  | refl => exact ⟨.refl _, rfl⟩
  | step _ i1 i2 j1 j2 _ ih => exact ⟨.step ih.1 (by omega) (by omega) (by omega) (by omega) (by rw [ih.2]; exact hl), by rw [yamq, ih.2]⟩
theorem Swp.len {a b : Nat} {xs ys : List α} (h : Swp d a b xs ys) : ys.length = xs.length := by
  induction h with
  | refl => rfl
  | step _ _ _ _ _ _ ih => rw [yamq, ih]
theorem Swp.out {a b : Nat} {xs ys : List α} (h : Swp d a b xs ys) {k : Nat} (hk : k < a ∨ b ≤ k) : ys.getD k d = xs.getD k d := by
  induction h with
  | refl => rfl
  | step _ i1 i2 j1 j2 hl ih => rw [yaay (by omega) (by omega), if_neg (by omega), if_neg (by omega), ih]
theorem Swp.all {a b : Nat} {xs ys : List α} (h : Swp d a b xs ys) {P : α → Prop} (hP : ∀ k, a ≤ k → k < b → P (xs.getD k d)) : ∀ k, a ≤ k → k < b → P (ys.getD k d) := by
  induction h with
  | refl => exact hP
  | step _ i1 i2 j1 j2 hl ih =>
    intro k h1 h2
    rw [yaay (by omega) (by omega)]
    split
    · exact ih _ i1 i2
    · split
      · exact ih _ j1 j2
      · exact ih k h1 h2
theorem Swp.perm {a b : Nat} {xs ys : List α} (h : Swp d a b xs ys) : ys.Perm xs := by
  induction h with
  | refl => exact .refl _
  | step _ i1 i2 j1 j2 hl ih => exact (yapv (by omega) (by omega)).trans ih
theorem Swp.allN {a b : Nat} {xs ys : List α} (h : Swp d a b xs ys) {P : α → Prop} {n : Nat} (hn : xs.length = n) (hP : ∀ k, k < n → P (xs.getD k d)) : ∀ k, k < n → P (ys.getD k d) := by
  subst hn
  induction h with
  | refl => exact hP
  | step t i1 i2 j1 j2 hl ih =>
    intro k h2
    have := t.len
    rw [yaay (by omega) (by omega)]
    split
    · exact ih _ (by omega)
    · split
      · exact ih _ (by omega)
      · exact ih k h2
structure OrdP (lt : α → α → Prop) : Prop where
  asymm : ∀ x y, lt x y → ¬ lt y x
  trans : ∀ x y z, ¬ lt y x → ¬ lt z y → ¬ lt z x
theorem OrdP.irr {lt : α → α → Prop} (o : OrdP lt) (x : α) : ¬ lt x x := fun h => o.asymm x x h h
section
variable {lt : α → α → Prop} (o : OrdP lt)
def SrtR (d : α) (lt : α → α → Prop) (a b : Nat) (xs : List α) : Prop := ∀ p q, a ≤ p → p < q → q < b → ¬ lt (xs.getD q d) (xs.getD p d)
theorem SrtR.mono {a b a' b' : Nat} {xs : List α} (h : SrtR d lt a b xs) (ha : a ≤ a') (hb : b' ≤ b) : SrtR d lt a' b' xs := fun p q h1 h2 h3 => h p q (by omega) h2 (by omega)
theorem yajq {n : Nat} {xs : List α} (hl : xs.length = n) (h : SrtR d lt 0 n xs) : xs.Pairwise (fun x y => ¬ lt y x) := by
  rw [List.pairwise_iff_getElem]
  intro i j hi hj hij
  have := h i j (by omega) hij (by omega)
  rwa [List.getD_eq_getElem?_getD, List.getD_eq_getElem?_getD, List.getElem?_eq_getElem hi, List.getElem?_eq_getElem hj] at this
def InsR (d : α) (lt : α → α → Prop) (a j i : Nat) (xs : List α) : Prop := ∀ p q, a ≤ p → p < q → q ≤ i → q ≠ j → ¬ lt (xs.getD q d) (xs.getD p d)
theorem yaia {a i : Nat} {xs : List α} (h : SrtR d lt a i xs) : InsR d lt a i i xs := fun p q h1 h2 h3 h4 => h p q h1 h2 (by omega)
include o in
theorem yapj {a j i : Nat} {xs : List α} (haj : a < j) (hji : j ≤ i) (hi : i < xs.length) (h : InsR d lt a j i xs) (hl : lt (xs.getD j d) (xs.getD (j - 1) d)) : InsR d lt a (j - 1) i (swapL d xs j (j - 1)) := by
  intro p q h1 h2 h3 h4
  rw [yaay (by omega) (by omega), yaay (by omega) (by omega), if_neg h4]
  by_cases hq : q = j
  · rw [if_pos hq]
    by_cases hp : p = j - 1
    · rw [if_pos hp]; exact o.asymm _ _ hl
    · rw [if_neg hp, if_neg (by omega)]; exact h p (j - 1) h1 (by omega) (by omega) (by omega)
  · rw [if_neg hq]
    by_cases hp : p = j - 1
    · rw [if_pos hp]; exact h j q (by omega) (by omega) h3 hq
    · rw [if_neg hp]
      by_cases hp2 : p = j
      · rw [if_pos hp2]; exact h (j - 1) q (by omega) (by omega) h3 hq
      · rw [if_neg hp2]; exact h p q h1 h2 h3 hq
include o in
theorem yarv {a j i : Nat} {xs : List α} (haj : a ≤ j) (h : InsR d lt a j i xs) (hl : a < j → ¬ lt (xs.getD j d) (xs.getD (j - 1) d)) : SrtR d lt a (i + 1) xs := by
  intro p q h1 h2 h3
  by_cases hq : q = j
  · subst hq
    have hl := hl (by omega)
    by_cases hp : p = q - 1
    · rw [hp]; exact hl
    · exact o.trans _ _ _ (h p (q - 1) h1 (by omega) (by omega) (by omega)) hl
  · exact h p q h1 h2 (by omega) hq
theorem yaht {a b : Nat} {xs : List α} (h : b ≤ a + 1) : SrtR d lt a b xs := fun _ _ h1 h2 h3 => by omega
def HeapX (d : α) (lt : α → α → Prop) (f lo hi r : Nat) (xs : List α) : Prop :=
  (∀ k c, lo ≤ k → (c = 2 * k + 1 ∨ c = 2 * k + 2) → c < hi → k ≠ r → ¬ lt (xs.getD (f + k) d) (xs.getD (f + c) d)) ∧
  ∀ k c, lo ≤ k → (r = 2 * k + 1 ∨ r = 2 * k + 2) → (c = 2 * r + 1 ∨ c = 2 * r + 2) → c < hi → ¬ lt (xs.getD (f + k) d) (xs.getD (f + c) d)
def HeapR (d : α) (lt : α → α → Prop) (f lo hi : Nat) (xs : List α) : Prop := ∀ k c, lo ≤ k → (c = 2 * k + 1 ∨ c = 2 * k + 2) → c < hi → ¬ lt (xs.getD (f + k) d) (xs.getD (f + c) d)
theorem yanm {f lo hi r : Nat} {xs : List α} (h : HeapX d lt f lo hi r xs) (hr : ∀ c, (c = 2 * r + 1 ∨ c = 2 * r + 2) → c < hi → ¬ lt (xs.getD (f + r) d) (xs.getD (f + c) d)) : HeapR d lt f lo hi xs := by
  intro k c h1 h2 h3
  by_cases hk : k = r
  · subst hk; exact hr c h2 h3
  · exact h.1 k c h1 h2 h3 hk
include o in
theorem yaui {f lo hi r ch : Nat} {xs : List α} (h : HeapX d lt f lo hi r xs) (hc : ch = 2 * r + 1 ∨ ch = 2 * r + 2) (hch : ch < hi) (hlen : f + hi ≤ xs.length) (hl : lt (xs.getD (f + r) d) (xs.getD (f + ch) d))
    (hmax : ∀ c, (c = 2 * r + 1 ∨ c = 2 * r + 2) → c < hi → ¬ lt (xs.getD (f + ch) d) (xs.getD (f + c) d)) (hlr : lo ≤ r) : HeapX d lt f lo hi ch (swapL d xs (f + r) (f + ch)) := by
  have g : ∀ k, (swapL d xs (f + r) (f + ch)).getD (f + k) d = if k = ch then xs.getD (f + r) d else if k = r then xs.getD (f + ch) d else xs.getD (f + k) d := by
    intro k
    rw [yaay (by omega) (by omega)]
    by_cases h1 : k = ch
    · rw [if_pos (by omega), if_pos h1]
    · rw [if_neg (by omega), if_neg h1]
      by_cases h2 : k = r
      · rw [if_pos (by omega), if_pos h2]
      · rw [if_neg (by omega), if_neg h2]
  refine ⟨fun k c h1 h2 h3 h4 => ?_, fun k c h1 h2 h3 h4 => ?_⟩
  · rw [g, g, if_neg h4]
    by_cases hk : k = r
    · subst hk
      rw [if_pos rfl]
      by_cases hcc : c = ch
      · rw [if_pos hcc]; exact o.asymm _ _ hl
      · rw [if_neg hcc, if_neg (by omega)]; exact hmax c h2 h3
    · rw [if_neg hk]
      by_cases hcc : c = ch
      · omega
      · rw [if_neg hcc]
        by_cases hcr : c = r
        · subst hcr
          rw [if_pos rfl]
          exact h.2 k ch h1 h2 hc hch
        · rw [if_neg hcr]; exact h.1 k c h1 h2 h3 hk
  · have hkr : k = r := by omega
    subst hkr
    rw [g, g, if_neg (by omega), if_pos rfl, if_neg (by omega), if_neg (by omega)]
    exact h.1 ch c (by omega) h3 h4 (by omega)
include o in
theorem yaxx {f hi : Nat} {xs : List α} (h : HeapR d lt f 0 hi xs) : ∀ k, k < hi → ¬ lt (xs.getD f d) (xs.getD (f + k) d) := by
  intro k
  induction k using Nat.strongRecOn with
  | _ k ih =>
    intro hk
    by_cases h0 : k = 0
    · subst h0; exact o.irr _
    · have h1 := ih ((k - 1) / 2) (by omega) (by omega)
      have h2 := h ((k - 1) / 2) k (by omega) (by omega) hk
      exact o.trans _ _ _ h2 h1
def OutR (d : α) (lt : α → α → Prop) (a0 b0 a b : Nat) (xs : List α) : Prop := ∀ p q, a0 ≤ p → p < q → q < b0 → ¬ (a ≤ p ∧ q < b) → ¬ lt (xs.getD q d) (xs.getD p d)
theorem yaje {a b : Nat} {xs : List α} : OutR d lt a b a b xs := fun _ _ h1 _ h3 h4 => absurd ⟨h1, h3⟩ h4
theorem yacr {a0 b0 a b : Nat} {xs ys : List α} (h1 : a0 ≤ a) (h2 : b ≤ b0) (h : OutR d lt a0 b0 a b xs) (s : Swp d a b xs ys) : OutR d lt a0 b0 a b ys := by
  intro p q g1 g2 g3 g4
  by_cases hp : a ≤ p ∧ p < b
  · have hq : b ≤ q := by omega
    rw [s.out (k := q) (.inr hq)]
    exact s.all (P := fun x => ¬ lt (xs.getD q d) x) (fun k k1 k2 => h k q (by omega) (by omega) g3 (by omega)) p hp.1 hp.2
  · rw [s.out (k := p) (by omega)]
    by_cases hq : a ≤ q ∧ q < b
    · exact s.all (P := fun x => ¬ lt x (xs.getD p d)) (fun k k1 k2 => h p k g1 (by omega) (by omega) (by omega)) q hq.1 hq.2
    · rw [s.out (k := q) (by omega)]
      exact h p q g1 g2 g3 g4
theorem yamj {a0 b0 a b : Nat} {xs : List α} (h : OutR d lt a0 b0 a b xs) (hs : SrtR d lt a b xs) : SrtR d lt a0 b0 xs := by
  intro p q h1 h2 h3
  by_cases hi : a ≤ p ∧ q < b
  · exact hs p q hi.1 h2 hi.2
  · exact h p q h1 h2 h3 hi
def PartR (d : α) (lt : α → α → Prop) (a b m : Nat) (xs : List α) : Prop := (∀ k, a ≤ k → k < m → lt (xs.getD k d) (xs.getD m d)) ∧ ∀ k, m < k → k < b → ¬ lt (xs.getD k d) (xs.getD m d)
def LoR (d : α) (lt : α → α → Prop) (a i : Nat) (xs : List α) : Prop := ∀ k, a < k → k < i → lt (xs.getD k d) (xs.getD a d)
def HiR (d : α) (lt : α → α → Prop) (a J b : Nat) (xs : List α) : Prop := ∀ k, J ≤ k → k < b → ¬ lt (xs.getD k d) (xs.getD a d)
theorem yauq {a i : Nat} {xs : List α} (h : LoR d lt a i xs) (hl : lt (xs.getD i d) (xs.getD a d)) : LoR d lt a (i + 1) xs := fun k h1 h2 => by
  by_cases hk : k = i
  · subst hk; exact hl
  · exact h k h1 (by omega)
theorem yauv {a J b : Nat} {xs : List α} (h : HiR d lt a J b xs) (hl : ¬ lt (xs.getD (J - 1) d) (xs.getD a d)) : HiR d lt a (J - 1) b xs := fun k h1 h2 => by
  by_cases hk : k = J - 1
  · subst hk; exact hl
  · exact h k (by omega) h2
theorem yamo {a i J b : Nat} {xs : List α} (ha : a < i) (hiJ : i < J) (hJ : J ≤ b) (hb : b ≤ xs.length) (lo : LoR d lt a i xs) (hi : HiR d lt a J b xs) (h1 : ¬ lt (xs.getD i d) (xs.getD a d)) (h2 : lt (xs.getD (J - 1) d) (xs.getD a d)) :
    LoR d lt a (i + 1) (swapL d xs i (J - 1)) ∧ HiR d lt a (J - 1) b (swapL d xs i (J - 1)) := by
  have hne : i ≠ J - 1 := fun e => h1 (e ▸ h2)
  refine ⟨fun k k1 k2 => ?_, fun k k1 k2 => ?_⟩
  · rw [yaay (by omega) (by omega), yaay (by omega) (by omega) a, if_neg (by omega), if_neg (by omega : ¬ a = J - 1), if_neg (by omega : ¬ a = i)]
    by_cases hk : k = i
    · rw [if_pos hk]; exact h2
    · rw [if_neg hk]; exact lo k k1 (by omega)
  · rw [yaay (by omega) (by omega), yaay (by omega) (by omega) a, if_neg (by omega : ¬ a = J - 1), if_neg (by omega : ¬ a = i)]
    by_cases hk : k = J - 1
    · rw [if_pos hk]; exact h1
    · rw [if_neg hk, if_neg (by omega)]; exact hi k (by omega) k2
theorem yasa {a i J b : Nat} {xs : List α} (ha : a < J) (hib : i ≤ b) (hJi : J ≤ i) (hb : b ≤ xs.length) (lo : LoR d lt a i xs) (hi : HiR d lt a J b xs) : PartR d lt a b (J - 1) (swapL d xs (J - 1) a) := by
  have he : J = i := by
    rcases Nat.lt_or_ge J i with h | h
    · exact absurd (lo J ha h) (hi J (Nat.le_refl _) (by omega))
    · omega
  subst he
  refine ⟨fun k k1 k2 => ?_, fun k k1 k2 => ?_⟩
  · rw [yaay (by omega) (by omega), yaay (by omega) (by omega) (J - 1), if_neg (by omega : ¬ J - 1 = a), if_pos rfl]
    by_cases hk : k = a
    · rw [if_pos hk]; exact lo _ (by omega) (by omega)
    · rw [if_neg hk, if_neg (by omega)]; exact lo k (by omega) (by omega)
  · rw [yaay (by omega) (by omega), yaay (by omega) (by omega) (J - 1), if_neg (by omega), if_neg (by omega)]
    by_cases hk : J - 1 = a
    · rw [if_pos hk, hk]; exact hi k (by omega) k2
    · rw [if_neg hk, if_pos rfl]; exact hi k (by omega) k2
def EqR (d : α) (lt : α → α → Prop) (x : α) (a i : Nat) (xs : List α) : Prop := xs.getD a d = x ∧ ∀ k, a ≤ k → k < i → ¬ lt x (xs.getD k d)
theorem ybbc {a i : Nat} {xs : List α} {x : α} (h : EqR d lt x a i xs) (hl : ¬ lt (xs.getD a d) (xs.getD i d)) : EqR d lt x a (i + 1) xs := ⟨h.1, fun k h1 h2 => by
  by_cases hk : k = i
  · subst hk; rw [← h.1]; exact hl
  · exact h.2 k h1 (by omega)⟩
theorem yazd {a i j : Nat} {xs : List α} {x : α} (ha : a < i) (hij : i ≤ j) (hj : j < xs.length) (h : EqR d lt x a i xs) (hl : ¬ lt (xs.getD a d) (xs.getD j d)) : EqR d lt x a (i + 1) (swapL d xs i j) := by
  refine ⟨?_, fun k k1 k2 => ?_⟩
  · rw [yaay (by omega) (by omega), if_neg (by omega), if_neg (by omega)]; exact h.1
  · rw [yaay (by omega) (by omega)]
    by_cases hk : k = j
    · rw [if_pos hk, show i = j by omega, ← h.1]; exact hl
    · rw [if_neg hk]
      by_cases hk : k = i
      · rw [if_pos hk, ← h.1]; exact hl
      · rw [if_neg hk]; exact h.2 k k1 (by omega)
include o in
theorem yate {a0 b0 a b m : Nat} {xs : List α} (_ : a0 ≤ a) (_ : b ≤ b0) (_ : a ≤ m) (_ : m < b) (h : OutR d lt a0 b0 a b xs) (hp : PartR d lt a b m xs) (hs : SrtR d lt a m xs) : OutR d lt a0 b0 (m + 1) b xs := by
  intro p q g1 g2 g3 g4
  by_cases hin : a ≤ p ∧ q < b
  · have hpm : p ≤ m := by omega
    rcases Nat.lt_trichotomy q m with hq | hq | hq
    · exact hs p q hin.1 g2 hq
    · subst hq; exact o.asymm _ _ (hp.1 p hin.1 g2)
    · rcases Nat.lt_or_ge p m with hpm' | hpm'
      · exact o.trans _ _ _ (o.asymm _ _ (hp.1 p hin.1 hpm')) (hp.2 q hq hin.2)
      · obtain rfl : p = m := by omega
        exact hp.2 q hq hin.2
  · exact h p q g1 g2 g3 hin
include o in
theorem yapd {a0 b0 a b m : Nat} {xs : List α} (_ : a0 ≤ a) (_ : b ≤ b0) (_ : a ≤ m) (_ : m < b) (h : OutR d lt a0 b0 a b xs) (hp : PartR d lt a b m xs) (hs : SrtR d lt (m + 1) b xs) : OutR d lt a0 b0 a m xs := by
  intro p q g1 g2 g3 g4
  by_cases hin : a ≤ p ∧ q < b
  · have hqm : m ≤ q := by omega
    rcases Nat.lt_trichotomy p m with hq | hq | hq
    · rcases Nat.lt_or_ge m q with h5 | h5
      · exact o.trans _ _ _ (o.asymm _ _ (hp.1 p hin.1 hq)) (hp.2 q h5 hin.2)
      · obtain rfl : q = m := by omega
        exact o.asymm _ _ (hp.1 p hin.1 hq)
    · subst hq; exact hp.2 q g2 hin.2
    · exact hs p q (by omega) g2 hin.2
  · exact h p q g1 g2 g3 hin
include o in
theorem yare {a0 b0 a b m : Nat} {xs : List α} {x : α} (_ : a0 ≤ a) (_ : b ≤ b0) (_ : a ≤ m) (_ : m ≤ b) (h : OutR d lt a0 b0 a b xs) (hlo : ∀ k, a ≤ k → k < m → ¬ lt x (xs.getD k d)) (hall : ∀ k, a ≤ k → k < b → ¬ lt (xs.getD k d) x) : OutR d lt a0 b0 m b xs := by
  intro p q g1 g2 g3 g4
  by_cases hin : a ≤ p ∧ q < b
  · exact o.trans _ _ _ (hlo p hin.1 (by omega)) (hall q (by omega) hin.2)
  · exact h p q g1 g2 g3 hin
end
end Go.Sx
namespace Go.Proofs.YtllhdhpjgihjfaaGreatDoor
open Go Go.Sx
structure EvT where
  th : Int
  co : Int
  ar : SH
  er : Int
  nu : Int
  li : SH
  bg : Int
  en : Int
abbrev tEv : Ty EvT := ⟨60, 8, fun x => [.int .i64 x.th, .int .i64 x.co, .slice x.ar.1 x.ar.2.1 x.ar.2.2, .int .i64 x.er, .int .i64 x.nu, .slice x.li.1 x.li.2.1 x.li.2.2, .int .i64 x.bg, .int .i64 x.en], ⟨0, 0, (none, 0, 0), 0, 0, (none, 0, 0), 0, 0⟩, fun _ => rfl, by decide, fun _ v hv => by simp at hv; rcases hv with rfl | rfl | rfl | rfl | rfl | rfl | rfl | rfl <;> rfl⟩
abbrev encEv (x : EvT) : Value := .agg #[.int .i64 x.th, .int .i64 x.co, .slice x.ar.1 x.ar.2.1 x.ar.2.2, .int .i64 x.er, .int .i64 x.nu, .slice x.li.1 x.li.2.1 x.li.2.2, .int .i64 x.bg, .int .i64 x.en]
theorem ldEV {h : Hp} {p : OA} {n : Nat} {l : List EvT} {i : Int} {i' : Nat} {Q : Int → Int → OA → Nat → Nat → Int → Int → OA → Nat → Nat → Int → Int → Prop} (r : RdT tEv h p n l) (ei : i = (i' : Int)) (h1 : i' < n) (hq : Q (l.getD i' tEv.d).th (l.getD i' tEv.d).co (l.getD i' tEv.d).ar.1 (l.getD i' tEv.d).ar.2.1 (l.getD i' tEv.d).ar.2.2 (l.getD i' tEv.d).er (l.getD i' tEv.d).nu (l.getD i' tEv.d).li.1 (l.getD i' tEv.d).li.2.1 (l.getD i' tEv.d).li.2.2 (l.getD i' tEv.d).bg (l.getD i' tEv.d).en) :
    (0 ≤ i ∧ i < (n : Int)) ∧ NN p fun a => ∃ x0 : Int, ∃ x1 : Int, ∃ (x2 : OA) (x2L x2C : Nat), ∃ x3 : Int, ∃ x4 : Int, ∃ (x5 : OA) (x5L x5C : Nat), ∃ x6 : Int, ∃ x7, cell h (a.add (Int.toNat i * 8)) = some (.int .i64 x0) ∧ cell h ((a.add (Int.toNat i * 8)).add 1) = some (.int .i64 x1) ∧ cell h ((a.add (Int.toNat i * 8)).add 2) = some (.slice x2 x2L x2C) ∧ cell h ((a.add (Int.toNat i * 8)).add 3) = some (.int .i64 x3) ∧ cell h ((a.add (Int.toNat i * 8)).add 4) = some (.int .i64 x4) ∧ cell h ((a.add (Int.toNat i * 8)).add 5) = some (.slice x5 x5L x5C) ∧ cell h ((a.add (Int.toNat i * 8)).add 6) = some (.int .i64 x6) ∧ cell h ((a.add (Int.toNat i * 8)).add 7) = some (.int .i64 x7) ∧ Q x0 x1 x2 x2L x2C x3 x4 x5 x5L x5C x6 x7 := by
  subst ei
  refine r.idx (by omega) (by omega) fun a _ hc => ?_
  rw [Int.toNat_natCast] at hc ⊢
  exact ⟨_, _, _, _, _, _, _, _, _, _, _, _, hc 0 (by decide), hc 1 (by decide), hc 2 (by decide), hc 3 (by decide), hc 4 (by decide), hc 5 (by decide), hc 6 (by decide), hc 7 (by decide), hq⟩
theorem ldOI {h : Hp} {p : OA} {n : Nat} {l : List Int} {i : Int} {i' : Nat} {Q : Int → Prop} (r : RdT (tI 3) h p n l) (ei : i = (i' : Int)) (h1 : i' < n) (hq : Q (l.getD i' (tI 3).d)) :
    (0 ≤ i ∧ i < (n : Int)) ∧ NN p fun a => ∃ x, cell h (a.add (Int.toNat i * 1)) = some (.int .i64 x) ∧ Q x := by
  subst ei
  exact r.int (by omega) (by omega) (by rw [Int.toNat_natCast]; exact hq)
theorem swOIx {h0 h : Hp} {p : OA} {n c : Nat} {u v : Int} {u' v' : Nat} {xs : List Int} {A F : Bag} {k : Hp → Prop} {X : Prop} (hx : X) (a : Sl (tI 3) p n c xs A) (s : St h0 h (A + F)) (eu : u = (u' : Int)) (ev : v = (v' : Int)) (hu1 : u' < n) (hv1 : v' < n)
    (hk : ∀ h' A', Sl (tI 3) p n c (swapL (tI 3).d xs u' v') A' → St h0 h' (A' + F) → k h') :
    (0 ≤ v ∧ v < (n : Int)) ∧ NN p fun a1 => ∃ n1, cell h (a1.add (Int.toNat v * 1)) = some (.int .i64 n1) ∧ X ∧ (0 ≤ u ∧ u < (n : Int)) ∧ NN p fun a2 => ∃ n2, cell h (a2.add (Int.toNat u * 1)) = some (.int .i64 n2) ∧
      (0 ≤ u ∧ u < (n : Int)) ∧ NN p fun a3 => Wr h (a3.add (Int.toNat u * 1)) (.int .i64 n1) fun h1 => (0 ≤ v ∧ v < (n : Int)) ∧ NN p fun a4 => Wr h1 (a4.add (Int.toNat v * 1)) (.int .i64 n2) k := by
  subst eu ev
  have r := a.rd s
  refine ldOI r rfl hv1 ⟨hx, ldOI r rfl hu1 ?_⟩
  refine a.wrI (x := xs.getD v' (tI 3).d) s (by omega) (by omega) rfl rfl fun h1 A1 a1 s1 => ?_
  refine a1.wrI (x := xs.getD u' (tI 3).d) s1 (by omega) (by omega) rfl rfl fun h2 A2 a2 s2 => ?_
  rw [Int.toNat_natCast, Int.toNat_natCast] at a2
  exact hk h2 A2 a2 s2
theorem swOI {h0 h : Hp} {p : OA} {n c : Nat} {u v : Int} {u' v' : Nat} {xs : List Int} {A F : Bag} {k : Hp → Prop} (a : Sl (tI 3) p n c xs A) (s : St h0 h (A + F)) (eu : u = (u' : Int)) (ev : v = (v' : Int)) (hu1 : u' < n) (hv1 : v' < n)
    (hk : ∀ h' A', Sl (tI 3) p n c (swapL (tI 3).d xs u' v') A' → St h0 h' (A' + F) → k h') :
    (0 ≤ v ∧ v < (n : Int)) ∧ NN p fun a1 => ∃ n1, cell h (a1.add (Int.toNat v * 1)) = some (.int .i64 n1) ∧ (0 ≤ u ∧ u < (n : Int)) ∧ NN p fun a2 => ∃ n2, cell h (a2.add (Int.toNat u * 1)) = some (.int .i64 n2) ∧
      (0 ≤ u ∧ u < (n : Int)) ∧ NN p fun a3 => Wr h (a3.add (Int.toNat u * 1)) (.int .i64 n1) fun h1 => (0 ≤ v ∧ v < (n : Int)) ∧ NN p fun a4 => Wr h1 (a4.add (Int.toNat v * 1)) (.int .i64 n2) k := by
  subst eu ev
  have r := a.rd s
  refine ldOI r rfl hv1 (ldOI r rfl hu1 ?_)
  refine a.wrI (x := xs.getD v' (tI 3).d) s (by omega) (by omega) rfl rfl fun h1 A1 a1 s1 => ?_
  refine a1.wrI (x := xs.getD u' (tI 3).d) s1 (by omega) (by omega) rfl rfl fun h2 A2 a2 s2 => ?_
  rw [Int.toNat_natCast, Int.toNat_natCast] at a2
  exact hk h2 A2 a2 s2
theorem ordI : OrdP (fun x y : Int => x < y) := ⟨fun x y h => by omega, fun x y z h1 h2 => by omega⟩
abbrev OutOI (h0 : Hp) (p : OA) (n cp a b : Nat) (xs : List Int) (F : Bag) (h' : Hp) (Q : List Int → Prop) : Prop := ∃ ys A', Sl (tI 3) p n cp ys A' ∧ St h0 h' (A' + F) ∧ Swp (tI 3).d a b xs ys ∧ Q ys
theorem yahf {h0 h : Hp} {p : OA} {n cp a' b' : Nat} {a b : Int} {xs : List Int} {A F : Bag} {P : Int → Prop} (s : St h0 h (A + F)) (o : Sl (tI 3) p n cp xs A) (hP : ∀ k, k < n → P (xs.getD k (tI 3).d)) (ea : a = (a' : Int)) (eb : b = (b' : Int)) (ha : a' ≤ n) (hb : b' ≤ n) (hn : n < 1000000) :
    yaae Tryz.prog 153 #[.slice p n cp, .int .i64 a, .int .i64 b] h (fun v h' => v = .tuple #[] ∧ OutOI h0 p n cp a' b' xs F h' (SrtR (tI 3).d (fun x y : Int => x < y) a' b')) := by
  subst ea eb
  have hl0 := o.len
  refine zee_call ?_
  rw [zee_b0]
  refine ⟨⟨by omega, by omega⟩, fun i h1 => ∃ i' : Nat, i.1 = i' ∧ a' + 1 ≤ i' ∧ OutOI h0 p n cp a' b' xs F h1 (SrtR (tI 3).d (fun x y : Int => x < y) a' i'), fun i _ => (b' - i.1).toNat, ⟨a' + 1, rfl, Nat.le_refl _, xs, A, o, s, .refl _, yaht (by omega)⟩, ?_⟩
  rintro ⟨_, _⟩ h1 ⟨i', rfl, hi, ys, A1, o, s, w, hs⟩
  dsimp only
  rw [zee_b1]
  refine condP (fun hlt => ?_) (fun hge => ⟨rfl, ys, A1, o, s, w, SrtR.mono hs (Nat.le_refl _) (by omega)⟩)
  refine ⟨fun j h2 => ∃ j' : Nat, j.1 = j' ∧ a' ≤ j' ∧ j' ≤ i' ∧ OutOI h0 p n cp a' b' xs F h2 (InsR (tI 3).d (fun x y : Int => x < y) a' j' i'), fun j _ => j.1.toNat, ⟨i', rfl, by omega, by omega, ys, A1, o, s, w, yaia hs⟩, ?_⟩
  clear hs w s o ys
  rintro ⟨_, _⟩ h2 ⟨j', rfl, hj1, hj2, ys, A1, o, s, w, hs⟩
  dsimp only
  have hl := o.len
  have hP := w.allN hl0 hP
  have fin : ∀ h3, St h0 h3 (A1 + F) → (a' < j' → ¬ (fun x y : Int => x < y) (ys.getD j' (tI 3).d) (ys.getD (j' - 1) (tI 3).d)) → zee_b4 p n cp a' b' i' h3 (fun s' h' => (∃ i' : Nat, s'.1 = i' ∧ a' + 1 ≤ i' ∧ OutOI h0 p n cp a' b' xs F h' (SrtR (tI 3).d (fun x y : Int => x < y) a' i')) ∧ (b' - s'.1).toNat < (b' - (i' : Int)).toNat) (fun v h' => v = .tuple #[] ∧ OutOI h0 p n cp a' b' xs F h' (SrtR (tI 3).d (fun x y : Int => x < y) a' b')) := by
    intro h3 s hx
    rw [zee_b4]
    exact ⟨⟨by omega, by omega⟩, ⟨i' + 1, by push_cast; rfl, by omega, ys, A1, o, s, w, yarv ordI hj1 hs hx⟩, by omega⟩
  rw [zee_b2]
  refine condP (fun hj => ?_) (fun hj => fin _ s fun h => by omega)
  have r := o.rd s
  refine ldOI (i' := j') r rfl (by omega) ⟨⟨by omega, by omega⟩, ldOI (i' := j' - 1) r (by omega) (by omega) ?_⟩
  refine ⟨_, (yacn _ _ _).mono fun v9 h9 ⟨hh9, hv9⟩ => ⟨hv9, hh9⟩, ?_⟩
  refine condP (fun hc => ?_) (fun hc => fin _ s fun _ => hc)
  rw [zee_b3]
  refine ⟨⟨by omega, by omega⟩, ⟨by omega, by omega⟩, ?_⟩
  refine swOI (u' := j') (v' := j' - 1) o s rfl (by omega) (by omega) (by omega) fun h6 A6 o6 s6 => ?_
  rw [zee_b5]
  exact ⟨⟨by omega, by omega⟩, ⟨j' - 1, by omega, by omega, by omega, _, A6, o6, s6, .step w (by omega) (by omega) (by omega) (by omega) (by omega), yapj ordI (by omega) hj2 (by omega) hs hc⟩, by omega⟩
theorem yake {h0 h : Hp} {p : OA} {n cp lo' hi' f' : Nat} {lo hi f : Int} {xs : List Int} {A F : Bag} {P : Int → Prop} (s : St h0 h (A + F)) (o : Sl (tI 3) p n cp xs A) (hP : ∀ k, k < n → P (xs.getD k (tI 3).d)) (el : lo = (lo' : Int)) (eh : hi = (hi' : Int)) (ef : f = (f' : Int)) (hf : f' + hi' ≤ n) (hlo : lo' ≤ n) (hn : n < 1000000)
    (hx : HeapX (tI 3).d (fun x y : Int => x < y) f' lo' hi' lo' xs) :
    yaae Tryz.prog 168 #[.slice p n cp, .int .i64 lo, .int .i64 hi, .int .i64 f] h (fun v h' => v = .tuple #[] ∧ OutOI h0 p n cp (f' + lo') (f' + hi') xs F h' (HeapR (tI 3).d (fun x y : Int => x < y) f' lo' hi')) := by
  subst el eh ef
  have hl0 := o.len
  refine zeo_call ?_
  rw [zeo_b0]
  refine ⟨fun i h1 => ∃ r : Nat, i.1 = r ∧ lo' ≤ r ∧ r ≤ n ∧ OutOI h0 p n cp (f' + lo') (f' + hi') xs F h1 (HeapX (tI 3).d (fun x y : Int => x < y) f' lo' hi' r), fun i _ => (hi' - i.1).toNat, ⟨lo', rfl, Nat.le_refl _, hlo, xs, A, o, s, .refl _, hx⟩, ?_⟩
  rintro ⟨_, _⟩ h1 ⟨r, rfl, hr, hrn, ys, A1, o, s, w, hs⟩
  dsimp only
  have hl := o.len
  have hP := w.allN hl0 hP
  rw [zeo_b1]
  refine ⟨⟨by omega, by omega⟩, ⟨by omega, by omega⟩, condP (fun hle => ⟨rfl, ys, A1, o, s, w, yanm hs fun c h1 h2 => by omega⟩) (fun hle => ⟨⟨by omega, by omega⟩, ?_⟩)⟩
  have fin : ∀ (ch : Nat) (h3 : Hp) (ci : Int), ci = (ch : Int) → St h0 h3 (A1 + F) → (ch = 2 * r + 1 ∨ ch = 2 * r + 2) → ch < hi' → (∀ c, (c = 2 * r + 1 ∨ c = 2 * r + 2) → c < hi' → ¬ (fun x y : Int => x < y) (ys.getD (f' + ch) (tI 3).d) (ys.getD (f' + c) (tI 3).d)) →
      zeo_b2 p n cp hi' f' r ci h3 (fun s' h' => (∃ r : Nat, s'.1 = r ∧ lo' ≤ r ∧ r ≤ n ∧ OutOI h0 p n cp (f' + lo') (f' + hi') xs F h' (HeapX (tI 3).d (fun x y : Int => x < y) f' lo' hi' r)) ∧ (hi' - s'.1).toNat < (hi' - (r : Int)).toNat) (fun v h' => v = .tuple #[] ∧ OutOI h0 p n cp (f' + lo') (f' + hi') xs F h' (HeapR (tI 3).d (fun x y : Int => x < y) f' lo' hi')) := by
    rintro ch h3 _ rfl s hc1 hc2 hmax
    rw [zeo_b2]
    have rd := o.rd s
    refine ⟨⟨by omega, by omega⟩, ldOI (i' := f' + r) rd (by omega) (by omega) ⟨⟨by omega, by omega⟩, ldOI (i' := f' + ch) rd (by omega) (by omega) ?_⟩⟩
    refine ⟨_, (yacn _ _ _).mono fun v9 h9 ⟨hh9, hv9⟩ => ⟨hv9, hh9⟩, ?_⟩
    refine condN (fun hc => ⟨rfl, ys, A1, o, s, w, yanm hs fun c k1 k2 k3 => ordI.trans _ _ _ (hmax c k1 k2) hc k3⟩) (fun hc => ⟨⟨by omega, by omega⟩, ⟨by omega, by omega⟩, ⟨by omega, by omega⟩, ?_⟩)
    refine swOIx ⟨by omega, by omega⟩ (u' := f' + r) (v' := f' + ch) o s (by omega) (by omega) (by omega) (by omega) fun h6 A6 o6 s6 => ?_
    exact ⟨⟨ch, rfl, by omega, by omega, _, A6, o6, s6, .step (i := f' + r) (j := f' + ch) w (by omega) (by omega) (by omega) (by omega) (by omega), yaui ordI hs hc1 hc2 (by omega) hc hmax hr⟩, by omega⟩
  refine condP (fun h2 => ?_) (fun h2 => fin (2 * r + 1) _ _ (by omega) s (.inl rfl) (by omega) fun c k1 k2 => ?_)
  · have rd := o.rd s
    refine ⟨⟨by omega, by omega⟩, ldOI (i' := f' + (2 * r + 1)) rd (by omega) (by omega) ⟨⟨by omega, by omega⟩, ⟨by omega, by omega⟩, ldOI (i' := f' + (2 * r + 2)) rd (by omega) (by omega) ?_⟩⟩
    refine ⟨_, (yacn _ _ _).mono fun v9 h9 ⟨hh9, hv9⟩ => ⟨hv9, hh9⟩, ?_⟩
    refine condP (fun hc => ⟨⟨by omega, by omega⟩, fin (2 * r + 2) _ _ (by push_cast; rfl) s (.inr rfl) (by omega) fun c k1 k2 => ?_⟩) (fun hc => fin (2 * r + 1) _ _ (by omega) s (.inl rfl) (by omega) fun c k1 k2 => ?_)
    · rcases k1 with rfl | rfl
      · exact ordI.asymm _ _ hc
      · exact ordI.irr _
    · rcases k1 with rfl | rfl
      · exact ordI.irr _
      · exact hc
  · rcases k1 with rfl | rfl
    · exact ordI.irr _
    · omega
theorem yari {h0 h : Hp} {p : OA} {n cp a' b' : Nat} {a b : Int} {xs : List Int} {A F : Bag} {P : Int → Prop} (s : St h0 h (A + F)) (o : Sl (tI 3) p n cp xs A) (hP : ∀ k, k < n → P (xs.getD k (tI 3).d)) (ea : a = (a' : Int)) (eb : b = (b' : Int)) (hab : a' < b') (hb : b' ≤ n) (hn : n < 1000000) :
    yaae Tryz.prog 154 #[.slice p n cp, .int .i64 a, .int .i64 b] h (fun v h' => v = .tuple #[] ∧ OutOI h0 p n cp a' b' xs F h' (SrtR (tI 3).d (fun x y : Int => x < y) a' b')) := by
  subst ea eb
  have hl0 := o.len
  refine zed_call ?_
  rw [zed_b0]
  refine ⟨⟨by omega, by omega⟩, ⟨by omega, by omega⟩, yaco (by omega) (by omega) (by omega) ?_⟩
  obtain ⟨q, hq⟩ : ∃ q : Nat, ((b' : Int) - a' - 1) / 2 + 1 = q := ⟨(((b' : Int) - a' - 1) / 2 + 1).toNat, by omega⟩
  refine ⟨fun i h1 => ∃ m : Nat, i.1 = (m : Int) - 1 ∧ m ≤ b' - a' ∧ OutOI h0 p n cp a' b' xs F h1 (HeapR (tI 3).d (fun x y : Int => x < y) a' m (b' - a')), fun i _ => (i.1 + 1).toNat, ⟨q, by show _ / _ = _; omega, by omega, xs, A, o, s, .refl _, fun k c k1 k2 k3 => by omega⟩, ?_⟩
  rintro ⟨_, _⟩ h1 ⟨m, rfl, hm, ys, A1, o, s, w, hs⟩
  dsimp only
  have hl := o.len
  have hPy := w.allN hl0 hP
  rw [zed_b1]
  refine condP (fun hi => ?_) (fun hi => ?_)
  · refine (yake  s o hPy (lo' := m - 1) (hi' := b' - a') (f' := a') (by omega) (by omega) rfl (by omega) (by omega) hn ⟨fun k c k1 k2 k3 k4 => hs k c (by omega) k2 k3, fun k c k1 k2 => by omega⟩).mono fun v h2 ⟨hv, zs, A2, o2, s2, w2, hs2⟩ => ⟨hv, ?_⟩
    rw [zed_b2]
    exact ⟨⟨by omega, by omega⟩, ⟨m - 1, by omega, by omega, zs, A2, o2, s2, w.trans (w2.mono (by omega) (by omega) (by omega)).1, hs2⟩, by omega⟩
  · obtain rfl : m = 0 := by omega
    rw [zed_b3]
    refine ⟨⟨by omega, by omega⟩, ?_⟩
    refine ⟨fun i h1 => ∃ m : Nat, i.1 = (m : Int) - 1 ∧ m ≤ b' - a' ∧ OutOI h0 p n cp a' b' xs F h1 (fun ys => HeapR (tI 3).d (fun x y : Int => x < y) a' 0 m ys ∧ OutR (tI 3).d (fun x y : Int => x < y) a' b' a' (a' + m) ys), fun i _ => (i.1 + 1).toNat, ⟨b' - a', by show (_ : Int) - 1 = _; omega, by omega, ys, A1, o, s, w, hs, by rw [show a' + (b' - a') = b' by omega]; exact yaje⟩, ?_⟩
    clear hs w s o hl hPy ys
    rintro ⟨_, _⟩ h2 ⟨m, rfl, hm, ys, A1, o, s, w, hs, ho2⟩
    dsimp only
    have hl := o.len
    rw [zed_b4]
    refine condP (fun hi => ⟨⟨by omega, by omega⟩, ⟨by omega, by omega⟩, ?_⟩) (fun hi => ?_)
    · refine swOI (u' := a') (v' := a' + (m - 1)) o s rfl (by omega) (by omega) (by omega) fun h6 A6 o6 s6 => ?_
      have w1 : Swp (tI 3).d a' (a' + m) ys (swapL (tI 3).d ys a' (a' + (m - 1))) := .one (by omega) (by omega) (by omega) (by omega) (by omega)
      have w6 := w.trans (w1.mono (Nat.le_refl _) (by omega) (by omega)).1
      have hg : ∀ k, (swapL (tI 3).d ys a' (a' + (m - 1))).getD k (tI 3).d = if k = a' + (m - 1) then ys.getD a' (tI 3).d else if k = a' then ys.getD (a' + (m - 1)) (tI 3).d else ys.getD k (tI 3).d := yaay (by omega) (by omega)
      have ho6 : OutR (tI 3).d (fun x y : Int => x < y) a' b' a' (a' + (m - 1)) (swapL (tI 3).d ys a' (a' + (m - 1))) := by
        intro p q k1 k2 k3 k4
        by_cases hq : q = a' + (m - 1)
        · rw [hq, hg, if_pos rfl]
          exact w1.all (P := fun x => ¬ (fun x y : Int => x < y) (ys.getD a' (tI 3).d) x) (fun k j1 j2 => by
            have := yaxx ordI hs (k - a') (by omega)
            rwa [show a' + (k - a') = k by omega] at this) p k1 (by omega)
        · exact yacr (Nat.le_refl _) (by omega) ho2 w1 p q k1 k2 k3 (by omega)
      generalize swapL (tI 3).d ys a' (a' + (m - 1)) = us at *
      refine (yake  s6 o6 (w6.allN hl0 hP) (lo' := 0) (hi' := m - 1) (f' := a') (by rfl) (by omega) rfl (by omega) (by omega) hn ⟨fun k c k1 k2 k3 k4 => ?_, fun k c k1 k2 => by omega⟩).mono fun v h2 ⟨hv, zs, A2, o2, s2, w2, hs2⟩ => ⟨hv, ?_⟩
      · rw [hg, hg, if_neg (by omega), if_neg (by omega), if_neg (by omega), if_neg (by omega)]
        exact hs k c (by omega) k2 (by omega)
      · rw [zed_b5]
        exact ⟨⟨by omega, by omega⟩, ⟨m - 1, by omega, by omega, zs, A2, o2, s2, w6.trans (w2.mono (by omega) (by omega) (by rw [w6.len]; omega)).1, hs2, yacr (Nat.le_refl _) (by omega) ho6 w2⟩, by omega⟩
    · obtain rfl : m = 0 := by omega
      exact ⟨rfl, ys, A1, o, s, w, yamj ho2 (yaht (by omega))⟩
theorem yahs {h0 h : Hp} {p : OA} {n cp a' b' : Nat} {a b : Int} {xs : List Int} {A F : Bag} (s : St h0 h (A + F)) (o : Sl (tI 3) p n cp xs A) (ea : a = (a' : Int)) (eb : b = (b' : Int)) (hab : a' ≤ b') (hb : b' ≤ n) (hn : n < 1000000) :
    yaae Tryz.prog 157 #[.slice p n cp, .int .i64 a, .int .i64 b] h (fun v h' => v = .tuple #[] ∧ OutOI h0 p n cp a' b' xs F h' fun _ => True) := by
  subst ea eb
  have hl0 := o.len
  refine zen_call ?_
  rw [zen_b0]
  refine ⟨⟨by omega, by omega⟩, fun i h1 => ∃ i' : Nat, i.1 = i' ∧ a' ≤ i' ∧ i.2.1 < b' ∧ i' ≤ n ∧ -1 ≤ i.2.1 ∧ OutOI h0 p n cp a' b' xs F h1 fun _ => True, fun i _ => (i.2.1 - i.1).toNat, ⟨a', rfl, Nat.le_refl _, by show (_ : Int) - 1 < _; omega, by omega, by show -1 ≤ (_ : Int) - 1; omega, xs, A, o, s, .refl _, trivial⟩, ?_⟩
  rintro ⟨_, j, _⟩ h1 ⟨i', rfl, hi, hj, hin, hj1, ys, A1, o, s, w, _⟩
  dsimp only at hj hj1 ⊢
  have hl := o.len
  rw [zen_b1]
  refine condP (fun hlt => ?_) (fun hlt => ⟨rfl, ys, A1, o, s, w, trivial⟩)
  refine swOI (u' := i') (v' := j.toNat) o s rfl (by omega) (by omega) (by omega) fun h6 A6 o6 s6 => ?_
  exact ⟨⟨by omega, by omega⟩, ⟨by omega, by omega⟩, ⟨i' + 1, by push_cast; rfl, by omega, by show j - 1 < _; omega, by omega, by show -1 ≤ j - 1; omega, _, A6, o6, s6, .step w (by omega) (by omega) (by omega) (by omega) (by omega), trivial⟩, by dsimp only; omega⟩
def blen (x : Nat) : Nat := if x = 0 then 0 else x.log2 + 1
theorem yagy {x k : Nat} (h : 2 ^ k ≤ x) : blen x = blen (x / 2 ^ k) + k := by
  have hp : 0 < 2 ^ k := Nat.two_pow_pos k
  have hx : x ≠ 0 := by omega
  have hq : x / 2 ^ k ≠ 0 := by have := Nat.div_pos h hp; omega
  unfold blen
  rw [if_neg hx, if_neg hq]
  have : x.log2 = (x / 2 ^ k).log2 + k := by
    rw [Nat.log2_eq_iff hx]
    have h1 := Nat.log2_self_le hq
    have h2 := @Nat.lt_log2_self (x / 2 ^ k)
    constructor
    · rw [Nat.pow_add]
      exact Nat.le_trans (Nat.mul_le_mul_right _ h1) (Nat.div_mul_le_self _ _)
    · rw [show (x / 2 ^ k).log2 + k + 1 = ((x / 2 ^ k).log2 + 1) + k by omega, Nat.pow_add]
      exact (Nat.div_lt_iff_lt_mul hp).1 h2
  omega
theorem yarw {x k : Nat} (h : x < 2 ^ k) : blen x ≤ k := by
  unfold blen
  split
  · omega
  · rename_i hx
    have h1 := Nat.log2_self_le hx
    have : 2 ^ x.log2 < 2 ^ k := Nat.lt_of_le_of_lt h1 h
    have := (Nat.pow_lt_pow_iff_right (by decide : 1 < 2)).1 this
    omega
theorem yaxy {s : ByteArray} {m : Nat} {nv : Int} {h : Hp} {K : VK} (hz : s.size = 256) (hs : ∀ n, n < 256 → (s.data.toList.getD n 0).toNat = blen n) (hm : m < 256) (h0 : 0 ≤ nv) (h1 : nv < 1000)
    (hk : K (.int .i64 (nv + (blen m : Nat))) h) : (0 ≤ IntKind.u8.wrap (m : Int) ∧ IntKind.u8.wrap (m : Int) < (s.size : Int)) ∧ InR (((s.data.toList.getD (Int.toNat (IntKind.u8.wrap (m : Int))) 0).toNat : Int)) ∧
      InR (nv + (((s.data.toList.getD (Int.toNat (IntKind.u8.wrap (m : Int))) 0).toNat : Int))) ∧ K (.int .i64 (nv + (((s.data.toList.getD (Int.toNat (IntKind.u8.wrap (m : Int))) 0).toNat : Int)))) h := by
  have hw : IntKind.u8.wrap (m : Int) = m := yaqy _ (by omega) (by omega)
  have hb : blen m ≤ 8 := yarw (by omega)
  rw [hw, show ((m : Nat) : Int).toNat = m by simp, hs m hm, hz]
  exact ⟨⟨by omega, by omega⟩, ⟨by omega, by omega⟩, ⟨by omega, by omega⟩, hk⟩
theorem yavt (x : Nat) (hx : x < 18446744073709551616) (h : Hp) : yaae Tryz.prog 121 #[.int .u64 (x : Int)] h (fun r h' => r = .int .i64 (blen x : Nat) ∧ h' = h) := by
  refine zbb_call ?_
  have shr : ∀ (y k : Nat), y >>> k = y / 2 ^ k := fun y k => Nat.shiftRight_eq_div_pow y k
  have b3 : ∀ (y : Nat) (nv : Int), y < 256 → 0 ≤ nv → nv < 100 → nv + (blen y : Nat) = (blen x : Nat) → zbb_b3 (y : Int) nv h (fun r h' => r = .int .i64 (blen x : Nat) ∧ h' = h) := by
    intro y nv hy h0 h1 he
    rw [zbb_b3_eq]
    refine yaxy (K := fun r h' => r = .int .i64 (blen x : Nat) ∧ h' = h) ?_ ?_ hy h0 (by omega) ?_
    · decide +kernel
    · decide +kernel
    · rw [he]; exact ⟨rfl, rfl⟩
  have b2 : ∀ (y : Nat) (nv : Int), y < 65536 → 0 ≤ nv → nv < 90 → nv + (blen y : Nat) = (blen x : Nat) → zbb_b2 (y : Int) nv h (fun r h' => r = .int .i64 (blen x : Nat) ∧ h' = h) := by
    intro y nv hy h0 h1 he
    rw [zbb_b2_eq]
    refine condP (fun hc => ?_) (fun hc => b3 y nv (by omega) h0 (by omega) he)
    refine yafq (x := y) (s := 8) rfl rfl (by decide) ⟨⟨by omega, by omega⟩, ?_⟩
    rw [shr]
    have := yagy (x := y) (k := 8) (by omega)
    exact b3 _ _ (by omega) (by omega) (by omega) (by omega)
  have b1 : ∀ (y : Nat) (nv : Int), y < 4294967296 → 0 ≤ nv → nv < 70 → nv + (blen y : Nat) = (blen x : Nat) → zbb_b1 (y : Int) nv h (fun r h' => r = .int .i64 (blen x : Nat) ∧ h' = h) := by
    intro y nv hy h0 h1 he
    rw [zbb_b1_eq]
    refine condP (fun hc => ?_) (fun hc => b2 y nv (by omega) h0 (by omega) he)
    refine yafq (x := y) (s := 16) rfl rfl (by decide) ⟨⟨by omega, by omega⟩, ?_⟩
    rw [shr]
    have := yagy (x := y) (k := 16) (by omega)
    exact b2 _ _ (by omega) (by omega) (by omega) (by omega)
  rw [zbb_b0_eq]
  refine condP (fun hc => ?_) (fun hc => b1 x 0 (by omega) (by omega) (by omega) (by omega))
  refine yafq (x := x) (s := 32) rfl rfl (by decide) ?_
  rw [shr]
  have := yagy (x := x) (k := 32) (by omega)
  exact b1 _ _ (by omega) (by omega) (by omega) (by omega)
theorem yaiz (x : Nat) (hx : x < 18446744073709551616) (h : Hp) : yaae Tryz.prog 82 #[.int .u64 (x : Int)] h (fun r h' => r = .int .i64 (blen x : Nat) ∧ h' = h) := by
  refine zba_call ?_
  rw [zba_b0]
  refine (yavt x hx h).mono fun v h' ⟨hv, hh⟩ => ?_
  exact ⟨_, hv, rfl, hh⟩
theorem yaos {x : Nat} (h : 1 ≤ x) : 2 ^ blen x ≤ 2 * x ∧ x < 2 ^ blen x := by
  unfold blen
  rw [if_neg (by omega)]
  have h1 := Nat.log2_self_le (show x ≠ 0 by omega)
  have h2 := @Nat.lt_log2_self x
  rw [Nat.pow_succ]
  rw [Nat.pow_succ] at h2
  omega
theorem yapg (x : Nat) (h1 : 1 ≤ x) (hx : x < 1000000) (h : Hp) : yaae Tryz.prog 138 #[.int .i64 (x : Int)] h (fun r h' => r = .int .u64 ((2 ^ blen x : Nat) : Int) ∧ h' = h) := by
  refine zeh_call ?_
  rw [zeh_b0, yacu _ (by omega) (by omega)]
  refine (yaiz x (by omega) h).mono fun v h' ⟨hv, hh⟩ => ⟨_, hv, ?_⟩
  have hb := yaos h1
  have hl : blen x ≤ 20 := yarw (by omega)
  refine yaml (x := 1) (s := blen x) rfl rfl (by show blen x ≤ 64; omega) ?_ ⟨?_, hh⟩
  · exact yacu _ (by omega) (by omega)
  · rw [Nat.one_mul]
theorem ybav {h0 h : Hp} {b : Nat} {z : Int} {e : TypeId} {F : Bag} (s : St h0 h (cA b [.int .u64 z] e + F)) : yaae Tryz.prog 139 #[.pointer (some ⟨b, 0, none⟩)] h (fun r h' => ∃ y : Int, r = .int .u64 y ∧ St h0 h' (cA b [.int .u64 y] e + F)) := by
  refine zep_call ?_
  rw [zep_b0]
  refine ⟨_, s.cell 0, _, s.cell 0, _, ⟨by decide, rfl⟩, _, rfl, s.wr (o := 0) rfl Nat.zero_lt_one fun h1 s => ?_⟩
  refine ⟨_, s.cell 0, _, s.cell 0, _, ⟨by decide, rfl⟩, _, rfl, s.wr (o := 0) rfl Nat.zero_lt_one fun h2 s => ?_⟩
  refine ⟨_, s.cell 0, _, s.cell 0, _, ⟨by decide, rfl⟩, _, rfl, s.wr (o := 0) rfl Nat.zero_lt_one fun h3 s => ?_⟩
  exact ⟨_, s.cell 0, _, rfl, s⟩
theorem yazl (r : Int) (m : Nat) (h1 : 1 ≤ m) (hm : m < 10000000) {Q : Int → Prop} (hq : ∀ k : Nat, k < m → Q (k : Int)) : ∃ an1 : Int, Sx.And .u64 r (IntKind.u64.wrap ((m : Int) - 1)) an1 ∧ Q an1 := by
  refine ⟨_, rfl, ?_⟩
  rw [yacu ((m : Int) - 1) (by omega) (by omega)]
  have h2 : ((BitVec.ofInt IntKind.u64.bits r) &&& (BitVec.ofInt IntKind.u64.bits ((m : Int) - 1))).toNat ≤ m - 1 := by
    rw [BitVec.toNat_and]
    refine Nat.le_trans Nat.and_le_right ?_
    rw [show ((m : Int) - 1) = ((m - 1 : Nat) : Int) by omega, BitVec.ofInt_natCast, BitVec.toNat_ofNat]
    exact Nat.mod_le _ _
  rw [yacu _ (by omega) (by omega)]
  exact hq _ (by omega)
theorem yakq {h0 h : Hp} {p : OA} {n cp a' b' sb : Nat} {a b z : Int} {e : TypeId} {xs : List Int} {A F : Bag} {P : Int → Prop} (s : St h0 h (A + (cA sb [.int .i64 z] e + F))) (o : Sl (tI 3) p n cp xs A) (hP : ∀ k, k < n → P (xs.getD k (tI 3).d)) (ea : a = (a' : Int)) (eb : b = (b' : Int)) (ha : a' < n) (hb : b' < n) (hz : 0 ≤ z) (hz1 : z < 1000) :
    yaae Tryz.prog 175 #[.slice p n cp, .int .i64 a, .int .i64 b, .pointer (some ⟨sb, 0, none⟩)] h (fun v h' => ∃ u w z' : Int, v = .tuple #[.int .i64 u, .int .i64 w] ∧ (u = a ∧ w = b ∨ u = b ∧ w = a) ∧ z ≤ z' ∧ z' ≤ z + 1 ∧ St h0 h' (A + (cA sb [.int .i64 z'] e + F))) := by
  subst ea eb
  have hl0 := o.len
  refine zei_call ?_
  rw [zei_b0]
  have r := o.rd s
  refine ldOI (i' := b') r rfl hb (ldOI (i' := a') r rfl ha ?_)
  refine ⟨_, (yacn _ _ _).mono fun v9 h9 ⟨hh9, hv9⟩ => ⟨hv9, hh9⟩, ?_⟩
  refine condP (fun hc => ?_) (fun hc => ⟨_, _, z, rfl, .inl ⟨rfl, rfl⟩, by omega, by omega, s⟩)
  have s := s.to (B := cA sb [.int .i64 z] e + (A + F))
  refine ⟨_, s.cell 0, ⟨by omega, by omega⟩, s.wr (o := 0) rfl Nat.zero_lt_one fun h2 s => ?_⟩
  exact ⟨_, _, z + 1, rfl, .inr ⟨rfl, rfl⟩, by omega, by omega, s.to⟩
theorem yaqd {h0 h : Hp} {p : OA} {n cp sb : Nat} {a b c z : Int} {e : TypeId} {xs : List Int} {A F : Bag} {P : Int → Prop} (s : St h0 h (A + (cA sb [.int .i64 z] e + F))) (o : Sl (tI 3) p n cp xs A) (hP : ∀ k, k < n → P (xs.getD k (tI 3).d)) (ha : 0 ≤ a ∧ a < n) (hb : 0 ≤ b ∧ b < n) (hc : 0 ≤ c ∧ c < n) (hz : 0 ≤ z) (hz1 : z < 900) :
    yaae Tryz.prog 170 #[.slice p n cp, .int .i64 a, .int .i64 b, .int .i64 c, .pointer (some ⟨sb, 0, none⟩)] h (fun v h' => ∃ u z' : Int, v = .int .i64 u ∧ (u = a ∨ u = b ∨ u = c) ∧ z ≤ z' ∧ z' ≤ z + 3 ∧ St h0 h' (A + (cA sb [.int .i64 z'] e + F))) := by
  refine zeg_call ?_
  rw [zeg_b0]
  refine (yakq  s o hP (a' := a.toNat) (b' := b.toNat) (by omega) (by omega) (by omega) (by omega) hz (by omega)).mono fun v1 h1 ⟨u1, w1, z1, hv1, hu1, g1, g2, s⟩ => ⟨_, _, hv1, ?_⟩
  refine (yakq  s o hP (a' := w1.toNat) (b' := c.toNat) (by omega) (by omega) (by omega) (by omega) (by omega) (by omega)).mono fun v2 h2 ⟨u2, w2, z2, hv2, hu2, g3, g4, s⟩ => ⟨_, _, hv2, ?_⟩
  refine (yakq  s o hP (a' := u1.toNat) (b' := u2.toNat) (by omega) (by omega) (by omega) (by omega) (by omega) (by omega)).mono fun v3 h3 ⟨u3, w3, z3, hv3, hu3, g5, g6, s⟩ => ⟨_, _, hv3, ?_⟩
  exact ⟨_, z3, rfl, by omega, by omega, by omega, s⟩
theorem yacj {h0 h : Hp} {p : OA} {n cp sb : Nat} {a z : Int} {e : TypeId} {xs : List Int} {A F : Bag} {P : Int → Prop} (s : St h0 h (A + (cA sb [.int .i64 z] e + F))) (o : Sl (tI 3) p n cp xs A) (hP : ∀ k, k < n → P (xs.getD k (tI 3).d)) (ha : 1 ≤ a ∧ a + 1 < n) (hn : n < 1000000) (hz : 0 ≤ z) (hz1 : z < 900) :
    yaae Tryz.prog 169 #[.slice p n cp, .int .i64 a, .pointer (some ⟨sb, 0, none⟩)] h (fun v h' => ∃ u z' : Int, v = .int .i64 u ∧ (a - 1 ≤ u ∧ u ≤ a + 1) ∧ z ≤ z' ∧ z' ≤ z + 3 ∧ St h0 h' (A + (cA sb [.int .i64 z'] e + F))) := by
  refine zef_call ?_
  rw [zef_b0]
  refine ⟨⟨by omega, by omega⟩, ⟨by omega, by omega⟩, (yaqd  s o hP (by omega) (by omega) (by omega) hz hz1).mono fun v1 h1 ⟨u, z', hv, hu, g1, g2, s⟩ => ⟨_, hv, _, z', rfl, by omega, g1, g2, s⟩⟩
theorem yajg {h0 h : Hp} {p : OA} {n cp a' b' : Nat} {a b : Int} {xs : List Int} {A F : Bag} {P : Int → Prop} (s : St h0 h (A + F)) (o : Sl (tI 3) p n cp xs A) (hP : ∀ k, k < n → P (xs.getD k (tI 3).d)) (ea : a = (a' : Int)) (eb : b = (b' : Int)) (hab : a' < b') (hb : b' ≤ n) (hn : n < 1000000) :
    yaae Tryz.prog 156 #[.slice p n cp, .int .i64 a, .int .i64 b] h (fun v h' => ∃ u hint : Int, v = .tuple #[.int .i64 u, .int .i64 hint] ∧ a ≤ u ∧ u < b ∧ St h0 h' (A + F)) := by
  subst ea eb
  refine zec_call ?_
  rw [zec_b0]
  refine ⟨⟨by omega, by omega⟩, s.new (cs := [.int .i64 0]) fun sb h1 _ s => ?_⟩
  have s := s.to (B := A + (cA sb [.int .i64 0] 3 + F))
  have b2 : ∀ (u z : Int) (h' : Hp), a' ≤ u → u < b' → St h0 h' (A + (cA sb [.int .i64 z] 3 + F)) → zec_b2 (some ⟨sb, 0, none⟩) u h' (fun v h' => ∃ u hint : Int, v = .tuple #[.int .i64 u, .int .i64 hint] ∧ (a' : Int) ≤ u ∧ u < b' ∧ St h0 h' (A + F)) := by
    intro u z h' h1 h2 s
    rw [zec_b2]
    have s := s.to (B := cA sb [.int .i64 z] 3 + (A + F))
    exact ⟨_, s.cell 0, condP (fun _ => ⟨_, _, rfl, h1, h2, s.drop⟩) fun _ => condP (fun _ => ⟨_, _, rfl, h1, h2, s.drop⟩) fun _ => ⟨_, _, rfl, h1, h2, s.drop⟩⟩
  have b1 : ∀ (u v w z : Int) (h' : Hp), (a' ≤ u ∧ u < b') → (a' ≤ v ∧ v < b') → (a' ≤ w ∧ w < b') → 0 ≤ z → z < 100 → St h0 h' (A + (cA sb [.int .i64 z] 3 + F)) → zec_b1 p n cp (some ⟨sb, 0, none⟩) u v w h' (fun v h' => ∃ u hint : Int, v = .tuple #[.int .i64 u, .int .i64 hint] ∧ (a' : Int) ≤ u ∧ u < b' ∧ St h0 h' (A + F)) := by
    intro u v w z h' h1 h2 h3 hz hz1 s
    rw [zec_b1]
    refine (yaqd  s o hP (by omega) (by omega) (by omega) hz (by omega)).mono fun v1 h1 ⟨u, z', hv, hu, g1, g2, s⟩ => ⟨_, hv, ?_⟩
    exact b2 _ _ _ (by omega) (by omega) s
  refine yaco (by omega) (by omega) (by omega) ⟨⟨by omega, by omega⟩, ⟨by omega, by omega⟩, ?_⟩
  refine yaco (by omega) (by omega) (by omega) ⟨⟨by omega, by omega⟩, ⟨by omega, by omega⟩, ?_⟩
  refine yaco (by omega) (by omega) (by omega) ⟨⟨by omega, by omega⟩, ⟨by omega, by omega⟩, ?_⟩
  refine condP (fun h8 => ?_) (fun h8 => b2 _ _ _ (by omega) (by omega) s)
  refine condP (fun h50 => ?_) (fun h50 => b1 _ _ _ _ _ (by omega) (by omega) (by omega) (by omega) (by omega) s)
  refine (yacj  s o hP (by omega) hn (by omega) (by omega)).mono fun v1 h1 ⟨u1, z1, hv, hu, g1, g2, s⟩ => ⟨_, hv, ?_⟩
  refine (yacj  s o hP (by omega) hn (by omega) (by omega)).mono fun v1 h1 ⟨u2, z2, hv, hu, g3, g4, s⟩ => ⟨_, hv, ?_⟩
  refine (yacj  s o hP (by omega) hn (by omega) (by omega)).mono fun v1 h1 ⟨u3, z3, hv, hu, g5, g6, s⟩ => ⟨_, hv, ?_⟩
  exact b1 _ _ _ _ _ (by omega) (by omega) (by omega) (by omega) (by omega) s
theorem yahd {h0 h : Hp} {p : OA} {n cp a' b' : Nat} {a b : Int} {xs : List Int} {A F : Bag} (s : St h0 h (A + F)) (o : Sl (tI 3) p n cp xs A) (ea : a = (a' : Int)) (eb : b = (b' : Int)) (hab : a' ≤ b') (hb : b' ≤ n) (hn : n < 1000000) :
    yaae Tryz.prog 155 #[.slice p n cp, .int .i64 a, .int .i64 b] h (fun v h' => v = .tuple #[] ∧ OutOI h0 p n cp a' b' xs F h' fun _ => True) := by
  subst ea eb
  have hl0 := o.len
  refine zeb_call ?_
  rw [zeb_b0]
  refine ⟨⟨by omega, by omega⟩, condP (fun h8 => ?_) (fun h8 => ⟨rfl, xs, A, o, s, .refl _, trivial⟩)⟩
  refine s.new (cs := [.int .u64 0]) fun rb h1 _ s => ?_
  refine s.wr (o := 0) rfl Nat.zero_lt_one fun h2 s => ?_
  rw [show ((b' : Int) - a') = ((b' - a' : Nat) : Int) by omega]
  refine (yapg (b' - a') (by omega) (by omega) h2).mono fun v h3 ⟨hv, hh⟩ => ⟨_, hv, ?_⟩
  subst hh
  have hm := yaos (x := b' - a') (by omega)
  generalize 2 ^ blen (b' - a') = m at *
  refine yaco (by omega) (by omega) (by omega) ⟨⟨by omega, by omega⟩, ⟨by omega, by omega⟩, ⟨by omega, by omega⟩, ?_⟩
  obtain ⟨q, hq⟩ : ∃ q : Nat, ((b' - a' : Nat) : Int) / 4 = q := ⟨(b' - a') / 4, by omega⟩
  rw [hq]
  refine ⟨fun i h1 => ∃ (i' : Nat) (z : Int), i.1 = i' ∧ a' ≤ i' ∧ ∃ ys A1, Sl (tI 3) p n cp ys A1 ∧ St h0 h1 (cA rb [.int .u64 z] 162 + (A1 + F)) ∧ Swp (tI 3).d a' b' xs ys, fun i _ => (b' - i.1).toNat, ⟨a' + 2 * q - 1, _, by show (_ : Int) - 1 = _; omega, by omega, xs, A, o, s, .refl _⟩, ?_⟩
  rintro ⟨_, _⟩ h1 ⟨i', z, rfl, hi, ys, A1, o, s, w⟩
  dsimp only
  have hl := o.len
  rw [zeb_b1]
  refine yaco (by omega) (by omega) (by omega) ?_
  rw [hq]
  refine ⟨⟨by omega, by omega⟩, ⟨by omega, by omega⟩, ⟨by omega, by omega⟩, condP (fun hlt => ?_) (fun hlt => ⟨rfl, ys, A1, o, s.drop, w, trivial⟩)⟩
  refine (ybav s).mono fun v h3 ⟨y, hv, s⟩ => ⟨_, hv, yazl y m (by omega) (by omega) fun k hk => ⟨⟨by omega, by omega⟩, ?_⟩⟩
  have fin : ∀ u : Nat, u < b' - a' → zeb_b2 p n cp a' ((b' - a' : Nat) : Int) (some ⟨rb, 0, none⟩) m i' u h3 (fun s' h' => (∃ (i' : Nat) (z : Int), s'.1 = i' ∧ a' ≤ i' ∧ ∃ ys A1, Sl (tI 3) p n cp ys A1 ∧ St h0 h' (cA rb [.int .u64 z] 162 + (A1 + F)) ∧ Swp (tI 3).d a' b' xs ys) ∧ (b' - s'.1).toNat < (b' - (i' : Int)).toNat) (fun v h' => v = .tuple #[] ∧ OutOI h0 p n cp a' b' xs F h' fun _ => True) := by
    intro u hu
    rw [zeb_b2]
    have s := s.to (B := A1 + (cA rb [.int .u64 y] 162 + F))
    refine ⟨⟨by omega, by omega⟩, ⟨by omega, by omega⟩, swOI (u' := i') (v' := a' + u) o s rfl (by push_cast; rfl) (by omega) (by omega) fun h6 A6 o6 s6 => ?_⟩
    rw [zeb_b3]
    exact ⟨⟨by omega, by omega⟩, ⟨i' + 1, y, by push_cast; rfl, by omega, _, A6, o6, s6.to, .step w (by omega) (by omega) (by omega) (by omega) (by omega)⟩, by omega⟩
  refine condP (fun hk2 => ⟨⟨by omega, by omega⟩, ?_⟩) (fun hk2 => fin k (by omega))
  have := fin (k - (b' - a')) (by omega)
  rwa [show ((k - (b' - a') : Nat) : Int) = (k : Int) - ((b' - a' : Nat) : Int) by omega] at this
abbrev yaiu (cf : Unit) (h0 : Hp) (p : OA) (n cp a' b' : Nat) (xs : List Int) (F : Bag) (i' J : Nat) (h : Hp) : Prop := a' + 1 ≤ i' ∧ i' ≤ b' ∧ a' + 1 ≤ J ∧ J ≤ b' ∧ OutOI h0 p n cp a' b' xs F h (fun ys => LoR (tI 3).d (fun x y : Int => x < y) a' i' ys ∧ HiR (tI 3).d (fun x y : Int => x < y) a' J b' ys)
abbrev yatm (cf : Unit) (h0 : Hp) (p : OA) (n cp a' b' : Nat) (xs : List Int) (F : Bag) (i' J : Nat) (h : Hp) : Prop := a' + 1 ≤ i' ∧ i' ≤ b' ∧ a' + 1 ≤ J ∧ J ≤ b' ∧ OutOI h0 p n cp a' b' xs F h (fun ys => LoR (tI 3).d (fun x y : Int => x < y) a' i' ys ∧ HiR (tI 3).d (fun x y : Int => x < y) a' J b' ys ∧ (i' < J → ¬ (fun x y : Int => x < y) (ys.getD i' (tI 3).d) (ys.getD a' (tI 3).d)))
abbrev yayt (cf : Unit) (h0 : Hp) (p : OA) (n cp a' b' : Nat) (xs : List Int) (F : Bag) (i' J : Nat) (h : Hp) : Prop := a' + 1 ≤ i' ∧ i' ≤ b' ∧ a' + 1 ≤ J ∧ J ≤ b' ∧ OutOI h0 p n cp a' b' xs F h (fun ys => LoR (tI 3).d (fun x y : Int => x < y) a' i' ys ∧ HiR (tI 3).d (fun x y : Int => x < y) a' J b' ys ∧ (i' < J → ¬ (fun x y : Int => x < y) (ys.getD i' (tI 3).d) (ys.getD a' (tI 3).d)) ∧ (i' < J → (fun x y : Int => x < y) (ys.getD (J - 1) (tI 3).d) (ys.getD a' (tI 3).d)))
theorem yaoq {h0 h : Hp} {p : OA} {n cp a' b' pv' : Nat} {a b pv : Int} {xs : List Int} {A F : Bag} {P : Int → Prop} (s : St h0 h (A + F)) (o : Sl (tI 3) p n cp xs A) (hP : ∀ k, k < n → P (xs.getD k (tI 3).d)) (ea : a = (a' : Int)) (eb : b = (b' : Int)) (ev : pv = (pv' : Int)) (hpv : a' ≤ pv' ∧ pv' < b') (hb : b' ≤ n) (hn : n < 1000000) :
    yaae Tryz.prog 161 #[.slice p n cp, .int .i64 a, .int .i64 b, .int .i64 pv] h (fun v h' => ∃ (m : Nat) (bb : Bool), v = .tuple #[.int .i64 (m : Int), .bool bb] ∧ a' ≤ m ∧ m < b' ∧ OutOI h0 p n cp a' b' xs F h' (PartR (tI 3).d (fun x y : Int => x < y) a' b' m)) := by
  subst ea eb ev
  have hl0 := o.len
  refine zel_call ?_
  generalize hR : (fun v h' => ∃ (m : Nat) (bb : Bool), v = Value.tuple #[.int .i64 (m : Int), .bool bb] ∧ a' ≤ m ∧ m < b' ∧ OutOI h0 p n cp a' b' xs F h' (PartR (tI 3).d (fun x y : Int => x < y) a' b' m)) = R
  have hRi : ∀ (v : Value) (h' : Hp) (m : Nat) (bb : Bool), v = .tuple #[.int .i64 (m : Int), .bool bb] → a' ≤ m → m < b' → OutOI h0 p n cp a' b' xs F h' (PartR (tI 3).d (fun x y : Int => x < y) a' b' m) → R v h' := by
    intro v h' m bb h1 h2 h3 h4; rw [← hR]; exact ⟨m, bb, h1, h2, h3, h4⟩
  clear hR
  have b13 : ∀ (i' J : Nat) (h' : Hp) (nx : Int × Int × Unit → Hp → Prop) , yayt () h0 p n cp a' b' xs F i' J h' → (∀ h', yaiu () h0 p n cp a' b' xs F (i' + 1) (J - 1) h' → i' < J → nx ((i' : Int) + 1, (J : Int) - 1 - 1, ()) h') → zel_b13 p n cp a' i' ((J : Int) - 1) h' nx R := by
    rintro i' J h' nx ⟨hi1, hi2, hJ1, hJ2, ys, A1, o, s, w, lo, hi, hst, hs2⟩ hnx
    have hl := o.len
    rw [zel_b13_eq]
    refine condP (fun hlt => ?_) (fun hlt => ?_)
    · rw [zel_b14_eq]
      refine swOI (u' := J - 1) (v' := a') o s (by omega) rfl (by omega) (by omega) fun h6 A6 o6 s6 => ?_
      refine hRi _ _ (J - 1) false (by rw [show ((J - 1 : Nat) : Int) = (J : Int) - 1 by omega]) (by omega) (by omega) ⟨_, A6, o6, s6, .step w (by omega) (by omega) (by omega) (by omega) (by omega), yasa (by omega) hi2 (by omega) (by omega) lo hi⟩
    · refine swOI (u' := i') (v' := J - 1) o s rfl (by omega) (by omega) (by omega) fun h6 A6 o6 s6 => ⟨⟨by omega, by omega⟩, ⟨by omega, by omega⟩, ?_⟩
      have hs2 := hs2 (by omega)
      exact hnx _ ⟨by omega, by omega, by omega, by omega, _, A6, o6, s6, .step w (by omega) (by omega) (by omega) (by omega) (by omega), yamo (by omega) (by omega) hJ2 (by omega) lo hi (hst (by omega)) hs2⟩ (by omega)
  have b10 : ∀ (i' J : Nat) (h' : Hp) (nx : Int × Int × Unit → Hp → Prop) , yatm () h0 p n cp a' b' xs F i' J h' → (∀ i2 J2 h', i' + 1 ≤ i2 → J2 + 1 ≤ J → yaiu () h0 p n cp a' b' xs F i2 J2 h' → nx ((i2 : Int), (J2 : Int) - 1, ()) h') → zel_b10 p n cp a' i' ((J : Int) - 1) h' nx R := by
    rintro i' J h' nx hI hnx
    rw [zel_b10_eq]
    refine ⟨fun j h2 => ∃ J2 : Nat, j.1 = (J2 : Int) - 1 ∧ J2 ≤ J ∧ yatm () h0 p n cp a' b' xs F i' J2 h2, fun j _ => (j.1 + 1).toNat, ⟨J, rfl, Nat.le_refl _, hI⟩, ?_⟩
    clear hI
    rintro ⟨_, _⟩ h2 ⟨J2, rfl, hJJ, hi1, hi2, hJ1, hJ2, ys, A1, o, s, w, lo, hi, hst⟩
    dsimp only
    have hl := o.len
    have hP := w.allN hl0 hP
    have ch := fun (h3 : Hp) (s : St h0 h3 (A1 + F)) (g : i' < J2 → (fun x y : Int => x < y) (ys.getD (J2 - 1) (tI 3).d) (ys.getD a' (tI 3).d)) => b13 i' J2 h3 nx ⟨hi1, hi2, hJ1, hJ2, ys, A1, o, s, w, lo, hi, hst, g⟩ fun h' hp hq => by have := hnx (i' + 1) (J2 - 1) h' (by omega) (by omega) hp; rwa [show ((i' + 1 : Nat) : Int) = (i' : Int) + 1 by push_cast; rfl, show ((J2 - 1 : Nat) : Int) - 1 = (J2 : Int) - 1 - 1 by omega] at this
    rw [zel_b11_eq]
    refine condP (fun hlt => ?_) (fun hlt => ch _ s fun h => by omega)
    have r := o.rd s
    refine ldOI (i' := J2 - 1) r (by omega) (by omega) (ldOI (i' := a') r rfl (by omega) ?_)
    refine ⟨_, (yacn _ _ _).mono fun v9 h9 ⟨hh9, hv9⟩ => ⟨hv9, hh9⟩, ?_⟩
    refine condN (fun hc => ?_) (fun hc => ch _ s fun _ => hc)
    rw [zel_b12_eq]
    exact ⟨⟨by omega, by omega⟩, ⟨J2 - 1, by omega, by omega, hi1, hi2, by omega, by omega, ys, A1, o, s, w, lo, yauv hi hc, fun h => hst (by omega)⟩, by omega⟩
  have b8 : ∀ (i' J : Nat) (h' : Hp) (nx : Int × Int × Unit → Hp → Prop) , yaiu () h0 p n cp a' b' xs F i' J h' → (∀ i2 J2 h', i' + 1 ≤ i2 → J2 + 1 ≤ J → yaiu () h0 p n cp a' b' xs F i2 J2 h' → nx ((i2 : Int), (J2 : Int) - 1, ()) h') → yaaq (((i' : Int), ()) : Int × Unit) h' (fun (nx1 : Int × Unit → Hp → Prop) (s4 : Int × Unit) h36 => zel_b8 s4.1 p n cp a' ((J : Int) - 1) h36 nx nx1 R) := by
    rintro i' J h' nx hI hnx
    refine ⟨fun i h2 => ∃ i2 : Nat, i.1 = (i2 : Int) ∧ i' ≤ i2 ∧ yaiu () h0 p n cp a' b' xs F i2 J h2, fun i _ => (b' - i.1).toNat, ⟨i', rfl, Nat.le_refl _, hI⟩, ?_⟩
    clear hI
    rintro ⟨_, _⟩ h2 ⟨i2, rfl, hii, hi1, hi2, hJ1, hJ2, ys, A1, o, s, w, lo, hi⟩
    dsimp only
    have hl := o.len
    have hP := w.allN hl0 hP
    have ch := fun (h3 : Hp) (s : St h0 h3 (A1 + F)) (g : i2 < J → ¬ (fun x y : Int => x < y) (ys.getD i2 (tI 3).d) (ys.getD a' (tI 3).d)) => b10 i2 J h3 nx ⟨hi1, hi2, hJ1, hJ2, ys, A1, o, s, w, lo, hi, g⟩ fun i3 J3 h' g1 g2 g3 => hnx i3 J3 h' (by omega) (by omega) g3
    rw [zel_b8_eq]
    refine condP (fun hlt => ?_) (fun hlt => ch _ s fun h => by omega)
    have r := o.rd s
    refine ldOI (i' := i2) r rfl (by omega) (ldOI (i' := a') r rfl (by omega) ?_)
    refine ⟨_, (yacn _ _ _).mono fun v9 h9 ⟨hh9, hv9⟩ => ⟨hv9, hh9⟩, ?_⟩
    refine condP (fun hc => ?_) (fun hc => ch _ s fun _ => hc)
    rw [zel_b9_eq]
    exact ⟨⟨by omega, by omega⟩, ⟨i2 + 1, by push_cast; rfl, by omega, by omega, by omega, hJ1, hJ2, ys, A1, o, s, w, yauq lo hc, hi⟩, by omega⟩
  have b7 : ∀ (i' J : Nat) (h' : Hp), yaiu () h0 p n cp a' b' xs F i' J h' → yaaq ((i', (J : Int) - 1, ()) : Int × Int × Unit) h' (fun (nx0 : Int × Int × Unit → Hp → Prop) (s3 : Int × Int × Unit) h35 => zel_b7 s3.1 s3.2.1 p n cp a' h35 nx0 R) := by
    intro i' J h' hI
    refine ⟨fun ij h2 => ∃ i2 J2 : Nat, ij.1 = (i2 : Int) ∧ ij.2.1 = (J2 : Int) - 1 ∧ yaiu () h0 p n cp a' b' xs F i2 J2 h2, fun ij _ => (b' - ij.1).toNat + (ij.2.1 + 1).toNat, ⟨i', J, rfl, rfl, hI⟩, ?_⟩
    clear hI
    rintro ⟨_, _, _⟩ h2 ⟨i2, J2, rfl, rfl, hI⟩
    dsimp only
    rw [zel_b7_eq]
    refine b8 i2 J2 h2 _ hI fun i3 J3 h3 g1 g2 hI3 => ⟨⟨i3, J3, rfl, rfl, hI3⟩, ?_⟩
    have := hI.1
    have := hI.2.1
    have := hI3.2.1
    dsimp only
    omega
  have b6 : ∀ (i' J : Nat) (h' : Hp) , yayt () h0 p n cp a' b' xs F i' J h' → zel_b6 p n cp a' i' ((J : Int) - 1) h' R := by
    rintro i' J h' ⟨hi1, hi2, hJ1, hJ2, ys, A1, o, s, w, lo, hi, hst, hs2⟩
    have hl := o.len
    rw [zel_b6_eq]
    refine condP (fun hlt => ?_) (fun hlt => ?_)
    · refine swOI (u' := J - 1) (v' := a') o s (by omega) rfl (by omega) (by omega) fun h6 A6 o6 s6 => ?_
      refine hRi _ _ (J - 1) true (by rw [show ((J - 1 : Nat) : Int) = (J : Int) - 1 by omega]) (by omega) (by omega) ⟨_, A6, o6, s6, .step w (by omega) (by omega) (by omega) (by omega) (by omega), yasa (by omega) hi2 (by omega) (by omega) lo hi⟩
    · refine swOI (u' := i') (v' := J - 1) o s rfl (by omega) (by omega) (by omega) fun h6 A6 o6 s6 => ⟨⟨by omega, by omega⟩, ⟨by omega, by omega⟩, ?_⟩
      have hs2 := hs2 (by omega)
      have := b7 (i' + 1) (J - 1) h6 ⟨by omega, by omega, by omega, by omega, _, A6, o6, s6, .step w (by omega) (by omega) (by omega) (by omega) (by omega), yamo (by omega) (by omega) hJ2 (by omega) lo hi (hst (by omega)) hs2⟩
      rwa [show ((i' + 1 : Nat) : Int) = (i' : Int) + 1 by push_cast; rfl, show ((J - 1 : Nat) : Int) - 1 = (J : Int) - 1 - 1 by omega] at this
  have b3 : ∀ (i' J : Nat) (h' : Hp) , yatm () h0 p n cp a' b' xs F i' J h' → zel_b3 p n cp a' i' ((J : Int) - 1) h' R := by
    rintro i' J h' hI
    rw [zel_b3_eq]
    refine ⟨fun j h2 => ∃ J2 : Nat, j.1 = (J2 : Int) - 1 ∧ J2 ≤ J ∧ yatm () h0 p n cp a' b' xs F i' J2 h2, fun j _ => (j.1 + 1).toNat, ⟨J, rfl, Nat.le_refl _, hI⟩, ?_⟩
    clear hI
    rintro ⟨_, _⟩ h2 ⟨J2, rfl, hJJ, hi1, hi2, hJ1, hJ2, ys, A1, o, s, w, lo, hi, hst⟩
    dsimp only
    have hl := o.len
    have hP := w.allN hl0 hP
    have ch := fun (h3 : Hp) (s : St h0 h3 (A1 + F)) (g : i' < J2 → (fun x y : Int => x < y) (ys.getD (J2 - 1) (tI 3).d) (ys.getD a' (tI 3).d)) => b6 i' J2 h3  ⟨hi1, hi2, hJ1, hJ2, ys, A1, o, s, w, lo, hi, hst, g⟩
    rw [zel_b4_eq]
    refine condP (fun hlt => ?_) (fun hlt => ch _ s fun h => by omega)
    have r := o.rd s
    refine ldOI (i' := J2 - 1) r (by omega) (by omega) (ldOI (i' := a') r rfl (by omega) ?_)
    refine ⟨_, (yacn _ _ _).mono fun v9 h9 ⟨hh9, hv9⟩ => ⟨hv9, hh9⟩, ?_⟩
    refine condN (fun hc => ?_) (fun hc => ch _ s fun _ => hc)
    rw [zel_b5_eq]
    exact ⟨⟨by omega, by omega⟩, ⟨J2 - 1, by omega, by omega, hi1, hi2, by omega, by omega, ys, A1, o, s, w, lo, yauv hi hc, fun h => hst (by omega)⟩, by omega⟩
  have b1 : ∀ (i' J : Nat) (h' : Hp) , yaiu () h0 p n cp a' b' xs F i' J h' → yaaq (((i' : Int), ()) : Int × Unit) h' (fun (nx1 : Int × Unit → Hp → Prop) (s4 : Int × Unit) h36 => zel_b1 s4.1 p n cp a' ((J : Int) - 1) h36 nx1 R) := by
    rintro i' J h' hI
    refine ⟨fun i h2 => ∃ i2 : Nat, i.1 = (i2 : Int) ∧ i' ≤ i2 ∧ yaiu () h0 p n cp a' b' xs F i2 J h2, fun i _ => (b' - i.1).toNat, ⟨i', rfl, Nat.le_refl _, hI⟩, ?_⟩
    clear hI
    rintro ⟨_, _⟩ h2 ⟨i2, rfl, hii, hi1, hi2, hJ1, hJ2, ys, A1, o, s, w, lo, hi⟩
    dsimp only
    have hl := o.len
    have hP := w.allN hl0 hP
    have ch := fun (h3 : Hp) (s : St h0 h3 (A1 + F)) (g : i2 < J → ¬ (fun x y : Int => x < y) (ys.getD i2 (tI 3).d) (ys.getD a' (tI 3).d)) => b3 i2 J h3  ⟨hi1, hi2, hJ1, hJ2, ys, A1, o, s, w, lo, hi, g⟩
    rw [zel_b1_eq]
    refine condP (fun hlt => ?_) (fun hlt => ch _ s fun h => by omega)
    have r := o.rd s
    refine ldOI (i' := i2) r rfl (by omega) (ldOI (i' := a') r rfl (by omega) ?_)
    refine ⟨_, (yacn _ _ _).mono fun v9 h9 ⟨hh9, hv9⟩ => ⟨hv9, hh9⟩, ?_⟩
    refine condP (fun hc => ?_) (fun hc => ch _ s fun _ => hc)
    rw [zel_b2_eq]
    exact ⟨⟨by omega, by omega⟩, ⟨i2 + 1, by push_cast; rfl, by omega, by omega, by omega, hJ1, hJ2, ys, A1, o, s, w, yauq lo hc, hi⟩, by omega⟩
  rw [zel_b0_eq]
  refine swOI (u' := a') (v' := pv') o s rfl rfl (by omega) (by omega) fun h6 A6 o6 s6 => ⟨⟨by omega, by omega⟩, ⟨by omega, by omega⟩, ?_⟩
  have := b1 (a' + 1) b' h6 ⟨Nat.le_refl _, by omega, by omega, Nat.le_refl _, _, A6, o6, s6, .one (Nat.le_refl _) (by omega) (by omega) (by omega) (by omega), fun k h1 h2 => by omega, fun k h1 h2 => by omega⟩
  rwa [show ((a' + 1 : Nat) : Int) = (a' : Int) + 1 by push_cast; rfl] at this
abbrev yajw (cf : Unit) (h0 : Hp) (p : OA) (n cp a' b' : Nat) (x : Int) (xs : List Int) (F : Bag) (i' J : Nat) (h : Hp) : Prop := a' + 1 ≤ i' ∧ i' ≤ b' ∧ a' + 1 ≤ J ∧ J ≤ b' ∧ OutOI h0 p n cp a' b' xs F h (fun ys => EqR (tI 3).d (fun x y : Int => x < y) x a' i' ys)
abbrev EStOI (cf : Unit) (h0 : Hp) (p : OA) (n cp a' b' : Nat) (x : Int) (xs : List Int) (F : Bag) (i' J : Nat) (h : Hp) : Prop := a' + 1 ≤ i' ∧ i' ≤ b' ∧ a' + 1 ≤ J ∧ J ≤ b' ∧ OutOI h0 p n cp a' b' xs F h (fun ys => EqR (tI 3).d (fun x y : Int => x < y) x a' i' ys ∧ (i' < J → ¬ (fun x y : Int => x < y) (ys.getD a' (tI 3).d) (ys.getD (J - 1) (tI 3).d)))
theorem yagw {h0 h : Hp} {p : OA} {n cp a' b' pv' : Nat} {a b pv : Int} {xs : List Int} {A F : Bag} {P : Int → Prop} (s : St h0 h (A + F)) (o : Sl (tI 3) p n cp xs A) (hP : ∀ k, k < n → P (xs.getD k (tI 3).d)) (ea : a = (a' : Int)) (eb : b = (b' : Int)) (ev : pv = (pv' : Int)) (hpv : a' ≤ pv' ∧ pv' < b') (hb : b' ≤ n) (hn : n < 1000000) :
    yaae Tryz.prog 160 #[.slice p n cp, .int .i64 a, .int .i64 b, .int .i64 pv] h (fun v h' => ∃ m : Nat, v = .int .i64 (m : Int) ∧ a' + 1 ≤ m ∧ m ≤ b' ∧ OutOI h0 p n cp a' b' xs F h' (EqR (tI 3).d (fun x y : Int => x < y) (xs.getD pv' (tI 3).d) a' m)) := by
  subst ea eb ev
  have hl0 := o.len
  refine zek_call ?_
  generalize hx : xs.getD pv' (tI 3).d = x
  generalize hR : (fun v h' => ∃ m : Nat, v = Value.int .i64 (m : Int) ∧ a' + 1 ≤ m ∧ m ≤ b' ∧ OutOI h0 p n cp a' b' xs F h' (EqR (tI 3).d (fun x y : Int => x < y) x a' m)) = R
  have hRi : ∀ (v : Value) (h' : Hp) (m : Nat), v = .int .i64 (m : Int) → a' + 1 ≤ m → m ≤ b' → OutOI h0 p n cp a' b' xs F h' (EqR (tI 3).d (fun x y : Int => x < y) x a' m) → R v h' := by
    intro v h' m h1 h2 h3 h4; rw [← hR]; exact ⟨m, h1, h2, h3, h4⟩
  clear hR
  have b7 : ∀ (i' J : Nat) (h' : Hp) (nx : Int × Int × Unit → Hp → Prop), EStOI () h0 p n cp a' b' x xs F i' J h' → (∀ h', yajw () h0 p n cp a' b' x xs F (i' + 1) (J - 1) h' → i' < J → nx ((i' : Int) + 1, (J : Int) - 1 - 1, ()) h') → zek_b7 p n cp a' i' ((J : Int) - 1) h' nx R := by
    rintro i' J h' nx ⟨hi1, hi2, hJ1, hJ2, ys, A1, o, s, w, he, hs2⟩ hnx
    have hl := o.len
    rw [zek_b7]
    refine condP (fun hlt => ?_) (fun hlt => ?_)
    · rw [zek_b8]
      exact hRi _ _ i' rfl hi1 hi2 ⟨ys, A1, o, s, w, he⟩
    · refine swOI (u' := i') (v' := J - 1) o s rfl (by omega) (by omega) (by omega) fun h6 A6 o6 s6 => ⟨⟨by omega, by omega⟩, ⟨by omega, by omega⟩, ?_⟩
      exact hnx _ ⟨by omega, by omega, by omega, by omega, _, A6, o6, s6, .step w (by omega) (by omega) (by omega) (by omega) (by omega), yazd (by omega) (by omega) (by omega) he (hs2 (by omega))⟩ (by omega)
  have b4 : ∀ (i' J : Nat) (h' : Hp) (nx : Int × Int × Unit → Hp → Prop), yajw () h0 p n cp a' b' x xs F i' J h' → (∀ i2 J2 h', i' + 1 ≤ i2 → J2 + 1 ≤ J → yajw () h0 p n cp a' b' x xs F i2 J2 h' → nx ((i2 : Int), (J2 : Int) - 1, ()) h') → zek_b4 p n cp a' i' ((J : Int) - 1) h' nx R := by
    rintro i' J h' nx hI hnx
    rw [zek_b4]
    refine ⟨fun j h2 => ∃ J2 : Nat, j.1 = (J2 : Int) - 1 ∧ J2 ≤ J ∧ yajw () h0 p n cp a' b' x xs F i' J2 h2, fun j _ => (j.1 + 1).toNat, ⟨J, rfl, Nat.le_refl _, hI⟩, ?_⟩
    clear hI
    rintro ⟨_, _⟩ h2 ⟨J2, rfl, hJJ, hi1, hi2, hJ1, hJ2, ys, A1, o, s, w, he⟩
    dsimp only
    have hl := o.len
    have hP := w.allN hl0 hP
    have ch := fun (h3 : Hp) (s : St h0 h3 (A1 + F)) (g : i' < J2 → ¬ (fun x y : Int => x < y) (ys.getD a' (tI 3).d) (ys.getD (J2 - 1) (tI 3).d)) => b7 i' J2 h3 nx ⟨hi1, hi2, hJ1, hJ2, ys, A1, o, s, w, he, g⟩ fun h' hp hq => by have := hnx (i' + 1) (J2 - 1) h' (by omega) (by omega) hp; rwa [show ((i' + 1 : Nat) : Int) = (i' : Int) + 1 by push_cast; rfl, show ((J2 - 1 : Nat) : Int) - 1 = (J2 : Int) - 1 - 1 by omega] at this
    rw [zek_b5]
    refine condP (fun hlt => ?_) (fun hlt => ch _ s fun h => by omega)
    have r := o.rd s
    refine ldOI (i' := a') r rfl (by omega) (ldOI (i' := J2 - 1) r (by omega) (by omega) ?_)
    refine ⟨_, (yacn _ _ _).mono fun v9 h9 ⟨hh9, hv9⟩ => ⟨hv9, hh9⟩, ?_⟩
    refine condP (fun hc => ?_) (fun hc => ch _ s fun _ => hc)
    rw [zek_b6]
    exact ⟨⟨by omega, by omega⟩, ⟨J2 - 1, by omega, by omega, hi1, hi2, by omega, by omega, ys, A1, o, s, w, he⟩, by omega⟩
  have b2 : ∀ (i' J : Nat) (h' : Hp) (nx : Int × Int × Unit → Hp → Prop), yajw () h0 p n cp a' b' x xs F i' J h' → (∀ i2 J2 h', i' + 1 ≤ i2 → J2 + 1 ≤ J → yajw () h0 p n cp a' b' x xs F i2 J2 h' → nx ((i2 : Int), (J2 : Int) - 1, ()) h') → yaaq (((i' : Int), ()) : Int × Unit) h' (fun (nx1 : Int × Unit → Hp → Prop) (s4 : Int × Unit) h36 => zek_b2 s4.1 p n cp a' ((J : Int) - 1) h36 nx nx1 R) := by
    rintro i' J h' nx hI hnx
    refine ⟨fun i h2 => ∃ i2 : Nat, i.1 = (i2 : Int) ∧ i' ≤ i2 ∧ yajw () h0 p n cp a' b' x xs F i2 J h2, fun i _ => (b' - i.1).toNat, ⟨i', rfl, Nat.le_refl _, hI⟩, ?_⟩
    clear hI
    rintro ⟨_, _⟩ h2 ⟨i2, rfl, hii, hi1, hi2, hJ1, hJ2, ys, A1, o, s, w, he⟩
    dsimp only
    have hl := o.len
    have hP := w.allN hl0 hP
    have ch := fun (h3 : Hp) (s : St h0 h3 (A1 + F)) => b4 i2 J h3 nx ⟨hi1, hi2, hJ1, hJ2, ys, A1, o, s, w, he⟩ fun i3 J3 h' g1 g2 g3 => hnx i3 J3 h' (by omega) (by omega) g3
    rw [zek_b2]
    refine condP (fun hlt => ?_) (fun hlt => ch _ s)
    have r := o.rd s
    refine ldOI (i' := a') r rfl (by omega) (ldOI (i' := i2) r rfl (by omega) ?_)
    refine ⟨_, (yacn _ _ _).mono fun v9 h9 ⟨hh9, hv9⟩ => ⟨hv9, hh9⟩, ?_⟩
    refine condN (fun hc => ?_) (fun hc => ch _ s)
    rw [zek_b3]
    exact ⟨⟨by omega, by omega⟩, ⟨i2 + 1, by push_cast; rfl, by omega, by omega, by omega, hJ1, hJ2, ys, A1, o, s, w, ybbc he hc⟩, by omega⟩
  rw [zek_b0]
  refine swOI (u' := a') (v' := pv') o s rfl rfl (by omega) (by omega) fun h6 A6 o6 s6 => ⟨⟨by omega, by omega⟩, ⟨by omega, by omega⟩, ?_⟩
  have hx2 : (swapL (tI 3).d xs a' pv').getD a' (tI 3).d = x := by
    rw [yaay (by omega) (by omega)]
    by_cases hk : a' = pv'
    · rw [if_pos hk, hk, hx]
    · rw [if_neg hk, if_pos rfl, hx]
  refine ⟨fun ij h2 => ∃ i2 J2 : Nat, ij.1 = (i2 : Int) ∧ ij.2.1 = (J2 : Int) - 1 ∧ yajw () h0 p n cp a' b' x xs F i2 J2 h2, fun ij _ => (b' - ij.1).toNat + (ij.2.1 + 1).toNat, ⟨a' + 1, b', by push_cast; rfl, rfl, Nat.le_refl _, by omega, by omega, Nat.le_refl _, _, A6, o6, s6, .one (Nat.le_refl _) (by omega) (by omega) (by omega) (by omega), hx2, fun k h1 h2 => by rw [show k = a' by omega, hx2]; exact ordI.irr _⟩, ?_⟩
  rintro ⟨_, _, _⟩ h2 ⟨i2, J2, rfl, rfl, hI⟩
  dsimp only
  rw [zek_b1]
  refine b2 i2 J2 h2 _ hI fun i3 J3 h3 g1 g2 hI3 => ⟨⟨i3, J3, rfl, rfl, hI3⟩, ?_⟩
  have := hI.1
  have := hI.2.1
  have := hI3.2.1
  dsimp only
  omega
theorem yadk {h0 h : Hp} {p : OA} {n cp a' b' : Nat} {a b : Int} {xs : List Int} {A F : Bag} {P : Int → Prop} (s : St h0 h (A + F)) (o : Sl (tI 3) p n cp xs A) (hP : ∀ k, k < n → P (xs.getD k (tI 3).d)) (ea : a = (a' : Int)) (eb : b = (b' : Int)) (hab : a' < b') (hb : b' ≤ n) (hn : n < 1000000)
    (hlow : 0 < a' → ∀ k, a' ≤ k → k < b' → ¬ (fun x y : Int => x < y) (xs.getD k (tI 3).d) (xs.getD (a' - 1) (tI 3).d)) :
    yaae Tryz.prog 158 #[.slice p n cp, .int .i64 a, .int .i64 b] h (fun v h' => ∃ bb : Bool, v = .bool bb ∧ OutOI h0 p n cp a' b' xs F h' (fun ys => bb = true → SrtR (tI 3).d (fun x y : Int => x < y) a' b' ys)) := by
  subst ea eb
  have hl0 := o.len
  refine zej_call ?_
  generalize hR : (fun v h' => ∃ bb : Bool, v = Value.bool bb ∧ OutOI h0 p n cp a' b' xs F h' (fun ys => bb = true → SrtR (tI 3).d (fun x y : Int => x < y) a' b' ys)) = R
  have hRf : ∀ (h' : Hp), OutOI h0 p n cp a' b' xs F h' (fun _ => True) → R (.bool false) h' := by
    rintro h' ⟨ys, A1, o, s, w, _⟩; rw [← hR]; exact ⟨false, rfl, ys, A1, o, s, w, fun h => by cases h⟩
  have hRt : ∀ (h' : Hp), OutOI h0 p n cp a' b' xs F h' (SrtR (tI 3).d (fun x y : Int => x < y) a' b') → R (.bool true) h' := by
    rintro h' ⟨ys, A1, o, s, w, hs⟩; rw [← hR]; exact ⟨true, rfl, ys, A1, o, s, w, fun _ => hs⟩
  clear hR
  rw [zej_b0_eq]
  refine ⟨⟨by omega, by omega⟩, fun ic h1 => ∃ (i' c : Nat), ic.1 = (i' : Int) ∧ ic.2.1 = (c : Int) ∧ c ≤ 5 ∧ a' + 1 ≤ i' ∧ i' ≤ b' ∧ OutOI h0 p n cp a' b' xs F h1 (SrtR (tI 3).d (fun x y : Int => x < y) a' i'), fun ic _ => (5 - ic.2.1).toNat, ⟨a' + 1, 0, by push_cast; rfl, rfl, by omega, Nat.le_refl _, by omega, xs, A, o, s, .refl _, yaht (by omega)⟩, ?_⟩
  rintro ⟨_, _, _⟩ h1 ⟨i0, c, rfl, rfl, hc5, hi01, hi02, hO⟩
  dsimp only
  rw [zej_b1_eq]
  refine condP (fun hc => ?_) (fun hc => ?_)
  · generalize hNX : (fun (s' : Int × Int × Unit) (h' : Hp) => (∃ (i' c : Nat), s'.1 = (i' : Int) ∧ s'.2.1 = (c : Int) ∧ c ≤ 5 ∧ a' + 1 ≤ i' ∧ i' ≤ b' ∧ OutOI h0 p n cp a' b' xs F h' (SrtR (tI 3).d (fun x y : Int => x < y) a' i')) ∧ (5 - s'.2.1).toNat < (5 - (c : Int)).toNat) = NX
    have b10 : ∀ (i' : Nat) (h' : Hp), a' + 1 ≤ i' → i' ≤ b' → OutOI h0 p n cp a' b' xs F h' (SrtR (tI 3).d (fun x y : Int => x < y) a' i') → zej_b10 p n cp a' b' i' c h' NX R := by
      intro i' h' g1 g2 g3
      rw [zej_b10_eq, ← hNX]
      exact ⟨⟨by omega, by omega⟩, ⟨i', c + 1, rfl, by push_cast; rfl, by omega, g1, g2, g3⟩, by dsimp only; omega⟩
    clear hNX
    have b7 : ∀ (i' : Nat) (h' : Hp), a' + 1 ≤ i' → i' ≤ b' → OutOI h0 p n cp a' b' xs F h' (SrtR (tI 3).d (fun x y : Int => x < y) a' i') → zej_b7 p n cp a' b' i' c h' NX R := by
      intro i' h' g1 g2 g3
      rw [zej_b7_eq]
      refine ⟨⟨by omega, by omega⟩, condP (fun h2 => ⟨⟨by omega, by omega⟩, ?_⟩) (fun _ => b10 i' h' g1 g2 g3)⟩
      refine ⟨fun j h2 => ∃ j' : Nat, j.1 = (j' : Int) ∧ i' + 1 ≤ j' ∧ j' ≤ b' ∧ OutOI h0 p n cp a' b' xs F h2 (SrtR (tI 3).d (fun x y : Int => x < y) a' i'), fun j _ => (b' - j.1).toNat, ⟨i' + 1, by push_cast; rfl, Nat.le_refl _, by omega, g3⟩, ?_⟩
      clear g3
      rintro ⟨_, _⟩ h2 ⟨j', rfl, hj1, hj2, ys, A1, o, s, w, hs⟩
      dsimp only
      have hl := o.len
      have hP := w.allN hl0 hP
      rw [zej_b9_eq]
      refine condP (fun hlt => ?_) (fun hlt => b10 i' _ g1 g2 ⟨ys, A1, o, s, w, hs⟩)
      have r := o.rd s
      refine ldOI (i' := j') r rfl (by omega) ⟨⟨by omega, by omega⟩, ldOI (i' := j' - 1) r (by omega) (by omega) ?_⟩
      refine ⟨_, (yacn _ _ _).mono fun v9 h9 ⟨hh9, hv9⟩ => ⟨hv9, hh9⟩, ?_⟩
      refine condN (fun hc => b10 i' _ g1 g2 ⟨ys, A1, o, s, w, hs⟩) (fun hc => ⟨⟨by omega, by omega⟩, ⟨by omega, by omega⟩, ?_⟩)
      refine swOI (u' := j') (v' := j' - 1) o s rfl (by omega) (by omega) (by omega) fun h6 A6 o6 s6 => ?_
      rw [zej_b11_eq]
      refine ⟨⟨by omega, by omega⟩, ⟨j' + 1, by push_cast; rfl, by omega, by omega, _, A6, o6, s6, .step w (by omega) (by omega) (by omega) (by omega) (by omega), fun x y k1 k2 k3 => ?_⟩, by omega⟩
      rw [yaay (by omega) (by omega), yaay (by omega) (by omega), if_neg (by omega), if_neg (by omega), if_neg (by omega), if_neg (by omega)]
      exact hs x y k1 k2 k3
    have b5 : ∀ (i' : Nat) (h' : Hp), a' + 1 ≤ i' → i' ≤ b' → OutOI h0 p n cp a' b' xs F h' (SrtR (tI 3).d (fun x y : Int => x < y) a' i') → zej_b5 p n cp a' b' i' c h' NX R := by
      rintro i' h' g1 g2 ⟨ys, A1, o, s, w, hs⟩
      have hl := o.len
      rw [zej_b5_eq]
      refine condP (fun he => hRt _ ⟨ys, A1, o, s, w, by rw [show i' = b' by omega] at hs; exact hs⟩) (fun hne => ⟨⟨by omega, by omega⟩, condP (fun _ => hRf _ ⟨ys, A1, o, s, w, trivial⟩) (fun _ => ⟨⟨by omega, by omega⟩, ⟨by omega, by omega⟩, ?_⟩)⟩)
      refine swOI (u' := i') (v' := i' - 1) o s rfl (by omega) (by omega) (by omega) fun h6 A6 o6 s6 => ⟨⟨by omega, by omega⟩, ?_⟩
      have w6 : Swp (tI 3).d a' b' xs (swapL (tI 3).d ys i' (i' - 1)) := .step w (by omega) (by omega) (by omega) (by omega) (by omega)
      have hs6 : SrtR (tI 3).d (fun x y : Int => x < y) a' (i' - 1) (swapL (tI 3).d ys i' (i' - 1)) := fun x y k1 k2 k3 => by
        rw [yaay (by omega) (by omega), yaay (by omega) (by omega), if_neg (by omega), if_neg (by omega), if_neg (by omega), if_neg (by omega)]
        exact hs x y k1 k2 (by omega)
      generalize swapL (tI 3).d ys i' (i' - 1) = zs at *
      clear hs w s o hl
      refine condP (fun h2 => ⟨⟨by omega, by omega⟩, ?_⟩) (fun h2 => b7 i' _ g1 g2 ⟨zs, A6, o6, s6, w6, yaht (by omega)⟩)
      refine ⟨fun j h2 => ∃ j' : Nat, j.1 = (j' : Int) ∧ a' ≤ j' ∧ j' ≤ i' - 1 ∧ OutOI h0 p n cp a' b' xs F h2 (InsR (tI 3).d (fun x y : Int => x < y) a' j' (i' - 1)), fun j _ => j.1.toNat, ⟨i' - 1, by dsimp only; omega, by omega, by omega, zs, A6, o6, s6, w6, yaia hs6⟩, ?_⟩
      clear hs6 w6 s6 o6 zs
      rintro ⟨_, _⟩ h2 ⟨j', rfl, hj1, hj2, ys, A1, o, s, w, hs⟩
      dsimp only
      have hl := o.len
      have hP := w.allN hl0 hP
      have fin := fun (h3 : Hp) (s : St h0 h3 (A1 + F)) (hx : a' < j' → ¬ (fun x y : Int => x < y) (ys.getD j' (tI 3).d) (ys.getD (j' - 1) (tI 3).d)) => b7 i' h3 g1 g2 ⟨ys, A1, o, s, w, by have := yarv ordI hj1 hs hx; rwa [show i' - 1 + 1 = i' by omega] at this⟩
      rw [zej_b6_eq]
      refine condP (fun hlt => ?_) (fun hlt => fin _ s fun h => by omega)
      have r := o.rd s
      refine ldOI (i' := j') r rfl (by omega) ⟨⟨by omega, by omega⟩, ldOI (i' := j' - 1) r (by omega) (by omega) ?_⟩
      refine ⟨_, (yacn _ _ _).mono fun v9 h9 ⟨hh9, hv9⟩ => ⟨hv9, hh9⟩, ?_⟩
      refine condN (fun hc => fin _ s fun _ => hc) (fun hc => ⟨⟨by omega, by omega⟩, ⟨by omega, by omega⟩, ?_⟩)
      have hja : a' < j' := by
        rcases Nat.lt_or_ge a' j' with h | h
        · exact h
        · obtain rfl : j' = a' := by omega
          rw [w.out (k := j' - 1) (.inl (by omega))] at hc
          exact absurd hc (w.all (P := fun x => ¬ (fun x y : Int => x < y) x (xs.getD (j' - 1) (tI 3).d)) (hlow (by omega)) j' (Nat.le_refl _) (by omega))
      refine swOI (u' := j') (v' := j' - 1) o s rfl (by omega) (by omega) (by omega) fun h6 A6 o6 s6 => ?_
      rw [zej_b8_eq]
      exact ⟨⟨by omega, by omega⟩, ⟨j' - 1, by omega, by omega, by omega, _, A6, o6, s6, .step w (by omega) (by omega) (by omega) (by omega) (by omega), yapj ordI (by omega) hj2 (by omega) hs hc⟩, by omega⟩
    refine ⟨fun i h2 => ∃ i' : Nat, i.1 = (i' : Int) ∧ a' + 1 ≤ i' ∧ i' ≤ b' ∧ OutOI h0 p n cp a' b' xs F h2 (SrtR (tI 3).d (fun x y : Int => x < y) a' i'), fun i _ => (b' - i.1).toNat, ⟨i0, rfl, hi01, hi02, hO⟩, ?_⟩
    clear hO
    rintro ⟨_, _⟩ h2 ⟨i', rfl, g1, g2, ys, A1, o, s, w, hs⟩
    dsimp only
    have hl := o.len
    have hP := w.allN hl0 hP
    rw [zej_b2_eq]
    refine condP (fun hlt => ?_) (fun hlt => b5 i' _ g1 g2 ⟨ys, A1, o, s, w, hs⟩)
    have r := o.rd s
    refine ldOI (i' := i') r rfl (by omega) ⟨⟨by omega, by omega⟩, ldOI (i' := i' - 1) r (by omega) (by omega) ?_⟩
    refine ⟨_, (yacn _ _ _).mono fun v9 h9 ⟨hh9, hv9⟩ => ⟨hv9, hh9⟩, ?_⟩
    refine condN (fun hc => ?_) (fun hc => b5 i' _ g1 g2 ⟨ys, A1, o, s, w, hs⟩)
    rw [zej_b4_eq]
    exact ⟨⟨by omega, by omega⟩, ⟨i' + 1, by push_cast; rfl, by omega, by omega, ys, A1, o, s, w, yarv ordI (by omega) (yaia hs) fun _ => hc⟩, by omega⟩
  · obtain ⟨ys, A1, o, s, w, hs⟩ := hO
    rw [zej_b3_eq]
    exact hRf _ ⟨ys, A1, o, s, w, trivial⟩
abbrev yafj (cf : Unit) (h0 : Hp) (p : OA) (n cp a0 b0 : Nat) (xs : List Int) (F : Bag) (a1 b1 : Nat) (h : Hp) : Prop := a0 ≤ a1 ∧ a1 ≤ b1 ∧ b1 ≤ b0 ∧ OutOI h0 p n cp a0 b0 xs F h (OutR (tI 3).d (fun x y : Int => x < y) a0 b0 a1 b1)
theorem pdqOI {h0 : Hp} {p : OA} {n cp : Nat} {F : Bag} {P : Int → Prop} (hn : n < 1000000) : ∀ (N : Nat) {h : Hp} {a0 b0 : Nat} {a b lim : Int} {xs : List Int} {A : Bag} (_ : b0 - a0 ≤ N) (_ : St h0 h (A + F)) (_ : Sl (tI 3) p n cp xs A) (_ : ∀ k, k < n → P (xs.getD k (tI 3).d)) (_ : a = (a0 : Int)) (_ : b = (b0 : Int)) (_ : a0 ≤ b0) (_ : b0 ≤ n) (_ : 0 ≤ lim ∧ lim < 1000000)
    (_ : 0 < a0 → ∀ k, a0 ≤ k → k < b0 → ¬ (fun x y : Int => x < y) (xs.getD k (tI 3).d) (xs.getD (a0 - 1) (tI 3).d)),
    yaae Tryz.prog 143 #[.slice p n cp, .int .i64 a, .int .i64 b, .int .i64 lim] h (fun v h' => v = .tuple #[] ∧ OutOI h0 p n cp a0 b0 xs F h' (SrtR (tI 3).d (fun x y : Int => x < y) a0 b0)) := by
  intro N
  induction N using Nat.strongRecOn with
  | _ N ih =>
  intro h a0 b0 a b lim xs A hN s o hP ea eb hab hb hlim hlow
  subst ea eb
  have hl0 := o.len
  refine zem_call ?_
  generalize hR : (fun v h' => v = Value.tuple #[] ∧ OutOI h0 p n cp a0 b0 xs F h' (SrtR (tI 3).d (fun x y : Int => x < y) a0 b0)) = R
  have fin : ∀ (a1 b1 : Nat) (h' : Hp) (ys : List Int), a0 ≤ a1 → b1 ≤ b0 → Swp (tI 3).d a0 b0 xs ys → OutR (tI 3).d (fun x y : Int => x < y) a0 b0 a1 b1 ys → OutOI h0 p n cp a1 b1 ys F h' (SrtR (tI 3).d (fun x y : Int => x < y) a1 b1) → R (.tuple #[]) h' := by
    rintro a1 b1 h' ys g1 g2 w ho ⟨zs, A2, o2, s2, w2, hs⟩
    have := w.len
    rw [← hR]
    exact ⟨rfl, zs, A2, o2, s2, w.trans (w2.mono g1 g2 (by omega)).1, yamj (yacr g1 g2 ho w2) hs⟩
  clear hR
  -- what lies before the range is not more than what lies in it
  have low : ∀ (a1 b1 : Nat) (ys : List Int), a0 ≤ a1 → b1 ≤ b0 → Swp (tI 3).d a0 b0 xs ys → OutR (tI 3).d (fun x y : Int => x < y) a0 b0 a1 b1 ys → 0 < a1 → ∀ k, a1 ≤ k → k < b1 → ¬ (fun x y : Int => x < y) (ys.getD k (tI 3).d) (ys.getD (a1 - 1) (tI 3).d) := by
    intro a1 b1 ys g1 g2 w ho h1 k k1 k2
    by_cases he : a1 = a0
    · subst he
      rw [w.out (k := a1 - 1) (.inl (by omega))]
      exact w.all (P := fun x => ¬ (fun x y : Int => x < y) x (xs.getD (a1 - 1) (tI 3).d)) (hlow h1) k k1 (by omega)
    · exact ho (a1 - 1) k (by omega) (by omega) (by omega) (by omega)
  have b5 : ∀ (a1 b1 pv : Nat) (lim : Int) (h' : Hp) (nx : Int × Int × Int × Bool × Bool × Unit → Hp → Prop), yafj () h0 p n cp a0 b0 xs F a1 b1 h' → a1 ≤ pv → pv < b1 → 0 ≤ lim → lim < 1000000 →
      (∀ (a2 b2 : Nat) (l2 : Int) (wb wp : Bool) (h2 : Hp), yafj () h0 p n cp a0 b0 xs F a2 b2 h2 → b2 - a2 < b1 - a1 → 0 ≤ l2 → l2 < 1000000 → nx ((a2 : Int), (b2 : Int), l2, wb, wp, ()) h2) → zem_b5 p n cp a1 b1 lim ((b1 : Int) - a1) pv h' nx R := by
    rintro a1 b1 pv lim h' nx ⟨g1, g2, g3, ys, A1, o, s, w, ho2⟩ hv1 hv2 hl1 hl2 hnx
    have hl := o.len
    have hPy := w.allN hl0 hP
    rw [zem_b5_eq]
    refine (yaoq  s o hPy rfl rfl rfl ⟨hv1, hv2⟩ (by omega) hn).mono fun v h2 ⟨m, bb, hv, m1, m2, zs, A2, o2, s2, w2, hp⟩ => ⟨_, _, hv, ⟨by omega, by omega⟩, ⟨by omega, by omega⟩, yaco (by omega) (by omega) (by omega) ?_⟩
    have w02 := w.trans (w2.mono g1 g3 (by omega)).1
    have ho3 := yacr g1 g3 ho2 w2
    have hPz := w02.allN hl0 hP
    have hlz := o2.len
    have hlow2 := low a1 b1 zs g1 g3 w02 ho3
    refine condP (fun hlt => ?_) (fun hlt => ⟨⟨by omega, by omega⟩, ?_⟩)
    · refine (ih (m - a1) (by omega) (a0 := a1) (b0 := m) (Nat.le_refl _) s2 o2 hPz rfl rfl m1 (by omega) ⟨hl1, hl2⟩ fun q k k1 k2 => hlow2 q k k1 (by omega)).mono fun v h3 ⟨hv, us, A3, o3, s3, w3, hs3⟩ => ⟨hv, ⟨by omega, by omega⟩, ?_⟩
      have hm : us.getD m (tI 3).d = zs.getD m (tI 3).d := w3.out (.inr (Nat.le_refl _))
      have hp3 : PartR (tI 3).d (fun x y : Int => x < y) a1 b1 m us := ⟨by rw [hm]; exact w3.all (P := fun x => (fun x y : Int => x < y) x (zs.getD m (tI 3).d)) hp.1, fun k k1 k2 => by rw [hm, w3.out (k := k) (.inr (by omega))]; exact hp.2 k k1 k2⟩
      have := hnx (m + 1) b1 lim (decide (((b1 : Int) - a1) / 8 ≤ (m : Int) - a1)) bb h3 ⟨by omega, by omega, g3, us, A3, o3, s3, w02.trans (w3.mono g1 (by omega) (by omega)).1, yate ordI g1 g3 m1 m2 (yacr g1 g3 ho3 (w3.mono (Nat.le_refl _) (by omega) (by omega)).1) hp3 hs3⟩ (by omega) hl1 hl2
      rwa [show ((m + 1 : Nat) : Int) = (m : Int) + 1 by push_cast; rfl] at this
    · refine (ih (b1 - (m + 1)) (by omega) (a0 := m + 1) (b0 := b1) (Nat.le_refl _) s2 o2 hPz (by push_cast; rfl) rfl (by omega) (by omega) ⟨hl1, hl2⟩ fun q k k1 k2 => hp.2 k (by omega) k2).mono fun v h3 ⟨hv, us, A3, o3, s3, w3, hs3⟩ => ⟨hv, ?_⟩
      have hm : us.getD m (tI 3).d = zs.getD m (tI 3).d := w3.out (.inl (by omega))
      have hp3 : PartR (tI 3).d (fun x y : Int => x < y) a1 b1 m us := ⟨fun k k1 k2 => by rw [hm, w3.out (k := k) (.inl (by omega))]; exact hp.1 k k1 k2, fun k k1 k2 => by rw [hm]; exact w3.all (P := fun x => ¬ (fun x y : Int => x < y) x (zs.getD m (tI 3).d)) (fun k k1 k2 => hp.2 k (by omega) k2) k (by omega) k2⟩
      exact hnx a1 m lim _ bb h3 ⟨g1, m1, by omega, us, A3, o3, s3, w02.trans (w3.mono (by omega) g3 (by omega)).1, yapd ordI g1 g3 m1 m2 (yacr g1 g3 ho3 (w3.mono (by omega) (Nat.le_refl _) (by omega)).1) hp3 hs3⟩ (by omega) hl1 hl2
  have b4 : ∀ (a1 b1 pv : Nat) (lim : Int) (wb wp : Bool) (h' : Hp) (nx : Int × Int × Int × Bool × Bool × Unit → Hp → Prop), yafj () h0 p n cp a0 b0 xs F a1 b1 h' → a1 ≤ pv → pv < b1 → 0 ≤ lim → lim < 1000000 →
      (∀ (a2 b2 : Nat) (l2 : Int) (wb wp : Bool) (h2 : Hp), yafj () h0 p n cp a0 b0 xs F a2 b2 h2 → b2 - a2 < b1 - a1 → 0 ≤ l2 → l2 < 1000000 → nx ((a2 : Int), (b2 : Int), l2, wb, wp, ()) h2) → zem_b4 p n cp a1 b1 lim wb wp ((b1 : Int) - a1) pv h' nx R := by
    rintro a1 b1 pv lim wb wp h' nx ⟨g1, g2, g3, ys, A1, o, s, w, ho2⟩ hv1 hv2 hl1 hl2 hnx
    have hl := o.len
    rw [zem_b4_eq]
    refine condP (fun ha => ⟨⟨by omega, by omega⟩, ?_⟩) (fun _ => b5 a1 b1 pv lim _ _ ⟨g1, g2, g3, ys, A1, o, s, w, ho2⟩ hv1 hv2 hl1 hl2 hnx)
    have hlow2 := low a1 b1 ys g1 g3 w ho2 (by omega)
    have r := o.rd s
    have hPy := w.allN hl0 hP
    have hP := hPy
    refine ldOI (i' := a1 - 1) r (by omega) (by omega) (ldOI (i' := pv) r rfl (by omega) ?_)
    refine ⟨_, (yacn _ _ _).mono fun v9 h9 ⟨hh9, hv9⟩ => ⟨hv9, hh9⟩, ?_⟩
    refine condN (fun hc => ?_) (fun hc => b5 a1 b1 pv lim _ _ ⟨g1, g2, g3, ys, A1, o, s, w, ho2⟩ hv1 hv2 hl1 hl2 hnx)
    refine (yagw  s o hPy rfl rfl rfl ⟨hv1, hv2⟩ (by omega) hn).mono fun v h2 ⟨m, hv, m1, m2, zs, A2, o2, s2, w2, hp⟩ => ⟨_, hv, ?_⟩
    exact hnx m b1 lim wb wp h2 ⟨by omega, m2, g3, zs, A2, o2, s2, w.trans (w2.mono g1 g3 (by omega)).1, yare ordI g1 g3 (by omega) m2 (yacr g1 g3 ho2 w2) hp.2 (w2.all (P := fun x => ¬ (fun x y : Int => x < y) x (ys.getD pv (tI 3).d)) fun k k1 k2 => ordI.trans _ _ _ hc (hlow2 k k1 k2))⟩ (by omega) hl1 hl2
  have b3 : ∀ (a1 b1 pv : Nat) (hint lim : Int) (wb wp : Bool) (h' : Hp) (nx : Int × Int × Int × Bool × Bool × Unit → Hp → Prop), yafj () h0 p n cp a0 b0 xs F a1 b1 h' → a1 ≤ pv → pv < b1 → 0 ≤ lim → lim < 1000000 →
      (∀ (a2 b2 : Nat) (l2 : Int) (wb wp : Bool) (h2 : Hp), yafj () h0 p n cp a0 b0 xs F a2 b2 h2 → b2 - a2 < b1 - a1 → 0 ≤ l2 → l2 < 1000000 → nx ((a2 : Int), (b2 : Int), l2, wb, wp, ()) h2) → zem_b3 p n cp a1 b1 lim wb wp ((b1 : Int) - a1) pv hint h' nx R := by
    rintro a1 b1 pv hint lim wb wp h' nx hI hv1 hv2 hl1 hl2 hnx
    have go := fun h2 (hI : yafj () h0 p n cp a0 b0 xs F a1 b1 h2) => b4 a1 b1 pv lim wb wp h2 nx hI hv1 hv2 hl1 hl2 hnx
    rw [zem_b3_eq]
    refine yaar (fun _ => yaar (fun _ => condP (fun _ => ?_) fun _ => go _ hI) fun _ => go _ hI) fun _ => go _ hI
    obtain ⟨g1, g2, g3, ys, A1, o, s, w, ho2⟩ := hI
    have hl := o.len
    refine (yadk  s o (w.allN hl0 hP) rfl rfl (by omega) (by omega) hn (low a1 b1 ys g1 g3 w ho2)).mono fun v h2 ⟨bb, hv, zs, A2, o2, s2, w2, hp⟩ => ⟨_, hv, yaar (fun hb => ?_) (fun hb => ?_)⟩
    · exact fin a1 b1 h2 ys g1 g3 w ho2 ⟨zs, A2, o2, s2, w2, hp hb⟩
    · exact go _ ⟨g1, g2, g3, zs, A2, o2, s2, w.trans (w2.mono g1 g3 (by omega)).1, yacr g1 g3 ho2 w2⟩
  have b2 : ∀ (a1 b1 : Nat) (lim : Int) (wb wp : Bool) (h' : Hp) (nx : Int × Int × Int × Bool × Bool × Unit → Hp → Prop), yafj () h0 p n cp a0 b0 xs F a1 b1 h' → a1 < b1 → 0 ≤ lim → lim < 1000000 →
      (∀ (a2 b2 : Nat) (l2 : Int) (wb wp : Bool) (h2 : Hp), yafj () h0 p n cp a0 b0 xs F a2 b2 h2 → b2 - a2 < b1 - a1 → 0 ≤ l2 → l2 < 1000000 → nx ((a2 : Int), (b2 : Int), l2, wb, wp, ()) h2) → zem_b2 p n cp a1 b1 lim wb wp ((b1 : Int) - a1) h' nx R := by
    rintro a1 b1 lim wb wp h' nx ⟨g1, g2, g3, ys, A1, o, s, w, ho2⟩ hlt hl1 hl2 hnx
    have hl := o.len
    rw [zem_b2_eq]
    refine (yajg  s o (w.allN hl0 hP) rfl rfl hlt (by omega) hn).mono fun v h2 ⟨u, hint, hv, u1, u2, s⟩ => ⟨_, _, hv, condP (fun _ => ?_) (fun _ => ?_)⟩
    · refine (yahs s o rfl rfl (by omega) (by omega) hn).mono fun v h2 ⟨hv, zs, A2, o2, s2, w2, _⟩ => ⟨hv, ⟨by omega, by omega⟩, ⟨by omega, by omega⟩, ⟨by omega, by omega⟩, ?_⟩
      have := b3 a1 b1 ((b1 : Int) - 1 - (u - a1)).toNat 1 lim wb wp h2 nx ⟨g1, g2, g3, zs, A2, o2, s2, w.trans (w2.mono g1 g3 (by omega)).1, yacr g1 g3 ho2 w2⟩ (by omega) (by omega) hl1 hl2 hnx
      rwa [Int.toNat_of_nonneg (by omega)] at this
    · have := b3 a1 b1 u.toNat hint lim wb wp h2 nx ⟨g1, g2, g3, ys, A1, o, s, w, ho2⟩ (by omega) (by omega) hl1 hl2 hnx
      rwa [Int.toNat_of_nonneg (by omega)] at this
  rw [zem_b0_eq]
  refine ⟨fun st h1 => ∃ (a1 b1 : Nat), st.1 = (a1 : Int) ∧ st.2.1 = (b1 : Int) ∧ 0 ≤ st.2.2.1 ∧ st.2.2.1 < 1000000 ∧ yafj () h0 p n cp a0 b0 xs F a1 b1 h1, fun st _ => (st.2.1 - st.1).toNat, ⟨a0, b0, rfl, rfl, hlim.1, hlim.2, Nat.le_refl _, hab, Nat.le_refl _, xs, A, o, s, .refl _, yaje⟩, ?_⟩
  rintro ⟨_, _, lim, wb, wp, _⟩ h1 ⟨a1, b1, rfl, rfl, hl1, hl2, hI⟩
  dsimp only at hl1 hl2 ⊢
  have go := fun (l2 : Int) (h2 : Hp) (hI : yafj () h0 p n cp a0 b0 xs F a1 b1 h2) (hlt : a1 < b1) (q1 : 0 ≤ l2) (q2 : l2 < 1000000) => b2 a1 b1 l2 wb wp h2 (fun s' h' => (∃ (a1 b1 : Nat), s'.1 = (a1 : Int) ∧ s'.2.1 = (b1 : Int) ∧ 0 ≤ s'.2.2.1 ∧ s'.2.2.1 < 1000000 ∧ yafj () h0 p n cp a0 b0 xs F a1 b1 h') ∧ (s'.2.1 - s'.1).toNat < ((b1 : Int) - a1).toNat) hI hlt q1 q2 fun a2 b2 l2 wb wp h2 hI2 hm k1 k2 => ⟨⟨a2, b2, rfl, rfl, k1, k2, hI2⟩, by have := hI2.2.1; dsimp only; omega⟩
  have hI' := hI
  obtain ⟨g1, g2, g3, ys, A1, o, s, w, ho2⟩ := hI
  have hl := o.len
  rw [zem_b1_eq]
  refine ⟨⟨by omega, by omega⟩, condP (fun h12 => ?_) (fun h12 => condP (fun hz => ?_) (fun hz => yaar (fun _ => ?_) (fun _ => ?_)))⟩
  · exact (yahf  s o (w.allN hl0 hP) rfl rfl (by omega) (by omega) hn).mono fun v h2 ⟨hv, hO⟩ => ⟨hv, fin a1 b1 h2 ys g1 g3 w ho2 hO⟩
  · exact (yari  s o (w.allN hl0 hP) rfl rfl (by omega) (by omega) hn).mono fun v h2 ⟨hv, hO⟩ => ⟨hv, fin a1 b1 h2 ys g1 g3 w ho2 hO⟩
  · refine (yahd s o rfl rfl (by omega) (by omega) hn).mono fun v h2 ⟨hv, zs, A2, o2, s2, w2, _⟩ => ⟨hv, ⟨by omega, by omega⟩, ?_⟩
    exact go (lim - 1) h2 ⟨g1, g2, g3, zs, A2, o2, s2, w.trans (w2.mono g1 g3 (by omega)).1, yacr g1 g3 ho2 w2⟩ (by omega) (by omega) (by omega)
  · exact go lim h1 hI' (by omega) hl1 hl2
theorem yazu {h0 h : Hp} {p : OA} {n cp : Nat} {xs : List Int} {A F : Bag} {P : Int → Prop} (s : St h0 h (A + F)) (o : Sl (tI 3) p n cp xs A) (hP : ∀ k, k < n → P (xs.getD k (tI 3).d)) (hn : n < 1000000) :
    yaae Tryz.prog 125 #[.slice p n cp] h (fun v h' => v = .tuple #[] ∧ ∃ ys A', Sl (tI 3) p n cp ys A' ∧ St h0 h' (A' + F) ∧ ys.Perm xs ∧ ys.Pairwise (fun x y => ¬ (fun x y : Int => x < y) y x)) := by
  refine zea_call ?_
  rw [zea_b0, yacu _ (by omega) (by omega)]
  refine (yaiz n (by omega) h).mono fun v h1 ⟨hv, hh⟩ => ⟨_, hv, ?_⟩
  subst hh
  have hl : blen n ≤ 20 := yarw (by omega)
  refine (pdqOI  hn n (a0 := 0) (b0 := n) (by omega) s o hP rfl rfl (by omega) (Nat.le_refl _) ⟨by omega, by omega⟩ (fun h => by omega)).mono fun v h2 ⟨hv, ys, A', o2, s2, w, hs⟩ => ⟨hv, rfl, ys, A', o2, s2, w.perm, yajq o2.len hs⟩
theorem yamz {ys : List Int} (h : ys.Pairwise (fun x y => ¬ (fun x y : Int => x < y) y x)) : ys.Pairwise (· ≤ ·) := h.imp fun h => Int.not_lt.1 h
theorem yafw {xs ys zs : List Int} (h1 : xs.Pairwise (· ≤ ·)) (h2 : ys.Pairwise (· ≤ ·)) (h3 : zs.Pairwise (· ≤ ·)) (hp : zs.Perm (xs ++ ys)) : zs = yabc xs ys :=
  List.Perm.eq_of_pairwise (fun a b _ _ h1 h2 => Int.le_antisymm h1 h2) h3 (yacc _ _ h1 h2) (hp.trans (yabj _ _).symm)
theorem yahh {l : List (List Int)} (h : ∀ r ∈ l, r.Pairwise (· ≤ ·)) (i : Nat) : (l.getD i []).Pairwise (· ≤ ·) := by
  rcases Nat.lt_or_ge i l.length with hi | hi
  · exact h _ (by rw [yaac hi]; exact List.getElem_mem hi)
  · rw [List.getD_eq_getElem?_getD, List.getElem?_eq_none hi]; exact List.Pairwise.nil
section
variable {h0 h : Hp} {b1 b2 : Nat} {l : List (List Int)} {p q : OA} {n c m cc : Nat} {code : Int} {zs : List Int} {B G : Bag} {y0 y1 y2 : Value}
theorem yawd (b : Bool) (h : Hp) : yaae Tryz.prog 133 #[.bool b] h (fun v h' => v = .int .i64 (if b = true then 1 else 0) ∧ h' = h) := by
  refine zby_call ?_
  rw [zby_b0]
  cases b
  · exact yaat rfl ⟨rfl, rfl⟩
  · exact yaaw rfl ⟨rfl, rfl⟩
theorem yahg (hso : ∀ r ∈ l, r.Pairwise (· ≤ ·)) (na : RowsA (p, n, c) l B) (s : St h0 h (modA b1 b2 code q m cc y0 y1 y2 B G)) (hn : n ≤ 1000) (ht : tot l ≤ 500) {a b : Nat} (hab : a < b) (hb : b < n) :
    zbw_b8 p n c (some ⟨b2, 0, none⟩) (a : Int) (b : Int) h (yafk h0 G (cutL (l.set a (yabc (l.getD a []) (l.getD b []))) b) 0 1) := by
  have hl : l.length = n := yaav na
  rw [zbw_b8]
  delta modA at s
  have na0 := na
  obtain ⟨hs, B0, B1, rfl, h1, h2⟩ := na
  have hsl : hs.length = n := h1.len
  obtain ⟨Ai, Br, rfl, oa, hset⟩ := AllH.editH h2 (i := a) (by omega)
  have oal : (l.getD a []).length = (hs.getD a TR.d).2.1 := oa.len
  have la := yagf ht a
  have lb := yagf ht b
  refine ldH (i' := a) h1 (s.at B0) rfl (by omega) (yack na0 (s.at (B0 + (Ai + Br))) rfl hb fun qb db rb => ?_)
  refine yabf (F := B0 + (Br + (cA b2 [y0, y1, y2] 58 + (cA b1 [.int .i64 code, .slice q m cc] 50 + G)))) yagz s.to oa rb (by omega) fun p' c' h' A' o' s' => ?_
  refine wrH (i' := a) (x := (p', (hs.getD a (none, 0, 0)).2.1 + (l.getD b []).length, c')) (F := A' + (Br + (cA b2 [y0, y1, y2] 58 + (cA b1 [.int .i64 code, .slice q m cc] 50 + G)))) h1 s'.to rfl (by omega) fun h3 B3 o3 s3 => ?_
  have na3 : RowsA (p, n, c) (l.set a (l.getD a [] ++ l.getD b [])) (B3 + (A' + Br)) := ⟨_, B3, A' + Br, rfl, o3, hset _ _ _ o'⟩
  have s3 : St h0 h3 (B3 + (A' + Br) + (cA b2 [y0, y1, y2] 58 + (cA b1 [.int .i64 code, .slice q m cc] 50 + G))) := s3.to
  refine yadb na3 s3 (by omega) (by omega) fun q4 l4 d4 Bi4 Br4 o4 hB4 hset4 => ?_
  rw [Int.toNat_natCast, yadu (by omega), if_pos rfl] at o4
  have o4l : (l.getD a [] ++ l.getD b []).length = l4 := o4.len
  rw [List.length_append] at o4l
  rw [hB4] at s3
  refine (yazu (P := fun _ => True) (F := Br4 + (cA b2 [y0, y1, y2] 58 + (cA b1 [.int .i64 code, .slice q m cc] 50 + G))) s3.to o4 (fun _ _ => trivial) (by omega)).mono fun v h5 ⟨hv, ys, A5, o5, s5, hp, hsrt⟩ => ⟨hv, ⟨by omega, by omega⟩, ?_⟩
  have na5 := hset4 _ _ o5
  rw [Int.toNat_natCast, List.set_set, yafw (yahh hso a) (yahh hso b) (yamz hsrt) hp] at na5
  refine (yaem (G := cA b2 [y0, y1, y2] 58 + (cA b1 [.int .i64 code, .slice q m cc] 50 + G)) (i := b) na5 s5.to hb rfl (by omega)).mono fun v h' ⟨B', hv, na', s⟩ => ⟨_, _, _, hv, ?_⟩
  exact mboxT (b2 := b2) (D := cA b1 [.int .i64 code, .slice q m cc] 50) na' s.to (yaan _ _)
theorem yayb (hso : ∀ r ∈ l, r.Pairwise (· ≤ ·)) (na : RowsA (p, n, c) l B) (rz : RdS h0 G TI q m zs) (s : St h0 h (B + G)) (hn : n ≤ 1000) (ht : tot l ≤ 500) (hc : 1 ≤ code ∧ code ≤ 5) (h1 : code = 4 → zs.length = 1) (h2 : code = 2 ∨ code = 3 → zs.length = 2) :
    yaae Tryz.prog 95 #[.slice p n c, .agg #[.int .i64 code, .slice q m cc]] h (yaoe h0 G l code zs) := by
  have hl : l.length = n := yaav na
  refine zbw_call ?_
  rw [zbw_b0]
  refine s.new (cs := [_, _]) fun b1 h3 _ s => s.new (cs := [_, _, _]) fun b2 h4 _ s => ?_
  have rzG : ∀ h' {A : Bag}, St h0 h' (modA b1 b2 code q m cc (.int .i64 0) (.int .i64 0) (.slice none 0 0) A G) → RdT TI h' q m zs := fun h' {A} s => rz h' (cA b2 [.int .i64 0, .int .i64 0, .slice none 0 0] 58 + (cA b1 [.int .i64 code, .slice q m cc] 50 + A)) (by delta modA at s; exact s.to)
  refine ⟨_, s.ld0, condP (fun h5 => ?_) (fun h5 => condP (fun hp => ?_) (fun hp => ?_))⟩
  · have e : setsS l code zs = (l, 0, (l.length : Int)) := by subst h5; rfl
    rw [yaoe, e, hl]
    exact mboxT na s (yaan _ _)
  · refine ⟨fun x h' => h' = h4 ∧ ∃ i : Nat, x.2.1 = i ∧ i ≤ n ∧ x.1 = (tot (l.take i) : Int), fun x _ => (n - x.2.1).toNat, ⟨rfl, 0, rfl, Nat.zero_le _, by simp [tot]⟩, ?_⟩
    rintro ⟨x, y, _⟩ h7 ⟨rfl, i, rfl, hi, hx⟩
    dsimp only at hx ⊢
    subst hx
    rw [zbw_b1]
    refine condP (fun hlt => ?_) (fun hge => ?_)
    · refine yack na (s.at B) rfl (by omega) fun q d r => ?_
      have := yafb (rows := l) (i := i) (by omega)
      have := yatk (rows := l) (i + 1)
      refine ⟨⟨by omega, by omega⟩, ?_⟩
      rw [zbw_b3]
      exact ⟨⟨by omega, by omega⟩, ⟨rfl, i + 1, by push_cast; rfl, by omega, by push_cast; omega⟩, by dsimp only; omega⟩
    · rw [zbw_b4, List.take_of_length_le (by omega)]
      refine condP (fun hf => ?_) (fun hf => ?_)
      · have e : setsS l code zs = (l, 4, 0) := by subst hp; show (if tot l = 500 then (l, 4, 0) else _) = _; rw [if_pos (by omega)]
        rw [yaoe, e]
        exact mboxT na s (yaas _ _)
      · have e : setsS l code zs = (l ++ [[(tot l : Int)]], 0, (tot l : Int)) := by subst hp; show (if tot l = 500 then (l, 4, 0) else _) = _; rw [if_neg (by omega)]
        rw [yaoe, e]
        refine s.new (cs := [_]) fun b5 h8 _ s => ?_
        have o5 : Sl TI (some ⟨b5, 0, none⟩) 1 1 [(tot l : Int)] (cA b5 [.int .i64 (tot l : Int)] 3) := Sl.of_blk (T := TI) rfl rfl
        refine yagu (s.to (B := B + (cA b5 [.int .i64 (tot l : Int)] 3 + (cA b2 [.int .i64 0, .int .i64 0, .slice none 0 0] 58 + (cA b1 [.int .i64 code, .slice q m cc] 50 + G))))) na o5 rfl (by omega) fun p' c' h' A' na' s => ?_
        exact mboxT (b2 := b2) (D := cA b1 [.int .i64 code, .slice q m cc] 50) na' s.to (yaan _ _)
  have hrz := rzG h4 (by delta modA; exact s)
  have hzl := hrz.len
  rw [zbw_b2]
  refine ⟨_, _, _, s.ldB, ldI (i' := 0) hrz rfl (by omega) ?_⟩
  refine (yamk na (s.at B) hn (by omega)).mono fun v h8 ⟨hv, s⟩ => ⟨_, hv, ?_⟩
  have s : St h0 h8 (cA b2 [.int .i64 0, .int .i64 0, .slice none 0 0] 58 + (cA b1 [.int .i64 code, .slice q m cc] 50 + (B + G))) := s.to
  refine ⟨_, _, _, s.ldB, condP (fun h1m => ?_) (fun h1m => ?_)⟩
  · have h23 : code = 2 ∨ code = 3 := by omega
    have e : setsS l code zs = (if clsZ l (zs.getD 0 0) < 0 ∨ clsZ l (zs.getD 1 0) < 0 then (l, 12, 0) else if code = 3 then (l, 0, if clsN l (zs.getD 0 0) = clsN l (zs.getD 1 0) then 1 else 0) else if clsN l (zs.getD 0 0) = clsN l (zs.getD 1 0) then (l, 0, 0) else (uniR l (clsN l (zs.getD 0 0)) (clsN l (zs.getD 1 0)), 0, 1)) := by
      unfold setsS
      rw [if_neg hp, if_neg h5, if_neg (by omega)]
    rw [yaoe, e]
    have hrz8 := rzG h8 (by delta modA; exact s)
    refine ⟨_, _, _, s.ldB, ldI (i' := 1) hrz8 rfl (by omega) ?_⟩
    refine (yamk na (s.at B) hn (by omega)).mono fun v h9 ⟨hv, s⟩ => ⟨_, hv, ?_⟩
    have s : St h0 h9 (cA b2 [.int .i64 0, .int .i64 0, .slice none 0 0] 58 + (cA b1 [.int .i64 code, .slice q m cc] 50 + (B + G))) := s.to
    rw [zbw_b5]
    refine condP (fun ha => ?_) (fun ha => condP (fun hb => ?_) (fun hb => ?_))
    · rw [if_pos (Or.inl ha)]; exact mboxT na s (yaas _ _)
    · rw [if_pos (Or.inr hb)]; exact mboxT na s (yaas _ _)
    rw [if_neg (by omega)]
    obtain ⟨e1, e2⟩ := yado ha
    obtain ⟨e3, e4⟩ := yado hb
    rw [e1, e3]
    generalize clsN l (zs.getD 0 0) = a at e2 ⊢
    generalize clsN l (zs.getD 1 0) = b at e4 ⊢
    rw [zbw_b6]
    refine ⟨_, s.ld0, yaat (decide_eq_false (by omega)) (condP (fun h3 => ?_) (fun h3 => ?_))⟩
    · rw [if_pos h3]
      refine (yawd _ _).mono fun v h10 ⟨hv, hh⟩ => ⟨_, hv, ?_⟩
      subst hh
      have e5 : (if decide ((a : Int) = (b : Int)) = true then (1 : Int) else 0) = if a = b then 1 else 0 := by
        by_cases h : a = b
        · rw [if_pos h, if_pos (decide_eq_true (by omega))]
        · rw [if_neg h, if_neg (by rw [decide_eq_false (by omega)]; decide)]
      rw [e5]
      exact mboxT na s (yaan _ _)
    · rw [if_neg h3, zbw_b7]
      refine condP (fun he => ?_) (fun he => ?_)
      · rw [if_pos (by omega)]; exact mboxT na s (yaan _ _)
      rw [if_neg (by omega)]
      refine condP (fun hba => ?_) (fun hba => ?_)
      · have r := yahg (b1 := b1) (b2 := b2) (code := code) (q := q) (m := m) (cc := cc) (y0 := .int .i64 0) (y1 := .int .i64 0) (y2 := .slice none 0 0) (a := b) (b := a) hso na (by delta modA; exact s) hn ht (by omega) (by omega)
        have e6 : yabc (l.getD b []) (l.getD a []) = yabc (l.getD a []) (l.getD b []) := by
          refine yafw (yahh hso a) (yahh hso b) (yacc _ _ (yahh hso b) (yahh hso a)) ((yabj _ _).trans List.perm_append_comm)
        rw [e6] at r
        rw [uniR, show min a b = b by omega, show max a b = a by omega]
        exact r
      · have r := yahg (b1 := b1) (b2 := b2) (code := code) (q := q) (m := m) (cc := cc) (y0 := .int .i64 0) (y1 := .int .i64 0) (y2 := .slice none 0 0) (a := a) (b := b) hso na (by delta modA; exact s) hn ht (by omega) (by omega)
        rw [uniR, show min a b = a by omega, show max a b = b by omega]
        exact r
  · have h4 : code = 4 := by omega
    have e : setsS l code zs = (if clsZ l (zs.getD 0 0) < 0 then (l, 12, 0) else (l, 0, ((l.getD (clsN l (zs.getD 0 0)) []).length : Int))) := by subst h4; rfl
    rw [yaoe, e, zbw_b5]
    refine condP (fun ha => ?_) (fun ha => condP (fun hb => absurd hb ha) (fun _ => ?_))
    · rw [if_pos ha]; exact mboxT na s (yaas _ _)
    rw [if_neg ha, zbw_b6]
    obtain ⟨e1, e2⟩ := yado ha
    rw [e1]
    exact ⟨_, s.ld0, yaaw (decide_eq_true h4) (yack na (s.at B) rfl (by omega) fun q' d' _ => mboxT na s (yaan _ _))⟩
end
end Go.Proofs.YtllhdhpjgihjfaaGreatDoor
namespace Go.Sx
variable {α : Type} {d : α}
noncomputable def like (lt : α → α → Prop) (z y : α) : Bool := @decide (¬ lt y z ∧ ¬ lt z y) (Classical.propDecidable _)
def Stb (lt : α → α → Prop) (xs ys : List α) : Prop := ys.Perm xs ∧ ∀ z, ys.filter (like lt z) = xs.filter (like lt z)
theorem Stb.refl {lt : α → α → Prop} (xs : List α) : Stb lt xs xs := ⟨.refl _, fun _ => rfl⟩
theorem Stb.trans {lt : α → α → Prop} {xs ys zs : List α} (h1 : Stb lt xs ys) (h2 : Stb lt ys zs) : Stb lt xs zs := ⟨h2.1.trans h1.1, fun z => (h2.2 z).trans (h1.2 z)⟩
theorem yanc {xs : List α} {n q : Nat} : (xs.take n).getD q d = if q < n then xs.getD q d else d := by
  rw [List.getD_eq_getElem?_getD, List.getElem?_take]
  split
  · rw [← List.getD_eq_getElem?_getD]
  · rfl
section
variable {lt : α → α → Prop} (o : OrdP lt)
end
def up (k : Nat) (x : Int) : Int := x / 2 ^ k
abbrev Pt := Int × Int × Int
def inB (x1 x2 y1 y2 : Int) (p : Pt) : Bool := decide (x1 ≤ p.1 ∧ p.1 ≤ x2 ∧ y1 ≤ p.2.1 ∧ p.2.1 ≤ y2)
def wSum (l : List Pt) : Int := (l.map fun p => p.2.2).sum
theorem yatc (p : Pt) (l : List Pt) : wSum (p :: l) = p.2.2 + wSum l := by simp [wSum]
theorem yayi (l m : List Pt) : wSum (l ++ m) = wSum l + wSum m := by simp [wSum]
def cntB (x1 x2 y1 y2 : Int) (l : List Pt) : Int := ((l.filter (inB x1 x2 y1 y2)).length : Int)
def sumB (x1 x2 y1 y2 : Int) (l : List Pt) : Int := wSum (l.filter (inB x1 x2 y1 y2))
section
variable {x1 x2 y1 y2 : Int}
theorem yaph (l m : List Pt) : cntB x1 x2 y1 y2 (l ++ m) = cntB x1 x2 y1 y2 l + cntB x1 x2 y1 y2 m := by unfold cntB; rw [List.filter_append, List.length_append]; push_cast; rfl
theorem yaqu (l m : List Pt) : sumB x1 x2 y1 y2 (l ++ m) = sumB x1 x2 y1 y2 l + sumB x1 x2 y1 y2 m := by unfold sumB; rw [List.filter_append, yayi]
end
section
variable {y1 y2 : Int}
end
def ptLt (p q : Pt) : Prop := p.1 < q.1 ∨ (p.1 = q.1 ∧ p.2.1 < q.2.1)
instance (p q : Pt) : Decidable (ptLt p q) := inferInstanceAs (Decidable (_ ∨ _))
theorem yasf {p q r : Pt} (h : ptLt p q) (h' : ptLt q r) : ptLt p r := by unfold ptLt at *; omega
def PtsS (l : List Pt) : Prop := l.Pairwise ptLt
def place (p : Pt) : Int × Int := (p.1, p.2.1)
end Go.Sx
namespace Go.Proofs.YtllhdhpjgihjfaaGreatDoor
open Go Go.Sx
abbrev dPt : Pt := (0, 0, 0)
abbrev row3 (p : Pt) : List Int := [p.1, p.2.1, p.2.2]
abbrev WOk (l : List Pt) : Prop := ∀ x ∈ l, -1048576 ≤ x.2.2 ∧ x.2.2 ≤ 1048576
theorem yahm {l : List Pt} {i : Nat} (h : i < l.length) : l.take (i + 1) = l.take i ++ [l.getD i dPt] := by
  rw [List.take_succ_eq_append_getElem h, yaac h]
theorem yalz (x1 x2 y1 y2 : Int) (p : Pt) (l : List Pt) : cntB x1 x2 y1 y2 (p :: l) = (if inB x1 x2 y1 y2 p = true then 1 else 0) + cntB x1 x2 y1 y2 l := by
  unfold cntB
  rw [List.filter_cons]
  split
  · rw [List.length_cons]; push_cast; omega
  · omega
theorem yaiq (x1 x2 y1 y2 : Int) (p : Pt) (l : List Pt) : sumB x1 x2 y1 y2 (p :: l) = (if inB x1 x2 y1 y2 p = true then p.2.2 else 0) + sumB x1 x2 y1 y2 l := by
  unfold sumB
  rw [List.filter_cons]
  split
  · rw [yatc]
  · omega
theorem yajb {a b y1 y2 : Int} {l : List Pt} (hw : WOk l) : -(1048576 * (l.length : Int)) ≤ sumB a b y1 y2 l ∧ sumB a b y1 y2 l ≤ 1048576 * (l.length : Int) := by
  induction l with
  | nil => exact ⟨Int.le_refl _, Int.le_refl _⟩
  | cons p l ih =>
    have := ih fun x hx => hw x (List.mem_cons_of_mem _ hx)
    have := hw p (List.mem_cons_self ..)
    rw [yaiq, List.length_cons]
    push_cast
    split <;> omega
def posP (l : List Pt) (x y : Int) : Nat := (l.takeWhile fun q => decide (ptLt q (x, y, 0))).length
def yajs (l : List Pt) (x y : Int) : Prop := posP l x y < l.length ∧ (l.getD (posP l x y) dPt).1 = x ∧ (l.getD (posP l x y) dPt).2.1 = y
instance (l : List Pt) (x y : Int) : Decidable (yajs l x y) := inferInstanceAs (Decidable (_ ∧ _))
def ptsS (l : List Pt) (c : Int) (zs : List Int) : List Pt × Int × Int :=
  if c = 5 then (l, 0, (l.length : Int)) else if c = 3 then (l, 0, cntB (zs.getD 0 0) (zs.getD 1 0) (zs.getD 2 0) (zs.getD 3 0) l) else if c = 4 then (l, 0, sumB (zs.getD 0 0) (zs.getD 1 0) (zs.getD 2 0) (zs.getD 3 0) l)
  else if c = 1 then (if yajs l (zs.getD 0 0) (zs.getD 1 0) then (l, 15, 0) else if l.length = 500 then (l, 4, 0) else (l.take (posP l (zs.getD 0 0) (zs.getD 1 0)) ++ (zs.getD 0 0, zs.getD 1 0, zs.getD 2 0) :: l.drop (posP l (zs.getD 0 0) (zs.getD 1 0)), 0, 0))
  else (if yajs l (zs.getD 0 0) (zs.getD 1 0) then (cutL l (posP l (zs.getD 0 0) (zs.getD 1 0)), 0, (l.getD (posP l (zs.getD 0 0) (zs.getD 1 0)) dPt).2.2) else (l, 12, 0))
theorem yayn {l : List Pt} {p : Pt} (so : PtsS l) : ∀ x ∈ l.dropWhile (fun q => decide (ptLt q p)), ¬ ptLt x p := by
  induction l with
  | nil => intro x hx; cases hx
  | cons a l ih =>
    have h := List.pairwise_cons.1 so
    intro x hx
    rw [List.dropWhile_cons] at hx
    by_cases ha : ptLt a p
    · rw [if_pos (decide_eq_true ha)] at hx; exact ih h.2 x hx
    · rw [if_neg (by simpa using ha)] at hx
      rcases List.mem_cons.1 hx with rfl | hx
      · exact ha
      · have := h.1 x hx
        unfold ptLt at *; omega
theorem yawi {l : List Pt} (so : PtsS l) (x y : Int) : posP l x y ≤ l.length ∧ (∀ j, j < posP l x y → ptLt (l.getD j dPt) (x, y, 0)) ∧ ∀ j, posP l x y ≤ j → j < l.length → ¬ ptLt (l.getD j dPt) (x, y, 0) := by
  unfold posP
  have e := (List.takeWhile_append_dropWhile (p := fun q : Pt => decide (ptLt q (x, y, 0))) (l := l)).symm
  have hD := yayn (p := (x, y, 0)) so
  have hT : ∀ z ∈ l.takeWhile (fun q => decide (ptLt q (x, y, 0))), ptLt z (x, y, 0) := fun z hz => of_decide_eq_true (List.all_eq_true.1 (List.all_takeWhile (p := fun q : Pt => decide (ptLt q (x, y, 0))) (l := l)) z hz)
  generalize l.takeWhile (fun q => decide (ptLt q (x, y, 0))) = T at *
  generalize l.dropWhile (fun q => decide (ptLt q (x, y, 0))) = D at *
  subst e
  refine ⟨by rw [List.length_append]; omega, fun j hj => ?_, fun j hj hjl => ?_⟩
  · rw [yaac (by rw [List.length_append]; omega), List.getElem_append_left hj]
    exact hT _ (List.getElem_mem hj)
  · rw [yaac hjl, List.getElem_append_right hj]
    exact hD _ (List.getElem_mem _)
theorem yaqj {l : List Pt} {i : Nat} (h : i < l.length) : (l.map row3).getD i [] = row3 (l.getD i dPt) := by
  rw [List.getD_eq_getElem?_getD, List.getElem?_map, List.getElem?_eq_getElem h, List.getD_eq_getElem?_getD, List.getElem?_eq_getElem h]; rfl
theorem cmpK3 {l : List Pt} {x y : Int} {j : Nat} (hj : j < l.length) : cmpK (l.map row3) [x, y] j = if (l.getD j dPt).1 < x then -1 else if x < (l.getD j dPt).1 then 1 else if (l.getD j dPt).2.1 < y then -1 else if y < (l.getD j dPt).2.1 then 1 else 0 := by
  rw [cmpK, yaqj hj]
  rfl
theorem yahx {l : List Pt} {x y : Int} {j : Nat} (hj : j < l.length) : (cmpK (l.map row3) [x, y] j < 0 ↔ ptLt (l.getD j dPt) (x, y, 0)) ∧ (cmpK (l.map row3) [x, y] j = 0 ↔ (l.getD j dPt).1 = x ∧ (l.getD j dPt).2.1 = y) := by
  rw [cmpK3 hj]
  generalize l.getD j dPt = z
  unfold ptLt
  show _ ∧ _
  by_cases h1 : z.1 < x
  · rw [if_pos h1]; constructor <;> constructor <;> intro h <;> first | omega | (dsimp only at *; omega)
  · rw [if_neg h1]
    by_cases h2 : x < z.1
    · rw [if_pos h2]; constructor <;> constructor <;> intro h <;> first | omega | (dsimp only at *; omega)
    · rw [if_neg h2]
      by_cases h3 : z.2.1 < y
      · rw [if_pos h3]; constructor <;> constructor <;> intro h <;> first | omega | (dsimp only at *; omega)
      · rw [if_neg h3]
        by_cases h4 : y < z.2.1
        · rw [if_pos h4]; constructor <;> constructor <;> intro h <;> first | omega | (dsimp only at *; omega)
        · rw [if_neg h4]; constructor <;> constructor <;> intro h <;> first | omega | (dsimp only at *; omega)
theorem take2 {zs : List Int} (h : 2 ≤ zs.length) : zs.take 2 = [zs.getD 0 0, zs.getD 1 0] := by
  match zs, h with
  | _ :: _ :: _, _ => rfl
theorem list3 {zs : List Int} (h : zs.length = 3) : zs = [zs.getD 0 0, zs.getD 1 0, zs.getD 2 0] := by
  match zs, h with
  | [_, _, _], _ => rfl
section
variable {h0 h : Hp} {b1 b2 : Nat} {l : List Pt} {p q : OA} {n c m cc : Nat} {code : Int} {zs : List Int} {B G : Bag}
abbrev PtsP (h0 : Hp) (G : Bag) (l : List Pt) (c : Int) (zs : List Int) : VK := StepP h0 G 5 ((ptsS l c zs).1.map row3) (ptsS l c zs).2.1 (ptsS l c zs).2.2
abbrev MPtsP (h0 : Hp) (G : Bag) (l : List Pt) (c : Int) (zs : List Int) : VK := yafk h0 G ((ptsS l c zs).1.map row3) (ptsS l c zs).2.1 (ptsS l c zs).2.2
theorem yalh {h0 h : Hp} {l : List Pt} {p : OA} {n c : Nat} {B G : Bag} {i : Int} {i' : Nat} {Q : OA → Nat → Nat → Prop} (na : RowsA (p, n, c) (l.map row3) B) (s : St h0 h (B + G)) (ei : i = (i' : Int)) (hi : i' < n) (hl : l.length = n)
    (hq : ∀ a C, RdT TI h a 3 (row3 (l.getD i' dPt)) → Q a 3 C) : (0 ≤ i ∧ i < (n : Int)) ∧ NN p fun a1 => ∃ a2 L1 C1, cell h (a1.add (Int.toNat i * 1)) = some (.slice a2 L1 C1) ∧ Q a2 L1 C1 := by
  subst ei
  refine Nest.at_ (d := []) na s (by omega) (by show (i' : Int) < n; omega) fun a L C Bi Br o hB => ?_
  rw [Int.toNat_natCast, yaqj (by omega)] at o
  have o : Sl TI a L C (row3 (l.getD i' dPt)) Bi := o
  have st2 : St h0 h (Bi + (Br + G)) := by rw [hB] at s; exact s.to
  have hL := o.len
  obtain rfl : L = 3 := by rw [← hL]; rfl
  exact hq a C (o.rd st2)
theorem yaqr {h0 h : Hp} {b1 b2 : Nat} {l : List Pt} {p q : OA} {n c cc : Nat} {z0 z1 z2 z3 : Int} {B G : Bag} {i : Nat} {K : VK} {nx0 : Int × Int × Int × Unit → Hp → Prop} (hw : WOk l) (na : RowsA (p, n, c) (l.map row3) B) (s : St h0 h (B + G)) (hl : l.length = n) (hn : n ≤ 1000)
    (r : RdT TI h q 4 [z0, z1, z2, z3]) (c1 : cell h ((⟨b1, 0, none⟩ : Addr).add 1) = some (.slice q 4 cc)) (hi : i < n)
    (hnx : nx0 (cntB z0 z1 z2 z3 (l.take (i + 1)), sumB z0 z1 z2 z3 (l.take (i + 1)), (i : Int) + 1, ()) h) :
    zbt_b2 (cntB z0 z1 z2 z3 (l.take i)) (sumB z0 z1 z2 z3 (l.take i)) i p n c (some ⟨b1, 0, none⟩) (some ⟨b2, 0, none⟩) p n c n h nx0 K := by
  have hil : i < l.length := by omega
  have htk := yahm hil
  have e1 : cntB z0 z1 z2 z3 (l.take (i + 1)) = cntB z0 z1 z2 z3 (l.take i) + (if inB z0 z1 z2 z3 (l.getD i dPt) = true then 1 else 0) := by
    rw [htk, yaph, yalz]; show _ + (_ + 0) = _; rw [Int.add_zero]
  have e2 : sumB z0 z1 z2 z3 (l.take (i + 1)) = sumB z0 z1 z2 z3 (l.take i) + (if inB z0 z1 z2 z3 (l.getD i dPt) = true then (l.getD i dPt).2.2 else 0) := by
    rw [htk, yaqu, yaiq]; show _ + (_ + 0) = _; rw [Int.add_zero]
  have hb1 := yajb (a := z0) (b := z1) (y1 := z2) (y2 := z3) (l := l.take i) fun x hx => hw x (List.mem_of_mem_take hx)
  have hb2 : 0 ≤ cntB z0 z1 z2 z3 (l.take i) ∧ cntB z0 z1 z2 z3 (l.take i) ≤ i := by
    unfold cntB
    have := List.length_filter_le (inB z0 z1 z2 z3) (l.take i)
    rw [List.length_take] at this
    omega
  rw [List.length_take, Nat.min_eq_left (by omega)] at hb1
  have hwi := hw (l.getD i dPt) (by rw [yaac hil]; exact List.getElem_mem _)
  obtain ⟨z, hz⟩ : ∃ z, l.getD i dPt = z := ⟨_, rfl⟩
  rw [hz] at e1 e2 hwi
  rw [zbt_b2]
  have no : ¬ (z0 ≤ z.1 ∧ z.1 ≤ z1 ∧ z2 ≤ z.2.1 ∧ z.2.1 ≤ z3) → zbt_b4 p n c (some ⟨b1, 0, none⟩) (some ⟨b2, 0, none⟩) (cntB z0 z1 z2 z3 (l.take i)) (sumB z0 z1 z2 z3 (l.take i)) p n c n i h nx0 K := fun hno => by
    have hf : ¬ inB z0 z1 z2 z3 z = true := by unfold inB; rw [decide_eq_true_eq]; exact hno
    rw [if_neg hf, Int.add_zero] at e1 e2
    rw [e1, e2] at hnx
    rw [zbt_b4]
    exact ⟨⟨by omega, by omega⟩, hnx⟩
  refine yaaw (decide_eq_true (by omega)) (yalh na s rfl hi hl fun a C rz => ?_)
  rw [hz] at rz
  refine ⟨q, 4, cc, c1, ldI (i' := 0) r rfl (by decide) (ldI (i' := 0) rz rfl (by decide) (condP (fun g1 => ?_) (fun g => no fun h => g h.1)))⟩
  refine ldI (i' := 0) rz rfl (by decide) ⟨q, 4, cc, c1, ldI (i' := 1) r rfl (by decide) (condP (fun g2 => ?_) (fun g => no fun h => g h.2.1))⟩
  refine ⟨q, 4, cc, c1, ldI (i' := 2) r rfl (by decide) (ldI (i' := 1) rz rfl (by decide) (condP (fun g3 => ?_) (fun g => no fun h => g h.2.2.1)))⟩
  refine ldI (i' := 1) rz rfl (by decide) ⟨q, 4, cc, c1, ldI (i' := 3) r rfl (by decide) (condP (fun g4 => ?_) (fun g => no fun h => g h.2.2.2))⟩
  have hf : inB z0 z1 z2 z3 z = true := by unfold inB; rw [decide_eq_true_eq]; exact ⟨g1, g2, g3, g4⟩
  rw [if_pos hf] at e1 e2
  rw [e1, e2] at hnx
  refine ⟨⟨by omega, by omega⟩, ldI (i' := 2) rz rfl (by decide) ⟨⟨?_, ?_⟩, ?_⟩⟩
  · show _ ≤ _ + z.2.2; omega
  · show _ + z.2.2 ≤ _; omega
  · rw [zbt_b4]
    exact ⟨⟨by omega, by omega⟩, hnx⟩
theorem yaqx (so : PtsS l) (na : RowsA (p, n, c) (l.map row3) B) (hrz : RdT TI h q m zs) (hmc : m ≤ cc) (s2 : St h0 h (cA b2 [.int .i64 0, .int .i64 0, .slice none 0 0] 58 + (cA b1 [.int .i64 code, .slice q m cc] 50 + (B + G)))) (hn : n ≤ 1000) (hl : l.length = n) (h12 : code = 1 ∨ code = 2) (hz1 : code = 1 → zs.length = 3) (hz2 : code = 2 → zs.length = 2) :
    zbt_b3 p n c (some ⟨b1, 0, none⟩) (some ⟨b2, 0, none⟩) h (MPtsP h0 G l code zs) := by
  have kb1 := s2.atomBlk
  have hzl := hrz.len
  have sB := s2.to (B := B + (cA b2 [.int .i64 0, .int .i64 0, .slice none 0 0] 58 + (cA b1 [.int .i64 code, .slice q m cc] 50 + G)))
  have hm2 : 2 ≤ m := by rcases h12 with h | h
                         · have := hz1 h; omega
                         · have := hz2 h; omega
  have rk := hrz.take (i := 2) hm2
  obtain ⟨x, hx⟩ : ∃ x, zs.getD 0 0 = x := ⟨_, rfl⟩
  obtain ⟨y, hy⟩ : ∃ y, zs.getD 1 0 = y := ⟨_, rfl⟩
  rw [take2 (by omega), hx, hy] at rk
  obtain ⟨w, hwz⟩ : ∃ w, zs.getD 2 0 = w := ⟨_, rfl⟩
  obtain ⟨f1, f2, f3⟩ := yawi so x y
  have e : ptsS l code zs = (if code = 1 then (if yajs l x y then (l, 15, 0) else if l.length = 500 then (l, 4, 0) else (l.take (posP l x y) ++ (x, y, w) :: l.drop (posP l x y), 0, 0)) else (if yajs l x y then (cutL l (posP l x y), 0, (l.getD (posP l x y) dPt).2.2) else (l, 12, 0))) := by
    subst hx hy hwz
    unfold ptsS
    rw [if_neg (by omega), if_neg (by omega), if_neg (by omega)]
  have ht : yajs l x y = (posP l x y < l.length ∧ (l.getD (posP l x y) dPt).1 = x ∧ (l.getD (posP l x y) dPt).2.1 = y) := rfl
  generalize posP l x y = t at *
  rw [MPtsP, e, zbt_b3]
  refine ⟨_, _, _, Blk.cellA kb1 1, ⟨by omega, by omega, by omega⟩, ?_⟩
  rw [show Int.toNat (0 : Int) = 0 from rfl, show Int.toNat (2 : Int) = 2 from rfl, yaeg, Nat.sub_zero]
  refine (yarj (t := t) na sB rk (by omega) (fun r hr => by obtain ⟨e, _, rfl⟩ := List.mem_map.1 hr; exact ⟨show 2 ≤ 3 by decide, show 3 ≤ 1000000 by decide⟩) ⟨by omega, fun j h1 => (yahx (by omega)).1.2 (f2 j h1), fun j h1 h2 => Int.not_lt.1 fun hc => f3 j h1 (by omega) ((yahx (by omega)).1.1 hc)⟩).mono fun v h5 ⟨hv, hh⟩ => ⟨_, _, hv, ?_⟩
  subst hh
  have hd : decide (t < n ∧ cmpK (l.map row3) [x, y] t = 0) = decide (yajs l x y) := by
    refine decide_eq_decide.2 ?_
    rw [ht]
    constructor
    · rintro ⟨h1, h2⟩; exact ⟨by omega, (yahx (by omega)).2.1 h2⟩
    · rintro ⟨h1, h2⟩; exact ⟨by omega, (yahx (by omega)).2.2 h2⟩
  rw [hd]
  refine ⟨_, kb1.cell 0, condP (fun hc1 => ?_) (fun hc1 => ?_)⟩
  · rw [if_pos hc1]
    refine condP (fun hm => ?_) (fun hm => condP (fun hf => ?_) (fun hf => ?_))
    · rw [if_pos hm]
      exact mboxT na s2 (yaas _ _)
    · rw [if_neg hm, if_pos (by omega)]
      exact mboxT na s2 (yaas _ _)
    rw [if_neg hm, if_neg (by omega), zbt_b6]
    refine ⟨_, _, _, Blk.cellA kb1 1, (yaeu hrz (by have := hz1 hc1; omega)).mono fun v6 h6 ⟨q6, d6, A6, hv6, o6, t6⟩ => ⟨_, _, _, hv6, ?_⟩⟩
    have s6 := s2.join t6
    refine s6.new (cs := [.slice q6 m d6]) fun b3 h7 x7 s7 => ?_
    have s7 := s7.to (B := cA b3 [.slice q6 m d6] 29 + (B + (A6 + (cA b2 [.int .i64 0, .int .i64 0, .slice none 0 0] 58 + (cA b1 [.int .i64 code, .slice q m cc] 50 + G)))))
    refine (yafn (i := t) na o6 s7 (by omega) (by omega)).mono fun v8 h8 ⟨q', d', B', hv8, na', s8⟩ => ⟨_, _, _, hv8, ?_⟩
    have hrow : (l.map row3).take t ++ zs :: (l.map row3).drop t = (l.take t ++ (x, y, w) :: l.drop t).map row3 := by
      rw [← List.map_take, ← List.map_drop, List.map_append, List.map_cons]
      congr 2
      rw [list3 (hz1 hc1), hx, hy, hwz]
    rw [hrow] at na'
    exact mboxT na' (s8.to (B := cA b2 [.int .i64 0, .int .i64 0, .slice none 0 0] 58 + (cA b1 [.int .i64 code, .slice q m cc] 50 + (B' + G)))) (yaan _ _)
  · rw [if_neg hc1]
    refine condN (fun hm => ?_) (fun hm => ?_)
    · rw [if_neg hm]
      exact mboxT na s2 (yaas _ _)
    rw [if_pos hm]
    have g1 : t < l.length := by rw [ht] at hm; exact hm.1
    refine yalh na sB rfl (by omega) hl fun a C rz => ldI (i' := 2) rz rfl (by decide) ⟨⟨by omega, by omega⟩, ?_⟩
    refine (yaem (i := t) na sB (by omega) rfl (by omega)).mono fun v h' ⟨B', hv, na', s'⟩ => ⟨_, _, _, hv, ?_⟩
    have hrow : (l.map row3).take t ++ (l.map row3).drop (t + 1) = (cutL l t).map row3 := by
      rw [← List.map_take, ← List.map_drop, ← List.map_append]; rfl
    rw [hrow] at na'
    exact mboxT na' (s'.to (B := cA b2 [.int .i64 0, .int .i64 0, .slice none 0 0] 58 + (cA b1 [.int .i64 code, .slice q m cc] 50 + (B' + G)))) (yaan _ _)
theorem yasn (so : PtsS l) (hw : WOk l) (na : RowsA (p, n, c) (l.map row3) B) (rz : RdS h0 G TI q m zs) (hmc : m ≤ cc) (s : St h0 h (B + G)) (hn : n ≤ 1000) (hc : 1 ≤ code ∧ code ≤ 5) (hz1 : code = 1 → zs.length = 3) (hz2 : code = 2 → zs.length = 2) (hz4 : code = 3 ∨ code = 4 → zs.length = 4) :
    yaae Tryz.prog 96 #[.slice p n c, .agg #[.int .i64 code, .slice q m cc]] h (MPtsP h0 G l code zs) := by
  have hl : (l.map row3).length = n := yaav na
  rw [List.length_map] at hl
  refine zbt_call ?_
  rw [zbt_b0]
  refine s.new (cs := [.int .i64 code, .slice q m cc]) fun b1 h3 _ s1 => ?_
  refine s1.new (cs := [.int .i64 0, .int .i64 0, .slice none 0 0]) fun b2 h4 _ s2 => ?_
  have s2 : St h0 h4 (cA b2 [.int .i64 0, .int .i64 0, .slice none 0 0] 58 + (cA b1 [.int .i64 code, .slice q m cc] 50 + (B + G))) := s2
  have kb1 := s2.atomBlk
  have hrz : RdT TI h4 q m zs := rz h4 (cA b2 [.int .i64 0, .int .i64 0, .slice none 0 0] 58 + (cA b1 [.int .i64 code, .slice q m cc] 50 + B)) s2.to
  have hzl := hrz.len
  have sB := s2.to (B := B + (cA b2 [.int .i64 0, .int .i64 0, .slice none 0 0] 58 + (cA b1 [.int .i64 code, .slice q m cc] 50 + G)))
  refine ⟨_, kb1.cell 0, condP (fun h8 => ?_) (fun h8 => ?_)⟩
  · have e : ptsS l code zs = (l, 0, (l.length : Int)) := by subst h8; rfl
    rw [MPtsP, e, hl]
    exact mboxT na s2 (yaan _ _)
  have loop : code = 3 ∨ code = 4 → zbt_b1 p n c (some ⟨b1, 0, none⟩) (some ⟨b2, 0, none⟩) true h4 (MPtsP h0 G l code zs) := fun h34 => by
    have hz4 := hz4 h34
    obtain ⟨z0, z1, z2, z3, hz⟩ : ∃ z0 z1 z2 z3, zs = [z0, z1, z2, z3] := by match zs, hz4 with | [a, b, c, d], _ => exact ⟨_, _, _, _, rfl⟩
    subst hz
    obtain rfl : m = 4 := by rw [← hzl]; rfl
    rw [zbt_b1]
    refine yaaw rfl ⟨fun x h' => h' = h4 ∧ ∃ i : Nat, x.2.2.1 = i ∧ i ≤ n ∧ x.1 = cntB z0 z1 z2 z3 (l.take i) ∧ x.2.1 = sumB z0 z1 z2 z3 (l.take i), fun x _ => n - x.2.2.1.toNat, ⟨rfl, 0, rfl, by omega, rfl, rfl⟩, ?_⟩
    rintro ⟨_, _, _, _⟩ h5 ⟨rfl, i, rfl, hi, rfl, rfl⟩
    dsimp only
    rcases Nat.lt_or_ge i n with hlt | hge
    · exact yaqr hw na sB hl hn hrz (Blk.cellA kb1 1) hlt ⟨⟨rfl, i + 1, by push_cast; rfl, by omega, rfl, rfl⟩, by dsimp only; omega⟩
    · obtain rfl : i = n := by omega
      rw [zbt_b2]
      refine yaat (decide_eq_false (by omega)) ?_
      rw [List.take_of_length_le (by omega), zbt_b5]
      refine ⟨_, kb1.cell 0, condP (fun h3 => ?_) (fun h3 => ?_)⟩
      · have e : ptsS l code [z0, z1, z2, z3] = (l, 0, cntB z0 z1 z2 z3 l) := by subst h3; rfl
        rw [MPtsP, e]
        exact mboxT na s2 (yaan _ _)
      · have h4' : code = 4 := by omega
        have e : ptsS l code [z0, z1, z2, z3] = (l, 0, sumB z0 z1 z2 z3 l) := by subst h4'; rfl
        rw [MPtsP, e]
        exact mboxT na s2 (yaan _ _)
  refine condP (fun h3 => ?_) (fun h3 => ?_)
  · rw [decide_eq_true h3]; exact loop (.inl h3)
  by_cases h4' : code = 4
  · rw [decide_eq_true h4']; exact loop (.inr h4')
  rw [decide_eq_false h4', zbt_b1]
  refine yaat rfl ?_
  exact yaqx so na hrz hmc s2 hn hl (by omega) hz1 hz2
end
def befL : List Int → List Int → Bool
  | x :: xs, y :: ys => if x = y then befL xs ys else decide (x < y)
  | _, _ => false
theorem yafu {h : Hp} {p q : OA} {n c m d k : Nat} {xs ys : List Int} (r1 : RdT TI h p n xs) (r2 : RdT TI h q m ys) (h1 : k ≤ n) (h2 : k ≤ m) (hk : k ≤ 1000) :
    yaae Tryz.prog 101 #[.slice p n c, .slice q m d, .int .i64 (k : Int)] h (fun v h' => v = .bool (befL (xs.take k) (ys.take k)) ∧ h' = h) := by
  have l1 := r1.len
  have l2 := r2.len
  refine zcn_call ?_
  rw [zcn_b0]
  refine ⟨fun x h' => h' = h ∧ ∃ i : Nat, x.1 = i ∧ i ≤ k ∧ befL ((xs.take k).drop i) ((ys.take k).drop i) = befL (xs.take k) (ys.take k), fun x _ => (k - x.1).toNat, ⟨rfl, 0, rfl, Nat.zero_le _, rfl⟩, ?_⟩
  rintro ⟨_, _⟩ h7 ⟨rfl, i, rfl, hi, e⟩
  dsimp only
  rw [zcn_b1]
  refine condP (fun hlt => ?_) (fun hge => ?_)
  · have hx : (xs.take k).drop i = xs.getD i 0 :: (xs.take k).drop (i + 1) := by
      rw [List.drop_eq_getElem_cons (by rw [List.length_take]; omega), List.getElem_take, yaac (by omega)]
    have hy : (ys.take k).drop i = ys.getD i 0 :: (ys.take k).drop (i + 1) := by
      rw [List.drop_eq_getElem_cons (by rw [List.length_take]; omega), List.getElem_take, yaac (by omega)]
    rw [hx, hy, befL] at e
    refine ldI (i' := i) r1 rfl (by omega) (ldI (i' := i) r2 rfl (by omega) (condN (fun hne => ?_) (fun heq => ?_)))
    · rw [if_neg hne] at e
      refine ldI (i' := i) r1 rfl (by omega) (ldI (i' := i) r2 rfl (by omega) ⟨by rw [← e], rfl⟩)
    · rw [if_pos heq] at e
      rw [zcn_b2]
      exact ⟨⟨by omega, by omega⟩, ⟨rfl, i + 1, by push_cast; rfl, by omega, e⟩, by dsimp only; omega⟩
  · rw [zcn_b3]
    rw [List.drop_of_length_le (by rw [List.length_take]; omega)] at e
    rw [← e]
    exact ⟨rfl, rfl⟩
theorem yave (z : Pt) (x y : Int) : befL [z.1, z.2.1] [x, y] = decide (ptLt z (x, y, 0)) := by
  unfold ptLt
  show (if z.1 = x then (if z.2.1 = y then false else decide (z.2.1 < y)) else decide (z.1 < x)) = _
  by_cases h1 : z.1 = x
  · rw [if_pos h1]
    by_cases h2 : z.2.1 = y
    · rw [if_pos h2]; symm; apply decide_eq_false; dsimp only; omega
    · rw [if_neg h2]; apply decide_eq_decide.2; dsimp only; omega
  · rw [if_neg h1]; apply decide_eq_decide.2; dsimp only; omega
section
variable {h0 h : Hp} {b1 b2 b3 b4 : Nat} {l : List Pt} {p q : OA} {n c m cc : Nat} {code : Int} {zs : List Int} {B G : Bag} {x0 x1 y0 y1 y2 : Value}
theorem yaue {z0 z1 z2 z3 : Int} {i : Nat} {K : VK} {nx0 : Int × Int × Int × Unit → Hp → Prop} (hw : WOk l) (na : RowsA (p, n, c) (l.map row3) B) (s : St h0 h (refA b1 b2 b3 b4 5 p n c code q 4 cc x0 x1 y0 y1 y2 B G)) (hl : l.length = n) (hn : n ≤ 1000)
    (r : RdT TI h q 4 [z0, z1, z2, z3]) (hi : i < n) (hnx : nx0 (cntB z0 z1 z2 z3 (l.take (i + 1)), sumB z0 z1 z2 z3 (l.take (i + 1)), (i : Int) + 1, ()) h) :
    zcx_b1 (cntB z0 z1 z2 z3 (l.take i)) (sumB z0 z1 z2 z3 (l.take i)) i (some ⟨b1, 0, none⟩) (some ⟨b2, 0, none⟩) (some ⟨b3, 0, none⟩) (some ⟨b4, 0, none⟩) (n : Int) h nx0 K := by
  have hil : i < l.length := by omega
  delta refA at s
  have htk := yahm hil
  have e1 : cntB z0 z1 z2 z3 (l.take (i + 1)) = cntB z0 z1 z2 z3 (l.take i) + (if inB z0 z1 z2 z3 (l.getD i dPt) = true then 1 else 0) := by
    rw [htk, yaph, yalz]; show _ + (_ + 0) = _; rw [Int.add_zero]
  have e2 : sumB z0 z1 z2 z3 (l.take (i + 1)) = sumB z0 z1 z2 z3 (l.take i) + (if inB z0 z1 z2 z3 (l.getD i dPt) = true then (l.getD i dPt).2.2 else 0) := by
    rw [htk, yaqu, yaiq]; show _ + (_ + 0) = _; rw [Int.add_zero]
  have hb1 := yajb (a := z0) (b := z1) (y1 := z2) (y2 := z3) (l := l.take i) fun x hx => hw x (List.mem_of_mem_take hx)
  have hb2 : 0 ≤ cntB z0 z1 z2 z3 (l.take i) ∧ cntB z0 z1 z2 z3 (l.take i) ≤ i := by
    unfold cntB
    have := List.length_filter_le (inB z0 z1 z2 z3) (l.take i)
    rw [List.length_take] at this
    omega
  rw [List.length_take, Nat.min_eq_left (by omega)] at hb1
  have hwi := hw (l.getD i dPt) (by rw [yaac hil]; exact List.getElem_mem _)
  have rd : ∀ {Q : OA → Nat → Nat → Prop}, (∀ a C, RdT TI h a 3 (row3 (l.getD i dPt)) → Q a 3 C) → (0 ≤ (i : Int) ∧ (i : Int) < (n : Int)) ∧ NN p fun a1 => ∃ a2 L1 C1, cell h (a1.add (Int.toNat (i : Int) * 1)) = some (.slice a2 L1 C1) ∧ Q a2 L1 C1 := fun hq => yalh na (s.at B) rfl hi hl hq
  obtain ⟨z, hz⟩ : ∃ z, l.getD i dPt = z := ⟨_, rfl⟩
  rw [hz] at e1 e2 hwi rd
  rw [zcx_b1_eq]
  have no : ¬ (z0 ≤ z.1 ∧ z.1 ≤ z1 ∧ z2 ≤ z.2.1 ∧ z.2.1 ≤ z3) → zcx_b3 (some ⟨b1, 0, none⟩) (some ⟨b2, 0, none⟩) (some ⟨b3, 0, none⟩) (some ⟨b4, 0, none⟩) n (cntB z0 z1 z2 z3 (l.take i)) (sumB z0 z1 z2 z3 (l.take i)) i h nx0 K := fun hno => by
    have hf : ¬ inB z0 z1 z2 z3 z = true := by unfold inB; rw [decide_eq_true_eq]; exact hno
    rw [if_neg hf, Int.add_zero] at e1 e2
    rw [e1, e2] at hnx
    rw [zcx_b3_eq]
    exact ⟨⟨by omega, by omega⟩, hnx⟩
  refine yaaw (decide_eq_true (by omega)) ⟨_, _, _, s.ldB, rd fun a C rz => ?_⟩
  refine ldI (i' := 0) rz rfl (by decide) ⟨_, _, _, s.ldB, ldI (i' := 0) r rfl (by decide) (condP (fun g1 => ?_) (fun g => no fun h => g h.1))⟩
  refine ⟨_, _, _, s.ldB, rd fun a C rz => ldI (i' := 0) rz rfl (by decide) ⟨_, _, _, s.ldB, ldI (i' := 1) r rfl (by decide) (condP (fun g2 => ?_) (fun g => no fun h => g h.2.1))⟩⟩
  refine ⟨_, _, _, s.ldB, rd fun a C rz => ldI (i' := 1) rz rfl (by decide) ⟨_, _, _, s.ldB, ldI (i' := 2) r rfl (by decide) (condP (fun g3 => ?_) (fun g => no fun h => g h.2.2.1))⟩⟩
  refine ⟨_, _, _, s.ldB, rd fun a C rz => ldI (i' := 1) rz rfl (by decide) ⟨_, _, _, s.ldB, ldI (i' := 3) r rfl (by decide) (condP (fun g4 => ?_) (fun g => no fun h => g h.2.2.2))⟩⟩
  have hf : inB z0 z1 z2 z3 z = true := by unfold inB; rw [decide_eq_true_eq]; exact ⟨g1, g2, g3, g4⟩
  rw [if_pos hf] at e1 e2
  rw [e1, e2] at hnx
  refine ⟨⟨by omega, by omega⟩, _, _, _, s.ldB, rd fun a C rz => ldI (i' := 2) rz rfl (by decide) ⟨⟨?_, ?_⟩, ?_⟩⟩
  · show _ ≤ _ + z.2.2; omega
  · show _ + z.2.2 ≤ _; omega
  · rw [zcx_b3_eq]
    exact ⟨⟨by omega, by omega⟩, hnx⟩
theorem yatu (na : RowsA (p, n, c) (l.map row3) B) (hrz : RdT TI h q m zs) (s : St h0 h (refA b1 b2 b3 b4 5 p n c code q m cc x0 x1 y0 y1 y2 B G)) (hn : n ≤ 1000) (hl : l.length = n) (h12 : code = 1 ∨ code = 2) (hz1 : code = 1 → zs.length = 3) (hz2 : code = 2 → zs.length = 2) {t : Nat} (ht : t ≤ n) {x y w : Int} (hx : zs.getD 0 0 = x) (hy : zs.getD 1 0 = y) (hwz : zs.getD 2 0 = w) :
    zcx_b8 (some ⟨b1, 0, none⟩) (some ⟨b2, 0, none⟩) (some ⟨b3, 0, none⟩) (some ⟨b4, 0, none⟩) (n : Int) (t : Int) (decide (t < l.length ∧ (l.getD t dPt).1 = x ∧ (l.getD t dPt).2.1 = y)) h
     (StepP h0 G 5 ((if code = 1 then (if t < l.length ∧ (l.getD t dPt).1 = x ∧ (l.getD t dPt).2.1 = y then (l, (15 : Int), (0 : Int)) else if l.length = 500 then (l, 4, 0) else (l.take t ++ (x, y, w) :: l.drop t, 0, 0)) else (if t < l.length ∧ (l.getD t dPt).1 = x ∧ (l.getD t dPt).2.1 = y then (cutL l t, 0, (l.getD t dPt).2.2) else (l, 12, 0))).1.map row3)
       (if code = 1 then (if t < l.length ∧ (l.getD t dPt).1 = x ∧ (l.getD t dPt).2.1 = y then (l, (15 : Int), (0 : Int)) else if l.length = 500 then (l, 4, 0) else (l.take t ++ (x, y, w) :: l.drop t, 0, 0)) else (if t < l.length ∧ (l.getD t dPt).1 = x ∧ (l.getD t dPt).2.1 = y then (cutL l t, 0, (l.getD t dPt).2.2) else (l, 12, 0))).2.1
       (if code = 1 then (if t < l.length ∧ (l.getD t dPt).1 = x ∧ (l.getD t dPt).2.1 = y then (l, (15 : Int), (0 : Int)) else if l.length = 500 then (l, 4, 0) else (l.take t ++ (x, y, w) :: l.drop t, 0, 0)) else (if t < l.length ∧ (l.getD t dPt).1 = x ∧ (l.getD t dPt).2.1 = y then (cutL l t, 0, (l.getD t dPt).2.2) else (l, 12, 0))).2.2) := by
  have hzl := hrz.len
  delta refA at s
  rw [zcx_b8_eq]
  refine ⟨_, s.ld0, condP (fun h2 => ?_) (fun h2 => ?_)⟩
  · rw [if_neg (show ¬ code = 1 by omega)]
    refine condN (fun hm => ?_) (fun hm => ?_)
    · rw [if_neg hm]; exact boxF na s
    rw [if_pos hm]
    refine ⟨_, _, _, s.ldB, yalh na (s.at B) rfl (by omega) hl fun a C rz => ldI (i' := 2) rz rfl (by decide) ⟨_, _, _, s.ldB, ?_⟩⟩
    refine (yafo (i := t) na (s.at B) (by omega) (by omega)).mono fun v h' ⟨q', d', B', hv, na', s⟩ => ⟨_, _, _, hv, wrC1 s fun h10 s => ?_⟩
    have hrow : (l.map row3).take t ++ (l.map row3).drop (t + 1) = (cutL l t).map row3 := by
      rw [← List.map_take, ← List.map_drop, ← List.map_append]; rfl
    rw [hrow] at na'
    exact boxY (b2 := b2) (p := q') (c := d') (cc := cc) (q := q) (m := m) (code := code) (x0 := x0) (x1 := x1) (y0 := y0) (y1 := y1) (y2 := y2) na' (by delta refA; exact s.to)
  · have hc1 : code = 1 := by omega
    rw [if_pos hc1]
    refine condP (fun hm => ?_) (fun hm => condP (fun hf => ?_) (fun hf => ?_))
    · rw [if_pos hm]; exact boxF na s
    · rw [if_neg hm, if_pos (by omega)]; exact boxF na s
    rw [if_neg hm, if_neg (by omega)]
    have hz1 := hz1 hc1
    refine ⟨_, _, _, s.ldB, _, _, _, s.ldB, (yaxn hrz (by omega)).mono fun v h5 ⟨q6, d6, A6, hv, o6, t6⟩ => ⟨_, _, _, hv, ?_⟩⟩
    have s := s.join t6
    have s : St h0 h5 (B + (A6 + (cA b1 [.int .i64 5, .slice p n c] 24 + (cA b2 [.int .i64 code, .slice q m cc] 50 + (cA b3 [x0, x1] 24 + (cA b4 [y0, y1, y2] 58 + G)))))) := s.to
    refine ⟨⟨_, _, _, s.ldB, rfl⟩, (yaif (i := t) na o6 s (by omega) (by omega)).mono fun v h9 ⟨q', d', B', hv, na', s⟩ => ⟨_, _, _, hv, wrC1 s fun h10 s => ?_⟩⟩
    have hrow : (l.map row3).take t ++ zs :: (l.map row3).drop t = (l.take t ++ (x, y, w) :: l.drop t).map row3 := by
      rw [← List.map_take, ← List.map_drop, List.map_append, List.map_cons]
      congr 2
      rw [list3 hz1, hx, hy, hwz]
    rw [hrow] at na'
    exact boxY (b2 := b2) (p := q') (c := d') (cc := cc) (q := q) (m := m) (code := code) (x0 := x0) (x1 := x1) (y0 := y0) (y1 := y1) (y2 := y2) na' (by delta refA; exact s.to)
theorem yakm (so : PtsS l) (na : RowsA (p, n, c) (l.map row3) B) (hrz : RdT TI h q m zs) (s : St h0 h (refA b1 b2 b3 b4 5 p n c code q m cc x0 x1 y0 y1 y2 B G)) (hn : n ≤ 1000) (hl : l.length = n) (h12 : code = 1 ∨ code = 2) (hz1 : code = 1 → zs.length = 3) (hz2 : code = 2 → zs.length = 2) :
    zcx_b2 (some ⟨b1, 0, none⟩) (some ⟨b2, 0, none⟩) (some ⟨b3, 0, none⟩) (some ⟨b4, 0, none⟩) (n : Int) h (PtsP h0 G l code zs) := by
  have hzl := hrz.len
  have hm2 : 2 ≤ m := by rcases h12 with h | h
                         · have := hz1 h; omega
                         · have := hz2 h; omega
  obtain ⟨x, hx⟩ : ∃ x, zs.getD 0 0 = x := ⟨_, rfl⟩
  obtain ⟨y, hy⟩ : ∃ y, zs.getD 1 0 = y := ⟨_, rfl⟩
  obtain ⟨w, hwz⟩ : ∃ w, zs.getD 2 0 = w := ⟨_, rfl⟩
  obtain ⟨f1, f2, f3⟩ := yawi so x y
  have e : ptsS l code zs = (if code = 1 then (if posP l x y < l.length ∧ (l.getD (posP l x y) dPt).1 = x ∧ (l.getD (posP l x y) dPt).2.1 = y then (l, 15, 0) else if l.length = 500 then (l, 4, 0) else (l.take (posP l x y) ++ (x, y, w) :: l.drop (posP l x y), 0, 0)) else (if posP l x y < l.length ∧ (l.getD (posP l x y) dPt).1 = x ∧ (l.getD (posP l x y) dPt).2.1 = y then (cutL l (posP l x y), 0, (l.getD (posP l x y) dPt).2.2) else (l, 12, 0))) := by
    subst hx hy hwz
    unfold ptsS
    rw [if_neg (by omega), if_neg (by omega), if_neg (by omega)]
    rfl
  have h8 := yatu na hrz s hn hl h12 hz1 hz2 (t := posP l x y) (by omega) hx hy hwz
  rw [PtsP, e]
  generalize posP l x y = t at *
  rw [zcx_b2_eq]
  have s' := s
  delta refA at s
  have rk2 := take2 (zs := zs) (by omega)
  rw [hx, hy] at rk2
  have fin0 : ∀ K : VK, zcx_b8 (some ⟨b1, 0, none⟩) (some ⟨b2, 0, none⟩) (some ⟨b3, 0, none⟩) (some ⟨b4, 0, none⟩) (n : Int) (t : Int) (decide (t < l.length ∧ (l.getD t dPt).1 = x ∧ (l.getD t dPt).2.1 = y)) h K → ∀ i : Nat, i = t → zcx_b7 (some ⟨b1, 0, none⟩) (some ⟨b2, 0, none⟩) (some ⟨b3, 0, none⟩) (some ⟨b4, 0, none⟩) (n : Int) (i : Int) h K := by
    rintro K h8 i rfl
    rw [zcx_b7_eq]
    refine condP (fun hlt => ?_) (fun hge => ?_)
    · refine ⟨_, _, _, s.ldB, yalh na (s.at B) rfl (by omega) hl fun a C rz => ldI (i' := 0) rz rfl (by decide) ⟨_, _, _, s.ldB, ldI (i' := 0) hrz rfl (by omega) (condP (fun g1 => ?_) (fun g1 => ?_))⟩⟩
      · refine ⟨_, _, _, s.ldB, yalh na (s.at B) rfl (by omega) hl fun a C rz => ldI (i' := 1) rz rfl (by decide) ⟨_, _, _, s.ldB, ldI (i' := 1) hrz rfl (by omega) ?_⟩⟩
        have g1 : (l.getD i dPt).1 = zs.getD 0 0 := g1
        have : decide ((l.getD i dPt).2.1 = zs.getD 1 0) = decide (i < l.length ∧ (l.getD i dPt).1 = x ∧ (l.getD i dPt).2.1 = y) := by
          apply decide_eq_decide.2; rw [hx] at g1; rw [hy]; exact ⟨fun h => ⟨by omega, g1, h⟩, fun h => h.2.2⟩
        show zcx_b8 _ _ _ _ _ _ (decide ((l.getD i dPt).2.1 = zs.getD 1 0)) _ _
        rw [this]; exact h8
      · have g1 : ¬ (l.getD i dPt).1 = zs.getD 0 0 := g1
        rw [decide_eq_false (show ¬ (i < l.length ∧ (l.getD i dPt).1 = x ∧ (l.getD i dPt).2.1 = y) from fun h => g1 (by rw [hx]; exact h.2.1))] at h8
        exact h8
    · rw [decide_eq_false (show ¬ (i < l.length ∧ (l.getD i dPt).1 = x ∧ (l.getD i dPt).2.1 = y) from fun h => by omega)] at h8
      exact h8
  have fin := fin0 _ h8
  refine ⟨fun x h' => h' = h ∧ ∃ i : Nat, x.1 = i ∧ i ≤ t, fun x _ => (n - x.1).toNat, ⟨rfl, 0, rfl, Nat.zero_le _⟩, ?_⟩
  rintro ⟨_, _⟩ h7 ⟨rfl, i, rfl, hi⟩
  dsimp only
  rw [zcx_b5_eq]
  refine condP (fun hlt => ?_) (fun hge => fin i (by omega))
  refine ⟨_, _, _, s.ldB, yalh na (s.at B) rfl (by omega) hl fun a C rz => ⟨_, _, _, s.ldB, ?_⟩⟩
  refine ⟨_, yafu (k := 2) rz hrz (by omega) (by omega) (by omega), ?_⟩
  rw [rk2, show (row3 (l.getD i dPt)).take 2 = [(l.getD i dPt).1, (l.getD i dPt).2.1] from rfl, yave]
  refine condP (fun hb => ?_) (fun hb => fin i ?_)
  · rw [zcx_b6_eq]
    refine ⟨⟨by omega, by omega⟩, ⟨rfl, i + 1, by push_cast; rfl, ?_⟩, by dsimp only; omega⟩
    rcases Nat.lt_or_ge i t with h | h
    · omega
    · exact absurd hb (f3 i h (by omega))
  · rcases Nat.lt_or_ge i t with h | h
    · exact absurd (f2 i h) hb
    · omega
theorem yata (so : PtsS l) (hw : WOk l) (na : RowsA (p, n, c) (l.map row3) B) (rz : RdS h0 G TI q m zs) (s : St h0 h (B + G)) (hn : n ≤ 1000) (hc : 1 ≤ code ∧ code ≤ 5) (hz1 : code = 1 → zs.length = 3) (hz2 : code = 2 → zs.length = 2) (hz4 : code = 3 ∨ code = 4 → zs.length = 4) :
    yaae Tryz.prog 77 #[.agg #[.int .i64 5, .slice p n c], .agg #[.int .i64 code, .slice q m cc]] h (PtsP h0 G l code zs) := by
  have hl : (l.map row3).length = n := yaav na
  rw [List.length_map] at hl
  refine zcx_call ?_
  rw [zcx_b0_eq]
  refine s.new (cs := [_, _]) fun b1 h3 _ s => s.new (cs := [_, _]) fun b2 h4 _ s => s.new (cs := [_, _]) fun b3 h5 _ s => s.new (cs := [_, _, _]) fun b4 h6 _ s => ?_
  have s : St h0 h6 (refA b1 b2 b3 b4 5 p n c code q m cc (.int .i64 0) (.slice none 0 0) (.int .i64 0) (.int .i64 0) (.slice none 0 0) B G) := by delta refA; exact s.to
  have hrz : RdT TI h6 q m zs := rz h6 (cA b1 [.int .i64 5, .slice p n c] 24 + (cA b2 [.int .i64 code, .slice q m cc] 50 + (cA b3 [.int .i64 0, .slice none 0 0] 24 + (cA b4 [.int .i64 0, .int .i64 0, .slice none 0 0] 58 + B)))) (by delta refA at s; exact s.to)
  have hzl := hrz.len
  have s' := s
  delta refA at s
  refine ⟨_, _, _, s.ldB, _, s.ld0, condP (fun h7 => ?_) (fun h7 => ?_)⟩
  · have e : ptsS l code zs = (l, 0, (l.length : Int)) := by subst h7; rfl
    rw [PtsP, e, hl]
    exact boxY na s
  have loop : code = 3 ∨ code = 4 → yaaq ((0, 0, 0, ()) : Int × Int × Int × Unit) h6 (fun (nx0 : Int × Int × Int × Unit → Hp → Prop) (s1 : Int × Int × Int × Unit) h11 => zcx_b1 s1.1 s1.2.1 s1.2.2.1 (some ⟨b1, 0, none⟩) (some ⟨b2, 0, none⟩) (some ⟨b3, 0, none⟩) (some ⟨b4, 0, none⟩) (n : Int) h11 nx0 (PtsP h0 G l code zs)) := fun h34 => by
    have hz4 := hz4 h34
    obtain ⟨z0, z1, z2, z3, hz⟩ : ∃ z0 z1 z2 z3, zs = [z0, z1, z2, z3] := by match zs, hz4 with | [a, b, c, d], _ => exact ⟨_, _, _, _, rfl⟩
    subst hz
    obtain rfl : m = 4 := by rw [← hzl]; rfl
    refine ⟨fun x h' => h' = h6 ∧ ∃ i : Nat, x.2.2.1 = i ∧ i ≤ n ∧ x.1 = cntB z0 z1 z2 z3 (l.take i) ∧ x.2.1 = sumB z0 z1 z2 z3 (l.take i), fun x _ => n - x.2.2.1.toNat, ⟨rfl, 0, rfl, by omega, rfl, rfl⟩, ?_⟩
    rintro ⟨_, _, _, _⟩ h5 ⟨rfl, i, rfl, hi, rfl, rfl⟩
    dsimp only
    rcases Nat.lt_or_ge i n with hlt | hge
    · exact yaue hw na s' hl hn hrz hlt ⟨⟨rfl, i + 1, by push_cast; rfl, by omega, rfl, rfl⟩, by dsimp only; omega⟩
    · obtain rfl : i = n := by omega
      rw [zcx_b1_eq]
      refine yaat (decide_eq_false (by omega)) ?_
      rw [List.take_of_length_le (by omega), zcx_b4_eq]
      refine ⟨_, s.ld0, condP (fun h3 => ?_) (fun h3 => ?_)⟩
      · have e : ptsS l code [z0, z1, z2, z3] = (l, 0, cntB z0 z1 z2 z3 l) := by subst h3; rfl
        rw [PtsP, e]
        exact boxY na s
      · have h4' : code = 4 := by omega
        have e : ptsS l code [z0, z1, z2, z3] = (l, 0, sumB z0 z1 z2 z3 l) := by subst h4'; rfl
        rw [PtsP, e]
        exact boxY na s
  refine ⟨_, s.ld0, condP (fun h3 => loop (.inl h3)) (fun h3 => ⟨_, s.ld0, condP (fun h4 => loop (.inr h4)) (fun h4 => ?_)⟩)⟩
  exact yakm so na hrz s' hn hl (by omega) hz1 hz2
end
end Go.Proofs.YtllhdhpjgihjfaaGreatDoor
