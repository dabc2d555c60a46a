/- Part T1 of the proof: contracts of functions of the program, and what follows from them. -/
import Derived.Test.YtmlfoefadmlhpaaSxS2
import Derived.Laws.Strings
set_option maxRecDepth 10000
namespace Go.Proofs.Ytmlfoefadmlhpaa
open Go Go.Sx

/-! ### sums -/
def sumR : Nat → (Nat → Nat) → Nat
  | 0, _ => 0
  | n + 1, f => sumR n f + f n
theorem sumR_add (n : Nat) (f g : Nat → Nat) : sumR n (fun i => f i + g i) = sumR n f + sumR n g := by
  induction n with
  | zero => rfl
  | succ n ih => simp only [sumR, ih]; omega
theorem sumR_congr {n : Nat} {f g : Nat → Nat} (h : ∀ i, i < n → f i = g i) : sumR n f = sumR n g := by
  induction n with
  | zero => rfl
  | succ n ih => simp only [sumR]; rw [ih fun i hi => h i (by omega), h n (by omega)]
theorem sumR_zero {n : Nat} {f : Nat → Nat} (h : ∀ i, i < n → f i = 0) : sumR n f = 0 := by
  induction n with
  | zero => rfl
  | succ n ih => simp only [sumR]; rw [ih fun i hi => h i (by omega), h n (by omega)]
theorem sumR_single {n k c : Nat} (hk : k < n) : sumR n (fun i => if i = k then c else 0) = c := by
  induction n with
  | zero => omega
  | succ n ih =>
    simp only [sumR]
    by_cases h : n = k
    · subst h
      rw [if_pos rfl, sumR_zero fun i hi => if_neg (by omega)]; omega
    · rw [if_neg h, ih (by omega), Nat.add_zero]
theorem sumR_filter (n : Nat) (p : Nat → Bool) (f : Nat → Nat) : (((List.range n).filter p).map f).sum = sumR n (fun i => if p i = true then f i else 0) := by
  induction n with
  | zero => rfl
  | succ n ih =>
    simp only [sumR]
    rw [List.range_succ, List.filter_append, List.map_append, List.sum_append, ih]
    cases h : p n <;> simp [h]

/-! ### trees by their parents -/
def okP (l : List Int) : Prop := 0 < l.length ∧ at_ l 0 = -1 ∧ ∀ i, 0 < i → i < l.length → 0 ≤ at_ l i ∧ at_ l i < (i : Int)
def kids (l : List Int) (v : Nat) : List Nat := (List.range l.length).filter fun i => decide (at_ l i = (v : Int))
theorem mem_kids {l : List Int} {v i : Nat} : i ∈ kids l v ↔ i < l.length ∧ at_ l i = (v : Int) := by simp [kids]
theorem kid_gt {l : List Int} (ok : okP l) {v i : Nat} (h : i ∈ kids l v) : v < i ∧ i < l.length := by
  obtain ⟨h1, h2⟩ := mem_kids.1 h
  rcases Nat.eq_zero_or_pos i with h0 | h0
  · subst h0; rw [ok.2.1] at h2; omega
  · have := ok.2.2 i h0 h1; omega
def txf (l : List Int) : Nat → Nat → List Bool
  | 0, _ => []
  | f + 1, v => true :: (((kids l v).map (txf l f)).flatten ++ [false])
theorem txf_eq {l : List Int} (ok : okP l) : ∀ f v, v < l.length → l.length - v ≤ f → txf l f v = txf l (l.length - v) v := by
  intro f
  induction f using Nat.strongRecOn with
  | _ f ih =>
    intro v hv hf
    obtain ⟨f', rfl⟩ : ∃ f', f = f' + 1 := ⟨f - 1, by omega⟩
    obtain ⟨m, hm⟩ : ∃ m, l.length - v = m + 1 := ⟨l.length - v - 1, by omega⟩
    rw [hm]
    simp only [txf]
    have : (kids l v).map (txf l f') = (kids l v).map (txf l m) := by
      refine List.map_congr_left fun c hc => ?_
      have hcg := kid_gt ok hc
      rw [ih f' (by omega) c hcg.2 (by omega), ih m (by omega) c hcg.2 (by omega)]
    rw [this]
/-- The parentheses of a node. -/
def txt (l : List Int) (v : Nat) : List Bool := txf l (l.length - v) v
theorem txt_eq {l : List Int} (ok : okP l) {v : Nat} (hv : v < l.length) : txt l v = true :: (((kids l v).map (txt l)).flatten ++ [false]) := by
  unfold txt
  obtain ⟨m, hm⟩ : ∃ m, l.length - v = m + 1 := ⟨l.length - v - 1, by omega⟩
  rw [hm]
  simp only [txf]
  have : (kids l v).map (txf l m) = (kids l v).map (fun v => txf l (l.length - v) v) := by
    refine List.map_congr_left fun c hc => ?_
    have hcg := kid_gt ok hc
    rw [txf_eq ok m c hcg.2 (by omega)]
  rw [this]
theorem flat_len (ls : List (List Bool)) : ls.flatten.length = (ls.map List.length).sum := by simp [List.length_flatten]
/-- Each node has two parentheses. -/
theorem txt_len {l : List Int} (ok : okP l) : (txt l 0).length = 2 * l.length := by
  have S : ∀ k, k < l.length → (txt l k).length = 2 + sumR l.length (fun i => if decide (at_ l i = (k : Int)) = true then (txt l i).length else 0) := by
    intro k hk
    rw [txt_eq ok hk]
    simp only [List.length_cons, List.length_append, flat_len, List.map_map, List.length_nil]
    have := sumR_filter l.length (fun i => decide (at_ l i = (k : Int))) (fun i => (txt l i).length)
    unfold kids
    have e : (List.length ∘ txt l) = (fun i => (txt l i).length) := rfl
    rw [e, this]; omega
  have D : ∀ m k, k + m = l.length → sumR l.length (fun i => if k ≤ i ∧ at_ l i < (k : Int) then (txt l i).length else 0) = 2 * m := by
    intro m
    induction m with
    | zero => intro k hk; exact sumR_zero fun i hi => if_neg (by omega)
    | succ m ih =>
      intro k hk
      have h1 := ih (k + 1) (by omega)
      have h2 := S k (by omega)
      have h3 : sumR l.length (fun i => (if k ≤ i ∧ at_ l i < (k : Int) then (txt l i).length else 0) + (if decide (at_ l i = (k : Int)) = true then (txt l i).length else 0)) =
          sumR l.length (fun i => (if i = k then (txt l k).length else 0) + (if k + 1 ≤ i ∧ at_ l i < ((k + 1 : Nat) : Int) then (txt l i).length else 0)) := by
        refine sumR_congr fun i hi => ?_
        have hp : (i = 0 ∧ at_ l i = -1) ∨ (0 ≤ at_ l i ∧ at_ l i < (i : Int)) := by
          rcases Nat.eq_zero_or_pos i with h0 | h0
          · subst h0; exact .inl ⟨rfl, ok.2.1⟩
          · exact .inr (ok.2.2 i h0 hi)
        simp only [decide_eq_true_eq]
        by_cases hik : i = k
        · subst hik
          rw [if_pos ⟨Nat.le_refl _, by omega⟩, if_neg (by omega), if_pos rfl, if_neg (by omega)]
        · rw [if_neg hik]
          by_cases hki : k < i
          · by_cases hlt : at_ l i < (k : Int)
            · rw [if_pos ⟨by omega, hlt⟩, if_neg (by omega), if_pos ⟨by omega, by omega⟩]; omega
            · by_cases heq : at_ l i = (k : Int)
              · rw [if_neg (by omega), if_pos heq, if_pos ⟨by omega, by omega⟩]
              · rw [if_neg (by omega), if_neg heq, if_neg (by omega)]
          · rw [if_neg (by omega), if_neg (by omega), if_neg (by omega)]
      rw [sumR_add, sumR_add, sumR_single (show k < l.length by omega)] at h3
      omega
  have h0 := D l.length 0 (by omega)
  rw [← h0]
  have : sumR l.length (fun i => if 0 ≤ i ∧ at_ l i < ((0 : Nat) : Int) then (txt l i).length else 0) = sumR l.length (fun i => if i = 0 then (txt l 0).length else 0) := by
    refine sumR_congr fun i hi => ?_
    by_cases hi0 : i = 0
    · subst hi0; rw [if_pos rfl, if_pos ⟨by omega, by rw [ok.2.1]; decide⟩]
    · rw [if_neg hi0, if_neg]
      have := ok.2.2 i (by omega) hi
      omega
  rw [this, sumR_single ok.1]

/-- Parentheses as bytes. -/
def parB (b : List Bool) : List UInt8 := b.map fun x => if x then 40 else 41
def parS (b : List Bool) : ByteArray := ⟨(parB b).toArray⟩
theorem parS_size (b : List Bool) : (parS b).size = b.length := by simp [parS, parB, ByteArray.size]
theorem parS_app (a b : List Bool) : parS a ++ parS b = parS (a ++ b) := by
  apply ByteArray.ext
  simp [parS, parB, ByteArray.data_append]
theorem parS_eq {a b : List Bool} : strEq (parS a) (parS b) = decide (a = b) := by
  unfold strEq
  rw [ByteArray.toList_eq, ByteArray.toList_eq, Bool.eq_iff_iff, beq_iff_eq, decide_eq_true_iff]
  constructor
  · intro h
    have h1 : parB a = parB b := by simpa [parS] using h
    unfold parB at h1
    have hinj : Function.Injective (fun x : Bool => if x then (40 : UInt8) else 41) := by
      intro x y hxy
      cases x <;> cases y <;> first | rfl | (exact absurd hxy (by decide))
    exact (List.map_inj_right fun x y hxy => hinj hxy).1 h1
  · rintro rfl; rfl
end Go.Proofs.Ytmlfoefadmlhpaa
