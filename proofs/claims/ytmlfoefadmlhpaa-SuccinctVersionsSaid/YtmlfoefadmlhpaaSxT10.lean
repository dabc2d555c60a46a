/- Part T10 of the proof: contracts of functions of the program, and what follows from them. -/
import Derived.Test.YtmlfoefadmlhpaaSxL6
set_option maxRecDepth 10000
namespace Go.Proofs.Ytmlfoefadmlhpaa
open Go Go.Sx

/-! ### labelled parentheses -/
def ltxf (l : List Int) : Nat → Nat → List (Nat × Bool)
  | 0, _ => []
  | f + 1, v => (v, true) :: (((kids l v).map (ltxf l f)).flatten ++ [(v, false)])
theorem ltxf_eq {l : List Int} (ok : okP l) : ∀ f v, v < l.length → l.length - v ≤ f → ltxf l f v = ltxf l (l.length - v) v := by
  intro f
  induction f using Nat.strongRecOn with
  | _ f ih =>
    intro v hv hf
    obtain ⟨f', rfl⟩ : ∃ f', f = f' + 1 := ⟨f - 1, by omega⟩
    obtain ⟨m, hm⟩ : ∃ m, l.length - v = m + 1 := ⟨l.length - v - 1, by omega⟩
    rw [hm]
    simp only [ltxf]
    have : (kids l v).map (ltxf l f') = (kids l v).map (ltxf l m) := by
      refine List.map_congr_left fun c hc => ?_
      have hcg := kid_gt ok hc
      rw [ih f' (by omega) c hcg.2 (by omega), ih m (by omega) c hcg.2 (by omega)]
    rw [this]
def ltx (l : List Int) (v : Nat) : List (Nat × Bool) := ltxf l (l.length - v) v
theorem ltx_eq {l : List Int} (ok : okP l) {v : Nat} (hv : v < l.length) : ltx l v = (v, true) :: (((kids l v).map (ltx l)).flatten ++ [(v, false)]) := by
  unfold ltx
  obtain ⟨m, hm⟩ : ∃ m, l.length - v = m + 1 := ⟨l.length - v - 1, by omega⟩
  rw [hm]
  simp only [ltxf]
  have : (kids l v).map (ltxf l m) = (kids l v).map (fun v => ltxf l (l.length - v) v) := by
    refine List.map_congr_left fun c hc => ?_
    have hcg := kid_gt ok hc
    rw [ltxf_eq ok m c hcg.2 (by omega)]
  rw [this]
theorem flat_map {α β : Type} (f : α → β) (ls : List (List α)) : ls.flatten.map f = (ls.map (List.map f)).flatten := by simp [List.map_flatten]
theorem ltx_snd {l : List Int} (ok : okP l) : ∀ m v, l.length - v = m → v < l.length → (ltx l v).map Prod.snd = txt l v := by
  intro m
  induction m using Nat.strongRecOn with
  | _ m ih =>
    intro v hm hv
    rw [ltx_eq ok hv, txt_eq ok hv]
    simp only [List.map_cons, List.map_append, List.map_nil]
    rw [flat_map, List.map_map]
    have : (kids l v).map (List.map Prod.snd ∘ ltx l) = (kids l v).map (txt l) := by
      refine List.map_congr_left fun c hc => ?_
      have hcg := kid_gt ok hc
      exact ih (l.length - c) (by omega) c rfl hcg.2
    rw [this]

/-- Ancestors by the parents. -/
inductive AncL (l : List Int) (a : Nat) : Nat → Prop
  | refl : AncL l a a
  | step {u p : Nat} : u < l.length → at_ l u = (p : Int) → AncL l a p → AncL l a u
theorem AncL.le {l : List Int} (ok : okP l) {a u : Nat} (h : AncL l a u) : a ≤ u := by
  induction h with
  | refl => exact Nat.le_refl _
  | step h1 h2 _ ih => have := kid_gt ok (mem_kids.2 ⟨h1, h2⟩); omega
theorem AncL.trans {l : List Int} {a c u : Nat} (h : AncL l a c) (g : AncL l c u) : AncL l a u := by
  induction g with
  | refl => exact h
  | step h1 h2 _ ih => exact .step h1 h2 ih
/-- Two ancestors are one above the other. -/
theorem AncL.linear {l : List Int} {a c u : Nat} (h : AncL l a u) (g : AncL l c u) : AncL l a c ∨ AncL l c a := by
  induction h with
  | refl => exact .inr g
  | step h1 h2 h3 ih =>
    cases g with
    | refl => exact .inl (.step h1 h2 h3)
    | step g1 g2 g3 =>
      rw [h2] at g2
      obtain rfl := Int.ofNat.inj g2
      exact ih g3
theorem lab_anc {l : List Int} (ok : okP l) : ∀ m v, l.length - v = m → v < l.length → ∀ u x, (u, x) ∈ ltx l v → AncL l v u ∧ u < l.length := by
  intro m
  induction m using Nat.strongRecOn with
  | _ m ih =>
    intro v hm hv u x hu
    rw [ltx_eq ok hv] at hu
    rcases List.mem_cons.1 hu with h | h
    · cases h; exact ⟨.refl, hv⟩
    · rcases List.mem_append.1 h with h | h
      · obtain ⟨s, hs, hus⟩ := List.mem_flatten.1 h
        obtain ⟨c, hc, rfl⟩ := List.mem_map.1 hs
        have hcg := kid_gt ok hc
        obtain ⟨h1, h2⟩ := ih (l.length - c) (by omega) c rfl hcg.2 u x hus
        exact ⟨(AncL.step hcg.2 (mem_kids.1 hc).2 .refl).trans h1, h2⟩
      · have : (u, x) = (v, false) := by simpa using h
        cases this; exact ⟨.refl, hv⟩

/-- Each is entered once, and left after that. -/
def Good (S : List (Nat × Bool)) : Prop := ∀ P u x Q, S = P ++ (u, x) :: Q → (x = true → (u, true) ∉ P) ∧ (x = false → (u, true) ∈ P)
theorem split_flat {α : Type} {x : α} : ∀ {ls : List (List α)} {P Q : List α}, ls.flatten = P ++ x :: Q → ∃ L1 s L2 P' Q', ls = L1 ++ s :: L2 ∧ s = P' ++ x :: Q' ∧ P = L1.flatten ++ P' := by
  intro ls
  induction ls with
  | nil => intro P Q h; simp at h
  | cons s ls ih =>
    intro P Q h
    rw [List.flatten_cons] at h
    rcases List.append_eq_append_iff.1 h with ⟨a, h1, h2⟩ | ⟨c, h1, h2⟩
    · obtain ⟨L1, s', L2, P', Q', e1, e2, e3⟩ := ih h2
      exact ⟨s :: L1, s', L2, P', Q', by rw [e1]; rfl, e2, by rw [h1, e3]; simp⟩
    · cases c with
      | nil =>
        simp only [List.nil_append] at h2
        obtain ⟨L1, s', L2, P', Q', e1, e2, e3⟩ := ih (P := []) (Q := Q) (by simpa using h2.symm)
        exact ⟨s :: L1, s', L2, P', Q', by rw [e1]; rfl, e2, by
          have : L1.flatten ++ P' = [] := e3.symm
          simp only [List.flatten_cons, List.append_assoc, this]
          simpa using h1.symm⟩
      | cons y c =>
        simp only [List.cons_append, List.cons.injEq] at h2
        obtain ⟨rfl, _⟩ := h2
        exact ⟨[], s, ls, P, c, rfl, h1, by simp⟩
theorem kids_lt {l : List Int} {v : Nat} : (kids l v).Pairwise (· < ·) := by
  unfold kids
  exact List.Pairwise.filter _ List.pairwise_lt_range
theorem ltx_good {l : List Int} (ok : okP l) : ∀ m v, l.length - v = m → v < l.length → Good (ltx l v) := by
  intro m
  induction m using Nat.strongRecOn with
  | _ m ih =>
    intro v hm hv P u x Q hS
    rw [ltx_eq ok hv] at hS
    cases P with
    | nil =>
      simp only [List.nil_append, List.cons.injEq] at hS
      obtain ⟨h1, _⟩ := hS
      cases h1
      exact ⟨fun _ => by simp, fun h => by cases h⟩
    | cons y P =>
      simp only [List.cons_append, List.cons.injEq] at hS
      obtain ⟨rfl, hS⟩ := hS
      have inner : ∀ {P' c' : List (Nat × Bool)}, ((kids l v).map (ltx l)).flatten = P' ++ (u, x) :: c' → (x = true → (u, true) ∉ (v, true) :: P') ∧ (x = false → (u, true) ∈ (v, true) :: P') := by
        intro P' c' hf
        obtain ⟨L1, s, L2, P2, Q2, e1, e2, e3⟩ := split_flat hf
        obtain ⟨K1, K2', ek, ek1, ek2⟩ := List.map_eq_append_iff.1 e1
        obtain ⟨c, K2, rfl, ek3, ek4⟩ := List.map_eq_cons_iff.1 ek2
        have hc : c ∈ kids l v := by rw [ek]; simp
        have hcg := kid_gt ok hc
        have hg := ih (l.length - c) (by omega) c rfl hcg.2 P2 u x Q2 (by rw [ek3]; exact e2)
        have hmem : (u, x) ∈ ltx l c := by rw [ek3, e2]; simp
        have hau := lab_anc ok _ c rfl hcg.2 u x hmem
        refine ⟨fun hx hin => ?_, fun hx => ?_⟩
        · rcases List.mem_cons.1 hin with h | h
          · have : u = v := by cases h; rfl
            have := hau.1.le ok; omega
          · rw [e3] at h
            rcases List.mem_append.1 h with h | h
            · obtain ⟨s', hs', hus'⟩ := List.mem_flatten.1 h
              rw [← ek1] at hs'
              obtain ⟨c1, hc1, rfl⟩ := List.mem_map.1 hs'
              have hc1k : c1 ∈ kids l v := by rw [ek]; simp [hc1]
              have hc1g := kid_gt ok hc1k
              have hau1 := lab_anc ok _ c1 rfl hc1g.2 u true hus'
              have hlt : c1 < c := by
                have hp := kids_lt (l := l) (v := v)
                rw [ek] at hp
                exact (List.pairwise_append.1 hp).2.2 c1 hc1 c (by simp)
              rcases hau1.1.linear hau.1 with h5 | h5
              · cases h5 with
                | refl => omega
                | step g1 g2 g3 =>
                  rw [(mem_kids.1 hc).2] at g2
                  obtain rfl := Int.ofNat.inj g2
                  have := g3.le ok; omega
              · have := h5.le ok; omega
            · exact hg.1 hx h
        · have := hg.2 hx
          rw [e3]; simp [this]
      rcases List.append_eq_append_iff.1 hS with ⟨a, h1, h2⟩ | ⟨c, h1, h2⟩
      · -- the last one
        cases a with
        | nil =>
          simp only [List.nil_append, List.cons.injEq] at h2
          obtain ⟨h3, _⟩ := h2
          cases h3
          exact ⟨fun h => (by cases h), fun _ => by simp⟩
        | cons z a =>
          simp only [List.cons_append, List.cons.injEq] at h2
          have := congrArg List.length h2.2
          simp at this
      · cases c with
        | nil =>
          simp only [List.nil_append, List.cons.injEq] at h2
          obtain ⟨h3, _⟩ := h2
          cases h3
          exact ⟨fun h => (by cases h), fun _ => by simp⟩
        | cons z c =>
          simp only [List.cons_append, List.cons.injEq] at h2
          obtain ⟨rfl, _⟩ := h2
          exact inner h1
end Go.Proofs.Ytmlfoefadmlhpaa
