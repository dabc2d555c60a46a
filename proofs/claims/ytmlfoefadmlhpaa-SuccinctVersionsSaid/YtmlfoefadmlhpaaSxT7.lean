/- Part T7 of the proof: contracts of functions of the program, and what follows from them. -/
import Derived.Test.YtmlfoefadmlhpaaSxT6
set_option maxRecDepth 10000
namespace Go.Proofs.Ytmlfoefadmlhpaa
open Go Go.Sx

/-! ### balanced parentheses -/
theorem Ex_step (b : List Bool) {t : Nat} (ht : t < b.length) : (b.getD t false = true ∧ Ex b (t + 1) = Ex b t + 1) ∨ (b.getD t false = false ∧ Ex b (t + 1) = Ex b t - 1) := by
  have := Ex_succ b ht
  cases h : b.getD t false
  · rw [h] at this; exact .inr ⟨rfl, by simp only [Bool.false_eq_true, if_false] at this; omega⟩
  · rw [h] at this; exact .inl ⟨rfl, by simpa using this⟩
theorem Bal1.nonneg {b : List Bool} (B : Bal1 b) {t : Nat} (ht : t ≤ b.length) : 0 ≤ Ex b t := by
  rcases Nat.eq_zero_or_pos t with h | h
  · subst h; rw [Ex_zero]; omega
  · rcases Nat.lt_or_ge t b.length with h1 | h1
    · have := B.2.2 t h h1; omega
    · have : t = b.length := by omega
      subst this; rw [B.2.1]; omega
theorem Bal1.zero {b : List Bool} (B : Bal1 b) {t : Nat} (ht : t < b.length) (h : Ex b t = 0) : t = 0 := by
  rcases Nat.eq_zero_or_pos t with h1 | h1
  · exact h1
  · have := B.2.2 t h1 ht; omega
theorem Bal1.first {b : List Bool} (B : Bal1 b) : b.getD 0 false = true := by
  rcases Ex_step b B.1 with h | h
  · exact h.1
  · rw [Ex_zero] at h
    rcases Nat.lt_or_ge 1 b.length with h1 | h1
    · have h2 := B.2.2 1 (by omega) h1
      have h3 : Ex b 1 = 0 - 1 := h.2
      omega
    · have h2 := B.2.1
      have h4 : b.length = 1 := by have := B.1; omega
      rw [h4] at h2
      have h3 : Ex b 1 = 0 - 1 := h.2
      omega
/-- What is opened is closed. -/
theorem close_ex' {b : List Bool} (B : Bal1 b) {i : Nat} (hi : i < b.length) (hb : b.getD i false = true) : ∃ j, IsClose b i j := by
  have hn := B.nonneg (t := i) (by omega)
  have key : ∀ m t, t + m = b.length → i < t → (∀ u, i < u → u ≤ t → Ex b i < Ex b u) → ∃ j, IsClose b i j := by
    intro m
    induction m with
    | zero =>
      intro t ht hit hall
      have := hall b.length (by omega) (by omega)
      rw [B.2.1] at this; omega
    | succ m ih =>
      intro t ht hit hall
      have h0 := hall t hit (Nat.le_refl _)
      rcases Ex_step b (t := t) (by omega) with ⟨_, h1⟩ | ⟨_, h1⟩
      · refine ih (t + 1) (by omega) (by omega) fun u h2 h3 => ?_
        rcases Nat.lt_or_ge u (t + 1) with h4 | h4
        · exact hall u h2 (by omega)
        · have : u = t + 1 := by omega
          subst this; omega
      · by_cases h5 : Ex b (t + 1) = Ex b i
        · exact ⟨t, hit, by omega, hb, h5, hall⟩
        · refine ih (t + 1) (by omega) (by omega) fun u h2 h3 => ?_
          rcases Nat.lt_or_ge u (t + 1) with h4 | h4
          · exact hall u h2 (by omega)
          · have : u = t + 1 := by omega
            subst this; omega
  rcases Ex_step b hi with ⟨_, h1⟩ | ⟨h1, _⟩
  · refine key (b.length - (i + 1)) (i + 1) (by omega) (by omega) fun u h2 h3 => ?_
    have : u = i + 1 := by omega
    subst this; omega
  · rw [hb] at h1; cases h1
theorem IsClose.last {b : List Bool} {i j : Nat} (c : IsClose b i j) : b.getD j false = false := by
  have h1 := c.2.2.2.2 j c.1 (Nat.le_refl _)
  rcases Ex_step b c.2.1 with ⟨_, h2⟩ | ⟨h2, _⟩
  · have := c.2.2.2.1; omega
  · exact h2
/-- The parenthesis around what is opened at i. -/
def IsPar (b : List Bool) (i p : Nat) : Prop := p < i ∧ b.getD p false = true ∧ Ex b p = Ex b i - 1 ∧ ∀ t, p < t → t ≤ i → Ex b p < Ex b t
theorem IsPar.unique {b : List Bool} {i p q : Nat} (h : IsPar b i p) (g : IsPar b i q) : p = q := by
  rcases Nat.lt_trichotomy p q with hl | hl | hl
  · have := h.2.2.2 q hl (by have := g.1; omega); have := g.2.2.1; have := h.2.2.1; omega
  · exact hl
  · have := g.2.2.2 p hl (by have := h.1; omega); have := g.2.2.1; have := h.2.2.1; omega

/-- The nodes: what is opened where, what closes it. -/
structure Nd (b : List Bool) (v o j : Nat) : Prop where
  sel : IsSel b true v o
  close : IsClose b o j
theorem cnt_all {b : List Bool} (B : Bal1 b) : 2 * cntB b true b.length = b.length := by
  have := B.2.1
  unfold Ex at this
  omega
theorem sel_ex {b : List Bool} : ∀ m v, m ≤ b.length → v < cntB b true m → ∃ o, IsSel b true v o := by
  intro m
  induction m with
  | zero => intro v _ h; simp [cntB] at h
  | succ m ih =>
    intro v hm hv
    have hs := cntB_succ b true m (by omega)
    by_cases hb : b.getD m false = true
    · rw [if_pos hb] at hs
      rcases Nat.lt_or_ge v (cntB b true m) with h1 | h1
      · exact ih v (by omega) h1
      · exact ⟨m, by omega, hb, by omega⟩
    · rw [if_neg hb] at hs
      exact ih v (by omega) (by omega)
theorem nd_ex {b : List Bool} (B : Bal1 b) {v : Nat} (hv : v < b.length / 2) : ∃ o j, Nd b v o j := by
  have := cnt_all B
  obtain ⟨o, ho⟩ := sel_ex b.length v (Nat.le_refl _) (by omega)
  obtain ⟨j, hj⟩ := close_ex' B ho.1 ho.2.1
  exact ⟨o, j, ho, hj⟩
theorem Nd.lt {b : List Bool} (B : Bal1 b) {v o j : Nat} (d : Nd b v o j) : v < b.length / 2 := by
  have := cnt_all B
  have := sel_cnt d.sel
  omega
theorem nd_at {b : List Bool} (B : Bal1 b) {o : Nat} (ho : o < b.length) (hb : b.getD o false = true) : ∃ j, Nd b (cntB b true o) o j := by
  obtain ⟨j, hj⟩ := close_ex' B ho hb
  exact ⟨j, ⟨ho, hb, rfl⟩, hj⟩
theorem Nd.uniq {b : List Bool} {v o j o' j' : Nat} (d : Nd b v o j) (d' : Nd b v o' j') : o = o' ∧ j = j' := by
  have := sel_unique d.sel d'.sel
  subst this
  exact ⟨rfl, d.close.unique d'.close⟩
/-- The size of a node. -/
theorem Nd.size {b : List Bool} {v o j : Nat} (d : Nd b v o j) : v + (j - o + 1) / 2 = cntB b true (j + 1) ∧ v + (j - o + 1) / 2 = cntB b true j ∧ (j - o + 1) % 2 = 0 ∧ 1 ≤ (j - o + 1) / 2 := by
  obtain ⟨h1, h2, h3, h4, h5⟩ := d.close
  have hs := cntB_succ b true j h2
  rw [if_neg (by rw [d.close.last]; simp)] at hs
  have hc := d.sel.2.2
  unfold Ex at h4
  omega
theorem Nd.root {b : List Bool} (B : Bal1 b) : ∃ j, Nd b 0 0 j := by
  obtain ⟨j, hj⟩ := nd_at B B.1 B.first
  have : cntB b true 0 = 0 := by simp [cntB]
  rw [this] at hj
  exact ⟨j, hj⟩
theorem par_ex {b : List Bool} (B : Bal1 b) {i : Nat} (hi : i < b.length) (h0 : 0 < i) : ∃ p, IsPar b i p := by
  have hpos := B.2.2 i h0 hi
  have key : ∀ m, m ≤ i → (∀ t, m ≤ t → t ≤ i → Ex b i ≤ Ex b t) → ∃ p, IsPar b i p := by
    intro m
    induction m with
    | zero => intro _ hall; have := hall 0 (Nat.le_refl _) (by omega); rw [Ex_zero] at this; omega
    | succ m ih =>
      intro hm hall
      have h1 := hall (m + 1) (Nat.le_refl _) hm
      by_cases h2 : Ex b i ≤ Ex b m
      · refine ih (by omega) fun t h3 h4 => ?_
        rcases Nat.lt_or_ge m t with h5 | h5
        · exact hall t (by omega) h4
        · have : t = m := by omega
          subst this; exact h2
      · rcases Ex_step b (t := m) (by omega) with ⟨h3, h4⟩ | ⟨_, h4⟩
        · exact ⟨m, by omega, h3, by omega, fun t h5 h6 => by have := hall t (by omega) h6; omega⟩
        · omega
  exact key i (Nat.le_refl _) fun t h1 h2 => by have : t = i := by omega
                                                subst this; exact Int.le_refl _

/-! ### ancestors -/
theorem sel_mono {b : List Bool} {v w o q : Nat} (h : IsSel b true v o) (g : IsSel b true w q) : o ≤ q ↔ v ≤ w := by
  constructor
  · intro hle
    have := cntB_mono b true hle
    have := h.2.2; have := g.2.2; omega
  · intro hle
    rcases Nat.lt_or_ge q o with h1 | h1
    · have := sel_lt g h1; have := h.2.2; omega
    · exact h1
def Anc (b : List Bool) (a v : Nat) : Prop := ∃ oa ja o j, Nd b a oa ja ∧ Nd b v o j ∧ oa ≤ o ∧ o ≤ ja
theorem Anc.le {b : List Bool} {a v : Nat} (h : Anc b a v) : a ≤ v := by
  obtain ⟨oa, ja, o, j, d1, d2, h1, _⟩ := h
  exact (sel_mono d1.sel d2.sel).1 h1
theorem Anc.refl {b : List Bool} {v o j : Nat} (d : Nd b v o j) : Anc b v v := ⟨o, j, o, j, d, d, Nat.le_refl _, Nat.le_of_lt d.close.1⟩
/-- By numbers. -/
theorem anc_iff {b : List Bool} {a oa ja v o j : Nat} (d1 : Nd b a oa ja) (d2 : Nd b v o j) : Anc b a v ↔ a ≤ v ∧ v < a + (ja - oa + 1) / 2 := by
  have hs := d1.size
  constructor
  · rintro ⟨oa', ja', o', j', e1, e2, h1, h2⟩
    obtain ⟨rfl, rfl⟩ := d1.uniq e1
    obtain ⟨rfl, rfl⟩ := d2.uniq e2
    refine ⟨(sel_mono d1.sel d2.sel).1 h1, ?_⟩
    have := sel_lt d2.sel (show o < ja + 1 by omega)
    omega
  · rintro ⟨h1, h2⟩
    refine ⟨oa, ja, o, j, d1, d2, (sel_mono d1.sel d2.sel).2 h1, ?_⟩
    rcases Nat.lt_or_ge ja o with h3 | h3
    · have := cntB_mono b true (show ja + 1 ≤ o by omega)
      have := d2.sel.2.2
      omega
    · exact h3
/-- Nodes are apart or one in the other. -/
theorem close_nest {b : List Bool} {i ji k jk : Nat} (ci : IsClose b i ji) (ck : IsClose b k jk) (h1 : i ≤ k) (h2 : k ≤ ji) : jk ≤ ji := by
  rcases Nat.lt_or_ge ji jk with h3 | h3
  · have h4 := ck.2.2.2.2 (ji + 1) (by omega) (by omega)
    rcases Nat.lt_or_ge i k with h5 | h5
    · have := ci.2.2.2.2 k h5 h2
      have := ci.2.2.2.1; omega
    · have : k = i := by omega
      subst this
      have := ci.2.2.2.1; omega
  · exact h3
theorem Anc.trans {b : List Bool} {a c v : Nat} (h : Anc b a c) (g : Anc b c v) : Anc b a v := by
  obtain ⟨oa, ja, oc, jc, d1, d2, h1, h2⟩ := h
  obtain ⟨oc', jc', o, j, d2', d3, h3, h4⟩ := g
  obtain ⟨rfl, rfl⟩ := d2.uniq d2'
  have := close_nest d1.close d2.close h1 h2
  exact ⟨oa, ja, o, j, d1, d3, by omega, by omega⟩
/-- A node's parent. -/
def ParN (b : List Bool) (v p : Nat) : Prop := ∃ o op, IsSel b true v o ∧ IsSel b true p op ∧ IsPar b o op
theorem ParN.lt {b : List Bool} {v p : Nat} (h : ParN b v p) : p < v := by
  obtain ⟨o, op, h1, h2, h3⟩ := h
  have := h3.1
  rcases Nat.lt_or_ge p v with h4 | h4
  · exact h4
  · have := (sel_mono h1 h2).2 h4; omega
theorem ParN.unique {b : List Bool} {v p q : Nat} (h : ParN b v p) (g : ParN b v q) : p = q := by
  obtain ⟨o, op, h1, h2, h3⟩ := h
  obtain ⟨o', oq, g1, g2, g3⟩ := g
  have := sel_unique h1 g1
  subst this
  have := h3.unique g3
  subst this
  have := h2.2.2; have := g2.2.2; omega
theorem ParN.ex {b : List Bool} (B : Bal1 b) {v : Nat} (hv : v < b.length / 2) (h0 : 0 < v) : ∃ p, ParN b v p := by
  obtain ⟨o, j, d⟩ := nd_ex B hv
  have ho : 0 < o := by
    rcases Nat.eq_zero_or_pos o with h | h
    · subst h; have := d.sel.2.2; simp [cntB] at this; omega
    · exact h
  obtain ⟨p, hp⟩ := par_ex B d.sel.1 ho
  exact ⟨cntB b true p, o, p, d.sel, ⟨by have := hp.1; have := d.sel.1; omega, hp.2.1, rfl⟩, hp⟩
theorem par_close {b : List Bool} {i p jp : Nat} (hp : IsPar b i p) (_hi : i < b.length) (_hb : b.getD i false = true) (c : IsClose b p jp) : i ≤ jp := by
  rcases Nat.lt_or_ge jp i with h | h
  · have h1 := hp.2.2.2 (jp + 1) (by have := c.1; omega) (by omega)
    have := c.2.2.2.1; omega
  · exact h
theorem ParN.anc {b : List Bool} (B : Bal1 b) {v p : Nat} (h : ParN b v p) : Anc b p v := by
  obtain ⟨o, op, h1, h2, h3⟩ := h
  obtain ⟨j, hj⟩ := close_ex' B h1.1 h1.2.1
  obtain ⟨jp, hjp⟩ := close_ex' B h2.1 h2.2.1
  exact ⟨op, jp, o, j, ⟨h2, hjp⟩, ⟨h1, hj⟩, by have := h3.1; omega, par_close h3 h1.1 h1.2.1 hjp⟩
theorem Anc.par {b : List Bool} (B : Bal1 b) {a v p : Nat} (h : Anc b a v) (hne : a ≠ v) (hp : ParN b v p) : Anc b a p := by
  obtain ⟨oa, ja, o, j, d1, d2, h1, h2⟩ := h
  obtain ⟨o', op, g1, g2, g3⟩ := hp
  have := sel_unique d2.sel g1
  subst this
  have hlt : oa < o := by
    rcases Nat.lt_or_ge oa o with h3 | h3
    · exact h3
    · have : oa = o := by omega
      subst this
      have := d1.sel.2.2; have := d2.sel.2.2; omega
  obtain ⟨jp, hjp⟩ := close_ex' B g2.1 g2.2.1
  refine ⟨oa, ja, op, jp, d1, ⟨g2, hjp⟩, ?_, by have := g3.1; omega⟩
  rcases Nat.lt_or_ge op oa with h3 | h3
  · have h4 := g3.2.2.2 oa h3 (by omega)
    have h5 := d1.close.2.2.2.2 o hlt h2
    have := g3.2.2.1; omega
  · exact h3
/-- The lowest common ancestor. -/
def LcaR (b : List Bool) (v w r : Nat) : Prop := (∃ o j, Nd b r o j) ∧ ∀ a, (Anc b a v ∧ Anc b a w) ↔ Anc b a r
theorem LcaR.unique {b : List Bool} {v w r q : Nat} (h : LcaR b v w r) (g : LcaR b v w q) : r = q := by
  obtain ⟨⟨o, j, d⟩, h⟩ := h
  obtain ⟨⟨o', j', d'⟩, g⟩ := g
  have h1 := ((g r).1 ((h r).2 (Anc.refl d))).le
  have h2 := ((h q).1 ((g q).2 (Anc.refl d'))).le
  omega
end Go.Proofs.Ytmlfoefadmlhpaa
