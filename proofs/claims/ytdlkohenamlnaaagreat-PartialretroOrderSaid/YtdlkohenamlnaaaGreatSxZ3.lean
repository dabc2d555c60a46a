/- Part SE P38 Z3 of the proof: contracts of functions of the program, and what follows from them. -/
import Derived.Test.YtdlkohenamlnaaaGreatSxSD
/- Sorting: pdqsort. -/
set_option maxRecDepth 100000
namespace Go.Proofs.YtdlkohenamlnaaaGreat
open Go Go.Sx
abbrev ZInvS5 (cf : S5 → S5 → Int) (h0 : Hp) (p : Option Addr) (n cp a0 b0 : Nat) (xs : List S5) (F : Bag) (a1 b1 : Nat) (h : Hp) : Prop := a0 ≤ a1 ∧ a1 ≤ b1 ∧ b1 ≤ b0 ∧ OutS5 h0 p n cp a0 b0 xs F h (OutR tS5.d (fun x y : S5 => cf x y < 0) a0 b0 a1 b1)
theorem pdqS5 {h0 : Hp} {p : Option Addr} {n cp : Nat} {F : Bag} {cmp : Value} {cf : S5 → S5 → Int} {P : S5 → Prop} (hX : CmpS5 h0 cmp cf P) (ho : OrdP (fun x y : S5 => cf x y < 0)) (hn : n < 1000000) : ∀ (N : Nat) {h : Hp} {a0 b0 : Nat} {a b lim : Int} {xs : List S5} {A : Bag} (_ : b0 - a0 ≤ N) (_ : St h0 h (A + F)) (_ : Sl tS5 p n cp xs A) (_ : ∀ k, k < n → P (xs.getD k tS5.d)) (_ : a = (a0 : Int)) (_ : b = (b0 : Int)) (_ : a0 ≤ b0) (_ : b0 ≤ n) (_ : 0 ≤ lim ∧ lim < 1000000)
    (_ : 0 < a0 → ∀ k, a0 ≤ k → k < b0 → ¬ (fun x y : S5 => cf x y < 0) (xs.getD k tS5.d) (xs.getD (a0 - 1) tS5.d)),
    HCalls Tryz.prog 88 #[.slice p n cp, .int .i64 a, .int .i64 b, .int .i64 lim, cmp] h (fun v h' => v = .tuple #[] ∧ OutS5 h0 p n cp a0 b0 xs F h' (SrtR tS5.d (fun x y : S5 => cf x y < 0) a0 b0)) := by
  intro N
  induction N using Nat.strongRecOn with
  | _ N ih =>
  intro h a0 b0 a b lim xs A hN s o hP ea eb hab hb hlim hlow
  subst ea eb
  have hl0 := o.len
  refine slices_pdqsortCmpFunc_l35_Step_call ?_
  generalize hR : (fun v h' => v = Value.tuple #[] ∧ OutS5 h0 p n cp a0 b0 xs F h' (SrtR tS5.d (fun x y : S5 => cf x y < 0) a0 b0)) = R
  have fin : ∀ (a1 b1 : Nat) (h' : Hp) (ys : List S5), a0 ≤ a1 → b1 ≤ b0 → Swp tS5.d a0 b0 xs ys → OutR tS5.d (fun x y : S5 => cf x y < 0) a0 b0 a1 b1 ys → OutS5 h0 p n cp a1 b1 ys F h' (SrtR tS5.d (fun x y : S5 => cf x y < 0) a1 b1) → R (.tuple #[]) h' := by
    rintro a1 b1 h' ys g1 g2 w ho ⟨zs, A2, o2, s2, w2, hs⟩
    have := w.len
    rw [← hR]
    exact ⟨rfl, zs, A2, o2, s2, w.trans (w2.mono g1 g2 (by omega)).1, outR_done (outR_swp g1 g2 ho w2) hs⟩
  clear hR
  -- what lies before the range is not more than what lies in it
  have low : ∀ (a1 b1 : Nat) (ys : List S5), a0 ≤ a1 → b1 ≤ b0 → Swp tS5.d a0 b0 xs ys → OutR tS5.d (fun x y : S5 => cf x y < 0) a0 b0 a1 b1 ys → 0 < a1 → ∀ k, a1 ≤ k → k < b1 → ¬ (fun x y : S5 => cf x y < 0) (ys.getD k tS5.d) (ys.getD (a1 - 1) tS5.d) := by
    intro a1 b1 ys g1 g2 w ho h1 k k1 k2
    by_cases he : a1 = a0
    · subst he
      rw [w.out (k := a1 - 1) (.inl (by omega))]
      exact w.all (P := fun x => ¬ (fun x y : S5 => cf x y < 0) x (xs.getD (a1 - 1) tS5.d)) (hlow h1) k k1 (by omega)
    · exact ho (a1 - 1) k (by omega) (by omega) (by omega) (by omega)
  have b5 : ∀ (a1 b1 pv : Nat) (lim : Int) (h' : Hp) (nx : Int × Int × Int × Bool × Bool × Unit → Hp → Prop), ZInvS5 cf h0 p n cp a0 b0 xs F a1 b1 h' → a1 ≤ pv → pv < b1 → 0 ≤ lim → lim < 1000000 →
      (∀ (a2 b2 : Nat) (l2 : Int) (wb wp : Bool) (h2 : Hp), ZInvS5 cf h0 p n cp a0 b0 xs F a2 b2 h2 → b2 - a2 < b1 - a1 → 0 ≤ l2 → l2 < 1000000 → nx ((a2 : Int), (b2 : Int), l2, wb, wp, ()) h2) → slices_pdqsortCmpFunc_l35_Step_b5 p n cp a1 b1 lim cmp ((b1 : Int) - a1) pv h' nx R := by
    rintro a1 b1 pv lim h' nx ⟨g1, g2, g3, ys, A1, o, s, w, ho2⟩ hv1 hv2 hl1 hl2 hnx
    have hl := o.len
    have hPy := w.allN hl0 hP
    rw [slices_pdqsortCmpFunc_l35_Step_b5_eq]
    refine (partitionS5 hX ho s o hPy rfl rfl rfl ⟨hv1, hv2⟩ (by omega) hn).mono fun v h2 ⟨m, bb, hv, m1, m2, zs, A2, o2, s2, w2, hp⟩ => ⟨_, _, hv, ⟨by omega, by omega⟩, ⟨by omega, by omega⟩, quo_intro (by omega) (by omega) (by omega) ?_⟩
    have w02 := w.trans (w2.mono g1 g3 (by omega)).1
    have ho3 := outR_swp g1 g3 ho2 w2
    have hPz := w02.allN hl0 hP
    have hlz := o2.len
    have hlow2 := low a1 b1 zs g1 g3 w02 ho3
    refine condP (fun hlt => ?_) (fun hlt => ⟨⟨by omega, by omega⟩, ?_⟩)
    · refine (ih (m - a1) (by omega) (a0 := a1) (b0 := m) (Nat.le_refl _) s2 o2 hPz rfl rfl m1 (by omega) ⟨hl1, hl2⟩ fun q k k1 k2 => hlow2 q k k1 (by omega)).mono fun v h3 ⟨hv, us, A3, o3, s3, w3, hs3⟩ => ⟨hv, ⟨by omega, by omega⟩, ?_⟩
      have hm : us.getD m tS5.d = zs.getD m tS5.d := w3.out (.inr (Nat.le_refl _))
      have hp3 : PartR tS5.d (fun x y : S5 => cf x y < 0) a1 b1 m us := ⟨by rw [hm]; exact w3.all (P := fun x => (fun x y : S5 => cf x y < 0) x (zs.getD m tS5.d)) hp.1, fun k k1 k2 => by rw [hm, w3.out (k := k) (.inr (by omega))]; exact hp.2 k k1 k2⟩
      have := hnx (m + 1) b1 lim (decide (((b1 : Int) - a1) / 8 ≤ (m : Int) - a1)) bb h3 ⟨by omega, by omega, g3, us, A3, o3, s3, w02.trans (w3.mono g1 (by omega) (by omega)).1, outR_left ho g1 g3 m1 m2 (outR_swp g1 g3 ho3 (w3.mono (Nat.le_refl _) (by omega) (by omega)).1) hp3 hs3⟩ (by omega) hl1 hl2
      rwa [show ((m + 1 : Nat) : Int) = (m : Int) + 1 by push_cast; rfl] at this
    · refine (ih (b1 - (m + 1)) (by omega) (a0 := m + 1) (b0 := b1) (Nat.le_refl _) s2 o2 hPz (by push_cast; rfl) rfl (by omega) (by omega) ⟨hl1, hl2⟩ fun q k k1 k2 => hp.2 k (by omega) k2).mono fun v h3 ⟨hv, us, A3, o3, s3, w3, hs3⟩ => ⟨hv, ?_⟩
      have hm : us.getD m tS5.d = zs.getD m tS5.d := w3.out (.inl (by omega))
      have hp3 : PartR tS5.d (fun x y : S5 => cf x y < 0) a1 b1 m us := ⟨fun k k1 k2 => by rw [hm, w3.out (k := k) (.inl (by omega))]; exact hp.1 k k1 k2, fun k k1 k2 => by rw [hm]; exact w3.all (P := fun x => ¬ (fun x y : S5 => cf x y < 0) x (zs.getD m tS5.d)) (fun k k1 k2 => hp.2 k (by omega) k2) k (by omega) k2⟩
      exact hnx a1 m lim _ bb h3 ⟨g1, m1, by omega, us, A3, o3, s3, w02.trans (w3.mono (by omega) g3 (by omega)).1, outR_right ho g1 g3 m1 m2 (outR_swp g1 g3 ho3 (w3.mono (by omega) (Nat.le_refl _) (by omega)).1) hp3 hs3⟩ (by omega) hl1 hl2
  have b4 : ∀ (a1 b1 pv : Nat) (lim : Int) (wb wp : Bool) (h' : Hp) (nx : Int × Int × Int × Bool × Bool × Unit → Hp → Prop), ZInvS5 cf h0 p n cp a0 b0 xs F a1 b1 h' → a1 ≤ pv → pv < b1 → 0 ≤ lim → lim < 1000000 →
      (∀ (a2 b2 : Nat) (l2 : Int) (wb wp : Bool) (h2 : Hp), ZInvS5 cf h0 p n cp a0 b0 xs F a2 b2 h2 → b2 - a2 < b1 - a1 → 0 ≤ l2 → l2 < 1000000 → nx ((a2 : Int), (b2 : Int), l2, wb, wp, ()) h2) → slices_pdqsortCmpFunc_l35_Step_b4 p n cp a1 b1 lim cmp wb wp ((b1 : Int) - a1) pv h' nx R := by
    rintro a1 b1 pv lim wb wp h' nx ⟨g1, g2, g3, ys, A1, o, s, w, ho2⟩ hv1 hv2 hl1 hl2 hnx
    have hl := o.len
    rw [slices_pdqsortCmpFunc_l35_Step_b4_eq]
    refine condP (fun ha => ⟨⟨by omega, by omega⟩, ?_⟩) (fun _ => b5 a1 b1 pv lim _ _ ⟨g1, g2, g3, ys, A1, o, s, w, ho2⟩ hv1 hv2 hl1 hl2 hnx)
    have hlow2 := low a1 b1 ys g1 g3 w ho2 (by omega)
    have r := o.rd s
    have hPy := w.allN hl0 hP
    have hP := hPy
    refine ldS5 (i' := a1 - 1) r (by omega) (by omega) (ldS5 (i' := pv) r rfl (by omega) ?_)
    refine hX _ _ _ _ s.ext (hP _ (by omega)) (hP _ (by omega)) fun h5 e5 => ⟨_, rfl, ?_⟩; have s := s.grow e5
    refine condN (fun hc => ?_) (fun hc => b5 a1 b1 pv lim _ _ ⟨g1, g2, g3, ys, A1, o, s, w, ho2⟩ hv1 hv2 hl1 hl2 hnx)
    refine (partitionEqualS5 hX ho s o hPy rfl rfl rfl ⟨hv1, hv2⟩ (by omega) hn).mono fun v h2 ⟨m, hv, m1, m2, zs, A2, o2, s2, w2, hp⟩ => ⟨_, hv, ?_⟩
    exact hnx m b1 lim wb wp h2 ⟨by omega, m2, g3, zs, A2, o2, s2, w.trans (w2.mono g1 g3 (by omega)).1, outR_equal ho g1 g3 (by omega) m2 (outR_swp g1 g3 ho2 w2) hp.2 (w2.all (P := fun x => ¬ (fun x y : S5 => cf x y < 0) x (ys.getD pv tS5.d)) fun k k1 k2 => ho.trans _ _ _ hc (hlow2 k k1 k2))⟩ (by omega) hl1 hl2
  have b3 : ∀ (a1 b1 pv : Nat) (hint lim : Int) (wb wp : Bool) (h' : Hp) (nx : Int × Int × Int × Bool × Bool × Unit → Hp → Prop), ZInvS5 cf h0 p n cp a0 b0 xs F a1 b1 h' → a1 ≤ pv → pv < b1 → 0 ≤ lim → lim < 1000000 →
      (∀ (a2 b2 : Nat) (l2 : Int) (wb wp : Bool) (h2 : Hp), ZInvS5 cf h0 p n cp a0 b0 xs F a2 b2 h2 → b2 - a2 < b1 - a1 → 0 ≤ l2 → l2 < 1000000 → nx ((a2 : Int), (b2 : Int), l2, wb, wp, ()) h2) → slices_pdqsortCmpFunc_l35_Step_b3 p n cp a1 b1 lim cmp wb wp ((b1 : Int) - a1) pv hint h' nx R := by
    rintro a1 b1 pv hint lim wb wp h' nx hI hv1 hv2 hl1 hl2 hnx
    have go := fun h2 (hI : ZInvS5 cf h0 p n cp a0 b0 xs F a1 b1 h2) => b4 a1 b1 pv lim wb wp h2 nx hI hv1 hv2 hl1 hl2 hnx
    rw [slices_pdqsortCmpFunc_l35_Step_b3_eq]
    refine cond_intro (fun _ => cond_intro (fun _ => condP (fun _ => ?_) fun _ => go _ hI) fun _ => go _ hI) fun _ => go _ hI
    obtain ⟨g1, g2, g3, ys, A1, o, s, w, ho2⟩ := hI
    have hl := o.len
    refine (partialInsertionSortS5 hX ho s o (w.allN hl0 hP) rfl rfl (by omega) (by omega) hn (low a1 b1 ys g1 g3 w ho2)).mono fun v h2 ⟨bb, hv, zs, A2, o2, s2, w2, hp⟩ => ⟨_, hv, cond_intro (fun hb => ?_) (fun hb => ?_)⟩
    · exact fin a1 b1 h2 ys g1 g3 w ho2 ⟨zs, A2, o2, s2, w2, hp hb⟩
    · exact go _ ⟨g1, g2, g3, zs, A2, o2, s2, w.trans (w2.mono g1 g3 (by omega)).1, outR_swp g1 g3 ho2 w2⟩
  have b2 : ∀ (a1 b1 : Nat) (lim : Int) (wb wp : Bool) (h' : Hp) (nx : Int × Int × Int × Bool × Bool × Unit → Hp → Prop), ZInvS5 cf h0 p n cp a0 b0 xs F a1 b1 h' → a1 < b1 → 0 ≤ lim → lim < 1000000 →
      (∀ (a2 b2 : Nat) (l2 : Int) (wb wp : Bool) (h2 : Hp), ZInvS5 cf h0 p n cp a0 b0 xs F a2 b2 h2 → b2 - a2 < b1 - a1 → 0 ≤ l2 → l2 < 1000000 → nx ((a2 : Int), (b2 : Int), l2, wb, wp, ()) h2) → slices_pdqsortCmpFunc_l35_Step_b2 p n cp a1 b1 lim cmp wb wp ((b1 : Int) - a1) h' nx R := by
    rintro a1 b1 lim wb wp h' nx ⟨g1, g2, g3, ys, A1, o, s, w, ho2⟩ hlt hl1 hl2 hnx
    have hl := o.len
    rw [slices_pdqsortCmpFunc_l35_Step_b2_eq]
    refine (choosePivotS5 hX ho s o (w.allN hl0 hP) rfl rfl hlt (by omega) hn).mono fun v h2 ⟨u, hint, hv, u1, u2, s⟩ => ⟨_, _, hv, condP (fun _ => ?_) (fun _ => ?_)⟩
    · refine (reverseRangeS5 s o rfl rfl (by omega) (by omega) hn).mono fun v h2 ⟨hv, zs, A2, o2, s2, w2, _⟩ => ⟨hv, ⟨by omega, by omega⟩, ⟨by omega, by omega⟩, ⟨by omega, by omega⟩, ?_⟩
      have := b3 a1 b1 ((b1 : Int) - 1 - (u - a1)).toNat 1 lim wb wp h2 nx ⟨g1, g2, g3, zs, A2, o2, s2, w.trans (w2.mono g1 g3 (by omega)).1, outR_swp g1 g3 ho2 w2⟩ (by omega) (by omega) hl1 hl2 hnx
      rwa [Int.toNat_of_nonneg (by omega)] at this
    · have := b3 a1 b1 u.toNat hint lim wb wp h2 nx ⟨g1, g2, g3, ys, A1, o, s, w, ho2⟩ (by omega) (by omega) hl1 hl2 hnx
      rwa [Int.toNat_of_nonneg (by omega)] at this
  rw [slices_pdqsortCmpFunc_l35_Step_b0_eq]
  refine ⟨fun st h1 => ∃ (a1 b1 : Nat), st.1 = (a1 : Int) ∧ st.2.1 = (b1 : Int) ∧ 0 ≤ st.2.2.1 ∧ st.2.2.1 < 1000000 ∧ ZInvS5 cf h0 p n cp a0 b0 xs F a1 b1 h1, fun st _ => (st.2.1 - st.1).toNat, ⟨a0, b0, rfl, rfl, hlim.1, hlim.2, Nat.le_refl _, hab, Nat.le_refl _, xs, A, o, s, .refl _, outR_start⟩, ?_⟩
  rintro ⟨_, _, lim, wb, wp, _⟩ h1 ⟨a1, b1, rfl, rfl, hl1, hl2, hI⟩
  dsimp only at hl1 hl2 ⊢
  have go := fun (l2 : Int) (h2 : Hp) (hI : ZInvS5 cf h0 p n cp a0 b0 xs F a1 b1 h2) (hlt : a1 < b1) (q1 : 0 ≤ l2) (q2 : l2 < 1000000) => b2 a1 b1 l2 wb wp h2 (fun s' h' => (∃ (a1 b1 : Nat), s'.1 = (a1 : Int) ∧ s'.2.1 = (b1 : Int) ∧ 0 ≤ s'.2.2.1 ∧ s'.2.2.1 < 1000000 ∧ ZInvS5 cf h0 p n cp a0 b0 xs F a1 b1 h') ∧ (s'.2.1 - s'.1).toNat < ((b1 : Int) - a1).toNat) hI hlt q1 q2 fun a2 b2 l2 wb wp h2 hI2 hm k1 k2 => ⟨⟨a2, b2, rfl, rfl, k1, k2, hI2⟩, by have := hI2.2.1; dsimp only; omega⟩
  have hI' := hI
  obtain ⟨g1, g2, g3, ys, A1, o, s, w, ho2⟩ := hI
  have hl := o.len
  rw [slices_pdqsortCmpFunc_l35_Step_b1_eq]
  refine ⟨⟨by omega, by omega⟩, condP (fun h12 => ?_) (fun h12 => condP (fun hz => ?_) (fun hz => cond_intro (fun _ => ?_) (fun _ => ?_)))⟩
  · exact (insertionSortS5 hX ho s o (w.allN hl0 hP) rfl rfl (by omega) (by omega) hn).mono fun v h2 ⟨hv, hO⟩ => ⟨hv, fin a1 b1 h2 ys g1 g3 w ho2 hO⟩
  · exact (heapSortS5 hX ho s o (w.allN hl0 hP) rfl rfl (by omega) (by omega) hn).mono fun v h2 ⟨hv, hO⟩ => ⟨hv, fin a1 b1 h2 ys g1 g3 w ho2 hO⟩
  · refine (breakPatternsS5 s o rfl rfl (by omega) (by omega) hn).mono fun v h2 ⟨hv, zs, A2, o2, s2, w2, _⟩ => ⟨hv, ⟨by omega, by omega⟩, ?_⟩
    exact go (lim - 1) h2 ⟨g1, g2, g3, zs, A2, o2, s2, w.trans (w2.mono g1 g3 (by omega)).1, outR_swp g1 g3 ho2 w2⟩ (by omega) (by omega) (by omega)
  · exact go lim h1 hI' (by omega) hl1 hl2
/-- The whole slice. -/
theorem sortS5 {h0 h : Hp} {p : Option Addr} {n cp : Nat} {xs : List S5} {A F : Bag} {cmp : Value} {cf : S5 → S5 → Int} {P : S5 → Prop} (hX : CmpS5 h0 cmp cf P) (ho : OrdP (fun x y : S5 => cf x y < 0)) (s : St h0 h (A + F)) (o : Sl tS5 p n cp xs A) (hP : ∀ k, k < n → P (xs.getD k tS5.d)) (hn : n < 1000000) :
    HCalls Tryz.prog 50 #[.slice p n cp, cmp] h (fun v h' => v = .tuple #[] ∧ ∃ ys A', Sl tS5 p n cp ys A' ∧ St h0 h' (A' + F) ∧ ys.Perm xs ∧ ys.Pairwise (fun x y => ¬ (fun x y : S5 => cf x y < 0) y x)) := by
  refine slices_SortFunc_Sl35_Step_l35_Step_call ?_
  rw [slices_SortFunc_Sl35_Step_l35_Step_b0_eq, wrap_u64_in _ (by omega) (by omega)]
  refine (Len_ok n (by omega) h).mono fun v h1 ⟨hv, hh⟩ => ⟨_, hv, ?_⟩
  subst hh
  have hl : blen n ≤ 20 := blen_le (by omega)
  refine (pdqS5 hX ho hn n (a0 := 0) (b0 := n) (by omega) s o hP rfl rfl (by omega) (Nat.le_refl _) ⟨by omega, by omega⟩ (fun h => by omega)).mono fun v h2 ⟨hv, ys, A', o2, s2, w, hs⟩ => ⟨hv, rfl, ys, A', o2, s2, w.perm, srtR_pairwise o2.len hs⟩
end Go.Proofs.YtdlkohenamlnaaaGreat

/- Plain lists: operations that are added in the order of their times. -/
namespace Go.Sx
/-- What a step adds. -/
def evO (k t y : Int) : Ev := if k = 0 then (t, y, false) else (t, 0, true)
def stepO (l : List Ev) (k t y : Int) : List Ev × Int := if k = 0 then insP l t y else delP l t
theorem evO_time {k t y : Int} : (evO k t y).1 = t := by unfold evO; split <;> rfl
theorem stepO_good {l : List Ev} (g : GoodQ l) {k t y : Int} : GoodQ (stepO l k t y).1 := by
  unfold stepO; split
  · exact insP_good g
  · exact delP_good g
theorem stepO_ok {l : List Ev} {k t y : Int} (h : (stepO l k t y).2 = 0) : stepO l k t y = (putT (evO k t y) l, 0) := by
  unfold stepO evO at *
  split at h
  · rename_i hk
    rw [if_pos hk, if_pos hk]
    unfold insP at h ⊢
    split at h
    · rename_i hq; rw [if_pos hq]; exact (addP_ok h).2.2.2.2
    · cases h
  · rename_i hk
    rw [if_neg hk, if_neg hk]
    exact (addP_ok h).2.2.2.2
theorem stepO_keep {l : List Ev} {k t y : Int} (h : (stepO l k t y).2 ≠ 0) : (stepO l k t y).1 = l := by
  unfold stepO at *
  split at h
  · rename_i hk
    rw [if_pos hk]
    unfold insP at h ⊢
    split at h
    · rename_i hq; rw [if_pos hq]; exact addP_keep h
    · rename_i hq; rw [if_neg hq]
  · rename_i hk
    rw [if_neg hk]
    exact addP_keep h
theorem putT_perm {x : Ev} {l : List Ev} : (putT x l).Perm (l ++ [x]) := by
  refine (List.perm_middle).trans ?_
  rw [List.take_append_drop]
  exact (List.perm_append_singleton x l).symm
/-- Two orders of the same operations, by their times. -/
theorem sort_eq {l k : List Ev} (hs : TimesP l) (hp : k.Perm l) (hk : k.Pairwise fun a b => a.1 ≤ b.1) : k = l := by
  have hl : l.Pairwise fun a b => a.1 ≤ b.1 := hs.imp fun h => Int.le_of_lt h
  refine List.Perm.eq_of_pairwise (le := fun a b : Ev => a.1 ≤ b.1) (fun a b ha hb h1 h2 => ?_) hk hl hp
  have ha := hp.mem_iff.1 ha
  obtain ⟨i, hi, rfl⟩ := List.getElem_of_mem ha
  obtain ⟨j, hj, rfl⟩ := List.getElem_of_mem hb
  rcases Nat.lt_trichotomy i j with h | h | h
  · have := List.pairwise_iff_getElem.1 hs i j hi hj h; omega
  · subst h; rfl
  · have := List.pairwise_iff_getElem.1 hs j i hj hi h; omega
/-- The next operation, in the order of times. -/
theorem put_next {l : List Ev} (g : GoodQ l) {i : Nat} (hi : i < l.length) {x : Ev} (hx : l.getD i evD = x) : GoodQ (l.take i) ∧ addP (l.take i) x = (l.take (i + 1), 0) ∧ nowD (l.take i) (l.take i).length = nowD l i := by
  have hget : ∀ n, n ≤ l.length → ∀ j, j < n → l.getD j evD = (l.take n).getD j evD := fun n hn j hj => by
    rw [List.getD_eq_getElem?_getD, List.getD_eq_getElem?_getD, List.getElem?_take, if_pos hj]
  have hlen : ∀ n, n ≤ l.length → (l.take n).length = n := fun n hn => by rw [List.length_take]; omega
  have hnow : ∀ n, n ≤ l.length → nowAt (l.take n) n = some (nowD l n) := fun n hn => by
    rw [← nowAt_congr (hget n hn)]; exact goodAt g hn
  have gt : ∀ n, n ≤ l.length → GoodQ (l.take n) := fun n hn => by
    refine ⟨g.times.sublist (List.take_sublist _ _), by rw [hlen n hn]; have := g.len; omega, fun a ha => g.each a (List.mem_of_mem_take ha), ?_⟩
    rw [hlen n hn, hnow n hn, nowD_some (hnow n hn)]
  have hxm : x ∈ l := by rw [← hx]; exact getD_mem' hi
  obtain ⟨e1, e2⟩ := g.each x hxm
  have hlow : lowT x.1 (l.take i) = i := by
    refine lowT_eq (gt i (by omega)).times (by rw [hlen i (by omega)]; omega) (fun j hj => ?_) (fun h => by rw [hlen i (by omega)] at h; omega)
    rw [← hget i (by omega) j hj, ← hx]
    exact timesP_lt g.times hj hi
  have hno : hasT x.1 (l.take i) = false := by
    rw [hasT, hlow]
    exact decide_eq_false fun h => by have := h.1; rw [hlen i (by omega)] at this; omega
  have hput : putT x (l.take i) = l.take (i + 1) := by
    rw [putT, hlow, List.take_take, Nat.min_self, List.drop_eq_nil_of_le (by rw [hlen i (by omega)]; omega), List.take_succ_eq_append_getElem hi, ← hx, getD_get hi]
  refine ⟨gt i (by omega), ?_, ?_⟩
  · have := g.len
    rw [addP, if_pos e1, if_neg (by rw [hno]; simp), if_neg (by rw [hlen i (by omega)]; omega), hput, chgP, if_pos]
    rw [hlen _ (by omega), hnow _ (by omega)]; rfl
  · rw [hlen i (by omega)]; exact nowD_some (hnow i (by omega))
theorem stepO_next {l : List Ev} (g : GoodQ l) {i : Nat} (hi : i < l.length) {k t y : Int} (hx : l.getD i evD = evO k t y) : stepO (l.take i) k t y = (l.take (i + 1), 0) := by
  have h1 := (put_next g hi hx).2.1
  have hm : evO k t y ∈ l := by rw [← hx]; exact getD_mem' hi
  have h2 := (g.each _ hm).2
  unfold stepO
  unfold evO at h1 h2
  split
  · rename_i hk
    rw [if_pos hk] at h1 h2
    rw [insP, if_pos h2]; exact h1
  · rename_i hk
    rw [if_neg hk] at h1
    exact h1
theorem keysL_insE {x : El} {now : List El} (hs : SrtE now) (hn : x ∉ now) : keysL (insE x now) = (keysL now).takeWhile (fun z => decide (z < x.1)) ++ x.1 :: (keysL now).dropWhile (fun z => decide (z < x.1)) := by
  refine List.Perm.eq_of_pairwise (fun a b _ _ h1 h2 => Int.le_antisymm h1 h2) (keysL_srt (insE_srt hs hn)) ?_ ?_
  · have h0 := keysL_srt hs
    generalize keysL now = l at h0
    induction l with
    | nil => exact List.pairwise_singleton _ _
    | cons a l ih =>
      have ih := ih h0.tail
      have ha : ∀ b, b ∈ l → a ≤ b := fun b hb => List.rel_of_pairwise_cons h0 hb
      by_cases h : a < x.1
      · rw [List.takeWhile_cons_of_pos (by simpa using h), List.dropWhile_cons_of_pos (by simpa using h), List.cons_append, List.pairwise_cons]
        refine ⟨fun b hb => ?_, ih⟩
        rcases List.mem_append.1 hb with hb | hb
        · exact ha _ (List.takeWhile_subset _ hb)
        · rcases List.mem_cons.1 hb with rfl | hb
          · omega
          · exact ha _ (List.dropWhile_subset _ hb)
      · rw [List.takeWhile_cons_of_neg (by simpa using h), List.dropWhile_cons_of_neg (by simpa using h), List.nil_append, List.pairwise_cons]
        refine ⟨fun b hb => ?_, h0⟩
        rcases List.mem_cons.1 hb with rfl | hb
        · omega
        · have := ha _ hb; omega
  · refine keysL_ins.trans ?_
    refine ((List.perm_middle).trans ?_).symm
    rw [List.takeWhile_append_dropWhile]
end Go.Sx

/- Law Order: the present does not depend on the order in which operations were added. -/
set_option maxRecDepth 100000
namespace Go.Proofs.YtdlkohenamlnaaaGreat
open Go Go.Sx
theorem okS5 : ElOk tS5 Tryz.prog 22 := elB_spec (by kernel_rfl)
abbrev evS (x : S5) : Ev := evO x.1 x.2.1 x.2.2.1
theorem cmpTime (h0 : Hp) : CmpS5 h0 (.func (.func 51) #[] #[]) (fun x y => x.2.1 - y.2.1) (fun x => timeP x.2.1) := by
  intro x y h K _ hx hy hk
  show callX Tryz.prog F 51 #[encS x, encS y] h K
  refine callX_of (by kernel_rfl) (l35_PartialretroOrder_c1_call ?_)
  rw [l35_PartialretroOrder_c1_b0_eq]
  refine (St.start h).new (cs := [.int .i64 x.1, .int .i64 x.2.1, .int .i64 x.2.2.1, .int .i64 x.2.2.2.1, .slice x.2.2.2.2.1 x.2.2.2.2.2.1 x.2.2.2.2.2.2]) fun b1 h1 _ s1 => ?_
  refine s1.new (cs := [.int .i64 y.1, .int .i64 y.2.1, .int .i64 y.2.2.1, .int .i64 y.2.2.2.1, .slice y.2.2.2.2.1 y.2.2.2.2.2.1 y.2.2.2.2.2.2]) fun b2 h2 _ s2 => ?_
  obtain ⟨x1, x2⟩ := hx
  obtain ⟨y1, y2⟩ := hy
  exact ⟨_, Blk.cellA s2.atomBlk 1, _, Blk.cellA s2.blk 1, ⟨by omega, by omega⟩, hk h2 s2.ext⟩
theorem ordTime : OrdP (fun x y : S5 => x.2.1 - y.2.1 < 0) := ⟨fun x y h => by omega, fun x y z h1 h2 => by omega⟩
theorem heapS_next {m : List Ev} (g : GoodQ m) {i : Nat} (hi : i < m.length) (hn : m.length ≤ 30) {k t y : Int} (hx : m.getD i evD = evO k t y) :
    ∃ z, heapS (keysL (nowD m i)) (if k = 0 then 1 else 3) [y] = (keysL (nowD m (i + 1)), 0, z) := by
  have hle : (keysL (nowD m i)).length ≤ i := by rw [List.length_map]; exact (nowAt_inv (goodAt g (by omega))).2.1
  rcases nowD_step g hi with ⟨h1, h2⟩ | ⟨h1, e, h2⟩
  · have hk : k = 0 := by
      rw [hx, evO] at h1; split at h1
      · assumption
      · cases h1
    rw [if_pos hk, h2, hx, evO, if_pos hk]
    refine ⟨0, ?_⟩
    rw [keysL_insE (nowD_srt g (by omega)) fun h => by have := (nowD_lt g (by omega) h).2; simp at this]
    show (if (keysL (nowD m i)).length = 500 then _ else _) = _
    rw [if_neg (by omega)]; rfl
  · have hk : k ≠ 0 := by
      rw [hx, evO] at h1; split at h1
      · cases h1
      · assumption
    rw [if_neg hk, h2]
    exact ⟨e.1, rfl⟩
theorem keysP {m : List Ev} (g : GoodQ m) {i : Nat} (hi : i ≤ m.length) : ∀ z ∈ keysL (nowD m i), KeyP z := by
  intro z hz
  obtain ⟨e, he, rfl⟩ := List.mem_map.1 hz
  obtain ⟨⟨h1, h2⟩, h3⟩ := (nowAt_inv (goodAt g hi)).2.2 e he
  rw [← h3]
  exact (g.each _ (getD_mem' (by omega))).2
section
variable {h h' : Hp} {qa qb : Nat} {m : List Ev} {A : Bag} {Bq : Bag} {G : Bag}
theorem order_b13 (g : GoodQ m) (hn : m.length ≤ 30) (a : QueueA qa m A) (b : QueueA qb m Bq) {p : Option Addr} {n c : Nat} {K : Bag} (k : Sl TI p n c (keysL (nowD m m.length)) K) (s : St h h' (A + (Bq + (K + G)))) :
    l35_PartialretroOrder_b13 (some ⟨qa, 0, none⟩) (some ⟨qb, 0, none⟩) p n c h' (fun v h' => v = .bool true ∧ Ext h h') := by
  have hl := g.len
  have hnl : (nowD m m.length).length ≤ 2000 := by have := (nowAt_inv g.ok).2.1; omega
  have hbl : (brS m).length ≤ m.length := brP_len
  rw [l35_PartialretroOrder_b13_eq]
  refine (qkeys_ok a hl s).mono fun v1 h1 ⟨q1, d1, K1, hv1, k1, t1⟩ => ⟨_, _, _, hv1, ?_⟩
  have s1 := s.join t1
  refine (eqI_ok (k1.rd s1) (k.rd (s1.at K)) (by omega)).mono fun v2 h2 ⟨hh2, hv2⟩ => ⟨_, hv2, ?_⟩
  subst hh2
  refine condYes (decide_eq_true rfl) ?_
  refine (qkeys_ok b hl (s1.at Bq)).mono fun v1 h1 ⟨q1, d1, K1', hv1, k1, t1⟩ => ⟨_, _, _, hv1, ?_⟩
  have s2 := s1.join t1
  refine (eqI_ok (k1.rd s2) (k.rd (s2.at K)) (by omega)).mono fun v2 h2 ⟨hh2, hv2⟩ => ⟨_, hv2, ?_⟩
  subst hh2
  refine condYes (decide_eq_true rfl) ?_
  refine (qbridges_ok a hl (s2.at A)).mono fun v1 h1 ⟨q1, d1, B1, hv1, k1, t1⟩ => ⟨_, _, _, hv1, ?_⟩
  have s3 := s2.join t1
  refine (qbridges_ok b hl (s3.at Bq)).mono fun v1 h1 ⟨q2, d2, B2, hv1, k2, t1⟩ => ⟨_, _, _, hv1, ?_⟩
  have s4 := s3.join t1
  refine (eqI_ok (k1.rd (s4.at B1)) (k2.rd s4) (by omega)).mono fun v2 h2 ⟨hh2, hv2⟩ => ⟨_, hv2, ?_⟩
  subst hh2
  refine condYes (decide_eq_true rfl) ?_
  refine (qtimes_ok a hl (s4.at A)).mono fun v1 h1 ⟨q1, d1, T1, hv1, k1, t1⟩ => ⟨_, _, _, hv1, ?_⟩
  have s5 := s4.join t1
  refine (qtimes_ok b hl (s5.at Bq)).mono fun v1 h1 ⟨q2, d2, T2, hv1, k2, t1⟩ => ⟨_, _, _, hv1, ?_⟩
  have s6 := s5.join t1
  refine (eqI_ok (k1.rd (s6.at T1)) (k2.rd s6) (by omega)).mono fun v2 h2 ⟨hh2, hv2⟩ => ⟨_, hv2, ?_⟩
  subst hh2
  rw [decide_eq_true rfl]
  exact ⟨rfl, s6.ext⟩
theorem order_b8 (g : GoodQ m) (hn : m.length ≤ 30) (a : QueueA qa m A) (b : QueueA qb m Bq) {b3 : Nat} {p : Option Addr} {n c : Nat} {Br : Bag} (na : RowsA (p, n, c) ((keysL (nowD m m.length)).map row1) Br)
    (s : St h h' (cA b3 [.int .i64 2, .slice p n c] 66 + (Br + (A + (Bq + G))))) :
    l35_PartialretroOrder_b8 (some ⟨qa, 0, none⟩) (some ⟨qb, 0, none⟩) (some ⟨b3, 0, none⟩) h' (fun v h' => v = .bool true ∧ Ext h h') := by
  have hl : ((keysL (nowD m m.length)).map row1).length = n := rows_len na
  rw [List.length_map] at hl
  have hnl := (nowAt_inv g.ok).2.1
  have hkl : (keysL (nowD m m.length)).length ≤ 30 := by rw [List.length_map]; omega
  rw [l35_PartialretroOrder_b8_eq]
  refine ⟨_, _, _, Blk.cellA s.blk 1, ?_⟩
  refine ⟨fun x h2 => ∃ (i : Nat) (K : Bag), x.2.1 = (i : Int) ∧ i ≤ n ∧ Sl TI x.1.1 x.1.2.1 x.1.2.2 ((keysL (nowD m m.length)).take i) K ∧ St h h2 (K + (cA b3 [.int .i64 2, .slice p n c] 66 + (Br + (A + (Bq + G))))), fun x _ => n - x.2.1.toNat, ⟨0, 0, rfl, by omega, Sl.nil, by have := s; rwa [Bag.zero_add]⟩, ?_⟩
  rintro ⟨⟨q, m2, d⟩, _, _⟩ h2 ⟨i, K, rfl, hin, k, s2⟩
  dsimp only at k ⊢
  have hkl2 : ((keysL (nowD m m.length)).take i).length = m2 := k.len
  rw [List.length_take] at hkl2
  rw [l35_PartialretroOrder_b10_eq]
  refine condP (fun hlt => ?_) (fun hge => ?_)
  · refine Nest.at_ (d := []) na (s2.at Br) (by omega) (by show (i : Int) < n; omega) fun a' L C Bi Br' o hB => ?_
    rw [Int.toNat_natCast, row1_get (by omega)] at o
    have o : Sl TI a' L C [(keysL (nowD m m.length)).getD i 0] Bi := o
    have hL : 1 = L := o.len
    have st2 : St h h2 (Bi + (Br' + (K + (cA b3 [.int .i64 2, .slice p n c] 66 + (A + (Bq + G)))))) := by rw [hB] at s2; exact s2.to
    refine append_sl ok_int s2 k (o.rd st2) (by omega) fun p' c' h3 K' k' s3 => ?_
    rw [l35_PartialretroOrder_b12_eq]
    have e : (keysL (nowD m m.length)).take i ++ [(keysL (nowD m m.length)).getD i 0] = (keysL (nowD m m.length)).take (i + 1) := by rw [List.take_succ_eq_append_getElem (by omega), getD_get (by omega)]
    rw [e] at k'
    exact ⟨⟨by omega, by omega⟩, ⟨i + 1, K', by push_cast; rfl, by omega, k', s3⟩, by simp only; omega⟩
  · obtain rfl : i = n := by omega
    rw [← hl, List.take_length] at k
    exact order_b13 g hn a b k (s2.to (B := A + (Bq + (K + (cA b3 [.int .i64 2, .slice p i c] 66 + (Br + G))))))
/-- The second loop's invariant. -/
def Inv2 (h : Hp) (qa qb b3 : Nat) (m : List Ev) (kp : Option Addr) (kn kc : Nat) (ys : List S5) (i : Nat) (h' : Hp) : Prop :=
  ∃ (p : Option Addr) (n c : Nat) (Br Bq A C : Bag), i ≤ m.length ∧ RowsA (p, n, c) ((keysL (nowD m i)).map row1) Br ∧ QueueA qa m A ∧ QueueA qb (m.take i) Bq ∧ Sl tS5 kp kn kc ys C ∧ St h h' (cA b3 [.int .i64 2, .slice p n c] 66 + (Br + (A + (Bq + (C + 0)))))
theorem order_b7 (g : GoodQ m) (hn : m.length ≤ 30) {kp : Option Addr} {kn kc : Nat} {ys : List S5} (hys : ys.map evS = m) {i b3 b4 b5 : Nat} (hi : i < m.length) (a : QueueA qa m A) (b : QueueA qb (m.take (i + 1)) Bq) {p : Option Addr} {n c : Nat} {Br C X : Bag} (na : RowsA (p, n, c) ((keysL (nowD m i)).map row1) Br) (o : Sl tS5 kp kn kc ys C)
    {x0 x2 x3 x4 : Value} {code : Int} {zs : List Int} {z : Int} {q : Option Addr} {mq cq : Nat} (hz : heapS (keysL (nowD m i)) code zs = (keysL (nowD m (i + 1)), 0, z)) (hv : OpV 2 code zs) (rz : RdT TI h' q mq zs) (hmc : mq ≤ cq)
    (s : St h h' (cA b5 [.int .i64 code, .slice q mq cq] 25 + (cA b4 [x0, .int .i64 (m.getD i evD).1, x2, x3, x4] 27 + (cA b3 [.int .i64 2, .slice p n c] 66 + (Br + (A + (Bq + (C + X)))))))) {nx : Int × Unit → Hp → Prop} {K : Value → Hp → Prop}
    (hnx : ∀ h2, Inv2 h qa qb b3 m kp kn kc ys (i + 1) h2 → nx ((i : Int) + 1, ()) h2) :
    l35_PartialretroOrder_b7 (some ⟨qa, 0, none⟩) (some ⟨qb, 0, none⟩) kp kn kc (some ⟨b3, 0, none⟩) 0 i (some ⟨b4, 0, none⟩) (some ⟨b5, 0, none⟩) kp kn kc kn i h' nx K := by
  have hkl := o.len
  have hyl : ys.length = m.length := by rw [← hys, List.length_map]
  have hgt : ∀ j, j < m.length → (ys.getD j tS5.d).2.1 = (m.getD j evD).1 := fun j hj => by
    have e1 : m.getD j evD = evS (ys.getD j tS5.d) := by
      rw [← hys, List.getD_eq_getElem?_getD, List.getElem?_map, List.getD_eq_getElem?_getD, List.getElem?_eq_getElem (by omega)]; rfl
    rw [e1]; exact evO_time.symm
  have hlr : ((keysL (nowD m i)).map row1).length = n := rows_len na
  rw [List.length_map, List.length_map] at hlr
  have hni := (nowAt_inv (goodAt g (i := i) (by omega))).2.1
  have cx := (s.to (B := cA b3 [.int .i64 2, .slice p n c] 66 + (cA b5 [.int .i64 code, .slice q mq cq] 25 + (cA b4 [x0, .int .i64 (m.getD i evD).1, x2, x3, x4] 27 + (Br + (A + (Bq + (C + X)))))))).blk
  rw [l35_PartialretroOrder_b7_eq]
  refine ⟨_, _, _, _, cx.cell 0, Blk.cellA cx 1, _, _, _, _, s.blk.cell 0, Blk.cellA s.blk 1, ?_⟩
  refine (applyH_ok (keysL_srt (nowD_srt g (i := i) (by omega))) (keysP g (by omega)) (by omega) na rz hmc (s.at Br) hv).mono fun v h2 ⟨q2, m2, d2, B2, hv2, na2, s2⟩ => ⟨_, _, _, _, _, _, _, _, _, _, hv2, ?_⟩
  rw [hz] at na2
  refine s2.new (cs := [.int .i64 0, .slice none 0 0]) fun b7 h3 _ s3 => ?_
  refine s3.new (cs := [.int .i64 0, .int .i64 0, .slice none 0 0]) fun b8 h4 _ s4 => ?_
  have s4 := s4.to (B := cA b7 [.int .i64 0, .slice none 0 0] 66 + (cA b8 [.int .i64 0, .int .i64 0, .slice none 0 0] 61 + (cA b3 [.int .i64 2, .slice p n c] 66 + (cA b5 [.int .i64 code, .slice q mq cq] 25 + (cA b4 [x0, .int .i64 (m.getD i evD).1, x2, x3, x4] 27 + (Br + (A + (Bq + (C + (B2 + X))))))))))
  refine s4.wr rfl (by simp) fun h5 s => ?_
  refine s.wr (o := 1) (add_mk _ _ _) (by simp) fun h6 s => ?_
  have s : St h h6 (cA b7 [.int .i64 2, .slice q2 m2 d2] 66 + (cA b8 [.int .i64 0, .int .i64 0, .slice none 0 0] 61 + (cA b3 [.int .i64 2, .slice p n c] 66 + (cA b5 [.int .i64 code, .slice q mq cq] 25 + (cA b4 [x0, .int .i64 (m.getD i evD).1, x2, x3, x4] 27 + (Br + (A + (Bq + (C + (B2 + X)))))))))) := s
  have s := s.to (B := cA b8 [.int .i64 0, .int .i64 0, .slice none 0 0] 61 + (cA b7 [.int .i64 2, .slice q2 m2 d2] 66 + (cA b3 [.int .i64 2, .slice p n c] 66 + (cA b5 [.int .i64 code, .slice q mq cq] 25 + (cA b4 [x0, .int .i64 (m.getD i evD).1, x2, x3, x4] 27 + (Br + (A + (Bq + (C + (B2 + X))))))))))
  refine s.wr rfl (by simp) fun h7 s => ?_
  refine s.wr (o := 1) (add_mk _ _ _) (by simp) fun h8 s => ?_
  refine s.wr (o := 2) (add_mk _ _ _) (by simp) fun h9 s => ?_
  have s : St h h9 (cA b8 [.int .i64 (heapS (keysL (nowD m i)) code zs).2.1, .int .i64 (heapS (keysL (nowD m i)) code zs).2.2, .slice none 0 0] 61 + (cA b7 [.int .i64 2, .slice q2 m2 d2] 66 + (cA b3 [.int .i64 2, .slice p n c] 66 + (cA b5 [.int .i64 code, .slice q mq cq] 25 + (cA b4 [x0, .int .i64 (m.getD i evD).1, x2, x3, x4] 27 + (Br + (A + (Bq + (C + (B2 + X)))))))))) := s
  refine condNo rfl (condNo rfl ⟨_, s.blk.cell 0, ?_⟩)
  rw [hz]
  refine condNo rfl ?_
  have c4 := (s.drop.drop.drop.drop).blk
  have b9 : l35_PartialretroOrder_b9 (some ⟨qa, 0, none⟩) (some ⟨qb, 0, none⟩) kp kn kc (some ⟨b3, 0, none⟩) (some ⟨b7, 0, none⟩) kp kn kc kn i h9 nx K := by
    rw [l35_PartialretroOrder_b9_eq]
    refine ⟨_, _, _, _, s.atomBlk.cell 0, Blk.cellA s.atomBlk 1, ?_⟩
    have s := s.drop.drop
    refine s.wr rfl (by simp) fun h10 s => ?_
    refine s.wr (o := 1) (add_mk _ _ _) (by simp) fun h11 s => ?_
    have s : St h h11 (cA b3 [.int .i64 2, .slice q2 m2 d2] 66 + (cA b5 [.int .i64 code, .slice q mq cq] 25 + (cA b4 [x0, .int .i64 (m.getD i evD).1, x2, x3, x4] 27 + (Br + (A + (Bq + (C + (B2 + X)))))))) := s
    rw [l35_PartialretroOrder_b11_eq]
    refine ⟨⟨by omega, by omega⟩, hnx h11 ⟨q2, m2, d2, B2, Bq, A, C, by omega, na2, a, b, o, ?_⟩⟩
    have s := (s.to (B := cA b5 [.int .i64 code, .slice q mq cq] 25 + (cA b4 [x0, .int .i64 (m.getD i evD).1, x2, x3, x4] 27 + (Br + (X + (cA b3 [.int .i64 2, .slice q2 m2 d2] 66 + (B2 + (A + (Bq + (C + 0))))))))))
    exact s.drop.drop.drop.drop
  refine condP (fun h0 => ⟨⟨by omega, by omega⟩, ?_⟩) (fun _ => b9)
  refine (o.rd (s.at C)).idx (by omega) (by omega) fun a1 _ hc => ?_
  refine ⟨_, hc 1 (show 1 < 5 by decide), _, Blk.cellA c4 1, condP (fun he => ?_) (fun _ => b9)⟩
  rw [show ((i : Int) - 1).toNat = i - 1 by omega, hgt (i - 1) (by omega)] at he
  have := timesP_lt g.times (show i - 1 < i by omega) hi
  omega
end
theorem order_law {h : Hp} {p : Option Addr} {n c : Nat} {l : List S5} (r : RdT tS5 h p n l) :
    HCalls Tryz.prog 8 #[.slice p n c] h (fun v h' => v = .bool true ∧ Ext h h') := by
  have hlen := r.len
  refine l35_PartialretroOrder_call ?_
  rw [l35_PartialretroOrder_b0_eq]
  refine (awake_ok h).mono fun v1 h1 ⟨hv1, x1⟩ => ⟨_, hv1, condNo rfl ?_⟩
  refine (few_ok (r.ext x1)).mono fun v3 h3 ⟨x3, b, hv3, hb⟩ => ⟨_, hv3, cond_intro (fun hf => ?_) (fun hf => ?_)⟩
  · exact (awake_ok h3).mono fun v2 h4 ⟨hv2, x4⟩ => ⟨_, hv2, rfl, (x1.trans x3).trans x4⟩
  have hn := (hb (by simpa using hf)).1
  rw [l35_PartialretroOrder_b1_eq]
  have s3 := (St.start h).grow (x1.trans x3)
  refine (newQueue_ok h3).mono fun v5 h5 ⟨qa, A0, hv5, q0, t5⟩ => ⟨_, hv5, ?_⟩
  have s5 := s3.join t5
  refine (newQueue_ok h5).mono fun v6 h6 ⟨qb, B0, hv6, q1, t6⟩ => ⟨_, hv6, ?_⟩
  have s6 := s5.join t6
  refine ⟨fun x h' => ∃ (i : Nat) (m : List Ev) (ks : List S5) (A C : Bag), x.2.1 = (i : Int) ∧ i ≤ n ∧ ks.length ≤ i ∧ QueueA qa m A ∧ GoodQ m ∧ (ks.map evS).Perm m ∧ Sl tS5 x.1.1 x.1.2.1 x.1.2.2 ks C ∧ St h h' (C + (A + (B0 + 0))), fun x _ => n - x.2.1.toNat, ⟨0, [], [], A0, 0, rfl, by omega, by simp, q0, goodQ_nil, .refl _, Sl.nil, by have s := s6.to (B := A0 + (B0 + 0)); rwa [Bag.zero_add]⟩, ?_⟩
  rintro ⟨⟨kp, kn, kc⟩, _, _⟩ h7 ⟨i, m, ks, A, C, rfl, hin, hki, a, g, hperm, o, s⟩
  dsimp only at o ⊢
  have hkl : ks.length = kn := o.len
  rw [l35_PartialretroOrder_b2_eq]
  refine condP (fun hlt => ?_) (fun hge => ?_)
  · refine s5_load (r.ext s.ext) (by omega) (by omega) ?_
    rw [Int.toNat_natCast]
    generalize l.getD i tS5.d = st
    obtain ⟨k, t, y, u, ap, an, ac⟩ := st
    dsimp only
    refine s.new (cs := [.int .i64 0, .int .i64 0, .int .i64 0, .int .i64 0, .slice none 0 0]) fun b1 h8 _ s => ?_
    refine s.wr rfl (by simp) fun h9 s => ?_
    refine s.wr (o := 1) (add_mk _ _ _) (by simp) fun h10 s => ?_
    refine s.wr (o := 2) (add_mk _ _ _) (by simp) fun h11 s => ?_
    refine s.wr (o := 3) (add_mk _ _ _) (by simp) fun h12 s => ?_
    refine s.wr (o := 4) (add_mk _ _ _) (by simp) fun h13 s => ?_
    have s : St h h13 (cA b1 [.int .i64 k, .int .i64 t, .int .i64 y, .int .i64 u, .slice ap an ac] 27 + (C + (A + (B0 + 0)))) := s
    have b3 : ∀ {h' : Hp} {A' : Bag} {e : Int}, e = (stepO m k t y).2 → QueueA qa (stepO m k t y).1 A' → St h h' (cA b1 [.int .i64 k, .int .i64 t, .int .i64 y, .int .i64 u, .slice ap an ac] 27 + (C + (A' + (B0 + 0)))) →
        l35_PartialretroOrder_b3 (some ⟨qa, 0, none⟩) (some ⟨qb, 0, none⟩) kp kn kc (some ⟨b1, 0, none⟩) e p n c n i h' (fun s' h' => (∃ (i : Nat) (m : List Ev) (ks : List S5) (A C : Bag), s'.2.1 = (i : Int) ∧ i ≤ n ∧ ks.length ≤ i ∧ QueueA qa m A ∧ GoodQ m ∧ (ks.map evS).Perm m ∧ Sl tS5 s'.1.1 s'.1.2.1 s'.1.2.2 ks C ∧ St h h' (C + (A + (B0 + 0)))) ∧ n - s'.2.1.toNat < n - (i : Int).toNat) (fun v h' => v = .bool true ∧ Ext h h') := by
      intro h' A' e he a' s
      rw [l35_PartialretroOrder_b3_eq]
      refine condP (fun h0 => ?_) (fun h0 => ?_)
      · rw [stepO_ok (he.symm.trans h0)] at a'
        refine ⟨_, _, _, _, _, _, _, s.blk.cell 0, Blk.cellA s.blk 1, Blk.cellA s.blk 2, Blk.cellA s.blk 3, Blk.cellA s.blk 4, ?_⟩
        refine push_sl (x := (k, t, y, u, ap, an, ac)) (cs := [.int .i64 k, .int .i64 t, .int .i64 y, .int .i64 u, .slice ap an ac]) okS5 s.drop o rfl rfl (by omega) fun p' c' h14 C' o' s' => ?_
        rw [l35_PartialretroOrder_b5_eq]
        have g' := stepO_good (k := k) (t := t) (y := y) g
        rw [stepO_ok (he.symm.trans h0)] at g'
        refine ⟨⟨by omega, by omega⟩, ⟨i + 1, _, ks ++ [(k, t, y, u, ap, an, ac)], A', C', by push_cast; rfl, by omega, by simp; omega, a', g', ?_, o', s'⟩, by simp only; omega⟩
        rw [List.map_append]
        exact (hperm.append_right _).trans putT_perm.symm
      · rw [stepO_keep (by rw [← he]; exact h0)] at a'
        rw [l35_PartialretroOrder_b5_eq]
        exact ⟨⟨by omega, by omega⟩, ⟨i + 1, m, ks, A', C, by push_cast; rfl, by omega, by omega, a', g, hperm, o, s.drop⟩, by simp only; omega⟩
    refine ⟨_, s.blk.cell 0, condP (fun hk => ?_) (fun hk => ?_)⟩
    · refine ⟨_, Blk.cellA s.blk 1, _, Blk.cellA s.blk 2, ?_⟩
      refine (qinsert_ok a g.times g.len (t := t) (k := y) (s.at A)).mono fun v h14 ⟨hv, A', a', s'⟩ => ⟨_, hv, ?_⟩
      refine b3 (A' := A') (by rw [stepO, if_pos hk]) (by rw [stepO, if_pos hk]; exact a') s'.to
    · refine ⟨_, Blk.cellA s.blk 1, ?_⟩
      refine (qdelete_ok a g.times g.len (t := t) (s.at A)).mono fun v h14 ⟨hv, A', a', s'⟩ => ⟨_, hv, ?_⟩
      refine b3 (A' := A') (by rw [stepO, if_neg hk]) (by rw [stepO, if_neg hk]; exact a') s'.to
  · rw [l35_PartialretroOrder_b4_eq]
    have hmk : m.length = ks.length := by rw [← hperm.length_eq, List.length_map]
    have hP : ∀ j, j < kn → timeP (ks.getD j tS5.d).2.1 := fun j hj => by
      have hm : evS (ks.getD j tS5.d) ∈ m := hperm.mem_iff.1 (List.mem_map.2 ⟨_, getD_mem' (by omega), rfl⟩)
      have := (g.each _ hm).1
      rwa [evO_time] at this
    refine (sortS5 (cmpTime h) ordTime s o hP (by omega)).mono fun v h8 ⟨hv, ys, C', o', s, hyp, hys⟩ => ⟨hv, ?_⟩
    have heq : ys.map evS = m := by
      refine sort_eq g.times ((hyp.map evS).trans hperm) ?_
      rw [List.pairwise_map]
      exact hys.imp fun {x y} h => by rw [evO_time, evO_time]; omega
    have hyl : ys.length = m.length := by rw [← heq, List.length_map]
    have hkn : kn = m.length := by omega
    have hm30 : m.length ≤ 30 := by omega
    clear hyp hys hP hperm o
    refine (mnew_ok (k := 2) (by decide) h8).mono fun v h9 ⟨hv9, x9⟩ => ⟨_, _, _, _, _, hv9, ?_⟩
    have s := s.grow x9
    refine s.new (cs := [.int .i64 0, .slice none 0 0]) fun b3 h10 _ s => ?_
    refine s.wr rfl (by simp) fun h11 s => ?_
    refine s.wr (o := 1) (add_mk _ _ _) (by simp) fun h12 s => ?_
    have s : St h h12 (cA b3 [.int .i64 2, .slice none 0 0] 66 + (C' + (A + (B0 + 0)))) := s
    refine condNo rfl ?_
    refine ⟨fun x h' => ∃ i : Nat, x.1 = (i : Int) ∧ Inv2 h qa qb b3 m kp kn kc ys i h', fun x _ => m.length - x.1.toNat, ⟨0, rfl, none, 0, 0, 0, B0, A, C', by omega, Nest.nil, a, q1, o', by have s := s.to (B := cA b3 [.int .i64 2, .slice none 0 0] 66 + (A + (B0 + (C' + 0)))); rwa [Bag.zero_add]⟩, ?_⟩
    rintro ⟨_, _⟩ h13 ⟨i, rfl, p3, n3, c3, Br, Bq, A, C, hi, na, a, b, o, s⟩
    dsimp only
    rw [l35_PartialretroOrder_b6_eq]
    refine condP (fun hlt => ?_) (fun hge => ?_)
    · have him : i < m.length := by omega
      have hx : m.getD i evD = evS (ys.getD i tS5.d) := by
        conv => lhs; rw [← heq]
        rw [List.getD_eq_getElem?_getD, List.getElem?_map, List.getD_eq_getElem?_getD, List.getElem?_eq_getElem (by omega)]; rfl
      refine s5_load (o.rd (s.at C)) (by omega) (by omega) ?_
      rw [Int.toNat_natCast]
      generalize ys.getD i tS5.d = st at hx
      obtain ⟨k, t, y, u, ap, an, ac⟩ := st
      dsimp only
      have hx : m.getD i evD = evO k t y := hx
      have ht : (m.getD i evD).1 = t := by rw [hx]; exact evO_time
      obtain ⟨z, hz⟩ := heapS_next g him hm30 hx
      have hstep := stepO_next g him hx
      have gi := (put_next g him hx).1
      refine s.new (cs := [.int .i64 0, .int .i64 0, .int .i64 0, .int .i64 0, .slice none 0 0]) fun b4 h14 _ s => ?_
      refine s.wr rfl (by simp) fun h15 s => ?_
      refine s.wr (o := 1) (add_mk _ _ _) (by simp) fun h16 s => ?_
      refine s.wr (o := 2) (add_mk _ _ _) (by simp) fun h17 s => ?_
      refine s.wr (o := 3) (add_mk _ _ _) (by simp) fun h18 s => ?_
      refine s.wr (o := 4) (add_mk _ _ _) (by simp) fun h19 s => ?_
      refine s.new (cs := [.int .i64 0, .slice none 0 0]) fun b5 h20 _ s => ?_
      refine s.wr rfl (by simp) fun h21 s => ?_
      refine s.wr (o := 1) (add_mk _ _ _) (by simp) fun h22 s => ?_
      have s : St h h22 (cA b5 [.int .i64 3, .slice none 0 0] 25 + (cA b4 [.int .i64 k, .int .i64 t, .int .i64 y, .int .i64 u, .slice ap an ac] 27 + (cA b3 [.int .i64 2, .slice p3 n3 c3] 66 + (Br + (A + (Bq + (C + 0))))))) := s
      refine ⟨_, s.atomBlk.cell 0, condP (fun hk => ?_) (fun hk => ?_)⟩
      · rw [if_pos hk] at hz
        refine ⟨_, Blk.cellA s.atomBlk 2, ?_⟩
        refine s.new (cs := [.int .i64 y]) fun b6 h23 _ s => ?_
        have s := s.to (B := cA b5 [.int .i64 3, .slice none 0 0] 25 + (cA b4 [.int .i64 k, .int .i64 t, .int .i64 y, .int .i64 u, .slice ap an ac] 27 + (cA b6 [.int .i64 y] 3 + (cA b3 [.int .i64 2, .slice p3 n3 c3] 66 + (Br + (A + (Bq + (C + 0))))))))
        refine s.wr rfl (by simp) fun h24 s => ?_
        refine s.wr (o := 1) (add_mk _ _ _) (by simp) fun h25 s => ?_
        have s : St h h25 (cA b5 [.int .i64 1, .slice (some ⟨b6, 0, none⟩) 1 1] 25 + (cA b4 [.int .i64 k, .int .i64 t, .int .i64 y, .int .i64 u, .slice ap an ac] 27 + (cA b6 [.int .i64 y] 3 + (cA b3 [.int .i64 2, .slice p3 n3 c3] 66 + (Br + (A + (Bq + (C + 0)))))))) := s
        refine ⟨_, Blk.cellA s.atomBlk 1, _, Blk.cellA s.atomBlk 2, ?_⟩
        refine (qinsert_ok b gi.times gi.len (t := t) (k := y) (s.at Bq)).mono fun v h26 ⟨hv26, B', b', s⟩ => ⟨_, hv26, ?_⟩
        have e1 : insP (m.take i) t y = (m.take (i + 1), 0) := by rw [stepO, if_pos hk] at hstep; exact hstep
        rw [e1] at b' ⊢
        have sl : Sl TI (some ⟨b6, 0, none⟩) 1 1 [y] (cA b6 [.int .i64 y] 3) := Sl.one rfl
        refine order_b7 (h := h) (code := 1) (zs := [y]) g hm30 heq him a b' na o hz ?_ (sl.rd (s.at (cA b6 [.int .i64 y] 3))) (Nat.le_refl _) (X := cA b6 [.int .i64 y] 3) (x0 := .int .i64 k) (x2 := .int .i64 y) (x3 := .int .i64 u) (x4 := .slice ap an ac) (b4 := b4) (b5 := b5) (b3 := b3) ?_ ?_
        · have hm : evO k t y ∈ m := by rw [← hx]; exact getD_mem' him
          have h2 := (g.each _ hm).2
          rw [evO, if_pos hk] at h2
          exact ⟨by decide, by rw [if_neg (by decide)]; exact ⟨rfl, fun w hw => by rw [List.mem_singleton.1 hw]; exact h2⟩⟩
        · rw [ht]; exact s.to
        · exact fun h2 hI => ⟨⟨i + 1, by push_cast; rfl, hI⟩, by simp only; omega⟩
      · rw [if_neg hk] at hz
        refine ⟨_, Blk.cellA s.atomBlk 1, ?_⟩
        refine (qdelete_ok b gi.times gi.len (t := t) (s.at Bq)).mono fun v h26 ⟨hv26, B', b', s⟩ => ⟨_, hv26, ?_⟩
        have e1 : delP (m.take i) t = (m.take (i + 1), 0) := by rw [stepO, if_neg hk] at hstep; exact hstep
        rw [e1] at b' ⊢
        refine order_b7 (h := h) (code := 3) (zs := []) g hm30 heq him a b' na o hz ?_ (RdT.nil _ none) (Nat.le_refl _) (X := 0) (x0 := .int .i64 k) (x2 := .int .i64 y) (x3 := .int .i64 u) (x4 := .slice ap an ac) (b4 := b4) (b5 := b5) (b3 := b3) ?_ ?_
        · exact ⟨by decide, by rw [if_neg (by decide)]; exact ⟨rfl, fun w hw => nomatch hw⟩⟩
        · rw [ht]; exact s.to
        · exact fun h2 hI => ⟨⟨i + 1, by push_cast; rfl, hI⟩, by simp only; omega⟩
    · obtain rfl : i = m.length := by omega
      rw [List.take_length] at b
      exact order_b8 g hm30 a b na (s.to (B := cA b3 [.int .i64 2, .slice p3 n3 c3] 66 + (Br + (A + (Bq + (C + 0))))))
end Go.Proofs.YtdlkohenamlnaaaGreat
