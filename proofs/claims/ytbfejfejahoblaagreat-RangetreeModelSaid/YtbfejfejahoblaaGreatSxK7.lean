/- Part SE P44 ST K1 K2 K3 K4 K5 K6 K7 of the proof: contracts of functions of the program, and what follows from them. -/
import Derived.Test.YtbfejfejahoblaaGreatSxSD
import Derived.Test.YtbfejfejahoblaaGreatSxX0
/- Sorting: pdqsort. -/
set_option maxRecDepth 100000
namespace Go.Proofs.YtbfejfejahoblaaGreat
open Go Go.Sx
abbrev ZInvPT (cf : Pt → Pt → Int) (h0 : Hp) (p : Option Addr) (n cp a0 b0 : Nat) (xs : List Pt) (F : Bag) (a1 b1 : Nat) (h : Hp) : Prop := a0 ≤ a1 ∧ a1 ≤ b1 ∧ b1 ≤ b0 ∧ OutPT h0 p n cp a0 b0 xs F h (OutR tPt.d (fun x y : Pt => cf x y < 0) a0 b0 a1 b1)
theorem pdqPT {h0 : Hp} {p : Option Addr} {n cp : Nat} {F : Bag} {cmp : Value} {cf : Pt → Pt → Int} {P : Pt → Prop} (hX : CmpPT h0 cmp cf P) (ho : OrdP (fun x y : Pt => cf x y < 0)) (hn : n < 1000000) : ∀ (N : Nat) {h : Hp} {a0 b0 : Nat} {a b lim : Int} {xs : List Pt} {A : Bag} (_ : b0 - a0 ≤ N) (_ : St h0 h (A + F)) (_ : Sl tPt p n cp xs A) (_ : ∀ k, k < n → P (xs.getD k tPt.d)) (_ : a = (a0 : Int)) (_ : b = (b0 : Int)) (_ : a0 ≤ b0) (_ : b0 ≤ n) (_ : 0 ≤ lim ∧ lim < 1000000)
    (_ : 0 < a0 → ∀ k, a0 ≤ k → k < b0 → ¬ (fun x y : Pt => cf x y < 0) (xs.getD k tPt.d) (xs.getD (a0 - 1) tPt.d)),
    HCalls Tryz.prog 73 #[.slice p n cp, .int .i64 a, .int .i64 b, .int .i64 lim, cmp] h (fun v h' => v = .tuple #[] ∧ OutPT h0 p n cp a0 b0 xs F h' (SrtR tPt.d (fun x y : Pt => cf x y < 0) a0 b0)) := by
  intro N
  induction N using Nat.strongRecOn with
  | _ N ih =>
  intro h a0 b0 a b lim xs A hN s o hP ea eb hab hb hlim hlow
  subst ea eb
  have hl0 := o.len
  refine slices_pdqsortCmpFunc_api_Point_call ?_
  generalize hR : (fun v h' => v = Value.tuple #[] ∧ OutPT h0 p n cp a0 b0 xs F h' (SrtR tPt.d (fun x y : Pt => cf x y < 0) a0 b0)) = R
  have fin : ∀ (a1 b1 : Nat) (h' : Hp) (ys : List Pt), a0 ≤ a1 → b1 ≤ b0 → Swp tPt.d a0 b0 xs ys → OutR tPt.d (fun x y : Pt => cf x y < 0) a0 b0 a1 b1 ys → OutPT h0 p n cp a1 b1 ys F h' (SrtR tPt.d (fun x y : Pt => cf x y < 0) a1 b1) → R (.tuple #[]) h' := by
    rintro a1 b1 h' ys g1 g2 w ho ⟨zs, A2, o2, s2, w2, hs⟩
    have := w.len
    rw [← hR]
    exact ⟨rfl, zs, A2, o2, s2, w.trans (w2.mono g1 g2 (by omega)).1, outR_done (outR_swp g1 g2 ho w2) hs⟩
  clear hR
  -- what lies before the range is not more than what lies in it
  have low : ∀ (a1 b1 : Nat) (ys : List Pt), a0 ≤ a1 → b1 ≤ b0 → Swp tPt.d a0 b0 xs ys → OutR tPt.d (fun x y : Pt => cf x y < 0) a0 b0 a1 b1 ys → 0 < a1 → ∀ k, a1 ≤ k → k < b1 → ¬ (fun x y : Pt => cf x y < 0) (ys.getD k tPt.d) (ys.getD (a1 - 1) tPt.d) := by
    intro a1 b1 ys g1 g2 w ho h1 k k1 k2
    by_cases he : a1 = a0
    · subst he
      rw [w.out (k := a1 - 1) (.inl (by omega))]
      exact w.all (P := fun x => ¬ (fun x y : Pt => cf x y < 0) x (xs.getD (a1 - 1) tPt.d)) (hlow h1) k k1 (by omega)
    · exact ho (a1 - 1) k (by omega) (by omega) (by omega) (by omega)
  have b5 : ∀ (a1 b1 pv : Nat) (lim : Int) (h' : Hp) (nx : Int × Int × Int × Bool × Bool × Unit → Hp → Prop), ZInvPT cf h0 p n cp a0 b0 xs F a1 b1 h' → a1 ≤ pv → pv < b1 → 0 ≤ lim → lim < 1000000 →
      (∀ (a2 b2 : Nat) (l2 : Int) (wb wp : Bool) (h2 : Hp), ZInvPT cf h0 p n cp a0 b0 xs F a2 b2 h2 → b2 - a2 < b1 - a1 → 0 ≤ l2 → l2 < 1000000 → nx ((a2 : Int), (b2 : Int), l2, wb, wp, ()) h2) → slices_pdqsortCmpFunc_api_Point_b5 p n cp a1 b1 lim cmp ((b1 : Int) - a1) pv h' nx R := by
    rintro a1 b1 pv lim h' nx ⟨g1, g2, g3, ys, A1, o, s, w, ho2⟩ hv1 hv2 hl1 hl2 hnx
    have hl := o.len
    have hPy := w.allN hl0 hP
    rw [slices_pdqsortCmpFunc_api_Point_b5_eq]
    refine (partitionPT hX ho s o hPy rfl rfl rfl ⟨hv1, hv2⟩ (by omega) hn).mono fun v h2 ⟨m, bb, hv, m1, m2, zs, A2, o2, s2, w2, hp⟩ => ⟨_, _, hv, ⟨by omega, by omega⟩, ⟨by omega, by omega⟩, quo_intro (by omega) (by omega) (by omega) ?_⟩
    have w02 := w.trans (w2.mono g1 g3 (by omega)).1
    have ho3 := outR_swp g1 g3 ho2 w2
    have hPz := w02.allN hl0 hP
    have hlz := o2.len
    have hlow2 := low a1 b1 zs g1 g3 w02 ho3
    refine condP (fun hlt => ?_) (fun hlt => ⟨⟨by omega, by omega⟩, ?_⟩)
    · refine (ih (m - a1) (by omega) (a0 := a1) (b0 := m) (Nat.le_refl _) s2 o2 hPz rfl rfl m1 (by omega) ⟨hl1, hl2⟩ fun q k k1 k2 => hlow2 q k k1 (by omega)).mono fun v h3 ⟨hv, us, A3, o3, s3, w3, hs3⟩ => ⟨hv, ⟨by omega, by omega⟩, ?_⟩
      have hm : us.getD m tPt.d = zs.getD m tPt.d := w3.out (.inr (Nat.le_refl _))
      have hp3 : PartR tPt.d (fun x y : Pt => cf x y < 0) a1 b1 m us := ⟨by rw [hm]; exact w3.all (P := fun x => (fun x y : Pt => cf x y < 0) x (zs.getD m tPt.d)) hp.1, fun k k1 k2 => by rw [hm, w3.out (k := k) (.inr (by omega))]; exact hp.2 k k1 k2⟩
      have := hnx (m + 1) b1 lim (decide (((b1 : Int) - a1) / 8 ≤ (m : Int) - a1)) bb h3 ⟨by omega, by omega, g3, us, A3, o3, s3, w02.trans (w3.mono g1 (by omega) (by omega)).1, outR_left ho g1 g3 m1 m2 (outR_swp g1 g3 ho3 (w3.mono (Nat.le_refl _) (by omega) (by omega)).1) hp3 hs3⟩ (by omega) hl1 hl2
      rwa [show ((m + 1 : Nat) : Int) = (m : Int) + 1 by push_cast; rfl] at this
    · refine (ih (b1 - (m + 1)) (by omega) (a0 := m + 1) (b0 := b1) (Nat.le_refl _) s2 o2 hPz (by push_cast; rfl) rfl (by omega) (by omega) ⟨hl1, hl2⟩ fun q k k1 k2 => hp.2 k (by omega) k2).mono fun v h3 ⟨hv, us, A3, o3, s3, w3, hs3⟩ => ⟨hv, ?_⟩
      have hm : us.getD m tPt.d = zs.getD m tPt.d := w3.out (.inl (by omega))
      have hp3 : PartR tPt.d (fun x y : Pt => cf x y < 0) a1 b1 m us := ⟨fun k k1 k2 => by rw [hm, w3.out (k := k) (.inl (by omega))]; exact hp.1 k k1 k2, fun k k1 k2 => by rw [hm]; exact w3.all (P := fun x => ¬ (fun x y : Pt => cf x y < 0) x (zs.getD m tPt.d)) (fun k k1 k2 => hp.2 k (by omega) k2) k (by omega) k2⟩
      exact hnx a1 m lim _ bb h3 ⟨g1, m1, by omega, us, A3, o3, s3, w02.trans (w3.mono (by omega) g3 (by omega)).1, outR_right ho g1 g3 m1 m2 (outR_swp g1 g3 ho3 (w3.mono (by omega) (Nat.le_refl _) (by omega)).1) hp3 hs3⟩ (by omega) hl1 hl2
  have b4 : ∀ (a1 b1 pv : Nat) (lim : Int) (wb wp : Bool) (h' : Hp) (nx : Int × Int × Int × Bool × Bool × Unit → Hp → Prop), ZInvPT cf h0 p n cp a0 b0 xs F a1 b1 h' → a1 ≤ pv → pv < b1 → 0 ≤ lim → lim < 1000000 →
      (∀ (a2 b2 : Nat) (l2 : Int) (wb wp : Bool) (h2 : Hp), ZInvPT cf h0 p n cp a0 b0 xs F a2 b2 h2 → b2 - a2 < b1 - a1 → 0 ≤ l2 → l2 < 1000000 → nx ((a2 : Int), (b2 : Int), l2, wb, wp, ()) h2) → slices_pdqsortCmpFunc_api_Point_b4 p n cp a1 b1 lim cmp wb wp ((b1 : Int) - a1) pv h' nx R := by
    rintro a1 b1 pv lim wb wp h' nx ⟨g1, g2, g3, ys, A1, o, s, w, ho2⟩ hv1 hv2 hl1 hl2 hnx
    have hl := o.len
    rw [slices_pdqsortCmpFunc_api_Point_b4_eq]
    refine condP (fun ha => ⟨⟨by omega, by omega⟩, ?_⟩) (fun _ => b5 a1 b1 pv lim _ _ ⟨g1, g2, g3, ys, A1, o, s, w, ho2⟩ hv1 hv2 hl1 hl2 hnx)
    have hlow2 := low a1 b1 ys g1 g3 w ho2 (by omega)
    have r := o.rd s
    have hPy := w.allN hl0 hP
    have hP := hPy
    refine ldPT (i' := a1 - 1) r (by omega) (by omega) (ldPT (i' := pv) r rfl (by omega) ?_)
    refine hX _ _ _ _ s.ext (hP _ (by omega)) (hP _ (by omega)) fun h5 e5 => ⟨_, rfl, ?_⟩; have s := s.grow e5
    refine condN (fun hc => ?_) (fun hc => b5 a1 b1 pv lim _ _ ⟨g1, g2, g3, ys, A1, o, s, w, ho2⟩ hv1 hv2 hl1 hl2 hnx)
    refine (partitionEqualPT hX ho s o hPy rfl rfl rfl ⟨hv1, hv2⟩ (by omega) hn).mono fun v h2 ⟨m, hv, m1, m2, zs, A2, o2, s2, w2, hp⟩ => ⟨_, hv, ?_⟩
    exact hnx m b1 lim wb wp h2 ⟨by omega, m2, g3, zs, A2, o2, s2, w.trans (w2.mono g1 g3 (by omega)).1, outR_equal ho g1 g3 (by omega) m2 (outR_swp g1 g3 ho2 w2) hp.2 (w2.all (P := fun x => ¬ (fun x y : Pt => cf x y < 0) x (ys.getD pv tPt.d)) fun k k1 k2 => ho.trans _ _ _ hc (hlow2 k k1 k2))⟩ (by omega) hl1 hl2
  have b3 : ∀ (a1 b1 pv : Nat) (hint lim : Int) (wb wp : Bool) (h' : Hp) (nx : Int × Int × Int × Bool × Bool × Unit → Hp → Prop), ZInvPT cf h0 p n cp a0 b0 xs F a1 b1 h' → a1 ≤ pv → pv < b1 → 0 ≤ lim → lim < 1000000 →
      (∀ (a2 b2 : Nat) (l2 : Int) (wb wp : Bool) (h2 : Hp), ZInvPT cf h0 p n cp a0 b0 xs F a2 b2 h2 → b2 - a2 < b1 - a1 → 0 ≤ l2 → l2 < 1000000 → nx ((a2 : Int), (b2 : Int), l2, wb, wp, ()) h2) → slices_pdqsortCmpFunc_api_Point_b3 p n cp a1 b1 lim cmp wb wp ((b1 : Int) - a1) pv hint h' nx R := by
    rintro a1 b1 pv hint lim wb wp h' nx hI hv1 hv2 hl1 hl2 hnx
    have go := fun h2 (hI : ZInvPT cf h0 p n cp a0 b0 xs F a1 b1 h2) => b4 a1 b1 pv lim wb wp h2 nx hI hv1 hv2 hl1 hl2 hnx
    rw [slices_pdqsortCmpFunc_api_Point_b3_eq]
    refine cond_intro (fun _ => cond_intro (fun _ => condP (fun _ => ?_) fun _ => go _ hI) fun _ => go _ hI) fun _ => go _ hI
    obtain ⟨g1, g2, g3, ys, A1, o, s, w, ho2⟩ := hI
    have hl := o.len
    refine (partialInsertionSortPT hX ho s o (w.allN hl0 hP) rfl rfl (by omega) (by omega) hn (low a1 b1 ys g1 g3 w ho2)).mono fun v h2 ⟨bb, hv, zs, A2, o2, s2, w2, hp⟩ => ⟨_, hv, cond_intro (fun hb => ?_) (fun hb => ?_)⟩
    · exact fin a1 b1 h2 ys g1 g3 w ho2 ⟨zs, A2, o2, s2, w2, hp hb⟩
    · exact go _ ⟨g1, g2, g3, zs, A2, o2, s2, w.trans (w2.mono g1 g3 (by omega)).1, outR_swp g1 g3 ho2 w2⟩
  have b2 : ∀ (a1 b1 : Nat) (lim : Int) (wb wp : Bool) (h' : Hp) (nx : Int × Int × Int × Bool × Bool × Unit → Hp → Prop), ZInvPT cf h0 p n cp a0 b0 xs F a1 b1 h' → a1 < b1 → 0 ≤ lim → lim < 1000000 →
      (∀ (a2 b2 : Nat) (l2 : Int) (wb wp : Bool) (h2 : Hp), ZInvPT cf h0 p n cp a0 b0 xs F a2 b2 h2 → b2 - a2 < b1 - a1 → 0 ≤ l2 → l2 < 1000000 → nx ((a2 : Int), (b2 : Int), l2, wb, wp, ()) h2) → slices_pdqsortCmpFunc_api_Point_b2 p n cp a1 b1 lim cmp wb wp ((b1 : Int) - a1) h' nx R := by
    rintro a1 b1 lim wb wp h' nx ⟨g1, g2, g3, ys, A1, o, s, w, ho2⟩ hlt hl1 hl2 hnx
    have hl := o.len
    rw [slices_pdqsortCmpFunc_api_Point_b2_eq]
    refine (choosePivotPT hX ho s o (w.allN hl0 hP) rfl rfl hlt (by omega) hn).mono fun v h2 ⟨u, hint, hv, u1, u2, s⟩ => ⟨_, _, hv, condP (fun _ => ?_) (fun _ => ?_)⟩
    · refine (reverseRangePT s o rfl rfl (by omega) (by omega) hn).mono fun v h2 ⟨hv, zs, A2, o2, s2, w2, _⟩ => ⟨hv, ⟨by omega, by omega⟩, ⟨by omega, by omega⟩, ⟨by omega, by omega⟩, ?_⟩
      have := b3 a1 b1 ((b1 : Int) - 1 - (u - a1)).toNat 1 lim wb wp h2 nx ⟨g1, g2, g3, zs, A2, o2, s2, w.trans (w2.mono g1 g3 (by omega)).1, outR_swp g1 g3 ho2 w2⟩ (by omega) (by omega) hl1 hl2 hnx
      rwa [Int.toNat_of_nonneg (by omega)] at this
    · have := b3 a1 b1 u.toNat hint lim wb wp h2 nx ⟨g1, g2, g3, ys, A1, o, s, w, ho2⟩ (by omega) (by omega) hl1 hl2 hnx
      rwa [Int.toNat_of_nonneg (by omega)] at this
  rw [slices_pdqsortCmpFunc_api_Point_b0_eq]
  refine ⟨fun st h1 => ∃ (a1 b1 : Nat), st.1 = (a1 : Int) ∧ st.2.1 = (b1 : Int) ∧ 0 ≤ st.2.2.1 ∧ st.2.2.1 < 1000000 ∧ ZInvPT cf h0 p n cp a0 b0 xs F a1 b1 h1, fun st _ => (st.2.1 - st.1).toNat, ⟨a0, b0, rfl, rfl, hlim.1, hlim.2, Nat.le_refl _, hab, Nat.le_refl _, xs, A, o, s, .refl _, outR_start⟩, ?_⟩
  rintro ⟨_, _, lim, wb, wp, _⟩ h1 ⟨a1, b1, rfl, rfl, hl1, hl2, hI⟩
  dsimp only at hl1 hl2 ⊢
  have go := fun (l2 : Int) (h2 : Hp) (hI : ZInvPT cf h0 p n cp a0 b0 xs F a1 b1 h2) (hlt : a1 < b1) (q1 : 0 ≤ l2) (q2 : l2 < 1000000) => b2 a1 b1 l2 wb wp h2 (fun s' h' => (∃ (a1 b1 : Nat), s'.1 = (a1 : Int) ∧ s'.2.1 = (b1 : Int) ∧ 0 ≤ s'.2.2.1 ∧ s'.2.2.1 < 1000000 ∧ ZInvPT cf h0 p n cp a0 b0 xs F a1 b1 h') ∧ (s'.2.1 - s'.1).toNat < ((b1 : Int) - a1).toNat) hI hlt q1 q2 fun a2 b2 l2 wb wp h2 hI2 hm k1 k2 => ⟨⟨a2, b2, rfl, rfl, k1, k2, hI2⟩, by have := hI2.2.1; dsimp only; omega⟩
  have hI' := hI
  obtain ⟨g1, g2, g3, ys, A1, o, s, w, ho2⟩ := hI
  have hl := o.len
  rw [slices_pdqsortCmpFunc_api_Point_b1_eq]
  refine ⟨⟨by omega, by omega⟩, condP (fun h12 => ?_) (fun h12 => condP (fun hz => ?_) (fun hz => cond_intro (fun _ => ?_) (fun _ => ?_)))⟩
  · exact (insertionSortPT hX ho s o (w.allN hl0 hP) rfl rfl (by omega) (by omega) hn).mono fun v h2 ⟨hv, hO⟩ => ⟨hv, fin a1 b1 h2 ys g1 g3 w ho2 hO⟩
  · exact (heapSortPT hX ho s o (w.allN hl0 hP) rfl rfl (by omega) (by omega) hn).mono fun v h2 ⟨hv, hO⟩ => ⟨hv, fin a1 b1 h2 ys g1 g3 w ho2 hO⟩
  · refine (breakPatternsPT s o rfl rfl (by omega) (by omega) hn).mono fun v h2 ⟨hv, zs, A2, o2, s2, w2, _⟩ => ⟨hv, ⟨by omega, by omega⟩, ?_⟩
    exact go (lim - 1) h2 ⟨g1, g2, g3, zs, A2, o2, s2, w.trans (w2.mono g1 g3 (by omega)).1, outR_swp g1 g3 ho2 w2⟩ (by omega) (by omega) (by omega)
  · exact go lim h1 hI' (by omega) hl1 hl2
/-- The whole slice. -/
theorem sortPT {h0 h : Hp} {p : Option Addr} {n cp : Nat} {xs : List Pt} {A F : Bag} {cmp : Value} {cf : Pt → Pt → Int} {P : Pt → Prop} (hX : CmpPT h0 cmp cf P) (ho : OrdP (fun x y : Pt => cf x y < 0)) (s : St h0 h (A + F)) (o : Sl tPt p n cp xs A) (hP : ∀ k, k < n → P (xs.getD k tPt.d)) (hn : n < 1000000) :
    HCalls Tryz.prog 49 #[.slice p n cp, cmp] h (fun v h' => v = .tuple #[] ∧ ∃ ys A', Sl tPt p n cp ys A' ∧ St h0 h' (A' + F) ∧ ys.Perm xs ∧ ys.Pairwise (fun x y => ¬ (fun x y : Pt => cf x y < 0) y x)) := by
  refine slices_SortFunc_Sapi_Point_api_Point_call ?_
  rw [slices_SortFunc_Sapi_Point_api_Point_b0_eq, wrap_u64_in _ (by omega) (by omega)]
  refine (bitsLen_ok n (by omega) h).mono fun v h1 ⟨hv, hh⟩ => ⟨_, hv, ?_⟩
  subst hh
  have hl : blen n ≤ 20 := blen_le (by omega)
  refine (pdqPT hX ho hn n (a0 := 0) (b0 := n) (by omega) s o hP rfl rfl (by omega) (Nat.le_refl _) ⟨by omega, by omega⟩ (fun h => by omega)).mono fun v h2 ⟨hv, ys, A', o2, s2, w, hs⟩ => ⟨hv, rfl, ys, A', o2, s2, w.perm, srtR_pairwise o2.len hs⟩
end Go.Proofs.YtbfejfejahoblaaGreat

/- Plain lists: merging of sorted ranges, the steps. -/
namespace Go.Sx
variable {α : Type} {d : α} {lt : α → α → Prop}
/-- The first element goes to its place. -/
theorem merge_first (o : OrdP lt) {a b i : Nat} {xs zs : List α} (h2 : SrtR d lt (a + 1) b xs) (hr : Rot d a (a + 1) i xs zs) (k1 : a + 1 ≤ i) (k2 : i ≤ b) (hb : b ≤ xs.length)
    (f1 : ∀ k, a + 1 ≤ k → k < i → lt (xs.getD k d) (xs.getD a d)) (f2 : ∀ k, i ≤ k → k < b → ¬ lt (xs.getD k d) (xs.getD a d)) : SrtR d lt a b zs ∧ Stb lt xs zs := by
  refine ⟨fun p q g1 g2 g3 => ?_, rot_stb o (by omega) k1 (by omega) hr fun u v c1 c2 c3 c4 => by rw [show u = a by omega]; exact f1 v c3 c4⟩
  rw [hr.2 q, hr.2 p]
  by_cases c1 : q < i - 1
  · rw [if_neg (by omega), if_pos (by omega), if_neg (by omega), if_pos (by omega)]
    exact h2 _ _ (by omega) (by omega) (by omega)
  · by_cases c2 : q = i - 1
    · rw [if_neg (by omega), if_neg (by omega), if_neg (by omega), if_pos (by omega)]
      rw [show q - (i - (a + 1)) = a by omega]
      exact o.asymm _ _ (f1 _ (by omega) (by omega))
    · rw [if_pos (by omega)]
      by_cases c3 : p < i - 1
      · rw [if_neg (by omega), if_pos (by omega)]
        exact h2 _ _ (by omega) (by omega) g3
      · by_cases c4 : p = i - 1
        · rw [if_neg (by omega), if_neg (by omega), show p - (i - (a + 1)) = a by omega]
          exact f2 q (by omega) g3
        · rw [if_pos (by omega)]
          exact h2 _ _ (by omega) g2 g3
/-- The last element goes to its place. -/
theorem merge_last (o : OrdP lt) {a m i : Nat} {xs zs : List α} (h1 : SrtR d lt a m xs) (hr : Rot d i m (m + 1) xs zs) (k1 : a ≤ i) (k2 : i ≤ m) (hb : m + 1 ≤ xs.length)
    (f1 : ∀ k, a ≤ k → k < i → ¬ lt (xs.getD m d) (xs.getD k d)) (f2 : ∀ k, i ≤ k → k < m → lt (xs.getD m d) (xs.getD k d)) : SrtR d lt a (m + 1) zs ∧ Stb lt xs zs := by
  refine ⟨fun p q g1 g2 g3 => ?_, rot_stb o k2 (by omega) hb hr fun u v c1 c2 c3 c4 => by rw [show v = m by omega]; exact f2 u c1 c2⟩
  rw [hr.2 q, hr.2 p]
  by_cases c1 : q < i
  · rw [if_pos (by omega), if_pos (by omega)]
    exact h1 _ _ g1 g2 (by omega)
  · by_cases c2 : q = i
    · rw [if_neg (by omega), if_pos (by omega), if_pos (by omega), show q + (m - i) = m by omega]
      exact f1 p g1 (by omega)
    · rw [if_neg (by omega), if_neg (by omega)]
      by_cases c3 : p < i
      · rw [if_pos (by omega)]
        exact h1 _ _ g1 (by omega) (by omega)
      · by_cases c4 : p = i
        · rw [if_neg (by omega), if_pos (by omega), show p + (m - i) = m by omega]
          exact o.asymm _ _ (f2 _ (by omega) (by omega))
        · rw [if_neg (by omega), if_neg (by omega)]
          exact h1 _ _ (by omega) (by omega) (by omega)
theorem cross_left {a mid b : Nat} {zs ys : List α} (w : Swp d a mid zs ys) (hc : ∀ p q, a ≤ p → p < mid → mid ≤ q → q < b → ¬ lt (zs.getD q d) (zs.getD p d)) : ∀ p q, a ≤ p → p < mid → mid ≤ q → q < b → ¬ lt (ys.getD q d) (ys.getD p d) := by
  intro p q h1 h2 h3 h4
  rw [w.out (k := q) (.inr h3)]
  exact w.all (P := fun x => ¬ lt (zs.getD q d) x) (fun k k1 k2 => hc k q k1 k2 h3 h4) p h1 h2
theorem cross_right {a mid b : Nat} {zs ys : List α} (w : Swp d mid b zs ys) (hc : ∀ p q, a ≤ p → p < mid → mid ≤ q → q < b → ¬ lt (zs.getD q d) (zs.getD p d)) : ∀ p q, a ≤ p → p < mid → mid ≤ q → q < b → ¬ lt (ys.getD q d) (ys.getD p d) := by
  intro p q h1 h2 h3 h4
  rw [w.out (k := p) (.inl h2)]
  exact w.all (P := fun x => ¬ lt x (zs.getD p d)) (fun k k1 k2 => hc p k h1 h2 k1 k2) q h3 h4
theorem srtR_out {a b a' b' : Nat} {zs ys : List α} (w : Swp d a' b' zs ys) (h : SrtR d lt a b zs) (hd : b ≤ a' ∨ b' ≤ a) : SrtR d lt a b ys := by
  intro p q h1 h2 h3
  rw [w.out (k := q) (by omega), w.out (k := p) (by omega)]
  exact h p q h1 h2 h3
end Go.Sx
namespace Go.Sx
variable {α : Type} {d : α} {lt : α → α → Prop}
/-- Sorted within each block of a size, between two places. -/
def BlkS (d : α) (lt : α → α → Prop) (bs a m : Nat) (xs : List α) : Prop := ∀ p q, a ≤ p → p < q → q < m → p / bs = q / bs → ¬ lt (xs.getD q d) (xs.getD p d)
theorem blk_start {bs : Nat} {xs : List α} : BlkS d lt bs 0 0 xs := fun _ _ _ _ h _ => by omega
theorem blk_out {bs a m a' b' : Nat} {xs zs : List α} (w : Swp d a' b' xs zs) (h : BlkS d lt bs a m xs) (hd : m ≤ a' ∨ b' ≤ a) : BlkS d lt bs a m zs := fun p q h1 h2 h3 h4 => by
  rw [w.out (k := q) (by omega), w.out (k := p) (by omega)]; exact h p q h1 h2 h3 h4
/-- One more block is sorted. -/
theorem blk_step {bs k b : Nat} {xs zs : List α} (hb : 0 < bs) (h : BlkS d lt bs 0 (bs * k) xs) (w : Swp d (bs * k) b xs zs) (hs : SrtR d lt (bs * k) b zs) : BlkS d lt bs 0 b zs := by
  intro p q h1 h2 h3 h4
  rcases Nat.lt_or_ge q (bs * k) with h5 | h5
  · rw [w.out (k := q) (.inl h5), w.out (k := p) (by omega)]
    exact h p q h1 h2 h5 h4
  · refine hs p q ?_ h2 h3
    have h6 : k ≤ q / bs := (Nat.le_div_iff_mul_le hb).2 (by rw [Nat.mul_comm]; exact h5)
    rw [← h4] at h6
    have := (Nat.le_div_iff_mul_le hb).1 h6
    rw [Nat.mul_comm] at this
    exact this
theorem blk_srt {bs k m : Nat} {xs : List α} (hb : 0 < bs) (h : BlkS d lt bs (bs * k) m xs) {a b : Nat} (ha : bs * k ≤ a) (hab : a / bs * bs = a) (hbb : b ≤ a + bs) (hm : b ≤ m) : SrtR d lt a b xs := by
  intro p q h1 h2 h3
  refine h p q (by omega) h2 (by omega) ?_
  have e1 : p / bs = a / bs := by
    rw [Nat.div_eq_iff hb]
    omega
  have e2 : q / bs = a / bs := by
    rw [Nat.div_eq_iff hb]
    omega
  rw [e1, e2]
theorem blk_all {bs m : Nat} {xs : List α} (hm : m ≤ bs) (h : BlkS d lt bs 0 m xs) : SrtR d lt 0 m xs := fun p q h1 h2 h3 => h p q h1 h2 h3 (by rw [Nat.div_eq_of_lt (by omega), Nat.div_eq_of_lt (by omega)])
end Go.Sx

/- Sorting: stable sorting. -/
set_option maxRecDepth 100000
namespace Go.Proofs.YtbfejfejahoblaaGreat
open Go Go.Sx
theorem insertionStablePT {h0 h : Hp} {p : Option Addr} {n cp a' b' : Nat} {a b : Int} {xs : List Pt} {A F : Bag} {cmp : Value} {cf : Pt → Pt → Int} {P : Pt → Prop} (hX : CmpPT h0 cmp cf P) (ho : OrdP (fun x y : Pt => cf x y < 0)) (s : St h0 h (A + F)) (o : Sl tPt p n cp xs A) (hP : ∀ k, k < n → P (xs.getD k tPt.d)) (ea : a = (a' : Int)) (eb : b = (b' : Int)) (ha : a' ≤ n) (hb : b' ≤ n) (hn : n < 1000000) :
    HCalls Tryz.prog 90 #[.slice p n cp, .int .i64 a, .int .i64 b, cmp] h (fun v h' => v = .tuple #[] ∧ OutPT h0 p n cp a' b' xs F h' (fun ys => SrtR tPt.d (fun x y : Pt => cf x y < 0) a' b' ys ∧ Stb (fun x y : Pt => cf x y < 0) xs ys)) := by
  subst ea eb
  have hl0 := o.len
  refine slices_insertionSortCmpFunc_api_Point_call ?_
  rw [slices_insertionSortCmpFunc_api_Point_b0_eq]
  refine ⟨⟨by omega, by omega⟩, fun i h1 => ∃ i' : Nat, i.1 = i' ∧ a' + 1 ≤ i' ∧ OutPT h0 p n cp a' b' xs F h1 (fun ys => SrtR tPt.d (fun x y : Pt => cf x y < 0) a' i' ys ∧ Stb (fun x y : Pt => cf x y < 0) xs ys), fun i _ => (b' - i.1).toNat, ⟨a' + 1, rfl, Nat.le_refl _, xs, A, o, s, .refl _, srtR_one (by omega), .refl _⟩, ?_⟩
  rintro ⟨_, _⟩ h1 ⟨i', rfl, hi, ys, A1, o, s, w, hs, hb2⟩
  dsimp only
  rw [slices_insertionSortCmpFunc_api_Point_b1_eq]
  refine condP (fun hlt => ?_) (fun hge => ⟨rfl, ys, A1, o, s, w, SrtR.mono hs (Nat.le_refl _) (by omega), hb2⟩)
  refine ⟨fun j h2 => ∃ j' : Nat, j.1 = j' ∧ a' ≤ j' ∧ j' ≤ i' ∧ OutPT h0 p n cp a' b' xs F h2 (fun ys => InsR tPt.d (fun x y : Pt => cf x y < 0) a' j' i' ys ∧ Stb (fun x y : Pt => cf x y < 0) xs ys), fun j _ => j.1.toNat, ⟨i', rfl, by omega, by omega, ys, A1, o, s, w, ins_start hs, hb2⟩, ?_⟩
  clear hs hb2 w s o ys
  rintro ⟨_, _⟩ h2 ⟨j', rfl, hj1, hj2, ys, A1, o, s, w, hs, hb2⟩
  dsimp only
  have hl := o.len
  have hP := w.allN hl0 hP
  have fin : ∀ h3, St h0 h3 (A1 + F) → (a' < j' → ¬ (fun x y : Pt => cf x y < 0) (ys.getD j' tPt.d) (ys.getD (j' - 1) tPt.d)) → slices_insertionSortCmpFunc_api_Point_b4 p n cp a' b' cmp i' h3 (fun s' h' => (∃ i' : Nat, s'.1 = i' ∧ a' + 1 ≤ i' ∧ OutPT h0 p n cp a' b' xs F h' (fun ys => SrtR tPt.d (fun x y : Pt => cf x y < 0) a' i' ys ∧ Stb (fun x y : Pt => cf x y < 0) xs ys)) ∧ (b' - s'.1).toNat < (b' - (i' : Int)).toNat) (fun v h' => v = .tuple #[] ∧ OutPT h0 p n cp a' b' xs F h' (fun ys => SrtR tPt.d (fun x y : Pt => cf x y < 0) a' b' ys ∧ Stb (fun x y : Pt => cf x y < 0) xs ys)) := by
    intro h3 s hx
    rw [slices_insertionSortCmpFunc_api_Point_b4_eq]
    exact ⟨⟨by omega, by omega⟩, ⟨i' + 1, by push_cast; rfl, by omega, ys, A1, o, s, w, ins_end ho hj1 hs hx, hb2⟩, by omega⟩
  rw [slices_insertionSortCmpFunc_api_Point_b2_eq]
  refine condP (fun hj => ?_) (fun hj => fin _ s fun h => by omega)
  have r := o.rd s
  refine ldPT (i' := j') r rfl (by omega) ⟨⟨by omega, by omega⟩, ldPT (i' := j' - 1) r (by omega) (by omega) ?_⟩
  refine hX _ _ _ _ s.ext (hP _ (by omega)) (hP _ (by omega)) fun h5 e5 => ⟨_, rfl, ?_⟩; have s := s.grow e5
  refine condP (fun hc => ?_) (fun hc => fin _ s fun _ => hc)
  rw [slices_insertionSortCmpFunc_api_Point_b3_eq]
  refine ⟨⟨by omega, by omega⟩, ⟨by omega, by omega⟩, ?_⟩
  refine swPT (u' := j') (v' := j' - 1) o s rfl (by omega) (by omega) (by omega) fun h6 A6 o6 s6 => ?_
  rw [slices_insertionSortCmpFunc_api_Point_b5_eq]
  exact ⟨⟨by omega, by omega⟩, ⟨j' - 1, by omega, by omega, by omega, _, A6, o6, s6, .step w (by omega) (by omega) (by omega) (by omega) (by omega), ins_swap ho (by omega) hj2 (by omega) hs hc, hb2.trans (by have := stb_swap ho (d := tPt.d) (i := j' - 1) (xs := ys) (by omega) (by rw [show j' - 1 + 1 = j' by omega]; exact hc); rwa [show j' - 1 + 1 = j' by omega] at this)⟩, by omega⟩
theorem swapRangePT {h0 h : Hp} {p : Option Addr} {n cp a' b' m' lo hi : Nat} {a b m : Int} {xs : List Pt} {A F : Bag} {cmp : Value} (s : St h0 h (A + F)) (o : Sl tPt p n cp xs A) (ea : a = (a' : Int)) (eb : b = (b' : Int)) (em : m = (m' : Int)) (h1 : lo ≤ a') (h2 : a' + m' ≤ b') (h3 : b' + m' ≤ hi) (h4 : hi ≤ n) (hn : n < 1000000) :
    HCalls Tryz.prog 124 #[.slice p n cp, .int .i64 a, .int .i64 b, .int .i64 m, cmp] h (fun v h' => v = .tuple #[] ∧ OutPT h0 p n cp lo hi xs F h' (SwR tPt.d a' b' m' xs)) := by
  subst ea eb em
  have hl0 := o.len
  refine slices_swapRangeCmpFunc_api_Point_call ?_
  rw [slices_swapRangeCmpFunc_api_Point_b0_eq]
  refine ⟨fun i h1 => ∃ i' : Nat, i.1 = i' ∧ i' ≤ m' ∧ OutPT h0 p n cp lo hi xs F h1 (SwR tPt.d a' b' i' xs), fun i _ => (m' - i.1).toNat, ⟨0, rfl, by omega, xs, A, o, s, .refl _, swR_zero⟩, ?_⟩
  rintro ⟨_, _⟩ h1 ⟨i', rfl, hi', ys, A1, o, s, w, hs⟩
  dsimp only
  have hl := o.len
  rw [slices_swapRangeCmpFunc_api_Point_b1_eq]
  refine condP (fun hlt => ?_) (fun hge => ?_)
  · refine ⟨⟨by omega, by omega⟩, ⟨by omega, by omega⟩, ⟨by omega, by omega⟩, ?_⟩
    refine swPTx (u' := a' + i') (v' := b' + i') ⟨by omega, by omega⟩ o s (by omega) (by omega) (by omega) (by omega) fun h6 A6 o6 s6 => ?_
    rw [slices_swapRangeCmpFunc_api_Point_b2_eq]
    exact ⟨⟨by omega, by omega⟩, ⟨i' + 1, by push_cast; rfl, by omega, _, A6, o6, s6, .step w (by omega) (by omega) (by omega) (by omega) (by omega), swR_succ (by omega) (by omega) hs⟩, by dsimp only; omega⟩
  · obtain rfl : i' = m' := by omega
    exact ⟨rfl, ys, A1, o, s, w, hs⟩
theorem rotatePT {h0 h : Hp} {p : Option Addr} {n cp a' m' b' : Nat} {a m b : Int} {xs : List Pt} {A F : Bag} {cmp : Value} (s : St h0 h (A + F)) (o : Sl tPt p n cp xs A) (ea : a = (a' : Int)) (em : m = (m' : Int)) (eb : b = (b' : Int)) (h1 : a' < m') (h2 : m' < b') (h4 : b' ≤ n) (hn : n < 1000000) :
    HCalls Tryz.prog 121 #[.slice p n cp, .int .i64 a, .int .i64 m, .int .i64 b, cmp] h (fun v h' => v = .tuple #[] ∧ OutPT h0 p n cp a' b' xs F h' (Rot tPt.d a' m' b' xs)) := by
  subst ea em eb
  have hl0 := o.len
  refine slices_rotateCmpFunc_api_Point_call ?_
  rw [slices_rotateCmpFunc_api_Point_b0_eq]
  refine ⟨⟨by omega, by omega⟩, ⟨by omega, by omega⟩, fun z h1 => ∃ i j : Nat, z.1 = (i : Int) ∧ z.2.1 = (j : Int) ∧ 0 < i ∧ 0 < j ∧ a' + i ≤ m' ∧ m' + j ≤ b' ∧ OutPT h0 p n cp a' b' xs F h1 (fun ys => ∀ zs, Rot tPt.d (m' - i) m' (m' + j) ys zs → Rot tPt.d a' m' b' xs zs), fun z _ => (z.1 + z.2.1).toNat,
    ⟨m' - a', b' - m', by show (m' : Int) - a' = _; omega, by show (b' : Int) - m' = _; omega, by omega, by omega, by omega, by omega, xs, A, o, s, .refl _, fun zs hz => by rwa [show m' - (m' - a') = a' by omega, show m' + (b' - m') = b' by omega] at hz⟩, ?_⟩
  rintro ⟨_, _, _⟩ h2' ⟨i, j, rfl, rfl, hi0, hj0, hi, hj, ys, A1, o, s, w, hs⟩
  dsimp only
  have hl := o.len
  rw [slices_rotateCmpFunc_api_Point_b1_eq]
  refine condN (fun hne => condP (fun hlt => ?_) (fun hge => ?_)) (fun heq => ?_)
  · refine ⟨⟨by omega, by omega⟩, (swapRangePT s o (a' := m' - i) (b' := m') (m' := j) (lo := a') (hi := b') (by omega) rfl rfl (by omega) (by omega) (by omega) h4 hn).mono fun v h3 ⟨hv, zs, A2, o2, s2, w2, hz⟩ => ⟨hv, ⟨by omega, by omega⟩, ⟨i - j, j, by show (i : Int) - j = _; omega, rfl, by omega, hj0, by omega, hj, zs, A2, o2, s2, w.trans w2, fun us hu => hs us (rot_left (by omega) (by omega) hz hu)⟩, by dsimp only; omega⟩⟩
  · refine ⟨⟨by omega, by omega⟩, ⟨by omega, by omega⟩, ⟨by omega, by omega⟩, (swapRangePT s o (a' := m' - i) (b' := m' + j - i) (m' := i) (lo := a') (hi := b') (by omega) (by omega) rfl (by omega) (by omega) (by omega) h4 hn).mono fun v h3 ⟨hv, zs, A2, o2, s2, w2, hz⟩ => ⟨hv, ⟨by omega, by omega⟩, ⟨i, j - i, rfl, by show (j : Int) - i = _; omega, hi0, by omega, hi, by omega, zs, A2, o2, s2, w.trans w2, fun us hu => hs us (rot_right (by omega) (by omega) hz hu)⟩, by dsimp only; omega⟩⟩
  · obtain rfl : i = j := by omega
    rw [slices_rotateCmpFunc_api_Point_b2_eq]
    exact ⟨⟨by omega, by omega⟩, (swapRangePT s o (a' := m' - i) (b' := m') (m' := i) (lo := a') (hi := b') (by omega) rfl rfl (by omega) (by omega) (by omega) h4 hn).mono fun v h3 ⟨hv, zs, A2, o2, s2, w2, hz⟩ => ⟨hv, rfl, zs, A2, o2, s2, w.trans w2, hs zs (rot_last (by omega) hz)⟩⟩
theorem halfPT {a b : Nat} (h : a + b < 4000000) : IntKind.u64.wrap ((a : Int) + (b : Int)) = ((a + b : Nat) : Int) := by rw [wrap_u64_in _ (by omega) (by omega)]; push_cast; rfl
theorem symMergePT {h0 : Hp} {p : Option Addr} {n cp : Nat} {F : Bag} {cmp : Value} {cf : Pt → Pt → Int} {P : Pt → Prop} (hX : CmpPT h0 cmp cf P) (ho : OrdP (fun x y : Pt => cf x y < 0)) (hn : n < 1000000) : ∀ (len a' m' b' : Nat) (a m b : Int) (h : Hp) (xs : List Pt) (A : Bag), b' - a' ≤ len → St h0 h (A + F) → Sl tPt p n cp xs A → (∀ k, k < n → P (xs.getD k tPt.d)) → a = (a' : Int) → m = (m' : Int) → b = (b' : Int) → a' < m' → m' < b' → b' ≤ n →
    SrtR tPt.d (fun x y : Pt => cf x y < 0) a' m' xs → SrtR tPt.d (fun x y : Pt => cf x y < 0) m' b' xs →
    HCalls Tryz.prog 111 #[.slice p n cp, .int .i64 a, .int .i64 m, .int .i64 b, cmp] h (fun v h' => v = .tuple #[] ∧ OutPT h0 p n cp a' b' xs F h' (fun ys => SrtR tPt.d (fun x y : Pt => cf x y < 0) a' b' ys ∧ Stb (fun x y : Pt => cf x y < 0) xs ys)) := by
  intro len
  induction len with
  | zero => intro a' m' b' a m b h xs A hlen; omega
  | succ len ih =>
  rintro a' m' b' _ _ _ h xs A hlen s o hP rfl rfl rfl h1 h2 h4 hs1 hs2
  have hl0 := o.len
  refine slices_symMergeCmpFunc_api_Point_call ?_
  rw [slices_symMergeCmpFunc_api_Point_b0_eq]
  refine ⟨⟨by omega, by omega⟩, condP (fun he => ?_) (fun he => ⟨⟨by omega, by omega⟩, condP (fun he2 => ?_) (fun he2 => ?_)⟩)⟩
  · obtain rfl : m' = a' + 1 := by omega
    refine ⟨fun z h1 => ∃ i j : Nat, z.1 = (i : Int) ∧ z.2.1 = (j : Int) ∧ a' + 1 ≤ i ∧ i ≤ j ∧ j ≤ b' ∧ St h0 h1 (A + F) ∧ (∀ k, a' + 1 ≤ k → k < i → (fun x y : Pt => cf x y < 0) (xs.getD k tPt.d) (xs.getD a' tPt.d)) ∧ (∀ k, j ≤ k → k < b' → ¬ (fun x y : Pt => cf x y < 0) (xs.getD k tPt.d) (xs.getD a' tPt.d)), fun z _ => (z.2.1 - z.1).toNat,
      ⟨a' + 1, b', rfl, rfl, by omega, by omega, by omega, s, fun k k1 k2 => by omega, fun k k1 k2 => by omega⟩, ?_⟩
    clear s
    rintro ⟨_, _, _⟩ h3 ⟨i, j, rfl, rfl, hi, hij, hj, s, q1, q2⟩
    dsimp only
    rw [slices_symMergeCmpFunc_api_Point_b1_eq]
    refine condP (fun hlt => ?_) (fun hge => ?_)
    · refine ⟨⟨by omega, by omega⟩, ?_⟩
      rw [halfPT (by omega)]
      refine shr_intro (x := i + j) (s := 1) rfl rfl (by decide) ?_
      rw [Nat.shiftRight_eq_div_pow, Nat.pow_one]
      obtain ⟨c, hc⟩ : ∃ c, (i + j) / 2 = c := ⟨_, rfl⟩
      rw [hc]
      have r := o.rd s
      refine ⟨⟨by omega, by omega⟩, ldPT (i' := c) r rfl (by omega) (ldPT (i' := a') r rfl (by omega) ?_)⟩
      refine hX _ _ _ _ s.ext (hP _ (by omega)) (hP _ (by omega)) fun h5 e5 => ⟨_, rfl, ?_⟩; have s := s.grow e5
      refine condP (fun hcl => ⟨⟨by omega, by omega⟩, ⟨c + 1, j, by push_cast; rfl, rfl, by omega, by omega, hj, s, fun k k1 k2 => ?_, q2⟩, by dsimp only; omega⟩) (fun hcl => ⟨⟨i, c, rfl, rfl, hi, by omega, by omega, s, q1, fun k k1 k2 => ?_⟩, by dsimp only; omega⟩)
      · rcases Nat.lt_or_ge k c with hk | hk
        · have := srtR_le ho hs2 (p := k) (q := c) k1 (by omega) (by omega)
          exact Classical.byContradiction fun hn => ho.trans _ _ _ hn this hcl
        · rw [show k = c by omega]; exact hcl
      · rcases Nat.lt_or_ge c k with hk | hk
        · have := srtR_le ho hs2 (p := c) (q := k) (by omega) (by omega) (by omega)
          exact ho.trans _ _ _ hcl this
        · rw [show k = c by omega]; exact hcl
    · obtain rfl : i = j := by omega
      rw [slices_symMergeCmpFunc_api_Point_b4_eq]
      refine ⟨fun z h1 => ∃ k : Nat, z.1 = (k : Int) ∧ a' ≤ k ∧ k + 1 ≤ i ∧ OutPT h0 p n cp a' b' xs F h1 (Rot tPt.d a' (a' + 1) (k + 1) xs), fun z _ => (i - z.1).toNat, ⟨a', rfl, by omega, by omega, xs, A, o, s, .refl _, rot_id (.inr (Nat.le_refl _)) (by omega) (by omega)⟩, ?_⟩
      rintro ⟨_, _⟩ h5 ⟨k, rfl, hk1, hk2, ys, A1, o1, s1, w, hr⟩
      dsimp only
      have hl := o1.len
      rw [slices_symMergeCmpFunc_api_Point_b7_eq]
      refine ⟨⟨by omega, by omega⟩, condP (fun hlt => ?_) (fun hge2 => ?_)⟩
      · refine ⟨⟨by omega, by omega⟩, ⟨by omega, by omega⟩, ?_⟩
        refine swPT (u' := k) (v' := k + 1) o1 s1 rfl (by push_cast; rfl) (by omega) (by omega) fun h6 A6 o6 s6 => ?_
        rw [slices_symMergeCmpFunc_api_Point_b10_eq]
        have := rot_snoc (by omega) (by omega) hr
        rw [show k + 1 - 1 = k by omega] at this
        exact ⟨⟨by omega, by omega⟩, ⟨k + 1, by push_cast; rfl, by omega, by omega, _, A6, o6, s6, .step w (by omega) (by omega) (by omega) (by omega) (by omega), this⟩, by dsimp only; omega⟩
      · obtain rfl : i = k + 1 := by omega
        have := merge_first ho hs2 hr (by omega) (by omega) (by omega) q1 q2
        exact ⟨rfl, ys, A1, o1, s1, w, this.1, this.2⟩
  · obtain rfl : b' = m' + 1 := by omega
    refine ⟨fun z h1 => ∃ i j : Nat, z.1 = (i : Int) ∧ z.2.1 = (j : Int) ∧ a' ≤ i ∧ i ≤ j ∧ j ≤ m' ∧ St h0 h1 (A + F) ∧ (∀ k, a' ≤ k → k < i → ¬ (fun x y : Pt => cf x y < 0) (xs.getD m' tPt.d) (xs.getD k tPt.d)) ∧ (∀ k, j ≤ k → k < m' → (fun x y : Pt => cf x y < 0) (xs.getD m' tPt.d) (xs.getD k tPt.d)), fun z _ => (z.2.1 - z.1).toNat,
      ⟨a', m', rfl, rfl, by omega, by omega, by omega, s, fun k k1 k2 => by omega, fun k k1 k2 => by omega⟩, ?_⟩
    clear s
    rintro ⟨_, _, _⟩ h3 ⟨i, j, rfl, rfl, hi, hij, hj, s, q1, q2⟩
    dsimp only
    rw [slices_symMergeCmpFunc_api_Point_b2_eq]
    refine condP (fun hlt => ?_) (fun hge => ?_)
    · refine ⟨⟨by omega, by omega⟩, ?_⟩
      rw [halfPT (by omega)]
      refine shr_intro (x := i + j) (s := 1) rfl rfl (by decide) ?_
      rw [Nat.shiftRight_eq_div_pow, Nat.pow_one]
      obtain ⟨c, hc⟩ : ∃ c, (i + j) / 2 = c := ⟨_, rfl⟩
      rw [hc]
      have r := o.rd s
      refine ⟨⟨by omega, by omega⟩, ldPT (i' := m') r rfl (by omega) (ldPT (i' := c) r rfl (by omega) ?_)⟩
      refine hX _ _ _ _ s.ext (hP _ (by omega)) (hP _ (by omega)) fun h5 e5 => ⟨_, rfl, ?_⟩; have s := s.grow e5
      refine condN (fun hcl => ⟨⟨by omega, by omega⟩, ⟨c + 1, j, by push_cast; rfl, rfl, by omega, by omega, hj, s, fun k k1 k2 => ?_, q2⟩, by dsimp only; omega⟩) (fun hcl => ⟨⟨i, c, rfl, rfl, hi, by omega, by omega, s, q1, fun k k1 k2 => ?_⟩, by dsimp only; omega⟩)
      · rcases Nat.lt_or_ge k c with hk | hk
        · have := srtR_le ho hs1 (p := k) (q := c) k1 (by omega) (by omega)
          exact ho.trans _ _ _ this hcl
        · rw [show k = c by omega]; exact hcl
      · rcases Nat.lt_or_ge c k with hk | hk
        · have := srtR_le ho hs1 (p := c) (q := k) (by omega) (by omega) (by omega)
          exact Classical.byContradiction fun hn => ho.trans _ _ _ this hn hcl
        · rw [show k = c by omega]; exact hcl
    · obtain rfl : i = j := by omega
      rw [slices_symMergeCmpFunc_api_Point_b5_eq]
      refine ⟨fun z h1 => ∃ k : Nat, z.1 = (k : Int) ∧ i ≤ k ∧ k ≤ m' ∧ OutPT h0 p n cp a' (m' + 1) xs F h1 (Rot tPt.d k m' (m' + 1) xs), fun z _ => (z.1 - i).toNat, ⟨m', rfl, by omega, by omega, xs, A, o, s, .refl _, rot_id (.inl (Nat.le_refl _)) (by omega) (by omega)⟩, ?_⟩
      rintro ⟨_, _⟩ h5 ⟨k, rfl, hk1, hk2, ys, A1, o1, s1, w, hr⟩
      dsimp only
      have hl := o1.len
      rw [slices_symMergeCmpFunc_api_Point_b8_eq]
      refine condP (fun hlt => ?_) (fun hge2 => ?_)
      · refine ⟨⟨by omega, by omega⟩, ⟨by omega, by omega⟩, ?_⟩
        refine swPT (u' := k) (v' := k - 1) o1 s1 rfl (by omega) (by omega) (by omega) fun h6 A6 o6 s6 => ?_
        rw [slices_symMergeCmpFunc_api_Point_b11_eq]
        exact ⟨⟨by omega, by omega⟩, ⟨k - 1, by omega, by omega, by omega, _, A6, o6, s6, .step w (by omega) (by omega) (by omega) (by omega) (by omega), rot_cons (by omega) hk2 (by omega) hr⟩, by dsimp only; omega⟩
      · obtain rfl : k = i := by omega
        have := merge_last ho hs1 hr (by omega) (by omega) (by omega) q1 q2
        exact ⟨rfl, ys, A1, o1, s1, w, this.1, this.2⟩
  · refine ⟨⟨by omega, by omega⟩, ?_⟩
    rw [halfPT (by omega)]
    refine shr_intro (x := a' + b') (s := 1) rfl rfl (by decide) ?_
    rw [Nat.shiftRight_eq_div_pow, Nat.pow_one]
    obtain ⟨mid, hmid⟩ : ∃ c, (a' + b') / 2 = c := ⟨_, rfl⟩
    rw [hmid]
    refine ⟨⟨by omega, by omega⟩, ⟨by omega, by omega⟩, ?_⟩
    -- the right half is merged
    have b13 : ∀ (e : Nat) (h5 : Hp) (ys : List Pt) (A1 : Bag), mid ≤ e → e ≤ b' → Sl tPt p n cp ys A1 → St h0 h5 (A1 + F) → Swp tPt.d a' b' xs ys → SrtR tPt.d (fun x y : Pt => cf x y < 0) a' mid ys → SrtR tPt.d (fun x y : Pt => cf x y < 0) mid e ys → SrtR tPt.d (fun x y : Pt => cf x y < 0) e b' ys → (∀ p q, a' ≤ p → p < mid → mid ≤ q → q < b' → ¬ (fun x y : Pt => cf x y < 0) (ys.getD q tPt.d) (ys.getD p tPt.d)) → Stb (fun x y : Pt => cf x y < 0) xs ys →
        slices_symMergeCmpFunc_api_Point_b13 p n cp b' cmp mid e h5 (fun v h' => v = .tuple #[] ∧ OutPT h0 p n cp a' b' xs F h' (fun ys => SrtR tPt.d (fun x y : Pt => cf x y < 0) a' b' ys ∧ Stb (fun x y : Pt => cf x y < 0) xs ys)) := by
      intro e h5 ys A1 g1 g2 o1 s1 w t1 t2 t3 t4 t5
      have hl := o1.len
      rw [slices_symMergeCmpFunc_api_Point_b13_eq]
      refine condP (fun c1 => condP (fun c2 => ?_) (fun c2 => ?_)) (fun c1 => ?_)
      · refine (ih mid e b' mid e b' h5 ys A1 (by omega) s1 o1 (w.allN hl0 hP) rfl rfl rfl (by omega) (by omega) h4 t2 t3).mono fun v h6 ⟨hv, zs, A2, o2, s2, w2, u1, u2⟩ => ⟨hv, rfl, zs, A2, o2, s2, w.trans (w2.mono (by omega) (Nat.le_refl _) (by omega)).1, srtR_join (srtR_out w2 t1 (.inl (Nat.le_refl _))) u1 (cross_right (lt := (fun x y : Pt => cf x y < 0)) w2 t4), t5.trans u2⟩
      · obtain rfl : e = b' := by omega
        exact ⟨rfl, ys, A1, o1, s1, w, srtR_join t1 t2 t4, t5⟩
      · obtain rfl : e = mid := by omega
        exact ⟨rfl, ys, A1, o1, s1, w, srtR_join t1 t3 t4, t5⟩
    -- the left half is merged
    have b12 : ∀ (st e : Nat) (h5 : Hp) (ys : List Pt) (A1 : Bag), a' ≤ st → st ≤ mid → mid ≤ e → e ≤ b' → Sl tPt p n cp ys A1 → St h0 h5 (A1 + F) → Swp tPt.d a' b' xs ys → MergeR tPt.d (fun x y : Pt => cf x y < 0) a' st mid e b' xs ys →
        slices_symMergeCmpFunc_api_Point_b12 p n cp a' b' cmp mid st e h5 (fun v h' => v = .tuple #[] ∧ OutPT h0 p n cp a' b' xs F h' (fun ys => SrtR tPt.d (fun x y : Pt => cf x y < 0) a' b' ys ∧ Stb (fun x y : Pt => cf x y < 0) xs ys)) := by
      intro st e h5 ys A1 g0 g1 g2 g3 o1 s1 w mr
      have hl := o1.len
      rw [slices_symMergeCmpFunc_api_Point_b12_eq]
      refine condP (fun c1 => condP (fun c2 => ?_) (fun c2 => ?_)) (fun c1 => ?_)
      · refine (ih a' st mid a' st mid h5 ys A1 (by omega) s1 o1 (w.allN hl0 hP) rfl rfl rfl (by omega) (by omega) (by omega) mr.s1 mr.s2).mono fun v h6 ⟨hv, zs, A2, o2, s2, w2, u1, u2⟩ => ⟨hv, b13 e h6 zs A2 g2 g3 o2 s2 (w.trans (w2.mono (Nat.le_refl _) (by omega) (by omega)).1) u1 (srtR_out w2 mr.s3 (.inr (Nat.le_refl _))) (srtR_out w2 mr.s4 (.inr g2)) (cross_left (lt := (fun x y : Pt => cf x y < 0)) w2 mr.cross) (mr.stb.trans u2)⟩
      · obtain rfl : st = mid := by omega
        exact b13 e h5 ys A1 g2 g3 o1 s1 w mr.s1 mr.s3 mr.s4 mr.cross mr.stb
      · obtain rfl : st = a' := by omega
        exact b13 e h5 ys A1 g2 g3 o1 s1 w mr.s2 mr.s3 mr.s4 mr.cross mr.stb
    -- the search for the place
    have b3 : ∀ (st r : Nat) (si : Int), si = (st : Int) → a' ≤ st → st ≤ r → r ≤ m' → r ≤ mid → mid + m' ≤ b' + st → (st = a' ∨ mid + m' = b' + st) → (r = m' ∨ r = mid) → slices_symMergeCmpFunc_api_Point_b3 p n cp a' m' b' cmp mid ((mid : Int) + m') si r h (fun v h' => v = .tuple #[] ∧ OutPT h0 p n cp a' b' xs F h' (fun ys => SrtR tPt.d (fun x y : Pt => cf x y < 0) a' b' ys ∧ Stb (fun x y : Pt => cf x y < 0) xs ys)) := by
      rintro st0 r0 _ rfl v1 v2 v3 v4 v5 v6 v7
      rw [slices_symMergeCmpFunc_api_Point_b3_eq]
      refine ⟨⟨by omega, by omega⟩, fun z h1 => ∃ i j : Nat, z.1 = (i : Int) ∧ z.2.1 = (j : Int) ∧ st0 ≤ i ∧ i ≤ j ∧ j ≤ r0 ∧ St h0 h1 (A + F) ∧ (i = st0 ∨ ¬ (fun x y : Pt => cf x y < 0) (xs.getD (mid + m' - i) tPt.d) (xs.getD (i - 1) tPt.d)) ∧ (j = r0 ∨ (fun x y : Pt => cf x y < 0) (xs.getD (mid + m' - 1 - j) tPt.d) (xs.getD j tPt.d)), fun z _ => (z.2.1 - z.1).toNat,
        ⟨st0, r0, rfl, rfl, by omega, v2, by omega, s, .inl rfl, .inl rfl⟩, ?_⟩
      clear s
      rintro ⟨_, _, _⟩ h3 ⟨i, j, rfl, rfl, hi, hij, hj, s, q1, q2⟩
      dsimp only
      rw [slices_symMergeCmpFunc_api_Point_b6_eq]
      refine condP (fun hlt => ?_) (fun hge => ?_)
      · refine ⟨⟨by omega, by omega⟩, ?_⟩
        rw [halfPT (by omega)]
        refine shr_intro (x := i + j) (s := 1) rfl rfl (by decide) ?_
        rw [Nat.shiftRight_eq_div_pow, Nat.pow_one]
        obtain ⟨c, hc⟩ : ∃ c, (i + j) / 2 = c := ⟨_, rfl⟩
        rw [hc]
        have r := o.rd s
        refine ⟨⟨by omega, by omega⟩, ⟨by omega, by omega⟩, ldPT (i' := mid + m' - 1 - c) r (by omega) (by omega) (ldPT (i' := c) r rfl (by omega) ?_)⟩
        refine hX _ _ _ _ s.ext (hP _ (by omega)) (hP _ (by omega)) fun h5 e5 => ⟨_, rfl, ?_⟩; have s := s.grow e5
        refine condN (fun hcl => ⟨⟨by omega, by omega⟩, ⟨c + 1, j, by push_cast; rfl, rfl, by omega, by omega, hj, s, .inr ?_, q2⟩, by dsimp only; omega⟩) (fun hcl => ⟨⟨i, c, rfl, rfl, hi, by omega, by omega, s, q1, .inr hcl⟩, by dsimp only; omega⟩)
        rw [show mid + m' - (c + 1) = mid + m' - 1 - c by omega, show c + 1 - 1 = c by omega]
        exact hcl
      · obtain rfl : i = j := by omega
        rw [slices_symMergeCmpFunc_api_Point_b9_eq]
        obtain ⟨e, he⟩ : ∃ e, mid + m' - i = e := ⟨_, rfl⟩
        have ee : (mid : Int) + m' - i = (e : Int) := by omega
        rw [ee]
        have mr : ∀ zs : List Pt, Rot tPt.d i m' e xs zs → MergeR tPt.d (fun x y : Pt => cf x y < 0) a' i mid e b' xs zs := fun zs hz => merge_rot ho hs1 hs2 hz (by omega) (by omega) (by omega) (by omega) (by omega) (by omega)
          (fun c1 c2 => by
            rcases q2 with q2 | q2
            · omega
            · rwa [show e - 1 = mid + m' - 1 - i by omega])
          (fun c1 c2 => by
            rcases q1 with q1 | q1
            · omega
            · rwa [← he])
        refine ⟨⟨by omega, by omega⟩, condP (fun c1 => condP (fun c2 => ?_) (fun c2 => ?_)) (fun c1 => ?_)⟩
        · refine (rotatePT s o rfl rfl rfl (by omega) (by omega) (by omega) hn).mono fun v h6 ⟨hv, zs, A2, o2, s2, w2, hz⟩ => ⟨hv, b12 i e h6 zs A2 (by omega) (by omega) (by omega) (by omega) o2 s2 (w2.mono (by omega) (by omega) (by omega)).1 (mr zs hz)⟩
        · exact b12 i e h3 xs A (by omega) (by omega) (by omega) (by omega) o s (.refl _) (mr xs (rot_id (.inr (by omega)) (by omega) (by omega)))
        · exact b12 i e h3 xs A (by omega) (by omega) (by omega) (by omega) o s (.refl _) (mr xs (rot_id (.inl (by omega)) (by omega) (by omega)))
    refine condP (fun hm => ⟨⟨by omega, by omega⟩, ?_⟩) (fun hm => ?_)
    · exact b3 (mid + m' - b') mid _ (by omega) (by omega) (by omega) (by omega) (Nat.le_refl _) (by omega) (.inr (by omega)) (.inr rfl)
    · exact b3 a' m' _ rfl (Nat.le_refl _) (by omega) (Nat.le_refl _) (by omega) (by omega) (.inl rfl) (.inl rfl)
theorem stablePT {h0 h : Hp} {p : Option Addr} {n cp : Nat} {xs : List Pt} {A F : Bag} {cmp : Value} {cf : Pt → Pt → Int} {P : Pt → Prop} (hX : CmpPT h0 cmp cf P) (ho : OrdP (fun x y : Pt => cf x y < 0)) (s : St h0 h (A + F)) (o : Sl tPt p n cp xs A) (hP : ∀ k, k < n → P (xs.getD k tPt.d)) (hn : n < 400000) :
    HCalls Tryz.prog 84 #[.slice p n cp, .int .i64 (n : Int), cmp] h (fun v h' => v = .tuple #[] ∧ OutPT h0 p n cp 0 n xs F h' (fun ys => SrtR tPt.d (fun x y : Pt => cf x y < 0) 0 n ys ∧ Stb (fun x y : Pt => cf x y < 0) xs ys)) := by
  have hl0 := o.len
  refine slices_stableCmpFunc_api_Point_call ?_
  rw [slices_stableCmpFunc_api_Point_b0_eq]
  refine ⟨fun z h1 => ∃ k : Nat, z.1 = ((20 * k : Nat) : Int) ∧ z.2.1 = ((20 * k + 20 : Nat) : Int) ∧ 20 * k ≤ n ∧ OutPT h0 p n cp 0 n xs F h1 (fun ys => BlkS tPt.d (fun x y : Pt => cf x y < 0) 20 0 (20 * k) ys ∧ Stb (fun x y : Pt => cf x y < 0) xs ys), fun z _ => (n - z.1).toNat, ⟨0, rfl, rfl, by omega, xs, A, o, s, .refl _, blk_start, .refl _⟩, ?_⟩
  clear s
  rintro ⟨_, _, _⟩ h1 ⟨k, rfl, rfl, hk, ys, A1, o, s, w, hb, hst⟩
  dsimp only
  have hl := o.len
  rw [slices_stableCmpFunc_api_Point_b1_eq]
  refine condP (fun hlt => ?_) (fun hge => ?_)
  · refine (insertionStablePT hX ho s o (w.allN hl0 hP) (a' := 20 * k) (b' := 20 * k + 20) rfl rfl (by omega) (by omega) (by omega)).mono fun v h2 ⟨hv, zs, A2, o2, s2, w2, u1, u2⟩ => ⟨hv, ⟨by omega, by omega⟩, ⟨k + 1, by push_cast; omega, by push_cast; omega, by omega, zs, A2, o2, s2, w.trans (w2.mono (by omega) (by omega) (by omega)).1, ?_, hst.trans u2⟩, by dsimp only; omega⟩
    have := blk_step (by omega) hb w2 u1
    rwa [show 20 * k + 20 = 20 * (k + 1) by omega] at this
  rw [slices_stableCmpFunc_api_Point_b2_eq]
  refine (insertionStablePT hX ho s o (w.allN hl0 hP) (a' := 20 * k) (b' := n) rfl rfl (by omega) (by omega) (by omega)).mono fun v h2 ⟨hv, zs, A2, o2, s2, w2, u1, u2⟩ => ⟨hv, ?_⟩
  have hb0 := blk_step (by omega) hb w2 u1
  refine ⟨fun z h1 => ∃ bs : Nat, z.1 = (bs : Int) ∧ 20 ≤ bs ∧ bs ≤ 2 * n + 20 ∧ OutPT h0 p n cp 0 n xs F h1 (fun ys => BlkS tPt.d (fun x y : Pt => cf x y < 0) bs 0 n ys ∧ Stb (fun x y : Pt => cf x y < 0) xs ys), fun z _ => (n - z.1).toNat, ⟨20, rfl, by omega, by omega, zs, A2, o2, s2, w.trans (w2.mono (by omega) (by omega) (by omega)).1, hb0, hst.trans u2⟩, ?_⟩
  clear hb0 hb hst u1 u2 w2 s2 o2 w s o
  rintro ⟨_, _⟩ h3 ⟨bs, rfl, hbs1, hbs2, ys, A1, o, s, w, hb, hst⟩
  dsimp only
  have hl := o.len
  rw [slices_stableCmpFunc_api_Point_b3_eq]
  refine condP (fun hlt => ⟨⟨by omega, by omega⟩, ?_⟩) (fun hge => ⟨rfl, ys, A1, o, s, w, blk_all (by omega) hb, hst⟩)
  refine ⟨fun z h1 => ∃ k : Nat, z.1 = ((2 * bs * k : Nat) : Int) ∧ z.2.1 = ((2 * bs * k + 2 * bs : Nat) : Int) ∧ 2 * bs * k ≤ n ∧ OutPT h0 p n cp 0 n xs F h1 (fun ys => BlkS tPt.d (fun x y : Pt => cf x y < 0) (2 * bs) 0 (2 * bs * k) ys ∧ BlkS tPt.d (fun x y : Pt => cf x y < 0) bs (bs * (2 * k)) n ys ∧ Stb (fun x y : Pt => cf x y < 0) xs ys), fun z _ => (n - z.1).toNat,
    ⟨0, by show (0 : Int) = _; simp, by show 2 * (bs : Int) = _; push_cast; omega, by omega, ys, A1, o, s, w, by rw [Nat.mul_zero]; exact blk_start, by exact hb, hst⟩, ?_⟩
  clear hb hst w s o
  rintro ⟨_, _, _⟩ h4 ⟨k, rfl, rfl, hk, ys, A1, o, s, w, hb, hb2, hst⟩
  dsimp only
  have hl := o.len
  have ek : bs * (2 * k) = 2 * bs * k := by rw [← Nat.mul_assoc, Nat.mul_comm bs 2]
  have d1 : 2 * bs * k / bs * bs = 2 * bs * k := by rw [← ek, Nat.mul_comm bs, Nat.mul_div_cancel _ (by omega)]
  have d2 : (2 * bs * k + bs) / bs * bs = 2 * bs * k + bs := by rw [← ek, show bs * (2 * k) + bs = (2 * k + 1) * bs by rw [Nat.add_mul, Nat.mul_comm bs, Nat.one_mul], Nat.mul_div_cancel _ (by omega)]
  generalize hK : 2 * bs * k = Kb at *
  rw [slices_stableCmpFunc_api_Point_b4_eq]
  refine condP (fun hlt2 => ⟨⟨by omega, by omega⟩, ?_⟩) (fun hge => ?_)
  · have t1 : SrtR tPt.d (fun x y : Pt => cf x y < 0) Kb (Kb + bs) ys := blk_srt (by omega) hb2 (by omega) d1 (by omega) (by omega)
    have t2 : SrtR tPt.d (fun x y : Pt => cf x y < 0) (Kb + bs) (Kb + 2 * bs) ys := blk_srt (by omega) hb2 (by omega) d2 (by omega) (by omega)
    refine (symMergePT hX ho (by omega) n Kb (Kb + bs) (Kb + 2 * bs) _ _ _ h4 ys A1 (by omega) s o (w.allN hl0 hP) rfl (by push_cast; rfl) rfl (by omega) (by omega) (by omega) t1 t2).mono fun v h5 ⟨hv, zs, A2, o2, s2, w2, u1, u2⟩ => ⟨hv, ⟨by omega, by omega⟩, ⟨by omega, by omega⟩, ⟨k + 1, ?_, ?_, ?_, zs, A2, o2, s2, w.trans (w2.mono (by omega) (by omega) (by omega)).1, ?_, ?_, hst.trans u2⟩, by dsimp only; omega⟩
    · rw [Nat.mul_add, hK, Nat.mul_one]
    · rw [Nat.mul_add, hK, Nat.mul_one]; push_cast; omega
    · rw [Nat.mul_add, hK, Nat.mul_one]; omega
    · rw [Nat.mul_add, hK, Nat.mul_one]
      rw [← hK] at hb w2 u1 ⊢
      exact blk_step (by omega) hb w2 u1
    · have hb3 : BlkS tPt.d (fun x y : Pt => cf x y < 0) bs (bs * (2 * (k + 1))) n ys := fun p q h1 h2 h3 h4 => hb2 p q (by rw [Nat.mul_add, Nat.mul_add] at h1; omega) h2 h3 h4
      exact blk_out w2 hb3 (.inr (by rw [Nat.mul_add, Nat.mul_add, ek]; omega))
  rw [slices_stableCmpFunc_api_Point_b5_eq]
  have fin : ∀ (h5 : Hp) (zs : List Pt) (A2 : Bag), Sl tPt p n cp zs A2 → St h0 h5 (A2 + F) → Swp tPt.d 0 n xs zs → BlkS tPt.d (fun x y : Pt => cf x y < 0) (2 * bs) 0 n zs → Stb (fun x y : Pt => cf x y < 0) xs zs → slices_stableCmpFunc_api_Point_b6 p n cp n cmp bs h5 (fun s' h' => (∃ bs : Nat, s'.1 = (bs : Int) ∧ 20 ≤ bs ∧ bs ≤ 2 * n + 20 ∧ OutPT h0 p n cp 0 n xs F h' (fun ys => BlkS tPt.d (fun x y : Pt => cf x y < 0) bs 0 n ys ∧ Stb (fun x y : Pt => cf x y < 0) xs ys)) ∧ (n - s'.1).toNat < ((n : Int) - bs).toNat) (fun v h' => v = .tuple #[] ∧ OutPT h0 p n cp 0 n xs F h' (fun ys => SrtR tPt.d (fun x y : Pt => cf x y < 0) 0 n ys ∧ Stb (fun x y : Pt => cf x y < 0) xs ys)) := by
    intro h5 zs A2 o2 s2 w2 u1 u2
    rw [slices_stableCmpFunc_api_Point_b6_eq]
    exact ⟨⟨by omega, by omega⟩, ⟨bs * 2, by push_cast; rfl, by omega, by omega, zs, A2, o2, s2, w2, by rw [Nat.mul_comm]; exact u1, u2⟩, by dsimp only; omega⟩
  refine ⟨⟨by omega, by omega⟩, condP (fun hm => ?_) (fun hm => ?_)⟩
  · have t1 : SrtR tPt.d (fun x y : Pt => cf x y < 0) Kb (Kb + bs) ys := blk_srt (by omega) hb2 (by omega) d1 (by omega) (by omega)
    have t2 : SrtR tPt.d (fun x y : Pt => cf x y < 0) (Kb + bs) n ys := blk_srt (by omega) hb2 (by omega) d2 (by omega) (by omega)
    refine (symMergePT hX ho (by omega) n Kb (Kb + bs) n _ _ _ h4 ys A1 (by omega) s o (w.allN hl0 hP) rfl (by push_cast; rfl) rfl (by omega) (by omega) (by omega) t1 t2).mono fun v h5 ⟨hv, zs, A2, o2, s2, w2, u1, u2⟩ => ⟨hv, fin h5 zs A2 o2 s2 (w.trans (w2.mono (by omega) (by omega) (by omega)).1) ?_ (hst.trans u2)⟩
    rw [← hK] at hb w2 u1
    exact blk_step (by omega) hb w2 u1
  · have t1 : SrtR tPt.d (fun x y : Pt => cf x y < 0) Kb n ys := blk_srt (by omega) hb2 (by omega) d1 (by omega) (by omega)
    refine fin h4 ys A1 o s w ?_ hst
    rw [← hK] at hb t1
    exact blk_step (by omega) hb (.refl _) t1
/-- The whole slice. -/
theorem sortStablePT {h0 h : Hp} {p : Option Addr} {n cp : Nat} {xs : List Pt} {A F : Bag} {cmp : Value} {cf : Pt → Pt → Int} {P : Pt → Prop} (hX : CmpPT h0 cmp cf P) (ho : OrdP (fun x y : Pt => cf x y < 0)) (s : St h0 h (A + F)) (o : Sl tPt p n cp xs A) (hP : ∀ k, k < n → P (xs.getD k tPt.d)) (hn : n < 400000) :
    HCalls Tryz.prog 66 #[.slice p n cp, cmp] h (fun v h' => v = .tuple #[] ∧ ∃ ys A', Sl tPt p n cp ys A' ∧ St h0 h' (A' + F) ∧ ys.Pairwise (fun x y => ¬ (fun x y : Pt => cf x y < 0) y x) ∧ Stb (fun x y : Pt => cf x y < 0) xs ys) := by
  refine slices_SortStableFunc_Sapi_Point_api_Point_call ?_
  rw [slices_SortStableFunc_Sapi_Point_api_Point_b0_eq]
  exact (stablePT hX ho s o hP hn).mono fun v h' ⟨hv, ys, A', o2, s2, w, hs, hst⟩ => ⟨hv, rfl, ys, A', o2, s2, srtR_pairwise o2.len hs, hst⟩
end Go.Proofs.YtbfejfejahoblaaGreat

/- Points: comparisons, copies, searching, places as keys. -/
set_option maxRecDepth 100000
namespace Go.Proofs.YtbfejfejahoblaaGreat
open Go Go.Sx
theorem cmpI_neg {x y : Int} : cmpI x y < 0 ↔ x < y := by unfold cmpI; split <;> (try split) <;> omega
theorem Compare_w (x y : Int) (h : Hp) : HCalls Tryz.prog 70 #[.int .i64 x, .int .i64 y] h (fun v h' => v = .int .i64 (cmpI x y) ∧ h' = h) := by
  refine cmp_Compare_int_call ?_
  rw [cmp_Compare_int_b0_eq]
  refine (cisNaN_ok x h).mono fun v h1 ⟨hh, hv⟩ => ⟨_, hv, ?_⟩
  subst hh
  refine (cisNaN_ok y _).mono fun v h2 ⟨hh, hv⟩ => ⟨_, hv, ?_⟩
  subst hh
  refine condNo rfl (condNo rfl (condP (fun h1 => ⟨?_, rfl⟩) (fun h1 => condP (fun h2 => ⟨?_, rfl⟩) (fun h2 => ⟨?_, rfl⟩))))
  · unfold cmpI; rw [if_pos h1]
  · unfold cmpI; rw [if_neg h1, if_pos h2]
  · unfold cmpI; rw [if_neg h1, if_neg h2]
theorem Or_w {h : Hp} {b : Nat} {x y : Int} (cb : Blk h b [.int .i64 x, .int .i64 y] 3) : HCalls Tryz.prog 75 #[.slice (some ⟨b, 0, none⟩) 2 2] h (fun v h' => v = .int .i64 (if x ≠ 0 then x else y) ∧ h' = h) := by
  refine cmp_Or_int_call ?_
  rw [cmp_Or_int_b0_eq]
  refine ⟨fun i h1 => h1 = h ∧ ∃ i' : Nat, i.1 = i' ∧ i' ≤ 2 ∧ (0 < i' → x = 0) ∧ (1 < i' → y = 0), fun i _ => (2 - i.1).toNat, ⟨rfl, 0, rfl, by omega, fun h => by omega, fun h => by omega⟩, ?_⟩
  rintro ⟨_, _⟩ h1 ⟨rfl, i, rfl, hi, hx, hy⟩
  dsimp only
  rw [cmp_Or_int_b1_eq]
  refine condP (fun hlt => ?_) (fun hge => ?_)
  · refine ⟨⟨by omega, by omega⟩, ?_⟩
    rcases (by omega : i = 0 ∨ i = 1) with rfl | rfl
    · refine ⟨x, ?_, ?_⟩
      · have := cb.cell 0
        exact this
      · refine condN (fun h2 => ⟨by rw [if_pos h2], rfl⟩) (fun h2 => ?_)
        rw [cmp_Or_int_b2_eq]
        exact ⟨⟨by omega, by omega⟩, ⟨rfl, 1, rfl, by omega, fun _ => h2, fun h => by omega⟩, by dsimp only; omega⟩
    · have hx0 := hx (by omega)
      refine ⟨y, ?_, ?_⟩
      · have := cb.cell 1
        exact this
      · refine condN (fun h2 => ⟨by rw [if_neg (by omega)], rfl⟩) (fun h2 => ?_)
        rw [cmp_Or_int_b2_eq]
        exact ⟨⟨by omega, by omega⟩, ⟨rfl, 2, rfl, by omega, fun _ => hx0, fun _ => h2⟩, by dsimp only; omega⟩
  · obtain rfl : i = 2 := by omega
    rw [cmp_Or_int_b3_eq]
    exact ⟨by rw [if_neg (by rw [hx (by omega)]; simp), hy (by omega)], rfl⟩
def cfO (x y : Pt) : Int := if cmpI x.1 y.1 ≠ 0 then cmpI x.1 y.1 else cmpI x.2.1 y.2.1
theorem cfO_neg {x y : Pt} : cfO x y < 0 ↔ ptLt x y := by
  unfold cfO cmpI ptLt
  repeat' split
  all_goals omega
theorem ordO : OrdP (fun x y : Pt => cfO x y < 0) := ⟨fun x y h1 h2 => ptLt_asymm (cfO_neg.1 h1) (cfO_neg.1 h2), fun x y z h1 h2 h3 => by
  rw [cfO_neg] at h1 h2 h3
  unfold ptLt at *
  omega⟩
theorem order_ok (x y : Pt) (h : Hp) : HCalls Tryz.prog 50 #[encPt x, encPt y] h (fun v h' => Ext h h' ∧ v = .int .i64 (cfO x y)) := by
  refine rangetree_order_call ?_
  rw [rangetree_order_b0_eq]
  refine (St.start h).new (cs := [_, _, _]) fun b1 h1 _ s => s.new (cs := [_, _, _]) fun b2 h2 _ s => ?_
  refine ⟨_, s.ld0, _, s.ld0, _, Compare_w _ _ _, _, s.ldB, _, s.ldB, _, Compare_w _ _ _, ?_⟩
  refine s.new (cs := [_, _]) fun b3 h3 _ s => ?_
  refine (Or_w s.blk).mono fun v h4 ⟨hv, hh⟩ => ⟨_, hv, ?_⟩
  subst hh
  exact ⟨s.ext, rfl⟩
theorem cmpOrder (h0 : Hp) : CmpPT h0 (.func (.func 50) #[] #[]) cfO (fun _ => True) := fun x y h K _ _ _ hK =>
  funX_of (by kernel_rfl) ((order_ok x y h).mono fun v h1 ⟨hx, hv⟩ => by rw [hv]; exact hK h1 hx)
def cfY (x y : Pt) : Int := cmpI x.2.1 y.2.1
theorem ordY : OrdP (fun x y : Pt => cfY x y < 0) := ⟨fun x y h1 h2 => by
  have := cmpI_neg.1 h1
  have := cmpI_neg.1 h2
  omega, fun x y z h1 h2 h3 => by
  have := mt cmpI_neg.2 h1
  have := mt cmpI_neg.2 h2
  have := cmpI_neg.1 h3
  omega⟩
theorem cmpY (h0 : Hp) : CmpPT h0 (.func (.func 85) #[] #[]) cfY (fun _ => True) := fun x y h K _ _ _ hK => by
  refine funX_of (by kernel_rfl) (rangetree_build_c1_call ?_)
  rw [rangetree_build_c1_b0_eq]
  refine (St.start h).new (cs := [_, _, _]) fun b1 h1 _ s => s.new (cs := [_, _, _]) fun b2 h2 _ s => ?_
  refine ⟨_, s.ldB, _, s.ldB, (Compare_w x.2.1 y.2.1 _).mono fun v h3 ⟨hv, hh⟩ => ⟨_, hv, ?_⟩⟩
  subst hh
  exact hK _ s.ext
theorem ok_pts : ElOk tPt Tryz.prog 49 := elB_spec (by kernel_rfl)
theorem clonePt {h : Hp} {p : Option Addr} {n c : Nat} {xs : List Pt} (r : RdT tPt h p n xs) (hn : n < 1000000) :
    HCalls Tryz.prog 65 #[.slice p n c] h (fun v h' => ∃ q d A, v = .slice q n d ∧ Sl tPt q n d xs A ∧ St h h' A) := by
  refine slices_Clone_Sapi_Point_api_Point_call ?_
  rw [slices_Clone_Sapi_Point_api_Point_b0_eq]
  have s := St.start h
  refine cond_intro (fun h1 => ?_) (fun h1 => ?_)
  · have hp : p = none := by simpa using h1
    subst hp
    have hn0 : n = 0 := by
      rcases r.2 with h0 | ⟨a, ha, _⟩
      · exact h0
      · cases ha
    subst hn0
    have : xs = [] := List.eq_nil_of_length_eq_zero r.len
    subst this
    exact ⟨none, 0, 0, rfl, Sl.nil, s⟩
  · refine s.new (cs := []) fun b h2 x2 s => ?_
    have o : Sl tPt (some ⟨b, 0, none⟩) 0 0 [] (cA b [] 43) := ⟨rfl, .inr ⟨b, [], rfl, Nat.le_refl _, by simp, rfl⟩⟩
    refine append_sl ok_pts s o (r.ext x2) (by omega) fun p' c' h3 A' o' s' => ?_
    rw [Nat.zero_add, List.nil_append] at o'
    exact ⟨p', c', A', by rw [Nat.zero_add], o', s'.to⟩
/-! ### places as keys -/
abbrev MPl : MTy (Int × Int) Int := ⟨fun k => .agg #[.int .i64 k.1, .int .i64 k.2], fun w => .int .i64 w, .int .i64 0⟩
theorem eq_place (a b : Int × Int) (h : Hp) (K : Bool → Prop) (hK : K (decide (b = a))) : hq Tryz.prog (Op.equal 60 (MPl.ken a) (MPl.ken b)) h K := by
  have e : (decide (a.1 = b.1) && (decide (a.2 = b.2) && true)) = decide (b = a) := by
    rw [Bool.eq_iff_iff]
    simp only [Bool.and_true, Bool.and_eq_true, decide_eq_true_eq]
    constructor
    · rintro ⟨h1, h2⟩; exact (Prod.ext h1 h2).symm
    · rintro rfl; exact ⟨rfl, rfl⟩
  exact equal_struct (d := 9998) (fs := structFs Tryz.prog 60) (xs := [.int .i64 a.1, .int .i64 a.2]) (ys := [.int .i64 b.1, .int .i64 b.2]) (b := (decide (a.1 = b.1) && (decide (a.2 = b.2) && true))) (by kernel_rfl) (by kernel_rfl) (by kernel_rfl) (by rw [e]; exact hK)
theorem mapOk_pl : MapOk MPl Tryz.prog 55 :=
  mapOk_struct (kt := 60) (et := 3) (by kernel_rfl) (by kernel_rfl) (by kernel_rfl) (fun k => ⟨#[.int .i64 k.1, .int .i64 k.2], rfl, by kernel_rfl⟩) (fun a b h K hK => eq_place a b h K hK) (fun k => by simp [Instr.sameBits])
/-! ### searching -/
theorem half_ok {i j : Nat} (h : i + j < 2000000) : IntKind.u64.wrap ((i : Int) + (j : Int)) = ((i + j : Nat) : Int) ∧ (((i + j : Nat) : Int)).fdiv ((2 : Int) ^ (min (Int.toNat 1) IntKind.u64.bits)) = (((i + j) / 2 : Nat) : Int) := by
  constructor
  · show ((i : Int) + (j : Int)) % 18446744073709551616 = _
    rw [Int.emod_eq_of_lt (by omega) (by omega)]; push_cast; rfl
  · have : (2 : Int) ^ (min (Int.toNat 1) IntKind.u64.bits) = 2 := by decide
    rw [this, Int.fdiv_eq_ediv_of_nonneg _ (by omega)]
    omega
theorem searchI_ok {h : Hp} {p : Option Addr} {n c t : Nat} {zs : List Int} {key : Int} (r : RdT TI h p n zs) (hn : n ≤ 100000) (ht : t ≤ n) (lo : ∀ j, j < t → zs.getD j 0 < key) (hi : ∀ j, t ≤ j → j < n → key ≤ zs.getD j 0) :
    HCalls Tryz.prog 87 #[.slice p n c, .int .i64 key] h (fun v h' => h' = h ∧ ∃ b, v = .tuple #[.int .i64 (t : Int), .bool b]) := by
  refine slices_BinarySearch_Sint_int_call ?_
  rw [slices_BinarySearch_Sint_int_b0_eq]
  refine ⟨fun s h' => h' = h ∧ ∃ i j : Nat, s.1 = i ∧ s.2.1 = j ∧ i ≤ t ∧ t ≤ j ∧ j ≤ n, fun s _ => (s.2.1 - s.1).toNat, ⟨rfl, 0, n, rfl, rfl, by omega, by omega, by omega⟩, ?_⟩
  rintro ⟨_, _, _⟩ h1 ⟨rfl, i, j, rfl, rfl, hit, htj, hjn⟩
  dsimp only
  rw [slices_BinarySearch_Sint_int_b1_eq]
  refine condP (fun hlt => ?_) (fun hge => ?_)
  · obtain ⟨e1, e2⟩ := half_ok (i := i) (j := j) (by omega)
    refine ⟨⟨by omega, by omega⟩, (((i + j) / 2 : Nat) : Int), ⟨by omega, by rw [e1, e2]⟩, ⟨by omega, by omega⟩, ldI (i' := (i + j) / 2) r rfl (by omega) ?_⟩
    refine (Less_ok _ _ _).mono fun v h2 ⟨hh, hv⟩ => ?_
    subst hh
    refine ⟨_, hv, condP (fun h3 => ?_) (fun h3 => ?_)⟩
    · have : (i + j) / 2 < t := by
        rcases Nat.lt_or_ge ((i + j) / 2) t with h | h
        · exact h
        · have := hi _ h (by omega); omega
      exact ⟨⟨by omega, by omega⟩, ⟨rfl, (i + j) / 2 + 1, j, by simp only; omega, rfl, by omega, htj, hjn⟩, by simp only; omega⟩
    · have : t ≤ (i + j) / 2 := by
        rcases Nat.lt_or_ge ((i + j) / 2) t with h | h
        · have := lo _ h; omega
        · exact h
      exact ⟨⟨rfl, i, (i + j) / 2, rfl, rfl, hit, this, by omega⟩, by simp only; omega⟩
  · obtain rfl : i = t := by omega
    rw [slices_BinarySearch_Sint_int_b2_eq]
    refine condP (fun hl => ?_) (fun hl => ⟨rfl, _, rfl⟩)
    refine ldI (i' := i) r rfl (by omega) (condP (fun he => ⟨rfl, _, rfl⟩) (fun he => ldI (i' := i) r rfl (by omega) ?_))
    refine (isNaN_ok _ _).mono fun v h2 ⟨hh, hv⟩ => ?_
    subst hh
    exact ⟨_, hv, rfl, _, rfl⟩
/-- Behind all numbers up to a key. -/
theorem searchC_ok {h : Hp} {p : Option Addr} {n c t : Nat} {zs : List Int} {key : Int} (r : RdT TI h p n zs) (hn : n ≤ 100000) (ht : t ≤ n) (lo : ∀ j, j < t → zs.getD j 0 ≤ key) (hi : ∀ j, t ≤ j → j < n → key < zs.getD j 0) :
    HCalls Tryz.prog 88 #[.slice p n c, .int .i64 key, .func (.func 89) #[] #[]] h (fun v h' => h' = h ∧ ∃ b, v = .tuple #[.int .i64 (t : Int), .bool b]) := by
  have cl : ∀ y z (h : Hp), HCalls Tryz.prog 89 #[.int .i64 y, .int .i64 z] h (fun v h' => h' = h ∧ v = .int .i64 (if y ≤ z then -1 else 1)) := fun y z h => by
    refine rangetree_layer_ask_c1_call ?_
    rw [rangetree_layer_ask_c1_b0_eq]
    exact condP (fun h1 => ⟨rfl, by rw [if_pos h1]⟩) (fun h1 => ⟨rfl, by rw [if_neg h1]⟩)
  refine slices_BinarySearchFunc_Sint_int_int_call ?_
  rw [slices_BinarySearchFunc_Sint_int_int_b0_eq]
  refine ⟨fun s h' => h' = h ∧ ∃ i j : Nat, s.1 = i ∧ s.2.1 = j ∧ i ≤ t ∧ t ≤ j ∧ j ≤ n, fun s _ => (s.2.1 - s.1).toNat, ⟨rfl, 0, n, rfl, rfl, by omega, by omega, by omega⟩, ?_⟩
  rintro ⟨_, _, _⟩ h1 ⟨rfl, i, j, rfl, rfl, hit, htj, hjn⟩
  dsimp only
  rw [slices_BinarySearchFunc_Sint_int_int_b1_eq]
  refine condP (fun hlt => ?_) (fun hge => ?_)
  · obtain ⟨e1, e2⟩ := half_ok (i := i) (j := j) (by omega)
    refine ⟨⟨by omega, by omega⟩, (((i + j) / 2 : Nat) : Int), ⟨by omega, by rw [e1, e2]⟩, ⟨by omega, by omega⟩, ldI (i' := (i + j) / 2) r rfl (by omega) ?_⟩
    refine funX_of (by kernel_rfl) ((cl (zs.getD ((i + j) / 2) 0) key _).mono fun v h2 ⟨hh, hv⟩ => ?_)
    subst hh
    refine ⟨_, hv, condP (fun h3 => ?_) (fun h3 => ?_)⟩
    · have : (i + j) / 2 < t := by
        rcases Nat.lt_or_ge ((i + j) / 2) t with h | h
        · exact h
        · have := hi _ h (by omega)
          rw [if_neg (by omega)] at h3; omega
      exact ⟨⟨by omega, by omega⟩, ⟨rfl, (i + j) / 2 + 1, j, by simp only; omega, rfl, by omega, htj, hjn⟩, by simp only; omega⟩
    · have : t ≤ (i + j) / 2 := by
        rcases Nat.lt_or_ge ((i + j) / 2) t with h | h
        · have := lo _ h
          rw [if_pos (by omega)] at h3; omega
        · exact h
      exact ⟨⟨rfl, i, (i + j) / 2, rfl, rfl, hit, this, by omega⟩, by simp only; omega⟩
  · obtain rfl : i = t := by omega
    rw [slices_BinarySearchFunc_Sint_int_int_b2_eq]
    refine condP (fun hl => ?_) (fun hl => ⟨rfl, _, rfl⟩)
    refine ldI (i' := i) r rfl (by omega) (funX_of (by kernel_rfl) ((cl (zs.getD i 0) key _).mono fun v h2 ⟨hh, hv⟩ => ?_))
    subst hh
    exact ⟨_, hv, rfl, _, rfl⟩
/-- A search in points, by a closure. -/
theorem searchP_ok {h : Hp} {p : Option Addr} {n c t g : Nat} {l : List Pt} {key : Int} (cf : Pt → Bool) (hg : F g = true) (cl : ∀ x (h : Hp), HCalls Tryz.prog g #[encPt x, .int .i64 key] h (fun v h' => Ext h h' ∧ ∃ z : Int, v = .int .i64 z ∧ (z < 0 ↔ cf x = true)))
    (r : RdT tPt h p n l) (hn : n ≤ 100000) (ht : t ≤ n) (lo : ∀ j, j < t → cf (l.getD j tPt.d) = true) (hi : ∀ j, t ≤ j → j < n → cf (l.getD j tPt.d) = false) :
    HCalls Tryz.prog 68 #[.slice p n c, .int .i64 key, .func (.func g) #[] #[]] h (fun v h' => Ext h h' ∧ ∃ b, v = .tuple #[.int .i64 (t : Int), .bool b]) := by
  refine slices_BinarySearchFunc_Sapi_Point_api_Point_int_call ?_
  rw [slices_BinarySearchFunc_Sapi_Point_api_Point_int_b0_eq]
  refine ⟨fun s h' => Ext h h' ∧ ∃ i j : Nat, s.1 = i ∧ s.2.1 = j ∧ i ≤ t ∧ t ≤ j ∧ j ≤ n, fun s _ => (s.2.1 - s.1).toNat, ⟨.refl _, 0, n, rfl, rfl, by omega, by omega, by omega⟩, ?_⟩
  rintro ⟨_, _, _⟩ h1 ⟨x1, i, j, rfl, rfl, hit, htj, hjn⟩
  dsimp only
  have r1 := r.ext x1
  rw [slices_BinarySearchFunc_Sapi_Point_api_Point_int_b1_eq]
  refine condP (fun hlt => ?_) (fun hge => ?_)
  · obtain ⟨e1, e2⟩ := half_ok (i := i) (j := j) (by omega)
    refine ⟨⟨by omega, by omega⟩, (((i + j) / 2 : Nat) : Int), ⟨by omega, by rw [e1, e2]⟩, ⟨by omega, by omega⟩, ldPT (i' := (i + j) / 2) r1 rfl (by omega) ?_⟩
    refine funX_of hg ((cl (l.getD ((i + j) / 2) tPt.d) _).mono fun v h2 ⟨x2, z, hv, hz⟩ => ?_)
    refine ⟨_, hv, condP (fun h3 => ?_) (fun h3 => ?_)⟩
    · have : (i + j) / 2 < t := by
        rcases Nat.lt_or_ge ((i + j) / 2) t with h | h
        · exact h
        · have := hi _ h (by omega)
          rw [hz.1 h3] at this; cases this
      exact ⟨⟨by omega, by omega⟩, ⟨x1.trans x2, (i + j) / 2 + 1, j, by simp only; omega, rfl, by omega, htj, hjn⟩, by simp only; omega⟩
    · have : t ≤ (i + j) / 2 := by
        rcases Nat.lt_or_ge ((i + j) / 2) t with h | h
        · exact absurd (hz.2 (lo _ h)) h3
        · exact h
      exact ⟨⟨x1.trans x2, i, (i + j) / 2, rfl, rfl, hit, this, by omega⟩, by simp only; omega⟩
  · obtain rfl : i = t := by omega
    rw [slices_BinarySearchFunc_Sapi_Point_api_Point_int_b2_eq]
    refine condP (fun hl => ?_) (fun hl => ⟨x1, _, rfl⟩)
    refine ldPT (i' := i) r1 rfl (by omega) (funX_of hg ((cl (l.getD i tPt.d) _).mono fun v h2 ⟨x2, z, hv, hz⟩ => ⟨_, hv, x1.trans x2, _, rfl⟩))
theorem rect_c1 (x : Pt) (key : Int) (h : Hp) : HCalls Tryz.prog 69 #[encPt x, .int .i64 key] h (fun v h' => Ext h h' ∧ ∃ z : Int, v = .int .i64 z ∧ (z < 0 ↔ decide (x.1 < key) = true)) := by
  refine rangetree_part_rectangle_c1_call ?_
  rw [rangetree_part_rectangle_c1_b0_eq]
  refine (St.start h).new (cs := [_, _, _]) fun b1 h1 _ s => ⟨_, s.ld0, (Compare_w x.1 key _).mono fun v h3 ⟨hv, hh⟩ => ⟨_, hv, ?_⟩⟩
  subst hh
  exact ⟨s.ext, _, rfl, by rw [cmpI_neg, decide_eq_true_eq]⟩
theorem rect_c2 (x : Pt) (key : Int) (h : Hp) : HCalls Tryz.prog 71 #[encPt x, .int .i64 key] h (fun v h' => Ext h h' ∧ ∃ z : Int, v = .int .i64 z ∧ (z < 0 ↔ decide (x.1 ≤ key) = true)) := by
  refine rangetree_part_rectangle_c2_call ?_
  rw [rangetree_part_rectangle_c2_b0_eq]
  refine (St.start h).new (cs := [_, _, _]) fun b1 h1 _ s => ⟨_, s.ld0, condP (fun hc => ⟨s.ext, _, rfl, ?_⟩) (fun hc => ⟨s.ext, _, rfl, ?_⟩)⟩
  · rw [decide_eq_true hc]; simp
  · rw [decide_eq_false hc]; simp
end Go.Proofs.YtbfejfejahoblaaGreat

/- Layers: what is built of points. -/
set_option maxRecDepth 100000
namespace Go.Proofs.YtbfejfejahoblaaGreat
open Go Go.Sx
def yOf (p : Pt) : Int := p.2.1
def psum (l : List Pt) : List Int := (List.range (l.length + 1)).map fun i => wSum (l.take i)
theorem psum_len (l : List Pt) : (psum l).length = l.length + 1 := by simp [psum]
theorem psum_get {l : List Pt} {i : Nat} (h : i ≤ l.length) : (psum l).getD i 0 = wSum (l.take i) := by
  unfold psum
  simp [List.getD, show i < l.length + 1 by omega]
theorem psum_snoc (l : List Pt) (p : Pt) : psum (l ++ [p]) = psum l ++ [wSum l + p.2.2] := by
  unfold psum
  rw [List.length_append, List.length_singleton, List.range_succ (n := l.length + 1), List.map_append]
  congr 1
  · refine List.map_congr_left fun i hi => ?_
    rw [List.mem_range] at hi
    rw [List.take_append_of_le_length (by omega)]
  · simp only [List.map_cons, List.map_nil]
    rw [List.take_of_length_le (by simp), wSum_app, wSum_cons, wSum_nil]
    simp
theorem wSum_bound {l : List Pt} (h : ∀ x ∈ l, -1048576 ≤ x.2.2 ∧ x.2.2 ≤ 1048576) : -(1048576 * (l.length : Int)) ≤ wSum l ∧ wSum l ≤ 1048576 * (l.length : Int) := by
  induction l with
  | nil => simp [wSum]
  | cons p l ih =>
    have h1 := h p List.mem_cons_self
    have h2 := ih fun x hx => h x (List.mem_cons_of_mem _ hx)
    rw [wSum_cons, List.length_cons]
    push_cast
    omega
abbrev WOk (l : List Pt) : Prop := ∀ x ∈ l, -1048576 ≤ x.2.2 ∧ x.2.2 ≤ 1048576
inductive LayA : List Pt → Nat → Bag → Prop
  | one {l own : List Pt} {b : Nat} {yp sp : Option Addr} {yc sc : Nat} {A1 A2 : Bag} : l.length < 2 → own.Perm l → own.Pairwise (fun p q => p.2.1 ≤ q.2.1) → Sl TI yp l.length yc (own.map yOf) A1 → Sl TI sp (l.length + 1) sc (psum own) A2 →
      LayA l b (cA b [.slice yp l.length yc, .slice sp (l.length + 1) sc, .pointer none, .pointer none] 121 + (A1 + A2))
  | two {l own : List Pt} {b bl br : Nat} {yp sp : Option Addr} {yc sc : Nat} {A1 A2 L R : Bag} : 2 ≤ l.length → own.Perm l → own.Pairwise (fun p q => p.2.1 ≤ q.2.1) → Sl TI yp l.length yc (own.map yOf) A1 → Sl TI sp (l.length + 1) sc (psum own) A2 →
      LayA (l.take (l.length / 2)) bl L → LayA (l.drop (l.length / 2)) br R →
      LayA l b (cA b [.slice yp l.length yc, .slice sp (l.length + 1) sc, ptr bl, ptr br] 121 + (A1 + (A2 + (L + R))))
theorem take_succ_d {l : List Pt} {i : Nat} (h : i < l.length) : l.take (i + 1) = l.take i ++ [l.getD i tPt.d] := by
  rw [List.take_succ_eq_append_getElem h, getD_get h]
theorem build_ok : ∀ (n : Nat) {h : Hp} {p : Option Addr} {c : Nat} {l : List Pt}, n ≤ 5000 → n ≤ c → RdT tPt h p n l → WOk l →
    HCalls Tryz.prog 67 #[.slice p n c] h (fun v h' => ∃ b A, v = ptr b ∧ LayA l b A ∧ St h h' A) := by
  intro n
  induction n using Nat.strongRecOn with
  | _ n ih =>
  intro h p c l hn hc r hw
  have hll := r.len
  refine rangetree_build_call ?_
  rw [rangetree_build_b0_eq]
  refine (clonePt r (by omega)).mono fun v h1 ⟨q, d, A0, hv, o, st⟩ => ⟨_, _, _, hv, ?_⟩
  refine (sortPT (P := fun _ => True) (cmpY h) ordY (st.to (B := A0 + 0)) o (fun _ _ => trivial) (by omega)).mono fun v h2 ⟨hv, ys, A0, o, st, hp, hpw⟩ => ⟨hv, ?_⟩
  have hyl := o.len
  have hpw2 : ys.Pairwise fun p q => p.2.1 ≤ q.2.1 := hpw.imp fun {a b} h => by
    have := mt cmpI_neg.2 h
    omega
  have hwy : WOk ys := fun x hx => hw x (hp.mem_iff.1 hx)
  refine st.new (cs := [.int .i64 0]) fun b1 h3 _ st => ?_
  have o2 : Sl TI (some ⟨b1, 0, none⟩) 1 1 (psum ([] : List Pt)) (cA b1 [.int .i64 0] 3) := Sl.of_blk (T := TI) rfl rfl
  generalize cA b1 [.int .i64 0] 3 = A2 at *
  refine st.new (cs := [_, _, _, _]) fun b2 h4 _ st => ?_
  refine ⟨fun q' h' => ∃ (i : Nat) (yp sp : Option Addr) (yc sc : Nat) (A1 A2 : Bag), q'.1 = i ∧ i ≤ n ∧ Sl TI yp i yc ((ys.take i).map yOf) A1 ∧ Sl TI sp (i + 1) sc (psum (ys.take i)) A2 ∧ St h h' (cA b2 [.slice yp i yc, .slice sp (i + 1) sc, .pointer none, .pointer none] 121 + (A1 + (A2 + (A0 + 0)))), fun q' _ => (n - q'.1).toNat, ⟨0, none, _, 0, _, 0, A2, rfl, Nat.zero_le _, Sl.nil, o2, st.to⟩, ?_⟩
  clear st o2
  rintro ⟨_, _⟩ h5 ⟨i, yp, sp, yc, sc, A1, A2, rfl, hi, o1, o2, st⟩
  dsimp only
  have hpl := psum_len (ys.take i)
  rw [List.length_take] at hpl
  rw [rangetree_build_b1_eq]
  refine condP (fun hlt => ?_) (fun hge => ?_)
  · have hin : i < n := by omega
    refine ldPT (i' := i) (o.rd (st.to (B := A0 + (cA b2 [.slice yp i yc, .slice sp (i + 1) sc, .pointer none, .pointer none] 121 + (A1 + A2))))) rfl hin ?_
    have htk := take_succ_d (l := ys) (i := i) (by omega)
    have hwb := wSum_bound (l := ys.take i) fun x hx => hwy x (List.mem_of_mem_take hx)
    rw [List.length_take] at hwb
    have hwx := hwy _ (by rw [getD_get (d := tPt.d) (show i < ys.length by omega)]; exact List.getElem_mem _ : ys.getD i tPt.d ∈ ys)
    generalize ys.getD i tPt.d = x at *
    refine st.new (cs := [_, _, _]) fun b3 h6 _ st => st.wr3 fun h9 st => ?_
    refine ⟨_, _, _, st.ld0, _, st.ldB, ?_⟩
    refine st.new (cs := [_]) fun b4 h10 _ st => ⟨⟨_, _, _, st.ld0, rfl⟩, ?_⟩
    refine append_sl ok_int (st.at A1) o1 ((Sl.one (T := TI) (x := x.2.1) rfl).rd (st.find b4)) (by omega) fun p' c' h11 A1' o1' st => ?_
    refine st.wr0 fun h12 st => ?_
    refine ⟨_, _, _, st.ldB, _, _, _, st.ldB, _, _, _, st.ldB, ⟨by omega, by omega⟩, ?_⟩
    refine ldI (i' := i) (o2.rd (st.at A2)) (by omega) (by omega) ?_
    rw [psum_get (by rw [List.length_take]; omega), List.take_of_length_le (l := ys.take i) (by rw [List.length_take]; omega)]
    refine ⟨_, st.ldB, ⟨by omega, by omega⟩, ?_⟩
    refine st.new (cs := [_]) fun b5 h13 _ st => ⟨⟨_, _, _, st.ldB, rfl⟩, ?_⟩
    refine append_sl ok_int (st.at A2) o2 ((Sl.one (T := TI) (x := wSum (ys.take i) + x.2.2) rfl).rd (st.find b5)) (by omega) fun p2 c2 h14 A2' o2' st => ?_
    refine st.wrB fun h15 st => ?_
    rw [rangetree_build_b2_eq]
    refine ⟨⟨by omega, by omega⟩, ⟨i + 1, p', p2, c', c2, A1', A2', by push_cast; rfl, by omega, ?_, ?_, ?_⟩, by dsimp only; omega⟩
    · rw [htk, List.map_append]; exact o1'
    · rw [htk, psum_snoc]; exact o2'
    · refine St.drop (A := cA b3 [.int .i64 x.1, .int .i64 x.2.1, .int .i64 x.2.2] 43 + (cA b4 [.int .i64 x.2.1] 3 + cA b5 [.int .i64 (wSum (ys.take i) + x.2.2)] 3)) ?_
      exact st.to
  obtain rfl : i = n := by omega
  rw [List.take_of_length_le (by omega)] at o1 o2
  have st := (st.to (B := A0 + (cA b2 [.slice yp i yc, .slice sp (i + 1) sc, .pointer none, .pointer none] 121 + (A1 + (A2 + 0))))).drop
  rw [rangetree_build_b3_eq]
  refine quo_intro (by omega) (by omega) (by omega) ?_
  have eq : (i : Int) / 2 = ((i / 2 : Nat) : Int) := by omega
  rw [eq]
  subst hll
  refine condP (fun hpos => ?_) (fun hneg => ?_)
  · have r5 := r.ext st.ext
    have e1 : Int.toNat (((l.length / 2 : Nat) : Int)) = l.length / 2 := Int.toNat_natCast _
    have e2 : Int.toNat ((l.length : Nat) : Int) = l.length := Int.toNat_natCast _
    rw [e1, e2]
    refine ⟨⟨by omega, by omega, by omega⟩, ⟨by omega, by omega, by omega⟩, ?_⟩
    have rl : RdT tPt h5 (subAddr p c (Int.toNat (0 : Int)) 3) (l.length / 2 - Int.toNat (0 : Int)) (l.take (l.length / 2)) := by
      have r2 := (r5.sub (c := c) (i := 0) (m := l.length - 0) (by omega) hc rfl).take (i := l.length / 2) (by omega)
      rw [List.drop_zero] at r2
      exact r2
    refine (ih (l.length / 2 - Int.toNat (0 : Int)) (by show l.length / 2 - 0 < _; omega) (by show l.length / 2 - 0 ≤ _; omega) (by show l.length / 2 - 0 ≤ c - 0; omega) rl fun x hx => hw x (List.mem_of_mem_take hx)).mono fun v h16 ⟨bl, L, hv, lay1, st1⟩ => ⟨_, hv, ⟨⟨by omega, by omega, by omega⟩, rfl⟩, ?_⟩
    have st := st.join st1
    have rr : RdT tPt h16 (subAddr p c (l.length / 2) 3) (l.length - l.length / 2) (l.drop (l.length / 2)) := (r5.ext st1.ext).sub (c := c) (by omega) hc rfl
    refine (ih (l.length - l.length / 2) (by omega) (by omega) (by omega) rr fun x hx => hw x (List.mem_of_mem_drop hx)).mono fun v h17 ⟨br, R, hv, lay2, st2⟩ => ⟨_, hv, ?_⟩
    have st := st.join st2
    refine st.wrB fun h18 st => st.wrB fun h19 st => ?_
    rw [rangetree_build_b4_eq]
    exact ⟨_, _, rfl, LayA.two (by omega) hp hpw2 o1 o2 lay1 lay2, st.to⟩
  · rw [rangetree_build_b4_eq]
    exact ⟨_, _, rfl, LayA.one (by omega) hp hpw2 o1 o2, st.to⟩
end Go.Proofs.YtbfejfejahoblaaGreat

/- Asking layers and parts. -/
set_option maxRecDepth 100000
namespace Go.Proofs.YtbfejfejahoblaaGreat
open Go Go.Sx
theorem cut_ex {α : Type} (p : α → Bool) (l : List α) (hp : l.Pairwise (fun a b => p b = true → p a = true)) : ∃ t, t ≤ l.length ∧ ∀ i, (h : i < l.length) → (p l[i] = true ↔ i < t) := by
  induction l with
  | nil => exact ⟨0, Nat.le_refl _, fun i h => absurd h (Nat.not_lt_zero _)⟩
  | cons x l ih =>
    rw [List.pairwise_cons] at hp
    obtain ⟨t, ht, h⟩ := ih hp.2
    by_cases hx : p x = true
    · refine ⟨t + 1, by rw [List.length_cons]; omega, fun i hi => ?_⟩
      cases i with
      | zero => exact ⟨fun _ => Nat.succ_pos _, fun _ => hx⟩
      | succ i =>
        have h2 := h i (Nat.lt_of_succ_lt_succ hi)
        exact ⟨fun a => Nat.succ_lt_succ (h2.1 a), fun a => h2.2 (Nat.lt_of_succ_lt_succ a)⟩
    · refine ⟨0, Nat.zero_le _, fun i hi => ⟨fun hc => ?_, fun hc => absurd hc (Nat.not_lt_zero _)⟩⟩
      cases i with
      | zero => exact absurd hc hx
      | succ i => exact absurd (hp.1 _ (List.getElem_mem (Nat.lt_of_succ_lt_succ hi)) hc) hx
theorem layA_len {l : List Pt} {b : Nat} {A : Bag} (a : LayA l b A) : ∃ (own : List Pt) (yp sp : Option Addr) (yc sc : Nat) (A1 A2 G : Bag) (v1 v2 : Value), own.Perm l ∧ own.Pairwise (fun p q => p.2.1 ≤ q.2.1) ∧ Sl TI yp l.length yc (own.map yOf) A1 ∧ Sl TI sp (l.length + 1) sc (psum own) A2 ∧
    A = cA b [.slice yp l.length yc, .slice sp (l.length + 1) sc, v1, v2] 121 + (A1 + (A2 + G)) := by
  cases a with
  | one h1 h2 h3 h4 h5 => exact ⟨_, _, _, _, _, _, _, 0, _, _, h2, h3, h4, h5, by rw [Bag.add_zero]⟩
  | two h1 h2 h3 h4 h5 _ _ => exact ⟨_, _, _, _, _, _, _, _, _, _, h2, h3, h4, h5, rfl⟩
theorem cntY_bound (y1 y2 : Int) (l : List Pt) : 0 ≤ cntY y1 y2 l ∧ cntY y1 y2 l ≤ l.length := by
  unfold cntY
  have := List.length_filter_le (yIn y1 y2) l
  omega
theorem sumY_bound {y1 y2 : Int} {l : List Pt} (hw : WOk l) : -(1048576 * (l.length : Int)) ≤ sumY y1 y2 l ∧ sumY y1 y2 l ≤ 1048576 * (l.length : Int) := by
  unfold sumY
  have h1 := wSum_bound (l := l.filter (yIn y1 y2)) fun x hx => hw x (List.mem_filter.1 hx).1
  have := List.length_filter_le (yIn y1 y2) l
  omega
theorem rngI_sub {l : List Pt} {a b : Int} {x : Pt} (h : x ∈ rngI l a b) : x ∈ l := rng_mem h
theorem rngI_len (l : List Pt) (a b : Int) : (rngI l a b).length ≤ l.length := by
  unfold rngI rng
  rw [List.length_drop, List.length_take]; omega
/-- All points of a layer. -/
theorem askAll_ok {h0 h : Hp} {l : List Pt} {b : Nat} {A F : Bag} {to fr y1 y2 : Int} (a : LayA l b A) (s : St h0 h (A + F)) (hl : l.length ≤ 5000) (hw : WOk l) (h1 : fr ≤ 0) (h2 : (l.length : Int) ≤ to) (h3 : fr < to) :
    HCalls Tryz.prog 72 #[ptr b, .int .i64 (l.length : Int), .int .i64 fr, .int .i64 to, .int .i64 y1, .int .i64 y2] h (fun v h' => Ext h h' ∧ v = .tuple #[.int .i64 (cntY y1 y2 (rngI l fr to)), .int .i64 (sumY y1 y2 (rngI l fr to))]) := by
  rw [ask_full h1 h2]
  obtain ⟨own, yp, sp, yc, sc, A1, A2, G, v1, v2, hp, hpw, o1, o2, rfl⟩ := layA_len a
  have hol := hp.length_eq
  refine rangetree_layer_ask_call ?_
  rw [rangetree_layer_ask_b0_eq]
  refine condNo (decide_eq_false (by omega)) (condYes (decide_eq_true h1) (condYes (decide_eq_true h2) ?_))
  obtain ⟨ca, hca, ha⟩ := cut_ex (fun p : Pt => decide (p.2.1 < y1)) own (hpw.imp fun {p q} h hq => by rw [decide_eq_true_eq] at *; omega)
  obtain ⟨cb, hcb, hb⟩ := cut_ex (fun p : Pt => decide (p.2.1 ≤ y2)) own (hpw.imp fun {p q} h hq => by rw [decide_eq_true_eq] at *; omega)
  have hA := layer_ask (y1 := y1) (y2 := y2) (own := own) (a := ca) (b := cb) hcb hca (fun i hi => by have := ha i hi; rwa [decide_eq_true_eq] at this) (fun i hi => by have := hb i hi; rwa [decide_eq_true_eq] at this)
  rw [cntY_perm hp, sumY_perm hp] at hA
  have yg : ∀ i, (hi : i < own.length) → (own.map yOf).getD i 0 = own[i].2.1 := fun i hi => by
    rw [getD_get (by simpa using hi), List.getElem_map]; rfl
  have s := s.to (B := cA b [.slice yp l.length yc, .slice sp (l.length + 1) sc, v1, v2] 121 + (A1 + (A2 + (G + F))))
  have ry := o1.rd (s.at A1)
  have rs := o2.rd (s.at A2)
  refine ⟨_, _, _, s.ld0, ?_⟩
  refine (searchI_ok (t := ca) ry (by omega) (by omega) (fun j hj => ?_) (fun j hj hj2 => ?_)).mono fun v h5 ⟨hh, bb, hv⟩ => ⟨_, _, hv, ?_⟩
  · rw [yg j (by omega)]
    have := (ha j (by omega)).2 hj
    rwa [decide_eq_true_eq] at this
  · rw [yg j (by omega)]
    have := mt (ha j (by omega)).1 (by omega)
    rw [decide_eq_true_eq] at this; omega
  subst hh
  refine ⟨_, _, _, s.ld0, ?_⟩
  refine (searchC_ok (t := cb) ry (by omega) (by omega) (fun j hj => ?_) (fun j hj hj2 => ?_)).mono fun v h5 ⟨hh, bb, hv⟩ => ⟨_, _, hv, ?_⟩
  · rw [yg j (by omega)]
    have := (hb j (by omega)).2 hj
    rwa [decide_eq_true_eq] at this
  · rw [yg j (by omega)]
    have := mt (hb j (by omega)).1 (by omega)
    rw [decide_eq_true_eq] at this; omega
  subst hh
  refine condP (fun hc => ⟨.refl _, ?_⟩) (fun hc => ⟨⟨by omega, by omega⟩, ?_⟩)
  · rw [hA.1, hA.2, if_pos (by omega), if_pos (by omega)]
  · have b1 := wSum_bound (l := own.take cb) fun x hx => hw x (hp.mem_iff.1 (List.mem_of_mem_take hx))
    have b2 := wSum_bound (l := own.take ca) fun x hx => hw x (hp.mem_iff.1 (List.mem_of_mem_take hx))
    rw [List.length_take] at b1 b2
    refine ⟨_, _, _, s.ldB, ldI (i' := cb) rs rfl (by omega) ⟨_, _, _, s.ldB, ldI (i' := ca) rs rfl (by omega) ?_⟩⟩
    rw [psum_get hcb, psum_get hca]
    refine ⟨⟨by omega, by omega⟩, .refl _, ?_⟩
    rw [hA.1, hA.2, if_neg (by omega), if_neg (by omega), show ((cb - ca : Nat) : Int) = (cb : Int) - ca by omega]
theorem ask_ok {l : List Pt} {b : Nat} {A : Bag} (a : LayA l b A) : ∀ {h0 h : Hp} {F : Bag} {fr to y1 y2 : Int}, St h0 h (A + F) → l.length ≤ 5000 → WOk l → 0 ≤ fr → fr ≤ 10000 → -10000 ≤ to → to ≤ l.length →
    HCalls Tryz.prog 72 #[ptr b, .int .i64 (l.length : Int), .int .i64 fr, .int .i64 to, .int .i64 y1, .int .i64 y2] h (fun v h' => Ext h h' ∧ v = .tuple #[.int .i64 (cntY y1 y2 (rngI l fr to)), .int .i64 (sumY y1 y2 (rngI l fr to))]) := by
  induction a with
  | @one l own b yp sp yc sc A1 A2 h1 h2 h3 h4 h5 =>
    intro h0 h F fr to y1 y2 s hl hw hf1 hf2 ht1 ht2
    by_cases hc : to ≤ fr
    · rw [ask_none hc]
      refine rangetree_layer_ask_call ?_
      rw [rangetree_layer_ask_b0_eq]
      exact condYes (decide_eq_true hc) ⟨.refl _, rfl⟩
    · exact askAll_ok (LayA.one h1 h2 h3 h4 h5) s hl hw (by omega) (by omega) (by omega)
  | @two l own b bl br yp sp yc sc A1 A2 L R h1 h2 h3 h4 h5 l1 l2 ih1 ih2 =>
    intro h0 h F fr to y1 y2 s hl hw hf1 hf2 ht1 ht2
    by_cases hc : to ≤ fr
    · rw [ask_none hc]
      refine rangetree_layer_ask_call ?_
      rw [rangetree_layer_ask_b0_eq]
      exact condYes (decide_eq_true hc) ⟨.refl _, rfl⟩
    by_cases hd : fr ≤ 0 ∧ (l.length : Int) ≤ to
    · exact askAll_ok (LayA.two h1 h2 h3 h4 h5 l1 l2) s hl hw hd.1 hd.2 (by omega)
    refine rangetree_layer_ask_call ?_
    rw [rangetree_layer_ask_b0_eq]
    suffices main : rangetree_layer_ask_b1 (some ⟨b, 0, none⟩) (l.length : Int) fr to y1 y2 h (fun v h' => Ext h h' ∧ v = .tuple #[.int .i64 (cntY y1 y2 (rngI l fr to)), .int .i64 (sumY y1 y2 (rngI l fr to))]) from
      condNo (decide_eq_false hc) (condP (fun g1 => condNo (decide_eq_false fun g2 => hd ⟨g1, g2⟩) main) (fun _ => main))
    rw [rangetree_layer_ask_b1_eq]
    refine quo_intro (by omega) (by omega) (by omega) ?_
    obtain ⟨m, hm⟩ : ∃ m, m = l.length / 2 := ⟨_, rfl⟩
    rw [← hm] at l1 l2 ih1 ih2
    have eq : (l.length : Int) / 2 = (m : Int) := by omega
    rw [eq]
    have hsplit := ask_split (l := l) (m := m) (by omega) fr to
    have lt : (l.take m).length = m := by rw [List.length_take]; omega
    have ld : (l.drop m).length = l.length - m := by rw [List.length_drop]
    have e1 : (if (m : Int) < to then (m : Int) else to) = (if to < m then to else (m : Int)) := by split <;> split <;> omega
    rw [e1]
    have w1 : WOk (l.take m) := fun x hx => hw x (List.mem_of_mem_take hx)
    have w2 : WOk (l.drop m) := fun x hx => hw x (List.mem_of_mem_drop hx)
    have c1 := ih1 (fr := fr) (to := if to < m then to else (m : Int)) (y1 := y1) (y2 := y2) (F := cA b [.slice yp l.length yc, .slice sp (l.length + 1) sc, ptr bl, ptr br] 121 + (A1 + (A2 + (R + F)))) s.to (by omega) w1 hf1 hf2 (by split <;> omega) (by rw [lt]; split <;> omega)
    rw [lt] at c1
    have bl1 := cntY_bound y1 y2 (rngI (l.take m) fr (if to < m then to else (m : Int)))
    have bl2 := sumY_bound (y1 := y1) (y2 := y2) (l := rngI (l.take m) fr (if to < m then to else (m : Int))) fun x hx => w1 x (rngI_sub hx)
    have bl3 := rngI_len (l.take m) fr (if to < m then to else (m : Int))
    have br1 := cntY_bound y1 y2 (rngI (l.drop m) (if (0 : Int) < fr - m then fr - m else 0) (to - m))
    have br2 := sumY_bound (y1 := y1) (y2 := y2) (l := rngI (l.drop m) (if (0 : Int) < fr - m then fr - m else 0) (to - m)) fun x hx => w2 x (rngI_sub hx)
    have br3 := rngI_len (l.drop m) (if (0 : Int) < fr - m then fr - m else 0) (to - m)
    refine ⟨_, (s.find b).ldB, c1.mono fun v h3 ⟨x3, hv⟩ => ⟨_, _, hv, _, ((s.grow x3).find b).ldB, ⟨by omega, by omega⟩, ⟨by omega, by omega⟩, ⟨by omega, by omega⟩, ?_⟩⟩
    have c2 := ih2 (fr := if (0 : Int) < fr - m then fr - m else 0) (to := to - m) (y1 := y1) (y2 := y2) (F := cA b [.slice yp l.length yc, .slice sp (l.length + 1) sc, ptr bl, ptr br] 121 + (A1 + (A2 + (L + F)))) (s.grow x3).to (by omega) w2 (by split <;> omega) (by split <;> omega) (by omega) (by omega)
    rw [ld, show ((l.length - m : Nat) : Int) = (l.length : Int) - m by omega] at c2
    refine c2.mono fun v h4 ⟨x4, hv⟩ => ⟨_, _, hv, ⟨by omega, by omega⟩, ⟨by omega, by omega⟩, x3.trans x4, ?_⟩
    rw [hsplit, cntY_app, sumY_app]
/-- A static part. -/
def PartA (own : List Pt) (b : Nat) (A : Bag) : Prop := ∃ (p : Option Addr) (c rb : Nat) (A0 L : Bag), Sl tPt p own.length c own A0 ∧ LayA own rb L ∧ A = cA b [.slice p own.length c, ptr rb] 70 + (A0 + L) ∧ own.Pairwise (fun p q => p.1 ≤ q.1)
theorem newPart_ok {h : Hp} {p : Option Addr} {n c : Nat} {l : List Pt} (r : RdT tPt h p n l) (hn : n ≤ 5000) (hw : WOk l) :
    HCalls Tryz.prog 47 #[.slice p n c] h (fun v h' => ∃ b A own, v = ptr b ∧ PartA own b A ∧ own.Perm l ∧ St h h' A) := by
  refine rangetree_newPart_call ?_
  rw [rangetree_newPart_b0_eq]
  refine (clonePt r (by omega)).mono fun v h1 ⟨q, d, A0, hv, o, st⟩ => ⟨_, _, _, hv, ?_⟩
  refine (sortStablePT (P := fun _ => True) (cmpOrder h) ordO (st.to (B := A0 + 0)) o (fun _ _ => trivial) (by omega)).mono fun v h2 ⟨hv, ys, A0, o, st, hpw, hst⟩ => ⟨hv, ?_⟩
  have hp := hst.1
  have hyl := o.len
  refine (build_ok n (by omega) o.cap (o.rd st) fun x hx => hw x (hp.mem_iff.1 hx)).mono fun v h3 ⟨rb, L, hv, lay, st2⟩ => ⟨_, hv, ?_⟩
  have st := st.join st2
  refine st.new (cs := [_, _]) fun b h4 _ st => ?_
  subst hyl
  exact ⟨b, _, ys, rfl, ⟨_, _, _, _, _, o, lay, rfl, hpw.imp fun {a b} h => by have := mt cfO_neg.2 h; unfold ptLt at this; omega⟩, hp, st.to⟩
theorem rectangle_ok {h0 h : Hp} {own : List Pt} {b : Nat} {A F : Bag} (a : PartA own b A) (s : St h0 h (A + F)) (hl : own.length ≤ 5000) (hw : WOk own) (x1 x2 y1 y2 : Int) :
    HCalls Tryz.prog 48 #[ptr b, .int .i64 x1, .int .i64 x2, .int .i64 y1, .int .i64 y2] h (fun v h' => Ext h h' ∧ v = .tuple #[.int .i64 (cntB x1 x2 y1 y2 own), .int .i64 (sumB x1 x2 y1 y2 own)]) := by
  obtain ⟨p, c, rb, A0, L, o, lay, rfl, hpw⟩ := a
  refine rangetree_part_rectangle_call ?_
  rw [rangetree_part_rectangle_b0_eq]
  have s := s.to (B := cA b [.slice p own.length c, ptr rb] 70 + (A0 + (L + F)))
  obtain ⟨ca, hca, ha⟩ := cut_ex (fun p : Pt => decide (p.1 < x1)) own (hpw.imp fun {p q} h hq => by rw [decide_eq_true_eq] at *; omega)
  obtain ⟨cb, hcb, hb⟩ := cut_ex (fun p : Pt => decide (p.1 ≤ x2)) own (hpw.imp fun {p q} h hq => by rw [decide_eq_true_eq] at *; omega)
  have hA := part_ask (y1 := y1) (y2 := y2) (l := own) (x1 := x1) (x2 := x2) (a := ca) (b := cb) hcb (fun i hi => by have := ha i hi; rwa [decide_eq_true_eq] at this) (fun i hi => by have := hb i hi; rwa [decide_eq_true_eq] at this)
  refine ⟨_, _, _, s.ld0, ?_⟩
  refine (searchP_ok (t := ca) (fun p : Pt => decide (p.1 < x1)) (by kernel_rfl) (fun x h => rect_c1 x x1 h) (o.rd (s.at A0)) (by omega) hca (fun j hj => ?_) (fun j hj hj2 => ?_)).mono fun v h1 ⟨e1, bb, hv⟩ => ⟨_, _, hv, ?_⟩
  · rw [getD_get (show j < own.length by omega)]; exact (ha j (by omega)).2 hj
  · rw [getD_get hj2]; exact Bool.eq_false_iff.2 (mt (ha j hj2).1 (by omega))
  have s := s.grow e1
  refine ⟨_, _, _, s.ld0, ?_⟩
  refine (searchP_ok (t := cb) (fun p : Pt => decide (p.1 ≤ x2)) (by kernel_rfl) (fun x h => rect_c2 x x2 h) (o.rd (s.at A0)) (by omega) hcb (fun j hj => ?_) (fun j hj hj2 => ?_)).mono fun v h2 ⟨e2, bb, hv⟩ => ⟨_, _, hv, ?_⟩
  · rw [getD_get (show j < own.length by omega)]; exact (hb j (by omega)).2 hj
  · rw [getD_get hj2]; exact Bool.eq_false_iff.2 (mt (hb j hj2).1 (by omega))
  have s := s.grow e2
  refine ⟨_, s.ldB, _, _, _, s.ld0, ?_⟩
  refine (ask_ok lay (s.at L) hl hw (by omega) (by omega) (by omega) (by omega)).mono fun v h3 ⟨e3, hv⟩ => ⟨_, _, hv, (e1.trans e2).trans e3, ?_⟩
  rw [hA.1, hA.2]
  rfl
end Go.Proofs.YtbfejfejahoblaaGreat

/- The tree in memory: List, put, renew. -/
set_option maxRecDepth 100000
namespace Go.Proofs.YtbfejfejahoblaaGreat
open Go Go.Sx
abbrev tPart : Ty Nat := tP 71
theorem ok_part : ElOk tPart Tryz.prog 56 := elB_spec (by kernel_rfl)
abbrev PS := List ((Int × Int) × Int)
def ptOf (e : (Int × Int) × Int) : Pt := (e.1.1, e.1.2, e.2)
def ptsOf (ps : PS) : List Pt := ps.map ptOf
def kvOf (p : Pt) : (Int × Int) × Int := ((p.1, p.2.1), p.2.2)
theorem ptsOf_len (ps : PS) : (ptsOf ps).length = ps.length := by simp [ptsOf]
theorem ptsOf_kv (l : List Pt) : ptsOf (l.map kvOf) = l := by
  unfold ptsOf
  rw [List.map_map]
  exact List.map_id' l
theorem ptsOf_place (ps : PS) : (ptsOf ps).map place = ps.map Prod.fst := by
  unfold ptsOf
  rw [List.map_map]
  rfl
def storedOf (parts : List (List Pt)) : Nat := (parts.map List.length).sum
theorem storedOf_app (P Q : List (List Pt)) : storedOf (P ++ Q) = storedOf P + storedOf Q := by simp [storedOf]
theorem storedOf_flat (P : List (List Pt)) : P.flatten.length = storedOf P := by simp [storedOf, List.length_flatten]
def TreeA (tb : Nat) (ps : PS) (parts : List (List Pt)) (rem : List Pt) (built : Int) (A : Bag) : Prop :=
  ∃ (m : Nat) (pp rp : Option Addr) (pc rc : Nat) (bs : List Nat) (Am Ap L Ar : Bag), MapA MPl m ps Am ∧ Sl tPart pp parts.length pc bs Ap ∧ AllH (fun b own A => PartA own b A) bs parts L ∧ Sl tPt rp rem.length rc rem Ar ∧
    A = cA tb [.map (some m), .slice pp parts.length pc, .slice rp rem.length rc, .int .i64 (storedOf parts : Nat), .int .i64 built] 58 + (Am + (Ap + (L + Ar)))
theorem TreeA.kd {tb : Nat} {ps : PS} {parts : List (List Pt)} {rem : List Pt} {built : Int} {A : Bag} (a : TreeA tb ps parts rem built A) : KD ps := by
  obtain ⟨m, pp, rp, pc, rc, bs, Am, Ap, L, Ar, hm, _⟩ := a
  exact hm.kd
/-- Sorted points of a map are in strict order. -/
theorem ptsS_of {ps : PS} {l : List Pt} (hd : KD ps) (hp : l.Perm (ptsOf ps)) (hw : l.Pairwise fun p q => ¬ cfO q p < 0) : PtsS l := by
  have hn : (l.map place).Nodup := by
    have := (hp.map place).nodup_iff.2 (by rw [ptsOf_place]; exact hd)
    exact this
  rw [List.nodup_iff_pairwise_ne, List.pairwise_map] at hn
  unfold PtsS
  refine (hw.and hn).imp fun {p q} ⟨h1, h2⟩ => ?_
  have h1 := mt cfO_neg.2 h1
  unfold ptLt at *
  unfold place at h2
  simp only [ne_eq, Prod.mk.injEq] at h2
  omega
section
variable {h0 h : Hp} {tb : Nat} {ps : PS} {parts : List (List Pt)} {rem : List Pt} {built : Int} {A F : Bag}
theorem List_ok (a : TreeA tb ps parts rem built A) (s : St h0 h (A + F)) (hn : ps.length ≤ 5000) :
    HCalls Tryz.prog 27 #[ptr tb] h (fun v h' => ∃ q d A' l, v = .slice q ps.length d ∧ Sl tPt q ps.length d l A' ∧ St h0 h' (A' + (A + F)) ∧ l.Perm (ptsOf ps) ∧ PtsS l) := by
  obtain ⟨m, pp, rp, pc, rc, bs, Am, Ap, L, Ar, hm, o1, hL, o2, rfl⟩ := a
  have hd := hm.kd
  generalize hT : cA tb [.map (some m), .slice pp parts.length pc, .slice rp rem.length rc, .int .i64 (storedOf parts : Nat), .int .i64 built] 58 = T at *
  have s := s.to (B := Am + (T + (Ap + (L + (Ar + F)))))
  refine rangetree_Tree_List_call ?_
  rw [rangetree_Tree_List_b0_eq]
  have ct : cell h ⟨tb, 0, none⟩ = some (.map (some m)) := by
    have s2 := s.at T
    rw [← hT] at s2
    exact s2.ld0
  refine condNo rfl ⟨_, ct, ?_⟩
  refine s.rangeM mapOk_pl hm fun it h1 I x1 itI s => ?_
  refine ⟨fun q h' => ∃ (done left : PS) (out : List Pt) (B I : Bag), q.1.2.1 = done.length ∧ Sl tPt q.1.1 q.1.2.1 q.1.2.2 out B ∧ out = ptsOf done ∧ IterA MPl it m ps Am done left I ∧ St h0 h' (Am + (I + (B + (T + (Ap + (L + (Ar + F))))))), fun q _ => ps.length - q.1.2.1, ⟨[], ps, [], 0, I, rfl, Sl.nil, rfl, itI, s.to⟩, ?_⟩
  clear s itI
  rintro ⟨⟨q, n, d⟩, _⟩ h2 ⟨done, left, out, B, I, rfl, o, rfl, itI, s⟩
  dsimp only at *
  have hlen : done.length + left.length = ps.length := by
    obtain ⟨l, c, sn, _, _, _, _, _, _, hp, _⟩ := itI
    have := hp.length_eq
    rw [List.length_append] at this
    omega
  rw [rangetree_Tree_List_b1_eq]
  refine s.nextM itI (fun hl => ?_) (fun e pre post h3 I' hl itI s => ?_)
  · rw [rangetree_Tree_List_b2_eq]
    subst hl
    have hp : done.Perm ps := by
      obtain ⟨l, c, sn, _, _, _, _, _, _, hp, _⟩ := itI
      rwa [List.append_nil] at hp
    refine (sortPT (P := fun _ => True) (cmpOrder h0) ordO (s.to (B := B + (I + (Am + (T + (Ap + (L + (Ar + F)))))))) o (fun _ _ => trivial) (by rw [List.length_nil] at hlen; omega)).mono fun v h4 ⟨hv, ys, B', o', s', hq, hw⟩ => ⟨hv, ?_⟩
    have hdl := hp.length_eq
    have hys := hq.trans (hp.map ptOf)
    rw [hdl] at o' ⊢
    exact ⟨q, d, B', ys, rfl, o', (s'.to (B := I + (B' + (T + (Am + (Ap + (L + Ar))) + F)))).drop, hys, ptsS_of hd hys hw⟩
  · have hdl : done.length < ps.length := by rw [← hlen, hl, List.length_append, List.length_cons]; omega
    refine itI.entry s ⟨_, _, _, rfl, ?_⟩
    refine s.new (cs := [_, _]) fun b1 h4 _ s => s.wr2c fun h5 s => ⟨_, s.ld0, _, s.ldB, ?_⟩
    refine push_sl (s := (s.at B)) ok_pts (cs := [_, _, _]) o (x := ptOf e) rfl rfl (by omega) fun p' c' h6 B' o' s => ?_
    refine ⟨⟨done ++ [e], pre ++ post, _, B', I', by simp, o', by simp [ptsOf], itI, ?_⟩, by dsimp only; omega⟩
    exact (s.to (B := cA b1 [.int .i64 e.1.1, .int .i64 e.1.2] 60 + (Am + (I' + (B' + (T + (Ap + (L + (Ar + F))))))))).drop
theorem put_ok (a : TreeA tb ps parts rem built A) (s : St h0 h (A + F)) {p : Option Addr} {n c : Nat} {l : List Pt} (r : RdT tPt h p n l) (hn : n ≤ 5000) (hw : WOk l) (hs : storedOf parts ≤ 10000) (hpl : parts.length ≤ 10000) (hb : 0 ≤ built ∧ built ≤ 1000000000) :
    HCalls Tryz.prog 25 #[ptr tb, .slice p n c] h (fun v h' => v = .tuple #[] ∧ ∃ own A', own.Perm l ∧ TreeA tb ps (parts ++ [own]) rem (built + n) A' ∧ St h0 h' (A' + F)) := by
  obtain ⟨m, pp, rp, pc, rc, bs, Am, Ap, L, Ar, hm, o1, hL, o2, rfl⟩ := a
  have hll := r.len
  refine rangetree_Tree_put_call ?_
  rw [rangetree_Tree_put_b0_eq]
  have s := s.to (B := cA tb [.map (some m), .slice pp parts.length pc, .slice rp rem.length rc, .int .i64 (storedOf parts : Nat), .int .i64 built] 58 + (Am + (Ap + (L + (Ar + F)))))
  refine ⟨_, _, _, s.ldB, ?_⟩
  refine (newPart_ok r hn hw).mono fun v h1 ⟨b, B, own, hv, pa, hp, st⟩ => ⟨_, hv, ?_⟩
  have s := s.join st
  refine ⟨⟨_, _, _, s.ldB, rfl⟩, ?_⟩
  refine s.new (cs := [_]) fun b1 h2 _ s => ⟨⟨_, _, _, s.ldB, rfl⟩, ?_⟩
  refine append_sl ok_part (s.at Ap) o1 ((Sl.one (T := tPart) (x := b) rfl).rd (s.find b1)) (by omega) fun p' c' h3 Ap' o1' s => ?_
  refine s.wrB fun h4 s => ⟨_, s.ldB, ⟨by omega, by omega⟩, s.wrB fun h5 s => ⟨_, s.ldB, ⟨by omega, by omega⟩, s.wrB fun h6 s => ⟨rfl, own, _, hp, ⟨m, p', rp, c', rc, bs ++ [b], Am, Ap', L + B, Ar, hm, ?_, hL.append (AllH.one pa), o2, rfl⟩, ?_⟩⟩⟩
  · rw [List.length_append]; exact o1'
  · have hpe := hp.length_eq
    have e1 : (.int .i64 ((storedOf parts : Nat) + (n : Int)) : Value) = .int .i64 ((storedOf (parts ++ [own]) : Nat) : Int) := by
      rw [storedOf_app]
      simp [storedOf]
      omega
    rw [List.length_append, List.length_singleton, ← e1]
    exact (s.to (B := cA b1 [.pointer (some ⟨b, 0, none⟩)] 71 + (cA tb [.map (some m), .slice p' (parts.length + 1) c', .slice rp rem.length rc, .int .i64 ((storedOf parts : Nat) + (n : Int)), .int .i64 (built + n)] 58 + (Am + (Ap' + (L + B + Ar))) + F))).drop
/-- All is built anew. -/
theorem renew_ok (a : TreeA tb ps parts rem built A) (s : St h0 h (A + F)) (hn : ps.length ≤ 5000) (hw : WOk (ptsOf ps)) (hb : 0 ≤ built ∧ built ≤ 1000000000) :
    HCalls Tryz.prog 19 #[ptr tb] h (fun v h' => v = .tuple #[] ∧ ∃ own A', own.Perm (ptsOf ps) ∧ TreeA tb ps (if ps.length = 0 then [] else [own]) [] (built + ps.length) A' ∧ St h0 h' (A' + F)) := by
  obtain ⟨m, pp, rp, pc, rc, bs, Am, Ap, L, Ar, hm, o1, hL, o2, rfl⟩ := a
  refine rangetree_Tree_renew_call ?_
  rw [rangetree_Tree_renew_b0_eq]
  have s := s.to (B := cA tb [.map (some m), .slice pp parts.length pc, .slice rp rem.length rc, .int .i64 (storedOf parts : Nat), .int .i64 built] 58 + (Ap + (L + (Ar + (Am + F)))))
  refine s.wrB fun h1 s => s.wrB fun h2 s => s.wrB fun h3 s => ?_
  have a' : TreeA tb ps [] [] built (cA tb [.map (some m), .slice none 0 0, .slice none 0 0, .int .i64 0, .int .i64 built] 58 + (Am + (0 + (0 + 0)))) := ⟨m, none, none, 0, 0, [], Am, 0, 0, 0, hm, Sl.nil, rfl, Sl.nil, rfl⟩
  have s := (s.to (B := (Ap + (L + Ar)) + (cA tb [.map (some m), .slice none 0 0, .slice none 0 0, .int .i64 0, .int .i64 built] 58 + (Am + (0 + (0 + 0))) + F))).drop
  generalize cA tb [.map (some m), .slice none 0 0, .slice none 0 0, .int .i64 0, .int .i64 built] 58 + (Am + (0 + (0 + 0))) = A at *
  refine (List_ok a' s hn).mono fun v h4 ⟨q, d, B, l, hv, o, s, hp, _⟩ => ⟨_, _, _, hv, condP (fun hpos => ?_) (fun hneg => ?_)⟩
  · refine (put_ok a' (s.to (B := A + (B + F))) (o.rd s) hn (fun x hx => hw x (hp.mem_iff.1 hx)) (by simp [storedOf]) (by simp) hb).mono fun v h5 ⟨hv, own, A', hq, ta, s⟩ => ⟨hv, rfl, own, A', hq.trans hp, ?_, (s.to (B := B + (A' + F))).drop⟩
    rw [if_neg (by omega)]
    exact ta
  · have hz : ps.length = 0 := by omega
    refine ⟨rfl, [], A, ?_, ?_, s.drop⟩
    · rw [List.eq_nil_of_length_eq_zero hz]; exact List.Perm.refl _
    · rw [if_pos hz, hz]
      simpa using a'
end
end Go.Proofs.YtbfejfejahoblaaGreat

/- Points: equality, predicates by closures, leaving out. -/
set_option maxRecDepth 100000
namespace Go.Proofs.YtbfejfejahoblaaGreat
open Go Go.Sx
theorem eq_pt {a b : Pt} : (decide (a.1 = b.1) && (decide (a.2.1 = b.2.1) && (decide (a.2.2 = b.2.2) && true))) = decide (a = b) := by
  rw [Bool.eq_iff_iff]
  simp only [Bool.and_true, Bool.and_eq_true, decide_eq_true_eq]
  constructor
  · rintro ⟨h1, h2, h3⟩; exact Prod.ext h1 (Prod.ext h2 h3)
  · rintro rfl; exact ⟨rfl, rfl, rfl⟩
theorem eql_pt {xo yo : Operand} (a b : Pt) {h : Hp} : eqC Tryz.prog .eql 43 xo yo (encPt a) (encPt b) h (decide (a = b)) := by
  rw [← eq_pt]
  exact (eqC_struct (xs := [.int .i64 a.1, .int .i64 a.2.1, .int .i64 a.2.2]) (ys := [.int .i64 b.1, .int .i64 b.2.1, .int .i64 b.2.2]) (fs := structFs Tryz.prog 43) (by kernel_rfl) (by kernel_rfl) (by kernel_rfl) (by kernel_rfl)).1 rfl
/-- What a closure says of points, in a state. -/
def PredP (h0 : Hp) (G : Bag) (f : Value) (cf : Pt → Bool) : Prop := ∀ (x : Pt) (h : Hp) (B : Bag) (K : Value → Hp → Prop), St h0 h (G + B) → (∀ h', Ext h h' → K (.bool (cf x)) h') → funV f fun fg fa fc => callX Tryz.prog F fg (fa ++ (([encPt x] : List Value) ++ fc)).toArray h K
theorem IndexF {h0 h : Hp} {G B : Bag} {f : Value} {cf : Pt → Bool} {p : Option Addr} {n c : Nat} {l : List Pt} (hf : PredP h0 G f cf) (s : St h0 h (G + B)) (r : RdT tPt h p n l) (hn : n ≤ 1000000) :
    HCalls Tryz.prog 31 #[.slice p n c, f] h (fun v h' => Ext h h' ∧ ((v = .int .i64 (-1) ∧ ∀ x ∈ l, cf x = false) ∨ ∃ i : Nat, v = .int .i64 (i : Int) ∧ i < n ∧ cf (l.getD i tPt.d) = true ∧ ∀ x ∈ l.take i, cf x = false)) := by
  have hll := r.len
  refine slices_IndexFunc_Sapi_Point_api_Point_call ?_
  rw [slices_IndexFunc_Sapi_Point_api_Point_b0_eq]
  refine ⟨fun q h' => Ext h h' ∧ ∃ i : Nat, q.1 = i ∧ i ≤ n ∧ ∀ x ∈ l.take i, cf x = false, fun q _ => (n - q.1).toNat, ⟨.refl _, 0, rfl, Nat.zero_le _, fun x hx => by rw [List.take_zero] at hx; cases hx⟩, ?_⟩
  rintro ⟨_, _⟩ h1 ⟨x1, i, rfl, hi, hall⟩
  dsimp only
  rw [slices_IndexFunc_Sapi_Point_api_Point_b1_eq]
  refine condP (fun hlt => ?_) (fun hge => ?_)
  · refine ldPT (i' := i) (r.ext x1) rfl (by omega) ?_
    refine hf (l.getD i tPt.d) _ B _ (s.grow x1) fun h2 x2 => ⟨_, rfl, cond_intro (fun hc => ⟨x1.trans x2, .inr ⟨i, rfl, by omega, hc, hall⟩⟩) (fun hc => ?_)⟩
    rw [slices_IndexFunc_Sapi_Point_api_Point_b2_eq]
    refine ⟨⟨by omega, by omega⟩, ⟨x1.trans x2, i + 1, by push_cast; rfl, by omega, fun x hx => ?_⟩, by dsimp only; omega⟩
    rw [take_succ_d (by omega)] at hx
    rcases List.mem_append.1 hx with hx | hx
    · exact hall x hx
    · rw [List.mem_singleton.1 hx]; exact hc
  · rw [slices_IndexFunc_Sapi_Point_api_Point_b3_eq]
    rw [List.take_of_length_le (by omega)] at hall
    exact ⟨x1, .inl ⟨rfl, hall⟩⟩
theorem ContainsF {h0 h : Hp} {G B : Bag} {f : Value} {cf : Pt → Bool} {p : Option Addr} {n c : Nat} {l : List Pt} (hf : PredP h0 G f cf) (s : St h0 h (G + B)) (r : RdT tPt h p n l) (hn : n ≤ 1000000) :
    HCalls Tryz.prog 16 #[.slice p n c, f] h (fun v h' => Ext h h' ∧ v = .bool (l.any cf)) := by
  have hll := r.len
  refine slices_ContainsFunc_Sapi_Point_api_Point_call ?_
  rw [slices_ContainsFunc_Sapi_Point_api_Point_b0_eq]
  refine (IndexF hf s r hn).mono fun v h1 ⟨x1, hv⟩ => ?_
  rcases hv with ⟨hv, hall⟩ | ⟨i, hv, hi, hc, _⟩
  · refine ⟨_, hv, x1, ?_⟩
    have : l.any cf = false := List.any_eq_false.2 fun x hx => by rw [hall x hx]; simp
    rw [this]; rfl
  · refine ⟨_, hv, x1, ?_⟩
    have hil : i < l.length := by omega
    rw [getD_get (d := tPt.d) hil] at hc
    have : l.any cf = true := List.any_eq_true.2 ⟨_, List.getElem_mem hil, hc⟩
    rw [this, decide_eq_true (by omega)]
end Go.Proofs.YtbfejfejahoblaaGreat

/- The tree: valid points, Make, asking. -/
set_option maxRecDepth 100000
namespace Go.Proofs.YtbfejfejahoblaaGreat
open Go Go.Sx
def vPt (p : Pt) : Bool := decide ((-1048576 ≤ p.1 ∧ p.1 ≤ 1048576) ∧ (-1048576 ≤ p.2.1 ∧ p.2.1 ≤ 1048576) ∧ (-1048576 ≤ p.2.2 ∧ p.2.2 ≤ 1048576))
theorem vPt_iff {p : Pt} : vPt p = true ↔ (-1048576 ≤ p.1 ∧ p.1 ≤ 1048576) ∧ (-1048576 ≤ p.2.1 ∧ p.2.1 ≤ 1048576) ∧ (-1048576 ≤ p.2.2 ∧ p.2.2 ≤ 1048576) := by unfold vPt; rw [decide_eq_true_eq]
theorem valid_ok (x : Pt) (h : Hp) : HCalls Tryz.prog 18 #[encPt x] h (fun v h' => Ext h h' ∧ v = .bool (vPt x)) := by
  refine rangetree_valid_call ?_
  rw [rangetree_valid_b0_eq]
  refine (St.start h).new (cs := [_, _, _]) fun b1 h1 _ s => ⟨_, s.ld0, _, s.ldB, _, s.ldB, condP (fun hc => ⟨_, s.ld0, _, s.ldB, _, s.ldB, s.ext, ?_⟩) (fun hc => ⟨s.ext, ?_⟩)⟩
  · unfold vPt
    congr 1
    refine decide_eq_decide.2 ?_
    revert hc
    repeat' split
    all_goals omega
  · unfold vPt
    congr 1
    refine (decide_eq_false ?_).symm
    revert hc
    repeat' split
    all_goals omega
theorem validN (h0 : Hp) : PredP h0 0 (.func (.func 17) #[] #[]) (fun x => !vPt x) := fun x h B K _ hK => by
  refine funX_of (by kernel_rfl) (rangetree_Make_c1_call ?_)
  rw [rangetree_Make_c1_b0_eq]
  refine (St.start h).new (cs := [_, _, _]) fun b1 h1 _ s => ⟨_, _, _, s.ld0, s.ldB, s.ldB, (valid_ok x _).mono fun v h2 ⟨x2, hv⟩ => ⟨_, hv, hK _ (s.ext.trans x2)⟩⟩
/-! ### plain -/
theorem setk_len {ps : PS} {k : Int × Int} {w : Int} : (setk ps k w).length = ps.length + if lkp ps k = none then 1 else 0 := by
  induction ps with
  | nil => rfl
  | cons e l ih =>
    obtain ⟨a, v⟩ := e
    unfold setk lkp
    by_cases h : a = k
    · rw [if_pos h, if_pos h, if_neg (by simp)]; rfl
    · rw [if_neg h, if_neg h, List.length_cons, ih, List.length_cons]; omega
/-- A map after some points were put in. -/
def MI (l : List Pt) (ps : PS) : Prop := ((l.map place).Nodup ∧ ps = l.map kvOf) ∨ (¬ (l.map place).Nodup ∧ ps.length < l.length)
theorem MI_step {l : List Pt} {ps : PS} (h : MI l ps) (p : Pt) : MI (l ++ [p]) (setk ps (place p) p.2.2) := by
  rcases h with ⟨hn, rfl⟩ | ⟨hn, hl⟩
  · have hk : (l.map kvOf).map Prod.fst = l.map place := by rw [List.map_map]; rfl
    cases hc : lkp (l.map kvOf) (place p) with
    | none =>
      refine .inl ⟨?_, by rw [setk_new hc, List.map_append]; rfl⟩
      rw [List.map_append, List.nodup_append]
      refine ⟨hn, by simp, fun x hx y hy e => ?_⟩
      rw [List.map_singleton, List.mem_singleton] at hy
      subst hy; subst e
      rw [lkp_none, hk] at hc
      exact hc hx
    | some w =>
      refine .inr ⟨fun hn2 => ?_, by rw [setk_len, if_neg (by rw [hc]; simp)]; simp⟩
      rw [List.map_append, List.nodup_append] at hn2
      have : ¬ lkp (l.map kvOf) (place p) = none := by rw [hc]; simp
      rw [lkp_none, hk, Classical.not_not] at this
      exact hn2.2.2 _ this _ (by simp) rfl
  · refine .inr ⟨fun hn2 => hn ?_, ?_⟩
    · rw [List.map_append, List.nodup_append] at hn2; exact hn2.1
    · rw [setk_len, List.length_append, List.length_singleton]; split <;> omega
structure RI (ps : PS) (parts : List (List Pt)) (rem : List Pt) : Prop where
  perm : parts.flatten.Perm (ptsOf ps ++ rem)
  val : ∀ x ∈ parts.flatten, vPt x = true
  ne : ∀ P ∈ parts, P ≠ []
  small : 2 * rem.length < storedOf parts ∨ parts = []
  len : ps.length ≤ 1000
section
variable {ps : PS} {parts : List (List Pt)} {rem : List Pt}
theorem RI.stored (r : RI ps parts rem) : storedOf parts = ps.length + rem.length := by
  have := r.perm.length_eq
  rw [storedOf_flat, List.length_append, ptsOf_len] at this
  exact this
theorem RI.bound (r : RI ps parts rem) : storedOf parts ≤ 2000 ∧ rem.length ≤ 1000 := by
  have h1 := r.stored
  have h2 := r.len
  rcases r.small with h | h
  · omega
  · subst h
    have : storedOf [] = 0 := rfl
    omega
theorem parts_len : ∀ {parts : List (List Pt)}, (∀ P ∈ parts, P ≠ []) → parts.length ≤ storedOf parts
  | [], _ => Nat.le_refl _
  | P :: R, h => by
    have ih := parts_len (parts := R) fun Q hQ => h Q (List.mem_cons_of_mem _ hQ)
    have hp := List.length_pos_iff.2 (h P List.mem_cons_self)
    have e : storedOf (P :: R) = P.length + storedOf R := by simp [storedOf]
    rw [List.length_cons, e]; omega
theorem RI.wok (r : RI ps parts rem) : WOk parts.flatten := fun x hx => (vPt_iff.1 (r.val x hx)).2.2
theorem RI.wps (r : RI ps parts rem) : WOk (ptsOf ps) := fun x hx => r.wok x (r.perm.mem_iff.2 (List.mem_append.2 (.inl hx)))
theorem RI.wrem (r : RI ps parts rem) : WOk rem := fun x hx => r.wok x (r.perm.mem_iff.2 (List.mem_append.2 (.inr hx)))
end
theorem cntB_bound (x1 x2 y1 y2 : Int) (l : List Pt) : 0 ≤ cntB x1 x2 y1 y2 l ∧ cntB x1 x2 y1 y2 l ≤ l.length := by
  unfold cntB
  have := List.length_filter_le (inB x1 x2 y1 y2) l
  omega
theorem sumB_bound {x1 x2 y1 y2 : Int} {l : List Pt} (hw : WOk l) : -(1048576 * (l.length : Int)) ≤ sumB x1 x2 y1 y2 l ∧ sumB x1 x2 y1 y2 l ≤ 1048576 * (l.length : Int) := by
  unfold sumB
  have h1 := wSum_bound (l := l.filter (inB x1 x2 y1 y2)) fun x hx => hw x (List.mem_filter.1 hx).1
  have := List.length_filter_le (inB x1 x2 y1 y2) l
  omega
section
variable {h0 h : Hp} {tb : Nat} {ps : PS} {parts : List (List Pt)} {rem : List Pt} {built : Int} {A F : Bag}
theorem cntB_nil (x1 x2 y1 y2 : Int) : cntB x1 x2 y1 y2 [] = 0 := rfl
theorem sumB_nil (x1 x2 y1 y2 : Int) : sumB x1 x2 y1 y2 [] = 0 := rfl
theorem take_flat {parts : List (List Pt)} {i : Nat} (h : i < parts.length) : (parts.take (i + 1)).flatten = (parts.take i).flatten ++ parts.getD i [] := by
  rw [List.take_succ_eq_append_getElem h, List.flatten_append, getD_get h]
  simp
theorem flat_take_le (parts : List (List Pt)) (i : Nat) : (parts.take i).flatten.length ≤ storedOf parts := by
  conv => rhs; rw [← List.take_append_drop i parts, storedOf_app]
  rw [storedOf_flat]; omega
theorem treeAsk_ok (a : TreeA tb ps parts rem built A) (s : St h0 h (A + F)) (ri : RI ps parts rem) (x1 x2 y1 y2 : Int) :
    HCalls Tryz.prog 26 #[ptr tb, .int .i64 x1, .int .i64 x2, .int .i64 y1, .int .i64 y2] h (fun v h' => Ext h h' ∧ v = .tuple #[.int .i64 (cntB x1 x2 y1 y2 (ptsOf ps)), .int .i64 (sumB x1 x2 y1 y2 (ptsOf ps))]) := by
  obtain ⟨m, pp, rp, pc, rc, bs, Am, Ap, L, Ar, hm, o1, hL, o2, rfl⟩ := a
  obtain ⟨hb1, hb2⟩ := ri.bound
  have hpl := parts_len ri.ne
  have hbl := hL.len
  have hwf := ri.wok
  have hwr := ri.wrem
  have s := s.to (B := cA tb [.map (some m), .slice pp parts.length pc, .slice rp rem.length rc, .int .i64 (storedOf parts : Nat), .int .i64 built] 58 + (Am + (Ap + (L + (Ar + F)))))
  refine rangetree_Tree_ask_call ?_
  rw [rangetree_Tree_ask_b0_eq]
  refine ⟨_, _, _, s.ldB, ?_⟩
  refine ⟨fun q h' => ∃ i : Nat, q.2.2.1 = i ∧ i ≤ parts.length ∧ q.1 = cntB x1 x2 y1 y2 (parts.take i).flatten ∧ q.2.1 = sumB x1 x2 y1 y2 (parts.take i).flatten ∧ Ext h h', fun q _ => (parts.length - q.2.2.1).toNat, ⟨0, rfl, Nat.zero_le _, rfl, rfl, .refl _⟩, ?_⟩
  rintro ⟨_, _, _, _⟩ h1 ⟨i, rfl, hi, rfl, rfl, e1⟩
  dsimp only
  have s := s.grow e1
  have wi : WOk (parts.take i).flatten := fun x hx => hwf x (by rw [List.mem_flatten] at hx ⊢; obtain ⟨P, hP, hx⟩ := hx; exact ⟨P, List.mem_of_mem_take hP, hx⟩)
  have c1 := cntB_bound x1 x2 y1 y2 (parts.take i).flatten
  have c2 := sumB_bound (x1 := x1) (x2 := x2) (y1 := y1) (y2 := y2) wi
  have c3 := flat_take_le parts i
  rw [rangetree_Tree_ask_b1_eq]
  refine condP (fun hlt => ?_) (fun hge => ?_)
  · have hin : i < parts.length := by omega
    refine (o1.rd (s.at Ap)).ptr (by omega) (by omega) ?_
    obtain ⟨Li, Lr, rfl, pa⟩ := hL.pick (d := []) (d' := 0) (i := i) (by omega)
    have hP : parts.getD i [] ∈ parts := by rw [getD_get hin]; exact List.getElem_mem _
    have wP : WOk (parts.getD i []) := fun x hx => hwf x (List.mem_flatten.2 ⟨_, hP, hx⟩)
    have lP : (parts.getD i []).length ≤ storedOf parts := by
      have := flat_take_le parts (i + 1)
      rw [take_flat hin, List.length_append] at this; omega
    rw [Int.toNat_natCast]
    refine (rectangle_ok pa (s.to (B := Li + (cA tb [.map (some m), .slice pp parts.length pc, .slice rp rem.length rc, .int .i64 (storedOf parts : Nat), .int .i64 built] 58 + (Am + (Ap + (Lr + (Ar + F))))))) (by omega) wP x1 x2 y1 y2).mono fun v h2 ⟨e2, hv⟩ => ⟨_, _, hv, ?_⟩
    have d1 := cntB_bound x1 x2 y1 y2 (parts.getD i [])
    have d2 := sumB_bound (x1 := x1) (x2 := x2) (y1 := y1) (y2 := y2) wP
    refine ⟨⟨by omega, by omega⟩, ⟨by omega, by omega⟩, ?_⟩
    rw [rangetree_Tree_ask_b2_eq]
    refine ⟨⟨by omega, by omega⟩, ⟨i + 1, by push_cast; rfl, by omega, ?_, ?_, e1.trans e2⟩, by dsimp only; omega⟩
    · rw [take_flat hin, cntB_app]
    · rw [take_flat hin, sumB_app]
  obtain rfl : i = parts.length := by omega
  rw [List.take_length] at *
  rw [rangetree_Tree_ask_b3_eq]
  refine ⟨_, _, _, s.ldB, ?_⟩
  refine ⟨fun q h' => ∃ i : Nat, q.2.2.1 = i ∧ i ≤ rem.length ∧ q.1 = cntB x1 x2 y1 y2 parts.flatten - cntB x1 x2 y1 y2 (rem.take i) ∧ q.2.1 = sumB x1 x2 y1 y2 parts.flatten - sumB x1 x2 y1 y2 (rem.take i) ∧ Ext h1 h', fun q _ => (rem.length - q.2.2.1).toNat, ⟨0, rfl, Nat.zero_le _, by rw [List.take_zero, cntB_nil]; omega, by dsimp only; rw [List.take_zero, sumB_nil]; omega, .refl _⟩, ?_⟩
  rintro ⟨_, _, _, _⟩ h2 ⟨i, rfl, hi, rfl, rfl, e2⟩
  dsimp only
  have s := s.grow e2
  have wi : WOk (rem.take i) := fun x hx => hwr x (List.mem_of_mem_take hx)
  have d1 := cntB_bound x1 x2 y1 y2 (rem.take i)
  have d2 := sumB_bound (x1 := x1) (x2 := x2) (y1 := y1) (y2 := y2) wi
  rw [List.length_take] at d1 d2
  rw [rangetree_Tree_ask_b4_eq]
  refine condP (fun hlt => ?_) (fun hge => ?_)
  · have hin : i < rem.length := by omega
    refine ldPT (i' := i) (o2.rd (s.at Ar)) rfl hin ?_
    have hwx := hwr (rem.getD i tPt.d) (by rw [getD_get hin]; exact List.getElem_mem _)
    have htk := take_succ_d hin
    generalize rem.getD i tPt.d = x at *
    have cs1 : cntB x1 x2 y1 y2 (rem.take (i + 1)) = cntB x1 x2 y1 y2 (rem.take i) + (if x1 ≤ x.1 ∧ x.1 ≤ x2 ∧ y1 ≤ x.2.1 ∧ x.2.1 ≤ y2 then 1 else 0) := by
      rw [htk, cntB_app]
      unfold cntB inB
      rw [List.filter_cons]
      split <;> rename_i hh <;> rw [decide_eq_true_eq] at hh
      · rw [if_pos hh]; rfl
      · rw [if_neg hh]; rfl
    have cs2 : sumB x1 x2 y1 y2 (rem.take (i + 1)) = sumB x1 x2 y1 y2 (rem.take i) + (if x1 ≤ x.1 ∧ x.1 ≤ x2 ∧ y1 ≤ x.2.1 ∧ x.2.1 ≤ y2 then x.2.2 else 0) := by
      rw [htk, sumB_app]
      unfold sumB inB
      rw [List.filter_cons]
      split <;> rename_i hh <;> rw [decide_eq_true_eq] at hh
      · rw [if_pos hh, List.filter_nil, wSum_cons, wSum_nil]; omega
      · rw [if_neg hh]; rfl
    refine (St.start h2).new (cs := [_, _, _]) fun b h3 x3 t => t.wr3 fun h7 t => ⟨_, t.ld0, ?_⟩
    have e7 := e2.trans t.ext
    have fin : ∀ c z : Int, c = cntB x1 x2 y1 y2 parts.flatten - cntB x1 x2 y1 y2 (rem.take (i + 1)) → z = sumB x1 x2 y1 y2 parts.flatten - sumB x1 x2 y1 y2 (rem.take (i + 1)) → ∀ {nx K}, (∀ q : Int × Int × Int × Unit, q.1 = c → q.2.1 = z → q.2.2.1 = (i : Int) + 1 → nx q h7) → rangetree_Tree_ask_b5 x1 x2 y1 y2 c z rp rem.length rc (rem.length : Int) (i : Int) h7 nx K := fun c z _ _ nx K hn => by
      rw [rangetree_Tree_ask_b5_eq]
      exact ⟨⟨by omega, by omega⟩, hn _ rfl rfl rfl⟩
    have no : ¬ (x1 ≤ x.1 ∧ x.1 ≤ x2 ∧ y1 ≤ x.2.1 ∧ x.2.1 ≤ y2) → rangetree_Tree_ask_b5 x1 x2 y1 y2 (cntB x1 x2 y1 y2 parts.flatten - cntB x1 x2 y1 y2 (rem.take i)) (sumB x1 x2 y1 y2 parts.flatten - sumB x1 x2 y1 y2 (rem.take i)) rp rem.length rc (rem.length : Int) (i : Int) h7 (fun q h' => (∃ i : Nat, q.2.2.1 = i ∧ i ≤ rem.length ∧ q.1 = cntB x1 x2 y1 y2 parts.flatten - cntB x1 x2 y1 y2 (rem.take i) ∧ q.2.1 = sumB x1 x2 y1 y2 parts.flatten - sumB x1 x2 y1 y2 (rem.take i) ∧ Ext h1 h') ∧ ((rem.length : Int) - q.2.2.1).toNat < ((rem.length : Int) - (i : Int)).toNat) (fun v h' => Ext h h' ∧ v = .tuple #[.int .i64 (cntB x1 x2 y1 y2 (ptsOf ps)), .int .i64 (sumB x1 x2 y1 y2 (ptsOf ps))]) := fun hno => by
      rw [if_neg hno] at cs1 cs2
      exact fin _ _ (by omega) (by omega) fun q q1 q2 q3 => ⟨⟨i + 1, by rw [q3]; push_cast; rfl, by omega, by rw [q1]; omega, by rw [q2]; omega, e7⟩, by omega⟩
    refine condP (fun g1 => ⟨_, t.ld0, condP (fun g2 => ⟨_, t.ldB, condP (fun g3 => ⟨_, t.ldB, condP (fun g4 => ?_) (fun g => no (by omega))⟩) (fun g => no (by omega))⟩) (fun g => no (by omega))⟩) (fun g => no (by omega))
    rw [if_pos ⟨g1, g2, g3, g4⟩] at cs1 cs2
    refine ⟨⟨by omega, by omega⟩, _, t.ldB, ⟨by omega, by omega⟩, ?_⟩
    exact fin _ _ (by omega) (by omega) fun q q1 q2 q3 => ⟨⟨i + 1, by rw [q3]; push_cast; rfl, by omega, by rw [q1]; omega, by rw [q2]; omega, e7⟩, by omega⟩
  · obtain rfl : i = rem.length := by omega
    rw [rangetree_Tree_ask_b6_eq]
    refine ⟨e1.trans e2, ?_⟩
    rw [List.take_length, cntB_perm ri.perm, sumB_perm ri.perm, cntB_app, sumB_app]
    congr 3
    · congr 1; omega
    · congr 2; omega
theorem Count_ok (a : TreeA tb ps parts rem built A) (s : St h0 h (A + F)) (ri : RI ps parts rem) (x1 x2 y1 y2 : Int) :
    HCalls Tryz.prog 12 #[ptr tb, .int .i64 x1, .int .i64 x2, .int .i64 y1, .int .i64 y2] h (fun v h' => Ext h h' ∧ v = .tuple #[.int .i64 (cntB x1 x2 y1 y2 (ptsOf ps)), .int .i64 0]) := by
  refine rangetree_Tree_Count_call ?_
  rw [rangetree_Tree_Count_b0_eq]
  exact condNo rfl ((treeAsk_ok a s ri x1 x2 y1 y2).mono fun v h1 ⟨x1, hv⟩ => ⟨_, _, hv, x1, rfl⟩)
theorem Sum_ok (a : TreeA tb ps parts rem built A) (s : St h0 h (A + F)) (ri : RI ps parts rem) (x1 x2 y1 y2 : Int) :
    HCalls Tryz.prog 10 #[ptr tb, .int .i64 x1, .int .i64 x2, .int .i64 y1, .int .i64 y2] h (fun v h' => Ext h h' ∧ v = .tuple #[.int .i64 (sumB x1 x2 y1 y2 (ptsOf ps)), .int .i64 0]) := by
  refine rangetree_Tree_Sum_call ?_
  rw [rangetree_Tree_Sum_b0_eq]
  exact condNo rfl ((treeAsk_ok a s ri x1 x2 y1 y2).mono fun v h1 ⟨x1, hv⟩ => ⟨_, _, hv, x1, rfl⟩)
theorem Len_ok (a : TreeA tb ps parts rem built A) (s : St h0 h (A + F)) : HCalls Tryz.prog 13 #[ptr tb] h (fun v h' => h' = h ∧ v = .int .i64 (ps.length : Nat)) := by
  obtain ⟨m, pp, rp, pc, rc, bs, Am, Ap, L, Ar, hm, o1, hL, o2, rfl⟩ := a
  refine rangetree_Tree_Len_call ?_
  rw [rangetree_Tree_Len_b0_eq]
  exact condNo rfl ⟨_, s.ld0, hm.len (s.to (B := Am + (cA tb [.map (some m), .slice pp parts.length pc, .slice rp rem.length rc, .int .i64 (storedOf parts : Nat), .int .i64 built] 58 + (Ap + (L + Ar) + F)))) ⟨rfl, rfl⟩⟩
theorem find_take {α : Type} {p : α → Bool} {l : List α} {i : Nat} (hi : i < l.length) (h1 : ∀ x ∈ l.take i, p x = false) (h2 : p l[i] = true) : l.find? p = some l[i] := by
  have e := split_at hi
  generalize l[i] = x at *
  rw [e, List.find?_append, List.find?_eq_none.2 (fun y hy => by rw [h1 y hy]; simp), List.find?_cons, h2]
  rfl
theorem Leftmost_ok (a : TreeA tb ps parts rem built A) (s : St h0 h (A + F)) (hn : ps.length ≤ 5000) (x1 y1 y2 : Int) :
    HCalls Tryz.prog 14 #[ptr tb, .int .i64 x1, .int .i64 y1, .int .i64 y2] h (fun v h' => St h0 h' (A + F) ∧ ∃ l, l.Perm (ptsOf ps) ∧ PtsS l ∧ v = match l.find? (fun p => decide (x1 ≤ p.1 ∧ y1 ≤ p.2.1 ∧ p.2.1 ≤ y2)) with | some p => .tuple #[encPt p, .int .i64 0] | none => .tuple #[encPt (0, 0, 0), .int .i64 12]) := by
  refine rangetree_Tree_Leftmost_call ?_
  rw [rangetree_Tree_Leftmost_b0_eq]
  refine s.new (cs := [_, _, _]) fun b1 g1 _ s => condNo rfl ?_
  refine (List_ok a (s.to (B := A + (cA b1 [.int .i64 0, .int .i64 0, .int .i64 0] 43 + F))) hn).mono fun v h5 ⟨q, d, A', l, hv, o, s, hp, hs⟩ => ⟨_, _, _, hv, ?_⟩
  have hl := o.len
  have s := s.to (B := A' + (cA b1 [.int .i64 0, .int .i64 0, .int .i64 0] 43 + (A + F)))
  refine ⟨fun z h' => ∃ i : Nat, z.1 = i ∧ i ≤ ps.length ∧ (∀ x ∈ l.take i, decide (x1 ≤ x.1 ∧ y1 ≤ x.2.1 ∧ x.2.1 ≤ y2) = false) ∧ St h0 h' (A' + (cA b1 [.int .i64 0, .int .i64 0, .int .i64 0] 43 + (A + F))), fun z _ => (ps.length - z.1).toNat, ⟨0, rfl, Nat.zero_le _, fun x hx => (by rw [List.take_zero] at hx; cases hx), s⟩, ?_⟩
  clear s
  rintro ⟨_, _⟩ h6 ⟨i, rfl, hi, hall, s⟩
  dsimp only
  rw [rangetree_Tree_Leftmost_b1_eq]
  refine condP (fun hlt => ?_) (fun hge => ?_)
  · have hin : i < l.length := by omega
    refine ldPT (i' := i) (o.rd s) rfl (by omega) ?_
    have hx : l.getD i tPt.d = l[i] := getD_get hin
    have htk := take_succ_d hin
    rw [hx] at htk ⊢
    have hfd := find_take (p := fun x : Pt => decide (x1 ≤ x.1 ∧ y1 ≤ x.2.1 ∧ x.2.1 ≤ y2)) hin hall
    generalize l[i] = x at *
    refine s.new (cs := [_, _, _]) fun b h7 _ s => s.wr3 fun h10 s => ⟨_, s.ld0, ?_⟩
    have no : ¬ (x1 ≤ x.1 ∧ y1 ≤ x.2.1 ∧ x.2.1 ≤ y2) → rangetree_Tree_Leftmost_b2 x1 y1 y2 (some ⟨b1, 0, none⟩) q ps.length d (ps.length : Int) (i : Int) h10 (fun z h' => (∃ i : Nat, z.1 = i ∧ i ≤ ps.length ∧ (∀ x ∈ l.take i, decide (x1 ≤ x.1 ∧ y1 ≤ x.2.1 ∧ x.2.1 ≤ y2) = false) ∧ St h0 h' (A' + (cA b1 [.int .i64 0, .int .i64 0, .int .i64 0] 43 + (A + F)))) ∧ ((ps.length : Int) - z.1).toNat < ((ps.length : Int) - (i : Int)).toNat) (fun v h' => St h0 h' (A + F) ∧ ∃ l, l.Perm (ptsOf ps) ∧ PtsS l ∧ v = match l.find? (fun p => decide (x1 ≤ p.1 ∧ y1 ≤ p.2.1 ∧ p.2.1 ≤ y2)) with | some p => .tuple #[encPt p, .int .i64 0] | none => .tuple #[encPt (0, 0, 0), .int .i64 12]) := fun hno => by
      rw [rangetree_Tree_Leftmost_b2_eq]
      refine ⟨⟨by omega, by omega⟩, ⟨i + 1, by push_cast; rfl, by omega, fun y hy => ?_, s.drop⟩, by dsimp only; omega⟩
      rw [htk] at hy
      rcases List.mem_append.1 hy with hy | hy
      · exact hall y hy
      · rw [List.mem_singleton.1 hy]; exact decide_eq_false hno
    refine condP (fun g1 => ⟨_, s.ldB, condP (fun g2 => ⟨_, s.ldB, condP (fun g3 => ?_) (fun g => no (by omega))⟩) (fun g => no (by omega))⟩) (fun g => no (by omega))
    refine ⟨_, _, _, s.ld0, s.ldB, s.ldB, (s.find b1).wr3 fun h13 s => ⟨_, _, _, s.ld0, s.ldB, s.ldB, ?_⟩⟩
    refine ⟨(s.to (B := (cA b1 [.int .i64 x.1, .int .i64 x.2.1, .int .i64 x.2.2] 43 + (cA b [.int .i64 x.1, .int .i64 x.2.1, .int .i64 x.2.2] 43 + A')) + (A + F))).drop, l, hp, hs, ?_⟩
    rw [hfd (decide_eq_true ⟨g1, g2, g3⟩)]
  · obtain rfl : i = ps.length := by omega
    rw [List.take_of_length_le (by omega)] at hall
    rw [rangetree_Tree_Leftmost_b3_eq]
    refine (s.find b1).wr3 fun h13 s => ⟨_, _, _, s.ld0, s.ldB, s.ldB, ?_⟩
    refine ⟨(s.to (B := (cA b1 [.int .i64 0, .int .i64 0, .int .i64 0] 43 + A') + (A + F))).drop, l, hp, hs, ?_⟩
    rw [List.find?_eq_none.2 fun x hx => by rw [hall x hx]; simp]
end
end Go.Proofs.YtbfejfejahoblaaGreat

/- The tree: Make, Add, Remove. -/
set_option maxRecDepth 100000
namespace Go.Proofs.YtbfejfejahoblaaGreat
open Go Go.Sx
theorem Make_ok {h : Hp} {p : Option Addr} {n c : Nat} {l : List Pt} (r : RdT tPt h p n l) (hn : n ≤ 4000) :
    HCalls Tryz.prog 6 #[.slice p n c] h (fun v h' => if l.any (fun x => !vPt x) = true then v = .tuple #[.pointer none, .int .i64 1] ∧ Ext h h' else
      if ¬ (l.map place).Nodup then v = .tuple #[.pointer none, .int .i64 10] ∧ Ext h h' else if 1000 < n then v = .tuple #[.pointer none, .int .i64 4] ∧ Ext h h' else
      ∃ tb A own, v = .tuple #[ptr tb, .int .i64 0] ∧ TreeA tb (l.map kvOf) (if n = 0 then [] else [own]) [] n A ∧ own.Perm l ∧ St h h' A) := by
  have hll := r.len
  refine rangetree_Make_call ?_
  rw [rangetree_Make_b0_eq]
  refine (ContainsF (validN h) (St.start h).to r (by omega)).mono fun v h1 ⟨x1, hv⟩ => ⟨_, hv, cond_intro (fun hc => ?_) (fun hc => ?_)⟩
  · rw [if_pos hc]; exact ⟨rfl, x1⟩
  simp only [if_neg (show ¬ l.any (fun x => !vPt x) = true by rw [hc]; simp)]
  have s := (St.start h).grow x1
  refine s.newMap MPl fun m h2 Am _ hm s => s.new (cs := [_, _, _, _, _]) fun tb h3 _ s => ?_
  refine ⟨fun q h' => ∃ (i : Nat) (ps : PS) (Am : Bag), q.1 = i ∧ i ≤ n ∧ MI (l.take i) ps ∧ MapA MPl m ps Am ∧ St h h' (Am + (cA tb [.map (some m), .slice none 0 0, .slice none 0 0, .int .i64 0, .int .i64 0] 58 + 0)), fun q _ => (n - q.1).toNat, ⟨0, [], Am, rfl, Nat.zero_le _, .inl ⟨by simp, rfl⟩, hm, s.to⟩, ?_⟩
  clear s hm
  rintro ⟨_, _⟩ h4 ⟨i, ps, Am, rfl, hi, mi, hm, s⟩
  dsimp only
  rw [rangetree_Make_b1_eq]
  refine condP (fun hlt => ?_) (fun hge => ?_)
  · have hin : i < l.length := by omega
    refine ldPT (i' := i) (r.ext s.ext) rfl (by omega) ?_
    have htk := take_succ_d hin
    generalize l.getD i tPt.d = x at *
    refine s.new (cs := [_, _, _]) fun b h5 _ s => s.wr3 fun h8 s => ⟨_, s.ld0, _, s.ld0, _, s.ldB, _, s.ldB, ?_⟩
    refine hm.set mapOk_pl (k := place x) (v := x.2.2) (s.at Am) rfl fun h9 A9 m9 s => ?_
    rw [rangetree_Make_b2_eq]
    refine ⟨⟨by omega, by omega⟩, ⟨i + 1, _, A9, by push_cast; rfl, by omega, by rw [htk]; exact MI_step mi x, m9, (s.to (B := cA b [.int .i64 x.1, .int .i64 x.2.1, .int .i64 x.2.2] 43 + (A9 + (cA tb [.map (some m), .slice none 0 0, .slice none 0 0, .int .i64 0, .int .i64 0] 58 + 0)))).drop⟩, by dsimp only; omega⟩
  obtain rfl : i = n := by omega
  rw [List.take_of_length_le (by omega)] at mi
  rw [rangetree_Make_b3_eq]
  refine ⟨_, s.ld0, hm.len s ?_⟩
  rcases mi with ⟨hnd, rfl⟩ | ⟨hnd, hlen⟩
  · simp only [if_neg (show ¬ ¬ (l.map place).Nodup from fun h => h hnd)]
    rw [List.length_map]
    refine condP (fun h => by omega) (fun _ => condP (fun hb => ?_) (fun hb => ?_))
    · rw [if_pos (by omega)]; exact ⟨by trivial, s.ext⟩
    simp only [if_neg (show ¬ 1000 < i by omega)]
    rw [rangetree_Make_b4_eq]
    have a' : TreeA tb (l.map kvOf) [] [] 0 (cA tb [.map (some m), .slice none 0 0, .slice none 0 0, .int .i64 0, .int .i64 0] 58 + (Am + (0 + (0 + 0)))) := ⟨m, none, none, 0, 0, [], Am, 0, 0, 0, hm, Sl.nil, rfl, Sl.nil, rfl⟩
    have hw : WOk (ptsOf (l.map kvOf)) := fun x hx => by
      rw [ptsOf_kv] at hx
      have := List.any_eq_false.1 hc x hx
      have h2 : vPt x = true := by simpa using this
      exact (vPt_iff.1 h2).2.2
    refine (renew_ok a' (s.to (B := cA tb [.map (some m), .slice none 0 0, .slice none 0 0, .int .i64 0, .int .i64 0] 58 + (Am + (0 + (0 + 0))) + 0)) (by rw [List.length_map]; omega) hw ⟨by omega, by omega⟩).mono fun v h9 ⟨hv, own, A', hp, ta, s⟩ => ⟨hv, tb, A', own, rfl, ?_, by rw [ptsOf_kv] at hp; exact hp, s.to⟩
    rw [List.length_map, hll, Int.zero_add] at ta
    exact ta
  · simp only [if_pos hnd]
    exact condYes (decide_eq_true (by omega)) ⟨by trivial, s.ext⟩
/-! ### merging -/
def mrgP : List (List Pt) → List Pt → List (List Pt) × List Pt
  | [], l => ([], l)
  | P :: R, l => if P.length ≤ l.length then mrgP R (l ++ P) else (P :: R, l)
theorem mrgP_perm : ∀ (R : List (List Pt)) (l : List Pt), ((mrgP R l).1.reverse.flatten ++ (mrgP R l).2).Perm (R.reverse.flatten ++ l)
  | [], l => .refl _
  | P :: R, l => by
    unfold mrgP
    by_cases h : P.length ≤ l.length
    · rw [if_pos h]
      refine (mrgP_perm R (l ++ P)).trans ?_
      rw [List.reverse_cons, List.flatten_append, List.append_assoc]
      refine List.Perm.append_left _ ?_
      simpa using List.perm_append_comm
    · rw [if_neg h]
theorem mrgP_ne : ∀ (R : List (List Pt)) (l : List Pt), (∀ P ∈ R, P ≠ []) → l ≠ [] → (∀ P ∈ (mrgP R l).1, P ≠ []) ∧ (mrgP R l).2 ≠ []
  | [], l, _, hl => ⟨fun P hP => (by cases hP), hl⟩
  | P :: R, l, h, hl => by
    unfold mrgP
    by_cases hc : P.length ≤ l.length
    · rw [if_pos hc]
      exact mrgP_ne R (l ++ P) (fun Q hQ => h Q (List.mem_cons_of_mem _ hQ)) (by simp [hl])
    · rw [if_neg hc]; exact ⟨h, hl⟩
theorem mrgP_size : ∀ (R : List (List Pt)) (l : List Pt), (mrgP R l).2.length :: (mrgP R l).1.map List.length = mrgR (R.map List.length) l.length
  | [], l => rfl
  | P :: R, l => by
    unfold mrgP
    rw [List.map_cons]
    unfold mrgR
    by_cases h : P.length ≤ l.length
    · rw [if_pos h, if_pos h, mrgP_size R (l ++ P), List.length_append]
    · rw [if_neg h, if_neg h]; rfl
theorem allH_snoc {α : Type} {Q : Nat → α → Bag → Prop} {bs : List Nat} {ts : List α} {t : α} {A : Bag} (h : AllH Q bs (ts ++ [t]) A) : ∃ bs0 b A1 A2, bs = bs0 ++ [b] ∧ A = A1 + A2 ∧ AllH Q bs0 ts A1 ∧ Q b t A2 := by
  have hl := h.len
  rw [List.length_append, List.length_singleton] at hl
  have e : bs = bs.take ts.length ++ [bs.getD ts.length 0] := by
    rw [getD_get (show ts.length < bs.length by omega)]
    have := List.take_succ_eq_append_getElem (show ts.length < bs.length by omega)
    rw [List.take_of_length_le (by omega)] at this
    exact this
  rw [e] at h
  obtain ⟨A1, A2, hA, h1, h2⟩ := h.split _ _ (by rw [List.length_take]; omega)
  obtain ⟨B1, B2, hB, h3, h4⟩ := h2
  have h4 : B2 = 0 := h4
  subst h4
  exact ⟨_, _, A1, B1, e, by rw [hA, hB, Bag.add_zero], h1, h3⟩
section
variable {h0 h : Hp} {tb : Nat} {ps : PS} {parts : List (List Pt)} {rem : List Pt} {built : Int} {A F : Bag}
theorem Add_ok (a : TreeA tb ps parts rem built A) (s : St h0 h (A + F)) (ri : RI ps parts rem) (hb : 0 ≤ built ∧ built ≤ 100000000) (x : Pt) :
    HCalls Tryz.prog 9 #[ptr tb, encPt x] h (fun v h' => if vPt x = false then v = .int .i64 1 ∧ St h0 h' (A + F) else if lkp ps (place x) ≠ none then v = .int .i64 15 ∧ St h0 h' (A + F) else if 1000 ≤ ps.length then v = .int .i64 4 ∧ St h0 h' (A + F) else
      v = .int .i64 0 ∧ ∃ own A', TreeA tb (ps ++ [kvOf x]) ((mrgP parts.reverse [x]).1.reverse ++ [own]) rem (built + ((mrgP parts.reverse [x]).2.length : Nat)) A' ∧ own.Perm (mrgP parts.reverse [x]).2 ∧ St h0 h' (A' + F)) := by
  obtain ⟨hb1, hb2⟩ := ri.bound
  have hst := ri.stored
  refine rangetree_Tree_Add_call ?_
  rw [rangetree_Tree_Add_b0_eq]
  refine s.new (cs := [_, _, _]) fun b1 h1 _ s => condNo rfl ⟨_, _, _, s.ld0, s.ldB, s.ldB, ?_⟩
  refine (valid_ok x h1).mono fun v h2 ⟨x2, hv⟩ => ⟨_, hv, cond_intro (fun hc => ?_) (fun hc => ?_)⟩
  · have hc : vPt x = false := by simpa using hc
    rw [if_pos hc]
    exact ⟨rfl, (s.grow x2).drop⟩
  have hc : vPt x = true := by simpa using hc
  simp only [if_neg (show ¬ vPt x = false by rw [hc]; simp)]
  have s := s.grow x2
  obtain ⟨m, pp, rp, pc, rc, bs, Am, Ap, L, Ar, hm, o1, hL, o2, rfl⟩ := a
  have s := s.to (B := cA b1 [.int .i64 x.1, .int .i64 x.2.1, .int .i64 x.2.2] 43 + (cA tb [.map (some m), .slice pp parts.length pc, .slice rp rem.length rc, .int .i64 (storedOf parts : Nat), .int .i64 built] 58 + (Am + (Ap + (L + (Ar + F))))))
  rw [rangetree_Tree_Add_b1_eq]
  refine ⟨_, s.ld0, _, s.ldB, s.new (cs := [_, _]) fun b2 h3 _ s => s.wr2c fun h5 s => ⟨_, s.ld0, _, _, s.ld0, s.ldB, ?_⟩⟩
  refine hm.look mapOk_pl (k := place x) (s.at Am) fun v b hvb => ?_
  rcases hvb with ⟨hk, rfl, rfl⟩ | ⟨w, hk, rfl, rfl⟩
  rotate_left
  · simp only [if_pos (show lkp ps (place x) ≠ none by rw [hk]; simp)]
    refine ⟨w, true, rfl, condYes rfl ⟨by trivial, ?_⟩⟩
    exact (s.to (B := (cA b2 [.int .i64 x.1, .int .i64 x.2.1] 60 + cA b1 [.int .i64 x.1, .int .i64 x.2.1, .int .i64 x.2.2] 43) + (cA tb [.map (some m), .slice pp parts.length pc, .slice rp rem.length rc, .int .i64 (storedOf parts : Nat), .int .i64 built] 58 + (Am + (Ap + (L + Ar))) + F))).drop
  simp only [if_neg (show ¬ lkp ps (place x) ≠ none from fun h => h hk)]
  refine ⟨0, false, rfl, condNo rfl ⟨_, (s.find tb).ld0, hm.len (s.at Am) (condP (fun hfull => ?_) (fun hroom => ?_))⟩⟩
  · simp only [if_pos (show 1000 ≤ ps.length by omega)]
    exact ⟨by trivial, (s.to (B := (cA b2 [.int .i64 x.1, .int .i64 x.2.1] 60 + cA b1 [.int .i64 x.1, .int .i64 x.2.1, .int .i64 x.2.2] 43) + (cA tb [.map (some m), .slice pp parts.length pc, .slice rp rem.length rc, .int .i64 (storedOf parts : Nat), .int .i64 built] 58 + (Am + (Ap + (L + Ar))) + F))).drop⟩
  simp only [if_neg (show ¬ 1000 ≤ ps.length by omega)]
  refine ⟨_, (s.find tb).ld0, _, _, s.ld0, s.ldB, _, (s.find b1).ldB, ?_⟩
  refine hm.set mapOk_pl (k := place x) (v := x.2.2) (s.at Am) rfl fun h6 Am hm s => ?_
  rw [setk_new hk] at hm
  refine ⟨_, _, _, (s.find b1).ld0, (s.find b1).ldB, (s.find b1).ldB, s.new (cs := [_, _, _]) fun b3 h7 _ s => ⟨_, _, _, (s.find tb).ldB, ?_⟩⟩
  have o3 : Sl tPt (some ⟨b3, 0, none⟩) 1 1 [x] (cA b3 [.int .i64 x.1, .int .i64 x.2.1, .int .i64 x.2.2] 43) := Sl.one rfl
  have s := (s.to (B := (cA b2 [.int .i64 x.1, .int .i64 x.2.1] 60 + cA b1 [.int .i64 x.1, .int .i64 x.2.1, .int .i64 x.2.2] 43) + (cA b3 [.int .i64 x.1, .int .i64 x.2.1, .int .i64 x.2.2] 43 + (cA tb [.map (some m), .slice pp parts.length pc, .slice rp rem.length rc, .int .i64 (storedOf parts : Nat), .int .i64 built] 58 + (Am + (Ap + (L + Ar))) + F)))).drop
  have a' : TreeA tb (ps ++ [(place x, x.2.2)]) parts rem built (cA tb [.map (some m), .slice pp parts.length pc, .slice rp rem.length rc, .int .i64 (storedOf parts : Nat), .int .i64 built] 58 + (Am + (Ap + (L + Ar)))) := ⟨m, pp, rp, pc, rc, bs, Am, Ap, L, Ar, hm, o1, hL, o2, rfl⟩
  generalize cA tb [.map (some m), .slice pp parts.length pc, .slice rp rem.length rc, .int .i64 (storedOf parts : Nat), .int .i64 built] 58 + (Am + (Ap + (L + Ar))) = A at *
  generalize cA b3 [.int .i64 x.1, .int .i64 x.2.1, .int .i64 x.2.2] 43 = B3 at *
  clear hm o1 hL o2
  refine ⟨fun q h' => ∃ (Q : List (List Pt)) (lst : List Pt) (Al A : Bag), q.2.1 = (Q.length : Nat) ∧ Sl tPt q.1.1 q.1.2.1 q.1.2.2 lst Al ∧ TreeA tb (ps ++ [(place x, x.2.2)]) Q rem built A ∧ mrgP Q.reverse lst = mrgP parts.reverse [x] ∧ (Q.flatten ++ lst).Perm (parts.flatten ++ [x]) ∧ (∀ P ∈ Q, P ≠ []) ∧ St h0 h' (Al + (A + F)), fun q _ => q.2.1.toNat, ⟨parts, [x], B3, A, rfl, o3, a', rfl, .refl _, ri.ne, s⟩, ?_⟩
  clear s o3 a'
  rintro ⟨⟨q, lL, lC⟩, _, _⟩ h8 ⟨Q, lst, Al, A, rfl, ol, a, hmr, hpm, hne, s⟩
  dsimp only at *
  have hll := ol.len
  have hql := parts_len hne
  have hsum : storedOf Q + lst.length = storedOf parts + 1 := by
    have := hpm.length_eq
    rw [List.length_append, List.length_append, storedOf_flat, storedOf_flat] at this
    exact this
  have hval : ∀ y ∈ Q.flatten ++ lst, vPt y = true := fun y hy => by
    rcases List.mem_append.1 (hpm.mem_iff.1 hy) with h | h
    · exact ri.val y h
    · rw [List.mem_singleton.1 h]; exact hc
  have fin : mrgP Q.reverse lst = (Q.reverse, lst) → ∀ {nx}, rangetree_Tree_Add_b4 (some ⟨tb, 0, none⟩) q lL lC h8 nx = rangetree_Tree_Add_b4 (some ⟨tb, 0, none⟩) q lL lC h8 nx := fun _ _ => rfl
  have done : mrgP Q.reverse lst = (Q.reverse, lst) → rangetree_Tree_Add_b4 (some ⟨tb, 0, none⟩) q lL lC h8 (fun v h' => v = .int .i64 0 ∧ ∃ own A', TreeA tb (ps ++ [kvOf x]) ((mrgP parts.reverse [x]).1.reverse ++ [own]) rem (built + ((mrgP parts.reverse [x]).2.length : Nat)) A' ∧ own.Perm (mrgP parts.reverse [x]).2 ∧ St h0 h' (A' + F)) := fun hm => by
    rw [rangetree_Tree_Add_b4_eq]
    refine (put_ok a (s.to (B := A + (Al + F))) (ol.rd s) (by omega) (fun y hy => (vPt_iff.1 (hval y (List.mem_append.2 (.inr hy)))).2.2) (by omega) (by omega) ⟨by omega, by omega⟩).mono fun v h9 ⟨hv, own, A', hp, ta, s⟩ => ⟨hv, rfl, own, A', ?_, ?_, (s.to (B := Al + (A' + F))).drop⟩
    · rw [← hmr, hm, List.reverse_reverse, hll]; exact ta
    · rw [← hmr, hm]; exact hp
  rw [rangetree_Tree_Add_b2_eq]
  refine condP (fun hpos => ?_) (fun hz => ?_)
  rotate_left
  · have : Q = [] := List.eq_nil_of_length_eq_zero (by omega)
    subst this
    exact done rfl
  obtain ⟨T0, P, rfl⟩ : ∃ T0 P, Q = T0 ++ [P] := by
    rcases List.eq_nil_or_concat Q with h | ⟨T, P, h⟩
    · subst h; simp at hpos
    · exact ⟨T, P, by rw [h]; simp⟩
  have hlen : (T0 ++ [P]).length = T0.length + 1 := by simp
  obtain ⟨m, pp, rp, pc, rc, bs, Am, Ap, L, Ar, hm, o1, hL, o2, rfl⟩ := a
  obtain ⟨bs0, b, L1, L2, rfl, rfl, hL1, pa⟩ := allH_snoc hL
  have hb0 := hL1.len
  have gb : (bs0 ++ [b]).getD T0.length 0 = b := by rw [← hb0]; simp [List.getD]
  obtain ⟨kp, kc, rb, K0, KL, ok, lay, rfl, hpw⟩ := pa
  have s := s.to (B := cA tb [.map (some m), .slice pp (T0 ++ [P]).length pc, .slice rp rem.length rc, .int .i64 (storedOf (T0 ++ [P]) : Nat), .int .i64 built] 58 + (Ap + (cA b [.slice kp P.length kc, ptr rb] 70 + (K0 + (Al + (KL + (Am + (L1 + (Ar + F)))))))))
  have en : Int.toNat (((T0 ++ [P]).length : Nat) - 1 : Int) = T0.length := by omega
  have gb2 : (bs0 ++ [b]).getD (Int.toNat (((T0 ++ [P]).length : Nat) - 1 : Int)) 0 = b := by rw [en]; exact gb
  have est : storedOf (T0 ++ [P]) = storedOf T0 + P.length := by rw [storedOf_app]; simp [storedOf]
  refine ⟨_, _, _, s.ldB, ⟨by omega, by omega⟩, (o1.rd (s.at Ap)).ptr (by omega) (by omega) ?_⟩
  rw [gb2]
  refine ⟨_, _, _, (s.find b).ld0, condP (fun hle => ?_) (fun hgt => done ?_)⟩
  · rw [rangetree_Tree_Add_b3_eq]
    refine ⟨_, _, _, s.ldB, ⟨by omega, by omega⟩, (o1.rd (s.at Ap)).ptr (by omega) (by omega) ?_⟩
    rw [gb2]
    refine ⟨_, _, _, (s.find b).ld0, ?_⟩
    refine append_sl ok_pts (s.at Al) ol (ok.rd (s.at K0)) (by omega) fun p' c' h9 Al' ol' s => ?_
    refine ⟨_, s.ldB, ?_⟩
    refine ⟨_, _, _, s.ldB, ⟨by omega, by omega⟩, ?_⟩
    refine (o1.rd (s.at Ap)).ptr (by omega) (by omega) ?_
    rw [gb2]
    refine ⟨_, _, _, (s.find b).ld0, ⟨by omega, by omega⟩, s.wrB fun h10 s => ⟨_, _, _, s.ldB, ⟨by omega, by omega⟩, ⟨by omega, by omega, by have := o1.cap; omega⟩, s.wrB fun h11 s => ?_⟩⟩
    rw [rangetree_Tree_Add_b5_eq]
    refine ⟨⟨by omega, by omega⟩, ⟨T0, lst ++ P, Al', cA tb [.map (some m), .slice pp T0.length pc, .slice rp rem.length rc, .int .i64 (storedOf T0 : Nat), .int .i64 built] 58 + (Am + (Ap + (L1 + Ar))), by dsimp only; omega, ol', ⟨m, pp, rp, pc, rc, bs0, Am, Ap, L1, Ar, hm, ?_, hL1, o2, rfl⟩, ?_, ?_, fun P hP => hne P (by simp [hP]), ?_⟩, by dsimp only; omega⟩
    · have := o1.take (i := T0.length) (by omega)
      rw [← hb0, List.take_left] at this
      rw [← hb0]; exact this
    · rw [← hmr, List.reverse_append]
      show _ = mrgP (P :: T0.reverse) lst
      rw [mrgP, if_pos (by omega)]
    · refine List.Perm.trans ?_ hpm
      rw [List.flatten_append, List.append_assoc]
      refine List.Perm.append_left _ ?_
      simpa using List.perm_append_comm
    · have e1 : (.int .i64 (((storedOf (T0 ++ [P]) : Nat) : Int) - (P.length : Int)) : Value) = .int .i64 ((storedOf T0 : Nat) : Int) := by rw [est]; congr 1; omega
      have e2 : (.slice (subAddr pp pc (Int.toNat (0 : Int)) 1) (Int.toNat (((T0 ++ [P]).length : Nat) - 1 : Int) - Int.toNat (0 : Int)) (pc - Int.toNat (0 : Int)) : Value) = .slice pp T0.length pc := by
        rw [en, show Int.toNat (0 : Int) = 0 from rfl, subAddr_z, Nat.sub_zero, Nat.sub_zero]
      have s := s.to (B := (cA b [.slice kp P.length kc, ptr rb] 70 + (K0 + KL)) + (Al' + (cA tb [.map (some m), .slice (subAddr pp pc (Int.toNat (0 : Int)) 1) (Int.toNat (((T0 ++ [P]).length : Nat) - 1 : Int) - Int.toNat (0 : Int)) (pc - Int.toNat (0 : Int)), .slice rp rem.length rc, .int .i64 (((storedOf (T0 ++ [P]) : Nat) : Int) - (P.length : Int)), .int .i64 built] 58 + (Am + (Ap + (L1 + Ar))) + F)))
      rw [e1, e2] at s
      exact s.drop
  · rw [List.reverse_append]
    show mrgP (P :: T0.reverse) lst = _
    rw [mrgP, if_neg (by omega)]
    rfl
theorem Remove_ok (a : TreeA tb ps parts rem built A) (s : St h0 h (A + F)) (ri : RI ps parts rem) (hb : 0 ≤ built ∧ built ≤ 100000000) (x y : Int) :
    HCalls Tryz.prog 11 #[ptr tb, .int .i64 x, .int .i64 y] h (fun v h' => (lkp ps (x, y) = none ∧ v = .int .i64 12 ∧ h' = h) ∨ ∃ w A', lkp ps (x, y) = some w ∧ v = .int .i64 0 ∧ St h0 h' (A' + F) ∧
      ((2 * (rem.length + 1) < storedOf parts ∧ TreeA tb (delk ps (x, y)) parts (rem ++ [(x, y, w)]) built A') ∨ (storedOf parts ≤ 2 * (rem.length + 1) ∧ ∃ own, own.Perm (ptsOf (delk ps (x, y))) ∧ TreeA tb (delk ps (x, y)) (if (delk ps (x, y)).length = 0 then [] else [own]) [] (built + (delk ps (x, y)).length) A'))) := by
  obtain ⟨hb1, hb2⟩ := ri.bound
  have hst := ri.stored
  have hwp := ri.wps
  obtain ⟨m, pp, rp, pc, rc, bs, Am, Ap, L, Ar, hm, o1, hL, o2, rfl⟩ := a
  have s := s.to (B := cA tb [.map (some m), .slice pp parts.length pc, .slice rp rem.length rc, .int .i64 (storedOf parts : Nat), .int .i64 built] 58 + (Am + (Ap + (L + (Ar + F)))))
  refine rangetree_Tree_Remove_call ?_
  rw [rangetree_Tree_Remove_b0_eq]
  refine condNo rfl ⟨_, s.ld0, hm.look mapOk_pl (k := (x, y)) (s.at Am) fun v b hvb => ?_⟩
  rcases hvb with ⟨hk, rfl, rfl⟩ | ⟨w, hk, rfl, rfl⟩
  · exact ⟨0, false, rfl, condYes rfl (.inl ⟨hk, rfl, rfl⟩)⟩
  refine ⟨w, true, rfl, condNo rfl ⟨_, s.ld0, hm.del mapOk_pl (k := (x, y)) (s.at Am) fun h1 Am hm s => ⟨_, _, _, s.ldB, ?_⟩⟩⟩
  have hdl := delk_len hk
  refine push_sl (cs := [_, _, _]) ok_pts (s.at Ar) o2 (x := (x, y, w)) rfl rfl (by omega) fun p' c' h3 Ar o2 s => ?_
  refine s.wrB fun h4 s => ⟨_, _, _, s.ldB, ⟨by omega, by omega⟩, _, s.ldB, ?_⟩
  have hl1 : (rem ++ [(x, y, w)]).length = rem.length + 1 := by simp
  have a' : TreeA tb (delk ps (x, y)) parts (rem ++ [(x, y, w)]) built (cA tb [.map (some m), .slice pp parts.length pc, .slice p' (rem ++ [(x, y, w)]).length c', .int .i64 (storedOf parts : Nat), .int .i64 built] 58 + (Am + (Ap + (L + Ar)))) := ⟨m, pp, p', pc, c', bs, Am, Ap, L, Ar, hm, o1, hL, by rw [hl1]; exact o2, rfl⟩
  have s : St h0 h4 (cA tb [.map (some m), .slice pp parts.length pc, .slice p' (rem ++ [(x, y, w)]).length c', .int .i64 (storedOf parts : Nat), .int .i64 built] 58 + (Am + (Ap + (L + Ar))) + F) := by
    rw [hl1]; exact s.to
  refine condP (fun hle => ?_) (fun hgt => ?_)
  · refine (renew_ok a' s (by omega) (fun z hz => hwp z ?_) ⟨by omega, by omega⟩).mono fun v h5 ⟨hv, own, A', hp, ta, s⟩ => ⟨hv, ?_⟩
    · unfold ptsOf at hz ⊢
      obtain ⟨e, he, rfl⟩ := List.mem_map.1 hz
      exact List.mem_map.2 ⟨e, delk_sub.subset he, rfl⟩
    · rw [rangetree_Tree_Remove_b1_eq]
      exact .inr ⟨w, A', hk, rfl, s, .inr ⟨by omega, own, hp, ta⟩⟩
  · rw [rangetree_Tree_Remove_b1_eq]
    exact .inr ⟨w, _, hk, rfl, s, .inl ⟨by omega, a'⟩⟩
end
end Go.Proofs.YtbfejfejahoblaaGreat
