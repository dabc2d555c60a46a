/- Part SA P44 ST N8 N9 N10 SL SB SC of the proof: contracts of functions of the program, and what follows from them. -/
import Derived.Test.YtipmcfpjdebpdaaSxSI
import Derived.Test.YtipmcfpjdebpdaaSxV
/- Sorting: insertionSort, siftDown, heapSort, reverseRange. -/
set_option maxRecDepth 100000
namespace Go.Proofs.Ytipmcfpjdebpdaa
open Go Go.Sx
/-- What a step of sorting leaves: the same elements in a range, in another order. -/
abbrev OutCI (h0 : Hp) (p : Option Addr) (n cp a b : Nat) (xs : List Int) (F : Bag) (h' : Hp) (Q : List Int → Prop) : Prop := ∃ ys A', Sl (tI 3) p n cp ys A' ∧ St h0 h' (A' + F) ∧ Swp (tI 3).d a b xs ys ∧ Q ys
theorem insertionSortCI {h0 h : Hp} {p : Option Addr} {n cp a' b' : Nat} {a b : Int} {xs : List Int} {A F : Bag} {cmp : Value} {cf : Int → Int → Int} {P : Int → Prop} (hX : CmpCI h0 F cmp cf P) (ho : OrdP (fun x y : Int => cf x y < 0)) (s : St h0 h (A + F)) (o : Sl (tI 3) p n cp xs A) (hP : ∀ k, k < n → P (xs.getD k (tI 3).d)) (ea : a = (a' : Int)) (eb : b = (b' : Int)) (ha : a' ≤ n) (hb : b' ≤ n) (hn : n < 1000000) :
    HCalls Try.prog 78 #[.slice p n cp, .int .i64 a, .int .i64 b, cmp] h (fun v h' => v = .tuple #[] ∧ OutCI h0 p n cp a' b' xs F h' (SrtR (tI 3).d (fun x y : Int => cf x y < 0) a' b')) := by
  subst ea eb
  have hl0 := o.len
  refine slices_insertionSortCmpFunc_int_call ?_
  rw [slices_insertionSortCmpFunc_int_b0_eq]
  refine ⟨⟨by omega, by omega⟩, fun i h1 => ∃ i' : Nat, i.1 = i' ∧ a' + 1 ≤ i' ∧ OutCI h0 p n cp a' b' xs F h1 (SrtR (tI 3).d (fun x y : Int => cf x y < 0) a' i'), fun i _ => (b' - i.1).toNat, ⟨a' + 1, rfl, Nat.le_refl _, xs, A, o, s, .refl _, srtR_one (by omega)⟩, ?_⟩
  rintro ⟨_, _⟩ h1 ⟨i', rfl, hi, ys, A1, o, s, w, hs⟩
  dsimp only
  rw [slices_insertionSortCmpFunc_int_b1_eq]
  refine condP (fun hlt => ?_) (fun hge => ⟨rfl, ys, A1, o, s, w, SrtR.mono hs (Nat.le_refl _) (by omega)⟩)
  refine ⟨fun j h2 => ∃ j' : Nat, j.1 = j' ∧ a' ≤ j' ∧ j' ≤ i' ∧ OutCI h0 p n cp a' b' xs F h2 (InsR (tI 3).d (fun x y : Int => cf x y < 0) a' j' i'), fun j _ => j.1.toNat, ⟨i', rfl, by omega, by omega, ys, A1, o, s, w, ins_start hs⟩, ?_⟩
  clear hs w s o ys
  rintro ⟨_, _⟩ h2 ⟨j', rfl, hj1, hj2, ys, A1, o, s, w, hs⟩
  dsimp only
  have hl := o.len
  have hP := w.allN hl0 hP
  have fin : ∀ h3, St h0 h3 (A1 + F) → (a' < j' → ¬ (fun x y : Int => cf x y < 0) (ys.getD j' (tI 3).d) (ys.getD (j' - 1) (tI 3).d)) → slices_insertionSortCmpFunc_int_b4 p n cp a' b' cmp i' h3 (fun s' h' => (∃ i' : Nat, s'.1 = i' ∧ a' + 1 ≤ i' ∧ OutCI h0 p n cp a' b' xs F h' (SrtR (tI 3).d (fun x y : Int => cf x y < 0) a' i')) ∧ (b' - s'.1).toNat < (b' - (i' : Int)).toNat) (fun v h' => v = .tuple #[] ∧ OutCI h0 p n cp a' b' xs F h' (SrtR (tI 3).d (fun x y : Int => cf x y < 0) a' b')) := by
    intro h3 s hx
    rw [slices_insertionSortCmpFunc_int_b4_eq]
    exact ⟨⟨by omega, by omega⟩, ⟨i' + 1, by push_cast; rfl, by omega, ys, A1, o, s, w, ins_end ho hj1 hs hx⟩, by omega⟩
  rw [slices_insertionSortCmpFunc_int_b2_eq]
  refine condP (fun hj => ?_) (fun hj => fin _ s fun h => by omega)
  have r := o.rd s
  refine ldOI (i' := j') r rfl (by omega) ⟨⟨by omega, by omega⟩, ldOI (i' := j' - 1) r (by omega) (by omega) ?_⟩
  refine hX _ _ _ _ _ (s.at F) (hP _ (by omega)) (hP _ (by omega)) fun h5 e5 => ⟨_, rfl, ?_⟩; have s := s.grow e5
  refine condP (fun hc => ?_) (fun hc => fin _ s fun _ => hc)
  rw [slices_insertionSortCmpFunc_int_b3_eq]
  refine ⟨⟨by omega, by omega⟩, ⟨by omega, by omega⟩, ?_⟩
  refine swOI (u' := j') (v' := j' - 1) o s rfl (by omega) (by omega) (by omega) fun h6 A6 o6 s6 => ?_
  rw [slices_insertionSortCmpFunc_int_b5_eq]
  exact ⟨⟨by omega, by omega⟩, ⟨j' - 1, by omega, by omega, by omega, _, A6, o6, s6, .step w (by omega) (by omega) (by omega) (by omega) (by omega), ins_swap ho (by omega) hj2 (by omega) hs hc⟩, by omega⟩
theorem siftDownCI {h0 h : Hp} {p : Option Addr} {n cp lo' hi' f' : Nat} {lo hi f : Int} {xs : List Int} {A F : Bag} {cmp : Value} {cf : Int → Int → Int} {P : Int → Prop} (hX : CmpCI h0 F cmp cf P) (ho : OrdP (fun x y : Int => cf x y < 0)) (s : St h0 h (A + F)) (o : Sl (tI 3) p n cp xs A) (hP : ∀ k, k < n → P (xs.getD k (tI 3).d)) (el : lo = (lo' : Int)) (eh : hi = (hi' : Int)) (ef : f = (f' : Int)) (hf : f' + hi' ≤ n) (hlo : lo' ≤ n) (hn : n < 1000000)
    (hx : HeapX (tI 3).d (fun x y : Int => cf x y < 0) f' lo' hi' lo' xs) :
    HCalls Try.prog 94 #[.slice p n cp, .int .i64 lo, .int .i64 hi, .int .i64 f, cmp] h (fun v h' => v = .tuple #[] ∧ OutCI h0 p n cp (f' + lo') (f' + hi') xs F h' (HeapR (tI 3).d (fun x y : Int => cf x y < 0) f' lo' hi')) := by
  subst el eh ef
  have hl0 := o.len
  refine slices_siftDownCmpFunc_int_call ?_
  rw [slices_siftDownCmpFunc_int_b0_eq]
  refine ⟨fun i h1 => ∃ r : Nat, i.1 = r ∧ lo' ≤ r ∧ r ≤ n ∧ OutCI h0 p n cp (f' + lo') (f' + hi') xs F h1 (HeapX (tI 3).d (fun x y : Int => cf x y < 0) f' lo' hi' r), fun i _ => (hi' - i.1).toNat, ⟨lo', rfl, Nat.le_refl _, hlo, xs, A, o, s, .refl _, hx⟩, ?_⟩
  rintro ⟨_, _⟩ h1 ⟨r, rfl, hr, hrn, ys, A1, o, s, w, hs⟩
  dsimp only
  have hl := o.len
  have hP := w.allN hl0 hP
  rw [slices_siftDownCmpFunc_int_b1_eq]
  refine ⟨⟨by omega, by omega⟩, ⟨by omega, by omega⟩, condP (fun hle => ⟨rfl, ys, A1, o, s, w, heap_stop hs fun c h1 h2 => by omega⟩) (fun hle => ⟨⟨by omega, by omega⟩, ?_⟩)⟩
  have fin : ∀ (ch : Nat) (h3 : Hp) (ci : Int), ci = (ch : Int) → St h0 h3 (A1 + F) → (ch = 2 * r + 1 ∨ ch = 2 * r + 2) → ch < hi' → (∀ c, (c = 2 * r + 1 ∨ c = 2 * r + 2) → c < hi' → ¬ (fun x y : Int => cf x y < 0) (ys.getD (f' + ch) (tI 3).d) (ys.getD (f' + c) (tI 3).d)) →
      slices_siftDownCmpFunc_int_b2 p n cp hi' f' cmp r ci h3 (fun s' h' => (∃ r : Nat, s'.1 = r ∧ lo' ≤ r ∧ r ≤ n ∧ OutCI h0 p n cp (f' + lo') (f' + hi') xs F h' (HeapX (tI 3).d (fun x y : Int => cf x y < 0) f' lo' hi' r)) ∧ (hi' - s'.1).toNat < (hi' - (r : Int)).toNat) (fun v h' => v = .tuple #[] ∧ OutCI h0 p n cp (f' + lo') (f' + hi') xs F h' (HeapR (tI 3).d (fun x y : Int => cf x y < 0) f' lo' hi')) := by
    rintro ch h3 _ rfl s hc1 hc2 hmax
    rw [slices_siftDownCmpFunc_int_b2_eq]
    have rd := o.rd s
    refine ⟨⟨by omega, by omega⟩, ldOI (i' := f' + r) rd (by omega) (by omega) ⟨⟨by omega, by omega⟩, ldOI (i' := f' + ch) rd (by omega) (by omega) ?_⟩⟩
    refine hX _ _ _ _ _ (s.at F) (hP _ (by omega)) (hP _ (by omega)) fun h5 e5 => ⟨_, rfl, ?_⟩; have s := s.grow e5
    refine condN (fun hc => ⟨rfl, ys, A1, o, s, w, heap_stop hs fun c k1 k2 k3 => ho.trans _ _ _ (hmax c k1 k2) hc k3⟩) (fun hc => ⟨⟨by omega, by omega⟩, ⟨by omega, by omega⟩, ⟨by omega, by omega⟩, ?_⟩)
    refine swOIx ⟨by omega, by omega⟩ (u' := f' + r) (v' := f' + ch) o s (by omega) (by omega) (by omega) (by omega) fun h6 A6 o6 s6 => ?_
    exact ⟨⟨ch, rfl, by omega, by omega, _, A6, o6, s6, .step (i := f' + r) (j := f' + ch) w (by omega) (by omega) (by omega) (by omega) (by omega), heap_swap ho hs hc1 hc2 (by omega) hc hmax hr⟩, by omega⟩
  refine condP (fun h2 => ?_) (fun h2 => fin (2 * r + 1) _ _ (by omega) s (.inl rfl) (by omega) fun c k1 k2 => ?_)
  · have rd := o.rd s
    refine ⟨⟨by omega, by omega⟩, ldOI (i' := f' + (2 * r + 1)) rd (by omega) (by omega) ⟨⟨by omega, by omega⟩, ⟨by omega, by omega⟩, ldOI (i' := f' + (2 * r + 2)) rd (by omega) (by omega) ?_⟩⟩
    refine hX _ _ _ _ _ (s.at F) (hP _ (by omega)) (hP _ (by omega)) fun h5 e5 => ⟨_, rfl, ?_⟩; have s := s.grow e5
    refine condP (fun hc => ⟨⟨by omega, by omega⟩, fin (2 * r + 2) _ _ (by push_cast; rfl) s (.inr rfl) (by omega) fun c k1 k2 => ?_⟩) (fun hc => fin (2 * r + 1) _ _ (by omega) s (.inl rfl) (by omega) fun c k1 k2 => ?_)
    · rcases k1 with rfl | rfl
      · exact ho.asymm _ _ hc
      · exact ho.irr _
    · rcases k1 with rfl | rfl
      · exact ho.irr _
      · exact hc
  · rcases k1 with rfl | rfl
    · exact ho.irr _
    · omega
theorem heapSortCI {h0 h : Hp} {p : Option Addr} {n cp a' b' : Nat} {a b : Int} {xs : List Int} {A F : Bag} {cmp : Value} {cf : Int → Int → Int} {P : Int → Prop} (hX : CmpCI h0 F cmp cf P) (ho : OrdP (fun x y : Int => cf x y < 0)) (s : St h0 h (A + F)) (o : Sl (tI 3) p n cp xs A) (hP : ∀ k, k < n → P (xs.getD k (tI 3).d)) (ea : a = (a' : Int)) (eb : b = (b' : Int)) (hab : a' < b') (hb : b' ≤ n) (hn : n < 1000000) :
    HCalls Try.prog 79 #[.slice p n cp, .int .i64 a, .int .i64 b, cmp] h (fun v h' => v = .tuple #[] ∧ OutCI h0 p n cp a' b' xs F h' (SrtR (tI 3).d (fun x y : Int => cf x y < 0) a' b')) := by
  subst ea eb
  have hl0 := o.len
  refine slices_heapSortCmpFunc_int_call ?_
  rw [slices_heapSortCmpFunc_int_b0_eq]
  refine ⟨⟨by omega, by omega⟩, ⟨by omega, by omega⟩, quo_intro (by omega) (by omega) (by omega) ?_⟩
  obtain ⟨q, hq⟩ : ∃ q : Nat, ((b' : Int) - a' - 1) / 2 + 1 = q := ⟨(((b' : Int) - a' - 1) / 2 + 1).toNat, by omega⟩
  refine ⟨fun i h1 => ∃ m : Nat, i.1 = (m : Int) - 1 ∧ m ≤ b' - a' ∧ OutCI h0 p n cp a' b' xs F h1 (HeapR (tI 3).d (fun x y : Int => cf x y < 0) a' m (b' - a')), fun i _ => (i.1 + 1).toNat, ⟨q, by show _ / _ = _; omega, by omega, xs, A, o, s, .refl _, fun k c k1 k2 k3 => by omega⟩, ?_⟩
  rintro ⟨_, _⟩ h1 ⟨m, rfl, hm, ys, A1, o, s, w, hs⟩
  dsimp only
  have hl := o.len
  have hPy := w.allN hl0 hP
  rw [slices_heapSortCmpFunc_int_b1_eq]
  refine condP (fun hi => ?_) (fun hi => ?_)
  · refine (siftDownCI hX ho s o hPy (lo' := m - 1) (hi' := b' - a') (f' := a') (by omega) (by omega) rfl (by omega) (by omega) hn ⟨fun k c k1 k2 k3 k4 => hs k c (by omega) k2 k3, fun k c k1 k2 => by omega⟩).mono fun v h2 ⟨hv, zs, A2, o2, s2, w2, hs2⟩ => ⟨hv, ?_⟩
    rw [slices_heapSortCmpFunc_int_b2_eq]
    exact ⟨⟨by omega, by omega⟩, ⟨m - 1, by omega, by omega, zs, A2, o2, s2, w.trans (w2.mono (by omega) (by omega) (by omega)).1, hs2⟩, by omega⟩
  · obtain rfl : m = 0 := by omega
    rw [slices_heapSortCmpFunc_int_b3_eq]
    refine ⟨⟨by omega, by omega⟩, ?_⟩
    refine ⟨fun i h1 => ∃ m : Nat, i.1 = (m : Int) - 1 ∧ m ≤ b' - a' ∧ OutCI h0 p n cp a' b' xs F h1 (fun ys => HeapR (tI 3).d (fun x y : Int => cf x y < 0) a' 0 m ys ∧ OutR (tI 3).d (fun x y : Int => cf x y < 0) a' b' a' (a' + m) ys), fun i _ => (i.1 + 1).toNat, ⟨b' - a', by show (_ : Int) - 1 = _; omega, by omega, ys, A1, o, s, w, hs, by rw [show a' + (b' - a') = b' by omega]; exact outR_start⟩, ?_⟩
    clear hs w s o hl hPy ys
    rintro ⟨_, _⟩ h2 ⟨m, rfl, hm, ys, A1, o, s, w, hs, ho2⟩
    dsimp only
    have hl := o.len
    rw [slices_heapSortCmpFunc_int_b4_eq]
    refine condP (fun hi => ⟨⟨by omega, by omega⟩, ⟨by omega, by omega⟩, ?_⟩) (fun hi => ?_)
    · refine swOI (u' := a') (v' := a' + (m - 1)) o s rfl (by omega) (by omega) (by omega) fun h6 A6 o6 s6 => ?_
      have w1 : Swp (tI 3).d a' (a' + m) ys (swapL (tI 3).d ys a' (a' + (m - 1))) := .one (by omega) (by omega) (by omega) (by omega) (by omega)
      have w6 := w.trans (w1.mono (Nat.le_refl _) (by omega) (by omega)).1
      have hg : ∀ k, (swapL (tI 3).d ys a' (a' + (m - 1))).getD k (tI 3).d = if k = a' + (m - 1) then ys.getD a' (tI 3).d else if k = a' then ys.getD (a' + (m - 1)) (tI 3).d else ys.getD k (tI 3).d := swapL_get (by omega) (by omega)
      have ho6 : OutR (tI 3).d (fun x y : Int => cf x y < 0) a' b' a' (a' + (m - 1)) (swapL (tI 3).d ys a' (a' + (m - 1))) := by
        intro p q k1 k2 k3 k4
        by_cases hq : q = a' + (m - 1)
        · rw [hq, hg, if_pos rfl]
          exact w1.all (P := fun x => ¬ (fun x y : Int => cf x y < 0) (ys.getD a' (tI 3).d) x) (fun k j1 j2 => by
            have := heap_max ho hs (k - a') (by omega)
            rwa [show a' + (k - a') = k by omega] at this) p k1 (by omega)
        · exact outR_swp (Nat.le_refl _) (by omega) ho2 w1 p q k1 k2 k3 (by omega)
      generalize swapL (tI 3).d ys a' (a' + (m - 1)) = us at *
      refine (siftDownCI hX ho s6 o6 (w6.allN hl0 hP) (lo' := 0) (hi' := m - 1) (f' := a') (by rfl) (by omega) rfl (by omega) (by omega) hn ⟨fun k c k1 k2 k3 k4 => ?_, fun k c k1 k2 => by omega⟩).mono fun v h2 ⟨hv, zs, A2, o2, s2, w2, hs2⟩ => ⟨hv, ?_⟩
      · rw [hg, hg, if_neg (by omega), if_neg (by omega), if_neg (by omega), if_neg (by omega)]
        exact hs k c (by omega) k2 (by omega)
      · rw [slices_heapSortCmpFunc_int_b5_eq]
        exact ⟨⟨by omega, by omega⟩, ⟨m - 1, by omega, by omega, zs, A2, o2, s2, w6.trans (w2.mono (by omega) (by omega) (by rw [w6.len]; omega)).1, hs2, outR_swp (Nat.le_refl _) (by omega) ho6 w2⟩, by omega⟩
    · obtain rfl : m = 0 := by omega
      exact ⟨rfl, ys, A1, o, s, w, outR_done ho2 (srtR_one (by omega))⟩
theorem reverseRangeCI {h0 h : Hp} {p : Option Addr} {n cp a' b' : Nat} {a b : Int} {xs : List Int} {A F : Bag} {cmp : Value} (s : St h0 h (A + F)) (o : Sl (tI 3) p n cp xs A) (ea : a = (a' : Int)) (eb : b = (b' : Int)) (hab : a' ≤ b') (hb : b' ≤ n) (hn : n < 1000000) :
    HCalls Try.prog 82 #[.slice p n cp, .int .i64 a, .int .i64 b, cmp] h (fun v h' => v = .tuple #[] ∧ OutCI h0 p n cp a' b' xs F h' fun _ => True) := by
  subst ea eb
  have hl0 := o.len
  refine slices_reverseRangeCmpFunc_int_call ?_
  rw [slices_reverseRangeCmpFunc_int_b0_eq]
  refine ⟨⟨by omega, by omega⟩, fun i h1 => ∃ i' : Nat, i.1 = i' ∧ a' ≤ i' ∧ i.2.1 < b' ∧ i' ≤ n ∧ -1 ≤ i.2.1 ∧ OutCI h0 p n cp a' b' xs F h1 fun _ => True, fun i _ => (i.2.1 - i.1).toNat, ⟨a', rfl, Nat.le_refl _, by show (_ : Int) - 1 < _; omega, by omega, by show -1 ≤ (_ : Int) - 1; omega, xs, A, o, s, .refl _, trivial⟩, ?_⟩
  rintro ⟨_, j, _⟩ h1 ⟨i', rfl, hi, hj, hin, hj1, ys, A1, o, s, w, _⟩
  dsimp only at hj hj1 ⊢
  have hl := o.len
  rw [slices_reverseRangeCmpFunc_int_b1_eq]
  refine condP (fun hlt => ?_) (fun hlt => ⟨rfl, ys, A1, o, s, w, trivial⟩)
  refine swOI (u' := i') (v' := j.toNat) o s rfl (by omega) (by omega) (by omega) fun h6 A6 o6 s6 => ?_
  exact ⟨⟨by omega, by omega⟩, ⟨by omega, by omega⟩, ⟨i' + 1, by push_cast; rfl, by omega, by show j - 1 < _; omega, by omega, by show -1 ≤ j - 1; omega, _, A6, o6, s6, .step w (by omega) (by omega) (by omega) (by omega) (by omega), trivial⟩, by dsimp only; omega⟩
/-- What a step of sorting leaves: the same elements in a range, in another order. -/
abbrev OutOI (h0 : Hp) (p : Option Addr) (n cp a b : Nat) (xs : List Int) (F : Bag) (h' : Hp) (Q : List Int → Prop) : Prop := ∃ ys A', Sl (tI 3) p n cp ys A' ∧ St h0 h' (A' + F) ∧ Swp (tI 3).d a b xs ys ∧ Q ys
theorem insertionSortOI {h0 h : Hp} {p : Option Addr} {n cp a' b' : Nat} {a b : Int} {xs : List Int} {A F : Bag} {P : Int → Prop} (s : St h0 h (A + F)) (o : Sl (tI 3) p n cp xs A) (hP : ∀ k, k < n → P (xs.getD k (tI 3).d)) (ea : a = (a' : Int)) (eb : b = (b' : Int)) (ha : a' ≤ n) (hb : b' ≤ n) (hn : n < 1000000) :
    HCalls Try.prog 67 #[.slice p n cp, .int .i64 a, .int .i64 b] h (fun v h' => v = .tuple #[] ∧ OutOI h0 p n cp a' b' xs F h' (SrtR (tI 3).d (fun x y : Int => x < y) a' b')) := by
  subst ea eb
  have hl0 := o.len
  refine slices_insertionSortOrdered_int_call ?_
  rw [slices_insertionSortOrdered_int_b0_eq]
  refine ⟨⟨by omega, by omega⟩, fun i h1 => ∃ i' : Nat, i.1 = i' ∧ a' + 1 ≤ i' ∧ OutOI h0 p n cp a' b' xs F h1 (SrtR (tI 3).d (fun x y : Int => x < y) a' i'), fun i _ => (b' - i.1).toNat, ⟨a' + 1, rfl, Nat.le_refl _, xs, A, o, s, .refl _, srtR_one (by omega)⟩, ?_⟩
  rintro ⟨_, _⟩ h1 ⟨i', rfl, hi, ys, A1, o, s, w, hs⟩
  dsimp only
  rw [slices_insertionSortOrdered_int_b1_eq]
  refine condP (fun hlt => ?_) (fun hge => ⟨rfl, ys, A1, o, s, w, SrtR.mono hs (Nat.le_refl _) (by omega)⟩)
  refine ⟨fun j h2 => ∃ j' : Nat, j.1 = j' ∧ a' ≤ j' ∧ j' ≤ i' ∧ OutOI h0 p n cp a' b' xs F h2 (InsR (tI 3).d (fun x y : Int => x < y) a' j' i'), fun j _ => j.1.toNat, ⟨i', rfl, by omega, by omega, ys, A1, o, s, w, ins_start hs⟩, ?_⟩
  clear hs w s o ys
  rintro ⟨_, _⟩ h2 ⟨j', rfl, hj1, hj2, ys, A1, o, s, w, hs⟩
  dsimp only
  have hl := o.len
  have hP := w.allN hl0 hP
  have fin : ∀ h3, St h0 h3 (A1 + F) → (a' < j' → ¬ (fun x y : Int => x < y) (ys.getD j' (tI 3).d) (ys.getD (j' - 1) (tI 3).d)) → slices_insertionSortOrdered_int_b4 p n cp a' b' i' h3 (fun s' h' => (∃ i' : Nat, s'.1 = i' ∧ a' + 1 ≤ i' ∧ OutOI h0 p n cp a' b' xs F h' (SrtR (tI 3).d (fun x y : Int => x < y) a' i')) ∧ (b' - s'.1).toNat < (b' - (i' : Int)).toNat) (fun v h' => v = .tuple #[] ∧ OutOI h0 p n cp a' b' xs F h' (SrtR (tI 3).d (fun x y : Int => x < y) a' b')) := by
    intro h3 s hx
    rw [slices_insertionSortOrdered_int_b4_eq]
    exact ⟨⟨by omega, by omega⟩, ⟨i' + 1, by push_cast; rfl, by omega, ys, A1, o, s, w, ins_end ordI hj1 hs hx⟩, by omega⟩
  rw [slices_insertionSortOrdered_int_b2_eq]
  refine condP (fun hj => ?_) (fun hj => fin _ s fun h => by omega)
  have r := o.rd s
  refine ldOI (i' := j') r rfl (by omega) ⟨⟨by omega, by omega⟩, ldOI (i' := j' - 1) r (by omega) (by omega) ?_⟩
  refine ⟨_, (Less_ok _ _ _).mono fun v9 h9 ⟨hh9, hv9⟩ => ⟨hv9, hh9⟩, ?_⟩
  refine condP (fun hc => ?_) (fun hc => fin _ s fun _ => hc)
  rw [slices_insertionSortOrdered_int_b3_eq]
  refine ⟨⟨by omega, by omega⟩, ⟨by omega, by omega⟩, ?_⟩
  refine swOI (u' := j') (v' := j' - 1) o s rfl (by omega) (by omega) (by omega) fun h6 A6 o6 s6 => ?_
  rw [slices_insertionSortOrdered_int_b5_eq]
  exact ⟨⟨by omega, by omega⟩, ⟨j' - 1, by omega, by omega, by omega, _, A6, o6, s6, .step w (by omega) (by omega) (by omega) (by omega) (by omega), ins_swap ordI (by omega) hj2 (by omega) hs hc⟩, by omega⟩
theorem siftDownOI {h0 h : Hp} {p : Option Addr} {n cp lo' hi' f' : Nat} {lo hi f : Int} {xs : List Int} {A F : Bag} {P : Int → Prop} (s : St h0 h (A + F)) (o : Sl (tI 3) p n cp xs A) (hP : ∀ k, k < n → P (xs.getD k (tI 3).d)) (el : lo = (lo' : Int)) (eh : hi = (hi' : Int)) (ef : f = (f' : Int)) (hf : f' + hi' ≤ n) (hlo : lo' ≤ n) (hn : n < 1000000)
    (hx : HeapX (tI 3).d (fun x y : Int => x < y) f' lo' hi' lo' xs) :
    HCalls Try.prog 89 #[.slice p n cp, .int .i64 lo, .int .i64 hi, .int .i64 f] h (fun v h' => v = .tuple #[] ∧ OutOI h0 p n cp (f' + lo') (f' + hi') xs F h' (HeapR (tI 3).d (fun x y : Int => x < y) f' lo' hi')) := by
  subst el eh ef
  have hl0 := o.len
  refine slices_siftDownOrdered_int_call ?_
  rw [slices_siftDownOrdered_int_b0_eq]
  refine ⟨fun i h1 => ∃ r : Nat, i.1 = r ∧ lo' ≤ r ∧ r ≤ n ∧ OutOI h0 p n cp (f' + lo') (f' + hi') xs F h1 (HeapX (tI 3).d (fun x y : Int => x < y) f' lo' hi' r), fun i _ => (hi' - i.1).toNat, ⟨lo', rfl, Nat.le_refl _, hlo, xs, A, o, s, .refl _, hx⟩, ?_⟩
  rintro ⟨_, _⟩ h1 ⟨r, rfl, hr, hrn, ys, A1, o, s, w, hs⟩
  dsimp only
  have hl := o.len
  have hP := w.allN hl0 hP
  rw [slices_siftDownOrdered_int_b1_eq]
  refine ⟨⟨by omega, by omega⟩, ⟨by omega, by omega⟩, condP (fun hle => ⟨rfl, ys, A1, o, s, w, heap_stop hs fun c h1 h2 => by omega⟩) (fun hle => ⟨⟨by omega, by omega⟩, ?_⟩)⟩
  have fin : ∀ (ch : Nat) (h3 : Hp) (ci : Int), ci = (ch : Int) → St h0 h3 (A1 + F) → (ch = 2 * r + 1 ∨ ch = 2 * r + 2) → ch < hi' → (∀ c, (c = 2 * r + 1 ∨ c = 2 * r + 2) → c < hi' → ¬ (fun x y : Int => x < y) (ys.getD (f' + ch) (tI 3).d) (ys.getD (f' + c) (tI 3).d)) →
      slices_siftDownOrdered_int_b2 p n cp hi' f' r ci h3 (fun s' h' => (∃ r : Nat, s'.1 = r ∧ lo' ≤ r ∧ r ≤ n ∧ OutOI h0 p n cp (f' + lo') (f' + hi') xs F h' (HeapX (tI 3).d (fun x y : Int => x < y) f' lo' hi' r)) ∧ (hi' - s'.1).toNat < (hi' - (r : Int)).toNat) (fun v h' => v = .tuple #[] ∧ OutOI h0 p n cp (f' + lo') (f' + hi') xs F h' (HeapR (tI 3).d (fun x y : Int => x < y) f' lo' hi')) := by
    rintro ch h3 _ rfl s hc1 hc2 hmax
    rw [slices_siftDownOrdered_int_b2_eq]
    have rd := o.rd s
    refine ⟨⟨by omega, by omega⟩, ldOI (i' := f' + r) rd (by omega) (by omega) ⟨⟨by omega, by omega⟩, ldOI (i' := f' + ch) rd (by omega) (by omega) ?_⟩⟩
    refine ⟨_, (Less_ok _ _ _).mono fun v9 h9 ⟨hh9, hv9⟩ => ⟨hv9, hh9⟩, ?_⟩
    refine condN (fun hc => ⟨rfl, ys, A1, o, s, w, heap_stop hs fun c k1 k2 k3 => ordI.trans _ _ _ (hmax c k1 k2) hc k3⟩) (fun hc => ⟨⟨by omega, by omega⟩, ⟨by omega, by omega⟩, ⟨by omega, by omega⟩, ?_⟩)
    refine swOIx ⟨by omega, by omega⟩ (u' := f' + r) (v' := f' + ch) o s (by omega) (by omega) (by omega) (by omega) fun h6 A6 o6 s6 => ?_
    exact ⟨⟨ch, rfl, by omega, by omega, _, A6, o6, s6, .step (i := f' + r) (j := f' + ch) w (by omega) (by omega) (by omega) (by omega) (by omega), heap_swap ordI hs hc1 hc2 (by omega) hc hmax hr⟩, by omega⟩
  refine condP (fun h2 => ?_) (fun h2 => fin (2 * r + 1) _ _ (by omega) s (.inl rfl) (by omega) fun c k1 k2 => ?_)
  · have rd := o.rd s
    refine ⟨⟨by omega, by omega⟩, ldOI (i' := f' + (2 * r + 1)) rd (by omega) (by omega) ⟨⟨by omega, by omega⟩, ⟨by omega, by omega⟩, ldOI (i' := f' + (2 * r + 2)) rd (by omega) (by omega) ?_⟩⟩
    refine ⟨_, (Less_ok _ _ _).mono fun v9 h9 ⟨hh9, hv9⟩ => ⟨hv9, hh9⟩, ?_⟩
    refine condP (fun hc => ⟨⟨by omega, by omega⟩, fin (2 * r + 2) _ _ (by push_cast; rfl) s (.inr rfl) (by omega) fun c k1 k2 => ?_⟩) (fun hc => fin (2 * r + 1) _ _ (by omega) s (.inl rfl) (by omega) fun c k1 k2 => ?_)
    · rcases k1 with rfl | rfl
      · exact ordI.asymm _ _ hc
      · exact ordI.irr _
    · rcases k1 with rfl | rfl
      · exact ordI.irr _
      · exact hc
  · rcases k1 with rfl | rfl
    · exact ordI.irr _
    · omega
theorem heapSortOI {h0 h : Hp} {p : Option Addr} {n cp a' b' : Nat} {a b : Int} {xs : List Int} {A F : Bag} {P : Int → Prop} (s : St h0 h (A + F)) (o : Sl (tI 3) p n cp xs A) (hP : ∀ k, k < n → P (xs.getD k (tI 3).d)) (ea : a = (a' : Int)) (eb : b = (b' : Int)) (hab : a' < b') (hb : b' ≤ n) (hn : n < 1000000) :
    HCalls Try.prog 68 #[.slice p n cp, .int .i64 a, .int .i64 b] h (fun v h' => v = .tuple #[] ∧ OutOI h0 p n cp a' b' xs F h' (SrtR (tI 3).d (fun x y : Int => x < y) a' b')) := by
  subst ea eb
  have hl0 := o.len
  refine slices_heapSortOrdered_int_call ?_
  rw [slices_heapSortOrdered_int_b0_eq]
  refine ⟨⟨by omega, by omega⟩, ⟨by omega, by omega⟩, quo_intro (by omega) (by omega) (by omega) ?_⟩
  obtain ⟨q, hq⟩ : ∃ q : Nat, ((b' : Int) - a' - 1) / 2 + 1 = q := ⟨(((b' : Int) - a' - 1) / 2 + 1).toNat, by omega⟩
  refine ⟨fun i h1 => ∃ m : Nat, i.1 = (m : Int) - 1 ∧ m ≤ b' - a' ∧ OutOI h0 p n cp a' b' xs F h1 (HeapR (tI 3).d (fun x y : Int => x < y) a' m (b' - a')), fun i _ => (i.1 + 1).toNat, ⟨q, by show _ / _ = _; omega, by omega, xs, A, o, s, .refl _, fun k c k1 k2 k3 => by omega⟩, ?_⟩
  rintro ⟨_, _⟩ h1 ⟨m, rfl, hm, ys, A1, o, s, w, hs⟩
  dsimp only
  have hl := o.len
  have hPy := w.allN hl0 hP
  rw [slices_heapSortOrdered_int_b1_eq]
  refine condP (fun hi => ?_) (fun hi => ?_)
  · refine (siftDownOI  s o hPy (lo' := m - 1) (hi' := b' - a') (f' := a') (by omega) (by omega) rfl (by omega) (by omega) hn ⟨fun k c k1 k2 k3 k4 => hs k c (by omega) k2 k3, fun k c k1 k2 => by omega⟩).mono fun v h2 ⟨hv, zs, A2, o2, s2, w2, hs2⟩ => ⟨hv, ?_⟩
    rw [slices_heapSortOrdered_int_b2_eq]
    exact ⟨⟨by omega, by omega⟩, ⟨m - 1, by omega, by omega, zs, A2, o2, s2, w.trans (w2.mono (by omega) (by omega) (by omega)).1, hs2⟩, by omega⟩
  · obtain rfl : m = 0 := by omega
    rw [slices_heapSortOrdered_int_b3_eq]
    refine ⟨⟨by omega, by omega⟩, ?_⟩
    refine ⟨fun i h1 => ∃ m : Nat, i.1 = (m : Int) - 1 ∧ m ≤ b' - a' ∧ OutOI h0 p n cp a' b' xs F h1 (fun ys => HeapR (tI 3).d (fun x y : Int => x < y) a' 0 m ys ∧ OutR (tI 3).d (fun x y : Int => x < y) a' b' a' (a' + m) ys), fun i _ => (i.1 + 1).toNat, ⟨b' - a', by show (_ : Int) - 1 = _; omega, by omega, ys, A1, o, s, w, hs, by rw [show a' + (b' - a') = b' by omega]; exact outR_start⟩, ?_⟩
    clear hs w s o hl hPy ys
    rintro ⟨_, _⟩ h2 ⟨m, rfl, hm, ys, A1, o, s, w, hs, ho2⟩
    dsimp only
    have hl := o.len
    rw [slices_heapSortOrdered_int_b4_eq]
    refine condP (fun hi => ⟨⟨by omega, by omega⟩, ⟨by omega, by omega⟩, ?_⟩) (fun hi => ?_)
    · refine swOI (u' := a') (v' := a' + (m - 1)) o s rfl (by omega) (by omega) (by omega) fun h6 A6 o6 s6 => ?_
      have w1 : Swp (tI 3).d a' (a' + m) ys (swapL (tI 3).d ys a' (a' + (m - 1))) := .one (by omega) (by omega) (by omega) (by omega) (by omega)
      have w6 := w.trans (w1.mono (Nat.le_refl _) (by omega) (by omega)).1
      have hg : ∀ k, (swapL (tI 3).d ys a' (a' + (m - 1))).getD k (tI 3).d = if k = a' + (m - 1) then ys.getD a' (tI 3).d else if k = a' then ys.getD (a' + (m - 1)) (tI 3).d else ys.getD k (tI 3).d := swapL_get (by omega) (by omega)
      have ho6 : OutR (tI 3).d (fun x y : Int => x < y) a' b' a' (a' + (m - 1)) (swapL (tI 3).d ys a' (a' + (m - 1))) := by
        intro p q k1 k2 k3 k4
        by_cases hq : q = a' + (m - 1)
        · rw [hq, hg, if_pos rfl]
          exact w1.all (P := fun x => ¬ (fun x y : Int => x < y) (ys.getD a' (tI 3).d) x) (fun k j1 j2 => by
            have := heap_max ordI hs (k - a') (by omega)
            rwa [show a' + (k - a') = k by omega] at this) p k1 (by omega)
        · exact outR_swp (Nat.le_refl _) (by omega) ho2 w1 p q k1 k2 k3 (by omega)
      generalize swapL (tI 3).d ys a' (a' + (m - 1)) = us at *
      refine (siftDownOI  s6 o6 (w6.allN hl0 hP) (lo' := 0) (hi' := m - 1) (f' := a') (by rfl) (by omega) rfl (by omega) (by omega) hn ⟨fun k c k1 k2 k3 k4 => ?_, fun k c k1 k2 => by omega⟩).mono fun v h2 ⟨hv, zs, A2, o2, s2, w2, hs2⟩ => ⟨hv, ?_⟩
      · rw [hg, hg, if_neg (by omega), if_neg (by omega), if_neg (by omega), if_neg (by omega)]
        exact hs k c (by omega) k2 (by omega)
      · rw [slices_heapSortOrdered_int_b5_eq]
        exact ⟨⟨by omega, by omega⟩, ⟨m - 1, by omega, by omega, zs, A2, o2, s2, w6.trans (w2.mono (by omega) (by omega) (by rw [w6.len]; omega)).1, hs2, outR_swp (Nat.le_refl _) (by omega) ho6 w2⟩, by omega⟩
    · obtain rfl : m = 0 := by omega
      exact ⟨rfl, ys, A1, o, s, w, outR_done ho2 (srtR_one (by omega))⟩
theorem reverseRangeOI {h0 h : Hp} {p : Option Addr} {n cp a' b' : Nat} {a b : Int} {xs : List Int} {A F : Bag} (s : St h0 h (A + F)) (o : Sl (tI 3) p n cp xs A) (ea : a = (a' : Int)) (eb : b = (b' : Int)) (hab : a' ≤ b') (hb : b' ≤ n) (hn : n < 1000000) :
    HCalls Try.prog 71 #[.slice p n cp, .int .i64 a, .int .i64 b] h (fun v h' => v = .tuple #[] ∧ OutOI h0 p n cp a' b' xs F h' fun _ => True) := by
  subst ea eb
  have hl0 := o.len
  refine slices_reverseRangeOrdered_int_call ?_
  rw [slices_reverseRangeOrdered_int_b0_eq]
  refine ⟨⟨by omega, by omega⟩, fun i h1 => ∃ i' : Nat, i.1 = i' ∧ a' ≤ i' ∧ i.2.1 < b' ∧ i' ≤ n ∧ -1 ≤ i.2.1 ∧ OutOI h0 p n cp a' b' xs F h1 fun _ => True, fun i _ => (i.2.1 - i.1).toNat, ⟨a', rfl, Nat.le_refl _, by show (_ : Int) - 1 < _; omega, by omega, by show -1 ≤ (_ : Int) - 1; omega, xs, A, o, s, .refl _, trivial⟩, ?_⟩
  rintro ⟨_, j, _⟩ h1 ⟨i', rfl, hi, hj, hin, hj1, ys, A1, o, s, w, _⟩
  dsimp only at hj hj1 ⊢
  have hl := o.len
  rw [slices_reverseRangeOrdered_int_b1_eq]
  refine condP (fun hlt => ?_) (fun hlt => ⟨rfl, ys, A1, o, s, w, trivial⟩)
  refine swOI (u' := i') (v' := j.toNat) o s rfl (by omega) (by omega) (by omega) fun h6 A6 o6 s6 => ?_
  exact ⟨⟨by omega, by omega⟩, ⟨by omega, by omega⟩, ⟨i' + 1, by push_cast; rfl, by omega, by show j - 1 < _; omega, by omega, by show -1 ≤ j - 1; omega, _, A6, o6, s6, .step w (by omega) (by omega) (by omega) (by omega) (by omega), trivial⟩, by dsimp only; omega⟩
end Go.Proofs.Ytipmcfpjdebpdaa

/- Plain lists: merging of sorted ranges, the steps. -/
namespace Go.Sx
variable {α : Type} {d : α} {lt : α → α → Prop}
/-- The first element goes to its place. -/
theorem merge_first (o : OrdP lt) {a b i : Nat} {xs zs : List α} (h2 : SrtR d lt (a + 1) b xs) (hr : Rot d a (a + 1) i xs zs) (k1 : a + 1 ≤ i) (k2 : i ≤ b) (hb : b ≤ xs.length)
    (f1 : ∀ k, a + 1 ≤ k → k < i → lt (xs.getD k d) (xs.getD a d)) (f2 : ∀ k, i ≤ k → k < b → ¬ lt (xs.getD k d) (xs.getD a d)) : SrtR d lt a b zs ∧ Stb lt xs zs := by
  refine ⟨fun p q g1 g2 g3 => ?_, rot_stb o (by omega) k1 (by omega) hr fun u v c1 c2 c3 c4 => by rw [show u = a by omega]; exact f1 v c3 c4⟩
  rw [hr.2 q, hr.2 p]
  by_cases c1 : q < i - 1
  · rw [if_neg (by omega), if_pos (by omega), if_neg (by omega), if_pos (by omega)]
    exact h2 _ _ (by omega) (by omega) (by omega)
  · by_cases c2 : q = i - 1
    · rw [if_neg (by omega), if_neg (by omega), if_neg (by omega), if_pos (by omega)]
      rw [show q - (i - (a + 1)) = a by omega]
      exact o.asymm _ _ (f1 _ (by omega) (by omega))
    · rw [if_pos (by omega)]
      by_cases c3 : p < i - 1
      · rw [if_neg (by omega), if_pos (by omega)]
        exact h2 _ _ (by omega) (by omega) g3
      · by_cases c4 : p = i - 1
        · rw [if_neg (by omega), if_neg (by omega), show p - (i - (a + 1)) = a by omega]
          exact f2 q (by omega) g3
        · rw [if_pos (by omega)]
          exact h2 _ _ (by omega) g2 g3
/-- The last element goes to its place. -/
theorem merge_last (o : OrdP lt) {a m i : Nat} {xs zs : List α} (h1 : SrtR d lt a m xs) (hr : Rot d i m (m + 1) xs zs) (k1 : a ≤ i) (k2 : i ≤ m) (hb : m + 1 ≤ xs.length)
    (f1 : ∀ k, a ≤ k → k < i → ¬ lt (xs.getD m d) (xs.getD k d)) (f2 : ∀ k, i ≤ k → k < m → lt (xs.getD m d) (xs.getD k d)) : SrtR d lt a (m + 1) zs ∧ Stb lt xs zs := by
  refine ⟨fun p q g1 g2 g3 => ?_, rot_stb o k2 (by omega) hb hr fun u v c1 c2 c3 c4 => by rw [show v = m by omega]; exact f2 u c1 c2⟩
  rw [hr.2 q, hr.2 p]
  by_cases c1 : q < i
  · rw [if_pos (by omega), if_pos (by omega)]
    exact h1 _ _ g1 g2 (by omega)
  · by_cases c2 : q = i
    · rw [if_neg (by omega), if_pos (by omega), if_pos (by omega), show q + (m - i) = m by omega]
      exact f1 p g1 (by omega)
    · rw [if_neg (by omega), if_neg (by omega)]
      by_cases c3 : p < i
      · rw [if_pos (by omega)]
        exact h1 _ _ g1 (by omega) (by omega)
      · by_cases c4 : p = i
        · rw [if_neg (by omega), if_pos (by omega), show p + (m - i) = m by omega]
          exact o.asymm _ _ (f2 _ (by omega) (by omega))
        · rw [if_neg (by omega), if_neg (by omega)]
          exact h1 _ _ (by omega) (by omega) (by omega)
theorem cross_left {a mid b : Nat} {zs ys : List α} (w : Swp d a mid zs ys) (hc : ∀ p q, a ≤ p → p < mid → mid ≤ q → q < b → ¬ lt (zs.getD q d) (zs.getD p d)) : ∀ p q, a ≤ p → p < mid → mid ≤ q → q < b → ¬ lt (ys.getD q d) (ys.getD p d) := by
  intro p q h1 h2 h3 h4
  rw [w.out (k := q) (.inr h3)]
  exact w.all (P := fun x => ¬ lt (zs.getD q d) x) (fun k k1 k2 => hc k q k1 k2 h3 h4) p h1 h2
theorem cross_right {a mid b : Nat} {zs ys : List α} (w : Swp d mid b zs ys) (hc : ∀ p q, a ≤ p → p < mid → mid ≤ q → q < b → ¬ lt (zs.getD q d) (zs.getD p d)) : ∀ p q, a ≤ p → p < mid → mid ≤ q → q < b → ¬ lt (ys.getD q d) (ys.getD p d) := by
  intro p q h1 h2 h3 h4
  rw [w.out (k := p) (.inl h2)]
  exact w.all (P := fun x => ¬ lt x (zs.getD p d)) (fun k k1 k2 => hc p k h1 h2 k1 k2) q h3 h4
theorem srtR_out {a b a' b' : Nat} {zs ys : List α} (w : Swp d a' b' zs ys) (h : SrtR d lt a b zs) (hd : b ≤ a' ∨ b' ≤ a) : SrtR d lt a b ys := by
  intro p q h1 h2 h3
  rw [w.out (k := q) (by omega), w.out (k := p) (by omega)]
  exact h p q h1 h2 h3
end Go.Sx
namespace Go.Sx
variable {α : Type} {d : α} {lt : α → α → Prop}
/-- Sorted within each block of a size, between two places. -/
def BlkS (d : α) (lt : α → α → Prop) (bs a m : Nat) (xs : List α) : Prop := ∀ p q, a ≤ p → p < q → q < m → p / bs = q / bs → ¬ lt (xs.getD q d) (xs.getD p d)
theorem blk_start {bs : Nat} {xs : List α} : BlkS d lt bs 0 0 xs := fun _ _ _ _ h _ => by omega
theorem blk_out {bs a m a' b' : Nat} {xs zs : List α} (w : Swp d a' b' xs zs) (h : BlkS d lt bs a m xs) (hd : m ≤ a' ∨ b' ≤ a) : BlkS d lt bs a m zs := fun p q h1 h2 h3 h4 => by
  rw [w.out (k := q) (by omega), w.out (k := p) (by omega)]; exact h p q h1 h2 h3 h4
/-- One more block is sorted. -/
theorem blk_step {bs k b : Nat} {xs zs : List α} (hb : 0 < bs) (h : BlkS d lt bs 0 (bs * k) xs) (w : Swp d (bs * k) b xs zs) (hs : SrtR d lt (bs * k) b zs) : BlkS d lt bs 0 b zs := by
  intro p q h1 h2 h3 h4
  rcases Nat.lt_or_ge q (bs * k) with h5 | h5
  · rw [w.out (k := q) (.inl h5), w.out (k := p) (by omega)]
    exact h p q h1 h2 h5 h4
  · refine hs p q ?_ h2 h3
    have h6 : k ≤ q / bs := (Nat.le_div_iff_mul_le hb).2 (by rw [Nat.mul_comm]; exact h5)
    rw [← h4] at h6
    have := (Nat.le_div_iff_mul_le hb).1 h6
    rw [Nat.mul_comm] at this
    exact this
theorem blk_srt {bs k m : Nat} {xs : List α} (hb : 0 < bs) (h : BlkS d lt bs (bs * k) m xs) {a b : Nat} (ha : bs * k ≤ a) (hab : a / bs * bs = a) (hbb : b ≤ a + bs) (hm : b ≤ m) : SrtR d lt a b xs := by
  intro p q h1 h2 h3
  refine h p q (by omega) h2 (by omega) ?_
  have e1 : p / bs = a / bs := by
    rw [Nat.div_eq_iff hb]
    omega
  have e2 : q / bs = a / bs := by
    rw [Nat.div_eq_iff hb]
    omega
  rw [e1, e2]
theorem blk_all {bs m : Nat} {xs : List α} (hm : m ≤ bs) (h : BlkS d lt bs 0 m xs) : SrtR d lt 0 m xs := fun p q h1 h2 h3 => h p q h1 h2 h3 (by rw [Nat.div_eq_of_lt (by omega), Nat.div_eq_of_lt (by omega)])
end Go.Sx

/- Sorting: stable sorting. -/
set_option maxRecDepth 100000
namespace Go.Proofs.Ytipmcfpjdebpdaa
open Go Go.Sx
theorem insertionStableCI {h0 h : Hp} {p : Option Addr} {n cp a' b' : Nat} {a b : Int} {xs : List Int} {A F : Bag} {cmp : Value} {cf : Int → Int → Int} {P : Int → Prop} (hX : CmpCI h0 F cmp cf P) (ho : OrdP (fun x y : Int => cf x y < 0)) (s : St h0 h (A + F)) (o : Sl (tI 3) p n cp xs A) (hP : ∀ k, k < n → P (xs.getD k (tI 3).d)) (ea : a = (a' : Int)) (eb : b = (b' : Int)) (ha : a' ≤ n) (hb : b' ≤ n) (hn : n < 1000000) :
    HCalls Try.prog 78 #[.slice p n cp, .int .i64 a, .int .i64 b, cmp] h (fun v h' => v = .tuple #[] ∧ OutCI h0 p n cp a' b' xs F h' (fun ys => SrtR (tI 3).d (fun x y : Int => cf x y < 0) a' b' ys ∧ Stb (fun x y : Int => cf x y < 0) xs ys)) := by
  subst ea eb
  have hl0 := o.len
  refine slices_insertionSortCmpFunc_int_call ?_
  rw [slices_insertionSortCmpFunc_int_b0_eq]
  refine ⟨⟨by omega, by omega⟩, fun i h1 => ∃ i' : Nat, i.1 = i' ∧ a' + 1 ≤ i' ∧ OutCI h0 p n cp a' b' xs F h1 (fun ys => SrtR (tI 3).d (fun x y : Int => cf x y < 0) a' i' ys ∧ Stb (fun x y : Int => cf x y < 0) xs ys), fun i _ => (b' - i.1).toNat, ⟨a' + 1, rfl, Nat.le_refl _, xs, A, o, s, .refl _, srtR_one (by omega), .refl _⟩, ?_⟩
  rintro ⟨_, _⟩ h1 ⟨i', rfl, hi, ys, A1, o, s, w, hs, hb2⟩
  dsimp only
  rw [slices_insertionSortCmpFunc_int_b1_eq]
  refine condP (fun hlt => ?_) (fun hge => ⟨rfl, ys, A1, o, s, w, SrtR.mono hs (Nat.le_refl _) (by omega), hb2⟩)
  refine ⟨fun j h2 => ∃ j' : Nat, j.1 = j' ∧ a' ≤ j' ∧ j' ≤ i' ∧ OutCI h0 p n cp a' b' xs F h2 (fun ys => InsR (tI 3).d (fun x y : Int => cf x y < 0) a' j' i' ys ∧ Stb (fun x y : Int => cf x y < 0) xs ys), fun j _ => j.1.toNat, ⟨i', rfl, by omega, by omega, ys, A1, o, s, w, ins_start hs, hb2⟩, ?_⟩
  clear hs hb2 w s o ys
  rintro ⟨_, _⟩ h2 ⟨j', rfl, hj1, hj2, ys, A1, o, s, w, hs, hb2⟩
  dsimp only
  have hl := o.len
  have hP := w.allN hl0 hP
  have fin : ∀ h3, St h0 h3 (A1 + F) → (a' < j' → ¬ (fun x y : Int => cf x y < 0) (ys.getD j' (tI 3).d) (ys.getD (j' - 1) (tI 3).d)) → slices_insertionSortCmpFunc_int_b4 p n cp a' b' cmp i' h3 (fun s' h' => (∃ i' : Nat, s'.1 = i' ∧ a' + 1 ≤ i' ∧ OutCI h0 p n cp a' b' xs F h' (fun ys => SrtR (tI 3).d (fun x y : Int => cf x y < 0) a' i' ys ∧ Stb (fun x y : Int => cf x y < 0) xs ys)) ∧ (b' - s'.1).toNat < (b' - (i' : Int)).toNat) (fun v h' => v = .tuple #[] ∧ OutCI h0 p n cp a' b' xs F h' (fun ys => SrtR (tI 3).d (fun x y : Int => cf x y < 0) a' b' ys ∧ Stb (fun x y : Int => cf x y < 0) xs ys)) := by
    intro h3 s hx
    rw [slices_insertionSortCmpFunc_int_b4_eq]
    exact ⟨⟨by omega, by omega⟩, ⟨i' + 1, by push_cast; rfl, by omega, ys, A1, o, s, w, ins_end ho hj1 hs hx, hb2⟩, by omega⟩
  rw [slices_insertionSortCmpFunc_int_b2_eq]
  refine condP (fun hj => ?_) (fun hj => fin _ s fun h => by omega)
  have r := o.rd s
  refine ldOI (i' := j') r rfl (by omega) ⟨⟨by omega, by omega⟩, ldOI (i' := j' - 1) r (by omega) (by omega) ?_⟩
  refine hX _ _ _ _ _ (s.at F) (hP _ (by omega)) (hP _ (by omega)) fun h5 e5 => ⟨_, rfl, ?_⟩; have s := s.grow e5
  refine condP (fun hc => ?_) (fun hc => fin _ s fun _ => hc)
  rw [slices_insertionSortCmpFunc_int_b3_eq]
  refine ⟨⟨by omega, by omega⟩, ⟨by omega, by omega⟩, ?_⟩
  refine swOI (u' := j') (v' := j' - 1) o s rfl (by omega) (by omega) (by omega) fun h6 A6 o6 s6 => ?_
  rw [slices_insertionSortCmpFunc_int_b5_eq]
  exact ⟨⟨by omega, by omega⟩, ⟨j' - 1, by omega, by omega, by omega, _, A6, o6, s6, .step w (by omega) (by omega) (by omega) (by omega) (by omega), ins_swap ho (by omega) hj2 (by omega) hs hc, hb2.trans (by have := stb_swap ho (d := (tI 3).d) (i := j' - 1) (xs := ys) (by omega) (by rw [show j' - 1 + 1 = j' by omega]; exact hc); rwa [show j' - 1 + 1 = j' by omega] at this)⟩, by omega⟩
theorem swapRangeCI {h0 h : Hp} {p : Option Addr} {n cp a' b' m' lo hi : Nat} {a b m : Int} {xs : List Int} {A F : Bag} {cmp : Value} (s : St h0 h (A + F)) (o : Sl (tI 3) p n cp xs A) (ea : a = (a' : Int)) (eb : b = (b' : Int)) (em : m = (m' : Int)) (h1 : lo ≤ a') (h2 : a' + m' ≤ b') (h3 : b' + m' ≤ hi) (h4 : hi ≤ n) (hn : n < 1000000) :
    HCalls Try.prog 102 #[.slice p n cp, .int .i64 a, .int .i64 b, .int .i64 m, cmp] h (fun v h' => v = .tuple #[] ∧ OutCI h0 p n cp lo hi xs F h' (SwR (tI 3).d a' b' m' xs)) := by
  subst ea eb em
  have hl0 := o.len
  refine slices_swapRangeCmpFunc_int_call ?_
  rw [slices_swapRangeCmpFunc_int_b0_eq]
  refine ⟨fun i h1 => ∃ i' : Nat, i.1 = i' ∧ i' ≤ m' ∧ OutCI h0 p n cp lo hi xs F h1 (SwR (tI 3).d a' b' i' xs), fun i _ => (m' - i.1).toNat, ⟨0, rfl, by omega, xs, A, o, s, .refl _, swR_zero⟩, ?_⟩
  rintro ⟨_, _⟩ h1 ⟨i', rfl, hi', ys, A1, o, s, w, hs⟩
  dsimp only
  have hl := o.len
  rw [slices_swapRangeCmpFunc_int_b1_eq]
  refine condP (fun hlt => ?_) (fun hge => ?_)
  · refine ⟨⟨by omega, by omega⟩, ⟨by omega, by omega⟩, ⟨by omega, by omega⟩, ?_⟩
    refine swOIx (u' := a' + i') (v' := b' + i') ⟨by omega, by omega⟩ o s (by omega) (by omega) (by omega) (by omega) fun h6 A6 o6 s6 => ?_
    rw [slices_swapRangeCmpFunc_int_b2_eq]
    exact ⟨⟨by omega, by omega⟩, ⟨i' + 1, by push_cast; rfl, by omega, _, A6, o6, s6, .step w (by omega) (by omega) (by omega) (by omega) (by omega), swR_succ (by omega) (by omega) hs⟩, by dsimp only; omega⟩
  · obtain rfl : i' = m' := by omega
    exact ⟨rfl, ys, A1, o, s, w, hs⟩
theorem rotateCI {h0 h : Hp} {p : Option Addr} {n cp a' m' b' : Nat} {a m b : Int} {xs : List Int} {A F : Bag} {cmp : Value} (s : St h0 h (A + F)) (o : Sl (tI 3) p n cp xs A) (ea : a = (a' : Int)) (em : m = (m' : Int)) (eb : b = (b' : Int)) (h1 : a' < m') (h2 : m' < b') (h4 : b' ≤ n) (hn : n < 1000000) :
    HCalls Try.prog 97 #[.slice p n cp, .int .i64 a, .int .i64 m, .int .i64 b, cmp] h (fun v h' => v = .tuple #[] ∧ OutCI h0 p n cp a' b' xs F h' (Rot (tI 3).d a' m' b' xs)) := by
  subst ea em eb
  have hl0 := o.len
  refine slices_rotateCmpFunc_int_call ?_
  rw [slices_rotateCmpFunc_int_b0_eq]
  refine ⟨⟨by omega, by omega⟩, ⟨by omega, by omega⟩, fun z h1 => ∃ i j : Nat, z.1 = (i : Int) ∧ z.2.1 = (j : Int) ∧ 0 < i ∧ 0 < j ∧ a' + i ≤ m' ∧ m' + j ≤ b' ∧ OutCI h0 p n cp a' b' xs F h1 (fun ys => ∀ zs, Rot (tI 3).d (m' - i) m' (m' + j) ys zs → Rot (tI 3).d a' m' b' xs zs), fun z _ => (z.1 + z.2.1).toNat,
    ⟨m' - a', b' - m', by show (m' : Int) - a' = _; omega, by show (b' : Int) - m' = _; omega, by omega, by omega, by omega, by omega, xs, A, o, s, .refl _, fun zs hz => by rwa [show m' - (m' - a') = a' by omega, show m' + (b' - m') = b' by omega] at hz⟩, ?_⟩
  rintro ⟨_, _, _⟩ h2' ⟨i, j, rfl, rfl, hi0, hj0, hi, hj, ys, A1, o, s, w, hs⟩
  dsimp only
  have hl := o.len
  rw [slices_rotateCmpFunc_int_b1_eq]
  refine condN (fun hne => condP (fun hlt => ?_) (fun hge => ?_)) (fun heq => ?_)
  · refine ⟨⟨by omega, by omega⟩, (swapRangeCI s o (a' := m' - i) (b' := m') (m' := j) (lo := a') (hi := b') (by omega) rfl rfl (by omega) (by omega) (by omega) h4 hn).mono fun v h3 ⟨hv, zs, A2, o2, s2, w2, hz⟩ => ⟨hv, ⟨by omega, by omega⟩, ⟨i - j, j, by show (i : Int) - j = _; omega, rfl, by omega, hj0, by omega, hj, zs, A2, o2, s2, w.trans w2, fun us hu => hs us (rot_left (by omega) (by omega) hz hu)⟩, by dsimp only; omega⟩⟩
  · refine ⟨⟨by omega, by omega⟩, ⟨by omega, by omega⟩, ⟨by omega, by omega⟩, (swapRangeCI s o (a' := m' - i) (b' := m' + j - i) (m' := i) (lo := a') (hi := b') (by omega) (by omega) rfl (by omega) (by omega) (by omega) h4 hn).mono fun v h3 ⟨hv, zs, A2, o2, s2, w2, hz⟩ => ⟨hv, ⟨by omega, by omega⟩, ⟨i, j - i, rfl, by show (j : Int) - i = _; omega, hi0, by omega, hi, by omega, zs, A2, o2, s2, w.trans w2, fun us hu => hs us (rot_right (by omega) (by omega) hz hu)⟩, by dsimp only; omega⟩⟩
  · obtain rfl : i = j := by omega
    rw [slices_rotateCmpFunc_int_b2_eq]
    exact ⟨⟨by omega, by omega⟩, (swapRangeCI s o (a' := m' - i) (b' := m') (m' := i) (lo := a') (hi := b') (by omega) rfl rfl (by omega) (by omega) (by omega) h4 hn).mono fun v h3 ⟨hv, zs, A2, o2, s2, w2, hz⟩ => ⟨hv, rfl, zs, A2, o2, s2, w.trans w2, hs zs (rot_last (by omega) hz)⟩⟩
theorem halfCI {a b : Nat} (h : a + b < 4000000) : IntKind.u64.wrap ((a : Int) + (b : Int)) = ((a + b : Nat) : Int) := by rw [wrap_u64_in _ (by omega) (by omega)]; push_cast; rfl
theorem symMergeCI {h0 : Hp} {p : Option Addr} {n cp : Nat} {F : Bag} {cmp : Value} {cf : Int → Int → Int} {P : Int → Prop} (hX : CmpCI h0 F cmp cf P) (ho : OrdP (fun x y : Int => cf x y < 0)) (hn : n < 1000000) : ∀ (len a' m' b' : Nat) (a m b : Int) (h : Hp) (xs : List Int) (A : Bag), b' - a' ≤ len → St h0 h (A + F) → Sl (tI 3) p n cp xs A → (∀ k, k < n → P (xs.getD k (tI 3).d)) → a = (a' : Int) → m = (m' : Int) → b = (b' : Int) → a' < m' → m' < b' → b' ≤ n →
    SrtR (tI 3).d (fun x y : Int => cf x y < 0) a' m' xs → SrtR (tI 3).d (fun x y : Int => cf x y < 0) m' b' xs →
    HCalls Try.prog 87 #[.slice p n cp, .int .i64 a, .int .i64 m, .int .i64 b, cmp] h (fun v h' => v = .tuple #[] ∧ OutCI h0 p n cp a' b' xs F h' (fun ys => SrtR (tI 3).d (fun x y : Int => cf x y < 0) a' b' ys ∧ Stb (fun x y : Int => cf x y < 0) xs ys)) := by
  intro len
  induction len with
  | zero => intro a' m' b' a m b h xs A hlen; omega
  | succ len ih =>
  rintro a' m' b' _ _ _ h xs A hlen s o hP rfl rfl rfl h1 h2 h4 hs1 hs2
  have hl0 := o.len
  refine slices_symMergeCmpFunc_int_call ?_
  rw [slices_symMergeCmpFunc_int_b0_eq]
  refine ⟨⟨by omega, by omega⟩, condP (fun he => ?_) (fun he => ⟨⟨by omega, by omega⟩, condP (fun he2 => ?_) (fun he2 => ?_)⟩)⟩
  · obtain rfl : m' = a' + 1 := by omega
    refine ⟨fun z h1 => ∃ i j : Nat, z.1 = (i : Int) ∧ z.2.1 = (j : Int) ∧ a' + 1 ≤ i ∧ i ≤ j ∧ j ≤ b' ∧ St h0 h1 (A + F) ∧ (∀ k, a' + 1 ≤ k → k < i → (fun x y : Int => cf x y < 0) (xs.getD k (tI 3).d) (xs.getD a' (tI 3).d)) ∧ (∀ k, j ≤ k → k < b' → ¬ (fun x y : Int => cf x y < 0) (xs.getD k (tI 3).d) (xs.getD a' (tI 3).d)), fun z _ => (z.2.1 - z.1).toNat,
      ⟨a' + 1, b', rfl, rfl, by omega, by omega, by omega, s, fun k k1 k2 => by omega, fun k k1 k2 => by omega⟩, ?_⟩
    clear s
    rintro ⟨_, _, _⟩ h3 ⟨i, j, rfl, rfl, hi, hij, hj, s, q1, q2⟩
    dsimp only
    rw [slices_symMergeCmpFunc_int_b1_eq]
    refine condP (fun hlt => ?_) (fun hge => ?_)
    · refine ⟨⟨by omega, by omega⟩, ?_⟩
      rw [halfCI (by omega)]
      refine shr_intro (x := i + j) (s := 1) rfl rfl (by decide) ?_
      rw [Nat.shiftRight_eq_div_pow, Nat.pow_one]
      obtain ⟨c, hc⟩ : ∃ c, (i + j) / 2 = c := ⟨_, rfl⟩
      rw [hc]
      have r := o.rd s
      refine ⟨⟨by omega, by omega⟩, ldOI (i' := c) r rfl (by omega) (ldOI (i' := a') r rfl (by omega) ?_)⟩
      refine hX _ _ _ _ _ (s.at F) (hP _ (by omega)) (hP _ (by omega)) fun h5 e5 => ⟨_, rfl, ?_⟩; have s := s.grow e5
      refine condP (fun hcl => ⟨⟨by omega, by omega⟩, ⟨c + 1, j, by push_cast; rfl, rfl, by omega, by omega, hj, s, fun k k1 k2 => ?_, q2⟩, by dsimp only; omega⟩) (fun hcl => ⟨⟨i, c, rfl, rfl, hi, by omega, by omega, s, q1, fun k k1 k2 => ?_⟩, by dsimp only; omega⟩)
      · rcases Nat.lt_or_ge k c with hk | hk
        · have := srtR_le ho hs2 (p := k) (q := c) k1 (by omega) (by omega)
          exact Classical.byContradiction fun hn => ho.trans _ _ _ hn this hcl
        · rw [show k = c by omega]; exact hcl
      · rcases Nat.lt_or_ge c k with hk | hk
        · have := srtR_le ho hs2 (p := c) (q := k) (by omega) (by omega) (by omega)
          exact ho.trans _ _ _ hcl this
        · rw [show k = c by omega]; exact hcl
    · obtain rfl : i = j := by omega
      rw [slices_symMergeCmpFunc_int_b4_eq]
      refine ⟨fun z h1 => ∃ k : Nat, z.1 = (k : Int) ∧ a' ≤ k ∧ k + 1 ≤ i ∧ OutCI h0 p n cp a' b' xs F h1 (Rot (tI 3).d a' (a' + 1) (k + 1) xs), fun z _ => (i - z.1).toNat, ⟨a', rfl, by omega, by omega, xs, A, o, s, .refl _, rot_id (.inr (Nat.le_refl _)) (by omega) (by omega)⟩, ?_⟩
      rintro ⟨_, _⟩ h5 ⟨k, rfl, hk1, hk2, ys, A1, o1, s1, w, hr⟩
      dsimp only
      have hl := o1.len
      rw [slices_symMergeCmpFunc_int_b7_eq]
      refine ⟨⟨by omega, by omega⟩, condP (fun hlt => ?_) (fun hge2 => ?_)⟩
      · refine ⟨⟨by omega, by omega⟩, ⟨by omega, by omega⟩, ?_⟩
        refine swOI (u' := k) (v' := k + 1) o1 s1 rfl (by push_cast; rfl) (by omega) (by omega) fun h6 A6 o6 s6 => ?_
        rw [slices_symMergeCmpFunc_int_b10_eq]
        have := rot_snoc (by omega) (by omega) hr
        rw [show k + 1 - 1 = k by omega] at this
        exact ⟨⟨by omega, by omega⟩, ⟨k + 1, by push_cast; rfl, by omega, by omega, _, A6, o6, s6, .step w (by omega) (by omega) (by omega) (by omega) (by omega), this⟩, by dsimp only; omega⟩
      · obtain rfl : i = k + 1 := by omega
        have := merge_first ho hs2 hr (by omega) (by omega) (by omega) q1 q2
        exact ⟨rfl, ys, A1, o1, s1, w, this.1, this.2⟩
  · obtain rfl : b' = m' + 1 := by omega
    refine ⟨fun z h1 => ∃ i j : Nat, z.1 = (i : Int) ∧ z.2.1 = (j : Int) ∧ a' ≤ i ∧ i ≤ j ∧ j ≤ m' ∧ St h0 h1 (A + F) ∧ (∀ k, a' ≤ k → k < i → ¬ (fun x y : Int => cf x y < 0) (xs.getD m' (tI 3).d) (xs.getD k (tI 3).d)) ∧ (∀ k, j ≤ k → k < m' → (fun x y : Int => cf x y < 0) (xs.getD m' (tI 3).d) (xs.getD k (tI 3).d)), fun z _ => (z.2.1 - z.1).toNat,
      ⟨a', m', rfl, rfl, by omega, by omega, by omega, s, fun k k1 k2 => by omega, fun k k1 k2 => by omega⟩, ?_⟩
    clear s
    rintro ⟨_, _, _⟩ h3 ⟨i, j, rfl, rfl, hi, hij, hj, s, q1, q2⟩
    dsimp only
    rw [slices_symMergeCmpFunc_int_b2_eq]
    refine condP (fun hlt => ?_) (fun hge => ?_)
    · refine ⟨⟨by omega, by omega⟩, ?_⟩
      rw [halfCI (by omega)]
      refine shr_intro (x := i + j) (s := 1) rfl rfl (by decide) ?_
      rw [Nat.shiftRight_eq_div_pow, Nat.pow_one]
      obtain ⟨c, hc⟩ : ∃ c, (i + j) / 2 = c := ⟨_, rfl⟩
      rw [hc]
      have r := o.rd s
      refine ⟨⟨by omega, by omega⟩, ldOI (i' := m') r rfl (by omega) (ldOI (i' := c) r rfl (by omega) ?_)⟩
      refine hX _ _ _ _ _ (s.at F) (hP _ (by omega)) (hP _ (by omega)) fun h5 e5 => ⟨_, rfl, ?_⟩; have s := s.grow e5
      refine condN (fun hcl => ⟨⟨by omega, by omega⟩, ⟨c + 1, j, by push_cast; rfl, rfl, by omega, by omega, hj, s, fun k k1 k2 => ?_, q2⟩, by dsimp only; omega⟩) (fun hcl => ⟨⟨i, c, rfl, rfl, hi, by omega, by omega, s, q1, fun k k1 k2 => ?_⟩, by dsimp only; omega⟩)
      · rcases Nat.lt_or_ge k c with hk | hk
        · have := srtR_le ho hs1 (p := k) (q := c) k1 (by omega) (by omega)
          exact ho.trans _ _ _ this hcl
        · rw [show k = c by omega]; exact hcl
      · rcases Nat.lt_or_ge c k with hk | hk
        · have := srtR_le ho hs1 (p := c) (q := k) (by omega) (by omega) (by omega)
          exact Classical.byContradiction fun hn => ho.trans _ _ _ this hn hcl
        · rw [show k = c by omega]; exact hcl
    · obtain rfl : i = j := by omega
      rw [slices_symMergeCmpFunc_int_b5_eq]
      refine ⟨fun z h1 => ∃ k : Nat, z.1 = (k : Int) ∧ i ≤ k ∧ k ≤ m' ∧ OutCI h0 p n cp a' (m' + 1) xs F h1 (Rot (tI 3).d k m' (m' + 1) xs), fun z _ => (z.1 - i).toNat, ⟨m', rfl, by omega, by omega, xs, A, o, s, .refl _, rot_id (.inl (Nat.le_refl _)) (by omega) (by omega)⟩, ?_⟩
      rintro ⟨_, _⟩ h5 ⟨k, rfl, hk1, hk2, ys, A1, o1, s1, w, hr⟩
      dsimp only
      have hl := o1.len
      rw [slices_symMergeCmpFunc_int_b8_eq]
      refine condP (fun hlt => ?_) (fun hge2 => ?_)
      · refine ⟨⟨by omega, by omega⟩, ⟨by omega, by omega⟩, ?_⟩
        refine swOI (u' := k) (v' := k - 1) o1 s1 rfl (by omega) (by omega) (by omega) fun h6 A6 o6 s6 => ?_
        rw [slices_symMergeCmpFunc_int_b11_eq]
        exact ⟨⟨by omega, by omega⟩, ⟨k - 1, by omega, by omega, by omega, _, A6, o6, s6, .step w (by omega) (by omega) (by omega) (by omega) (by omega), rot_cons (by omega) hk2 (by omega) hr⟩, by dsimp only; omega⟩
      · obtain rfl : k = i := by omega
        have := merge_last ho hs1 hr (by omega) (by omega) (by omega) q1 q2
        exact ⟨rfl, ys, A1, o1, s1, w, this.1, this.2⟩
  · refine ⟨⟨by omega, by omega⟩, ?_⟩
    rw [halfCI (by omega)]
    refine shr_intro (x := a' + b') (s := 1) rfl rfl (by decide) ?_
    rw [Nat.shiftRight_eq_div_pow, Nat.pow_one]
    obtain ⟨mid, hmid⟩ : ∃ c, (a' + b') / 2 = c := ⟨_, rfl⟩
    rw [hmid]
    refine ⟨⟨by omega, by omega⟩, ⟨by omega, by omega⟩, ?_⟩
    -- the right half is merged
    have b13 : ∀ (e : Nat) (h5 : Hp) (ys : List Int) (A1 : Bag), mid ≤ e → e ≤ b' → Sl (tI 3) p n cp ys A1 → St h0 h5 (A1 + F) → Swp (tI 3).d a' b' xs ys → SrtR (tI 3).d (fun x y : Int => cf x y < 0) a' mid ys → SrtR (tI 3).d (fun x y : Int => cf x y < 0) mid e ys → SrtR (tI 3).d (fun x y : Int => cf x y < 0) e b' ys → (∀ p q, a' ≤ p → p < mid → mid ≤ q → q < b' → ¬ (fun x y : Int => cf x y < 0) (ys.getD q (tI 3).d) (ys.getD p (tI 3).d)) → Stb (fun x y : Int => cf x y < 0) xs ys →
        slices_symMergeCmpFunc_int_b13 p n cp b' cmp mid e h5 (fun v h' => v = .tuple #[] ∧ OutCI h0 p n cp a' b' xs F h' (fun ys => SrtR (tI 3).d (fun x y : Int => cf x y < 0) a' b' ys ∧ Stb (fun x y : Int => cf x y < 0) xs ys)) := by
      intro e h5 ys A1 g1 g2 o1 s1 w t1 t2 t3 t4 t5
      have hl := o1.len
      rw [slices_symMergeCmpFunc_int_b13_eq]
      refine condP (fun c1 => condP (fun c2 => ?_) (fun c2 => ?_)) (fun c1 => ?_)
      · refine (ih mid e b' mid e b' h5 ys A1 (by omega) s1 o1 (w.allN hl0 hP) rfl rfl rfl (by omega) (by omega) h4 t2 t3).mono fun v h6 ⟨hv, zs, A2, o2, s2, w2, u1, u2⟩ => ⟨hv, rfl, zs, A2, o2, s2, w.trans (w2.mono (by omega) (Nat.le_refl _) (by omega)).1, srtR_join (srtR_out w2 t1 (.inl (Nat.le_refl _))) u1 (cross_right (lt := (fun x y : Int => cf x y < 0)) w2 t4), t5.trans u2⟩
      · obtain rfl : e = b' := by omega
        exact ⟨rfl, ys, A1, o1, s1, w, srtR_join t1 t2 t4, t5⟩
      · obtain rfl : e = mid := by omega
        exact ⟨rfl, ys, A1, o1, s1, w, srtR_join t1 t3 t4, t5⟩
    -- the left half is merged
    have b12 : ∀ (st e : Nat) (h5 : Hp) (ys : List Int) (A1 : Bag), a' ≤ st → st ≤ mid → mid ≤ e → e ≤ b' → Sl (tI 3) p n cp ys A1 → St h0 h5 (A1 + F) → Swp (tI 3).d a' b' xs ys → MergeR (tI 3).d (fun x y : Int => cf x y < 0) a' st mid e b' xs ys →
        slices_symMergeCmpFunc_int_b12 p n cp a' b' cmp mid st e h5 (fun v h' => v = .tuple #[] ∧ OutCI h0 p n cp a' b' xs F h' (fun ys => SrtR (tI 3).d (fun x y : Int => cf x y < 0) a' b' ys ∧ Stb (fun x y : Int => cf x y < 0) xs ys)) := by
      intro st e h5 ys A1 g0 g1 g2 g3 o1 s1 w mr
      have hl := o1.len
      rw [slices_symMergeCmpFunc_int_b12_eq]
      refine condP (fun c1 => condP (fun c2 => ?_) (fun c2 => ?_)) (fun c1 => ?_)
      · refine (ih a' st mid a' st mid h5 ys A1 (by omega) s1 o1 (w.allN hl0 hP) rfl rfl rfl (by omega) (by omega) (by omega) mr.s1 mr.s2).mono fun v h6 ⟨hv, zs, A2, o2, s2, w2, u1, u2⟩ => ⟨hv, b13 e h6 zs A2 g2 g3 o2 s2 (w.trans (w2.mono (Nat.le_refl _) (by omega) (by omega)).1) u1 (srtR_out w2 mr.s3 (.inr (Nat.le_refl _))) (srtR_out w2 mr.s4 (.inr g2)) (cross_left (lt := (fun x y : Int => cf x y < 0)) w2 mr.cross) (mr.stb.trans u2)⟩
      · obtain rfl : st = mid := by omega
        exact b13 e h5 ys A1 g2 g3 o1 s1 w mr.s1 mr.s3 mr.s4 mr.cross mr.stb
      · obtain rfl : st = a' := by omega
        exact b13 e h5 ys A1 g2 g3 o1 s1 w mr.s2 mr.s3 mr.s4 mr.cross mr.stb
    -- the search for the place
    have b3 : ∀ (st r : Nat) (si : Int), si = (st : Int) → a' ≤ st → st ≤ r → r ≤ m' → r ≤ mid → mid + m' ≤ b' + st → (st = a' ∨ mid + m' = b' + st) → (r = m' ∨ r = mid) → slices_symMergeCmpFunc_int_b3 p n cp a' m' b' cmp mid ((mid : Int) + m') si r h (fun v h' => v = .tuple #[] ∧ OutCI h0 p n cp a' b' xs F h' (fun ys => SrtR (tI 3).d (fun x y : Int => cf x y < 0) a' b' ys ∧ Stb (fun x y : Int => cf x y < 0) xs ys)) := by
      rintro st0 r0 _ rfl v1 v2 v3 v4 v5 v6 v7
      rw [slices_symMergeCmpFunc_int_b3_eq]
      refine ⟨⟨by omega, by omega⟩, fun z h1 => ∃ i j : Nat, z.1 = (i : Int) ∧ z.2.1 = (j : Int) ∧ st0 ≤ i ∧ i ≤ j ∧ j ≤ r0 ∧ St h0 h1 (A + F) ∧ (i = st0 ∨ ¬ (fun x y : Int => cf x y < 0) (xs.getD (mid + m' - i) (tI 3).d) (xs.getD (i - 1) (tI 3).d)) ∧ (j = r0 ∨ (fun x y : Int => cf x y < 0) (xs.getD (mid + m' - 1 - j) (tI 3).d) (xs.getD j (tI 3).d)), fun z _ => (z.2.1 - z.1).toNat,
        ⟨st0, r0, rfl, rfl, by omega, v2, by omega, s, .inl rfl, .inl rfl⟩, ?_⟩
      clear s
      rintro ⟨_, _, _⟩ h3 ⟨i, j, rfl, rfl, hi, hij, hj, s, q1, q2⟩
      dsimp only
      rw [slices_symMergeCmpFunc_int_b6_eq]
      refine condP (fun hlt => ?_) (fun hge => ?_)
      · refine ⟨⟨by omega, by omega⟩, ?_⟩
        rw [halfCI (by omega)]
        refine shr_intro (x := i + j) (s := 1) rfl rfl (by decide) ?_
        rw [Nat.shiftRight_eq_div_pow, Nat.pow_one]
        obtain ⟨c, hc⟩ : ∃ c, (i + j) / 2 = c := ⟨_, rfl⟩
        rw [hc]
        have r := o.rd s
        refine ⟨⟨by omega, by omega⟩, ⟨by omega, by omega⟩, ldOI (i' := mid + m' - 1 - c) r (by omega) (by omega) (ldOI (i' := c) r rfl (by omega) ?_)⟩
        refine hX _ _ _ _ _ (s.at F) (hP _ (by omega)) (hP _ (by omega)) fun h5 e5 => ⟨_, rfl, ?_⟩; have s := s.grow e5
        refine condN (fun hcl => ⟨⟨by omega, by omega⟩, ⟨c + 1, j, by push_cast; rfl, rfl, by omega, by omega, hj, s, .inr ?_, q2⟩, by dsimp only; omega⟩) (fun hcl => ⟨⟨i, c, rfl, rfl, hi, by omega, by omega, s, q1, .inr hcl⟩, by dsimp only; omega⟩)
        rw [show mid + m' - (c + 1) = mid + m' - 1 - c by omega, show c + 1 - 1 = c by omega]
        exact hcl
      · obtain rfl : i = j := by omega
        rw [slices_symMergeCmpFunc_int_b9_eq]
        obtain ⟨e, he⟩ : ∃ e, mid + m' - i = e := ⟨_, rfl⟩
        have ee : (mid : Int) + m' - i = (e : Int) := by omega
        rw [ee]
        have mr : ∀ zs : List Int, Rot (tI 3).d i m' e xs zs → MergeR (tI 3).d (fun x y : Int => cf x y < 0) a' i mid e b' xs zs := fun zs hz => merge_rot ho hs1 hs2 hz (by omega) (by omega) (by omega) (by omega) (by omega) (by omega)
          (fun c1 c2 => by
            rcases q2 with q2 | q2
            · omega
            · rwa [show e - 1 = mid + m' - 1 - i by omega])
          (fun c1 c2 => by
            rcases q1 with q1 | q1
            · omega
            · rwa [← he])
        refine ⟨⟨by omega, by omega⟩, condP (fun c1 => condP (fun c2 => ?_) (fun c2 => ?_)) (fun c1 => ?_)⟩
        · refine (rotateCI s o rfl rfl rfl (by omega) (by omega) (by omega) hn).mono fun v h6 ⟨hv, zs, A2, o2, s2, w2, hz⟩ => ⟨hv, b12 i e h6 zs A2 (by omega) (by omega) (by omega) (by omega) o2 s2 (w2.mono (by omega) (by omega) (by omega)).1 (mr zs hz)⟩
        · exact b12 i e h3 xs A (by omega) (by omega) (by omega) (by omega) o s (.refl _) (mr xs (rot_id (.inr (by omega)) (by omega) (by omega)))
        · exact b12 i e h3 xs A (by omega) (by omega) (by omega) (by omega) o s (.refl _) (mr xs (rot_id (.inl (by omega)) (by omega) (by omega)))
    refine condP (fun hm => ⟨⟨by omega, by omega⟩, ?_⟩) (fun hm => ?_)
    · exact b3 (mid + m' - b') mid _ (by omega) (by omega) (by omega) (by omega) (Nat.le_refl _) (by omega) (.inr (by omega)) (.inr rfl)
    · exact b3 a' m' _ rfl (Nat.le_refl _) (by omega) (Nat.le_refl _) (by omega) (by omega) (.inl rfl) (.inl rfl)
theorem stableCI {h0 h : Hp} {p : Option Addr} {n cp : Nat} {xs : List Int} {A F : Bag} {cmp : Value} {cf : Int → Int → Int} {P : Int → Prop} (hX : CmpCI h0 F cmp cf P) (ho : OrdP (fun x y : Int => cf x y < 0)) (s : St h0 h (A + F)) (o : Sl (tI 3) p n cp xs A) (hP : ∀ k, k < n → P (xs.getD k (tI 3).d)) (hn : n < 400000) :
    HCalls Try.prog 65 #[.slice p n cp, .int .i64 (n : Int), cmp] h (fun v h' => v = .tuple #[] ∧ OutCI h0 p n cp 0 n xs F h' (fun ys => SrtR (tI 3).d (fun x y : Int => cf x y < 0) 0 n ys ∧ Stb (fun x y : Int => cf x y < 0) xs ys)) := by
  have hl0 := o.len
  refine slices_stableCmpFunc_int_call ?_
  rw [slices_stableCmpFunc_int_b0_eq]
  refine ⟨fun z h1 => ∃ k : Nat, z.1 = ((20 * k : Nat) : Int) ∧ z.2.1 = ((20 * k + 20 : Nat) : Int) ∧ 20 * k ≤ n ∧ OutCI h0 p n cp 0 n xs F h1 (fun ys => BlkS (tI 3).d (fun x y : Int => cf x y < 0) 20 0 (20 * k) ys ∧ Stb (fun x y : Int => cf x y < 0) xs ys), fun z _ => (n - z.1).toNat, ⟨0, rfl, rfl, by omega, xs, A, o, s, .refl _, blk_start, .refl _⟩, ?_⟩
  clear s
  rintro ⟨_, _, _⟩ h1 ⟨k, rfl, rfl, hk, ys, A1, o, s, w, hb, hst⟩
  dsimp only
  have hl := o.len
  rw [slices_stableCmpFunc_int_b1_eq]
  refine condP (fun hlt => ?_) (fun hge => ?_)
  · refine (insertionStableCI hX ho s o (w.allN hl0 hP) (a' := 20 * k) (b' := 20 * k + 20) rfl rfl (by omega) (by omega) (by omega)).mono fun v h2 ⟨hv, zs, A2, o2, s2, w2, u1, u2⟩ => ⟨hv, ⟨by omega, by omega⟩, ⟨k + 1, by push_cast; omega, by push_cast; omega, by omega, zs, A2, o2, s2, w.trans (w2.mono (by omega) (by omega) (by omega)).1, ?_, hst.trans u2⟩, by dsimp only; omega⟩
    have := blk_step (by omega) hb w2 u1
    rwa [show 20 * k + 20 = 20 * (k + 1) by omega] at this
  rw [slices_stableCmpFunc_int_b2_eq]
  refine (insertionStableCI hX ho s o (w.allN hl0 hP) (a' := 20 * k) (b' := n) rfl rfl (by omega) (by omega) (by omega)).mono fun v h2 ⟨hv, zs, A2, o2, s2, w2, u1, u2⟩ => ⟨hv, ?_⟩
  have hb0 := blk_step (by omega) hb w2 u1
  refine ⟨fun z h1 => ∃ bs : Nat, z.1 = (bs : Int) ∧ 20 ≤ bs ∧ bs ≤ 2 * n + 20 ∧ OutCI h0 p n cp 0 n xs F h1 (fun ys => BlkS (tI 3).d (fun x y : Int => cf x y < 0) bs 0 n ys ∧ Stb (fun x y : Int => cf x y < 0) xs ys), fun z _ => (n - z.1).toNat, ⟨20, rfl, by omega, by omega, zs, A2, o2, s2, w.trans (w2.mono (by omega) (by omega) (by omega)).1, hb0, hst.trans u2⟩, ?_⟩
  clear hb0 hb hst u1 u2 w2 s2 o2 w s o
  rintro ⟨_, _⟩ h3 ⟨bs, rfl, hbs1, hbs2, ys, A1, o, s, w, hb, hst⟩
  dsimp only
  have hl := o.len
  rw [slices_stableCmpFunc_int_b3_eq]
  refine condP (fun hlt => ⟨⟨by omega, by omega⟩, ?_⟩) (fun hge => ⟨rfl, ys, A1, o, s, w, blk_all (by omega) hb, hst⟩)
  refine ⟨fun z h1 => ∃ k : Nat, z.1 = ((2 * bs * k : Nat) : Int) ∧ z.2.1 = ((2 * bs * k + 2 * bs : Nat) : Int) ∧ 2 * bs * k ≤ n ∧ OutCI h0 p n cp 0 n xs F h1 (fun ys => BlkS (tI 3).d (fun x y : Int => cf x y < 0) (2 * bs) 0 (2 * bs * k) ys ∧ BlkS (tI 3).d (fun x y : Int => cf x y < 0) bs (bs * (2 * k)) n ys ∧ Stb (fun x y : Int => cf x y < 0) xs ys), fun z _ => (n - z.1).toNat,
    ⟨0, by show (0 : Int) = _; simp, by show 2 * (bs : Int) = _; push_cast; omega, by omega, ys, A1, o, s, w, by rw [Nat.mul_zero]; exact blk_start, by exact hb, hst⟩, ?_⟩
  clear hb hst w s o
  rintro ⟨_, _, _⟩ h4 ⟨k, rfl, rfl, hk, ys, A1, o, s, w, hb, hb2, hst⟩
  dsimp only
  have hl := o.len
  have ek : bs * (2 * k) = 2 * bs * k := by rw [← Nat.mul_assoc, Nat.mul_comm bs 2]
  have d1 : 2 * bs * k / bs * bs = 2 * bs * k := by rw [← ek, Nat.mul_comm bs, Nat.mul_div_cancel _ (by omega)]
  have d2 : (2 * bs * k + bs) / bs * bs = 2 * bs * k + bs := by rw [← ek, show bs * (2 * k) + bs = (2 * k + 1) * bs by rw [Nat.add_mul, Nat.mul_comm bs, Nat.one_mul], Nat.mul_div_cancel _ (by omega)]
  generalize hK : 2 * bs * k = Kb at *
  rw [slices_stableCmpFunc_int_b4_eq]
  refine condP (fun hlt2 => ⟨⟨by omega, by omega⟩, ?_⟩) (fun hge => ?_)
  · have t1 : SrtR (tI 3).d (fun x y : Int => cf x y < 0) Kb (Kb + bs) ys := blk_srt (by omega) hb2 (by omega) d1 (by omega) (by omega)
    have t2 : SrtR (tI 3).d (fun x y : Int => cf x y < 0) (Kb + bs) (Kb + 2 * bs) ys := blk_srt (by omega) hb2 (by omega) d2 (by omega) (by omega)
    refine (symMergeCI hX ho (by omega) n Kb (Kb + bs) (Kb + 2 * bs) _ _ _ h4 ys A1 (by omega) s o (w.allN hl0 hP) rfl (by push_cast; rfl) rfl (by omega) (by omega) (by omega) t1 t2).mono fun v h5 ⟨hv, zs, A2, o2, s2, w2, u1, u2⟩ => ⟨hv, ⟨by omega, by omega⟩, ⟨by omega, by omega⟩, ⟨k + 1, ?_, ?_, ?_, zs, A2, o2, s2, w.trans (w2.mono (by omega) (by omega) (by omega)).1, ?_, ?_, hst.trans u2⟩, by dsimp only; omega⟩
    · rw [Nat.mul_add, hK, Nat.mul_one]
    · rw [Nat.mul_add, hK, Nat.mul_one]; push_cast; omega
    · rw [Nat.mul_add, hK, Nat.mul_one]; omega
    · rw [Nat.mul_add, hK, Nat.mul_one]
      rw [← hK] at hb w2 u1 ⊢
      exact blk_step (by omega) hb w2 u1
    · have hb3 : BlkS (tI 3).d (fun x y : Int => cf x y < 0) bs (bs * (2 * (k + 1))) n ys := fun p q h1 h2 h3 h4 => hb2 p q (by rw [Nat.mul_add, Nat.mul_add] at h1; omega) h2 h3 h4
      exact blk_out w2 hb3 (.inr (by rw [Nat.mul_add, Nat.mul_add, ek]; omega))
  rw [slices_stableCmpFunc_int_b5_eq]
  have fin : ∀ (h5 : Hp) (zs : List Int) (A2 : Bag), Sl (tI 3) p n cp zs A2 → St h0 h5 (A2 + F) → Swp (tI 3).d 0 n xs zs → BlkS (tI 3).d (fun x y : Int => cf x y < 0) (2 * bs) 0 n zs → Stb (fun x y : Int => cf x y < 0) xs zs → slices_stableCmpFunc_int_b6 p n cp n cmp bs h5 (fun s' h' => (∃ bs : Nat, s'.1 = (bs : Int) ∧ 20 ≤ bs ∧ bs ≤ 2 * n + 20 ∧ OutCI h0 p n cp 0 n xs F h' (fun ys => BlkS (tI 3).d (fun x y : Int => cf x y < 0) bs 0 n ys ∧ Stb (fun x y : Int => cf x y < 0) xs ys)) ∧ (n - s'.1).toNat < ((n : Int) - bs).toNat) (fun v h' => v = .tuple #[] ∧ OutCI h0 p n cp 0 n xs F h' (fun ys => SrtR (tI 3).d (fun x y : Int => cf x y < 0) 0 n ys ∧ Stb (fun x y : Int => cf x y < 0) xs ys)) := by
    intro h5 zs A2 o2 s2 w2 u1 u2
    rw [slices_stableCmpFunc_int_b6_eq]
    exact ⟨⟨by omega, by omega⟩, ⟨bs * 2, by push_cast; rfl, by omega, by omega, zs, A2, o2, s2, w2, by rw [Nat.mul_comm]; exact u1, u2⟩, by dsimp only; omega⟩
  refine ⟨⟨by omega, by omega⟩, condP (fun hm => ?_) (fun hm => ?_)⟩
  · have t1 : SrtR (tI 3).d (fun x y : Int => cf x y < 0) Kb (Kb + bs) ys := blk_srt (by omega) hb2 (by omega) d1 (by omega) (by omega)
    have t2 : SrtR (tI 3).d (fun x y : Int => cf x y < 0) (Kb + bs) n ys := blk_srt (by omega) hb2 (by omega) d2 (by omega) (by omega)
    refine (symMergeCI hX ho (by omega) n Kb (Kb + bs) n _ _ _ h4 ys A1 (by omega) s o (w.allN hl0 hP) rfl (by push_cast; rfl) rfl (by omega) (by omega) (by omega) t1 t2).mono fun v h5 ⟨hv, zs, A2, o2, s2, w2, u1, u2⟩ => ⟨hv, fin h5 zs A2 o2 s2 (w.trans (w2.mono (by omega) (by omega) (by omega)).1) ?_ (hst.trans u2)⟩
    rw [← hK] at hb w2 u1
    exact blk_step (by omega) hb w2 u1
  · have t1 : SrtR (tI 3).d (fun x y : Int => cf x y < 0) Kb n ys := blk_srt (by omega) hb2 (by omega) d1 (by omega) (by omega)
    refine fin h4 ys A1 o s w ?_ hst
    rw [← hK] at hb t1
    exact blk_step (by omega) hb (.refl _) t1
/-- The whole slice. -/
theorem sortStableCI {h0 h : Hp} {p : Option Addr} {n cp : Nat} {xs : List Int} {A F : Bag} {cmp : Value} {cf : Int → Int → Int} {P : Int → Prop} (hX : CmpCI h0 F cmp cf P) (ho : OrdP (fun x y : Int => cf x y < 0)) (s : St h0 h (A + F)) (o : Sl (tI 3) p n cp xs A) (hP : ∀ k, k < n → P (xs.getD k (tI 3).d)) (hn : n < 400000) :
    HCalls Try.prog 56 #[.slice p n cp, cmp] h (fun v h' => v = .tuple #[] ∧ ∃ ys A', Sl (tI 3) p n cp ys A' ∧ St h0 h' (A' + F) ∧ ys.Pairwise (fun x y => ¬ (fun x y : Int => cf x y < 0) y x) ∧ Stb (fun x y : Int => cf x y < 0) xs ys) := by
  refine slices_SortStableFunc_Sint_int_call ?_
  rw [slices_SortStableFunc_Sint_int_b0_eq]
  exact (stableCI hX ho s o hP hn).mono fun v h' ⟨hv, ys, A', o2, s2, w, hs, hst⟩ => ⟨hv, rfl, ys, A', o2, s2, srtR_pairwise o2.len hs, hst⟩
end Go.Proofs.Ytipmcfpjdebpdaa

/- A wavelet tree is made: what is needed. -/
set_option maxRecDepth 100000
namespace Go.Proofs.Ytipmcfpjdebpdaa
open Go Go.Sx
abbrev tB : Ty Bool := ⟨4, 1, fun b => [.bool b], false, fun _ => rfl, by decide, fun _ v hv => by simp at hv; subst hv; rfl⟩
theorem ok_int : ElOk TI Try.prog 24 := elB_spec (by kernel_rfl)
theorem ok_vec : ElOk tV Try.prog 79 := elB_spec (by kernel_rfl)
theorem tB_cells (zs : List Bool) : tB.cells zs = zs.map Value.bool := by
  induction zs with
  | nil => rfl
  | cons z r ih => rw [Ty.cells_cons, ih]; rfl
theorem rd_bools {h : Hp} {p : Option Addr} {n : Nat} {zs : List Bool} (r : RdT tB h p n zs) : Rd h p n (zs.map Value.bool) := by
  have := r.rd
  rw [tB_cells] at this
  rwa [show n * tB.sz = n from Nat.mul_one n] at this
theorem cloneI_w {h : Hp} {p : Option Addr} {n c : Nat} {xs : List Int} (r : RdT TI h p n xs) (hn : n < 1000000) :
    HCalls Try.prog 28 #[.slice p n c] h (fun v h' => ∃ q d A, v = .slice q n d ∧ Sl TI q n d xs A ∧ St h h' A) := by
  refine slices_Clone_Sint_int_call ?_
  rw [slices_Clone_Sint_int_b0_eq]
  have s := St.start h
  refine cond_intro (fun h1 => ?_) (fun h1 => ?_)
  · have hp : p = none := by simpa using h1
    subst hp
    have hn0 : n = 0 := by
      rcases r.2 with h0 | ⟨a, ha, _⟩
      · exact h0
      · cases ha
    subst hn0
    have : xs = [] := List.eq_nil_of_length_eq_zero r.len
    subst this
    exact ⟨none, 0, 0, rfl, Sl.nil, s⟩
  · refine s.new (cs := []) fun b h2 x2 s => ?_
    have o : Sl TI (some ⟨b, 0, none⟩) 0 0 [] (cA b [] 3) := ⟨rfl, .inr ⟨b, [], rfl, Nat.le_refl _, by simp, rfl⟩⟩
    refine append_sl ok_int s o (r.ext x2) (by omega) fun p' c' h3 A' o' s' => ?_
    rw [Nat.zero_add, List.nil_append] at o'
    exact ⟨p', c', A', by rw [Nat.zero_add], o', s'.to⟩
theorem up_natCast (x k : Nat) : up k (x : Int) = ((x >>> k : Nat) : Int) := by
  unfold up
  rw [Nat.shiftRight_eq_div_pow, Int.natCast_ediv, Int.natCast_pow]; rfl
theorem isNaN_w (x : Int) (h : Hp) : HCalls Try.prog 62 #[.int .i64 x] h (fun v h' => h' = h ∧ v = .bool false) := by
  refine cmp_isNaN_int_call ?_
  rw [cmp_isNaN_int_b0_eq]
  exact ⟨rfl, by simp⟩
def cmpI (x y : Int) : Int := if x < y then -1 else if y < x then 1 else 0
theorem cmpI_neg {x y : Int} : cmpI x y < 0 ↔ x < y := by unfold cmpI; split <;> (try split) <;> omega
theorem Compare_w (x y : Int) (h : Hp) : HCalls Try.prog 52 #[.int .i64 x, .int .i64 y] h (fun v h' => v = .int .i64 (cmpI x y) ∧ h' = h) := by
  refine cmp_Compare_int_call ?_
  rw [cmp_Compare_int_b0_eq]
  refine (isNaN_w x h).mono fun v h1 ⟨hh, hv⟩ => ⟨_, hv, ?_⟩
  subst hh
  refine (isNaN_w y _).mono fun v h2 ⟨hh, hv⟩ => ⟨_, hv, ?_⟩
  subst hh
  refine condNo rfl (condNo rfl (condP (fun h1 => ⟨?_, rfl⟩) (fun h1 => condP (fun h2 => ⟨?_, rfl⟩) (fun h2 => ⟨?_, rfl⟩))))
  · unfold cmpI; rw [if_pos h1]
  · unfold cmpI; rw [if_neg h1, if_pos h2]
  · unfold cmpI; rw [if_neg h1, if_neg h2]
/-- The order of a level. -/
def cfU (k : Nat) (x y : Int) : Int := cmpI (up k x) (up k y)
theorem ordU (k : Nat) : OrdP (fun x y : Int => cfU k x y < 0) := by
  constructor
  · intro x y h1 h2
    have := cmpI_neg.1 h1
    have := cmpI_neg.1 h2
    omega
  · intro x y z h1 h2 h3
    unfold cfU at h1 h2 h3
    rw [cmpI_neg] at h1 h2 h3
    omega
theorem cmpU_ok {h0 : Hp} {G : Bag} {sb k : Nat} {D : Bag} [x : Bag.Has sb G [.int .i64 (k : Int)] 3 D] (hk : k ≤ 64) : CmpCI h0 G (.func (.func 57) #[] #[ptr sb]) (cfU k) (fun x => 0 ≤ x) := by
  intro u v h B K s hu hv hK
  obtain ⟨u, rfl⟩ := Int.eq_ofNat_of_zero_le hu
  obtain ⟨v, rfl⟩ := Int.eq_ofNat_of_zero_le hv
  have c : cell h ⟨sb, 0, none⟩ = some (.int .i64 (k : Int)) := by
    have s' : St h0 h (cA sb [.int .i64 (k : Int)] 3 + (D + B)) := by
      rw [x.eq] at s
      exact s.to
    exact s'.cell 0
  refine funX_of (by kernel_rfl) (wavelet_Make_c2_call ?_)
  rw [wavelet_Make_c2_b0_eq]
  refine ⟨_, c, shr_intro (x := u) (s := k) rfl rfl hk ⟨_, c, shr_intro (x := v) (s := k) rfl rfl hk ⟨_, Compare_w _ _ _, ?_⟩⟩⟩
  have := hK h (.refl _)
  unfold cfU at this
  rwa [up_natCast, up_natCast] at this
/-- Whether an element is out of range. -/
theorem contains_w {h : Hp} {p : Option Addr} {n c sb : Nat} {l : List Int} {sg : Int} (r : RdT TI h p n l) (hn : n < 1000000) (cs : cell h ⟨sb, 0, none⟩ = some (.int .i64 sg)) :
    HCalls Try.prog 46 #[.slice p n c, .func (.func 54) #[] #[ptr sb]] h (fun v h' => h' = h ∧ v = .bool (decide (∃ x ∈ l, x < 0 ∨ sg ≤ x))) := by
  have hl := r.len
  refine slices_ContainsFunc_Sint_int_call ?_
  rw [slices_ContainsFunc_Sint_int_b0_eq]
  refine HCalls.mono (K := fun v h' => h' = h ∧ ∃ z : Int, v = .int .i64 z ∧ (0 ≤ z ↔ ∃ x ∈ l, x < 0 ∨ sg ≤ x)) ?_ fun v h1 ⟨hh, z, hv, hz⟩ => ⟨z, hv, hh, by rw [decide_eq_decide.2 hz]⟩
  refine slices_IndexFunc_Sint_int_call ?_
  rw [slices_IndexFunc_Sint_int_b0_eq]
  refine ⟨fun i h1 => h1 = h ∧ ∃ i' : Nat, i.1 = i' ∧ i' ≤ n ∧ ∀ k, k < i' → ¬ (l.getD k 0 < 0 ∨ sg ≤ l.getD k 0), fun i _ => (n - i.1).toNat, ⟨rfl, 0, rfl, by omega, fun k hk => by omega⟩, ?_⟩
  rintro ⟨_, _⟩ h1 ⟨rfl, i, rfl, hi, hall⟩
  dsimp only
  rw [slices_IndexFunc_Sint_int_b1_eq]
  refine condP (fun hlt => ?_) (fun hge => ?_)
  · refine r.int (by omega) (by omega) ?_
    rw [Int.toNat_natCast]
    have hil : i < l.length := by omega
    have hmem : l.getD i 0 ∈ l := by simp [List.getD, hil]
    generalize hx : l.getD i 0 = x at *
    refine funX_of (by kernel_rfl) (wavelet_Make_c1_call ?_)
    rw [wavelet_Make_c1_b0_eq]
    refine condP (fun h2 => ⟨_, rfl, condYes rfl ⟨rfl, i, rfl, ?_⟩⟩) (fun h2 => ⟨_, cs, _, rfl, condP (fun h3 => ⟨rfl, i, rfl, ?_⟩) (fun h3 => ?_)⟩)
    · exact ⟨fun _ => ⟨x, hmem, .inl h2⟩, fun _ => by omega⟩
    · exact ⟨fun _ => ⟨x, hmem, .inr h3⟩, fun _ => by omega⟩
    · rw [slices_IndexFunc_Sint_int_b2_eq]
      refine ⟨⟨by omega, by omega⟩, ⟨rfl, i + 1, by push_cast; rfl, by omega, fun k hk => ?_⟩, by dsimp only; omega⟩
      rcases Nat.lt_or_ge k i with h4 | h4
      · exact hall k h4
      · rw [show k = i by omega, hx]; omega
  · rw [slices_IndexFunc_Sint_int_b3_eq]
    refine ⟨rfl, -1, rfl, fun h => by omega, ?_⟩
    rintro ⟨x, hx, hbad⟩
    obtain ⟨k, hk, rfl⟩ := List.getElem_of_mem hx
    have := hall k (by omega)
    simp [List.getD, hk] at this
    omega
end Go.Proofs.Ytipmcfpjdebpdaa

/- A wavelet tree is made. -/
set_option maxRecDepth 100000
namespace Go.Proofs.Ytipmcfpjdebpdaa
open Go Go.Sx
/-- The height. -/
def IsH (sg : Int) (H : Nat) : Prop := sg ≤ 2 ^ H ∧ (H = 0 ∨ (2 : Int) ^ (H - 1) < sg)
theorem isH_le {sg : Int} {H : Nat} (h : IsH sg H) (hs : sg ≤ 1024) : H ≤ 10 := by
  rcases h.2 with h0 | h0
  · omega
  · refine Classical.byContradiction fun hn => ?_
    have h1 : (2 : Nat) ^ 10 ≤ 2 ^ (H - 1) := Nat.pow_le_pow_right (by decide) (by omega)
    have h2 : (2 : Int) ^ (H - 1) = ((2 ^ (H - 1) : Nat) : Int) := by push_cast; rfl
    have h3 : (2 : Nat) ^ 10 = 1024 := by decide
    omega
/-- A vector in memory, with its blocks. -/
def PV (a : Addr) (x : List Bool) (A : Bag) : Prop := Held A fun h => Vec h a x
theorem AllH.held {bs : List Addr} {xs : List (List Bool)} {A F : Bag} {h0 h : Hp} (a : AllH PV bs xs A) (s : St h0 h (A + F)) : ∀ i, i < bs.length → Vec h (bs.getD i tV.d) (xs.getD i []) := by
  intro i hi
  obtain ⟨Ai, B, rfl, hp⟩ := AllH.pick (d := []) (d' := tV.d) a hi
  exact hp h0 h (B + F) s.to
theorem make_vec {h : Hp} {p : Option Addr} {n c : Nat} {bits : List Bool} (r : RdT tB h p n bits) (hn : n ≤ 65536) : HCalls Try.prog 55 #[.slice p n c] h fun v h' => ∃ a B, v = .tuple #[.pointer (some a), .int .i64 0] ∧ PV a bits B ∧ St h h' B :=
  (Make_loc (rd_bools r) hn).mono fun v h' ⟨x, a, hv, l⟩ => by
    obtain ⟨B, s, hd⟩ := held_of_loc x l
    exact ⟨a, B, hv, hd, s⟩
section
variable {h : Hp} {b1 tb q0 : Nat} {l : List Int} {sg : Int} {H : Nat} {q : Option Addr} {n e : Nat}
/-- What holds before the level d is made. -/
def MkInv (h : Hp) (tb : Nat) (l : List Int) (sg : Int) (H : Nat) (q : Option Addr) (n e d : Nat) (h' : Hp) : Prop :=
  ∃ ys Aq lp lc bs Al lvls V, Sl TI q n e ys Aq ∧ LvP l (H - d) ys ∧ Sl tV lp d lc bs Al ∧ AllH PV bs lvls V ∧ (∀ i, i < d → ∃ z, LvP l (H - i) z ∧ lvls.getD i [] = z.map (bitU (H - 1 - i))) ∧
    St h h' (Aq + (cA tb [.int .i64 (n : Int), .int .i64 sg, .int .i64 (H : Int), .slice lp d lc] 81 + (Al + V)))
theorem mk_done (hl : l.length = n) (hn : n ≤ 4096) (hval : ∀ x ∈ l, 0 ≤ x ∧ x < sg) (h1 : 1 ≤ sg) (h2 : sg ≤ 1024) (hH : IsH sg H) {h' : Hp} (m : MkInv h tb l sg H q n e H h') : Ext h h' ∧ WT h' tb l sg H ∧ ∃ A, St h h' A ∧ Held A fun g => WT g tb l sg H := by
  obtain ⟨ys, Aq, lp, lc, bs, Al, lvls, V, o, lv, ol, av, hv, s0⟩ := m
  have hbl := ol.len
  have key : Held (Aq + (cA tb [.int .i64 (n : Int), .int .i64 sg, .int .i64 (H : Int), .slice lp H lc] 81 + (Al + V))) fun g => WT g tb l sg H := by
    intro h0 g F0 s0
    have s := s0.to (B := Aq + (cA tb [.int .i64 (n : Int), .int .i64 sg, .int .i64 (H : Int), .slice lp H lc] 81 + (Al + (V + F0))))
    refine ⟨?_, s.ldB, s.ldB, ⟨lp, lc, bs, s.ldB, ol.rd (s.to (B := Al + (Aq + (cA tb [.int .i64 (n : Int), .int .i64 sg, .int .i64 (H : Int), .slice lp H lc] 81 + (V + F0))))), fun d hd => ?_⟩, by omega, hval, h1, hH.1, isH_le hH h2⟩
    · rw [hl]; exact s.ld0
    · obtain ⟨z, hz, he⟩ := hv d hd
      refine ⟨z, hz, ?_⟩
      rw [← he]
      exact AllH.held av (s.to (B := V + (Aq + (cA tb [.int .i64 (n : Int), .int .i64 sg, .int .i64 (H : Int), .slice lp H lc] 81 + (Al + F0))))) d (by omega)
  exact ⟨s0.ext, key h h' 0 (s0.to), _, s0, key⟩
end
end Go.Proofs.Ytipmcfpjdebpdaa

/- A wavelet tree is made: Make. -/
set_option maxRecDepth 100000
namespace Go.Proofs.Ytipmcfpjdebpdaa
open Go Go.Sx
theorem bit_nat (x k : Nat) : bitU k (x : Int) = decide ((((x >>> k) % 2 : Nat) : Int) = 1) := by
  unfold bitU
  rw [up_natCast]
  congr 1
theorem Make_w {h : Hp} {p : Option Addr} {n c : Nat} {l : List Int} (r : RdT TI h p n l) (hn : n < 1000000) (sg : Int) :
    HCalls Try.prog 40 #[.slice p n c, .int .i64 sg] h (fun v h' => Ext h h' ∧ (if sg < 1 ∨ 1024 < sg ∨ (∃ x ∈ l, x < 0 ∨ sg ≤ x) then v = .tuple #[.pointer none, .int .i64 2] else if 4096 < n then v = .tuple #[.pointer none, .int .i64 4] else ∃ tb H, v = .tuple #[ptr tb, .int .i64 0] ∧ IsH sg H ∧ WT h' tb l sg H ∧ ∃ A, St h h' A ∧ Held A fun g => WT g tb l sg H)) := by
  have hll := r.len
  refine wavelet_Make_call ?_
  rw [wavelet_Make_b0_eq]
  have s := St.start h
  refine s.new (cs := [_]) fun b1 h1 x1 s => ?_
  refine ⟨_, s.ld0, condP (fun c1 => ⟨x1, by rw [if_pos (.inl c1)]⟩) (fun c1 => ⟨_, s.ld0, condP (fun c2 => ⟨x1, by rw [if_pos (.inr (.inl c2))]⟩) (fun c2 => ?_)⟩)⟩
  refine (contains_w (sg := sg) (r.ext x1) hn s.ld0).mono fun v h2 ⟨hh, hv⟩ => ⟨_, hv, ?_⟩
  subst hh
  refine condP (fun c3 => ⟨x1, by rw [if_pos (.inr (.inr c3))]⟩) (fun c3 => ?_)
  have hno : ¬ (sg < 1 ∨ 1024 < sg ∨ (∃ x ∈ l, x < 0 ∨ sg ≤ x)) := fun hx => hx.elim c1 fun hx => hx.elim c2 c3
  simp only [if_neg hno]
  rw [wavelet_Make_b1_eq]
  refine condP (fun c4 => ⟨x1, by rw [if_pos (by omega)]⟩) (fun c4 => ?_)
  have hn4 : ¬ 4096 < n := by omega
  simp only [if_neg hn4]
  have hval : ∀ x ∈ l, 0 ≤ x ∧ x < sg := fun x hx => by
    have : ¬ (x < 0 ∨ sg ≤ x) := fun hb => c3 ⟨x, hx, hb⟩
    omega
  refine ⟨_, s.ld0, s.new (cs := [_, _, _, _]) fun tb h3 x3 s => ?_⟩
  -- the height
  refine ⟨fun _ h' => ∃ H : Nat, (H = 0 ∨ (2 : Int) ^ (H - 1) < sg) ∧ St h h' (cA tb [.int .i64 (n : Int), .int .i64 sg, .int .i64 (H : Int), .slice none 0 0] 81 + cA b1 [.int .i64 sg] 3), fun _ h' => match cell h' ((⟨tb, 0, none⟩ : Addr).add 2) with | some (.int _ z) => (100 - z).toNat | _ => 0, ⟨0, .inl rfl, s.to⟩, ?_⟩
  clear s x3
  rintro ⟨⟩ h4 ⟨H, hH0, s⟩
  dsimp only
  have hH11 : H ≤ 11 := by
    rcases hH0 with h0 | h0
    · omega
    · refine Classical.byContradiction fun hn => ?_
      have h1 : (2 : Nat) ^ 10 ≤ 2 ^ (H - 1) := Nat.pow_le_pow_right (by decide) (by omega)
      have h2 : (2 : Int) ^ (H - 1) = ((2 ^ (H - 1) : Nat) : Int) := by push_cast; rfl
      have h3 : (2 : Nat) ^ 10 = 1024 := by decide
      omega
  have hp11 : (2 : Nat) ^ H ≤ 2048 := Nat.le_trans (Nat.pow_le_pow_right (by decide) hH11) (by decide)
  have hp0 : 0 < (2 : Nat) ^ H := Nat.two_pow_pos H
  have ch4 : cell h4 ((⟨tb, 0, none⟩ : Addr).add 2) = some (.int .i64 (H : Int)) := s.ldB
  rw [wavelet_Make_b2_eq]
  refine ⟨_, s.ldB, shl_intro (x := 1) (s := H) rfl rfl (by show H ≤ 64; omega) (by rw [Nat.one_mul]; exact wrap_i64_in _ ⟨by omega, by omega⟩) ⟨_, s.ld0, condP (fun c5 => ?_) (fun c5 => ?_)⟩⟩
  · rw [Nat.one_mul] at c5
    refine ⟨_, s.ldB, ⟨by omega, by omega⟩, s.wrB fun h5 s => ⟨⟨H + 1, .inr ?_, s⟩, ?_⟩⟩
    · rw [Nat.add_sub_cancel]; exact_mod_cast c5
    · have c5' : cell h5 ((⟨tb, 0, none⟩ : Addr).add 2) = some (.int .i64 ((H : Int) + 1)) := s.ldB
      rw [c5', ch4]
      dsimp only
      omega
  rw [Nat.one_mul] at c5
  have hH : IsH sg H := ⟨by have h2 : (2 : Int) ^ H = ((2 ^ H : Nat) : Int) := by { push_cast; rfl }
                            omega, hH0⟩
  have h10 := isH_le hH (by omega)
  rw [wavelet_Make_b3_eq]
  refine (cloneI_w (r.ext s.ext) hn).mono fun v h5 ⟨q, e, Aq, hv, oq, s5⟩ => ⟨_, _, _, hv, _, (s5.ext.cell s.ldB), ?_⟩
  have s := s.join s5
  have hpl := r.len
  -- the levels
  refine ⟨fun d h' => ∃ d' : Nat, d.1 = (d' : Int) ∧ d' ≤ H ∧ MkInv h tb l sg H q n e d' h', fun d _ => (H - d.1).toNat, ⟨0, rfl, by omega, l, Aq, none, 0, [], 0, [], 0, oq, lvP_top fun x hx => ⟨(hval x hx).1, by have := (hval x hx).2; have := hH.1; simp; omega⟩, Sl.nil, rfl, fun i hi => by omega, ?_⟩, ?_⟩
  · exact (s.find b1).drop.to
  clear s s5 oq hv
  rintro ⟨_, _⟩ h6 ⟨d, rfl, hd, ys, Aq, lp, lc, bs, Al, lvls, V, oq, lv, ol, av, hlv, s⟩
  dsimp only
  rw [wavelet_Make_b4_eq]
  refine condP (fun c6 => ?_) (fun c6 => ?_)
  rotate_left
  · obtain rfl : d = H := by omega
    rw [wavelet_Make_b6_eq]
    have := mk_done r.len (by omega) hval (by omega) (by omega) hH ⟨ys, Aq, lp, lc, bs, Al, lvls, V, oq, lv, ol, av, hlv, s⟩
    exact ⟨this.1, tb, d, rfl, hH, this.2⟩
  have hdH : d < H := by omega
  obtain ⟨k, hk⟩ : ∃ k, H - 1 - d = k := ⟨_, rfl⟩
  have ek : (H : Int) - 1 - (d : Int) = (k : Int) := by omega
  refine ⟨_, s.ldB, ⟨by omega, by omega⟩, ⟨by omega, by omega⟩, s.new (cs := [_]) fun sb _ _ s => s.wr1 fun _ s => ⟨⟨by omega, by omega, by omega, by omega⟩, ?_⟩⟩
  rw [ek] at s
  simp only [Int.toNat_natCast, Nat.mul_one, repL_one]
  refine s.new (cs := List.replicate n (.bool false)) fun bb h8 _ s => ?_
  have ob : Sl tB (some ⟨bb, 0, none⟩) n n (List.replicate n false) (cA bb (List.replicate n (.bool false)) 4) := Sl.of_blk (by simp) (by rw [tB_cells]; simp)
  have hyl := oq.len
  have hypos : ∀ j, j < n → 0 ≤ ys.getD j 0 := fun j hj => by
    have hm : ys.getD j 0 ∈ ys := by simp [List.getD, show j < ys.length by omega]
    exact (hval _ (lv.perm.mem_iff.1 hm)).1
  refine ⟨fun z h' => ∃ (i : Nat) (bits : List Bool) (Ab : Bag), z.1 = (i : Int) ∧ i ≤ n ∧ Sl tB (some ⟨bb, 0, none⟩) n n bits Ab ∧ (∀ j, j < i → bits.getD j false = bitU k (ys.getD j 0)) ∧ St h h' (Ab + (cA sb [.int .i64 (k : Int)] 3 + (Aq + (cA tb [.int .i64 (n : Int), .int .i64 sg, .int .i64 (H : Int), .slice lp d lc] 81 + (Al + V))))), fun z _ => (n - z.1).toNat, ⟨0, _, _, rfl, by omega, ob, fun j hj => by omega, s⟩, ?_⟩
  clear s ob
  rintro ⟨_, _⟩ h9 ⟨i, bits, Ab, rfl, hi, ob, hbits, s⟩
  dsimp only
  have hbl := ob.len
  rw [wavelet_Make_b5_eq]
  refine condP (fun c7 => ?_) (fun c7 => ?_)
  · obtain ⟨u, hu⟩ := Int.eq_ofNat_of_zero_le (hypos i (by omega))
    refine (oq.rd (s.to (B := Aq + (Ab + (cA sb [.int .i64 (k : Int)] 3 + (cA tb [.int .i64 (n : Int), .int .i64 sg, .int .i64 (H : Int), .slice lp d lc] 81 + (Al + V))))))).int (by omega) (by omega) ?_
    rw [show ys.getD (Int.toNat (i : Int)) 0 = (u : Int) by rw [Int.toNat_natCast]; exact hu]
    refine ⟨_, s.ld0, shr_intro (x := u) (s := k) rfl rfl (by show k ≤ 64; omega) ?_⟩
    have hub : u ≤ 1024 := by
      have hm : ys.getD i 0 ∈ ys := by simp [List.getD, show i < ys.length by omega]
      have := (hval _ (lv.perm.mem_iff.1 hm)).2
      omega
    have hus : u >>> k ≤ 1024 := Nat.le_trans (by rw [Nat.shiftRight_eq_div_pow]; exact Nat.div_le_self _ _) hub
    refine and_i64 (x := u >>> k) (y := 1) rfl rfl (by omega) (by omega) ?_
    rw [Nat.and_one_is_mod]
    refine ob.wrI (x := bitU k (u : Int)) s (by omega) (by omega) rfl (by rw [bit_nat]) fun h12 Ab' ob' s' => ?_
    rw [wavelet_Make_b7_eq]
    rw [Int.toNat_natCast] at ob'
    refine ⟨⟨by omega, by omega⟩, ⟨i + 1, _, Ab', by push_cast; rfl, by omega, ob', fun j hj => ?_, s'⟩, by dsimp only; omega⟩
    rcases Nat.lt_or_ge j i with h13 | h13
    · rw [List.getD_eq_getElem?_getD, List.getElem?_set_ne (by omega), ← List.getD_eq_getElem?_getD]
      exact hbits j h13
    · obtain rfl : j = i := by omega
      rw [hu]
      simp [List.getD, show j < bits.length by omega]
  · obtain rfl : i = n := by omega
    have hbm : bits = ys.map (bitU k) := by
      refine List.ext_getElem (by simp; omega) fun j g1 g2 => ?_
      have := hbits j (by omega)
      simp [List.getD, g1, show j < ys.length by omega] at this
      simp [this]
    rw [wavelet_Make_b8_eq]
    refine (make_vec (ob.rd s) (by omega)).mono fun v h13 ⟨a, B, hv, hpv, s13⟩ => ⟨_, _, hv, condNo rfl ?_⟩
    have s := s.join s13
    have s := (s.to (B := Ab + (cA tb [.int .i64 (i : Int), .int .i64 sg, .int .i64 (H : Int), .slice lp d lc] 81 + (Al + (cA sb [.int .i64 (k : Int)] 3 + (Aq + (V + B))))))).drop
    refine ⟨_, _, _, s.ldB, ?_⟩
    refine push_sl ok_vec (s.to (B := Al + (cA tb [.int .i64 (i : Int), .int .i64 sg, .int .i64 (H : Int), .slice lp d lc] 81 + (cA sb [.int .i64 (k : Int)] 3 + (Aq + (V + B)))))) ol (x := a) rfl rfl (by omega) fun p' c' h15 Al' ol' s => ?_
    have s := s.to (B := cA tb [.int .i64 (i : Int), .int .i64 sg, .int .i64 (H : Int), .slice lp d lc] 81 + (Al' + (cA sb [.int .i64 (k : Int)] 3 + (Aq + (V + B)))))
    refine s.wr (o := 3) rfl (by simp) fun h16 s => ?_
    have s : St h h16 (Aq + (cA sb [.int .i64 (k : Int)] 3 + (cA tb [.int .i64 (i : Int), .int .i64 sg, .int .i64 (H : Int), .slice p' (d + 1) c'] 81 + (Al' + (V + B))))) :=
      St.to (A := cA tb [.int .i64 (i : Int), .int .i64 sg, .int .i64 (H : Int), .slice p' (d + 1) c'] 81 + (Al' + (cA sb [.int .i64 (k : Int)] 3 + (Aq + (V + B))))) s
    refine (sortStableCI (cmpU_ok (sb := sb) (k := k) (by omega)) (ordU k) s oq hypos (by omega)).mono fun v h17 ⟨hv, ys', Aq', oq', s, hpw, hst⟩ => ⟨hv, ?_⟩
    rw [wavelet_Make_b9_eq]
    have e1 : H - d = k + 1 := by omega
    have e2 : H - (d + 1) = k := by omega
    rw [e1] at lv
    have erel : (fun x y : Int => cfU k x y < 0) = fun x y => up k x < up k y := by
      funext x y
      exact propext cmpI_neg
    rw [erel] at hst
    have lv' := lvP_next lv hst (hpw.imp fun h => fun h2 => h (cmpI_neg.2 h2))
    refine ⟨⟨by omega, by omega⟩, ⟨d + 1, by push_cast; rfl, by omega, ys', Aq', p', c', bs ++ [a], Al', lvls ++ [bits], V + B, oq', by rw [e2]; exact lv', ol', av.append (AllH.one hpv), fun j hj => ?_, ?_⟩, by dsimp only; omega⟩
    · have hvl := av.len
      have hbl2 := ol.len
      rcases Nat.lt_or_ge j d with h18 | h18
      · obtain ⟨z, hz1, hz2⟩ := hlv j h18
        refine ⟨z, hz1, ?_⟩
        rw [← hz2, List.getD_eq_getElem?_getD, List.getElem?_append_left (by omega), ← List.getD_eq_getElem?_getD]
      · obtain rfl : j = d := by omega
        refine ⟨ys, by rw [e1]; exact lv, ?_⟩
        rw [hk, List.getD_eq_getElem?_getD, List.getElem?_append_right (by omega), show j - lvls.length = 0 by omega]
        simpa using hbm
    · have := (s.find sb).drop
      exact this.to
end Go.Proofs.Ytipmcfpjdebpdaa

/- Numbers that sorting wants: bits.Len, xorshift, nextPowerOfTwo. -/
set_option maxRecDepth 100000
namespace Go.Proofs.Ytipmcfpjdebpdaa
open Go Go.Sx
/-! ### logarithms -/
/-- How many bits a number has. -/
def blen (x : Nat) : Nat := if x = 0 then 0 else x.log2 + 1
theorem blen_shift {x k : Nat} (h : 2 ^ k ≤ x) : blen x = blen (x / 2 ^ k) + k := by
  have hp : 0 < 2 ^ k := Nat.two_pow_pos k
  have hx : x ≠ 0 := by omega
  have hq : x / 2 ^ k ≠ 0 := by have := Nat.div_pos h hp; omega
  unfold blen
  rw [if_neg hx, if_neg hq]
  have : x.log2 = (x / 2 ^ k).log2 + k := by
    rw [Nat.log2_eq_iff hx]
    have h1 := Nat.log2_self_le hq
    have h2 := @Nat.lt_log2_self (x / 2 ^ k)
    constructor
    · rw [Nat.pow_add]
      exact Nat.le_trans (Nat.mul_le_mul_right _ h1) (Nat.div_mul_le_self _ _)
    · rw [show (x / 2 ^ k).log2 + k + 1 = ((x / 2 ^ k).log2 + 1) + k by omega, Nat.pow_add]
      exact (Nat.div_lt_iff_lt_mul hp).1 h2
  omega
theorem blen_le {x k : Nat} (h : x < 2 ^ k) : blen x ≤ k := by
  unfold blen
  split
  · omega
  · rename_i hx
    have h1 := Nat.log2_self_le hx
    have : 2 ^ x.log2 < 2 ^ k := Nat.lt_of_le_of_lt h1 h
    have := (Nat.pow_lt_pow_iff_right (by decide : 1 < 2)).1 this
    omega

theorem tab_step {s : ByteArray} {m : Nat} {nv : Int} {h : Hp} {K : Value → Hp → Prop} (hz : s.size = 256) (hs : ∀ n, n < 256 → (s.data.toList.getD n 0).toNat = blen n) (hm : m < 256) (h0 : 0 ≤ nv) (h1 : nv < 1000)
    (hk : K (.int .i64 (nv + (blen m : Nat))) h) : (0 ≤ IntKind.u8.wrap (m : Int) ∧ IntKind.u8.wrap (m : Int) < (s.size : Int)) ∧ InR (((s.data.toList.getD (Int.toNat (IntKind.u8.wrap (m : Int))) 0).toNat : Int)) ∧
      InR (nv + (((s.data.toList.getD (Int.toNat (IntKind.u8.wrap (m : Int))) 0).toNat : Int))) ∧ K (.int .i64 (nv + (((s.data.toList.getD (Int.toNat (IntKind.u8.wrap (m : Int))) 0).toNat : Int)))) h := by
  have hw : IntKind.u8.wrap (m : Int) = m := wrap_u8_in _ (by omega) (by omega)
  have hb : blen m ≤ 8 := blen_le (by omega)
  rw [hw, show ((m : Nat) : Int).toNat = m by simp, hs m hm, hz]
  exact ⟨⟨by omega, by omega⟩, ⟨by omega, by omega⟩, ⟨by omega, by omega⟩, hk⟩

theorem Len64_ok (x : Nat) (hx : x < 18446744073709551616) (h : Hp) : HCalls Try.prog 77 #[.int .u64 (x : Int)] h (fun r h' => r = .int .i64 (blen x : Nat) ∧ h' = h) := by
  refine math_bits_Len64_call ?_
  have shr : ∀ (y k : Nat), y >>> k = y / 2 ^ k := fun y k => Nat.shiftRight_eq_div_pow y k
  have b3 : ∀ (y : Nat) (nv : Int), y < 256 → 0 ≤ nv → nv < 100 → nv + (blen y : Nat) = (blen x : Nat) → math_bits_Len64_b3 (y : Int) nv h (fun r h' => r = .int .i64 (blen x : Nat) ∧ h' = h) := by
    intro y nv hy h0 h1 he
    rw [math_bits_Len64_b3_eq]
    refine tab_step (K := fun r h' => r = .int .i64 (blen x : Nat) ∧ h' = h) ?_ ?_ hy h0 (by omega) ?_
    · decide +kernel
    · decide +kernel
    · rw [he]; exact ⟨rfl, rfl⟩
  have b2 : ∀ (y : Nat) (nv : Int), y < 65536 → 0 ≤ nv → nv < 90 → nv + (blen y : Nat) = (blen x : Nat) → math_bits_Len64_b2 (y : Int) nv h (fun r h' => r = .int .i64 (blen x : Nat) ∧ h' = h) := by
    intro y nv hy h0 h1 he
    rw [math_bits_Len64_b2_eq]
    refine condP (fun hc => ?_) (fun hc => b3 y nv (by omega) h0 (by omega) he)
    refine shr_intro (x := y) (s := 8) rfl rfl (by decide) ⟨⟨by omega, by omega⟩, ?_⟩
    rw [shr]
    have := blen_shift (x := y) (k := 8) (by omega)
    exact b3 _ _ (by omega) (by omega) (by omega) (by omega)
  have b1 : ∀ (y : Nat) (nv : Int), y < 4294967296 → 0 ≤ nv → nv < 70 → nv + (blen y : Nat) = (blen x : Nat) → math_bits_Len64_b1 (y : Int) nv h (fun r h' => r = .int .i64 (blen x : Nat) ∧ h' = h) := by
    intro y nv hy h0 h1 he
    rw [math_bits_Len64_b1_eq]
    refine condP (fun hc => ?_) (fun hc => b2 y nv (by omega) h0 (by omega) he)
    refine shr_intro (x := y) (s := 16) rfl rfl (by decide) ⟨⟨by omega, by omega⟩, ?_⟩
    rw [shr]
    have := blen_shift (x := y) (k := 16) (by omega)
    exact b2 _ _ (by omega) (by omega) (by omega) (by omega)
  rw [math_bits_Len64_b0_eq]
  refine condP (fun hc => ?_) (fun hc => b1 x 0 (by omega) (by omega) (by omega) (by omega))
  refine shr_intro (x := x) (s := 32) rfl rfl (by decide) ?_
  rw [shr]
  have := blen_shift (x := x) (k := 32) (by omega)
  exact b1 _ _ (by omega) (by omega) (by omega) (by omega)

theorem bitsLen_ok (x : Nat) (hx : x < 18446744073709551616) (h : Hp) : HCalls Try.prog 60 #[.int .u64 (x : Int)] h (fun r h' => r = .int .i64 (blen x : Nat) ∧ h' = h) := by
  refine math_bits_Len_call ?_
  rw [math_bits_Len_b0_eq]
  refine (Len64_ok x hx h).mono fun v h' ⟨hv, hh⟩ => ?_
  exact ⟨_, hv, rfl, hh⟩
theorem blen_pow {x : Nat} (h : 1 ≤ x) : 2 ^ blen x ≤ 2 * x ∧ x < 2 ^ blen x := by
  unfold blen
  rw [if_neg (by omega)]
  have h1 := Nat.log2_self_le (show x ≠ 0 by omega)
  have h2 := @Nat.lt_log2_self x
  rw [Nat.pow_succ]
  rw [Nat.pow_succ] at h2
  omega
/-- A power of two beyond a length. -/
theorem nextPow_ok (x : Nat) (h1 : 1 ≤ x) (hx : x < 1000000) (h : Hp) : HCalls Try.prog 90 #[.int .i64 (x : Int)] h (fun r h' => r = .int .u64 ((2 ^ blen x : Nat) : Int) ∧ h' = h) := by
  refine slices_nextPowerOfTwo_call ?_
  rw [slices_nextPowerOfTwo_b0_eq, wrap_u64_in _ (by omega) (by omega)]
  refine (bitsLen_ok x (by omega) h).mono fun v h' ⟨hv, hh⟩ => ⟨_, hv, ?_⟩
  have hb := blen_pow h1
  have hl : blen x ≤ 20 := blen_le (by omega)
  refine shl_intro (x := 1) (s := blen x) rfl rfl (by show blen x ≤ 64; omega) ?_ ⟨?_, hh⟩
  · exact wrap_u64_in _ (by omega) (by omega)
  · rw [Nat.one_mul]
theorem Next_ok {h0 h : Hp} {b : Nat} {z : Int} {e : TypeId} {F : Bag} (s : St h0 h (cA b [.int .u64 z] e + F)) : HCalls Try.prog 91 #[.pointer (some ⟨b, 0, none⟩)] h (fun r h' => ∃ y : Int, r = .int .u64 y ∧ St h0 h' (cA b [.int .u64 y] e + F)) := by
  refine slices_xorshift_Next_call ?_
  rw [slices_xorshift_Next_b0_eq]
  refine ⟨_, s.cell 0, _, s.cell 0, _, ⟨by decide, rfl⟩, _, rfl, s.wr (o := 0) rfl Nat.zero_lt_one fun h1 s => ?_⟩
  refine ⟨_, s.cell 0, _, s.cell 0, _, ⟨by decide, rfl⟩, _, rfl, s.wr (o := 0) rfl Nat.zero_lt_one fun h2 s => ?_⟩
  refine ⟨_, s.cell 0, _, s.cell 0, _, ⟨by decide, rfl⟩, _, rfl, s.wr (o := 0) rfl Nat.zero_lt_one fun h3 s => ?_⟩
  exact ⟨_, s.cell 0, _, rfl, s⟩
/-- Bits of a mask. -/
theorem mask_lt (r : Int) (m : Nat) (h1 : 1 ≤ m) (hm : m < 10000000) {Q : Int → Prop} (hq : ∀ k : Nat, k < m → Q (k : Int)) : ∃ an1 : Int, Sx.And .u64 r (IntKind.u64.wrap ((m : Int) - 1)) an1 ∧ Q an1 := by
  refine ⟨_, rfl, ?_⟩
  rw [wrap_u64_in ((m : Int) - 1) (by omega) (by omega)]
  have h2 : ((BitVec.ofInt IntKind.u64.bits r) &&& (BitVec.ofInt IntKind.u64.bits ((m : Int) - 1))).toNat ≤ m - 1 := by
    rw [BitVec.toNat_and]
    refine Nat.le_trans Nat.and_le_right ?_
    rw [show ((m : Int) - 1) = ((m - 1 : Nat) : Int) by omega, BitVec.ofInt_natCast, BitVec.toNat_ofNat]
    exact Nat.mod_le _ _
  rw [wrap_u64_in _ (by omega) (by omega)]
  exact hq _ (by omega)
end Go.Proofs.Ytipmcfpjdebpdaa

/- Sorting: the choice of a pivot, breakPatterns. -/
set_option maxRecDepth 100000
namespace Go.Proofs.Ytipmcfpjdebpdaa
open Go Go.Sx
theorem order2CI {h0 h : Hp} {p : Option Addr} {n cp a' b' sb : Nat} {a b z : Int} {e : TypeId} {xs : List Int} {A F : Bag} {cmp : Value} {cf : Int → Int → Int} {P : Int → Prop} (hX : CmpCI h0 F cmp cf P) (ho : OrdP (fun x y : Int => cf x y < 0)) (s : St h0 h (A + (cA sb [.int .i64 z] e + F))) (o : Sl (tI 3) p n cp xs A) (hP : ∀ k, k < n → P (xs.getD k (tI 3).d)) (ea : a = (a' : Int)) (eb : b = (b' : Int)) (ha : a' < n) (hb : b' < n) (hz : 0 ≤ z) (hz1 : z < 1000) :
    HCalls Try.prog 101 #[.slice p n cp, .int .i64 a, .int .i64 b, .pointer (some ⟨sb, 0, none⟩), cmp] h (fun v h' => ∃ u w z' : Int, v = .tuple #[.int .i64 u, .int .i64 w] ∧ (u = a ∧ w = b ∨ u = b ∧ w = a) ∧ z ≤ z' ∧ z' ≤ z + 1 ∧ St h0 h' (A + (cA sb [.int .i64 z'] e + F))) := by
  subst ea eb
  have hl0 := o.len
  refine slices_order2CmpFunc_int_call ?_
  rw [slices_order2CmpFunc_int_b0_eq]
  have r := o.rd s
  refine ldOI (i' := b') r rfl hb (ldOI (i' := a') r rfl ha ?_)
  refine hX _ _ _ _ _ (s.at F) (hP _ (by omega)) (hP _ (by omega)) fun h5 e5 => ⟨_, rfl, ?_⟩; have s := s.grow e5
  refine condP (fun hc => ?_) (fun hc => ⟨_, _, z, rfl, .inl ⟨rfl, rfl⟩, by omega, by omega, s⟩)
  have s := s.to (B := cA sb [.int .i64 z] e + (A + F))
  refine ⟨_, s.cell 0, ⟨by omega, by omega⟩, s.wr (o := 0) rfl Nat.zero_lt_one fun h2 s => ?_⟩
  exact ⟨_, _, z + 1, rfl, .inr ⟨rfl, rfl⟩, by omega, by omega, s.to⟩
theorem medianCI {h0 h : Hp} {p : Option Addr} {n cp sb : Nat} {a b c z : Int} {e : TypeId} {xs : List Int} {A F : Bag} {cmp : Value} {cf : Int → Int → Int} {P : Int → Prop} (hX : CmpCI h0 F cmp cf P) (ho : OrdP (fun x y : Int => cf x y < 0)) (s : St h0 h (A + (cA sb [.int .i64 z] e + F))) (o : Sl (tI 3) p n cp xs A) (hP : ∀ k, k < n → P (xs.getD k (tI 3).d)) (ha : 0 ≤ a ∧ a < n) (hb : 0 ≤ b ∧ b < n) (hc : 0 ≤ c ∧ c < n) (hz : 0 ≤ z) (hz1 : z < 900) :
    HCalls Try.prog 96 #[.slice p n cp, .int .i64 a, .int .i64 b, .int .i64 c, .pointer (some ⟨sb, 0, none⟩), cmp] h (fun v h' => ∃ u z' : Int, v = .int .i64 u ∧ (u = a ∨ u = b ∨ u = c) ∧ z ≤ z' ∧ z' ≤ z + 3 ∧ St h0 h' (A + (cA sb [.int .i64 z'] e + F))) := by
  refine slices_medianCmpFunc_int_call ?_
  rw [slices_medianCmpFunc_int_b0_eq]
  refine (order2CI hX ho s o hP (a' := a.toNat) (b' := b.toNat) (by omega) (by omega) (by omega) (by omega) hz (by omega)).mono fun v1 h1 ⟨u1, w1, z1, hv1, hu1, g1, g2, s⟩ => ⟨_, _, hv1, ?_⟩
  refine (order2CI hX ho s o hP (a' := w1.toNat) (b' := c.toNat) (by omega) (by omega) (by omega) (by omega) (by omega) (by omega)).mono fun v2 h2 ⟨u2, w2, z2, hv2, hu2, g3, g4, s⟩ => ⟨_, _, hv2, ?_⟩
  refine (order2CI hX ho s o hP (a' := u1.toNat) (b' := u2.toNat) (by omega) (by omega) (by omega) (by omega) (by omega) (by omega)).mono fun v3 h3 ⟨u3, w3, z3, hv3, hu3, g5, g6, s⟩ => ⟨_, _, hv3, ?_⟩
  exact ⟨_, z3, rfl, by omega, by omega, by omega, s⟩
theorem medianAdjacentCI {h0 h : Hp} {p : Option Addr} {n cp sb : Nat} {a z : Int} {e : TypeId} {xs : List Int} {A F : Bag} {cmp : Value} {cf : Int → Int → Int} {P : Int → Prop} (hX : CmpCI h0 F cmp cf P) (ho : OrdP (fun x y : Int => cf x y < 0)) (s : St h0 h (A + (cA sb [.int .i64 z] e + F))) (o : Sl (tI 3) p n cp xs A) (hP : ∀ k, k < n → P (xs.getD k (tI 3).d)) (ha : 1 ≤ a ∧ a + 1 < n) (hn : n < 1000000) (hz : 0 ≤ z) (hz1 : z < 900) :
    HCalls Try.prog 95 #[.slice p n cp, .int .i64 a, .pointer (some ⟨sb, 0, none⟩), cmp] h (fun v h' => ∃ u z' : Int, v = .int .i64 u ∧ (a - 1 ≤ u ∧ u ≤ a + 1) ∧ z ≤ z' ∧ z' ≤ z + 3 ∧ St h0 h' (A + (cA sb [.int .i64 z'] e + F))) := by
  refine slices_medianAdjacentCmpFunc_int_call ?_
  rw [slices_medianAdjacentCmpFunc_int_b0_eq]
  refine ⟨⟨by omega, by omega⟩, ⟨by omega, by omega⟩, (medianCI hX ho s o hP (by omega) (by omega) (by omega) hz hz1).mono fun v1 h1 ⟨u, z', hv, hu, g1, g2, s⟩ => ⟨_, hv, _, z', rfl, by omega, g1, g2, s⟩⟩
theorem choosePivotCI {h0 h : Hp} {p : Option Addr} {n cp a' b' : Nat} {a b : Int} {xs : List Int} {A F : Bag} {cmp : Value} {cf : Int → Int → Int} {P : Int → Prop} (hX : CmpCI h0 F cmp cf P) (ho : OrdP (fun x y : Int => cf x y < 0)) (s : St h0 h (A + F)) (o : Sl (tI 3) p n cp xs A) (hP : ∀ k, k < n → P (xs.getD k (tI 3).d)) (ea : a = (a' : Int)) (eb : b = (b' : Int)) (hab : a' < b') (hb : b' ≤ n) (hn : n < 1000000) :
    HCalls Try.prog 81 #[.slice p n cp, .int .i64 a, .int .i64 b, cmp] h (fun v h' => ∃ u hint : Int, v = .tuple #[.int .i64 u, .int .i64 hint] ∧ a ≤ u ∧ u < b ∧ St h0 h' (A + F)) := by
  subst ea eb
  refine slices_choosePivotCmpFunc_int_call ?_
  rw [slices_choosePivotCmpFunc_int_b0_eq]
  refine ⟨⟨by omega, by omega⟩, s.new (cs := [.int .i64 0]) fun sb h1 _ s => ?_⟩
  have s := s.to (B := A + (cA sb [.int .i64 0] 3 + F))
  have b2 : ∀ (u z : Int) (h' : Hp), a' ≤ u → u < b' → St h0 h' (A + (cA sb [.int .i64 z] 3 + F)) → slices_choosePivotCmpFunc_int_b2 (some ⟨sb, 0, none⟩) u h' (fun v h' => ∃ u hint : Int, v = .tuple #[.int .i64 u, .int .i64 hint] ∧ (a' : Int) ≤ u ∧ u < b' ∧ St h0 h' (A + F)) := by
    intro u z h' h1 h2 s
    rw [slices_choosePivotCmpFunc_int_b2_eq]
    have s := s.to (B := cA sb [.int .i64 z] 3 + (A + F))
    exact ⟨_, s.cell 0, condP (fun _ => ⟨_, _, rfl, h1, h2, s.drop⟩) fun _ => condP (fun _ => ⟨_, _, rfl, h1, h2, s.drop⟩) fun _ => ⟨_, _, rfl, h1, h2, s.drop⟩⟩
  have b1 : ∀ (u v w z : Int) (h' : Hp), (a' ≤ u ∧ u < b') → (a' ≤ v ∧ v < b') → (a' ≤ w ∧ w < b') → 0 ≤ z → z < 100 → St h0 h' (A + (cA sb [.int .i64 z] 3 + F)) → slices_choosePivotCmpFunc_int_b1 p n cp cmp (some ⟨sb, 0, none⟩) u v w h' (fun v h' => ∃ u hint : Int, v = .tuple #[.int .i64 u, .int .i64 hint] ∧ (a' : Int) ≤ u ∧ u < b' ∧ St h0 h' (A + F)) := by
    intro u v w z h' h1 h2 h3 hz hz1 s
    rw [slices_choosePivotCmpFunc_int_b1_eq]
    refine (medianCI hX ho s o hP (by omega) (by omega) (by omega) hz (by omega)).mono fun v1 h1 ⟨u, z', hv, hu, g1, g2, s⟩ => ⟨_, hv, ?_⟩
    exact b2 _ _ _ (by omega) (by omega) s
  refine quo_intro (by omega) (by omega) (by omega) ⟨⟨by omega, by omega⟩, ⟨by omega, by omega⟩, ?_⟩
  refine quo_intro (by omega) (by omega) (by omega) ⟨⟨by omega, by omega⟩, ⟨by omega, by omega⟩, ?_⟩
  refine quo_intro (by omega) (by omega) (by omega) ⟨⟨by omega, by omega⟩, ⟨by omega, by omega⟩, ?_⟩
  refine condP (fun h8 => ?_) (fun h8 => b2 _ _ _ (by omega) (by omega) s)
  refine condP (fun h50 => ?_) (fun h50 => b1 _ _ _ _ _ (by omega) (by omega) (by omega) (by omega) (by omega) s)
  refine (medianAdjacentCI hX ho s o hP (by omega) hn (by omega) (by omega)).mono fun v1 h1 ⟨u1, z1, hv, hu, g1, g2, s⟩ => ⟨_, hv, ?_⟩
  refine (medianAdjacentCI hX ho s o hP (by omega) hn (by omega) (by omega)).mono fun v1 h1 ⟨u2, z2, hv, hu, g3, g4, s⟩ => ⟨_, hv, ?_⟩
  refine (medianAdjacentCI hX ho s o hP (by omega) hn (by omega) (by omega)).mono fun v1 h1 ⟨u3, z3, hv, hu, g5, g6, s⟩ => ⟨_, hv, ?_⟩
  exact b1 _ _ _ _ _ (by omega) (by omega) (by omega) (by omega) (by omega) s
theorem breakPatternsCI {h0 h : Hp} {p : Option Addr} {n cp a' b' : Nat} {a b : Int} {xs : List Int} {A F : Bag} {cmp : Value} (s : St h0 h (A + F)) (o : Sl (tI 3) p n cp xs A) (ea : a = (a' : Int)) (eb : b = (b' : Int)) (hab : a' ≤ b') (hb : b' ≤ n) (hn : n < 1000000) :
    HCalls Try.prog 80 #[.slice p n cp, .int .i64 a, .int .i64 b, cmp] h (fun v h' => v = .tuple #[] ∧ OutCI h0 p n cp a' b' xs F h' fun _ => True) := by
  subst ea eb
  have hl0 := o.len
  refine slices_breakPatternsCmpFunc_int_call ?_
  rw [slices_breakPatternsCmpFunc_int_b0_eq]
  refine ⟨⟨by omega, by omega⟩, condP (fun h8 => ?_) (fun h8 => ⟨rfl, xs, A, o, s, .refl _, trivial⟩)⟩
  refine s.new (cs := [.int .u64 0]) fun rb h1 _ s => ?_
  refine s.wr (o := 0) rfl Nat.zero_lt_one fun h2 s => ?_
  rw [show ((b' : Int) - a') = ((b' - a' : Nat) : Int) by omega]
  refine (nextPow_ok (b' - a') (by omega) (by omega) h2).mono fun v h3 ⟨hv, hh⟩ => ⟨_, hv, ?_⟩
  subst hh
  have hm := blen_pow (x := b' - a') (by omega)
  generalize 2 ^ blen (b' - a') = m at *
  refine quo_intro (by omega) (by omega) (by omega) ⟨⟨by omega, by omega⟩, ⟨by omega, by omega⟩, ⟨by omega, by omega⟩, ?_⟩
  obtain ⟨q, hq⟩ : ∃ q : Nat, ((b' - a' : Nat) : Int) / 4 = q := ⟨(b' - a') / 4, by omega⟩
  rw [hq]
  refine ⟨fun i h1 => ∃ (i' : Nat) (z : Int), i.1 = i' ∧ a' ≤ i' ∧ ∃ ys A1, Sl (tI 3) p n cp ys A1 ∧ St h0 h1 (cA rb [.int .u64 z] 118 + (A1 + F)) ∧ Swp (tI 3).d a' b' xs ys, fun i _ => (b' - i.1).toNat, ⟨a' + 2 * q - 1, _, by show (_ : Int) - 1 = _; omega, by omega, xs, A, o, s, .refl _⟩, ?_⟩
  rintro ⟨_, _⟩ h1 ⟨i', z, rfl, hi, ys, A1, o, s, w⟩
  dsimp only
  have hl := o.len
  rw [slices_breakPatternsCmpFunc_int_b1_eq]
  refine quo_intro (by omega) (by omega) (by omega) ?_
  rw [hq]
  refine ⟨⟨by omega, by omega⟩, ⟨by omega, by omega⟩, ⟨by omega, by omega⟩, condP (fun hlt => ?_) (fun hlt => ⟨rfl, ys, A1, o, s.drop, w, trivial⟩)⟩
  refine (Next_ok s).mono fun v h3 ⟨y, hv, s⟩ => ⟨_, hv, mask_lt y m (by omega) (by omega) fun k hk => ⟨⟨by omega, by omega⟩, ?_⟩⟩
  have fin : ∀ u : Nat, u < b' - a' → slices_breakPatternsCmpFunc_int_b2 p n cp a' ((b' - a' : Nat) : Int) (some ⟨rb, 0, none⟩) m i' u h3 (fun s' h' => (∃ (i' : Nat) (z : Int), s'.1 = i' ∧ a' ≤ i' ∧ ∃ ys A1, Sl (tI 3) p n cp ys A1 ∧ St h0 h' (cA rb [.int .u64 z] 118 + (A1 + F)) ∧ Swp (tI 3).d a' b' xs ys) ∧ (b' - s'.1).toNat < (b' - (i' : Int)).toNat) (fun v h' => v = .tuple #[] ∧ OutCI h0 p n cp a' b' xs F h' fun _ => True) := by
    intro u hu
    rw [slices_breakPatternsCmpFunc_int_b2_eq]
    have s := s.to (B := A1 + (cA rb [.int .u64 y] 118 + F))
    refine ⟨⟨by omega, by omega⟩, ⟨by omega, by omega⟩, swOI (u' := i') (v' := a' + u) o s rfl (by push_cast; rfl) (by omega) (by omega) fun h6 A6 o6 s6 => ?_⟩
    rw [slices_breakPatternsCmpFunc_int_b3_eq]
    exact ⟨⟨by omega, by omega⟩, ⟨i' + 1, y, by push_cast; rfl, by omega, _, A6, o6, s6.to, .step w (by omega) (by omega) (by omega) (by omega) (by omega)⟩, by omega⟩
  refine condP (fun hk2 => ⟨⟨by omega, by omega⟩, ?_⟩) (fun hk2 => fin k (by omega))
  have := fin (k - (b' - a')) (by omega)
  rwa [show ((k - (b' - a') : Nat) : Int) = (k : Int) - ((b' - a' : Nat) : Int) by omega] at this
theorem order2OI {h0 h : Hp} {p : Option Addr} {n cp a' b' sb : Nat} {a b z : Int} {e : TypeId} {xs : List Int} {A F : Bag} {P : Int → Prop} (s : St h0 h (A + (cA sb [.int .i64 z] e + F))) (o : Sl (tI 3) p n cp xs A) (hP : ∀ k, k < n → P (xs.getD k (tI 3).d)) (ea : a = (a' : Int)) (eb : b = (b' : Int)) (ha : a' < n) (hb : b' < n) (hz : 0 ≤ z) (hz1 : z < 1000) :
    HCalls Try.prog 100 #[.slice p n cp, .int .i64 a, .int .i64 b, .pointer (some ⟨sb, 0, none⟩)] h (fun v h' => ∃ u w z' : Int, v = .tuple #[.int .i64 u, .int .i64 w] ∧ (u = a ∧ w = b ∨ u = b ∧ w = a) ∧ z ≤ z' ∧ z' ≤ z + 1 ∧ St h0 h' (A + (cA sb [.int .i64 z'] e + F))) := by
  subst ea eb
  have hl0 := o.len
  refine slices_order2Ordered_int_call ?_
  rw [slices_order2Ordered_int_b0_eq]
  have r := o.rd s
  refine ldOI (i' := b') r rfl hb (ldOI (i' := a') r rfl ha ?_)
  refine ⟨_, (Less_ok _ _ _).mono fun v9 h9 ⟨hh9, hv9⟩ => ⟨hv9, hh9⟩, ?_⟩
  refine condP (fun hc => ?_) (fun hc => ⟨_, _, z, rfl, .inl ⟨rfl, rfl⟩, by omega, by omega, s⟩)
  have s := s.to (B := cA sb [.int .i64 z] e + (A + F))
  refine ⟨_, s.cell 0, ⟨by omega, by omega⟩, s.wr (o := 0) rfl Nat.zero_lt_one fun h2 s => ?_⟩
  exact ⟨_, _, z + 1, rfl, .inr ⟨rfl, rfl⟩, by omega, by omega, s.to⟩
theorem medianOI {h0 h : Hp} {p : Option Addr} {n cp sb : Nat} {a b c z : Int} {e : TypeId} {xs : List Int} {A F : Bag} {P : Int → Prop} (s : St h0 h (A + (cA sb [.int .i64 z] e + F))) (o : Sl (tI 3) p n cp xs A) (hP : ∀ k, k < n → P (xs.getD k (tI 3).d)) (ha : 0 ≤ a ∧ a < n) (hb : 0 ≤ b ∧ b < n) (hc : 0 ≤ c ∧ c < n) (hz : 0 ≤ z) (hz1 : z < 900) :
    HCalls Try.prog 93 #[.slice p n cp, .int .i64 a, .int .i64 b, .int .i64 c, .pointer (some ⟨sb, 0, none⟩)] h (fun v h' => ∃ u z' : Int, v = .int .i64 u ∧ (u = a ∨ u = b ∨ u = c) ∧ z ≤ z' ∧ z' ≤ z + 3 ∧ St h0 h' (A + (cA sb [.int .i64 z'] e + F))) := by
  refine slices_medianOrdered_int_call ?_
  rw [slices_medianOrdered_int_b0_eq]
  refine (order2OI  s o hP (a' := a.toNat) (b' := b.toNat) (by omega) (by omega) (by omega) (by omega) hz (by omega)).mono fun v1 h1 ⟨u1, w1, z1, hv1, hu1, g1, g2, s⟩ => ⟨_, _, hv1, ?_⟩
  refine (order2OI  s o hP (a' := w1.toNat) (b' := c.toNat) (by omega) (by omega) (by omega) (by omega) (by omega) (by omega)).mono fun v2 h2 ⟨u2, w2, z2, hv2, hu2, g3, g4, s⟩ => ⟨_, _, hv2, ?_⟩
  refine (order2OI  s o hP (a' := u1.toNat) (b' := u2.toNat) (by omega) (by omega) (by omega) (by omega) (by omega) (by omega)).mono fun v3 h3 ⟨u3, w3, z3, hv3, hu3, g5, g6, s⟩ => ⟨_, _, hv3, ?_⟩
  exact ⟨_, z3, rfl, by omega, by omega, by omega, s⟩
theorem medianAdjacentOI {h0 h : Hp} {p : Option Addr} {n cp sb : Nat} {a z : Int} {e : TypeId} {xs : List Int} {A F : Bag} {P : Int → Prop} (s : St h0 h (A + (cA sb [.int .i64 z] e + F))) (o : Sl (tI 3) p n cp xs A) (hP : ∀ k, k < n → P (xs.getD k (tI 3).d)) (ha : 1 ≤ a ∧ a + 1 < n) (hn : n < 1000000) (hz : 0 ≤ z) (hz1 : z < 900) :
    HCalls Try.prog 92 #[.slice p n cp, .int .i64 a, .pointer (some ⟨sb, 0, none⟩)] h (fun v h' => ∃ u z' : Int, v = .int .i64 u ∧ (a - 1 ≤ u ∧ u ≤ a + 1) ∧ z ≤ z' ∧ z' ≤ z + 3 ∧ St h0 h' (A + (cA sb [.int .i64 z'] e + F))) := by
  refine slices_medianAdjacentOrdered_int_call ?_
  rw [slices_medianAdjacentOrdered_int_b0_eq]
  refine ⟨⟨by omega, by omega⟩, ⟨by omega, by omega⟩, (medianOI  s o hP (by omega) (by omega) (by omega) hz hz1).mono fun v1 h1 ⟨u, z', hv, hu, g1, g2, s⟩ => ⟨_, hv, _, z', rfl, by omega, g1, g2, s⟩⟩
theorem choosePivotOI {h0 h : Hp} {p : Option Addr} {n cp a' b' : Nat} {a b : Int} {xs : List Int} {A F : Bag} {P : Int → Prop} (s : St h0 h (A + F)) (o : Sl (tI 3) p n cp xs A) (hP : ∀ k, k < n → P (xs.getD k (tI 3).d)) (ea : a = (a' : Int)) (eb : b = (b' : Int)) (hab : a' < b') (hb : b' ≤ n) (hn : n < 1000000) :
    HCalls Try.prog 70 #[.slice p n cp, .int .i64 a, .int .i64 b] h (fun v h' => ∃ u hint : Int, v = .tuple #[.int .i64 u, .int .i64 hint] ∧ a ≤ u ∧ u < b ∧ St h0 h' (A + F)) := by
  subst ea eb
  refine slices_choosePivotOrdered_int_call ?_
  rw [slices_choosePivotOrdered_int_b0_eq]
  refine ⟨⟨by omega, by omega⟩, s.new (cs := [.int .i64 0]) fun sb h1 _ s => ?_⟩
  have s := s.to (B := A + (cA sb [.int .i64 0] 3 + F))
  have b2 : ∀ (u z : Int) (h' : Hp), a' ≤ u → u < b' → St h0 h' (A + (cA sb [.int .i64 z] 3 + F)) → slices_choosePivotOrdered_int_b2 (some ⟨sb, 0, none⟩) u h' (fun v h' => ∃ u hint : Int, v = .tuple #[.int .i64 u, .int .i64 hint] ∧ (a' : Int) ≤ u ∧ u < b' ∧ St h0 h' (A + F)) := by
    intro u z h' h1 h2 s
    rw [slices_choosePivotOrdered_int_b2_eq]
    have s := s.to (B := cA sb [.int .i64 z] 3 + (A + F))
    exact ⟨_, s.cell 0, condP (fun _ => ⟨_, _, rfl, h1, h2, s.drop⟩) fun _ => condP (fun _ => ⟨_, _, rfl, h1, h2, s.drop⟩) fun _ => ⟨_, _, rfl, h1, h2, s.drop⟩⟩
  have b1 : ∀ (u v w z : Int) (h' : Hp), (a' ≤ u ∧ u < b') → (a' ≤ v ∧ v < b') → (a' ≤ w ∧ w < b') → 0 ≤ z → z < 100 → St h0 h' (A + (cA sb [.int .i64 z] 3 + F)) → slices_choosePivotOrdered_int_b1 p n cp (some ⟨sb, 0, none⟩) u v w h' (fun v h' => ∃ u hint : Int, v = .tuple #[.int .i64 u, .int .i64 hint] ∧ (a' : Int) ≤ u ∧ u < b' ∧ St h0 h' (A + F)) := by
    intro u v w z h' h1 h2 h3 hz hz1 s
    rw [slices_choosePivotOrdered_int_b1_eq]
    refine (medianOI  s o hP (by omega) (by omega) (by omega) hz (by omega)).mono fun v1 h1 ⟨u, z', hv, hu, g1, g2, s⟩ => ⟨_, hv, ?_⟩
    exact b2 _ _ _ (by omega) (by omega) s
  refine quo_intro (by omega) (by omega) (by omega) ⟨⟨by omega, by omega⟩, ⟨by omega, by omega⟩, ?_⟩
  refine quo_intro (by omega) (by omega) (by omega) ⟨⟨by omega, by omega⟩, ⟨by omega, by omega⟩, ?_⟩
  refine quo_intro (by omega) (by omega) (by omega) ⟨⟨by omega, by omega⟩, ⟨by omega, by omega⟩, ?_⟩
  refine condP (fun h8 => ?_) (fun h8 => b2 _ _ _ (by omega) (by omega) s)
  refine condP (fun h50 => ?_) (fun h50 => b1 _ _ _ _ _ (by omega) (by omega) (by omega) (by omega) (by omega) s)
  refine (medianAdjacentOI  s o hP (by omega) hn (by omega) (by omega)).mono fun v1 h1 ⟨u1, z1, hv, hu, g1, g2, s⟩ => ⟨_, hv, ?_⟩
  refine (medianAdjacentOI  s o hP (by omega) hn (by omega) (by omega)).mono fun v1 h1 ⟨u2, z2, hv, hu, g3, g4, s⟩ => ⟨_, hv, ?_⟩
  refine (medianAdjacentOI  s o hP (by omega) hn (by omega) (by omega)).mono fun v1 h1 ⟨u3, z3, hv, hu, g5, g6, s⟩ => ⟨_, hv, ?_⟩
  exact b1 _ _ _ _ _ (by omega) (by omega) (by omega) (by omega) (by omega) s
theorem breakPatternsOI {h0 h : Hp} {p : Option Addr} {n cp a' b' : Nat} {a b : Int} {xs : List Int} {A F : Bag} (s : St h0 h (A + F)) (o : Sl (tI 3) p n cp xs A) (ea : a = (a' : Int)) (eb : b = (b' : Int)) (hab : a' ≤ b') (hb : b' ≤ n) (hn : n < 1000000) :
    HCalls Try.prog 69 #[.slice p n cp, .int .i64 a, .int .i64 b] h (fun v h' => v = .tuple #[] ∧ OutOI h0 p n cp a' b' xs F h' fun _ => True) := by
  subst ea eb
  have hl0 := o.len
  refine slices_breakPatternsOrdered_int_call ?_
  rw [slices_breakPatternsOrdered_int_b0_eq]
  refine ⟨⟨by omega, by omega⟩, condP (fun h8 => ?_) (fun h8 => ⟨rfl, xs, A, o, s, .refl _, trivial⟩)⟩
  refine s.new (cs := [.int .u64 0]) fun rb h1 _ s => ?_
  refine s.wr (o := 0) rfl Nat.zero_lt_one fun h2 s => ?_
  rw [show ((b' : Int) - a') = ((b' - a' : Nat) : Int) by omega]
  refine (nextPow_ok (b' - a') (by omega) (by omega) h2).mono fun v h3 ⟨hv, hh⟩ => ⟨_, hv, ?_⟩
  subst hh
  have hm := blen_pow (x := b' - a') (by omega)
  generalize 2 ^ blen (b' - a') = m at *
  refine quo_intro (by omega) (by omega) (by omega) ⟨⟨by omega, by omega⟩, ⟨by omega, by omega⟩, ⟨by omega, by omega⟩, ?_⟩
  obtain ⟨q, hq⟩ : ∃ q : Nat, ((b' - a' : Nat) : Int) / 4 = q := ⟨(b' - a') / 4, by omega⟩
  rw [hq]
  refine ⟨fun i h1 => ∃ (i' : Nat) (z : Int), i.1 = i' ∧ a' ≤ i' ∧ ∃ ys A1, Sl (tI 3) p n cp ys A1 ∧ St h0 h1 (cA rb [.int .u64 z] 118 + (A1 + F)) ∧ Swp (tI 3).d a' b' xs ys, fun i _ => (b' - i.1).toNat, ⟨a' + 2 * q - 1, _, by show (_ : Int) - 1 = _; omega, by omega, xs, A, o, s, .refl _⟩, ?_⟩
  rintro ⟨_, _⟩ h1 ⟨i', z, rfl, hi, ys, A1, o, s, w⟩
  dsimp only
  have hl := o.len
  rw [slices_breakPatternsOrdered_int_b1_eq]
  refine quo_intro (by omega) (by omega) (by omega) ?_
  rw [hq]
  refine ⟨⟨by omega, by omega⟩, ⟨by omega, by omega⟩, ⟨by omega, by omega⟩, condP (fun hlt => ?_) (fun hlt => ⟨rfl, ys, A1, o, s.drop, w, trivial⟩)⟩
  refine (Next_ok s).mono fun v h3 ⟨y, hv, s⟩ => ⟨_, hv, mask_lt y m (by omega) (by omega) fun k hk => ⟨⟨by omega, by omega⟩, ?_⟩⟩
  have fin : ∀ u : Nat, u < b' - a' → slices_breakPatternsOrdered_int_b2 p n cp a' ((b' - a' : Nat) : Int) (some ⟨rb, 0, none⟩) m i' u h3 (fun s' h' => (∃ (i' : Nat) (z : Int), s'.1 = i' ∧ a' ≤ i' ∧ ∃ ys A1, Sl (tI 3) p n cp ys A1 ∧ St h0 h' (cA rb [.int .u64 z] 118 + (A1 + F)) ∧ Swp (tI 3).d a' b' xs ys) ∧ (b' - s'.1).toNat < (b' - (i' : Int)).toNat) (fun v h' => v = .tuple #[] ∧ OutOI h0 p n cp a' b' xs F h' fun _ => True) := by
    intro u hu
    rw [slices_breakPatternsOrdered_int_b2_eq]
    have s := s.to (B := A1 + (cA rb [.int .u64 y] 118 + F))
    refine ⟨⟨by omega, by omega⟩, ⟨by omega, by omega⟩, swOI (u' := i') (v' := a' + u) o s rfl (by push_cast; rfl) (by omega) (by omega) fun h6 A6 o6 s6 => ?_⟩
    rw [slices_breakPatternsOrdered_int_b3_eq]
    exact ⟨⟨by omega, by omega⟩, ⟨i' + 1, y, by push_cast; rfl, by omega, _, A6, o6, s6.to, .step w (by omega) (by omega) (by omega) (by omega) (by omega)⟩, by omega⟩
  refine condP (fun hk2 => ⟨⟨by omega, by omega⟩, ?_⟩) (fun hk2 => fin k (by omega))
  have := fin (k - (b' - a')) (by omega)
  rwa [show ((k - (b' - a') : Nat) : Int) = (k : Int) - ((b' - a' : Nat) : Int) by omega] at this
end Go.Proofs.Ytipmcfpjdebpdaa

/- Sorting: partition, partitionEqual. -/
set_option maxRecDepth 100000
namespace Go.Proofs.Ytipmcfpjdebpdaa
open Go Go.Sx
abbrev PInvCI (cf : Int → Int → Int) (h0 : Hp) (p : Option Addr) (n cp a' b' : Nat) (xs : List Int) (F : Bag) (i' J : Nat) (h : Hp) : Prop := a' + 1 ≤ i' ∧ i' ≤ b' ∧ a' + 1 ≤ J ∧ J ≤ b' ∧ OutCI h0 p n cp a' b' xs F h (fun ys => LoR (tI 3).d (fun x y : Int => cf x y < 0) a' i' ys ∧ HiR (tI 3).d (fun x y : Int => cf x y < 0) a' J b' ys)
abbrev PSt1CI (cf : Int → Int → Int) (h0 : Hp) (p : Option Addr) (n cp a' b' : Nat) (xs : List Int) (F : Bag) (i' J : Nat) (h : Hp) : Prop := a' + 1 ≤ i' ∧ i' ≤ b' ∧ a' + 1 ≤ J ∧ J ≤ b' ∧ OutCI h0 p n cp a' b' xs F h (fun ys => LoR (tI 3).d (fun x y : Int => cf x y < 0) a' i' ys ∧ HiR (tI 3).d (fun x y : Int => cf x y < 0) a' J b' ys ∧ (i' < J → ¬ (fun x y : Int => cf x y < 0) (ys.getD i' (tI 3).d) (ys.getD a' (tI 3).d)))
abbrev PSt2CI (cf : Int → Int → Int) (h0 : Hp) (p : Option Addr) (n cp a' b' : Nat) (xs : List Int) (F : Bag) (i' J : Nat) (h : Hp) : Prop := a' + 1 ≤ i' ∧ i' ≤ b' ∧ a' + 1 ≤ J ∧ J ≤ b' ∧ OutCI h0 p n cp a' b' xs F h (fun ys => LoR (tI 3).d (fun x y : Int => cf x y < 0) a' i' ys ∧ HiR (tI 3).d (fun x y : Int => cf x y < 0) a' J b' ys ∧ (i' < J → ¬ (fun x y : Int => cf x y < 0) (ys.getD i' (tI 3).d) (ys.getD a' (tI 3).d)) ∧ (i' < J → (fun x y : Int => cf x y < 0) (ys.getD (J - 1) (tI 3).d) (ys.getD a' (tI 3).d)))
theorem partitionCI {h0 h : Hp} {p : Option Addr} {n cp a' b' pv' : Nat} {a b pv : Int} {xs : List Int} {A F : Bag} {cmp : Value} {cf : Int → Int → Int} {P : Int → Prop} (hX : CmpCI h0 F cmp cf P) (ho : OrdP (fun x y : Int => cf x y < 0)) (s : St h0 h (A + F)) (o : Sl (tI 3) p n cp xs A) (hP : ∀ k, k < n → P (xs.getD k (tI 3).d)) (ea : a = (a' : Int)) (eb : b = (b' : Int)) (ev : pv = (pv' : Int)) (hpv : a' ≤ pv' ∧ pv' < b') (hb : b' ≤ n) (hn : n < 1000000) :
    HCalls Try.prog 85 #[.slice p n cp, .int .i64 a, .int .i64 b, .int .i64 pv, cmp] h (fun v h' => ∃ (m : Nat) (bb : Bool), v = .tuple #[.int .i64 (m : Int), .bool bb] ∧ a' ≤ m ∧ m < b' ∧ OutCI h0 p n cp a' b' xs F h' (PartR (tI 3).d (fun x y : Int => cf x y < 0) a' b' m)) := by
  subst ea eb ev
  have hl0 := o.len
  refine slices_partitionCmpFunc_int_call ?_
  generalize hR : (fun v h' => ∃ (m : Nat) (bb : Bool), v = Value.tuple #[.int .i64 (m : Int), .bool bb] ∧ a' ≤ m ∧ m < b' ∧ OutCI h0 p n cp a' b' xs F h' (PartR (tI 3).d (fun x y : Int => cf x y < 0) a' b' m)) = R
  have hRi : ∀ (v : Value) (h' : Hp) (m : Nat) (bb : Bool), v = .tuple #[.int .i64 (m : Int), .bool bb] → a' ≤ m → m < b' → OutCI h0 p n cp a' b' xs F h' (PartR (tI 3).d (fun x y : Int => cf x y < 0) a' b' m) → R v h' := by
    intro v h' m bb h1 h2 h3 h4; rw [← hR]; exact ⟨m, bb, h1, h2, h3, h4⟩
  clear hR
  have b13 : ∀ (i' J : Nat) (h' : Hp) (nx : Int × Int × Unit → Hp → Prop) , PSt2CI cf h0 p n cp a' b' xs F i' J h' → (∀ h', PInvCI cf h0 p n cp a' b' xs F (i' + 1) (J - 1) h' → i' < J → nx ((i' : Int) + 1, (J : Int) - 1 - 1, ()) h') → slices_partitionCmpFunc_int_b13 p n cp a' cmp i' ((J : Int) - 1) h' nx R := by
    rintro i' J h' nx ⟨hi1, hi2, hJ1, hJ2, ys, A1, o, s, w, lo, hi, hst, hs2⟩ hnx 
    have hl := o.len
    rw [slices_partitionCmpFunc_int_b13_eq]
    refine condP (fun hlt => ?_) (fun hlt => ?_)
    · rw [slices_partitionCmpFunc_int_b14_eq]
      refine swOI (u' := J - 1) (v' := a') o s (by omega) rfl (by omega) (by omega) fun h6 A6 o6 s6 => ?_
      refine hRi _ _ (J - 1) false (by rw [show ((J - 1 : Nat) : Int) = (J : Int) - 1 by omega]) (by omega) (by omega) ⟨_, A6, o6, s6, .step w (by omega) (by omega) (by omega) (by omega) (by omega), part_end (by omega) hi2 (by omega) (by omega) lo hi⟩
    · refine swOI (u' := i') (v' := J - 1) o s rfl (by omega) (by omega) (by omega) fun h6 A6 o6 s6 => ⟨⟨by omega, by omega⟩, ⟨by omega, by omega⟩, ?_⟩
      have hs2 := hs2 (by omega)
      exact hnx _ ⟨by omega, by omega, by omega, by omega, _, A6, o6, s6, .step w (by omega) (by omega) (by omega) (by omega) (by omega), part_swap (by omega) (by omega) hJ2 (by omega) lo hi (hst (by omega)) hs2⟩ (by omega)
  have b10 : ∀ (i' J : Nat) (h' : Hp) (nx : Int × Int × Unit → Hp → Prop) , PSt1CI cf h0 p n cp a' b' xs F i' J h' → (∀ i2 J2 h', i' + 1 ≤ i2 → J2 + 1 ≤ J → PInvCI cf h0 p n cp a' b' xs F i2 J2 h' → nx ((i2 : Int), (J2 : Int) - 1, ()) h') → slices_partitionCmpFunc_int_b10 p n cp a' cmp i' ((J : Int) - 1) h' nx R := by
    rintro i' J h' nx hI hnx 
    rw [slices_partitionCmpFunc_int_b10_eq]
    refine ⟨fun j h2 => ∃ J2 : Nat, j.1 = (J2 : Int) - 1 ∧ J2 ≤ J ∧ PSt1CI cf h0 p n cp a' b' xs F i' J2 h2, fun j _ => (j.1 + 1).toNat, ⟨J, rfl, Nat.le_refl _, hI⟩, ?_⟩
    clear hI
    rintro ⟨_, _⟩ h2 ⟨J2, rfl, hJJ, hi1, hi2, hJ1, hJ2, ys, A1, o, s, w, lo, hi, hst⟩
    dsimp only
    have hl := o.len
    have hP := w.allN hl0 hP
    have ch := fun (h3 : Hp) (s : St h0 h3 (A1 + F)) (g : i' < J2 → (fun x y : Int => cf x y < 0) (ys.getD (J2 - 1) (tI 3).d) (ys.getD a' (tI 3).d)) => b13 i' J2 h3 nx ⟨hi1, hi2, hJ1, hJ2, ys, A1, o, s, w, lo, hi, hst, g⟩ fun h' hp hq => by have := hnx (i' + 1) (J2 - 1) h' (by omega) (by omega) hp; rwa [show ((i' + 1 : Nat) : Int) = (i' : Int) + 1 by push_cast; rfl, show ((J2 - 1 : Nat) : Int) - 1 = (J2 : Int) - 1 - 1 by omega] at this
    rw [slices_partitionCmpFunc_int_b11_eq]
    refine condP (fun hlt => ?_) (fun hlt => ch _ s fun h => by omega)
    have r := o.rd s
    refine ldOI (i' := J2 - 1) r (by omega) (by omega) (ldOI (i' := a') r rfl (by omega) ?_)
    refine hX _ _ _ _ _ (s.at F) (hP _ (by omega)) (hP _ (by omega)) fun h5 e5 => ⟨_, rfl, ?_⟩; have s := s.grow e5
    refine condN (fun hc => ?_) (fun hc => ch _ s fun _ => hc)
    rw [slices_partitionCmpFunc_int_b12_eq]
    exact ⟨⟨by omega, by omega⟩, ⟨J2 - 1, by omega, by omega, hi1, hi2, by omega, by omega, ys, A1, o, s, w, lo, hi_next hi hc, fun h => hst (by omega)⟩, by omega⟩
  have b8 : ∀ (i' J : Nat) (h' : Hp) (nx : Int × Int × Unit → Hp → Prop) , PInvCI cf h0 p n cp a' b' xs F i' J h' → (∀ i2 J2 h', i' + 1 ≤ i2 → J2 + 1 ≤ J → PInvCI cf h0 p n cp a' b' xs F i2 J2 h' → nx ((i2 : Int), (J2 : Int) - 1, ()) h') → LoopVC (((i' : Int), ()) : Int × Unit) h' (fun (nx1 : Int × Unit → Hp → Prop) (s4 : Int × Unit) h36 => slices_partitionCmpFunc_int_b8 s4.1 p n cp a' cmp ((J : Int) - 1) h36 nx nx1 R) := by
    rintro i' J h' nx hI hnx 
    refine ⟨fun i h2 => ∃ i2 : Nat, i.1 = (i2 : Int) ∧ i' ≤ i2 ∧ PInvCI cf h0 p n cp a' b' xs F i2 J h2, fun i _ => (b' - i.1).toNat, ⟨i', rfl, Nat.le_refl _, hI⟩, ?_⟩
    clear hI
    rintro ⟨_, _⟩ h2 ⟨i2, rfl, hii, hi1, hi2, hJ1, hJ2, ys, A1, o, s, w, lo, hi⟩
    dsimp only
    have hl := o.len
    have hP := w.allN hl0 hP
    have ch := fun (h3 : Hp) (s : St h0 h3 (A1 + F)) (g : i2 < J → ¬ (fun x y : Int => cf x y < 0) (ys.getD i2 (tI 3).d) (ys.getD a' (tI 3).d)) => b10 i2 J h3 nx ⟨hi1, hi2, hJ1, hJ2, ys, A1, o, s, w, lo, hi, g⟩ fun i3 J3 h' g1 g2 g3 => hnx i3 J3 h' (by omega) (by omega) g3
    rw [slices_partitionCmpFunc_int_b8_eq]
    refine condP (fun hlt => ?_) (fun hlt => ch _ s fun h => by omega)
    have r := o.rd s
    refine ldOI (i' := i2) r rfl (by omega) (ldOI (i' := a') r rfl (by omega) ?_)
    refine hX _ _ _ _ _ (s.at F) (hP _ (by omega)) (hP _ (by omega)) fun h5 e5 => ⟨_, rfl, ?_⟩; have s := s.grow e5
    refine condP (fun hc => ?_) (fun hc => ch _ s fun _ => hc)
    rw [slices_partitionCmpFunc_int_b9_eq]
    exact ⟨⟨by omega, by omega⟩, ⟨i2 + 1, by push_cast; rfl, by omega, by omega, by omega, hJ1, hJ2, ys, A1, o, s, w, lo_next lo hc, hi⟩, by omega⟩
  have b7 : ∀ (i' J : Nat) (h' : Hp), PInvCI cf h0 p n cp a' b' xs F i' J h' → LoopVC ((i', (J : Int) - 1, ()) : Int × Int × Unit) h' (fun (nx0 : Int × Int × Unit → Hp → Prop) (s3 : Int × Int × Unit) h35 => slices_partitionCmpFunc_int_b7 s3.1 s3.2.1 p n cp a' cmp h35 nx0 R) := by
    intro i' J h' hI
    refine ⟨fun ij h2 => ∃ i2 J2 : Nat, ij.1 = (i2 : Int) ∧ ij.2.1 = (J2 : Int) - 1 ∧ PInvCI cf h0 p n cp a' b' xs F i2 J2 h2, fun ij _ => (b' - ij.1).toNat + (ij.2.1 + 1).toNat, ⟨i', J, rfl, rfl, hI⟩, ?_⟩
    clear hI
    rintro ⟨_, _, _⟩ h2 ⟨i2, J2, rfl, rfl, hI⟩
    dsimp only
    rw [slices_partitionCmpFunc_int_b7_eq]
    refine b8 i2 J2 h2 _ hI fun i3 J3 h3 g1 g2 hI3 => ⟨⟨i3, J3, rfl, rfl, hI3⟩, ?_⟩
    have := hI.1
    have := hI.2.1
    have := hI3.2.1
    dsimp only
    omega
  have b6 : ∀ (i' J : Nat) (h' : Hp) , PSt2CI cf h0 p n cp a' b' xs F i' J h' → slices_partitionCmpFunc_int_b6 p n cp a' cmp i' ((J : Int) - 1) h' R := by
    rintro i' J h' ⟨hi1, hi2, hJ1, hJ2, ys, A1, o, s, w, lo, hi, hst, hs2⟩
    have hl := o.len
    rw [slices_partitionCmpFunc_int_b6_eq]
    refine condP (fun hlt => ?_) (fun hlt => ?_)
    · refine swOI (u' := J - 1) (v' := a') o s (by omega) rfl (by omega) (by omega) fun h6 A6 o6 s6 => ?_
      refine hRi _ _ (J - 1) true (by rw [show ((J - 1 : Nat) : Int) = (J : Int) - 1 by omega]) (by omega) (by omega) ⟨_, A6, o6, s6, .step w (by omega) (by omega) (by omega) (by omega) (by omega), part_end (by omega) hi2 (by omega) (by omega) lo hi⟩
    · refine swOI (u' := i') (v' := J - 1) o s rfl (by omega) (by omega) (by omega) fun h6 A6 o6 s6 => ⟨⟨by omega, by omega⟩, ⟨by omega, by omega⟩, ?_⟩
      have hs2 := hs2 (by omega)
      have := b7 (i' + 1) (J - 1) h6 ⟨by omega, by omega, by omega, by omega, _, A6, o6, s6, .step w (by omega) (by omega) (by omega) (by omega) (by omega), part_swap (by omega) (by omega) hJ2 (by omega) lo hi (hst (by omega)) hs2⟩
      rwa [show ((i' + 1 : Nat) : Int) = (i' : Int) + 1 by push_cast; rfl, show ((J - 1 : Nat) : Int) - 1 = (J : Int) - 1 - 1 by omega] at this
  have b3 : ∀ (i' J : Nat) (h' : Hp) , PSt1CI cf h0 p n cp a' b' xs F i' J h' → slices_partitionCmpFunc_int_b3 p n cp a' cmp i' ((J : Int) - 1) h' R := by
    rintro i' J h' hI 
    rw [slices_partitionCmpFunc_int_b3_eq]
    refine ⟨fun j h2 => ∃ J2 : Nat, j.1 = (J2 : Int) - 1 ∧ J2 ≤ J ∧ PSt1CI cf h0 p n cp a' b' xs F i' J2 h2, fun j _ => (j.1 + 1).toNat, ⟨J, rfl, Nat.le_refl _, hI⟩, ?_⟩
    clear hI
    rintro ⟨_, _⟩ h2 ⟨J2, rfl, hJJ, hi1, hi2, hJ1, hJ2, ys, A1, o, s, w, lo, hi, hst⟩
    dsimp only
    have hl := o.len
    have hP := w.allN hl0 hP
    have ch := fun (h3 : Hp) (s : St h0 h3 (A1 + F)) (g : i' < J2 → (fun x y : Int => cf x y < 0) (ys.getD (J2 - 1) (tI 3).d) (ys.getD a' (tI 3).d)) => b6 i' J2 h3  ⟨hi1, hi2, hJ1, hJ2, ys, A1, o, s, w, lo, hi, hst, g⟩ 
    rw [slices_partitionCmpFunc_int_b4_eq]
    refine condP (fun hlt => ?_) (fun hlt => ch _ s fun h => by omega)
    have r := o.rd s
    refine ldOI (i' := J2 - 1) r (by omega) (by omega) (ldOI (i' := a') r rfl (by omega) ?_)
    refine hX _ _ _ _ _ (s.at F) (hP _ (by omega)) (hP _ (by omega)) fun h5 e5 => ⟨_, rfl, ?_⟩; have s := s.grow e5
    refine condN (fun hc => ?_) (fun hc => ch _ s fun _ => hc)
    rw [slices_partitionCmpFunc_int_b5_eq]
    exact ⟨⟨by omega, by omega⟩, ⟨J2 - 1, by omega, by omega, hi1, hi2, by omega, by omega, ys, A1, o, s, w, lo, hi_next hi hc, fun h => hst (by omega)⟩, by omega⟩
  have b1 : ∀ (i' J : Nat) (h' : Hp) , PInvCI cf h0 p n cp a' b' xs F i' J h' → LoopVC (((i' : Int), ()) : Int × Unit) h' (fun (nx1 : Int × Unit → Hp → Prop) (s4 : Int × Unit) h36 => slices_partitionCmpFunc_int_b1 s4.1 p n cp a' cmp ((J : Int) - 1) h36 nx1 R) := by
    rintro i' J h' hI 
    refine ⟨fun i h2 => ∃ i2 : Nat, i.1 = (i2 : Int) ∧ i' ≤ i2 ∧ PInvCI cf h0 p n cp a' b' xs F i2 J h2, fun i _ => (b' - i.1).toNat, ⟨i', rfl, Nat.le_refl _, hI⟩, ?_⟩
    clear hI
    rintro ⟨_, _⟩ h2 ⟨i2, rfl, hii, hi1, hi2, hJ1, hJ2, ys, A1, o, s, w, lo, hi⟩
    dsimp only
    have hl := o.len
    have hP := w.allN hl0 hP
    have ch := fun (h3 : Hp) (s : St h0 h3 (A1 + F)) (g : i2 < J → ¬ (fun x y : Int => cf x y < 0) (ys.getD i2 (tI 3).d) (ys.getD a' (tI 3).d)) => b3 i2 J h3  ⟨hi1, hi2, hJ1, hJ2, ys, A1, o, s, w, lo, hi, g⟩ 
    rw [slices_partitionCmpFunc_int_b1_eq]
    refine condP (fun hlt => ?_) (fun hlt => ch _ s fun h => by omega)
    have r := o.rd s
    refine ldOI (i' := i2) r rfl (by omega) (ldOI (i' := a') r rfl (by omega) ?_)
    refine hX _ _ _ _ _ (s.at F) (hP _ (by omega)) (hP _ (by omega)) fun h5 e5 => ⟨_, rfl, ?_⟩; have s := s.grow e5
    refine condP (fun hc => ?_) (fun hc => ch _ s fun _ => hc)
    rw [slices_partitionCmpFunc_int_b2_eq]
    exact ⟨⟨by omega, by omega⟩, ⟨i2 + 1, by push_cast; rfl, by omega, by omega, by omega, hJ1, hJ2, ys, A1, o, s, w, lo_next lo hc, hi⟩, by omega⟩
  rw [slices_partitionCmpFunc_int_b0_eq]
  refine swOI (u' := a') (v' := pv') o s rfl rfl (by omega) (by omega) fun h6 A6 o6 s6 => ⟨⟨by omega, by omega⟩, ⟨by omega, by omega⟩, ?_⟩
  have := b1 (a' + 1) b' h6 ⟨Nat.le_refl _, by omega, by omega, Nat.le_refl _, _, A6, o6, s6, .one (Nat.le_refl _) (by omega) (by omega) (by omega) (by omega), fun k h1 h2 => by omega, fun k h1 h2 => by omega⟩
  rwa [show ((a' + 1 : Nat) : Int) = (a' : Int) + 1 by push_cast; rfl] at this
abbrev PInvOI (cf : Unit) (h0 : Hp) (p : Option Addr) (n cp a' b' : Nat) (xs : List Int) (F : Bag) (i' J : Nat) (h : Hp) : Prop := a' + 1 ≤ i' ∧ i' ≤ b' ∧ a' + 1 ≤ J ∧ J ≤ b' ∧ OutOI h0 p n cp a' b' xs F h (fun ys => LoR (tI 3).d (fun x y : Int => x < y) a' i' ys ∧ HiR (tI 3).d (fun x y : Int => x < y) a' J b' ys)
abbrev PSt1OI (cf : Unit) (h0 : Hp) (p : Option Addr) (n cp a' b' : Nat) (xs : List Int) (F : Bag) (i' J : Nat) (h : Hp) : Prop := a' + 1 ≤ i' ∧ i' ≤ b' ∧ a' + 1 ≤ J ∧ J ≤ b' ∧ OutOI h0 p n cp a' b' xs F h (fun ys => LoR (tI 3).d (fun x y : Int => x < y) a' i' ys ∧ HiR (tI 3).d (fun x y : Int => x < y) a' J b' ys ∧ (i' < J → ¬ (fun x y : Int => x < y) (ys.getD i' (tI 3).d) (ys.getD a' (tI 3).d)))
abbrev PSt2OI (cf : Unit) (h0 : Hp) (p : Option Addr) (n cp a' b' : Nat) (xs : List Int) (F : Bag) (i' J : Nat) (h : Hp) : Prop := a' + 1 ≤ i' ∧ i' ≤ b' ∧ a' + 1 ≤ J ∧ J ≤ b' ∧ OutOI h0 p n cp a' b' xs F h (fun ys => LoR (tI 3).d (fun x y : Int => x < y) a' i' ys ∧ HiR (tI 3).d (fun x y : Int => x < y) a' J b' ys ∧ (i' < J → ¬ (fun x y : Int => x < y) (ys.getD i' (tI 3).d) (ys.getD a' (tI 3).d)) ∧ (i' < J → (fun x y : Int => x < y) (ys.getD (J - 1) (tI 3).d) (ys.getD a' (tI 3).d)))
theorem partitionOI {h0 h : Hp} {p : Option Addr} {n cp a' b' pv' : Nat} {a b pv : Int} {xs : List Int} {A F : Bag} {P : Int → Prop} (s : St h0 h (A + F)) (o : Sl (tI 3) p n cp xs A) (hP : ∀ k, k < n → P (xs.getD k (tI 3).d)) (ea : a = (a' : Int)) (eb : b = (b' : Int)) (ev : pv = (pv' : Int)) (hpv : a' ≤ pv' ∧ pv' < b') (hb : b' ≤ n) (hn : n < 1000000) :
    HCalls Try.prog 75 #[.slice p n cp, .int .i64 a, .int .i64 b, .int .i64 pv] h (fun v h' => ∃ (m : Nat) (bb : Bool), v = .tuple #[.int .i64 (m : Int), .bool bb] ∧ a' ≤ m ∧ m < b' ∧ OutOI h0 p n cp a' b' xs F h' (PartR (tI 3).d (fun x y : Int => x < y) a' b' m)) := by
  subst ea eb ev
  have hl0 := o.len
  refine slices_partitionOrdered_int_call ?_
  generalize hR : (fun v h' => ∃ (m : Nat) (bb : Bool), v = Value.tuple #[.int .i64 (m : Int), .bool bb] ∧ a' ≤ m ∧ m < b' ∧ OutOI h0 p n cp a' b' xs F h' (PartR (tI 3).d (fun x y : Int => x < y) a' b' m)) = R
  have hRi : ∀ (v : Value) (h' : Hp) (m : Nat) (bb : Bool), v = .tuple #[.int .i64 (m : Int), .bool bb] → a' ≤ m → m < b' → OutOI h0 p n cp a' b' xs F h' (PartR (tI 3).d (fun x y : Int => x < y) a' b' m) → R v h' := by
    intro v h' m bb h1 h2 h3 h4; rw [← hR]; exact ⟨m, bb, h1, h2, h3, h4⟩
  clear hR
  have b13 : ∀ (i' J : Nat) (h' : Hp) (nx : Int × Int × Unit → Hp → Prop) , PSt2OI () h0 p n cp a' b' xs F i' J h' → (∀ h', PInvOI () h0 p n cp a' b' xs F (i' + 1) (J - 1) h' → i' < J → nx ((i' : Int) + 1, (J : Int) - 1 - 1, ()) h') → slices_partitionOrdered_int_b13 p n cp a' i' ((J : Int) - 1) h' nx R := by
    rintro i' J h' nx ⟨hi1, hi2, hJ1, hJ2, ys, A1, o, s, w, lo, hi, hst, hs2⟩ hnx 
    have hl := o.len
    rw [slices_partitionOrdered_int_b13_eq]
    refine condP (fun hlt => ?_) (fun hlt => ?_)
    · rw [slices_partitionOrdered_int_b14_eq]
      refine swOI (u' := J - 1) (v' := a') o s (by omega) rfl (by omega) (by omega) fun h6 A6 o6 s6 => ?_
      refine hRi _ _ (J - 1) false (by rw [show ((J - 1 : Nat) : Int) = (J : Int) - 1 by omega]) (by omega) (by omega) ⟨_, A6, o6, s6, .step w (by omega) (by omega) (by omega) (by omega) (by omega), part_end (by omega) hi2 (by omega) (by omega) lo hi⟩
    · refine swOI (u' := i') (v' := J - 1) o s rfl (by omega) (by omega) (by omega) fun h6 A6 o6 s6 => ⟨⟨by omega, by omega⟩, ⟨by omega, by omega⟩, ?_⟩
      have hs2 := hs2 (by omega)
      exact hnx _ ⟨by omega, by omega, by omega, by omega, _, A6, o6, s6, .step w (by omega) (by omega) (by omega) (by omega) (by omega), part_swap (by omega) (by omega) hJ2 (by omega) lo hi (hst (by omega)) hs2⟩ (by omega)
  have b10 : ∀ (i' J : Nat) (h' : Hp) (nx : Int × Int × Unit → Hp → Prop) , PSt1OI () h0 p n cp a' b' xs F i' J h' → (∀ i2 J2 h', i' + 1 ≤ i2 → J2 + 1 ≤ J → PInvOI () h0 p n cp a' b' xs F i2 J2 h' → nx ((i2 : Int), (J2 : Int) - 1, ()) h') → slices_partitionOrdered_int_b10 p n cp a' i' ((J : Int) - 1) h' nx R := by
    rintro i' J h' nx hI hnx 
    rw [slices_partitionOrdered_int_b10_eq]
    refine ⟨fun j h2 => ∃ J2 : Nat, j.1 = (J2 : Int) - 1 ∧ J2 ≤ J ∧ PSt1OI () h0 p n cp a' b' xs F i' J2 h2, fun j _ => (j.1 + 1).toNat, ⟨J, rfl, Nat.le_refl _, hI⟩, ?_⟩
    clear hI
    rintro ⟨_, _⟩ h2 ⟨J2, rfl, hJJ, hi1, hi2, hJ1, hJ2, ys, A1, o, s, w, lo, hi, hst⟩
    dsimp only
    have hl := o.len
    have hP := w.allN hl0 hP
    have ch := fun (h3 : Hp) (s : St h0 h3 (A1 + F)) (g : i' < J2 → (fun x y : Int => x < y) (ys.getD (J2 - 1) (tI 3).d) (ys.getD a' (tI 3).d)) => b13 i' J2 h3 nx ⟨hi1, hi2, hJ1, hJ2, ys, A1, o, s, w, lo, hi, hst, g⟩ fun h' hp hq => by have := hnx (i' + 1) (J2 - 1) h' (by omega) (by omega) hp; rwa [show ((i' + 1 : Nat) : Int) = (i' : Int) + 1 by push_cast; rfl, show ((J2 - 1 : Nat) : Int) - 1 = (J2 : Int) - 1 - 1 by omega] at this
    rw [slices_partitionOrdered_int_b11_eq]
    refine condP (fun hlt => ?_) (fun hlt => ch _ s fun h => by omega)
    have r := o.rd s
    refine ldOI (i' := J2 - 1) r (by omega) (by omega) (ldOI (i' := a') r rfl (by omega) ?_)
    refine ⟨_, (Less_ok _ _ _).mono fun v9 h9 ⟨hh9, hv9⟩ => ⟨hv9, hh9⟩, ?_⟩
    refine condN (fun hc => ?_) (fun hc => ch _ s fun _ => hc)
    rw [slices_partitionOrdered_int_b12_eq]
    exact ⟨⟨by omega, by omega⟩, ⟨J2 - 1, by omega, by omega, hi1, hi2, by omega, by omega, ys, A1, o, s, w, lo, hi_next hi hc, fun h => hst (by omega)⟩, by omega⟩
  have b8 : ∀ (i' J : Nat) (h' : Hp) (nx : Int × Int × Unit → Hp → Prop) , PInvOI () h0 p n cp a' b' xs F i' J h' → (∀ i2 J2 h', i' + 1 ≤ i2 → J2 + 1 ≤ J → PInvOI () h0 p n cp a' b' xs F i2 J2 h' → nx ((i2 : Int), (J2 : Int) - 1, ()) h') → LoopVC (((i' : Int), ()) : Int × Unit) h' (fun (nx1 : Int × Unit → Hp → Prop) (s4 : Int × Unit) h36 => slices_partitionOrdered_int_b8 s4.1 p n cp a' ((J : Int) - 1) h36 nx nx1 R) := by
    rintro i' J h' nx hI hnx 
    refine ⟨fun i h2 => ∃ i2 : Nat, i.1 = (i2 : Int) ∧ i' ≤ i2 ∧ PInvOI () h0 p n cp a' b' xs F i2 J h2, fun i _ => (b' - i.1).toNat, ⟨i', rfl, Nat.le_refl _, hI⟩, ?_⟩
    clear hI
    rintro ⟨_, _⟩ h2 ⟨i2, rfl, hii, hi1, hi2, hJ1, hJ2, ys, A1, o, s, w, lo, hi⟩
    dsimp only
    have hl := o.len
    have hP := w.allN hl0 hP
    have ch := fun (h3 : Hp) (s : St h0 h3 (A1 + F)) (g : i2 < J → ¬ (fun x y : Int => x < y) (ys.getD i2 (tI 3).d) (ys.getD a' (tI 3).d)) => b10 i2 J h3 nx ⟨hi1, hi2, hJ1, hJ2, ys, A1, o, s, w, lo, hi, g⟩ fun i3 J3 h' g1 g2 g3 => hnx i3 J3 h' (by omega) (by omega) g3
    rw [slices_partitionOrdered_int_b8_eq]
    refine condP (fun hlt => ?_) (fun hlt => ch _ s fun h => by omega)
    have r := o.rd s
    refine ldOI (i' := i2) r rfl (by omega) (ldOI (i' := a') r rfl (by omega) ?_)
    refine ⟨_, (Less_ok _ _ _).mono fun v9 h9 ⟨hh9, hv9⟩ => ⟨hv9, hh9⟩, ?_⟩
    refine condP (fun hc => ?_) (fun hc => ch _ s fun _ => hc)
    rw [slices_partitionOrdered_int_b9_eq]
    exact ⟨⟨by omega, by omega⟩, ⟨i2 + 1, by push_cast; rfl, by omega, by omega, by omega, hJ1, hJ2, ys, A1, o, s, w, lo_next lo hc, hi⟩, by omega⟩
  have b7 : ∀ (i' J : Nat) (h' : Hp), PInvOI () h0 p n cp a' b' xs F i' J h' → LoopVC ((i', (J : Int) - 1, ()) : Int × Int × Unit) h' (fun (nx0 : Int × Int × Unit → Hp → Prop) (s3 : Int × Int × Unit) h35 => slices_partitionOrdered_int_b7 s3.1 s3.2.1 p n cp a' h35 nx0 R) := by
    intro i' J h' hI
    refine ⟨fun ij h2 => ∃ i2 J2 : Nat, ij.1 = (i2 : Int) ∧ ij.2.1 = (J2 : Int) - 1 ∧ PInvOI () h0 p n cp a' b' xs F i2 J2 h2, fun ij _ => (b' - ij.1).toNat + (ij.2.1 + 1).toNat, ⟨i', J, rfl, rfl, hI⟩, ?_⟩
    clear hI
    rintro ⟨_, _, _⟩ h2 ⟨i2, J2, rfl, rfl, hI⟩
    dsimp only
    rw [slices_partitionOrdered_int_b7_eq]
    refine b8 i2 J2 h2 _ hI fun i3 J3 h3 g1 g2 hI3 => ⟨⟨i3, J3, rfl, rfl, hI3⟩, ?_⟩
    have := hI.1
    have := hI.2.1
    have := hI3.2.1
    dsimp only
    omega
  have b6 : ∀ (i' J : Nat) (h' : Hp) , PSt2OI () h0 p n cp a' b' xs F i' J h' → slices_partitionOrdered_int_b6 p n cp a' i' ((J : Int) - 1) h' R := by
    rintro i' J h' ⟨hi1, hi2, hJ1, hJ2, ys, A1, o, s, w, lo, hi, hst, hs2⟩
    have hl := o.len
    rw [slices_partitionOrdered_int_b6_eq]
    refine condP (fun hlt => ?_) (fun hlt => ?_)
    · refine swOI (u' := J - 1) (v' := a') o s (by omega) rfl (by omega) (by omega) fun h6 A6 o6 s6 => ?_
      refine hRi _ _ (J - 1) true (by rw [show ((J - 1 : Nat) : Int) = (J : Int) - 1 by omega]) (by omega) (by omega) ⟨_, A6, o6, s6, .step w (by omega) (by omega) (by omega) (by omega) (by omega), part_end (by omega) hi2 (by omega) (by omega) lo hi⟩
    · refine swOI (u' := i') (v' := J - 1) o s rfl (by omega) (by omega) (by omega) fun h6 A6 o6 s6 => ⟨⟨by omega, by omega⟩, ⟨by omega, by omega⟩, ?_⟩
      have hs2 := hs2 (by omega)
      have := b7 (i' + 1) (J - 1) h6 ⟨by omega, by omega, by omega, by omega, _, A6, o6, s6, .step w (by omega) (by omega) (by omega) (by omega) (by omega), part_swap (by omega) (by omega) hJ2 (by omega) lo hi (hst (by omega)) hs2⟩
      rwa [show ((i' + 1 : Nat) : Int) = (i' : Int) + 1 by push_cast; rfl, show ((J - 1 : Nat) : Int) - 1 = (J : Int) - 1 - 1 by omega] at this
  have b3 : ∀ (i' J : Nat) (h' : Hp) , PSt1OI () h0 p n cp a' b' xs F i' J h' → slices_partitionOrdered_int_b3 p n cp a' i' ((J : Int) - 1) h' R := by
    rintro i' J h' hI 
    rw [slices_partitionOrdered_int_b3_eq]
    refine ⟨fun j h2 => ∃ J2 : Nat, j.1 = (J2 : Int) - 1 ∧ J2 ≤ J ∧ PSt1OI () h0 p n cp a' b' xs F i' J2 h2, fun j _ => (j.1 + 1).toNat, ⟨J, rfl, Nat.le_refl _, hI⟩, ?_⟩
    clear hI
    rintro ⟨_, _⟩ h2 ⟨J2, rfl, hJJ, hi1, hi2, hJ1, hJ2, ys, A1, o, s, w, lo, hi, hst⟩
    dsimp only
    have hl := o.len
    have hP := w.allN hl0 hP
    have ch := fun (h3 : Hp) (s : St h0 h3 (A1 + F)) (g : i' < J2 → (fun x y : Int => x < y) (ys.getD (J2 - 1) (tI 3).d) (ys.getD a' (tI 3).d)) => b6 i' J2 h3  ⟨hi1, hi2, hJ1, hJ2, ys, A1, o, s, w, lo, hi, hst, g⟩ 
    rw [slices_partitionOrdered_int_b4_eq]
    refine condP (fun hlt => ?_) (fun hlt => ch _ s fun h => by omega)
    have r := o.rd s
    refine ldOI (i' := J2 - 1) r (by omega) (by omega) (ldOI (i' := a') r rfl (by omega) ?_)
    refine ⟨_, (Less_ok _ _ _).mono fun v9 h9 ⟨hh9, hv9⟩ => ⟨hv9, hh9⟩, ?_⟩
    refine condN (fun hc => ?_) (fun hc => ch _ s fun _ => hc)
    rw [slices_partitionOrdered_int_b5_eq]
    exact ⟨⟨by omega, by omega⟩, ⟨J2 - 1, by omega, by omega, hi1, hi2, by omega, by omega, ys, A1, o, s, w, lo, hi_next hi hc, fun h => hst (by omega)⟩, by omega⟩
  have b1 : ∀ (i' J : Nat) (h' : Hp) , PInvOI () h0 p n cp a' b' xs F i' J h' → LoopVC (((i' : Int), ()) : Int × Unit) h' (fun (nx1 : Int × Unit → Hp → Prop) (s4 : Int × Unit) h36 => slices_partitionOrdered_int_b1 s4.1 p n cp a' ((J : Int) - 1) h36 nx1 R) := by
    rintro i' J h' hI 
    refine ⟨fun i h2 => ∃ i2 : Nat, i.1 = (i2 : Int) ∧ i' ≤ i2 ∧ PInvOI () h0 p n cp a' b' xs F i2 J h2, fun i _ => (b' - i.1).toNat, ⟨i', rfl, Nat.le_refl _, hI⟩, ?_⟩
    clear hI
    rintro ⟨_, _⟩ h2 ⟨i2, rfl, hii, hi1, hi2, hJ1, hJ2, ys, A1, o, s, w, lo, hi⟩
    dsimp only
    have hl := o.len
    have hP := w.allN hl0 hP
    have ch := fun (h3 : Hp) (s : St h0 h3 (A1 + F)) (g : i2 < J → ¬ (fun x y : Int => x < y) (ys.getD i2 (tI 3).d) (ys.getD a' (tI 3).d)) => b3 i2 J h3  ⟨hi1, hi2, hJ1, hJ2, ys, A1, o, s, w, lo, hi, g⟩ 
    rw [slices_partitionOrdered_int_b1_eq]
    refine condP (fun hlt => ?_) (fun hlt => ch _ s fun h => by omega)
    have r := o.rd s
    refine ldOI (i' := i2) r rfl (by omega) (ldOI (i' := a') r rfl (by omega) ?_)
    refine ⟨_, (Less_ok _ _ _).mono fun v9 h9 ⟨hh9, hv9⟩ => ⟨hv9, hh9⟩, ?_⟩
    refine condP (fun hc => ?_) (fun hc => ch _ s fun _ => hc)
    rw [slices_partitionOrdered_int_b2_eq]
    exact ⟨⟨by omega, by omega⟩, ⟨i2 + 1, by push_cast; rfl, by omega, by omega, by omega, hJ1, hJ2, ys, A1, o, s, w, lo_next lo hc, hi⟩, by omega⟩
  rw [slices_partitionOrdered_int_b0_eq]
  refine swOI (u' := a') (v' := pv') o s rfl rfl (by omega) (by omega) fun h6 A6 o6 s6 => ⟨⟨by omega, by omega⟩, ⟨by omega, by omega⟩, ?_⟩
  have := b1 (a' + 1) b' h6 ⟨Nat.le_refl _, by omega, by omega, Nat.le_refl _, _, A6, o6, s6, .one (Nat.le_refl _) (by omega) (by omega) (by omega) (by omega), fun k h1 h2 => by omega, fun k h1 h2 => by omega⟩
  rwa [show ((a' + 1 : Nat) : Int) = (a' : Int) + 1 by push_cast; rfl] at this
end Go.Proofs.Ytipmcfpjdebpdaa
