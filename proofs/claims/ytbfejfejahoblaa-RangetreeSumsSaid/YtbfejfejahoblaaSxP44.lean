/- Part SA SL SB SC SD SE P44 of the proof: contracts of functions of the program, and what follows from them. -/
import Derived.Test.YtbfejfejahoblaaSxSI
import Derived.Test.YtbfejfejahoblaaSxV
/- Sorting: insertionSort, siftDown, heapSort, reverseRange. -/
set_option maxRecDepth 100000
namespace Go.Proofs.Ytbfejfejahoblaa
open Go Go.Sx
/-- What a step of sorting leaves: the same elements in a range, in another order. -/
abbrev OutPT (h0 : Hp) (p : Option Addr) (n cp a b : Nat) (xs : List Pt) (F : Bag) (h' : Hp) (Q : List Pt → Prop) : Prop := ∃ ys A', Sl tPt p n cp ys A' ∧ St h0 h' (A' + F) ∧ Swp tPt.d a b xs ys ∧ Q ys
theorem insertionSortPT {h0 h : Hp} {p : Option Addr} {n cp a' b' : Nat} {a b : Int} {xs : List Pt} {A F : Bag} {cmp : Value} {cf : Pt → Pt → Int} {P : Pt → Prop} (hX : CmpPT h0 cmp cf P) (ho : OrdP (fun x y : Pt => cf x y < 0)) (s : St h0 h (A + F)) (o : Sl tPt p n cp xs A) (hP : ∀ k, k < n → P (xs.getD k tPt.d)) (ea : a = (a' : Int)) (eb : b = (b' : Int)) (ha : a' ≤ n) (hb : b' ≤ n) (hn : n < 1000000) :
    HCalls Try.prog 66 #[.slice p n cp, .int .i64 a, .int .i64 b, cmp] h (fun v h' => v = .tuple #[] ∧ OutPT h0 p n cp a' b' xs F h' (SrtR tPt.d (fun x y : Pt => cf x y < 0) a' b')) := by
  subst ea eb
  have hl0 := o.len
  refine slices_insertionSortCmpFunc_api_Point_call ?_
  rw [slices_insertionSortCmpFunc_api_Point_b0_eq]
  refine ⟨⟨by omega, by omega⟩, fun i h1 => ∃ i' : Nat, i.1 = i' ∧ a' + 1 ≤ i' ∧ OutPT h0 p n cp a' b' xs F h1 (SrtR tPt.d (fun x y : Pt => cf x y < 0) a' i'), fun i _ => (b' - i.1).toNat, ⟨a' + 1, rfl, Nat.le_refl _, xs, A, o, s, .refl _, srtR_one (by omega)⟩, ?_⟩
  rintro ⟨_, _⟩ h1 ⟨i', rfl, hi, ys, A1, o, s, w, hs⟩
  dsimp only
  rw [slices_insertionSortCmpFunc_api_Point_b1_eq]
  refine condP (fun hlt => ?_) (fun hge => ⟨rfl, ys, A1, o, s, w, SrtR.mono hs (Nat.le_refl _) (by omega)⟩)
  refine ⟨fun j h2 => ∃ j' : Nat, j.1 = j' ∧ a' ≤ j' ∧ j' ≤ i' ∧ OutPT h0 p n cp a' b' xs F h2 (InsR tPt.d (fun x y : Pt => cf x y < 0) a' j' i'), fun j _ => j.1.toNat, ⟨i', rfl, by omega, by omega, ys, A1, o, s, w, ins_start hs⟩, ?_⟩
  clear hs w s o ys
  rintro ⟨_, _⟩ h2 ⟨j', rfl, hj1, hj2, ys, A1, o, s, w, hs⟩
  dsimp only
  have hl := o.len
  have hP := w.allN hl0 hP
  have fin : ∀ h3, St h0 h3 (A1 + F) → (a' < j' → ¬ (fun x y : Pt => cf x y < 0) (ys.getD j' tPt.d) (ys.getD (j' - 1) tPt.d)) → slices_insertionSortCmpFunc_api_Point_b4 p n cp a' b' cmp i' h3 (fun s' h' => (∃ i' : Nat, s'.1 = i' ∧ a' + 1 ≤ i' ∧ OutPT h0 p n cp a' b' xs F h' (SrtR tPt.d (fun x y : Pt => cf x y < 0) a' i')) ∧ (b' - s'.1).toNat < (b' - (i' : Int)).toNat) (fun v h' => v = .tuple #[] ∧ OutPT h0 p n cp a' b' xs F h' (SrtR tPt.d (fun x y : Pt => cf x y < 0) a' b')) := by
    intro h3 s hx
    rw [slices_insertionSortCmpFunc_api_Point_b4_eq]
    exact ⟨⟨by omega, by omega⟩, ⟨i' + 1, by push_cast; rfl, by omega, ys, A1, o, s, w, ins_end ho hj1 hs hx⟩, by omega⟩
  rw [slices_insertionSortCmpFunc_api_Point_b2_eq]
  refine condP (fun hj => ?_) (fun hj => fin _ s fun h => by omega)
  have r := o.rd s
  refine ldPT (i' := j') r rfl (by omega) ⟨⟨by omega, by omega⟩, ldPT (i' := j' - 1) r (by omega) (by omega) ?_⟩
  refine hX _ _ _ _ s.ext (hP _ (by omega)) (hP _ (by omega)) fun h5 e5 => ⟨_, rfl, ?_⟩; have s := s.grow e5
  refine condP (fun hc => ?_) (fun hc => fin _ s fun _ => hc)
  rw [slices_insertionSortCmpFunc_api_Point_b3_eq]
  refine ⟨⟨by omega, by omega⟩, ⟨by omega, by omega⟩, ?_⟩
  refine swPT (u' := j') (v' := j' - 1) o s rfl (by omega) (by omega) (by omega) fun h6 A6 o6 s6 => ?_
  rw [slices_insertionSortCmpFunc_api_Point_b5_eq]
  exact ⟨⟨by omega, by omega⟩, ⟨j' - 1, by omega, by omega, by omega, _, A6, o6, s6, .step w (by omega) (by omega) (by omega) (by omega) (by omega), ins_swap ho (by omega) hj2 (by omega) hs hc⟩, by omega⟩
theorem siftDownPT {h0 h : Hp} {p : Option Addr} {n cp lo' hi' f' : Nat} {lo hi f : Int} {xs : List Pt} {A F : Bag} {cmp : Value} {cf : Pt → Pt → Int} {P : Pt → Prop} (hX : CmpPT h0 cmp cf P) (ho : OrdP (fun x y : Pt => cf x y < 0)) (s : St h0 h (A + F)) (o : Sl tPt p n cp xs A) (hP : ∀ k, k < n → P (xs.getD k tPt.d)) (el : lo = (lo' : Int)) (eh : hi = (hi' : Int)) (ef : f = (f' : Int)) (hf : f' + hi' ≤ n) (hlo : lo' ≤ n) (hn : n < 1000000)
    (hx : HeapX tPt.d (fun x y : Pt => cf x y < 0) f' lo' hi' lo' xs) :
    HCalls Try.prog 86 #[.slice p n cp, .int .i64 lo, .int .i64 hi, .int .i64 f, cmp] h (fun v h' => v = .tuple #[] ∧ OutPT h0 p n cp (f' + lo') (f' + hi') xs F h' (HeapR tPt.d (fun x y : Pt => cf x y < 0) f' lo' hi')) := by
  subst el eh ef
  have hl0 := o.len
  refine slices_siftDownCmpFunc_api_Point_call ?_
  rw [slices_siftDownCmpFunc_api_Point_b0_eq]
  refine ⟨fun i h1 => ∃ r : Nat, i.1 = r ∧ lo' ≤ r ∧ r ≤ n ∧ OutPT h0 p n cp (f' + lo') (f' + hi') xs F h1 (HeapX tPt.d (fun x y : Pt => cf x y < 0) f' lo' hi' r), fun i _ => (hi' - i.1).toNat, ⟨lo', rfl, Nat.le_refl _, hlo, xs, A, o, s, .refl _, hx⟩, ?_⟩
  rintro ⟨_, _⟩ h1 ⟨r, rfl, hr, hrn, ys, A1, o, s, w, hs⟩
  dsimp only
  have hl := o.len
  have hP := w.allN hl0 hP
  rw [slices_siftDownCmpFunc_api_Point_b1_eq]
  refine ⟨⟨by omega, by omega⟩, ⟨by omega, by omega⟩, condP (fun hle => ⟨rfl, ys, A1, o, s, w, heap_stop hs fun c h1 h2 => by omega⟩) (fun hle => ⟨⟨by omega, by omega⟩, ?_⟩)⟩
  have fin : ∀ (ch : Nat) (h3 : Hp) (ci : Int), ci = (ch : Int) → St h0 h3 (A1 + F) → (ch = 2 * r + 1 ∨ ch = 2 * r + 2) → ch < hi' → (∀ c, (c = 2 * r + 1 ∨ c = 2 * r + 2) → c < hi' → ¬ (fun x y : Pt => cf x y < 0) (ys.getD (f' + ch) tPt.d) (ys.getD (f' + c) tPt.d)) →
      slices_siftDownCmpFunc_api_Point_b2 p n cp hi' f' cmp r ci h3 (fun s' h' => (∃ r : Nat, s'.1 = r ∧ lo' ≤ r ∧ r ≤ n ∧ OutPT h0 p n cp (f' + lo') (f' + hi') xs F h' (HeapX tPt.d (fun x y : Pt => cf x y < 0) f' lo' hi' r)) ∧ (hi' - s'.1).toNat < (hi' - (r : Int)).toNat) (fun v h' => v = .tuple #[] ∧ OutPT h0 p n cp (f' + lo') (f' + hi') xs F h' (HeapR tPt.d (fun x y : Pt => cf x y < 0) f' lo' hi')) := by
    rintro ch h3 _ rfl s hc1 hc2 hmax
    rw [slices_siftDownCmpFunc_api_Point_b2_eq]
    have rd := o.rd s
    refine ⟨⟨by omega, by omega⟩, ldPT (i' := f' + r) rd (by omega) (by omega) ⟨⟨by omega, by omega⟩, ldPT (i' := f' + ch) rd (by omega) (by omega) ?_⟩⟩
    refine hX _ _ _ _ s.ext (hP _ (by omega)) (hP _ (by omega)) fun h5 e5 => ⟨_, rfl, ?_⟩; have s := s.grow e5
    refine condN (fun hc => ⟨rfl, ys, A1, o, s, w, heap_stop hs fun c k1 k2 k3 => ho.trans _ _ _ (hmax c k1 k2) hc k3⟩) (fun hc => ⟨⟨by omega, by omega⟩, ⟨by omega, by omega⟩, ⟨by omega, by omega⟩, ?_⟩)
    refine swPTx ⟨by omega, by omega⟩ (u' := f' + r) (v' := f' + ch) o s (by omega) (by omega) (by omega) (by omega) fun h6 A6 o6 s6 => ?_
    exact ⟨⟨ch, rfl, by omega, by omega, _, A6, o6, s6, .step (i := f' + r) (j := f' + ch) w (by omega) (by omega) (by omega) (by omega) (by omega), heap_swap ho hs hc1 hc2 (by omega) hc hmax hr⟩, by omega⟩
  refine condP (fun h2 => ?_) (fun h2 => fin (2 * r + 1) _ _ (by omega) s (.inl rfl) (by omega) fun c k1 k2 => ?_)
  · have rd := o.rd s
    refine ⟨⟨by omega, by omega⟩, ldPT (i' := f' + (2 * r + 1)) rd (by omega) (by omega) ⟨⟨by omega, by omega⟩, ⟨by omega, by omega⟩, ldPT (i' := f' + (2 * r + 2)) rd (by omega) (by omega) ?_⟩⟩
    refine hX _ _ _ _ s.ext (hP _ (by omega)) (hP _ (by omega)) fun h5 e5 => ⟨_, rfl, ?_⟩; have s := s.grow e5
    refine condP (fun hc => ⟨⟨by omega, by omega⟩, fin (2 * r + 2) _ _ (by push_cast; rfl) s (.inr rfl) (by omega) fun c k1 k2 => ?_⟩) (fun hc => fin (2 * r + 1) _ _ (by omega) s (.inl rfl) (by omega) fun c k1 k2 => ?_)
    · rcases k1 with rfl | rfl
      · exact ho.asymm _ _ hc
      · exact ho.irr _
    · rcases k1 with rfl | rfl
      · exact ho.irr _
      · exact hc
  · rcases k1 with rfl | rfl
    · exact ho.irr _
    · omega
theorem heapSortPT {h0 h : Hp} {p : Option Addr} {n cp a' b' : Nat} {a b : Int} {xs : List Pt} {A F : Bag} {cmp : Value} {cf : Pt → Pt → Int} {P : Pt → Prop} (hX : CmpPT h0 cmp cf P) (ho : OrdP (fun x y : Pt => cf x y < 0)) (s : St h0 h (A + F)) (o : Sl tPt p n cp xs A) (hP : ∀ k, k < n → P (xs.getD k tPt.d)) (ea : a = (a' : Int)) (eb : b = (b' : Int)) (hab : a' < b') (hb : b' ≤ n) (hn : n < 1000000) :
    HCalls Try.prog 67 #[.slice p n cp, .int .i64 a, .int .i64 b, cmp] h (fun v h' => v = .tuple #[] ∧ OutPT h0 p n cp a' b' xs F h' (SrtR tPt.d (fun x y : Pt => cf x y < 0) a' b')) := by
  subst ea eb
  have hl0 := o.len
  refine slices_heapSortCmpFunc_api_Point_call ?_
  rw [slices_heapSortCmpFunc_api_Point_b0_eq]
  refine ⟨⟨by omega, by omega⟩, ⟨by omega, by omega⟩, quo_intro (by omega) (by omega) (by omega) ?_⟩
  obtain ⟨q, hq⟩ : ∃ q : Nat, ((b' : Int) - a' - 1) / 2 + 1 = q := ⟨(((b' : Int) - a' - 1) / 2 + 1).toNat, by omega⟩
  refine ⟨fun i h1 => ∃ m : Nat, i.1 = (m : Int) - 1 ∧ m ≤ b' - a' ∧ OutPT h0 p n cp a' b' xs F h1 (HeapR tPt.d (fun x y : Pt => cf x y < 0) a' m (b' - a')), fun i _ => (i.1 + 1).toNat, ⟨q, by show _ / _ = _; omega, by omega, xs, A, o, s, .refl _, fun k c k1 k2 k3 => by omega⟩, ?_⟩
  rintro ⟨_, _⟩ h1 ⟨m, rfl, hm, ys, A1, o, s, w, hs⟩
  dsimp only
  have hl := o.len
  have hPy := w.allN hl0 hP
  rw [slices_heapSortCmpFunc_api_Point_b1_eq]
  refine condP (fun hi => ?_) (fun hi => ?_)
  · refine (siftDownPT hX ho s o hPy (lo' := m - 1) (hi' := b' - a') (f' := a') (by omega) (by omega) rfl (by omega) (by omega) hn ⟨fun k c k1 k2 k3 k4 => hs k c (by omega) k2 k3, fun k c k1 k2 => by omega⟩).mono fun v h2 ⟨hv, zs, A2, o2, s2, w2, hs2⟩ => ⟨hv, ?_⟩
    rw [slices_heapSortCmpFunc_api_Point_b2_eq]
    exact ⟨⟨by omega, by omega⟩, ⟨m - 1, by omega, by omega, zs, A2, o2, s2, w.trans (w2.mono (by omega) (by omega) (by omega)).1, hs2⟩, by omega⟩
  · obtain rfl : m = 0 := by omega
    rw [slices_heapSortCmpFunc_api_Point_b3_eq]
    refine ⟨⟨by omega, by omega⟩, ?_⟩
    refine ⟨fun i h1 => ∃ m : Nat, i.1 = (m : Int) - 1 ∧ m ≤ b' - a' ∧ OutPT h0 p n cp a' b' xs F h1 (fun ys => HeapR tPt.d (fun x y : Pt => cf x y < 0) a' 0 m ys ∧ OutR tPt.d (fun x y : Pt => cf x y < 0) a' b' a' (a' + m) ys), fun i _ => (i.1 + 1).toNat, ⟨b' - a', by show (_ : Int) - 1 = _; omega, by omega, ys, A1, o, s, w, hs, by rw [show a' + (b' - a') = b' by omega]; exact outR_start⟩, ?_⟩
    clear hs w s o hl hPy ys
    rintro ⟨_, _⟩ h2 ⟨m, rfl, hm, ys, A1, o, s, w, hs, ho2⟩
    dsimp only
    have hl := o.len
    rw [slices_heapSortCmpFunc_api_Point_b4_eq]
    refine condP (fun hi => ⟨⟨by omega, by omega⟩, ⟨by omega, by omega⟩, ?_⟩) (fun hi => ?_)
    · refine swPT (u' := a') (v' := a' + (m - 1)) o s rfl (by omega) (by omega) (by omega) fun h6 A6 o6 s6 => ?_
      have w1 : Swp tPt.d a' (a' + m) ys (swapL tPt.d ys a' (a' + (m - 1))) := .one (by omega) (by omega) (by omega) (by omega) (by omega)
      have w6 := w.trans (w1.mono (Nat.le_refl _) (by omega) (by omega)).1
      have hg : ∀ k, (swapL tPt.d ys a' (a' + (m - 1))).getD k tPt.d = if k = a' + (m - 1) then ys.getD a' tPt.d else if k = a' then ys.getD (a' + (m - 1)) tPt.d else ys.getD k tPt.d := swapL_get (by omega) (by omega)
      have ho6 : OutR tPt.d (fun x y : Pt => cf x y < 0) a' b' a' (a' + (m - 1)) (swapL tPt.d ys a' (a' + (m - 1))) := by
        intro p q k1 k2 k3 k4
        by_cases hq : q = a' + (m - 1)
        · rw [hq, hg, if_pos rfl]
          exact w1.all (P := fun x => ¬ (fun x y : Pt => cf x y < 0) (ys.getD a' tPt.d) x) (fun k j1 j2 => by
            have := heap_max ho hs (k - a') (by omega)
            rwa [show a' + (k - a') = k by omega] at this) p k1 (by omega)
        · exact outR_swp (Nat.le_refl _) (by omega) ho2 w1 p q k1 k2 k3 (by omega)
      generalize swapL tPt.d ys a' (a' + (m - 1)) = us at *
      refine (siftDownPT hX ho s6 o6 (w6.allN hl0 hP) (lo' := 0) (hi' := m - 1) (f' := a') (by rfl) (by omega) rfl (by omega) (by omega) hn ⟨fun k c k1 k2 k3 k4 => ?_, fun k c k1 k2 => by omega⟩).mono fun v h2 ⟨hv, zs, A2, o2, s2, w2, hs2⟩ => ⟨hv, ?_⟩
      · rw [hg, hg, if_neg (by omega), if_neg (by omega), if_neg (by omega), if_neg (by omega)]
        exact hs k c (by omega) k2 (by omega)
      · rw [slices_heapSortCmpFunc_api_Point_b5_eq]
        exact ⟨⟨by omega, by omega⟩, ⟨m - 1, by omega, by omega, zs, A2, o2, s2, w6.trans (w2.mono (by omega) (by omega) (by rw [w6.len]; omega)).1, hs2, outR_swp (Nat.le_refl _) (by omega) ho6 w2⟩, by omega⟩
    · obtain rfl : m = 0 := by omega
      exact ⟨rfl, ys, A1, o, s, w, outR_done ho2 (srtR_one (by omega))⟩
theorem reverseRangePT {h0 h : Hp} {p : Option Addr} {n cp a' b' : Nat} {a b : Int} {xs : List Pt} {A F : Bag} {cmp : Value} (s : St h0 h (A + F)) (o : Sl tPt p n cp xs A) (ea : a = (a' : Int)) (eb : b = (b' : Int)) (hab : a' ≤ b') (hb : b' ≤ n) (hn : n < 1000000) :
    HCalls Try.prog 70 #[.slice p n cp, .int .i64 a, .int .i64 b, cmp] h (fun v h' => v = .tuple #[] ∧ OutPT h0 p n cp a' b' xs F h' fun _ => True) := by
  subst ea eb
  have hl0 := o.len
  refine slices_reverseRangeCmpFunc_api_Point_call ?_
  rw [slices_reverseRangeCmpFunc_api_Point_b0_eq]
  refine ⟨⟨by omega, by omega⟩, fun i h1 => ∃ i' : Nat, i.1 = i' ∧ a' ≤ i' ∧ i.2.1 < b' ∧ i' ≤ n ∧ -1 ≤ i.2.1 ∧ OutPT h0 p n cp a' b' xs F h1 fun _ => True, fun i _ => (i.2.1 - i.1).toNat, ⟨a', rfl, Nat.le_refl _, by show (_ : Int) - 1 < _; omega, by omega, by show -1 ≤ (_ : Int) - 1; omega, xs, A, o, s, .refl _, trivial⟩, ?_⟩
  rintro ⟨_, j, _⟩ h1 ⟨i', rfl, hi, hj, hin, hj1, ys, A1, o, s, w, _⟩
  dsimp only at hj hj1 ⊢
  have hl := o.len
  rw [slices_reverseRangeCmpFunc_api_Point_b1_eq]
  refine condP (fun hlt => ?_) (fun hlt => ⟨rfl, ys, A1, o, s, w, trivial⟩)
  refine swPT (u' := i') (v' := j.toNat) o s rfl (by omega) (by omega) (by omega) fun h6 A6 o6 s6 => ?_
  exact ⟨⟨by omega, by omega⟩, ⟨by omega, by omega⟩, ⟨i' + 1, by push_cast; rfl, by omega, by show j - 1 < _; omega, by omega, by show -1 ≤ j - 1; omega, _, A6, o6, s6, .step w (by omega) (by omega) (by omega) (by omega) (by omega), trivial⟩, by dsimp only; omega⟩
/-- What a step of sorting leaves: the same elements in a range, in another order. -/
abbrev OutOI (h0 : Hp) (p : Option Addr) (n cp a b : Nat) (xs : List Int) (F : Bag) (h' : Hp) (Q : List Int → Prop) : Prop := ∃ ys A', Sl (tI 3) p n cp ys A' ∧ St h0 h' (A' + F) ∧ Swp (tI 3).d a b xs ys ∧ Q ys
theorem insertionSortOI {h0 h : Hp} {p : Option Addr} {n cp a' b' : Nat} {a b : Int} {xs : List Int} {A F : Bag} {P : Int → Prop} (s : St h0 h (A + F)) (o : Sl (tI 3) p n cp xs A) (hP : ∀ k, k < n → P (xs.getD k (tI 3).d)) (ea : a = (a' : Int)) (eb : b = (b' : Int)) (ha : a' ≤ n) (hb : b' ≤ n) (hn : n < 1000000) :
    HCalls Try.prog 52 #[.slice p n cp, .int .i64 a, .int .i64 b] h (fun v h' => v = .tuple #[] ∧ OutOI h0 p n cp a' b' xs F h' (SrtR (tI 3).d (fun x y : Int => x < y) a' b')) := by
  subst ea eb
  have hl0 := o.len
  refine slices_insertionSortOrdered_int_call ?_
  rw [slices_insertionSortOrdered_int_b0_eq]
  refine ⟨⟨by omega, by omega⟩, fun i h1 => ∃ i' : Nat, i.1 = i' ∧ a' + 1 ≤ i' ∧ OutOI h0 p n cp a' b' xs F h1 (SrtR (tI 3).d (fun x y : Int => x < y) a' i'), fun i _ => (b' - i.1).toNat, ⟨a' + 1, rfl, Nat.le_refl _, xs, A, o, s, .refl _, srtR_one (by omega)⟩, ?_⟩
  rintro ⟨_, _⟩ h1 ⟨i', rfl, hi, ys, A1, o, s, w, hs⟩
  dsimp only
  rw [slices_insertionSortOrdered_int_b1_eq]
  refine condP (fun hlt => ?_) (fun hge => ⟨rfl, ys, A1, o, s, w, SrtR.mono hs (Nat.le_refl _) (by omega)⟩)
  refine ⟨fun j h2 => ∃ j' : Nat, j.1 = j' ∧ a' ≤ j' ∧ j' ≤ i' ∧ OutOI h0 p n cp a' b' xs F h2 (InsR (tI 3).d (fun x y : Int => x < y) a' j' i'), fun j _ => j.1.toNat, ⟨i', rfl, by omega, by omega, ys, A1, o, s, w, ins_start hs⟩, ?_⟩
  clear hs w s o ys
  rintro ⟨_, _⟩ h2 ⟨j', rfl, hj1, hj2, ys, A1, o, s, w, hs⟩
  dsimp only
  have hl := o.len
  have hP := w.allN hl0 hP
  have fin : ∀ h3, St h0 h3 (A1 + F) → (a' < j' → ¬ (fun x y : Int => x < y) (ys.getD j' (tI 3).d) (ys.getD (j' - 1) (tI 3).d)) → slices_insertionSortOrdered_int_b4 p n cp a' b' i' h3 (fun s' h' => (∃ i' : Nat, s'.1 = i' ∧ a' + 1 ≤ i' ∧ OutOI h0 p n cp a' b' xs F h' (SrtR (tI 3).d (fun x y : Int => x < y) a' i')) ∧ (b' - s'.1).toNat < (b' - (i' : Int)).toNat) (fun v h' => v = .tuple #[] ∧ OutOI h0 p n cp a' b' xs F h' (SrtR (tI 3).d (fun x y : Int => x < y) a' b')) := by
    intro h3 s hx
    rw [slices_insertionSortOrdered_int_b4_eq]
    exact ⟨⟨by omega, by omega⟩, ⟨i' + 1, by push_cast; rfl, by omega, ys, A1, o, s, w, ins_end ordI hj1 hs hx⟩, by omega⟩
  rw [slices_insertionSortOrdered_int_b2_eq]
  refine condP (fun hj => ?_) (fun hj => fin _ s fun h => by omega)
  have r := o.rd s
  refine ldOI (i' := j') r rfl (by omega) ⟨⟨by omega, by omega⟩, ldOI (i' := j' - 1) r (by omega) (by omega) ?_⟩
  refine ⟨_, (Less_ok _ _ _).mono fun v9 h9 ⟨hh9, hv9⟩ => ⟨hv9, hh9⟩, ?_⟩
  refine condP (fun hc => ?_) (fun hc => fin _ s fun _ => hc)
  rw [slices_insertionSortOrdered_int_b3_eq]
  refine ⟨⟨by omega, by omega⟩, ⟨by omega, by omega⟩, ?_⟩
  refine swOI (u' := j') (v' := j' - 1) o s rfl (by omega) (by omega) (by omega) fun h6 A6 o6 s6 => ?_
  rw [slices_insertionSortOrdered_int_b5_eq]
  exact ⟨⟨by omega, by omega⟩, ⟨j' - 1, by omega, by omega, by omega, _, A6, o6, s6, .step w (by omega) (by omega) (by omega) (by omega) (by omega), ins_swap ordI (by omega) hj2 (by omega) hs hc⟩, by omega⟩
theorem siftDownOI {h0 h : Hp} {p : Option Addr} {n cp lo' hi' f' : Nat} {lo hi f : Int} {xs : List Int} {A F : Bag} {P : Int → Prop} (s : St h0 h (A + F)) (o : Sl (tI 3) p n cp xs A) (hP : ∀ k, k < n → P (xs.getD k (tI 3).d)) (el : lo = (lo' : Int)) (eh : hi = (hi' : Int)) (ef : f = (f' : Int)) (hf : f' + hi' ≤ n) (hlo : lo' ≤ n) (hn : n < 1000000)
    (hx : HeapX (tI 3).d (fun x y : Int => x < y) f' lo' hi' lo' xs) :
    HCalls Try.prog 79 #[.slice p n cp, .int .i64 lo, .int .i64 hi, .int .i64 f] h (fun v h' => v = .tuple #[] ∧ OutOI h0 p n cp (f' + lo') (f' + hi') xs F h' (HeapR (tI 3).d (fun x y : Int => x < y) f' lo' hi')) := by
  subst el eh ef
  have hl0 := o.len
  refine slices_siftDownOrdered_int_call ?_
  rw [slices_siftDownOrdered_int_b0_eq]
  refine ⟨fun i h1 => ∃ r : Nat, i.1 = r ∧ lo' ≤ r ∧ r ≤ n ∧ OutOI h0 p n cp (f' + lo') (f' + hi') xs F h1 (HeapX (tI 3).d (fun x y : Int => x < y) f' lo' hi' r), fun i _ => (hi' - i.1).toNat, ⟨lo', rfl, Nat.le_refl _, hlo, xs, A, o, s, .refl _, hx⟩, ?_⟩
  rintro ⟨_, _⟩ h1 ⟨r, rfl, hr, hrn, ys, A1, o, s, w, hs⟩
  dsimp only
  have hl := o.len
  have hP := w.allN hl0 hP
  rw [slices_siftDownOrdered_int_b1_eq]
  refine ⟨⟨by omega, by omega⟩, ⟨by omega, by omega⟩, condP (fun hle => ⟨rfl, ys, A1, o, s, w, heap_stop hs fun c h1 h2 => by omega⟩) (fun hle => ⟨⟨by omega, by omega⟩, ?_⟩)⟩
  have fin : ∀ (ch : Nat) (h3 : Hp) (ci : Int), ci = (ch : Int) → St h0 h3 (A1 + F) → (ch = 2 * r + 1 ∨ ch = 2 * r + 2) → ch < hi' → (∀ c, (c = 2 * r + 1 ∨ c = 2 * r + 2) → c < hi' → ¬ (fun x y : Int => x < y) (ys.getD (f' + ch) (tI 3).d) (ys.getD (f' + c) (tI 3).d)) →
      slices_siftDownOrdered_int_b2 p n cp hi' f' r ci h3 (fun s' h' => (∃ r : Nat, s'.1 = r ∧ lo' ≤ r ∧ r ≤ n ∧ OutOI h0 p n cp (f' + lo') (f' + hi') xs F h' (HeapX (tI 3).d (fun x y : Int => x < y) f' lo' hi' r)) ∧ (hi' - s'.1).toNat < (hi' - (r : Int)).toNat) (fun v h' => v = .tuple #[] ∧ OutOI h0 p n cp (f' + lo') (f' + hi') xs F h' (HeapR (tI 3).d (fun x y : Int => x < y) f' lo' hi')) := by
    rintro ch h3 _ rfl s hc1 hc2 hmax
    rw [slices_siftDownOrdered_int_b2_eq]
    have rd := o.rd s
    refine ⟨⟨by omega, by omega⟩, ldOI (i' := f' + r) rd (by omega) (by omega) ⟨⟨by omega, by omega⟩, ldOI (i' := f' + ch) rd (by omega) (by omega) ?_⟩⟩
    refine ⟨_, (Less_ok _ _ _).mono fun v9 h9 ⟨hh9, hv9⟩ => ⟨hv9, hh9⟩, ?_⟩
    refine condN (fun hc => ⟨rfl, ys, A1, o, s, w, heap_stop hs fun c k1 k2 k3 => ordI.trans _ _ _ (hmax c k1 k2) hc k3⟩) (fun hc => ⟨⟨by omega, by omega⟩, ⟨by omega, by omega⟩, ⟨by omega, by omega⟩, ?_⟩)
    refine swOIx ⟨by omega, by omega⟩ (u' := f' + r) (v' := f' + ch) o s (by omega) (by omega) (by omega) (by omega) fun h6 A6 o6 s6 => ?_
    exact ⟨⟨ch, rfl, by omega, by omega, _, A6, o6, s6, .step (i := f' + r) (j := f' + ch) w (by omega) (by omega) (by omega) (by omega) (by omega), heap_swap ordI hs hc1 hc2 (by omega) hc hmax hr⟩, by omega⟩
  refine condP (fun h2 => ?_) (fun h2 => fin (2 * r + 1) _ _ (by omega) s (.inl rfl) (by omega) fun c k1 k2 => ?_)
  · have rd := o.rd s
    refine ⟨⟨by omega, by omega⟩, ldOI (i' := f' + (2 * r + 1)) rd (by omega) (by omega) ⟨⟨by omega, by omega⟩, ⟨by omega, by omega⟩, ldOI (i' := f' + (2 * r + 2)) rd (by omega) (by omega) ?_⟩⟩
    refine ⟨_, (Less_ok _ _ _).mono fun v9 h9 ⟨hh9, hv9⟩ => ⟨hv9, hh9⟩, ?_⟩
    refine condP (fun hc => ⟨⟨by omega, by omega⟩, fin (2 * r + 2) _ _ (by push_cast; rfl) s (.inr rfl) (by omega) fun c k1 k2 => ?_⟩) (fun hc => fin (2 * r + 1) _ _ (by omega) s (.inl rfl) (by omega) fun c k1 k2 => ?_)
    · rcases k1 with rfl | rfl
      · exact ordI.asymm _ _ hc
      · exact ordI.irr _
    · rcases k1 with rfl | rfl
      · exact ordI.irr _
      · exact hc
  · rcases k1 with rfl | rfl
    · exact ordI.irr _
    · omega
theorem heapSortOI {h0 h : Hp} {p : Option Addr} {n cp a' b' : Nat} {a b : Int} {xs : List Int} {A F : Bag} {P : Int → Prop} (s : St h0 h (A + F)) (o : Sl (tI 3) p n cp xs A) (hP : ∀ k, k < n → P (xs.getD k (tI 3).d)) (ea : a = (a' : Int)) (eb : b = (b' : Int)) (hab : a' < b') (hb : b' ≤ n) (hn : n < 1000000) :
    HCalls Try.prog 53 #[.slice p n cp, .int .i64 a, .int .i64 b] h (fun v h' => v = .tuple #[] ∧ OutOI h0 p n cp a' b' xs F h' (SrtR (tI 3).d (fun x y : Int => x < y) a' b')) := by
  subst ea eb
  have hl0 := o.len
  refine slices_heapSortOrdered_int_call ?_
  rw [slices_heapSortOrdered_int_b0_eq]
  refine ⟨⟨by omega, by omega⟩, ⟨by omega, by omega⟩, quo_intro (by omega) (by omega) (by omega) ?_⟩
  obtain ⟨q, hq⟩ : ∃ q : Nat, ((b' : Int) - a' - 1) / 2 + 1 = q := ⟨(((b' : Int) - a' - 1) / 2 + 1).toNat, by omega⟩
  refine ⟨fun i h1 => ∃ m : Nat, i.1 = (m : Int) - 1 ∧ m ≤ b' - a' ∧ OutOI h0 p n cp a' b' xs F h1 (HeapR (tI 3).d (fun x y : Int => x < y) a' m (b' - a')), fun i _ => (i.1 + 1).toNat, ⟨q, by show _ / _ = _; omega, by omega, xs, A, o, s, .refl _, fun k c k1 k2 k3 => by omega⟩, ?_⟩
  rintro ⟨_, _⟩ h1 ⟨m, rfl, hm, ys, A1, o, s, w, hs⟩
  dsimp only
  have hl := o.len
  have hPy := w.allN hl0 hP
  rw [slices_heapSortOrdered_int_b1_eq]
  refine condP (fun hi => ?_) (fun hi => ?_)
  · refine (siftDownOI  s o hPy (lo' := m - 1) (hi' := b' - a') (f' := a') (by omega) (by omega) rfl (by omega) (by omega) hn ⟨fun k c k1 k2 k3 k4 => hs k c (by omega) k2 k3, fun k c k1 k2 => by omega⟩).mono fun v h2 ⟨hv, zs, A2, o2, s2, w2, hs2⟩ => ⟨hv, ?_⟩
    rw [slices_heapSortOrdered_int_b2_eq]
    exact ⟨⟨by omega, by omega⟩, ⟨m - 1, by omega, by omega, zs, A2, o2, s2, w.trans (w2.mono (by omega) (by omega) (by omega)).1, hs2⟩, by omega⟩
  · obtain rfl : m = 0 := by omega
    rw [slices_heapSortOrdered_int_b3_eq]
    refine ⟨⟨by omega, by omega⟩, ?_⟩
    refine ⟨fun i h1 => ∃ m : Nat, i.1 = (m : Int) - 1 ∧ m ≤ b' - a' ∧ OutOI h0 p n cp a' b' xs F h1 (fun ys => HeapR (tI 3).d (fun x y : Int => x < y) a' 0 m ys ∧ OutR (tI 3).d (fun x y : Int => x < y) a' b' a' (a' + m) ys), fun i _ => (i.1 + 1).toNat, ⟨b' - a', by show (_ : Int) - 1 = _; omega, by omega, ys, A1, o, s, w, hs, by rw [show a' + (b' - a') = b' by omega]; exact outR_start⟩, ?_⟩
    clear hs w s o hl hPy ys
    rintro ⟨_, _⟩ h2 ⟨m, rfl, hm, ys, A1, o, s, w, hs, ho2⟩
    dsimp only
    have hl := o.len
    rw [slices_heapSortOrdered_int_b4_eq]
    refine condP (fun hi => ⟨⟨by omega, by omega⟩, ⟨by omega, by omega⟩, ?_⟩) (fun hi => ?_)
    · refine swOI (u' := a') (v' := a' + (m - 1)) o s rfl (by omega) (by omega) (by omega) fun h6 A6 o6 s6 => ?_
      have w1 : Swp (tI 3).d a' (a' + m) ys (swapL (tI 3).d ys a' (a' + (m - 1))) := .one (by omega) (by omega) (by omega) (by omega) (by omega)
      have w6 := w.trans (w1.mono (Nat.le_refl _) (by omega) (by omega)).1
      have hg : ∀ k, (swapL (tI 3).d ys a' (a' + (m - 1))).getD k (tI 3).d = if k = a' + (m - 1) then ys.getD a' (tI 3).d else if k = a' then ys.getD (a' + (m - 1)) (tI 3).d else ys.getD k (tI 3).d := swapL_get (by omega) (by omega)
      have ho6 : OutR (tI 3).d (fun x y : Int => x < y) a' b' a' (a' + (m - 1)) (swapL (tI 3).d ys a' (a' + (m - 1))) := by
        intro p q k1 k2 k3 k4
        by_cases hq : q = a' + (m - 1)
        · rw [hq, hg, if_pos rfl]
          exact w1.all (P := fun x => ¬ (fun x y : Int => x < y) (ys.getD a' (tI 3).d) x) (fun k j1 j2 => by
            have := heap_max ordI hs (k - a') (by omega)
            rwa [show a' + (k - a') = k by omega] at this) p k1 (by omega)
        · exact outR_swp (Nat.le_refl _) (by omega) ho2 w1 p q k1 k2 k3 (by omega)
      generalize swapL (tI 3).d ys a' (a' + (m - 1)) = us at *
      refine (siftDownOI  s6 o6 (w6.allN hl0 hP) (lo' := 0) (hi' := m - 1) (f' := a') (by rfl) (by omega) rfl (by omega) (by omega) hn ⟨fun k c k1 k2 k3 k4 => ?_, fun k c k1 k2 => by omega⟩).mono fun v h2 ⟨hv, zs, A2, o2, s2, w2, hs2⟩ => ⟨hv, ?_⟩
      · rw [hg, hg, if_neg (by omega), if_neg (by omega), if_neg (by omega), if_neg (by omega)]
        exact hs k c (by omega) k2 (by omega)
      · rw [slices_heapSortOrdered_int_b5_eq]
        exact ⟨⟨by omega, by omega⟩, ⟨m - 1, by omega, by omega, zs, A2, o2, s2, w6.trans (w2.mono (by omega) (by omega) (by rw [w6.len]; omega)).1, hs2, outR_swp (Nat.le_refl _) (by omega) ho6 w2⟩, by omega⟩
    · obtain rfl : m = 0 := by omega
      exact ⟨rfl, ys, A1, o, s, w, outR_done ho2 (srtR_one (by omega))⟩
theorem reverseRangeOI {h0 h : Hp} {p : Option Addr} {n cp a' b' : Nat} {a b : Int} {xs : List Int} {A F : Bag} (s : St h0 h (A + F)) (o : Sl (tI 3) p n cp xs A) (ea : a = (a' : Int)) (eb : b = (b' : Int)) (hab : a' ≤ b') (hb : b' ≤ n) (hn : n < 1000000) :
    HCalls Try.prog 56 #[.slice p n cp, .int .i64 a, .int .i64 b] h (fun v h' => v = .tuple #[] ∧ OutOI h0 p n cp a' b' xs F h' fun _ => True) := by
  subst ea eb
  have hl0 := o.len
  refine slices_reverseRangeOrdered_int_call ?_
  rw [slices_reverseRangeOrdered_int_b0_eq]
  refine ⟨⟨by omega, by omega⟩, fun i h1 => ∃ i' : Nat, i.1 = i' ∧ a' ≤ i' ∧ i.2.1 < b' ∧ i' ≤ n ∧ -1 ≤ i.2.1 ∧ OutOI h0 p n cp a' b' xs F h1 fun _ => True, fun i _ => (i.2.1 - i.1).toNat, ⟨a', rfl, Nat.le_refl _, by show (_ : Int) - 1 < _; omega, by omega, by show -1 ≤ (_ : Int) - 1; omega, xs, A, o, s, .refl _, trivial⟩, ?_⟩
  rintro ⟨_, j, _⟩ h1 ⟨i', rfl, hi, hj, hin, hj1, ys, A1, o, s, w, _⟩
  dsimp only at hj hj1 ⊢
  have hl := o.len
  rw [slices_reverseRangeOrdered_int_b1_eq]
  refine condP (fun hlt => ?_) (fun hlt => ⟨rfl, ys, A1, o, s, w, trivial⟩)
  refine swOI (u' := i') (v' := j.toNat) o s rfl (by omega) (by omega) (by omega) fun h6 A6 o6 s6 => ?_
  exact ⟨⟨by omega, by omega⟩, ⟨by omega, by omega⟩, ⟨i' + 1, by push_cast; rfl, by omega, by show j - 1 < _; omega, by omega, by show -1 ≤ j - 1; omega, _, A6, o6, s6, .step w (by omega) (by omega) (by omega) (by omega) (by omega), trivial⟩, by dsimp only; omega⟩
end Go.Proofs.Ytbfejfejahoblaa

/- Numbers that sorting wants: bits.Len, xorshift, nextPowerOfTwo. -/
set_option maxRecDepth 100000
namespace Go.Proofs.Ytbfejfejahoblaa
open Go Go.Sx
/-! ### logarithms -/
/-- How many bits a number has. -/
def blen (x : Nat) : Nat := if x = 0 then 0 else x.log2 + 1
theorem blen_shift {x k : Nat} (h : 2 ^ k ≤ x) : blen x = blen (x / 2 ^ k) + k := by
  have hp : 0 < 2 ^ k := Nat.two_pow_pos k
  have hx : x ≠ 0 := by omega
  have hq : x / 2 ^ k ≠ 0 := by have := Nat.div_pos h hp; omega
  unfold blen
  rw [if_neg hx, if_neg hq]
  have : x.log2 = (x / 2 ^ k).log2 + k := by
    rw [Nat.log2_eq_iff hx]
    have h1 := Nat.log2_self_le hq
    have h2 := @Nat.lt_log2_self (x / 2 ^ k)
    constructor
    · rw [Nat.pow_add]
      exact Nat.le_trans (Nat.mul_le_mul_right _ h1) (Nat.div_mul_le_self _ _)
    · rw [show (x / 2 ^ k).log2 + k + 1 = ((x / 2 ^ k).log2 + 1) + k by omega, Nat.pow_add]
      exact (Nat.div_lt_iff_lt_mul hp).1 h2
  omega
theorem blen_le {x k : Nat} (h : x < 2 ^ k) : blen x ≤ k := by
  unfold blen
  split
  · omega
  · rename_i hx
    have h1 := Nat.log2_self_le hx
    have : 2 ^ x.log2 < 2 ^ k := Nat.lt_of_le_of_lt h1 h
    have := (Nat.pow_lt_pow_iff_right (by decide : 1 < 2)).1 this
    omega

theorem tab_step {s : ByteArray} {m : Nat} {nv : Int} {h : Hp} {K : Value → Hp → Prop} (hz : s.size = 256) (hs : ∀ n, n < 256 → (s.data.toList.getD n 0).toNat = blen n) (hm : m < 256) (h0 : 0 ≤ nv) (h1 : nv < 1000)
    (hk : K (.int .i64 (nv + (blen m : Nat))) h) : (0 ≤ IntKind.u8.wrap (m : Int) ∧ IntKind.u8.wrap (m : Int) < (s.size : Int)) ∧ InR (((s.data.toList.getD (Int.toNat (IntKind.u8.wrap (m : Int))) 0).toNat : Int)) ∧
      InR (nv + (((s.data.toList.getD (Int.toNat (IntKind.u8.wrap (m : Int))) 0).toNat : Int))) ∧ K (.int .i64 (nv + (((s.data.toList.getD (Int.toNat (IntKind.u8.wrap (m : Int))) 0).toNat : Int)))) h := by
  have hw : IntKind.u8.wrap (m : Int) = m := wrap_u8_in _ (by omega) (by omega)
  have hb : blen m ≤ 8 := blen_le (by omega)
  rw [hw, show ((m : Nat) : Int).toNat = m by simp, hs m hm, hz]
  exact ⟨⟨by omega, by omega⟩, ⟨by omega, by omega⟩, ⟨by omega, by omega⟩, hk⟩

theorem Len64_ok (x : Nat) (hx : x < 18446744073709551616) (h : Hp) : HCalls Try.prog 62 #[.int .u64 (x : Int)] h (fun r h' => r = .int .i64 (blen x : Nat) ∧ h' = h) := by
  refine math_bits_Len64_call ?_
  have shr : ∀ (y k : Nat), y >>> k = y / 2 ^ k := fun y k => Nat.shiftRight_eq_div_pow y k
  have b3 : ∀ (y : Nat) (nv : Int), y < 256 → 0 ≤ nv → nv < 100 → nv + (blen y : Nat) = (blen x : Nat) → math_bits_Len64_b3 (y : Int) nv h (fun r h' => r = .int .i64 (blen x : Nat) ∧ h' = h) := by
    intro y nv hy h0 h1 he
    rw [math_bits_Len64_b3_eq]
    refine tab_step (K := fun r h' => r = .int .i64 (blen x : Nat) ∧ h' = h) ?_ ?_ hy h0 (by omega) ?_
    · decide +kernel
    · decide +kernel
    · rw [he]; exact ⟨rfl, rfl⟩
  have b2 : ∀ (y : Nat) (nv : Int), y < 65536 → 0 ≤ nv → nv < 90 → nv + (blen y : Nat) = (blen x : Nat) → math_bits_Len64_b2 (y : Int) nv h (fun r h' => r = .int .i64 (blen x : Nat) ∧ h' = h) := by
    intro y nv hy h0 h1 he
    rw [math_bits_Len64_b2_eq]
    refine condP (fun hc => ?_) (fun hc => b3 y nv (by omega) h0 (by omega) he)
    refine shr_intro (x := y) (s := 8) rfl rfl (by decide) ⟨⟨by omega, by omega⟩, ?_⟩
    rw [shr]
    have := blen_shift (x := y) (k := 8) (by omega)
    exact b3 _ _ (by omega) (by omega) (by omega) (by omega)
  have b1 : ∀ (y : Nat) (nv : Int), y < 4294967296 → 0 ≤ nv → nv < 70 → nv + (blen y : Nat) = (blen x : Nat) → math_bits_Len64_b1 (y : Int) nv h (fun r h' => r = .int .i64 (blen x : Nat) ∧ h' = h) := by
    intro y nv hy h0 h1 he
    rw [math_bits_Len64_b1_eq]
    refine condP (fun hc => ?_) (fun hc => b2 y nv (by omega) h0 (by omega) he)
    refine shr_intro (x := y) (s := 16) rfl rfl (by decide) ⟨⟨by omega, by omega⟩, ?_⟩
    rw [shr]
    have := blen_shift (x := y) (k := 16) (by omega)
    exact b2 _ _ (by omega) (by omega) (by omega) (by omega)
  rw [math_bits_Len64_b0_eq]
  refine condP (fun hc => ?_) (fun hc => b1 x 0 (by omega) (by omega) (by omega) (by omega))
  refine shr_intro (x := x) (s := 32) rfl rfl (by decide) ?_
  rw [shr]
  have := blen_shift (x := x) (k := 32) (by omega)
  exact b1 _ _ (by omega) (by omega) (by omega) (by omega)

theorem bitsLen_ok (x : Nat) (hx : x < 18446744073709551616) (h : Hp) : HCalls Try.prog 43 #[.int .u64 (x : Int)] h (fun r h' => r = .int .i64 (blen x : Nat) ∧ h' = h) := by
  refine math_bits_Len_call ?_
  rw [math_bits_Len_b0_eq]
  refine (Len64_ok x hx h).mono fun v h' ⟨hv, hh⟩ => ?_
  exact ⟨_, hv, rfl, hh⟩
theorem blen_pow {x : Nat} (h : 1 ≤ x) : 2 ^ blen x ≤ 2 * x ∧ x < 2 ^ blen x := by
  unfold blen
  rw [if_neg (by omega)]
  have h1 := Nat.log2_self_le (show x ≠ 0 by omega)
  have h2 := @Nat.lt_log2_self x
  rw [Nat.pow_succ]
  rw [Nat.pow_succ] at h2
  omega
/-- A power of two beyond a length. -/
theorem nextPow_ok (x : Nat) (h1 : 1 ≤ x) (hx : x < 1000000) (h : Hp) : HCalls Try.prog 80 #[.int .i64 (x : Int)] h (fun r h' => r = .int .u64 ((2 ^ blen x : Nat) : Int) ∧ h' = h) := by
  refine slices_nextPowerOfTwo_call ?_
  rw [slices_nextPowerOfTwo_b0_eq, wrap_u64_in _ (by omega) (by omega)]
  refine (bitsLen_ok x (by omega) h).mono fun v h' ⟨hv, hh⟩ => ⟨_, hv, ?_⟩
  have hb := blen_pow h1
  have hl : blen x ≤ 20 := blen_le (by omega)
  refine shl_intro (x := 1) (s := blen x) rfl rfl (by show blen x ≤ 64; omega) ?_ ⟨?_, hh⟩
  · exact wrap_u64_in _ (by omega) (by omega)
  · rw [Nat.one_mul]
theorem Next_ok {h0 h : Hp} {b : Nat} {z : Int} {e : TypeId} {F : Bag} (s : St h0 h (cA b [.int .u64 z] e + F)) : HCalls Try.prog 81 #[.pointer (some ⟨b, 0, none⟩)] h (fun r h' => ∃ y : Int, r = .int .u64 y ∧ St h0 h' (cA b [.int .u64 y] e + F)) := by
  refine slices_xorshift_Next_call ?_
  rw [slices_xorshift_Next_b0_eq]
  refine ⟨_, s.cell 0, _, s.cell 0, _, ⟨by decide, rfl⟩, _, rfl, s.wr (o := 0) rfl Nat.zero_lt_one fun h1 s => ?_⟩
  refine ⟨_, s.cell 0, _, s.cell 0, _, ⟨by decide, rfl⟩, _, rfl, s.wr (o := 0) rfl Nat.zero_lt_one fun h2 s => ?_⟩
  refine ⟨_, s.cell 0, _, s.cell 0, _, ⟨by decide, rfl⟩, _, rfl, s.wr (o := 0) rfl Nat.zero_lt_one fun h3 s => ?_⟩
  exact ⟨_, s.cell 0, _, rfl, s⟩
/-- Bits of a mask. -/
theorem mask_lt (r : Int) (m : Nat) (h1 : 1 ≤ m) (hm : m < 10000000) {Q : Int → Prop} (hq : ∀ k : Nat, k < m → Q (k : Int)) : ∃ an1 : Int, Sx.And .u64 r (IntKind.u64.wrap ((m : Int) - 1)) an1 ∧ Q an1 := by
  refine ⟨_, rfl, ?_⟩
  rw [wrap_u64_in ((m : Int) - 1) (by omega) (by omega)]
  have h2 : ((BitVec.ofInt IntKind.u64.bits r) &&& (BitVec.ofInt IntKind.u64.bits ((m : Int) - 1))).toNat ≤ m - 1 := by
    rw [BitVec.toNat_and]
    refine Nat.le_trans Nat.and_le_right ?_
    rw [show ((m : Int) - 1) = ((m - 1 : Nat) : Int) by omega, BitVec.ofInt_natCast, BitVec.toNat_ofNat]
    exact Nat.mod_le _ _
  rw [wrap_u64_in _ (by omega) (by omega)]
  exact hq _ (by omega)
end Go.Proofs.Ytbfejfejahoblaa

/- Sorting: the choice of a pivot, breakPatterns. -/
set_option maxRecDepth 100000
namespace Go.Proofs.Ytbfejfejahoblaa
open Go Go.Sx
theorem order2PT {h0 h : Hp} {p : Option Addr} {n cp a' b' sb : Nat} {a b z : Int} {e : TypeId} {xs : List Pt} {A F : Bag} {cmp : Value} {cf : Pt → Pt → Int} {P : Pt → Prop} (hX : CmpPT h0 cmp cf P) (ho : OrdP (fun x y : Pt => cf x y < 0)) (s : St h0 h (A + (cA sb [.int .i64 z] e + F))) (o : Sl tPt p n cp xs A) (hP : ∀ k, k < n → P (xs.getD k tPt.d)) (ea : a = (a' : Int)) (eb : b = (b' : Int)) (ha : a' < n) (hb : b' < n) (hz : 0 ≤ z) (hz1 : z < 1000) :
    HCalls Try.prog 94 #[.slice p n cp, .int .i64 a, .int .i64 b, .pointer (some ⟨sb, 0, none⟩), cmp] h (fun v h' => ∃ u w z' : Int, v = .tuple #[.int .i64 u, .int .i64 w] ∧ (u = a ∧ w = b ∨ u = b ∧ w = a) ∧ z ≤ z' ∧ z' ≤ z + 1 ∧ St h0 h' (A + (cA sb [.int .i64 z'] e + F))) := by
  subst ea eb
  have hl0 := o.len
  refine slices_order2CmpFunc_api_Point_call ?_
  rw [slices_order2CmpFunc_api_Point_b0_eq]
  have r := o.rd s
  refine ldPT (i' := b') r rfl hb (ldPT (i' := a') r rfl ha ?_)
  refine hX _ _ _ _ s.ext (hP _ (by omega)) (hP _ (by omega)) fun h5 e5 => ⟨_, rfl, ?_⟩; have s := s.grow e5
  refine condP (fun hc => ?_) (fun hc => ⟨_, _, z, rfl, .inl ⟨rfl, rfl⟩, by omega, by omega, s⟩)
  have s := s.to (B := cA sb [.int .i64 z] e + (A + F))
  refine ⟨_, s.cell 0, ⟨by omega, by omega⟩, s.wr (o := 0) rfl Nat.zero_lt_one fun h2 s => ?_⟩
  exact ⟨_, _, z + 1, rfl, .inr ⟨rfl, rfl⟩, by omega, by omega, s.to⟩
theorem medianPT {h0 h : Hp} {p : Option Addr} {n cp sb : Nat} {a b c z : Int} {e : TypeId} {xs : List Pt} {A F : Bag} {cmp : Value} {cf : Pt → Pt → Int} {P : Pt → Prop} (hX : CmpPT h0 cmp cf P) (ho : OrdP (fun x y : Pt => cf x y < 0)) (s : St h0 h (A + (cA sb [.int .i64 z] e + F))) (o : Sl tPt p n cp xs A) (hP : ∀ k, k < n → P (xs.getD k tPt.d)) (ha : 0 ≤ a ∧ a < n) (hb : 0 ≤ b ∧ b < n) (hc : 0 ≤ c ∧ c < n) (hz : 0 ≤ z) (hz1 : z < 900) :
    HCalls Try.prog 88 #[.slice p n cp, .int .i64 a, .int .i64 b, .int .i64 c, .pointer (some ⟨sb, 0, none⟩), cmp] h (fun v h' => ∃ u z' : Int, v = .int .i64 u ∧ (u = a ∨ u = b ∨ u = c) ∧ z ≤ z' ∧ z' ≤ z + 3 ∧ St h0 h' (A + (cA sb [.int .i64 z'] e + F))) := by
  refine slices_medianCmpFunc_api_Point_call ?_
  rw [slices_medianCmpFunc_api_Point_b0_eq]
  refine (order2PT hX ho s o hP (a' := a.toNat) (b' := b.toNat) (by omega) (by omega) (by omega) (by omega) hz (by omega)).mono fun v1 h1 ⟨u1, w1, z1, hv1, hu1, g1, g2, s⟩ => ⟨_, _, hv1, ?_⟩
  refine (order2PT hX ho s o hP (a' := w1.toNat) (b' := c.toNat) (by omega) (by omega) (by omega) (by omega) (by omega) (by omega)).mono fun v2 h2 ⟨u2, w2, z2, hv2, hu2, g3, g4, s⟩ => ⟨_, _, hv2, ?_⟩
  refine (order2PT hX ho s o hP (a' := u1.toNat) (b' := u2.toNat) (by omega) (by omega) (by omega) (by omega) (by omega) (by omega)).mono fun v3 h3 ⟨u3, w3, z3, hv3, hu3, g5, g6, s⟩ => ⟨_, _, hv3, ?_⟩
  exact ⟨_, z3, rfl, by omega, by omega, by omega, s⟩
theorem medianAdjacentPT {h0 h : Hp} {p : Option Addr} {n cp sb : Nat} {a z : Int} {e : TypeId} {xs : List Pt} {A F : Bag} {cmp : Value} {cf : Pt → Pt → Int} {P : Pt → Prop} (hX : CmpPT h0 cmp cf P) (ho : OrdP (fun x y : Pt => cf x y < 0)) (s : St h0 h (A + (cA sb [.int .i64 z] e + F))) (o : Sl tPt p n cp xs A) (hP : ∀ k, k < n → P (xs.getD k tPt.d)) (ha : 1 ≤ a ∧ a + 1 < n) (hn : n < 1000000) (hz : 0 ≤ z) (hz1 : z < 900) :
    HCalls Try.prog 87 #[.slice p n cp, .int .i64 a, .pointer (some ⟨sb, 0, none⟩), cmp] h (fun v h' => ∃ u z' : Int, v = .int .i64 u ∧ (a - 1 ≤ u ∧ u ≤ a + 1) ∧ z ≤ z' ∧ z' ≤ z + 3 ∧ St h0 h' (A + (cA sb [.int .i64 z'] e + F))) := by
  refine slices_medianAdjacentCmpFunc_api_Point_call ?_
  rw [slices_medianAdjacentCmpFunc_api_Point_b0_eq]
  refine ⟨⟨by omega, by omega⟩, ⟨by omega, by omega⟩, (medianPT hX ho s o hP (by omega) (by omega) (by omega) hz hz1).mono fun v1 h1 ⟨u, z', hv, hu, g1, g2, s⟩ => ⟨_, hv, _, z', rfl, by omega, g1, g2, s⟩⟩
theorem choosePivotPT {h0 h : Hp} {p : Option Addr} {n cp a' b' : Nat} {a b : Int} {xs : List Pt} {A F : Bag} {cmp : Value} {cf : Pt → Pt → Int} {P : Pt → Prop} (hX : CmpPT h0 cmp cf P) (ho : OrdP (fun x y : Pt => cf x y < 0)) (s : St h0 h (A + F)) (o : Sl tPt p n cp xs A) (hP : ∀ k, k < n → P (xs.getD k tPt.d)) (ea : a = (a' : Int)) (eb : b = (b' : Int)) (hab : a' < b') (hb : b' ≤ n) (hn : n < 1000000) :
    HCalls Try.prog 69 #[.slice p n cp, .int .i64 a, .int .i64 b, cmp] h (fun v h' => ∃ u hint : Int, v = .tuple #[.int .i64 u, .int .i64 hint] ∧ a ≤ u ∧ u < b ∧ St h0 h' (A + F)) := by
  subst ea eb
  refine slices_choosePivotCmpFunc_api_Point_call ?_
  rw [slices_choosePivotCmpFunc_api_Point_b0_eq]
  refine ⟨⟨by omega, by omega⟩, s.new (cs := [.int .i64 0]) fun sb h1 _ s => ?_⟩
  have s := s.to (B := A + (cA sb [.int .i64 0] 3 + F))
  have b2 : ∀ (u z : Int) (h' : Hp), a' ≤ u → u < b' → St h0 h' (A + (cA sb [.int .i64 z] 3 + F)) → slices_choosePivotCmpFunc_api_Point_b2 (some ⟨sb, 0, none⟩) u h' (fun v h' => ∃ u hint : Int, v = .tuple #[.int .i64 u, .int .i64 hint] ∧ (a' : Int) ≤ u ∧ u < b' ∧ St h0 h' (A + F)) := by
    intro u z h' h1 h2 s
    rw [slices_choosePivotCmpFunc_api_Point_b2_eq]
    have s := s.to (B := cA sb [.int .i64 z] 3 + (A + F))
    exact ⟨_, s.cell 0, condP (fun _ => ⟨_, _, rfl, h1, h2, s.drop⟩) fun _ => condP (fun _ => ⟨_, _, rfl, h1, h2, s.drop⟩) fun _ => ⟨_, _, rfl, h1, h2, s.drop⟩⟩
  have b1 : ∀ (u v w z : Int) (h' : Hp), (a' ≤ u ∧ u < b') → (a' ≤ v ∧ v < b') → (a' ≤ w ∧ w < b') → 0 ≤ z → z < 100 → St h0 h' (A + (cA sb [.int .i64 z] 3 + F)) → slices_choosePivotCmpFunc_api_Point_b1 p n cp cmp (some ⟨sb, 0, none⟩) u v w h' (fun v h' => ∃ u hint : Int, v = .tuple #[.int .i64 u, .int .i64 hint] ∧ (a' : Int) ≤ u ∧ u < b' ∧ St h0 h' (A + F)) := by
    intro u v w z h' h1 h2 h3 hz hz1 s
    rw [slices_choosePivotCmpFunc_api_Point_b1_eq]
    refine (medianPT hX ho s o hP (by omega) (by omega) (by omega) hz (by omega)).mono fun v1 h1 ⟨u, z', hv, hu, g1, g2, s⟩ => ⟨_, hv, ?_⟩
    exact b2 _ _ _ (by omega) (by omega) s
  refine quo_intro (by omega) (by omega) (by omega) ⟨⟨by omega, by omega⟩, ⟨by omega, by omega⟩, ?_⟩
  refine quo_intro (by omega) (by omega) (by omega) ⟨⟨by omega, by omega⟩, ⟨by omega, by omega⟩, ?_⟩
  refine quo_intro (by omega) (by omega) (by omega) ⟨⟨by omega, by omega⟩, ⟨by omega, by omega⟩, ?_⟩
  refine condP (fun h8 => ?_) (fun h8 => b2 _ _ _ (by omega) (by omega) s)
  refine condP (fun h50 => ?_) (fun h50 => b1 _ _ _ _ _ (by omega) (by omega) (by omega) (by omega) (by omega) s)
  refine (medianAdjacentPT hX ho s o hP (by omega) hn (by omega) (by omega)).mono fun v1 h1 ⟨u1, z1, hv, hu, g1, g2, s⟩ => ⟨_, hv, ?_⟩
  refine (medianAdjacentPT hX ho s o hP (by omega) hn (by omega) (by omega)).mono fun v1 h1 ⟨u2, z2, hv, hu, g3, g4, s⟩ => ⟨_, hv, ?_⟩
  refine (medianAdjacentPT hX ho s o hP (by omega) hn (by omega) (by omega)).mono fun v1 h1 ⟨u3, z3, hv, hu, g5, g6, s⟩ => ⟨_, hv, ?_⟩
  exact b1 _ _ _ _ _ (by omega) (by omega) (by omega) (by omega) (by omega) s
theorem breakPatternsPT {h0 h : Hp} {p : Option Addr} {n cp a' b' : Nat} {a b : Int} {xs : List Pt} {A F : Bag} {cmp : Value} (s : St h0 h (A + F)) (o : Sl tPt p n cp xs A) (ea : a = (a' : Int)) (eb : b = (b' : Int)) (hab : a' ≤ b') (hb : b' ≤ n) (hn : n < 1000000) :
    HCalls Try.prog 68 #[.slice p n cp, .int .i64 a, .int .i64 b, cmp] h (fun v h' => v = .tuple #[] ∧ OutPT h0 p n cp a' b' xs F h' fun _ => True) := by
  subst ea eb
  have hl0 := o.len
  refine slices_breakPatternsCmpFunc_api_Point_call ?_
  rw [slices_breakPatternsCmpFunc_api_Point_b0_eq]
  refine ⟨⟨by omega, by omega⟩, condP (fun h8 => ?_) (fun h8 => ⟨rfl, xs, A, o, s, .refl _, trivial⟩)⟩
  refine s.new (cs := [.int .u64 0]) fun rb h1 _ s => ?_
  refine s.wr (o := 0) rfl Nat.zero_lt_one fun h2 s => ?_
  rw [show ((b' : Int) - a') = ((b' - a' : Nat) : Int) by omega]
  refine (nextPow_ok (b' - a') (by omega) (by omega) h2).mono fun v h3 ⟨hv, hh⟩ => ⟨_, hv, ?_⟩
  subst hh
  have hm := blen_pow (x := b' - a') (by omega)
  generalize 2 ^ blen (b' - a') = m at *
  refine quo_intro (by omega) (by omega) (by omega) ⟨⟨by omega, by omega⟩, ⟨by omega, by omega⟩, ⟨by omega, by omega⟩, ?_⟩
  obtain ⟨q, hq⟩ : ∃ q : Nat, ((b' - a' : Nat) : Int) / 4 = q := ⟨(b' - a') / 4, by omega⟩
  rw [hq]
  refine ⟨fun i h1 => ∃ (i' : Nat) (z : Int), i.1 = i' ∧ a' ≤ i' ∧ ∃ ys A1, Sl tPt p n cp ys A1 ∧ St h0 h1 (cA rb [.int .u64 z] 118 + (A1 + F)) ∧ Swp tPt.d a' b' xs ys, fun i _ => (b' - i.1).toNat, ⟨a' + 2 * q - 1, _, by show (_ : Int) - 1 = _; omega, by omega, xs, A, o, s, .refl _⟩, ?_⟩
  rintro ⟨_, _⟩ h1 ⟨i', z, rfl, hi, ys, A1, o, s, w⟩
  dsimp only
  have hl := o.len
  rw [slices_breakPatternsCmpFunc_api_Point_b1_eq]
  refine quo_intro (by omega) (by omega) (by omega) ?_
  rw [hq]
  refine ⟨⟨by omega, by omega⟩, ⟨by omega, by omega⟩, ⟨by omega, by omega⟩, condP (fun hlt => ?_) (fun hlt => ⟨rfl, ys, A1, o, s.drop, w, trivial⟩)⟩
  refine (Next_ok s).mono fun v h3 ⟨y, hv, s⟩ => ⟨_, hv, mask_lt y m (by omega) (by omega) fun k hk => ⟨⟨by omega, by omega⟩, ?_⟩⟩
  have fin : ∀ u : Nat, u < b' - a' → slices_breakPatternsCmpFunc_api_Point_b2 p n cp a' ((b' - a' : Nat) : Int) (some ⟨rb, 0, none⟩) m i' u h3 (fun s' h' => (∃ (i' : Nat) (z : Int), s'.1 = i' ∧ a' ≤ i' ∧ ∃ ys A1, Sl tPt p n cp ys A1 ∧ St h0 h' (cA rb [.int .u64 z] 118 + (A1 + F)) ∧ Swp tPt.d a' b' xs ys) ∧ (b' - s'.1).toNat < (b' - (i' : Int)).toNat) (fun v h' => v = .tuple #[] ∧ OutPT h0 p n cp a' b' xs F h' fun _ => True) := by
    intro u hu
    rw [slices_breakPatternsCmpFunc_api_Point_b2_eq]
    have s := s.to (B := A1 + (cA rb [.int .u64 y] 118 + F))
    refine ⟨⟨by omega, by omega⟩, ⟨by omega, by omega⟩, swPT (u' := i') (v' := a' + u) o s rfl (by push_cast; rfl) (by omega) (by omega) fun h6 A6 o6 s6 => ?_⟩
    rw [slices_breakPatternsCmpFunc_api_Point_b3_eq]
    exact ⟨⟨by omega, by omega⟩, ⟨i' + 1, y, by push_cast; rfl, by omega, _, A6, o6, s6.to, .step w (by omega) (by omega) (by omega) (by omega) (by omega)⟩, by omega⟩
  refine condP (fun hk2 => ⟨⟨by omega, by omega⟩, ?_⟩) (fun hk2 => fin k (by omega))
  have := fin (k - (b' - a')) (by omega)
  rwa [show ((k - (b' - a') : Nat) : Int) = (k : Int) - ((b' - a' : Nat) : Int) by omega] at this
theorem order2OI {h0 h : Hp} {p : Option Addr} {n cp a' b' sb : Nat} {a b z : Int} {e : TypeId} {xs : List Int} {A F : Bag} {P : Int → Prop} (s : St h0 h (A + (cA sb [.int .i64 z] e + F))) (o : Sl (tI 3) p n cp xs A) (hP : ∀ k, k < n → P (xs.getD k (tI 3).d)) (ea : a = (a' : Int)) (eb : b = (b' : Int)) (ha : a' < n) (hb : b' < n) (hz : 0 ≤ z) (hz1 : z < 1000) :
    HCalls Try.prog 92 #[.slice p n cp, .int .i64 a, .int .i64 b, .pointer (some ⟨sb, 0, none⟩)] h (fun v h' => ∃ u w z' : Int, v = .tuple #[.int .i64 u, .int .i64 w] ∧ (u = a ∧ w = b ∨ u = b ∧ w = a) ∧ z ≤ z' ∧ z' ≤ z + 1 ∧ St h0 h' (A + (cA sb [.int .i64 z'] e + F))) := by
  subst ea eb
  have hl0 := o.len
  refine slices_order2Ordered_int_call ?_
  rw [slices_order2Ordered_int_b0_eq]
  have r := o.rd s
  refine ldOI (i' := b') r rfl hb (ldOI (i' := a') r rfl ha ?_)
  refine ⟨_, (Less_ok _ _ _).mono fun v9 h9 ⟨hh9, hv9⟩ => ⟨hv9, hh9⟩, ?_⟩
  refine condP (fun hc => ?_) (fun hc => ⟨_, _, z, rfl, .inl ⟨rfl, rfl⟩, by omega, by omega, s⟩)
  have s := s.to (B := cA sb [.int .i64 z] e + (A + F))
  refine ⟨_, s.cell 0, ⟨by omega, by omega⟩, s.wr (o := 0) rfl Nat.zero_lt_one fun h2 s => ?_⟩
  exact ⟨_, _, z + 1, rfl, .inr ⟨rfl, rfl⟩, by omega, by omega, s.to⟩
theorem medianOI {h0 h : Hp} {p : Option Addr} {n cp sb : Nat} {a b c z : Int} {e : TypeId} {xs : List Int} {A F : Bag} {P : Int → Prop} (s : St h0 h (A + (cA sb [.int .i64 z] e + F))) (o : Sl (tI 3) p n cp xs A) (hP : ∀ k, k < n → P (xs.getD k (tI 3).d)) (ha : 0 ≤ a ∧ a < n) (hb : 0 ≤ b ∧ b < n) (hc : 0 ≤ c ∧ c < n) (hz : 0 ≤ z) (hz1 : z < 900) :
    HCalls Try.prog 83 #[.slice p n cp, .int .i64 a, .int .i64 b, .int .i64 c, .pointer (some ⟨sb, 0, none⟩)] h (fun v h' => ∃ u z' : Int, v = .int .i64 u ∧ (u = a ∨ u = b ∨ u = c) ∧ z ≤ z' ∧ z' ≤ z + 3 ∧ St h0 h' (A + (cA sb [.int .i64 z'] e + F))) := by
  refine slices_medianOrdered_int_call ?_
  rw [slices_medianOrdered_int_b0_eq]
  refine (order2OI  s o hP (a' := a.toNat) (b' := b.toNat) (by omega) (by omega) (by omega) (by omega) hz (by omega)).mono fun v1 h1 ⟨u1, w1, z1, hv1, hu1, g1, g2, s⟩ => ⟨_, _, hv1, ?_⟩
  refine (order2OI  s o hP (a' := w1.toNat) (b' := c.toNat) (by omega) (by omega) (by omega) (by omega) (by omega) (by omega)).mono fun v2 h2 ⟨u2, w2, z2, hv2, hu2, g3, g4, s⟩ => ⟨_, _, hv2, ?_⟩
  refine (order2OI  s o hP (a' := u1.toNat) (b' := u2.toNat) (by omega) (by omega) (by omega) (by omega) (by omega) (by omega)).mono fun v3 h3 ⟨u3, w3, z3, hv3, hu3, g5, g6, s⟩ => ⟨_, _, hv3, ?_⟩
  exact ⟨_, z3, rfl, by omega, by omega, by omega, s⟩
theorem medianAdjacentOI {h0 h : Hp} {p : Option Addr} {n cp sb : Nat} {a z : Int} {e : TypeId} {xs : List Int} {A F : Bag} {P : Int → Prop} (s : St h0 h (A + (cA sb [.int .i64 z] e + F))) (o : Sl (tI 3) p n cp xs A) (hP : ∀ k, k < n → P (xs.getD k (tI 3).d)) (ha : 1 ≤ a ∧ a + 1 < n) (hn : n < 1000000) (hz : 0 ≤ z) (hz1 : z < 900) :
    HCalls Try.prog 82 #[.slice p n cp, .int .i64 a, .pointer (some ⟨sb, 0, none⟩)] h (fun v h' => ∃ u z' : Int, v = .int .i64 u ∧ (a - 1 ≤ u ∧ u ≤ a + 1) ∧ z ≤ z' ∧ z' ≤ z + 3 ∧ St h0 h' (A + (cA sb [.int .i64 z'] e + F))) := by
  refine slices_medianAdjacentOrdered_int_call ?_
  rw [slices_medianAdjacentOrdered_int_b0_eq]
  refine ⟨⟨by omega, by omega⟩, ⟨by omega, by omega⟩, (medianOI  s o hP (by omega) (by omega) (by omega) hz hz1).mono fun v1 h1 ⟨u, z', hv, hu, g1, g2, s⟩ => ⟨_, hv, _, z', rfl, by omega, g1, g2, s⟩⟩
theorem choosePivotOI {h0 h : Hp} {p : Option Addr} {n cp a' b' : Nat} {a b : Int} {xs : List Int} {A F : Bag} {P : Int → Prop} (s : St h0 h (A + F)) (o : Sl (tI 3) p n cp xs A) (hP : ∀ k, k < n → P (xs.getD k (tI 3).d)) (ea : a = (a' : Int)) (eb : b = (b' : Int)) (hab : a' < b') (hb : b' ≤ n) (hn : n < 1000000) :
    HCalls Try.prog 55 #[.slice p n cp, .int .i64 a, .int .i64 b] h (fun v h' => ∃ u hint : Int, v = .tuple #[.int .i64 u, .int .i64 hint] ∧ a ≤ u ∧ u < b ∧ St h0 h' (A + F)) := by
  subst ea eb
  refine slices_choosePivotOrdered_int_call ?_
  rw [slices_choosePivotOrdered_int_b0_eq]
  refine ⟨⟨by omega, by omega⟩, s.new (cs := [.int .i64 0]) fun sb h1 _ s => ?_⟩
  have s := s.to (B := A + (cA sb [.int .i64 0] 3 + F))
  have b2 : ∀ (u z : Int) (h' : Hp), a' ≤ u → u < b' → St h0 h' (A + (cA sb [.int .i64 z] 3 + F)) → slices_choosePivotOrdered_int_b2 (some ⟨sb, 0, none⟩) u h' (fun v h' => ∃ u hint : Int, v = .tuple #[.int .i64 u, .int .i64 hint] ∧ (a' : Int) ≤ u ∧ u < b' ∧ St h0 h' (A + F)) := by
    intro u z h' h1 h2 s
    rw [slices_choosePivotOrdered_int_b2_eq]
    have s := s.to (B := cA sb [.int .i64 z] 3 + (A + F))
    exact ⟨_, s.cell 0, condP (fun _ => ⟨_, _, rfl, h1, h2, s.drop⟩) fun _ => condP (fun _ => ⟨_, _, rfl, h1, h2, s.drop⟩) fun _ => ⟨_, _, rfl, h1, h2, s.drop⟩⟩
  have b1 : ∀ (u v w z : Int) (h' : Hp), (a' ≤ u ∧ u < b') → (a' ≤ v ∧ v < b') → (a' ≤ w ∧ w < b') → 0 ≤ z → z < 100 → St h0 h' (A + (cA sb [.int .i64 z] 3 + F)) → slices_choosePivotOrdered_int_b1 p n cp (some ⟨sb, 0, none⟩) u v w h' (fun v h' => ∃ u hint : Int, v = .tuple #[.int .i64 u, .int .i64 hint] ∧ (a' : Int) ≤ u ∧ u < b' ∧ St h0 h' (A + F)) := by
    intro u v w z h' h1 h2 h3 hz hz1 s
    rw [slices_choosePivotOrdered_int_b1_eq]
    refine (medianOI  s o hP (by omega) (by omega) (by omega) hz (by omega)).mono fun v1 h1 ⟨u, z', hv, hu, g1, g2, s⟩ => ⟨_, hv, ?_⟩
    exact b2 _ _ _ (by omega) (by omega) s
  refine quo_intro (by omega) (by omega) (by omega) ⟨⟨by omega, by omega⟩, ⟨by omega, by omega⟩, ?_⟩
  refine quo_intro (by omega) (by omega) (by omega) ⟨⟨by omega, by omega⟩, ⟨by omega, by omega⟩, ?_⟩
  refine quo_intro (by omega) (by omega) (by omega) ⟨⟨by omega, by omega⟩, ⟨by omega, by omega⟩, ?_⟩
  refine condP (fun h8 => ?_) (fun h8 => b2 _ _ _ (by omega) (by omega) s)
  refine condP (fun h50 => ?_) (fun h50 => b1 _ _ _ _ _ (by omega) (by omega) (by omega) (by omega) (by omega) s)
  refine (medianAdjacentOI  s o hP (by omega) hn (by omega) (by omega)).mono fun v1 h1 ⟨u1, z1, hv, hu, g1, g2, s⟩ => ⟨_, hv, ?_⟩
  refine (medianAdjacentOI  s o hP (by omega) hn (by omega) (by omega)).mono fun v1 h1 ⟨u2, z2, hv, hu, g3, g4, s⟩ => ⟨_, hv, ?_⟩
  refine (medianAdjacentOI  s o hP (by omega) hn (by omega) (by omega)).mono fun v1 h1 ⟨u3, z3, hv, hu, g5, g6, s⟩ => ⟨_, hv, ?_⟩
  exact b1 _ _ _ _ _ (by omega) (by omega) (by omega) (by omega) (by omega) s
theorem breakPatternsOI {h0 h : Hp} {p : Option Addr} {n cp a' b' : Nat} {a b : Int} {xs : List Int} {A F : Bag} (s : St h0 h (A + F)) (o : Sl (tI 3) p n cp xs A) (ea : a = (a' : Int)) (eb : b = (b' : Int)) (hab : a' ≤ b') (hb : b' ≤ n) (hn : n < 1000000) :
    HCalls Try.prog 54 #[.slice p n cp, .int .i64 a, .int .i64 b] h (fun v h' => v = .tuple #[] ∧ OutOI h0 p n cp a' b' xs F h' fun _ => True) := by
  subst ea eb
  have hl0 := o.len
  refine slices_breakPatternsOrdered_int_call ?_
  rw [slices_breakPatternsOrdered_int_b0_eq]
  refine ⟨⟨by omega, by omega⟩, condP (fun h8 => ?_) (fun h8 => ⟨rfl, xs, A, o, s, .refl _, trivial⟩)⟩
  refine s.new (cs := [.int .u64 0]) fun rb h1 _ s => ?_
  refine s.wr (o := 0) rfl Nat.zero_lt_one fun h2 s => ?_
  rw [show ((b' : Int) - a') = ((b' - a' : Nat) : Int) by omega]
  refine (nextPow_ok (b' - a') (by omega) (by omega) h2).mono fun v h3 ⟨hv, hh⟩ => ⟨_, hv, ?_⟩
  subst hh
  have hm := blen_pow (x := b' - a') (by omega)
  generalize 2 ^ blen (b' - a') = m at *
  refine quo_intro (by omega) (by omega) (by omega) ⟨⟨by omega, by omega⟩, ⟨by omega, by omega⟩, ⟨by omega, by omega⟩, ?_⟩
  obtain ⟨q, hq⟩ : ∃ q : Nat, ((b' - a' : Nat) : Int) / 4 = q := ⟨(b' - a') / 4, by omega⟩
  rw [hq]
  refine ⟨fun i h1 => ∃ (i' : Nat) (z : Int), i.1 = i' ∧ a' ≤ i' ∧ ∃ ys A1, Sl (tI 3) p n cp ys A1 ∧ St h0 h1 (cA rb [.int .u64 z] 118 + (A1 + F)) ∧ Swp (tI 3).d a' b' xs ys, fun i _ => (b' - i.1).toNat, ⟨a' + 2 * q - 1, _, by show (_ : Int) - 1 = _; omega, by omega, xs, A, o, s, .refl _⟩, ?_⟩
  rintro ⟨_, _⟩ h1 ⟨i', z, rfl, hi, ys, A1, o, s, w⟩
  dsimp only
  have hl := o.len
  rw [slices_breakPatternsOrdered_int_b1_eq]
  refine quo_intro (by omega) (by omega) (by omega) ?_
  rw [hq]
  refine ⟨⟨by omega, by omega⟩, ⟨by omega, by omega⟩, ⟨by omega, by omega⟩, condP (fun hlt => ?_) (fun hlt => ⟨rfl, ys, A1, o, s.drop, w, trivial⟩)⟩
  refine (Next_ok s).mono fun v h3 ⟨y, hv, s⟩ => ⟨_, hv, mask_lt y m (by omega) (by omega) fun k hk => ⟨⟨by omega, by omega⟩, ?_⟩⟩
  have fin : ∀ u : Nat, u < b' - a' → slices_breakPatternsOrdered_int_b2 p n cp a' ((b' - a' : Nat) : Int) (some ⟨rb, 0, none⟩) m i' u h3 (fun s' h' => (∃ (i' : Nat) (z : Int), s'.1 = i' ∧ a' ≤ i' ∧ ∃ ys A1, Sl (tI 3) p n cp ys A1 ∧ St h0 h' (cA rb [.int .u64 z] 118 + (A1 + F)) ∧ Swp (tI 3).d a' b' xs ys) ∧ (b' - s'.1).toNat < (b' - (i' : Int)).toNat) (fun v h' => v = .tuple #[] ∧ OutOI h0 p n cp a' b' xs F h' fun _ => True) := by
    intro u hu
    rw [slices_breakPatternsOrdered_int_b2_eq]
    have s := s.to (B := A1 + (cA rb [.int .u64 y] 118 + F))
    refine ⟨⟨by omega, by omega⟩, ⟨by omega, by omega⟩, swOI (u' := i') (v' := a' + u) o s rfl (by push_cast; rfl) (by omega) (by omega) fun h6 A6 o6 s6 => ?_⟩
    rw [slices_breakPatternsOrdered_int_b3_eq]
    exact ⟨⟨by omega, by omega⟩, ⟨i' + 1, y, by push_cast; rfl, by omega, _, A6, o6, s6.to, .step w (by omega) (by omega) (by omega) (by omega) (by omega)⟩, by omega⟩
  refine condP (fun hk2 => ⟨⟨by omega, by omega⟩, ?_⟩) (fun hk2 => fin k (by omega))
  have := fin (k - (b' - a')) (by omega)
  rwa [show ((k - (b' - a') : Nat) : Int) = (k : Int) - ((b' - a' : Nat) : Int) by omega] at this
end Go.Proofs.Ytbfejfejahoblaa

/- Sorting: partition, partitionEqual. -/
set_option maxRecDepth 100000
namespace Go.Proofs.Ytbfejfejahoblaa
open Go Go.Sx
abbrev PInvPT (cf : Pt → Pt → Int) (h0 : Hp) (p : Option Addr) (n cp a' b' : Nat) (xs : List Pt) (F : Bag) (i' J : Nat) (h : Hp) : Prop := a' + 1 ≤ i' ∧ i' ≤ b' ∧ a' + 1 ≤ J ∧ J ≤ b' ∧ OutPT h0 p n cp a' b' xs F h (fun ys => LoR tPt.d (fun x y : Pt => cf x y < 0) a' i' ys ∧ HiR tPt.d (fun x y : Pt => cf x y < 0) a' J b' ys)
abbrev PSt1PT (cf : Pt → Pt → Int) (h0 : Hp) (p : Option Addr) (n cp a' b' : Nat) (xs : List Pt) (F : Bag) (i' J : Nat) (h : Hp) : Prop := a' + 1 ≤ i' ∧ i' ≤ b' ∧ a' + 1 ≤ J ∧ J ≤ b' ∧ OutPT h0 p n cp a' b' xs F h (fun ys => LoR tPt.d (fun x y : Pt => cf x y < 0) a' i' ys ∧ HiR tPt.d (fun x y : Pt => cf x y < 0) a' J b' ys ∧ (i' < J → ¬ (fun x y : Pt => cf x y < 0) (ys.getD i' tPt.d) (ys.getD a' tPt.d)))
abbrev PSt2PT (cf : Pt → Pt → Int) (h0 : Hp) (p : Option Addr) (n cp a' b' : Nat) (xs : List Pt) (F : Bag) (i' J : Nat) (h : Hp) : Prop := a' + 1 ≤ i' ∧ i' ≤ b' ∧ a' + 1 ≤ J ∧ J ≤ b' ∧ OutPT h0 p n cp a' b' xs F h (fun ys => LoR tPt.d (fun x y : Pt => cf x y < 0) a' i' ys ∧ HiR tPt.d (fun x y : Pt => cf x y < 0) a' J b' ys ∧ (i' < J → ¬ (fun x y : Pt => cf x y < 0) (ys.getD i' tPt.d) (ys.getD a' tPt.d)) ∧ (i' < J → (fun x y : Pt => cf x y < 0) (ys.getD (J - 1) tPt.d) (ys.getD a' tPt.d)))
theorem partitionPT {h0 h : Hp} {p : Option Addr} {n cp a' b' pv' : Nat} {a b pv : Int} {xs : List Pt} {A F : Bag} {cmp : Value} {cf : Pt → Pt → Int} {P : Pt → Prop} (hX : CmpPT h0 cmp cf P) (ho : OrdP (fun x y : Pt => cf x y < 0)) (s : St h0 h (A + F)) (o : Sl tPt p n cp xs A) (hP : ∀ k, k < n → P (xs.getD k tPt.d)) (ea : a = (a' : Int)) (eb : b = (b' : Int)) (ev : pv = (pv' : Int)) (hpv : a' ≤ pv' ∧ pv' < b') (hb : b' ≤ n) (hn : n < 1000000) :
    HCalls Try.prog 73 #[.slice p n cp, .int .i64 a, .int .i64 b, .int .i64 pv, cmp] h (fun v h' => ∃ (m : Nat) (bb : Bool), v = .tuple #[.int .i64 (m : Int), .bool bb] ∧ a' ≤ m ∧ m < b' ∧ OutPT h0 p n cp a' b' xs F h' (PartR tPt.d (fun x y : Pt => cf x y < 0) a' b' m)) := by
  subst ea eb ev
  have hl0 := o.len
  refine slices_partitionCmpFunc_api_Point_call ?_
  generalize hR : (fun v h' => ∃ (m : Nat) (bb : Bool), v = Value.tuple #[.int .i64 (m : Int), .bool bb] ∧ a' ≤ m ∧ m < b' ∧ OutPT h0 p n cp a' b' xs F h' (PartR tPt.d (fun x y : Pt => cf x y < 0) a' b' m)) = R
  have hRi : ∀ (v : Value) (h' : Hp) (m : Nat) (bb : Bool), v = .tuple #[.int .i64 (m : Int), .bool bb] → a' ≤ m → m < b' → OutPT h0 p n cp a' b' xs F h' (PartR tPt.d (fun x y : Pt => cf x y < 0) a' b' m) → R v h' := by
    intro v h' m bb h1 h2 h3 h4; rw [← hR]; exact ⟨m, bb, h1, h2, h3, h4⟩
  clear hR
  have b13 : ∀ (i' J : Nat) (h' : Hp) (nx : Int × Int × Unit → Hp → Prop) , PSt2PT cf h0 p n cp a' b' xs F i' J h' → (∀ h', PInvPT cf h0 p n cp a' b' xs F (i' + 1) (J - 1) h' → i' < J → nx ((i' : Int) + 1, (J : Int) - 1 - 1, ()) h') → slices_partitionCmpFunc_api_Point_b13 p n cp a' cmp i' ((J : Int) - 1) h' nx R := by
    rintro i' J h' nx ⟨hi1, hi2, hJ1, hJ2, ys, A1, o, s, w, lo, hi, hst, hs2⟩ hnx 
    have hl := o.len
    rw [slices_partitionCmpFunc_api_Point_b13_eq]
    refine condP (fun hlt => ?_) (fun hlt => ?_)
    · rw [slices_partitionCmpFunc_api_Point_b14_eq]
      refine swPT (u' := J - 1) (v' := a') o s (by omega) rfl (by omega) (by omega) fun h6 A6 o6 s6 => ?_
      refine hRi _ _ (J - 1) false (by rw [show ((J - 1 : Nat) : Int) = (J : Int) - 1 by omega]) (by omega) (by omega) ⟨_, A6, o6, s6, .step w (by omega) (by omega) (by omega) (by omega) (by omega), part_end (by omega) hi2 (by omega) (by omega) lo hi⟩
    · refine swPT (u' := i') (v' := J - 1) o s rfl (by omega) (by omega) (by omega) fun h6 A6 o6 s6 => ⟨⟨by omega, by omega⟩, ⟨by omega, by omega⟩, ?_⟩
      have hs2 := hs2 (by omega)
      exact hnx _ ⟨by omega, by omega, by omega, by omega, _, A6, o6, s6, .step w (by omega) (by omega) (by omega) (by omega) (by omega), part_swap (by omega) (by omega) hJ2 (by omega) lo hi (hst (by omega)) hs2⟩ (by omega)
  have b10 : ∀ (i' J : Nat) (h' : Hp) (nx : Int × Int × Unit → Hp → Prop) , PSt1PT cf h0 p n cp a' b' xs F i' J h' → (∀ i2 J2 h', i' + 1 ≤ i2 → J2 + 1 ≤ J → PInvPT cf h0 p n cp a' b' xs F i2 J2 h' → nx ((i2 : Int), (J2 : Int) - 1, ()) h') → slices_partitionCmpFunc_api_Point_b10 p n cp a' cmp i' ((J : Int) - 1) h' nx R := by
    rintro i' J h' nx hI hnx 
    rw [slices_partitionCmpFunc_api_Point_b10_eq]
    refine ⟨fun j h2 => ∃ J2 : Nat, j.1 = (J2 : Int) - 1 ∧ J2 ≤ J ∧ PSt1PT cf h0 p n cp a' b' xs F i' J2 h2, fun j _ => (j.1 + 1).toNat, ⟨J, rfl, Nat.le_refl _, hI⟩, ?_⟩
    clear hI
    rintro ⟨_, _⟩ h2 ⟨J2, rfl, hJJ, hi1, hi2, hJ1, hJ2, ys, A1, o, s, w, lo, hi, hst⟩
    dsimp only
    have hl := o.len
    have hP := w.allN hl0 hP
    have ch := fun (h3 : Hp) (s : St h0 h3 (A1 + F)) (g : i' < J2 → (fun x y : Pt => cf x y < 0) (ys.getD (J2 - 1) tPt.d) (ys.getD a' tPt.d)) => b13 i' J2 h3 nx ⟨hi1, hi2, hJ1, hJ2, ys, A1, o, s, w, lo, hi, hst, g⟩ fun h' hp hq => by have := hnx (i' + 1) (J2 - 1) h' (by omega) (by omega) hp; rwa [show ((i' + 1 : Nat) : Int) = (i' : Int) + 1 by push_cast; rfl, show ((J2 - 1 : Nat) : Int) - 1 = (J2 : Int) - 1 - 1 by omega] at this
    rw [slices_partitionCmpFunc_api_Point_b11_eq]
    refine condP (fun hlt => ?_) (fun hlt => ch _ s fun h => by omega)
    have r := o.rd s
    refine ldPT (i' := J2 - 1) r (by omega) (by omega) (ldPT (i' := a') r rfl (by omega) ?_)
    refine hX _ _ _ _ s.ext (hP _ (by omega)) (hP _ (by omega)) fun h5 e5 => ⟨_, rfl, ?_⟩; have s := s.grow e5
    refine condN (fun hc => ?_) (fun hc => ch _ s fun _ => hc)
    rw [slices_partitionCmpFunc_api_Point_b12_eq]
    exact ⟨⟨by omega, by omega⟩, ⟨J2 - 1, by omega, by omega, hi1, hi2, by omega, by omega, ys, A1, o, s, w, lo, hi_next hi hc, fun h => hst (by omega)⟩, by omega⟩
  have b8 : ∀ (i' J : Nat) (h' : Hp) (nx : Int × Int × Unit → Hp → Prop) , PInvPT cf h0 p n cp a' b' xs F i' J h' → (∀ i2 J2 h', i' + 1 ≤ i2 → J2 + 1 ≤ J → PInvPT cf h0 p n cp a' b' xs F i2 J2 h' → nx ((i2 : Int), (J2 : Int) - 1, ()) h') → LoopVC (((i' : Int), ()) : Int × Unit) h' (fun (nx1 : Int × Unit → Hp → Prop) (s4 : Int × Unit) h36 => slices_partitionCmpFunc_api_Point_b8 s4.1 p n cp a' cmp ((J : Int) - 1) h36 nx nx1 R) := by
    rintro i' J h' nx hI hnx 
    refine ⟨fun i h2 => ∃ i2 : Nat, i.1 = (i2 : Int) ∧ i' ≤ i2 ∧ PInvPT cf h0 p n cp a' b' xs F i2 J h2, fun i _ => (b' - i.1).toNat, ⟨i', rfl, Nat.le_refl _, hI⟩, ?_⟩
    clear hI
    rintro ⟨_, _⟩ h2 ⟨i2, rfl, hii, hi1, hi2, hJ1, hJ2, ys, A1, o, s, w, lo, hi⟩
    dsimp only
    have hl := o.len
    have hP := w.allN hl0 hP
    have ch := fun (h3 : Hp) (s : St h0 h3 (A1 + F)) (g : i2 < J → ¬ (fun x y : Pt => cf x y < 0) (ys.getD i2 tPt.d) (ys.getD a' tPt.d)) => b10 i2 J h3 nx ⟨hi1, hi2, hJ1, hJ2, ys, A1, o, s, w, lo, hi, g⟩ fun i3 J3 h' g1 g2 g3 => hnx i3 J3 h' (by omega) (by omega) g3
    rw [slices_partitionCmpFunc_api_Point_b8_eq]
    refine condP (fun hlt => ?_) (fun hlt => ch _ s fun h => by omega)
    have r := o.rd s
    refine ldPT (i' := i2) r rfl (by omega) (ldPT (i' := a') r rfl (by omega) ?_)
    refine hX _ _ _ _ s.ext (hP _ (by omega)) (hP _ (by omega)) fun h5 e5 => ⟨_, rfl, ?_⟩; have s := s.grow e5
    refine condP (fun hc => ?_) (fun hc => ch _ s fun _ => hc)
    rw [slices_partitionCmpFunc_api_Point_b9_eq]
    exact ⟨⟨by omega, by omega⟩, ⟨i2 + 1, by push_cast; rfl, by omega, by omega, by omega, hJ1, hJ2, ys, A1, o, s, w, lo_next lo hc, hi⟩, by omega⟩
  have b7 : ∀ (i' J : Nat) (h' : Hp), PInvPT cf h0 p n cp a' b' xs F i' J h' → LoopVC ((i', (J : Int) - 1, ()) : Int × Int × Unit) h' (fun (nx0 : Int × Int × Unit → Hp → Prop) (s3 : Int × Int × Unit) h35 => slices_partitionCmpFunc_api_Point_b7 s3.1 s3.2.1 p n cp a' cmp h35 nx0 R) := by
    intro i' J h' hI
    refine ⟨fun ij h2 => ∃ i2 J2 : Nat, ij.1 = (i2 : Int) ∧ ij.2.1 = (J2 : Int) - 1 ∧ PInvPT cf h0 p n cp a' b' xs F i2 J2 h2, fun ij _ => (b' - ij.1).toNat + (ij.2.1 + 1).toNat, ⟨i', J, rfl, rfl, hI⟩, ?_⟩
    clear hI
    rintro ⟨_, _, _⟩ h2 ⟨i2, J2, rfl, rfl, hI⟩
    dsimp only
    rw [slices_partitionCmpFunc_api_Point_b7_eq]
    refine b8 i2 J2 h2 _ hI fun i3 J3 h3 g1 g2 hI3 => ⟨⟨i3, J3, rfl, rfl, hI3⟩, ?_⟩
    have := hI.1
    have := hI.2.1
    have := hI3.2.1
    dsimp only
    omega
  have b6 : ∀ (i' J : Nat) (h' : Hp) , PSt2PT cf h0 p n cp a' b' xs F i' J h' → slices_partitionCmpFunc_api_Point_b6 p n cp a' cmp i' ((J : Int) - 1) h' R := by
    rintro i' J h' ⟨hi1, hi2, hJ1, hJ2, ys, A1, o, s, w, lo, hi, hst, hs2⟩
    have hl := o.len
    rw [slices_partitionCmpFunc_api_Point_b6_eq]
    refine condP (fun hlt => ?_) (fun hlt => ?_)
    · refine swPT (u' := J - 1) (v' := a') o s (by omega) rfl (by omega) (by omega) fun h6 A6 o6 s6 => ?_
      refine hRi _ _ (J - 1) true (by rw [show ((J - 1 : Nat) : Int) = (J : Int) - 1 by omega]) (by omega) (by omega) ⟨_, A6, o6, s6, .step w (by omega) (by omega) (by omega) (by omega) (by omega), part_end (by omega) hi2 (by omega) (by omega) lo hi⟩
    · refine swPT (u' := i') (v' := J - 1) o s rfl (by omega) (by omega) (by omega) fun h6 A6 o6 s6 => ⟨⟨by omega, by omega⟩, ⟨by omega, by omega⟩, ?_⟩
      have hs2 := hs2 (by omega)
      have := b7 (i' + 1) (J - 1) h6 ⟨by omega, by omega, by omega, by omega, _, A6, o6, s6, .step w (by omega) (by omega) (by omega) (by omega) (by omega), part_swap (by omega) (by omega) hJ2 (by omega) lo hi (hst (by omega)) hs2⟩
      rwa [show ((i' + 1 : Nat) : Int) = (i' : Int) + 1 by push_cast; rfl, show ((J - 1 : Nat) : Int) - 1 = (J : Int) - 1 - 1 by omega] at this
  have b3 : ∀ (i' J : Nat) (h' : Hp) , PSt1PT cf h0 p n cp a' b' xs F i' J h' → slices_partitionCmpFunc_api_Point_b3 p n cp a' cmp i' ((J : Int) - 1) h' R := by
    rintro i' J h' hI 
    rw [slices_partitionCmpFunc_api_Point_b3_eq]
    refine ⟨fun j h2 => ∃ J2 : Nat, j.1 = (J2 : Int) - 1 ∧ J2 ≤ J ∧ PSt1PT cf h0 p n cp a' b' xs F i' J2 h2, fun j _ => (j.1 + 1).toNat, ⟨J, rfl, Nat.le_refl _, hI⟩, ?_⟩
    clear hI
    rintro ⟨_, _⟩ h2 ⟨J2, rfl, hJJ, hi1, hi2, hJ1, hJ2, ys, A1, o, s, w, lo, hi, hst⟩
    dsimp only
    have hl := o.len
    have hP := w.allN hl0 hP
    have ch := fun (h3 : Hp) (s : St h0 h3 (A1 + F)) (g : i' < J2 → (fun x y : Pt => cf x y < 0) (ys.getD (J2 - 1) tPt.d) (ys.getD a' tPt.d)) => b6 i' J2 h3  ⟨hi1, hi2, hJ1, hJ2, ys, A1, o, s, w, lo, hi, hst, g⟩ 
    rw [slices_partitionCmpFunc_api_Point_b4_eq]
    refine condP (fun hlt => ?_) (fun hlt => ch _ s fun h => by omega)
    have r := o.rd s
    refine ldPT (i' := J2 - 1) r (by omega) (by omega) (ldPT (i' := a') r rfl (by omega) ?_)
    refine hX _ _ _ _ s.ext (hP _ (by omega)) (hP _ (by omega)) fun h5 e5 => ⟨_, rfl, ?_⟩; have s := s.grow e5
    refine condN (fun hc => ?_) (fun hc => ch _ s fun _ => hc)
    rw [slices_partitionCmpFunc_api_Point_b5_eq]
    exact ⟨⟨by omega, by omega⟩, ⟨J2 - 1, by omega, by omega, hi1, hi2, by omega, by omega, ys, A1, o, s, w, lo, hi_next hi hc, fun h => hst (by omega)⟩, by omega⟩
  have b1 : ∀ (i' J : Nat) (h' : Hp) , PInvPT cf h0 p n cp a' b' xs F i' J h' → LoopVC (((i' : Int), ()) : Int × Unit) h' (fun (nx1 : Int × Unit → Hp → Prop) (s4 : Int × Unit) h36 => slices_partitionCmpFunc_api_Point_b1 s4.1 p n cp a' cmp ((J : Int) - 1) h36 nx1 R) := by
    rintro i' J h' hI 
    refine ⟨fun i h2 => ∃ i2 : Nat, i.1 = (i2 : Int) ∧ i' ≤ i2 ∧ PInvPT cf h0 p n cp a' b' xs F i2 J h2, fun i _ => (b' - i.1).toNat, ⟨i', rfl, Nat.le_refl _, hI⟩, ?_⟩
    clear hI
    rintro ⟨_, _⟩ h2 ⟨i2, rfl, hii, hi1, hi2, hJ1, hJ2, ys, A1, o, s, w, lo, hi⟩
    dsimp only
    have hl := o.len
    have hP := w.allN hl0 hP
    have ch := fun (h3 : Hp) (s : St h0 h3 (A1 + F)) (g : i2 < J → ¬ (fun x y : Pt => cf x y < 0) (ys.getD i2 tPt.d) (ys.getD a' tPt.d)) => b3 i2 J h3  ⟨hi1, hi2, hJ1, hJ2, ys, A1, o, s, w, lo, hi, g⟩ 
    rw [slices_partitionCmpFunc_api_Point_b1_eq]
    refine condP (fun hlt => ?_) (fun hlt => ch _ s fun h => by omega)
    have r := o.rd s
    refine ldPT (i' := i2) r rfl (by omega) (ldPT (i' := a') r rfl (by omega) ?_)
    refine hX _ _ _ _ s.ext (hP _ (by omega)) (hP _ (by omega)) fun h5 e5 => ⟨_, rfl, ?_⟩; have s := s.grow e5
    refine condP (fun hc => ?_) (fun hc => ch _ s fun _ => hc)
    rw [slices_partitionCmpFunc_api_Point_b2_eq]
    exact ⟨⟨by omega, by omega⟩, ⟨i2 + 1, by push_cast; rfl, by omega, by omega, by omega, hJ1, hJ2, ys, A1, o, s, w, lo_next lo hc, hi⟩, by omega⟩
  rw [slices_partitionCmpFunc_api_Point_b0_eq]
  refine swPT (u' := a') (v' := pv') o s rfl rfl (by omega) (by omega) fun h6 A6 o6 s6 => ⟨⟨by omega, by omega⟩, ⟨by omega, by omega⟩, ?_⟩
  have := b1 (a' + 1) b' h6 ⟨Nat.le_refl _, by omega, by omega, Nat.le_refl _, _, A6, o6, s6, .one (Nat.le_refl _) (by omega) (by omega) (by omega) (by omega), fun k h1 h2 => by omega, fun k h1 h2 => by omega⟩
  rwa [show ((a' + 1 : Nat) : Int) = (a' : Int) + 1 by push_cast; rfl] at this
abbrev PInvOI (cf : Unit) (h0 : Hp) (p : Option Addr) (n cp a' b' : Nat) (xs : List Int) (F : Bag) (i' J : Nat) (h : Hp) : Prop := a' + 1 ≤ i' ∧ i' ≤ b' ∧ a' + 1 ≤ J ∧ J ≤ b' ∧ OutOI h0 p n cp a' b' xs F h (fun ys => LoR (tI 3).d (fun x y : Int => x < y) a' i' ys ∧ HiR (tI 3).d (fun x y : Int => x < y) a' J b' ys)
abbrev PSt1OI (cf : Unit) (h0 : Hp) (p : Option Addr) (n cp a' b' : Nat) (xs : List Int) (F : Bag) (i' J : Nat) (h : Hp) : Prop := a' + 1 ≤ i' ∧ i' ≤ b' ∧ a' + 1 ≤ J ∧ J ≤ b' ∧ OutOI h0 p n cp a' b' xs F h (fun ys => LoR (tI 3).d (fun x y : Int => x < y) a' i' ys ∧ HiR (tI 3).d (fun x y : Int => x < y) a' J b' ys ∧ (i' < J → ¬ (fun x y : Int => x < y) (ys.getD i' (tI 3).d) (ys.getD a' (tI 3).d)))
abbrev PSt2OI (cf : Unit) (h0 : Hp) (p : Option Addr) (n cp a' b' : Nat) (xs : List Int) (F : Bag) (i' J : Nat) (h : Hp) : Prop := a' + 1 ≤ i' ∧ i' ≤ b' ∧ a' + 1 ≤ J ∧ J ≤ b' ∧ OutOI h0 p n cp a' b' xs F h (fun ys => LoR (tI 3).d (fun x y : Int => x < y) a' i' ys ∧ HiR (tI 3).d (fun x y : Int => x < y) a' J b' ys ∧ (i' < J → ¬ (fun x y : Int => x < y) (ys.getD i' (tI 3).d) (ys.getD a' (tI 3).d)) ∧ (i' < J → (fun x y : Int => x < y) (ys.getD (J - 1) (tI 3).d) (ys.getD a' (tI 3).d)))
theorem partitionOI {h0 h : Hp} {p : Option Addr} {n cp a' b' pv' : Nat} {a b pv : Int} {xs : List Int} {A F : Bag} {P : Int → Prop} (s : St h0 h (A + F)) (o : Sl (tI 3) p n cp xs A) (hP : ∀ k, k < n → P (xs.getD k (tI 3).d)) (ea : a = (a' : Int)) (eb : b = (b' : Int)) (ev : pv = (pv' : Int)) (hpv : a' ≤ pv' ∧ pv' < b') (hb : b' ≤ n) (hn : n < 1000000) :
    HCalls Try.prog 60 #[.slice p n cp, .int .i64 a, .int .i64 b, .int .i64 pv] h (fun v h' => ∃ (m : Nat) (bb : Bool), v = .tuple #[.int .i64 (m : Int), .bool bb] ∧ a' ≤ m ∧ m < b' ∧ OutOI h0 p n cp a' b' xs F h' (PartR (tI 3).d (fun x y : Int => x < y) a' b' m)) := by
  subst ea eb ev
  have hl0 := o.len
  refine slices_partitionOrdered_int_call ?_
  generalize hR : (fun v h' => ∃ (m : Nat) (bb : Bool), v = Value.tuple #[.int .i64 (m : Int), .bool bb] ∧ a' ≤ m ∧ m < b' ∧ OutOI h0 p n cp a' b' xs F h' (PartR (tI 3).d (fun x y : Int => x < y) a' b' m)) = R
  have hRi : ∀ (v : Value) (h' : Hp) (m : Nat) (bb : Bool), v = .tuple #[.int .i64 (m : Int), .bool bb] → a' ≤ m → m < b' → OutOI h0 p n cp a' b' xs F h' (PartR (tI 3).d (fun x y : Int => x < y) a' b' m) → R v h' := by
    intro v h' m bb h1 h2 h3 h4; rw [← hR]; exact ⟨m, bb, h1, h2, h3, h4⟩
  clear hR
  have b13 : ∀ (i' J : Nat) (h' : Hp) (nx : Int × Int × Unit → Hp → Prop) , PSt2OI () h0 p n cp a' b' xs F i' J h' → (∀ h', PInvOI () h0 p n cp a' b' xs F (i' + 1) (J - 1) h' → i' < J → nx ((i' : Int) + 1, (J : Int) - 1 - 1, ()) h') → slices_partitionOrdered_int_b13 p n cp a' i' ((J : Int) - 1) h' nx R := by
    rintro i' J h' nx ⟨hi1, hi2, hJ1, hJ2, ys, A1, o, s, w, lo, hi, hst, hs2⟩ hnx 
    have hl := o.len
    rw [slices_partitionOrdered_int_b13_eq]
    refine condP (fun hlt => ?_) (fun hlt => ?_)
    · rw [slices_partitionOrdered_int_b14_eq]
      refine swOI (u' := J - 1) (v' := a') o s (by omega) rfl (by omega) (by omega) fun h6 A6 o6 s6 => ?_
      refine hRi _ _ (J - 1) false (by rw [show ((J - 1 : Nat) : Int) = (J : Int) - 1 by omega]) (by omega) (by omega) ⟨_, A6, o6, s6, .step w (by omega) (by omega) (by omega) (by omega) (by omega), part_end (by omega) hi2 (by omega) (by omega) lo hi⟩
    · refine swOI (u' := i') (v' := J - 1) o s rfl (by omega) (by omega) (by omega) fun h6 A6 o6 s6 => ⟨⟨by omega, by omega⟩, ⟨by omega, by omega⟩, ?_⟩
      have hs2 := hs2 (by omega)
      exact hnx _ ⟨by omega, by omega, by omega, by omega, _, A6, o6, s6, .step w (by omega) (by omega) (by omega) (by omega) (by omega), part_swap (by omega) (by omega) hJ2 (by omega) lo hi (hst (by omega)) hs2⟩ (by omega)
  have b10 : ∀ (i' J : Nat) (h' : Hp) (nx : Int × Int × Unit → Hp → Prop) , PSt1OI () h0 p n cp a' b' xs F i' J h' → (∀ i2 J2 h', i' + 1 ≤ i2 → J2 + 1 ≤ J → PInvOI () h0 p n cp a' b' xs F i2 J2 h' → nx ((i2 : Int), (J2 : Int) - 1, ()) h') → slices_partitionOrdered_int_b10 p n cp a' i' ((J : Int) - 1) h' nx R := by
    rintro i' J h' nx hI hnx 
    rw [slices_partitionOrdered_int_b10_eq]
    refine ⟨fun j h2 => ∃ J2 : Nat, j.1 = (J2 : Int) - 1 ∧ J2 ≤ J ∧ PSt1OI () h0 p n cp a' b' xs F i' J2 h2, fun j _ => (j.1 + 1).toNat, ⟨J, rfl, Nat.le_refl _, hI⟩, ?_⟩
    clear hI
    rintro ⟨_, _⟩ h2 ⟨J2, rfl, hJJ, hi1, hi2, hJ1, hJ2, ys, A1, o, s, w, lo, hi, hst⟩
    dsimp only
    have hl := o.len
    have hP := w.allN hl0 hP
    have ch := fun (h3 : Hp) (s : St h0 h3 (A1 + F)) (g : i' < J2 → (fun x y : Int => x < y) (ys.getD (J2 - 1) (tI 3).d) (ys.getD a' (tI 3).d)) => b13 i' J2 h3 nx ⟨hi1, hi2, hJ1, hJ2, ys, A1, o, s, w, lo, hi, hst, g⟩ fun h' hp hq => by have := hnx (i' + 1) (J2 - 1) h' (by omega) (by omega) hp; rwa [show ((i' + 1 : Nat) : Int) = (i' : Int) + 1 by push_cast; rfl, show ((J2 - 1 : Nat) : Int) - 1 = (J2 : Int) - 1 - 1 by omega] at this
    rw [slices_partitionOrdered_int_b11_eq]
    refine condP (fun hlt => ?_) (fun hlt => ch _ s fun h => by omega)
    have r := o.rd s
    refine ldOI (i' := J2 - 1) r (by omega) (by omega) (ldOI (i' := a') r rfl (by omega) ?_)
    refine ⟨_, (Less_ok _ _ _).mono fun v9 h9 ⟨hh9, hv9⟩ => ⟨hv9, hh9⟩, ?_⟩
    refine condN (fun hc => ?_) (fun hc => ch _ s fun _ => hc)
    rw [slices_partitionOrdered_int_b12_eq]
    exact ⟨⟨by omega, by omega⟩, ⟨J2 - 1, by omega, by omega, hi1, hi2, by omega, by omega, ys, A1, o, s, w, lo, hi_next hi hc, fun h => hst (by omega)⟩, by omega⟩
  have b8 : ∀ (i' J : Nat) (h' : Hp) (nx : Int × Int × Unit → Hp → Prop) , PInvOI () h0 p n cp a' b' xs F i' J h' → (∀ i2 J2 h', i' + 1 ≤ i2 → J2 + 1 ≤ J → PInvOI () h0 p n cp a' b' xs F i2 J2 h' → nx ((i2 : Int), (J2 : Int) - 1, ()) h') → LoopVC (((i' : Int), ()) : Int × Unit) h' (fun (nx1 : Int × Unit → Hp → Prop) (s4 : Int × Unit) h36 => slices_partitionOrdered_int_b8 s4.1 p n cp a' ((J : Int) - 1) h36 nx nx1 R) := by
    rintro i' J h' nx hI hnx 
    refine ⟨fun i h2 => ∃ i2 : Nat, i.1 = (i2 : Int) ∧ i' ≤ i2 ∧ PInvOI () h0 p n cp a' b' xs F i2 J h2, fun i _ => (b' - i.1).toNat, ⟨i', rfl, Nat.le_refl _, hI⟩, ?_⟩
    clear hI
    rintro ⟨_, _⟩ h2 ⟨i2, rfl, hii, hi1, hi2, hJ1, hJ2, ys, A1, o, s, w, lo, hi⟩
    dsimp only
    have hl := o.len
    have hP := w.allN hl0 hP
    have ch := fun (h3 : Hp) (s : St h0 h3 (A1 + F)) (g : i2 < J → ¬ (fun x y : Int => x < y) (ys.getD i2 (tI 3).d) (ys.getD a' (tI 3).d)) => b10 i2 J h3 nx ⟨hi1, hi2, hJ1, hJ2, ys, A1, o, s, w, lo, hi, g⟩ fun i3 J3 h' g1 g2 g3 => hnx i3 J3 h' (by omega) (by omega) g3
    rw [slices_partitionOrdered_int_b8_eq]
    refine condP (fun hlt => ?_) (fun hlt => ch _ s fun h => by omega)
    have r := o.rd s
    refine ldOI (i' := i2) r rfl (by omega) (ldOI (i' := a') r rfl (by omega) ?_)
    refine ⟨_, (Less_ok _ _ _).mono fun v9 h9 ⟨hh9, hv9⟩ => ⟨hv9, hh9⟩, ?_⟩
    refine condP (fun hc => ?_) (fun hc => ch _ s fun _ => hc)
    rw [slices_partitionOrdered_int_b9_eq]
    exact ⟨⟨by omega, by omega⟩, ⟨i2 + 1, by push_cast; rfl, by omega, by omega, by omega, hJ1, hJ2, ys, A1, o, s, w, lo_next lo hc, hi⟩, by omega⟩
  have b7 : ∀ (i' J : Nat) (h' : Hp), PInvOI () h0 p n cp a' b' xs F i' J h' → LoopVC ((i', (J : Int) - 1, ()) : Int × Int × Unit) h' (fun (nx0 : Int × Int × Unit → Hp → Prop) (s3 : Int × Int × Unit) h35 => slices_partitionOrdered_int_b7 s3.1 s3.2.1 p n cp a' h35 nx0 R) := by
    intro i' J h' hI
    refine ⟨fun ij h2 => ∃ i2 J2 : Nat, ij.1 = (i2 : Int) ∧ ij.2.1 = (J2 : Int) - 1 ∧ PInvOI () h0 p n cp a' b' xs F i2 J2 h2, fun ij _ => (b' - ij.1).toNat + (ij.2.1 + 1).toNat, ⟨i', J, rfl, rfl, hI⟩, ?_⟩
    clear hI
    rintro ⟨_, _, _⟩ h2 ⟨i2, J2, rfl, rfl, hI⟩
    dsimp only
    rw [slices_partitionOrdered_int_b7_eq]
    refine b8 i2 J2 h2 _ hI fun i3 J3 h3 g1 g2 hI3 => ⟨⟨i3, J3, rfl, rfl, hI3⟩, ?_⟩
    have := hI.1
    have := hI.2.1
    have := hI3.2.1
    dsimp only
    omega
  have b6 : ∀ (i' J : Nat) (h' : Hp) , PSt2OI () h0 p n cp a' b' xs F i' J h' → slices_partitionOrdered_int_b6 p n cp a' i' ((J : Int) - 1) h' R := by
    rintro i' J h' ⟨hi1, hi2, hJ1, hJ2, ys, A1, o, s, w, lo, hi, hst, hs2⟩
    have hl := o.len
    rw [slices_partitionOrdered_int_b6_eq]
    refine condP (fun hlt => ?_) (fun hlt => ?_)
    · refine swOI (u' := J - 1) (v' := a') o s (by omega) rfl (by omega) (by omega) fun h6 A6 o6 s6 => ?_
      refine hRi _ _ (J - 1) true (by rw [show ((J - 1 : Nat) : Int) = (J : Int) - 1 by omega]) (by omega) (by omega) ⟨_, A6, o6, s6, .step w (by omega) (by omega) (by omega) (by omega) (by omega), part_end (by omega) hi2 (by omega) (by omega) lo hi⟩
    · refine swOI (u' := i') (v' := J - 1) o s rfl (by omega) (by omega) (by omega) fun h6 A6 o6 s6 => ⟨⟨by omega, by omega⟩, ⟨by omega, by omega⟩, ?_⟩
      have hs2 := hs2 (by omega)
      have := b7 (i' + 1) (J - 1) h6 ⟨by omega, by omega, by omega, by omega, _, A6, o6, s6, .step w (by omega) (by omega) (by omega) (by omega) (by omega), part_swap (by omega) (by omega) hJ2 (by omega) lo hi (hst (by omega)) hs2⟩
      rwa [show ((i' + 1 : Nat) : Int) = (i' : Int) + 1 by push_cast; rfl, show ((J - 1 : Nat) : Int) - 1 = (J : Int) - 1 - 1 by omega] at this
  have b3 : ∀ (i' J : Nat) (h' : Hp) , PSt1OI () h0 p n cp a' b' xs F i' J h' → slices_partitionOrdered_int_b3 p n cp a' i' ((J : Int) - 1) h' R := by
    rintro i' J h' hI 
    rw [slices_partitionOrdered_int_b3_eq]
    refine ⟨fun j h2 => ∃ J2 : Nat, j.1 = (J2 : Int) - 1 ∧ J2 ≤ J ∧ PSt1OI () h0 p n cp a' b' xs F i' J2 h2, fun j _ => (j.1 + 1).toNat, ⟨J, rfl, Nat.le_refl _, hI⟩, ?_⟩
    clear hI
    rintro ⟨_, _⟩ h2 ⟨J2, rfl, hJJ, hi1, hi2, hJ1, hJ2, ys, A1, o, s, w, lo, hi, hst⟩
    dsimp only
    have hl := o.len
    have hP := w.allN hl0 hP
    have ch := fun (h3 : Hp) (s : St h0 h3 (A1 + F)) (g : i' < J2 → (fun x y : Int => x < y) (ys.getD (J2 - 1) (tI 3).d) (ys.getD a' (tI 3).d)) => b6 i' J2 h3  ⟨hi1, hi2, hJ1, hJ2, ys, A1, o, s, w, lo, hi, hst, g⟩ 
    rw [slices_partitionOrdered_int_b4_eq]
    refine condP (fun hlt => ?_) (fun hlt => ch _ s fun h => by omega)
    have r := o.rd s
    refine ldOI (i' := J2 - 1) r (by omega) (by omega) (ldOI (i' := a') r rfl (by omega) ?_)
    refine ⟨_, (Less_ok _ _ _).mono fun v9 h9 ⟨hh9, hv9⟩ => ⟨hv9, hh9⟩, ?_⟩
    refine condN (fun hc => ?_) (fun hc => ch _ s fun _ => hc)
    rw [slices_partitionOrdered_int_b5_eq]
    exact ⟨⟨by omega, by omega⟩, ⟨J2 - 1, by omega, by omega, hi1, hi2, by omega, by omega, ys, A1, o, s, w, lo, hi_next hi hc, fun h => hst (by omega)⟩, by omega⟩
  have b1 : ∀ (i' J : Nat) (h' : Hp) , PInvOI () h0 p n cp a' b' xs F i' J h' → LoopVC (((i' : Int), ()) : Int × Unit) h' (fun (nx1 : Int × Unit → Hp → Prop) (s4 : Int × Unit) h36 => slices_partitionOrdered_int_b1 s4.1 p n cp a' ((J : Int) - 1) h36 nx1 R) := by
    rintro i' J h' hI 
    refine ⟨fun i h2 => ∃ i2 : Nat, i.1 = (i2 : Int) ∧ i' ≤ i2 ∧ PInvOI () h0 p n cp a' b' xs F i2 J h2, fun i _ => (b' - i.1).toNat, ⟨i', rfl, Nat.le_refl _, hI⟩, ?_⟩
    clear hI
    rintro ⟨_, _⟩ h2 ⟨i2, rfl, hii, hi1, hi2, hJ1, hJ2, ys, A1, o, s, w, lo, hi⟩
    dsimp only
    have hl := o.len
    have hP := w.allN hl0 hP
    have ch := fun (h3 : Hp) (s : St h0 h3 (A1 + F)) (g : i2 < J → ¬ (fun x y : Int => x < y) (ys.getD i2 (tI 3).d) (ys.getD a' (tI 3).d)) => b3 i2 J h3  ⟨hi1, hi2, hJ1, hJ2, ys, A1, o, s, w, lo, hi, g⟩ 
    rw [slices_partitionOrdered_int_b1_eq]
    refine condP (fun hlt => ?_) (fun hlt => ch _ s fun h => by omega)
    have r := o.rd s
    refine ldOI (i' := i2) r rfl (by omega) (ldOI (i' := a') r rfl (by omega) ?_)
    refine ⟨_, (Less_ok _ _ _).mono fun v9 h9 ⟨hh9, hv9⟩ => ⟨hv9, hh9⟩, ?_⟩
    refine condP (fun hc => ?_) (fun hc => ch _ s fun _ => hc)
    rw [slices_partitionOrdered_int_b2_eq]
    exact ⟨⟨by omega, by omega⟩, ⟨i2 + 1, by push_cast; rfl, by omega, by omega, by omega, hJ1, hJ2, ys, A1, o, s, w, lo_next lo hc, hi⟩, by omega⟩
  rw [slices_partitionOrdered_int_b0_eq]
  refine swOI (u' := a') (v' := pv') o s rfl rfl (by omega) (by omega) fun h6 A6 o6 s6 => ⟨⟨by omega, by omega⟩, ⟨by omega, by omega⟩, ?_⟩
  have := b1 (a' + 1) b' h6 ⟨Nat.le_refl _, by omega, by omega, Nat.le_refl _, _, A6, o6, s6, .one (Nat.le_refl _) (by omega) (by omega) (by omega) (by omega), fun k h1 h2 => by omega, fun k h1 h2 => by omega⟩
  rwa [show ((a' + 1 : Nat) : Int) = (a' : Int) + 1 by push_cast; rfl] at this
end Go.Proofs.Ytbfejfejahoblaa

/- Sorting: partitionEqual, partialInsertionSort. -/
set_option maxRecDepth 100000
namespace Go.Proofs.Ytbfejfejahoblaa
open Go Go.Sx
abbrev EInvPT (cf : Pt → Pt → Int) (h0 : Hp) (p : Option Addr) (n cp a' b' : Nat) (x : Pt) (xs : List Pt) (F : Bag) (i' J : Nat) (h : Hp) : Prop := a' + 1 ≤ i' ∧ i' ≤ b' ∧ a' + 1 ≤ J ∧ J ≤ b' ∧ OutPT h0 p n cp a' b' xs F h (fun ys => EqR tPt.d (fun x y : Pt => cf x y < 0) x a' i' ys)
abbrev EStPT (cf : Pt → Pt → Int) (h0 : Hp) (p : Option Addr) (n cp a' b' : Nat) (x : Pt) (xs : List Pt) (F : Bag) (i' J : Nat) (h : Hp) : Prop := a' + 1 ≤ i' ∧ i' ≤ b' ∧ a' + 1 ≤ J ∧ J ≤ b' ∧ OutPT h0 p n cp a' b' xs F h (fun ys => EqR tPt.d (fun x y : Pt => cf x y < 0) x a' i' ys ∧ (i' < J → ¬ (fun x y : Pt => cf x y < 0) (ys.getD a' tPt.d) (ys.getD (J - 1) tPt.d)))
theorem partitionEqualPT {h0 h : Hp} {p : Option Addr} {n cp a' b' pv' : Nat} {a b pv : Int} {xs : List Pt} {A F : Bag} {cmp : Value} {cf : Pt → Pt → Int} {P : Pt → Prop} (hX : CmpPT h0 cmp cf P) (ho : OrdP (fun x y : Pt => cf x y < 0)) (s : St h0 h (A + F)) (o : Sl tPt p n cp xs A) (hP : ∀ k, k < n → P (xs.getD k tPt.d)) (ea : a = (a' : Int)) (eb : b = (b' : Int)) (ev : pv = (pv' : Int)) (hpv : a' ≤ pv' ∧ pv' < b') (hb : b' ≤ n) (hn : n < 1000000) :
    HCalls Try.prog 72 #[.slice p n cp, .int .i64 a, .int .i64 b, .int .i64 pv, cmp] h (fun v h' => ∃ m : Nat, v = .int .i64 (m : Int) ∧ a' + 1 ≤ m ∧ m ≤ b' ∧ OutPT h0 p n cp a' b' xs F h' (EqR tPt.d (fun x y : Pt => cf x y < 0) (xs.getD pv' tPt.d) a' m)) := by
  subst ea eb ev
  have hl0 := o.len
  refine slices_partitionEqualCmpFunc_api_Point_call ?_
  generalize hx : xs.getD pv' tPt.d = x
  generalize hR : (fun v h' => ∃ m : Nat, v = Value.int .i64 (m : Int) ∧ a' + 1 ≤ m ∧ m ≤ b' ∧ OutPT h0 p n cp a' b' xs F h' (EqR tPt.d (fun x y : Pt => cf x y < 0) x a' m)) = R
  have hRi : ∀ (v : Value) (h' : Hp) (m : Nat), v = .int .i64 (m : Int) → a' + 1 ≤ m → m ≤ b' → OutPT h0 p n cp a' b' xs F h' (EqR tPt.d (fun x y : Pt => cf x y < 0) x a' m) → R v h' := by
    intro v h' m h1 h2 h3 h4; rw [← hR]; exact ⟨m, h1, h2, h3, h4⟩
  clear hR
  have b7 : ∀ (i' J : Nat) (h' : Hp) (nx : Int × Int × Unit → Hp → Prop), EStPT cf h0 p n cp a' b' x xs F i' J h' → (∀ h', EInvPT cf h0 p n cp a' b' x xs F (i' + 1) (J - 1) h' → i' < J → nx ((i' : Int) + 1, (J : Int) - 1 - 1, ()) h') → slices_partitionEqualCmpFunc_api_Point_b7 p n cp a' cmp i' ((J : Int) - 1) h' nx R := by
    rintro i' J h' nx ⟨hi1, hi2, hJ1, hJ2, ys, A1, o, s, w, he, hs2⟩ hnx
    have hl := o.len
    rw [slices_partitionEqualCmpFunc_api_Point_b7_eq]
    refine condP (fun hlt => ?_) (fun hlt => ?_)
    · rw [slices_partitionEqualCmpFunc_api_Point_b8_eq]
      exact hRi _ _ i' rfl hi1 hi2 ⟨ys, A1, o, s, w, he⟩
    · refine swPT (u' := i') (v' := J - 1) o s rfl (by omega) (by omega) (by omega) fun h6 A6 o6 s6 => ⟨⟨by omega, by omega⟩, ⟨by omega, by omega⟩, ?_⟩
      exact hnx _ ⟨by omega, by omega, by omega, by omega, _, A6, o6, s6, .step w (by omega) (by omega) (by omega) (by omega) (by omega), eq_swap (by omega) (by omega) (by omega) he (hs2 (by omega))⟩ (by omega)
  have b4 : ∀ (i' J : Nat) (h' : Hp) (nx : Int × Int × Unit → Hp → Prop), EInvPT cf h0 p n cp a' b' x xs F i' J h' → (∀ i2 J2 h', i' + 1 ≤ i2 → J2 + 1 ≤ J → EInvPT cf h0 p n cp a' b' x xs F i2 J2 h' → nx ((i2 : Int), (J2 : Int) - 1, ()) h') → slices_partitionEqualCmpFunc_api_Point_b4 p n cp a' cmp i' ((J : Int) - 1) h' nx R := by
    rintro i' J h' nx hI hnx
    rw [slices_partitionEqualCmpFunc_api_Point_b4_eq]
    refine ⟨fun j h2 => ∃ J2 : Nat, j.1 = (J2 : Int) - 1 ∧ J2 ≤ J ∧ EInvPT cf h0 p n cp a' b' x xs F i' J2 h2, fun j _ => (j.1 + 1).toNat, ⟨J, rfl, Nat.le_refl _, hI⟩, ?_⟩
    clear hI
    rintro ⟨_, _⟩ h2 ⟨J2, rfl, hJJ, hi1, hi2, hJ1, hJ2, ys, A1, o, s, w, he⟩
    dsimp only
    have hl := o.len
    have hP := w.allN hl0 hP
    have ch := fun (h3 : Hp) (s : St h0 h3 (A1 + F)) (g : i' < J2 → ¬ (fun x y : Pt => cf x y < 0) (ys.getD a' tPt.d) (ys.getD (J2 - 1) tPt.d)) => b7 i' J2 h3 nx ⟨hi1, hi2, hJ1, hJ2, ys, A1, o, s, w, he, g⟩ fun h' hp hq => by have := hnx (i' + 1) (J2 - 1) h' (by omega) (by omega) hp; rwa [show ((i' + 1 : Nat) : Int) = (i' : Int) + 1 by push_cast; rfl, show ((J2 - 1 : Nat) : Int) - 1 = (J2 : Int) - 1 - 1 by omega] at this
    rw [slices_partitionEqualCmpFunc_api_Point_b5_eq]
    refine condP (fun hlt => ?_) (fun hlt => ch _ s fun h => by omega)
    have r := o.rd s
    refine ldPT (i' := a') r rfl (by omega) (ldPT (i' := J2 - 1) r (by omega) (by omega) ?_)
    refine hX _ _ _ _ s.ext (hP _ (by omega)) (hP _ (by omega)) fun h5 e5 => ⟨_, rfl, ?_⟩; have s := s.grow e5
    refine condP (fun hc => ?_) (fun hc => ch _ s fun _ => hc)
    rw [slices_partitionEqualCmpFunc_api_Point_b6_eq]
    exact ⟨⟨by omega, by omega⟩, ⟨J2 - 1, by omega, by omega, hi1, hi2, by omega, by omega, ys, A1, o, s, w, he⟩, by omega⟩
  have b2 : ∀ (i' J : Nat) (h' : Hp) (nx : Int × Int × Unit → Hp → Prop), EInvPT cf h0 p n cp a' b' x xs F i' J h' → (∀ i2 J2 h', i' + 1 ≤ i2 → J2 + 1 ≤ J → EInvPT cf h0 p n cp a' b' x xs F i2 J2 h' → nx ((i2 : Int), (J2 : Int) - 1, ()) h') → LoopVC (((i' : Int), ()) : Int × Unit) h' (fun (nx1 : Int × Unit → Hp → Prop) (s4 : Int × Unit) h36 => slices_partitionEqualCmpFunc_api_Point_b2 s4.1 p n cp a' cmp ((J : Int) - 1) h36 nx nx1 R) := by
    rintro i' J h' nx hI hnx
    refine ⟨fun i h2 => ∃ i2 : Nat, i.1 = (i2 : Int) ∧ i' ≤ i2 ∧ EInvPT cf h0 p n cp a' b' x xs F i2 J h2, fun i _ => (b' - i.1).toNat, ⟨i', rfl, Nat.le_refl _, hI⟩, ?_⟩
    clear hI
    rintro ⟨_, _⟩ h2 ⟨i2, rfl, hii, hi1, hi2, hJ1, hJ2, ys, A1, o, s, w, he⟩
    dsimp only
    have hl := o.len
    have hP := w.allN hl0 hP
    have ch := fun (h3 : Hp) (s : St h0 h3 (A1 + F)) => b4 i2 J h3 nx ⟨hi1, hi2, hJ1, hJ2, ys, A1, o, s, w, he⟩ fun i3 J3 h' g1 g2 g3 => hnx i3 J3 h' (by omega) (by omega) g3
    rw [slices_partitionEqualCmpFunc_api_Point_b2_eq]
    refine condP (fun hlt => ?_) (fun hlt => ch _ s)
    have r := o.rd s
    refine ldPT (i' := a') r rfl (by omega) (ldPT (i' := i2) r rfl (by omega) ?_)
    refine hX _ _ _ _ s.ext (hP _ (by omega)) (hP _ (by omega)) fun h5 e5 => ⟨_, rfl, ?_⟩; have s := s.grow e5
    refine condN (fun hc => ?_) (fun hc => ch _ s)
    rw [slices_partitionEqualCmpFunc_api_Point_b3_eq]
    exact ⟨⟨by omega, by omega⟩, ⟨i2 + 1, by push_cast; rfl, by omega, by omega, by omega, hJ1, hJ2, ys, A1, o, s, w, eq_next he hc⟩, by omega⟩
  rw [slices_partitionEqualCmpFunc_api_Point_b0_eq]
  refine swPT (u' := a') (v' := pv') o s rfl rfl (by omega) (by omega) fun h6 A6 o6 s6 => ⟨⟨by omega, by omega⟩, ⟨by omega, by omega⟩, ?_⟩
  have hx2 : (swapL tPt.d xs a' pv').getD a' tPt.d = x := by
    rw [swapL_get (by omega) (by omega)]
    by_cases hk : a' = pv'
    · rw [if_pos hk, hk, hx]
    · rw [if_neg hk, if_pos rfl, hx]
  refine ⟨fun ij h2 => ∃ i2 J2 : Nat, ij.1 = (i2 : Int) ∧ ij.2.1 = (J2 : Int) - 1 ∧ EInvPT cf h0 p n cp a' b' x xs F i2 J2 h2, fun ij _ => (b' - ij.1).toNat + (ij.2.1 + 1).toNat, ⟨a' + 1, b', by push_cast; rfl, rfl, Nat.le_refl _, by omega, by omega, Nat.le_refl _, _, A6, o6, s6, .one (Nat.le_refl _) (by omega) (by omega) (by omega) (by omega), hx2, fun k h1 h2 => by rw [show k = a' by omega, hx2]; exact ho.irr _⟩, ?_⟩
  rintro ⟨_, _, _⟩ h2 ⟨i2, J2, rfl, rfl, hI⟩
  dsimp only
  rw [slices_partitionEqualCmpFunc_api_Point_b1_eq]
  refine b2 i2 J2 h2 _ hI fun i3 J3 h3 g1 g2 hI3 => ⟨⟨i3, J3, rfl, rfl, hI3⟩, ?_⟩
  have := hI.1
  have := hI.2.1
  have := hI3.2.1
  dsimp only
  omega
theorem partialInsertionSortPT {h0 h : Hp} {p : Option Addr} {n cp a' b' : Nat} {a b : Int} {xs : List Pt} {A F : Bag} {cmp : Value} {cf : Pt → Pt → Int} {P : Pt → Prop} (hX : CmpPT h0 cmp cf P) (ho : OrdP (fun x y : Pt => cf x y < 0)) (s : St h0 h (A + F)) (o : Sl tPt p n cp xs A) (hP : ∀ k, k < n → P (xs.getD k tPt.d)) (ea : a = (a' : Int)) (eb : b = (b' : Int)) (hab : a' < b') (hb : b' ≤ n) (hn : n < 1000000)
    (hlow : 0 < a' → ∀ k, a' ≤ k → k < b' → ¬ (fun x y : Pt => cf x y < 0) (xs.getD k tPt.d) (xs.getD (a' - 1) tPt.d)) :
    HCalls Try.prog 71 #[.slice p n cp, .int .i64 a, .int .i64 b, cmp] h (fun v h' => ∃ bb : Bool, v = .bool bb ∧ OutPT h0 p n cp a' b' xs F h' (fun ys => bb = true → SrtR tPt.d (fun x y : Pt => cf x y < 0) a' b' ys)) := by
  subst ea eb
  have hl0 := o.len
  refine slices_partialInsertionSortCmpFunc_api_Point_call ?_
  generalize hR : (fun v h' => ∃ bb : Bool, v = Value.bool bb ∧ OutPT h0 p n cp a' b' xs F h' (fun ys => bb = true → SrtR tPt.d (fun x y : Pt => cf x y < 0) a' b' ys)) = R
  have hRf : ∀ (h' : Hp), OutPT h0 p n cp a' b' xs F h' (fun _ => True) → R (.bool false) h' := by
    rintro h' ⟨ys, A1, o, s, w, _⟩; rw [← hR]; exact ⟨false, rfl, ys, A1, o, s, w, fun h => by cases h⟩
  have hRt : ∀ (h' : Hp), OutPT h0 p n cp a' b' xs F h' (SrtR tPt.d (fun x y : Pt => cf x y < 0) a' b') → R (.bool true) h' := by
    rintro h' ⟨ys, A1, o, s, w, hs⟩; rw [← hR]; exact ⟨true, rfl, ys, A1, o, s, w, fun _ => hs⟩
  clear hR
  rw [slices_partialInsertionSortCmpFunc_api_Point_b0_eq]
  refine ⟨⟨by omega, by omega⟩, fun ic h1 => ∃ (i' c : Nat), ic.1 = (i' : Int) ∧ ic.2.1 = (c : Int) ∧ c ≤ 5 ∧ a' + 1 ≤ i' ∧ i' ≤ b' ∧ OutPT h0 p n cp a' b' xs F h1 (SrtR tPt.d (fun x y : Pt => cf x y < 0) a' i'), fun ic _ => (5 - ic.2.1).toNat, ⟨a' + 1, 0, by push_cast; rfl, rfl, by omega, Nat.le_refl _, by omega, xs, A, o, s, .refl _, srtR_one (by omega)⟩, ?_⟩
  rintro ⟨_, _, _⟩ h1 ⟨i0, c, rfl, rfl, hc5, hi01, hi02, hO⟩
  dsimp only
  rw [slices_partialInsertionSortCmpFunc_api_Point_b1_eq]
  refine condP (fun hc => ?_) (fun hc => ?_)
  · generalize hNX : (fun (s' : Int × Int × Unit) (h' : Hp) => (∃ (i' c : Nat), s'.1 = (i' : Int) ∧ s'.2.1 = (c : Int) ∧ c ≤ 5 ∧ a' + 1 ≤ i' ∧ i' ≤ b' ∧ OutPT h0 p n cp a' b' xs F h' (SrtR tPt.d (fun x y : Pt => cf x y < 0) a' i')) ∧ (5 - s'.2.1).toNat < (5 - (c : Int)).toNat) = NX
    have b10 : ∀ (i' : Nat) (h' : Hp), a' + 1 ≤ i' → i' ≤ b' → OutPT h0 p n cp a' b' xs F h' (SrtR tPt.d (fun x y : Pt => cf x y < 0) a' i') → slices_partialInsertionSortCmpFunc_api_Point_b10 p n cp a' b' cmp i' c h' NX R := by
      intro i' h' g1 g2 g3
      rw [slices_partialInsertionSortCmpFunc_api_Point_b10_eq, ← hNX]
      exact ⟨⟨by omega, by omega⟩, ⟨i', c + 1, rfl, by push_cast; rfl, by omega, g1, g2, g3⟩, by dsimp only; omega⟩
    clear hNX
    have b7 : ∀ (i' : Nat) (h' : Hp), a' + 1 ≤ i' → i' ≤ b' → OutPT h0 p n cp a' b' xs F h' (SrtR tPt.d (fun x y : Pt => cf x y < 0) a' i') → slices_partialInsertionSortCmpFunc_api_Point_b7 p n cp a' b' cmp i' c h' NX R := by
      intro i' h' g1 g2 g3
      rw [slices_partialInsertionSortCmpFunc_api_Point_b7_eq]
      refine ⟨⟨by omega, by omega⟩, condP (fun h2 => ⟨⟨by omega, by omega⟩, ?_⟩) (fun _ => b10 i' h' g1 g2 g3)⟩
      refine ⟨fun j h2 => ∃ j' : Nat, j.1 = (j' : Int) ∧ i' + 1 ≤ j' ∧ j' ≤ b' ∧ OutPT h0 p n cp a' b' xs F h2 (SrtR tPt.d (fun x y : Pt => cf x y < 0) a' i'), fun j _ => (b' - j.1).toNat, ⟨i' + 1, by push_cast; rfl, Nat.le_refl _, by omega, g3⟩, ?_⟩
      clear g3
      rintro ⟨_, _⟩ h2 ⟨j', rfl, hj1, hj2, ys, A1, o, s, w, hs⟩
      dsimp only
      have hl := o.len
      have hP := w.allN hl0 hP
      rw [slices_partialInsertionSortCmpFunc_api_Point_b9_eq]
      refine condP (fun hlt => ?_) (fun hlt => b10 i' _ g1 g2 ⟨ys, A1, o, s, w, hs⟩)
      have r := o.rd s
      refine ldPT (i' := j') r rfl (by omega) ⟨⟨by omega, by omega⟩, ldPT (i' := j' - 1) r (by omega) (by omega) ?_⟩
      refine hX _ _ _ _ s.ext (hP _ (by omega)) (hP _ (by omega)) fun h5 e5 => ⟨_, rfl, ?_⟩; have s := s.grow e5
      refine condN (fun hc => b10 i' _ g1 g2 ⟨ys, A1, o, s, w, hs⟩) (fun hc => ⟨⟨by omega, by omega⟩, ⟨by omega, by omega⟩, ?_⟩)
      refine swPT (u' := j') (v' := j' - 1) o s rfl (by omega) (by omega) (by omega) fun h6 A6 o6 s6 => ?_
      rw [slices_partialInsertionSortCmpFunc_api_Point_b11_eq]
      refine ⟨⟨by omega, by omega⟩, ⟨j' + 1, by push_cast; rfl, by omega, by omega, _, A6, o6, s6, .step w (by omega) (by omega) (by omega) (by omega) (by omega), fun x y k1 k2 k3 => ?_⟩, by omega⟩
      rw [swapL_get (by omega) (by omega), swapL_get (by omega) (by omega), if_neg (by omega), if_neg (by omega), if_neg (by omega), if_neg (by omega)]
      exact hs x y k1 k2 k3
    have b5 : ∀ (i' : Nat) (h' : Hp), a' + 1 ≤ i' → i' ≤ b' → OutPT h0 p n cp a' b' xs F h' (SrtR tPt.d (fun x y : Pt => cf x y < 0) a' i') → slices_partialInsertionSortCmpFunc_api_Point_b5 p n cp a' b' cmp i' c h' NX R := by
      rintro i' h' g1 g2 ⟨ys, A1, o, s, w, hs⟩
      have hl := o.len
      rw [slices_partialInsertionSortCmpFunc_api_Point_b5_eq]
      refine condP (fun he => hRt _ ⟨ys, A1, o, s, w, by rw [show i' = b' by omega] at hs; exact hs⟩) (fun hne => ⟨⟨by omega, by omega⟩, condP (fun _ => hRf _ ⟨ys, A1, o, s, w, trivial⟩) (fun _ => ⟨⟨by omega, by omega⟩, ⟨by omega, by omega⟩, ?_⟩)⟩)
      refine swPT (u' := i') (v' := i' - 1) o s rfl (by omega) (by omega) (by omega) fun h6 A6 o6 s6 => ⟨⟨by omega, by omega⟩, ?_⟩
      have w6 : Swp tPt.d a' b' xs (swapL tPt.d ys i' (i' - 1)) := .step w (by omega) (by omega) (by omega) (by omega) (by omega)
      have hs6 : SrtR tPt.d (fun x y : Pt => cf x y < 0) a' (i' - 1) (swapL tPt.d ys i' (i' - 1)) := fun x y k1 k2 k3 => by
        rw [swapL_get (by omega) (by omega), swapL_get (by omega) (by omega), if_neg (by omega), if_neg (by omega), if_neg (by omega), if_neg (by omega)]
        exact hs x y k1 k2 (by omega)
      generalize swapL tPt.d ys i' (i' - 1) = zs at *
      clear hs w s o hl
      refine condP (fun h2 => ⟨⟨by omega, by omega⟩, ?_⟩) (fun h2 => b7 i' _ g1 g2 ⟨zs, A6, o6, s6, w6, srtR_one (by omega)⟩)
      refine ⟨fun j h2 => ∃ j' : Nat, j.1 = (j' : Int) ∧ a' ≤ j' ∧ j' ≤ i' - 1 ∧ OutPT h0 p n cp a' b' xs F h2 (InsR tPt.d (fun x y : Pt => cf x y < 0) a' j' (i' - 1)), fun j _ => j.1.toNat, ⟨i' - 1, by dsimp only; omega, by omega, by omega, zs, A6, o6, s6, w6, ins_start hs6⟩, ?_⟩
      clear hs6 w6 s6 o6 zs
      rintro ⟨_, _⟩ h2 ⟨j', rfl, hj1, hj2, ys, A1, o, s, w, hs⟩
      dsimp only
      have hl := o.len
      have hP := w.allN hl0 hP
      have fin := fun (h3 : Hp) (s : St h0 h3 (A1 + F)) (hx : a' < j' → ¬ (fun x y : Pt => cf x y < 0) (ys.getD j' tPt.d) (ys.getD (j' - 1) tPt.d)) => b7 i' h3 g1 g2 ⟨ys, A1, o, s, w, by have := ins_end ho hj1 hs hx; rwa [show i' - 1 + 1 = i' by omega] at this⟩
      rw [slices_partialInsertionSortCmpFunc_api_Point_b6_eq]
      refine condP (fun hlt => ?_) (fun hlt => fin _ s fun h => by omega)
      have r := o.rd s
      refine ldPT (i' := j') r rfl (by omega) ⟨⟨by omega, by omega⟩, ldPT (i' := j' - 1) r (by omega) (by omega) ?_⟩
      refine hX _ _ _ _ s.ext (hP _ (by omega)) (hP _ (by omega)) fun h5 e5 => ⟨_, rfl, ?_⟩; have s := s.grow e5
      refine condN (fun hc => fin _ s fun _ => hc) (fun hc => ⟨⟨by omega, by omega⟩, ⟨by omega, by omega⟩, ?_⟩)
      have hja : a' < j' := by
        rcases Nat.lt_or_ge a' j' with h | h
        · exact h
        · obtain rfl : j' = a' := by omega
          rw [w.out (k := j' - 1) (.inl (by omega))] at hc
          exact absurd hc (w.all (P := fun x => ¬ (fun x y : Pt => cf x y < 0) x (xs.getD (j' - 1) tPt.d)) (hlow (by omega)) j' (Nat.le_refl _) (by omega))
      refine swPT (u' := j') (v' := j' - 1) o s rfl (by omega) (by omega) (by omega) fun h6 A6 o6 s6 => ?_
      rw [slices_partialInsertionSortCmpFunc_api_Point_b8_eq]
      exact ⟨⟨by omega, by omega⟩, ⟨j' - 1, by omega, by omega, by omega, _, A6, o6, s6, .step w (by omega) (by omega) (by omega) (by omega) (by omega), ins_swap ho (by omega) hj2 (by omega) hs hc⟩, by omega⟩
    refine ⟨fun i h2 => ∃ i' : Nat, i.1 = (i' : Int) ∧ a' + 1 ≤ i' ∧ i' ≤ b' ∧ OutPT h0 p n cp a' b' xs F h2 (SrtR tPt.d (fun x y : Pt => cf x y < 0) a' i'), fun i _ => (b' - i.1).toNat, ⟨i0, rfl, hi01, hi02, hO⟩, ?_⟩
    clear hO
    rintro ⟨_, _⟩ h2 ⟨i', rfl, g1, g2, ys, A1, o, s, w, hs⟩
    dsimp only
    have hl := o.len
    have hP := w.allN hl0 hP
    rw [slices_partialInsertionSortCmpFunc_api_Point_b2_eq]
    refine condP (fun hlt => ?_) (fun hlt => b5 i' _ g1 g2 ⟨ys, A1, o, s, w, hs⟩)
    have r := o.rd s
    refine ldPT (i' := i') r rfl (by omega) ⟨⟨by omega, by omega⟩, ldPT (i' := i' - 1) r (by omega) (by omega) ?_⟩
    refine hX _ _ _ _ s.ext (hP _ (by omega)) (hP _ (by omega)) fun h5 e5 => ⟨_, rfl, ?_⟩; have s := s.grow e5
    refine condN (fun hc => ?_) (fun hc => b5 i' _ g1 g2 ⟨ys, A1, o, s, w, hs⟩)
    rw [slices_partialInsertionSortCmpFunc_api_Point_b4_eq]
    exact ⟨⟨by omega, by omega⟩, ⟨i' + 1, by push_cast; rfl, by omega, by omega, ys, A1, o, s, w, ins_end ho (by omega) (ins_start hs) fun _ => hc⟩, by omega⟩
  · obtain ⟨ys, A1, o, s, w, hs⟩ := hO
    rw [slices_partialInsertionSortCmpFunc_api_Point_b3_eq]
    exact hRf _ ⟨ys, A1, o, s, w, trivial⟩
abbrev EInvOI (cf : Unit) (h0 : Hp) (p : Option Addr) (n cp a' b' : Nat) (x : Int) (xs : List Int) (F : Bag) (i' J : Nat) (h : Hp) : Prop := a' + 1 ≤ i' ∧ i' ≤ b' ∧ a' + 1 ≤ J ∧ J ≤ b' ∧ OutOI h0 p n cp a' b' xs F h (fun ys => EqR (tI 3).d (fun x y : Int => x < y) x a' i' ys)
abbrev EStOI (cf : Unit) (h0 : Hp) (p : Option Addr) (n cp a' b' : Nat) (x : Int) (xs : List Int) (F : Bag) (i' J : Nat) (h : Hp) : Prop := a' + 1 ≤ i' ∧ i' ≤ b' ∧ a' + 1 ≤ J ∧ J ≤ b' ∧ OutOI h0 p n cp a' b' xs F h (fun ys => EqR (tI 3).d (fun x y : Int => x < y) x a' i' ys ∧ (i' < J → ¬ (fun x y : Int => x < y) (ys.getD a' (tI 3).d) (ys.getD (J - 1) (tI 3).d)))
theorem partitionEqualOI {h0 h : Hp} {p : Option Addr} {n cp a' b' pv' : Nat} {a b pv : Int} {xs : List Int} {A F : Bag} {P : Int → Prop} (s : St h0 h (A + F)) (o : Sl (tI 3) p n cp xs A) (hP : ∀ k, k < n → P (xs.getD k (tI 3).d)) (ea : a = (a' : Int)) (eb : b = (b' : Int)) (ev : pv = (pv' : Int)) (hpv : a' ≤ pv' ∧ pv' < b') (hb : b' ≤ n) (hn : n < 1000000) :
    HCalls Try.prog 59 #[.slice p n cp, .int .i64 a, .int .i64 b, .int .i64 pv] h (fun v h' => ∃ m : Nat, v = .int .i64 (m : Int) ∧ a' + 1 ≤ m ∧ m ≤ b' ∧ OutOI h0 p n cp a' b' xs F h' (EqR (tI 3).d (fun x y : Int => x < y) (xs.getD pv' (tI 3).d) a' m)) := by
  subst ea eb ev
  have hl0 := o.len
  refine slices_partitionEqualOrdered_int_call ?_
  generalize hx : xs.getD pv' (tI 3).d = x
  generalize hR : (fun v h' => ∃ m : Nat, v = Value.int .i64 (m : Int) ∧ a' + 1 ≤ m ∧ m ≤ b' ∧ OutOI h0 p n cp a' b' xs F h' (EqR (tI 3).d (fun x y : Int => x < y) x a' m)) = R
  have hRi : ∀ (v : Value) (h' : Hp) (m : Nat), v = .int .i64 (m : Int) → a' + 1 ≤ m → m ≤ b' → OutOI h0 p n cp a' b' xs F h' (EqR (tI 3).d (fun x y : Int => x < y) x a' m) → R v h' := by
    intro v h' m h1 h2 h3 h4; rw [← hR]; exact ⟨m, h1, h2, h3, h4⟩
  clear hR
  have b7 : ∀ (i' J : Nat) (h' : Hp) (nx : Int × Int × Unit → Hp → Prop), EStOI () h0 p n cp a' b' x xs F i' J h' → (∀ h', EInvOI () h0 p n cp a' b' x xs F (i' + 1) (J - 1) h' → i' < J → nx ((i' : Int) + 1, (J : Int) - 1 - 1, ()) h') → slices_partitionEqualOrdered_int_b7 p n cp a' i' ((J : Int) - 1) h' nx R := by
    rintro i' J h' nx ⟨hi1, hi2, hJ1, hJ2, ys, A1, o, s, w, he, hs2⟩ hnx
    have hl := o.len
    rw [slices_partitionEqualOrdered_int_b7_eq]
    refine condP (fun hlt => ?_) (fun hlt => ?_)
    · rw [slices_partitionEqualOrdered_int_b8_eq]
      exact hRi _ _ i' rfl hi1 hi2 ⟨ys, A1, o, s, w, he⟩
    · refine swOI (u' := i') (v' := J - 1) o s rfl (by omega) (by omega) (by omega) fun h6 A6 o6 s6 => ⟨⟨by omega, by omega⟩, ⟨by omega, by omega⟩, ?_⟩
      exact hnx _ ⟨by omega, by omega, by omega, by omega, _, A6, o6, s6, .step w (by omega) (by omega) (by omega) (by omega) (by omega), eq_swap (by omega) (by omega) (by omega) he (hs2 (by omega))⟩ (by omega)
  have b4 : ∀ (i' J : Nat) (h' : Hp) (nx : Int × Int × Unit → Hp → Prop), EInvOI () h0 p n cp a' b' x xs F i' J h' → (∀ i2 J2 h', i' + 1 ≤ i2 → J2 + 1 ≤ J → EInvOI () h0 p n cp a' b' x xs F i2 J2 h' → nx ((i2 : Int), (J2 : Int) - 1, ()) h') → slices_partitionEqualOrdered_int_b4 p n cp a' i' ((J : Int) - 1) h' nx R := by
    rintro i' J h' nx hI hnx
    rw [slices_partitionEqualOrdered_int_b4_eq]
    refine ⟨fun j h2 => ∃ J2 : Nat, j.1 = (J2 : Int) - 1 ∧ J2 ≤ J ∧ EInvOI () h0 p n cp a' b' x xs F i' J2 h2, fun j _ => (j.1 + 1).toNat, ⟨J, rfl, Nat.le_refl _, hI⟩, ?_⟩
    clear hI
    rintro ⟨_, _⟩ h2 ⟨J2, rfl, hJJ, hi1, hi2, hJ1, hJ2, ys, A1, o, s, w, he⟩
    dsimp only
    have hl := o.len
    have hP := w.allN hl0 hP
    have ch := fun (h3 : Hp) (s : St h0 h3 (A1 + F)) (g : i' < J2 → ¬ (fun x y : Int => x < y) (ys.getD a' (tI 3).d) (ys.getD (J2 - 1) (tI 3).d)) => b7 i' J2 h3 nx ⟨hi1, hi2, hJ1, hJ2, ys, A1, o, s, w, he, g⟩ fun h' hp hq => by have := hnx (i' + 1) (J2 - 1) h' (by omega) (by omega) hp; rwa [show ((i' + 1 : Nat) : Int) = (i' : Int) + 1 by push_cast; rfl, show ((J2 - 1 : Nat) : Int) - 1 = (J2 : Int) - 1 - 1 by omega] at this
    rw [slices_partitionEqualOrdered_int_b5_eq]
    refine condP (fun hlt => ?_) (fun hlt => ch _ s fun h => by omega)
    have r := o.rd s
    refine ldOI (i' := a') r rfl (by omega) (ldOI (i' := J2 - 1) r (by omega) (by omega) ?_)
    refine ⟨_, (Less_ok _ _ _).mono fun v9 h9 ⟨hh9, hv9⟩ => ⟨hv9, hh9⟩, ?_⟩
    refine condP (fun hc => ?_) (fun hc => ch _ s fun _ => hc)
    rw [slices_partitionEqualOrdered_int_b6_eq]
    exact ⟨⟨by omega, by omega⟩, ⟨J2 - 1, by omega, by omega, hi1, hi2, by omega, by omega, ys, A1, o, s, w, he⟩, by omega⟩
  have b2 : ∀ (i' J : Nat) (h' : Hp) (nx : Int × Int × Unit → Hp → Prop), EInvOI () h0 p n cp a' b' x xs F i' J h' → (∀ i2 J2 h', i' + 1 ≤ i2 → J2 + 1 ≤ J → EInvOI () h0 p n cp a' b' x xs F i2 J2 h' → nx ((i2 : Int), (J2 : Int) - 1, ()) h') → LoopVC (((i' : Int), ()) : Int × Unit) h' (fun (nx1 : Int × Unit → Hp → Prop) (s4 : Int × Unit) h36 => slices_partitionEqualOrdered_int_b2 s4.1 p n cp a' ((J : Int) - 1) h36 nx nx1 R) := by
    rintro i' J h' nx hI hnx
    refine ⟨fun i h2 => ∃ i2 : Nat, i.1 = (i2 : Int) ∧ i' ≤ i2 ∧ EInvOI () h0 p n cp a' b' x xs F i2 J h2, fun i _ => (b' - i.1).toNat, ⟨i', rfl, Nat.le_refl _, hI⟩, ?_⟩
    clear hI
    rintro ⟨_, _⟩ h2 ⟨i2, rfl, hii, hi1, hi2, hJ1, hJ2, ys, A1, o, s, w, he⟩
    dsimp only
    have hl := o.len
    have hP := w.allN hl0 hP
    have ch := fun (h3 : Hp) (s : St h0 h3 (A1 + F)) => b4 i2 J h3 nx ⟨hi1, hi2, hJ1, hJ2, ys, A1, o, s, w, he⟩ fun i3 J3 h' g1 g2 g3 => hnx i3 J3 h' (by omega) (by omega) g3
    rw [slices_partitionEqualOrdered_int_b2_eq]
    refine condP (fun hlt => ?_) (fun hlt => ch _ s)
    have r := o.rd s
    refine ldOI (i' := a') r rfl (by omega) (ldOI (i' := i2) r rfl (by omega) ?_)
    refine ⟨_, (Less_ok _ _ _).mono fun v9 h9 ⟨hh9, hv9⟩ => ⟨hv9, hh9⟩, ?_⟩
    refine condN (fun hc => ?_) (fun hc => ch _ s)
    rw [slices_partitionEqualOrdered_int_b3_eq]
    exact ⟨⟨by omega, by omega⟩, ⟨i2 + 1, by push_cast; rfl, by omega, by omega, by omega, hJ1, hJ2, ys, A1, o, s, w, eq_next he hc⟩, by omega⟩
  rw [slices_partitionEqualOrdered_int_b0_eq]
  refine swOI (u' := a') (v' := pv') o s rfl rfl (by omega) (by omega) fun h6 A6 o6 s6 => ⟨⟨by omega, by omega⟩, ⟨by omega, by omega⟩, ?_⟩
  have hx2 : (swapL (tI 3).d xs a' pv').getD a' (tI 3).d = x := by
    rw [swapL_get (by omega) (by omega)]
    by_cases hk : a' = pv'
    · rw [if_pos hk, hk, hx]
    · rw [if_neg hk, if_pos rfl, hx]
  refine ⟨fun ij h2 => ∃ i2 J2 : Nat, ij.1 = (i2 : Int) ∧ ij.2.1 = (J2 : Int) - 1 ∧ EInvOI () h0 p n cp a' b' x xs F i2 J2 h2, fun ij _ => (b' - ij.1).toNat + (ij.2.1 + 1).toNat, ⟨a' + 1, b', by push_cast; rfl, rfl, Nat.le_refl _, by omega, by omega, Nat.le_refl _, _, A6, o6, s6, .one (Nat.le_refl _) (by omega) (by omega) (by omega) (by omega), hx2, fun k h1 h2 => by rw [show k = a' by omega, hx2]; exact ordI.irr _⟩, ?_⟩
  rintro ⟨_, _, _⟩ h2 ⟨i2, J2, rfl, rfl, hI⟩
  dsimp only
  rw [slices_partitionEqualOrdered_int_b1_eq]
  refine b2 i2 J2 h2 _ hI fun i3 J3 h3 g1 g2 hI3 => ⟨⟨i3, J3, rfl, rfl, hI3⟩, ?_⟩
  have := hI.1
  have := hI.2.1
  have := hI3.2.1
  dsimp only
  omega
theorem partialInsertionSortOI {h0 h : Hp} {p : Option Addr} {n cp a' b' : Nat} {a b : Int} {xs : List Int} {A F : Bag} {P : Int → Prop} (s : St h0 h (A + F)) (o : Sl (tI 3) p n cp xs A) (hP : ∀ k, k < n → P (xs.getD k (tI 3).d)) (ea : a = (a' : Int)) (eb : b = (b' : Int)) (hab : a' < b') (hb : b' ≤ n) (hn : n < 1000000)
    (hlow : 0 < a' → ∀ k, a' ≤ k → k < b' → ¬ (fun x y : Int => x < y) (xs.getD k (tI 3).d) (xs.getD (a' - 1) (tI 3).d)) :
    HCalls Try.prog 57 #[.slice p n cp, .int .i64 a, .int .i64 b] h (fun v h' => ∃ bb : Bool, v = .bool bb ∧ OutOI h0 p n cp a' b' xs F h' (fun ys => bb = true → SrtR (tI 3).d (fun x y : Int => x < y) a' b' ys)) := by
  subst ea eb
  have hl0 := o.len
  refine slices_partialInsertionSortOrdered_int_call ?_
  generalize hR : (fun v h' => ∃ bb : Bool, v = Value.bool bb ∧ OutOI h0 p n cp a' b' xs F h' (fun ys => bb = true → SrtR (tI 3).d (fun x y : Int => x < y) a' b' ys)) = R
  have hRf : ∀ (h' : Hp), OutOI h0 p n cp a' b' xs F h' (fun _ => True) → R (.bool false) h' := by
    rintro h' ⟨ys, A1, o, s, w, _⟩; rw [← hR]; exact ⟨false, rfl, ys, A1, o, s, w, fun h => by cases h⟩
  have hRt : ∀ (h' : Hp), OutOI h0 p n cp a' b' xs F h' (SrtR (tI 3).d (fun x y : Int => x < y) a' b') → R (.bool true) h' := by
    rintro h' ⟨ys, A1, o, s, w, hs⟩; rw [← hR]; exact ⟨true, rfl, ys, A1, o, s, w, fun _ => hs⟩
  clear hR
  rw [slices_partialInsertionSortOrdered_int_b0_eq]
  refine ⟨⟨by omega, by omega⟩, fun ic h1 => ∃ (i' c : Nat), ic.1 = (i' : Int) ∧ ic.2.1 = (c : Int) ∧ c ≤ 5 ∧ a' + 1 ≤ i' ∧ i' ≤ b' ∧ OutOI h0 p n cp a' b' xs F h1 (SrtR (tI 3).d (fun x y : Int => x < y) a' i'), fun ic _ => (5 - ic.2.1).toNat, ⟨a' + 1, 0, by push_cast; rfl, rfl, by omega, Nat.le_refl _, by omega, xs, A, o, s, .refl _, srtR_one (by omega)⟩, ?_⟩
  rintro ⟨_, _, _⟩ h1 ⟨i0, c, rfl, rfl, hc5, hi01, hi02, hO⟩
  dsimp only
  rw [slices_partialInsertionSortOrdered_int_b1_eq]
  refine condP (fun hc => ?_) (fun hc => ?_)
  · generalize hNX : (fun (s' : Int × Int × Unit) (h' : Hp) => (∃ (i' c : Nat), s'.1 = (i' : Int) ∧ s'.2.1 = (c : Int) ∧ c ≤ 5 ∧ a' + 1 ≤ i' ∧ i' ≤ b' ∧ OutOI h0 p n cp a' b' xs F h' (SrtR (tI 3).d (fun x y : Int => x < y) a' i')) ∧ (5 - s'.2.1).toNat < (5 - (c : Int)).toNat) = NX
    have b10 : ∀ (i' : Nat) (h' : Hp), a' + 1 ≤ i' → i' ≤ b' → OutOI h0 p n cp a' b' xs F h' (SrtR (tI 3).d (fun x y : Int => x < y) a' i') → slices_partialInsertionSortOrdered_int_b10 p n cp a' b' i' c h' NX R := by
      intro i' h' g1 g2 g3
      rw [slices_partialInsertionSortOrdered_int_b10_eq, ← hNX]
      exact ⟨⟨by omega, by omega⟩, ⟨i', c + 1, rfl, by push_cast; rfl, by omega, g1, g2, g3⟩, by dsimp only; omega⟩
    clear hNX
    have b7 : ∀ (i' : Nat) (h' : Hp), a' + 1 ≤ i' → i' ≤ b' → OutOI h0 p n cp a' b' xs F h' (SrtR (tI 3).d (fun x y : Int => x < y) a' i') → slices_partialInsertionSortOrdered_int_b7 p n cp a' b' i' c h' NX R := by
      intro i' h' g1 g2 g3
      rw [slices_partialInsertionSortOrdered_int_b7_eq]
      refine ⟨⟨by omega, by omega⟩, condP (fun h2 => ⟨⟨by omega, by omega⟩, ?_⟩) (fun _ => b10 i' h' g1 g2 g3)⟩
      refine ⟨fun j h2 => ∃ j' : Nat, j.1 = (j' : Int) ∧ i' + 1 ≤ j' ∧ j' ≤ b' ∧ OutOI h0 p n cp a' b' xs F h2 (SrtR (tI 3).d (fun x y : Int => x < y) a' i'), fun j _ => (b' - j.1).toNat, ⟨i' + 1, by push_cast; rfl, Nat.le_refl _, by omega, g3⟩, ?_⟩
      clear g3
      rintro ⟨_, _⟩ h2 ⟨j', rfl, hj1, hj2, ys, A1, o, s, w, hs⟩
      dsimp only
      have hl := o.len
      have hP := w.allN hl0 hP
      rw [slices_partialInsertionSortOrdered_int_b9_eq]
      refine condP (fun hlt => ?_) (fun hlt => b10 i' _ g1 g2 ⟨ys, A1, o, s, w, hs⟩)
      have r := o.rd s
      refine ldOI (i' := j') r rfl (by omega) ⟨⟨by omega, by omega⟩, ldOI (i' := j' - 1) r (by omega) (by omega) ?_⟩
      refine ⟨_, (Less_ok _ _ _).mono fun v9 h9 ⟨hh9, hv9⟩ => ⟨hv9, hh9⟩, ?_⟩
      refine condN (fun hc => b10 i' _ g1 g2 ⟨ys, A1, o, s, w, hs⟩) (fun hc => ⟨⟨by omega, by omega⟩, ⟨by omega, by omega⟩, ?_⟩)
      refine swOI (u' := j') (v' := j' - 1) o s rfl (by omega) (by omega) (by omega) fun h6 A6 o6 s6 => ?_
      rw [slices_partialInsertionSortOrdered_int_b11_eq]
      refine ⟨⟨by omega, by omega⟩, ⟨j' + 1, by push_cast; rfl, by omega, by omega, _, A6, o6, s6, .step w (by omega) (by omega) (by omega) (by omega) (by omega), fun x y k1 k2 k3 => ?_⟩, by omega⟩
      rw [swapL_get (by omega) (by omega), swapL_get (by omega) (by omega), if_neg (by omega), if_neg (by omega), if_neg (by omega), if_neg (by omega)]
      exact hs x y k1 k2 k3
    have b5 : ∀ (i' : Nat) (h' : Hp), a' + 1 ≤ i' → i' ≤ b' → OutOI h0 p n cp a' b' xs F h' (SrtR (tI 3).d (fun x y : Int => x < y) a' i') → slices_partialInsertionSortOrdered_int_b5 p n cp a' b' i' c h' NX R := by
      rintro i' h' g1 g2 ⟨ys, A1, o, s, w, hs⟩
      have hl := o.len
      rw [slices_partialInsertionSortOrdered_int_b5_eq]
      refine condP (fun he => hRt _ ⟨ys, A1, o, s, w, by rw [show i' = b' by omega] at hs; exact hs⟩) (fun hne => ⟨⟨by omega, by omega⟩, condP (fun _ => hRf _ ⟨ys, A1, o, s, w, trivial⟩) (fun _ => ⟨⟨by omega, by omega⟩, ⟨by omega, by omega⟩, ?_⟩)⟩)
      refine swOI (u' := i') (v' := i' - 1) o s rfl (by omega) (by omega) (by omega) fun h6 A6 o6 s6 => ⟨⟨by omega, by omega⟩, ?_⟩
      have w6 : Swp (tI 3).d a' b' xs (swapL (tI 3).d ys i' (i' - 1)) := .step w (by omega) (by omega) (by omega) (by omega) (by omega)
      have hs6 : SrtR (tI 3).d (fun x y : Int => x < y) a' (i' - 1) (swapL (tI 3).d ys i' (i' - 1)) := fun x y k1 k2 k3 => by
        rw [swapL_get (by omega) (by omega), swapL_get (by omega) (by omega), if_neg (by omega), if_neg (by omega), if_neg (by omega), if_neg (by omega)]
        exact hs x y k1 k2 (by omega)
      generalize swapL (tI 3).d ys i' (i' - 1) = zs at *
      clear hs w s o hl
      refine condP (fun h2 => ⟨⟨by omega, by omega⟩, ?_⟩) (fun h2 => b7 i' _ g1 g2 ⟨zs, A6, o6, s6, w6, srtR_one (by omega)⟩)
      refine ⟨fun j h2 => ∃ j' : Nat, j.1 = (j' : Int) ∧ a' ≤ j' ∧ j' ≤ i' - 1 ∧ OutOI h0 p n cp a' b' xs F h2 (InsR (tI 3).d (fun x y : Int => x < y) a' j' (i' - 1)), fun j _ => j.1.toNat, ⟨i' - 1, by dsimp only; omega, by omega, by omega, zs, A6, o6, s6, w6, ins_start hs6⟩, ?_⟩
      clear hs6 w6 s6 o6 zs
      rintro ⟨_, _⟩ h2 ⟨j', rfl, hj1, hj2, ys, A1, o, s, w, hs⟩
      dsimp only
      have hl := o.len
      have hP := w.allN hl0 hP
      have fin := fun (h3 : Hp) (s : St h0 h3 (A1 + F)) (hx : a' < j' → ¬ (fun x y : Int => x < y) (ys.getD j' (tI 3).d) (ys.getD (j' - 1) (tI 3).d)) => b7 i' h3 g1 g2 ⟨ys, A1, o, s, w, by have := ins_end ordI hj1 hs hx; rwa [show i' - 1 + 1 = i' by omega] at this⟩
      rw [slices_partialInsertionSortOrdered_int_b6_eq]
      refine condP (fun hlt => ?_) (fun hlt => fin _ s fun h => by omega)
      have r := o.rd s
      refine ldOI (i' := j') r rfl (by omega) ⟨⟨by omega, by omega⟩, ldOI (i' := j' - 1) r (by omega) (by omega) ?_⟩
      refine ⟨_, (Less_ok _ _ _).mono fun v9 h9 ⟨hh9, hv9⟩ => ⟨hv9, hh9⟩, ?_⟩
      refine condN (fun hc => fin _ s fun _ => hc) (fun hc => ⟨⟨by omega, by omega⟩, ⟨by omega, by omega⟩, ?_⟩)
      have hja : a' < j' := by
        rcases Nat.lt_or_ge a' j' with h | h
        · exact h
        · obtain rfl : j' = a' := by omega
          rw [w.out (k := j' - 1) (.inl (by omega))] at hc
          exact absurd hc (w.all (P := fun x => ¬ (fun x y : Int => x < y) x (xs.getD (j' - 1) (tI 3).d)) (hlow (by omega)) j' (Nat.le_refl _) (by omega))
      refine swOI (u' := j') (v' := j' - 1) o s rfl (by omega) (by omega) (by omega) fun h6 A6 o6 s6 => ?_
      rw [slices_partialInsertionSortOrdered_int_b8_eq]
      exact ⟨⟨by omega, by omega⟩, ⟨j' - 1, by omega, by omega, by omega, _, A6, o6, s6, .step w (by omega) (by omega) (by omega) (by omega) (by omega), ins_swap ordI (by omega) hj2 (by omega) hs hc⟩, by omega⟩
    refine ⟨fun i h2 => ∃ i' : Nat, i.1 = (i' : Int) ∧ a' + 1 ≤ i' ∧ i' ≤ b' ∧ OutOI h0 p n cp a' b' xs F h2 (SrtR (tI 3).d (fun x y : Int => x < y) a' i'), fun i _ => (b' - i.1).toNat, ⟨i0, rfl, hi01, hi02, hO⟩, ?_⟩
    clear hO
    rintro ⟨_, _⟩ h2 ⟨i', rfl, g1, g2, ys, A1, o, s, w, hs⟩
    dsimp only
    have hl := o.len
    have hP := w.allN hl0 hP
    rw [slices_partialInsertionSortOrdered_int_b2_eq]
    refine condP (fun hlt => ?_) (fun hlt => b5 i' _ g1 g2 ⟨ys, A1, o, s, w, hs⟩)
    have r := o.rd s
    refine ldOI (i' := i') r rfl (by omega) ⟨⟨by omega, by omega⟩, ldOI (i' := i' - 1) r (by omega) (by omega) ?_⟩
    refine ⟨_, (Less_ok _ _ _).mono fun v9 h9 ⟨hh9, hv9⟩ => ⟨hv9, hh9⟩, ?_⟩
    refine condN (fun hc => ?_) (fun hc => b5 i' _ g1 g2 ⟨ys, A1, o, s, w, hs⟩)
    rw [slices_partialInsertionSortOrdered_int_b4_eq]
    exact ⟨⟨by omega, by omega⟩, ⟨i' + 1, by push_cast; rfl, by omega, by omega, ys, A1, o, s, w, ins_end ordI (by omega) (ins_start hs) fun _ => hc⟩, by omega⟩
  · obtain ⟨ys, A1, o, s, w, hs⟩ := hO
    rw [slices_partialInsertionSortOrdered_int_b3_eq]
    exact hRf _ ⟨ys, A1, o, s, w, trivial⟩
end Go.Proofs.Ytbfejfejahoblaa

/- Sorting: pdqsort. -/
set_option maxRecDepth 100000
namespace Go.Proofs.Ytbfejfejahoblaa
open Go Go.Sx
abbrev ZInvPT (cf : Pt → Pt → Int) (h0 : Hp) (p : Option Addr) (n cp a0 b0 : Nat) (xs : List Pt) (F : Bag) (a1 b1 : Nat) (h : Hp) : Prop := a0 ≤ a1 ∧ a1 ≤ b1 ∧ b1 ≤ b0 ∧ OutPT h0 p n cp a0 b0 xs F h (OutR tPt.d (fun x y : Pt => cf x y < 0) a0 b0 a1 b1)
theorem pdqPT {h0 : Hp} {p : Option Addr} {n cp : Nat} {F : Bag} {cmp : Value} {cf : Pt → Pt → Int} {P : Pt → Prop} (hX : CmpPT h0 cmp cf P) (ho : OrdP (fun x y : Pt => cf x y < 0)) (hn : n < 1000000) : ∀ (N : Nat) {h : Hp} {a0 b0 : Nat} {a b lim : Int} {xs : List Pt} {A : Bag} (_ : b0 - a0 ≤ N) (_ : St h0 h (A + F)) (_ : Sl tPt p n cp xs A) (_ : ∀ k, k < n → P (xs.getD k tPt.d)) (_ : a = (a0 : Int)) (_ : b = (b0 : Int)) (_ : a0 ≤ b0) (_ : b0 ≤ n) (_ : 0 ≤ lim ∧ lim < 1000000)
    (_ : 0 < a0 → ∀ k, a0 ≤ k → k < b0 → ¬ (fun x y : Pt => cf x y < 0) (xs.getD k tPt.d) (xs.getD (a0 - 1) tPt.d)),
    HCalls Try.prog 46 #[.slice p n cp, .int .i64 a, .int .i64 b, .int .i64 lim, cmp] h (fun v h' => v = .tuple #[] ∧ OutPT h0 p n cp a0 b0 xs F h' (SrtR tPt.d (fun x y : Pt => cf x y < 0) a0 b0)) := by
  intro N
  induction N using Nat.strongRecOn with
  | _ N ih =>
  intro h a0 b0 a b lim xs A hN s o hP ea eb hab hb hlim hlow
  subst ea eb
  have hl0 := o.len
  refine slices_pdqsortCmpFunc_api_Point_call ?_
  generalize hR : (fun v h' => v = Value.tuple #[] ∧ OutPT h0 p n cp a0 b0 xs F h' (SrtR tPt.d (fun x y : Pt => cf x y < 0) a0 b0)) = R
  have fin : ∀ (a1 b1 : Nat) (h' : Hp) (ys : List Pt), a0 ≤ a1 → b1 ≤ b0 → Swp tPt.d a0 b0 xs ys → OutR tPt.d (fun x y : Pt => cf x y < 0) a0 b0 a1 b1 ys → OutPT h0 p n cp a1 b1 ys F h' (SrtR tPt.d (fun x y : Pt => cf x y < 0) a1 b1) → R (.tuple #[]) h' := by
    rintro a1 b1 h' ys g1 g2 w ho ⟨zs, A2, o2, s2, w2, hs⟩
    have := w.len
    rw [← hR]
    exact ⟨rfl, zs, A2, o2, s2, w.trans (w2.mono g1 g2 (by omega)).1, outR_done (outR_swp g1 g2 ho w2) hs⟩
  clear hR
  -- what lies before the range is not more than what lies in it
  have low : ∀ (a1 b1 : Nat) (ys : List Pt), a0 ≤ a1 → b1 ≤ b0 → Swp tPt.d a0 b0 xs ys → OutR tPt.d (fun x y : Pt => cf x y < 0) a0 b0 a1 b1 ys → 0 < a1 → ∀ k, a1 ≤ k → k < b1 → ¬ (fun x y : Pt => cf x y < 0) (ys.getD k tPt.d) (ys.getD (a1 - 1) tPt.d) := by
    intro a1 b1 ys g1 g2 w ho h1 k k1 k2
    by_cases he : a1 = a0
    · subst he
      rw [w.out (k := a1 - 1) (.inl (by omega))]
      exact w.all (P := fun x => ¬ (fun x y : Pt => cf x y < 0) x (xs.getD (a1 - 1) tPt.d)) (hlow h1) k k1 (by omega)
    · exact ho (a1 - 1) k (by omega) (by omega) (by omega) (by omega)
  have b5 : ∀ (a1 b1 pv : Nat) (lim : Int) (h' : Hp) (nx : Int × Int × Int × Bool × Bool × Unit → Hp → Prop), ZInvPT cf h0 p n cp a0 b0 xs F a1 b1 h' → a1 ≤ pv → pv < b1 → 0 ≤ lim → lim < 1000000 →
      (∀ (a2 b2 : Nat) (l2 : Int) (wb wp : Bool) (h2 : Hp), ZInvPT cf h0 p n cp a0 b0 xs F a2 b2 h2 → b2 - a2 < b1 - a1 → 0 ≤ l2 → l2 < 1000000 → nx ((a2 : Int), (b2 : Int), l2, wb, wp, ()) h2) → slices_pdqsortCmpFunc_api_Point_b5 p n cp a1 b1 lim cmp ((b1 : Int) - a1) pv h' nx R := by
    rintro a1 b1 pv lim h' nx ⟨g1, g2, g3, ys, A1, o, s, w, ho2⟩ hv1 hv2 hl1 hl2 hnx
    have hl := o.len
    have hPy := w.allN hl0 hP
    rw [slices_pdqsortCmpFunc_api_Point_b5_eq]
    refine (partitionPT hX ho s o hPy rfl rfl rfl ⟨hv1, hv2⟩ (by omega) hn).mono fun v h2 ⟨m, bb, hv, m1, m2, zs, A2, o2, s2, w2, hp⟩ => ⟨_, _, hv, ⟨by omega, by omega⟩, ⟨by omega, by omega⟩, quo_intro (by omega) (by omega) (by omega) ?_⟩
    have w02 := w.trans (w2.mono g1 g3 (by omega)).1
    have ho3 := outR_swp g1 g3 ho2 w2
    have hPz := w02.allN hl0 hP
    have hlz := o2.len
    have hlow2 := low a1 b1 zs g1 g3 w02 ho3
    refine condP (fun hlt => ?_) (fun hlt => ⟨⟨by omega, by omega⟩, ?_⟩)
    · refine (ih (m - a1) (by omega) (a0 := a1) (b0 := m) (Nat.le_refl _) s2 o2 hPz rfl rfl m1 (by omega) ⟨hl1, hl2⟩ fun q k k1 k2 => hlow2 q k k1 (by omega)).mono fun v h3 ⟨hv, us, A3, o3, s3, w3, hs3⟩ => ⟨hv, ⟨by omega, by omega⟩, ?_⟩
      have hm : us.getD m tPt.d = zs.getD m tPt.d := w3.out (.inr (Nat.le_refl _))
      have hp3 : PartR tPt.d (fun x y : Pt => cf x y < 0) a1 b1 m us := ⟨by rw [hm]; exact w3.all (P := fun x => (fun x y : Pt => cf x y < 0) x (zs.getD m tPt.d)) hp.1, fun k k1 k2 => by rw [hm, w3.out (k := k) (.inr (by omega))]; exact hp.2 k k1 k2⟩
      have := hnx (m + 1) b1 lim (decide (((b1 : Int) - a1) / 8 ≤ (m : Int) - a1)) bb h3 ⟨by omega, by omega, g3, us, A3, o3, s3, w02.trans (w3.mono g1 (by omega) (by omega)).1, outR_left ho g1 g3 m1 m2 (outR_swp g1 g3 ho3 (w3.mono (Nat.le_refl _) (by omega) (by omega)).1) hp3 hs3⟩ (by omega) hl1 hl2
      rwa [show ((m + 1 : Nat) : Int) = (m : Int) + 1 by push_cast; rfl] at this
    · refine (ih (b1 - (m + 1)) (by omega) (a0 := m + 1) (b0 := b1) (Nat.le_refl _) s2 o2 hPz (by push_cast; rfl) rfl (by omega) (by omega) ⟨hl1, hl2⟩ fun q k k1 k2 => hp.2 k (by omega) k2).mono fun v h3 ⟨hv, us, A3, o3, s3, w3, hs3⟩ => ⟨hv, ?_⟩
      have hm : us.getD m tPt.d = zs.getD m tPt.d := w3.out (.inl (by omega))
      have hp3 : PartR tPt.d (fun x y : Pt => cf x y < 0) a1 b1 m us := ⟨fun k k1 k2 => by rw [hm, w3.out (k := k) (.inl (by omega))]; exact hp.1 k k1 k2, fun k k1 k2 => by rw [hm]; exact w3.all (P := fun x => ¬ (fun x y : Pt => cf x y < 0) x (zs.getD m tPt.d)) (fun k k1 k2 => hp.2 k (by omega) k2) k (by omega) k2⟩
      exact hnx a1 m lim _ bb h3 ⟨g1, m1, by omega, us, A3, o3, s3, w02.trans (w3.mono (by omega) g3 (by omega)).1, outR_right ho g1 g3 m1 m2 (outR_swp g1 g3 ho3 (w3.mono (by omega) (Nat.le_refl _) (by omega)).1) hp3 hs3⟩ (by omega) hl1 hl2
  have b4 : ∀ (a1 b1 pv : Nat) (lim : Int) (wb wp : Bool) (h' : Hp) (nx : Int × Int × Int × Bool × Bool × Unit → Hp → Prop), ZInvPT cf h0 p n cp a0 b0 xs F a1 b1 h' → a1 ≤ pv → pv < b1 → 0 ≤ lim → lim < 1000000 →
      (∀ (a2 b2 : Nat) (l2 : Int) (wb wp : Bool) (h2 : Hp), ZInvPT cf h0 p n cp a0 b0 xs F a2 b2 h2 → b2 - a2 < b1 - a1 → 0 ≤ l2 → l2 < 1000000 → nx ((a2 : Int), (b2 : Int), l2, wb, wp, ()) h2) → slices_pdqsortCmpFunc_api_Point_b4 p n cp a1 b1 lim cmp wb wp ((b1 : Int) - a1) pv h' nx R := by
    rintro a1 b1 pv lim wb wp h' nx ⟨g1, g2, g3, ys, A1, o, s, w, ho2⟩ hv1 hv2 hl1 hl2 hnx
    have hl := o.len
    rw [slices_pdqsortCmpFunc_api_Point_b4_eq]
    refine condP (fun ha => ⟨⟨by omega, by omega⟩, ?_⟩) (fun _ => b5 a1 b1 pv lim _ _ ⟨g1, g2, g3, ys, A1, o, s, w, ho2⟩ hv1 hv2 hl1 hl2 hnx)
    have hlow2 := low a1 b1 ys g1 g3 w ho2 (by omega)
    have r := o.rd s
    have hPy := w.allN hl0 hP
    have hP := hPy
    refine ldPT (i' := a1 - 1) r (by omega) (by omega) (ldPT (i' := pv) r rfl (by omega) ?_)
    refine hX _ _ _ _ s.ext (hP _ (by omega)) (hP _ (by omega)) fun h5 e5 => ⟨_, rfl, ?_⟩; have s := s.grow e5
    refine condN (fun hc => ?_) (fun hc => b5 a1 b1 pv lim _ _ ⟨g1, g2, g3, ys, A1, o, s, w, ho2⟩ hv1 hv2 hl1 hl2 hnx)
    refine (partitionEqualPT hX ho s o hPy rfl rfl rfl ⟨hv1, hv2⟩ (by omega) hn).mono fun v h2 ⟨m, hv, m1, m2, zs, A2, o2, s2, w2, hp⟩ => ⟨_, hv, ?_⟩
    exact hnx m b1 lim wb wp h2 ⟨by omega, m2, g3, zs, A2, o2, s2, w.trans (w2.mono g1 g3 (by omega)).1, outR_equal ho g1 g3 (by omega) m2 (outR_swp g1 g3 ho2 w2) hp.2 (w2.all (P := fun x => ¬ (fun x y : Pt => cf x y < 0) x (ys.getD pv tPt.d)) fun k k1 k2 => ho.trans _ _ _ hc (hlow2 k k1 k2))⟩ (by omega) hl1 hl2
  have b3 : ∀ (a1 b1 pv : Nat) (hint lim : Int) (wb wp : Bool) (h' : Hp) (nx : Int × Int × Int × Bool × Bool × Unit → Hp → Prop), ZInvPT cf h0 p n cp a0 b0 xs F a1 b1 h' → a1 ≤ pv → pv < b1 → 0 ≤ lim → lim < 1000000 →
      (∀ (a2 b2 : Nat) (l2 : Int) (wb wp : Bool) (h2 : Hp), ZInvPT cf h0 p n cp a0 b0 xs F a2 b2 h2 → b2 - a2 < b1 - a1 → 0 ≤ l2 → l2 < 1000000 → nx ((a2 : Int), (b2 : Int), l2, wb, wp, ()) h2) → slices_pdqsortCmpFunc_api_Point_b3 p n cp a1 b1 lim cmp wb wp ((b1 : Int) - a1) pv hint h' nx R := by
    rintro a1 b1 pv hint lim wb wp h' nx hI hv1 hv2 hl1 hl2 hnx
    have go := fun h2 (hI : ZInvPT cf h0 p n cp a0 b0 xs F a1 b1 h2) => b4 a1 b1 pv lim wb wp h2 nx hI hv1 hv2 hl1 hl2 hnx
    rw [slices_pdqsortCmpFunc_api_Point_b3_eq]
    refine cond_intro (fun _ => cond_intro (fun _ => condP (fun _ => ?_) fun _ => go _ hI) fun _ => go _ hI) fun _ => go _ hI
    obtain ⟨g1, g2, g3, ys, A1, o, s, w, ho2⟩ := hI
    have hl := o.len
    refine (partialInsertionSortPT hX ho s o (w.allN hl0 hP) rfl rfl (by omega) (by omega) hn (low a1 b1 ys g1 g3 w ho2)).mono fun v h2 ⟨bb, hv, zs, A2, o2, s2, w2, hp⟩ => ⟨_, hv, cond_intro (fun hb => ?_) (fun hb => ?_)⟩
    · exact fin a1 b1 h2 ys g1 g3 w ho2 ⟨zs, A2, o2, s2, w2, hp hb⟩
    · exact go _ ⟨g1, g2, g3, zs, A2, o2, s2, w.trans (w2.mono g1 g3 (by omega)).1, outR_swp g1 g3 ho2 w2⟩
  have b2 : ∀ (a1 b1 : Nat) (lim : Int) (wb wp : Bool) (h' : Hp) (nx : Int × Int × Int × Bool × Bool × Unit → Hp → Prop), ZInvPT cf h0 p n cp a0 b0 xs F a1 b1 h' → a1 < b1 → 0 ≤ lim → lim < 1000000 →
      (∀ (a2 b2 : Nat) (l2 : Int) (wb wp : Bool) (h2 : Hp), ZInvPT cf h0 p n cp a0 b0 xs F a2 b2 h2 → b2 - a2 < b1 - a1 → 0 ≤ l2 → l2 < 1000000 → nx ((a2 : Int), (b2 : Int), l2, wb, wp, ()) h2) → slices_pdqsortCmpFunc_api_Point_b2 p n cp a1 b1 lim cmp wb wp ((b1 : Int) - a1) h' nx R := by
    rintro a1 b1 lim wb wp h' nx ⟨g1, g2, g3, ys, A1, o, s, w, ho2⟩ hlt hl1 hl2 hnx
    have hl := o.len
    rw [slices_pdqsortCmpFunc_api_Point_b2_eq]
    refine (choosePivotPT hX ho s o (w.allN hl0 hP) rfl rfl hlt (by omega) hn).mono fun v h2 ⟨u, hint, hv, u1, u2, s⟩ => ⟨_, _, hv, condP (fun _ => ?_) (fun _ => ?_)⟩
    · refine (reverseRangePT s o rfl rfl (by omega) (by omega) hn).mono fun v h2 ⟨hv, zs, A2, o2, s2, w2, _⟩ => ⟨hv, ⟨by omega, by omega⟩, ⟨by omega, by omega⟩, ⟨by omega, by omega⟩, ?_⟩
      have := b3 a1 b1 ((b1 : Int) - 1 - (u - a1)).toNat 1 lim wb wp h2 nx ⟨g1, g2, g3, zs, A2, o2, s2, w.trans (w2.mono g1 g3 (by omega)).1, outR_swp g1 g3 ho2 w2⟩ (by omega) (by omega) hl1 hl2 hnx
      rwa [Int.toNat_of_nonneg (by omega)] at this
    · have := b3 a1 b1 u.toNat hint lim wb wp h2 nx ⟨g1, g2, g3, ys, A1, o, s, w, ho2⟩ (by omega) (by omega) hl1 hl2 hnx
      rwa [Int.toNat_of_nonneg (by omega)] at this
  rw [slices_pdqsortCmpFunc_api_Point_b0_eq]
  refine ⟨fun st h1 => ∃ (a1 b1 : Nat), st.1 = (a1 : Int) ∧ st.2.1 = (b1 : Int) ∧ 0 ≤ st.2.2.1 ∧ st.2.2.1 < 1000000 ∧ ZInvPT cf h0 p n cp a0 b0 xs F a1 b1 h1, fun st _ => (st.2.1 - st.1).toNat, ⟨a0, b0, rfl, rfl, hlim.1, hlim.2, Nat.le_refl _, hab, Nat.le_refl _, xs, A, o, s, .refl _, outR_start⟩, ?_⟩
  rintro ⟨_, _, lim, wb, wp, _⟩ h1 ⟨a1, b1, rfl, rfl, hl1, hl2, hI⟩
  dsimp only at hl1 hl2 ⊢
  have go := fun (l2 : Int) (h2 : Hp) (hI : ZInvPT cf h0 p n cp a0 b0 xs F a1 b1 h2) (hlt : a1 < b1) (q1 : 0 ≤ l2) (q2 : l2 < 1000000) => b2 a1 b1 l2 wb wp h2 (fun s' h' => (∃ (a1 b1 : Nat), s'.1 = (a1 : Int) ∧ s'.2.1 = (b1 : Int) ∧ 0 ≤ s'.2.2.1 ∧ s'.2.2.1 < 1000000 ∧ ZInvPT cf h0 p n cp a0 b0 xs F a1 b1 h') ∧ (s'.2.1 - s'.1).toNat < ((b1 : Int) - a1).toNat) hI hlt q1 q2 fun a2 b2 l2 wb wp h2 hI2 hm k1 k2 => ⟨⟨a2, b2, rfl, rfl, k1, k2, hI2⟩, by have := hI2.2.1; dsimp only; omega⟩
  have hI' := hI
  obtain ⟨g1, g2, g3, ys, A1, o, s, w, ho2⟩ := hI
  have hl := o.len
  rw [slices_pdqsortCmpFunc_api_Point_b1_eq]
  refine ⟨⟨by omega, by omega⟩, condP (fun h12 => ?_) (fun h12 => condP (fun hz => ?_) (fun hz => cond_intro (fun _ => ?_) (fun _ => ?_)))⟩
  · exact (insertionSortPT hX ho s o (w.allN hl0 hP) rfl rfl (by omega) (by omega) hn).mono fun v h2 ⟨hv, hO⟩ => ⟨hv, fin a1 b1 h2 ys g1 g3 w ho2 hO⟩
  · exact (heapSortPT hX ho s o (w.allN hl0 hP) rfl rfl (by omega) (by omega) hn).mono fun v h2 ⟨hv, hO⟩ => ⟨hv, fin a1 b1 h2 ys g1 g3 w ho2 hO⟩
  · refine (breakPatternsPT s o rfl rfl (by omega) (by omega) hn).mono fun v h2 ⟨hv, zs, A2, o2, s2, w2, _⟩ => ⟨hv, ⟨by omega, by omega⟩, ?_⟩
    exact go (lim - 1) h2 ⟨g1, g2, g3, zs, A2, o2, s2, w.trans (w2.mono g1 g3 (by omega)).1, outR_swp g1 g3 ho2 w2⟩ (by omega) (by omega) (by omega)
  · exact go lim h1 hI' (by omega) hl1 hl2
/-- The whole slice. -/
theorem sortPT {h0 h : Hp} {p : Option Addr} {n cp : Nat} {xs : List Pt} {A F : Bag} {cmp : Value} {cf : Pt → Pt → Int} {P : Pt → Prop} (hX : CmpPT h0 cmp cf P) (ho : OrdP (fun x y : Pt => cf x y < 0)) (s : St h0 h (A + F)) (o : Sl tPt p n cp xs A) (hP : ∀ k, k < n → P (xs.getD k tPt.d)) (hn : n < 1000000) :
    HCalls Try.prog 31 #[.slice p n cp, cmp] h (fun v h' => v = .tuple #[] ∧ ∃ ys A', Sl tPt p n cp ys A' ∧ St h0 h' (A' + F) ∧ ys.Perm xs ∧ ys.Pairwise (fun x y => ¬ (fun x y : Pt => cf x y < 0) y x)) := by
  refine slices_SortFunc_Sapi_Point_api_Point_call ?_
  rw [slices_SortFunc_Sapi_Point_api_Point_b0_eq, wrap_u64_in _ (by omega) (by omega)]
  refine (bitsLen_ok n (by omega) h).mono fun v h1 ⟨hv, hh⟩ => ⟨_, hv, ?_⟩
  subst hh
  have hl : blen n ≤ 20 := blen_le (by omega)
  refine (pdqPT hX ho hn n (a0 := 0) (b0 := n) (by omega) s o hP rfl rfl (by omega) (Nat.le_refl _) ⟨by omega, by omega⟩ (fun h => by omega)).mono fun v h2 ⟨hv, ys, A', o2, s2, w, hs⟩ => ⟨hv, rfl, ys, A', o2, s2, w.perm, srtR_pairwise o2.len hs⟩
abbrev ZInvOI (cf : Unit) (h0 : Hp) (p : Option Addr) (n cp a0 b0 : Nat) (xs : List Int) (F : Bag) (a1 b1 : Nat) (h : Hp) : Prop := a0 ≤ a1 ∧ a1 ≤ b1 ∧ b1 ≤ b0 ∧ OutOI h0 p n cp a0 b0 xs F h (OutR (tI 3).d (fun x y : Int => x < y) a0 b0 a1 b1)
theorem pdqOI {h0 : Hp} {p : Option Addr} {n cp : Nat} {F : Bag} {P : Int → Prop} (hn : n < 1000000) : ∀ (N : Nat) {h : Hp} {a0 b0 : Nat} {a b lim : Int} {xs : List Int} {A : Bag} (_ : b0 - a0 ≤ N) (_ : St h0 h (A + F)) (_ : Sl (tI 3) p n cp xs A) (_ : ∀ k, k < n → P (xs.getD k (tI 3).d)) (_ : a = (a0 : Int)) (_ : b = (b0 : Int)) (_ : a0 ≤ b0) (_ : b0 ≤ n) (_ : 0 ≤ lim ∧ lim < 1000000)
    (_ : 0 < a0 → ∀ k, a0 ≤ k → k < b0 → ¬ (fun x y : Int => x < y) (xs.getD k (tI 3).d) (xs.getD (a0 - 1) (tI 3).d)),
    HCalls Try.prog 42 #[.slice p n cp, .int .i64 a, .int .i64 b, .int .i64 lim] h (fun v h' => v = .tuple #[] ∧ OutOI h0 p n cp a0 b0 xs F h' (SrtR (tI 3).d (fun x y : Int => x < y) a0 b0)) := by
  intro N
  induction N using Nat.strongRecOn with
  | _ N ih =>
  intro h a0 b0 a b lim xs A hN s o hP ea eb hab hb hlim hlow
  subst ea eb
  have hl0 := o.len
  refine slices_pdqsortOrdered_int_call ?_
  generalize hR : (fun v h' => v = Value.tuple #[] ∧ OutOI h0 p n cp a0 b0 xs F h' (SrtR (tI 3).d (fun x y : Int => x < y) a0 b0)) = R
  have fin : ∀ (a1 b1 : Nat) (h' : Hp) (ys : List Int), a0 ≤ a1 → b1 ≤ b0 → Swp (tI 3).d a0 b0 xs ys → OutR (tI 3).d (fun x y : Int => x < y) a0 b0 a1 b1 ys → OutOI h0 p n cp a1 b1 ys F h' (SrtR (tI 3).d (fun x y : Int => x < y) a1 b1) → R (.tuple #[]) h' := by
    rintro a1 b1 h' ys g1 g2 w ho ⟨zs, A2, o2, s2, w2, hs⟩
    have := w.len
    rw [← hR]
    exact ⟨rfl, zs, A2, o2, s2, w.trans (w2.mono g1 g2 (by omega)).1, outR_done (outR_swp g1 g2 ho w2) hs⟩
  clear hR
  -- what lies before the range is not more than what lies in it
  have low : ∀ (a1 b1 : Nat) (ys : List Int), a0 ≤ a1 → b1 ≤ b0 → Swp (tI 3).d a0 b0 xs ys → OutR (tI 3).d (fun x y : Int => x < y) a0 b0 a1 b1 ys → 0 < a1 → ∀ k, a1 ≤ k → k < b1 → ¬ (fun x y : Int => x < y) (ys.getD k (tI 3).d) (ys.getD (a1 - 1) (tI 3).d) := by
    intro a1 b1 ys g1 g2 w ho h1 k k1 k2
    by_cases he : a1 = a0
    · subst he
      rw [w.out (k := a1 - 1) (.inl (by omega))]
      exact w.all (P := fun x => ¬ (fun x y : Int => x < y) x (xs.getD (a1 - 1) (tI 3).d)) (hlow h1) k k1 (by omega)
    · exact ho (a1 - 1) k (by omega) (by omega) (by omega) (by omega)
  have b5 : ∀ (a1 b1 pv : Nat) (lim : Int) (h' : Hp) (nx : Int × Int × Int × Bool × Bool × Unit → Hp → Prop), ZInvOI () h0 p n cp a0 b0 xs F a1 b1 h' → a1 ≤ pv → pv < b1 → 0 ≤ lim → lim < 1000000 →
      (∀ (a2 b2 : Nat) (l2 : Int) (wb wp : Bool) (h2 : Hp), ZInvOI () h0 p n cp a0 b0 xs F a2 b2 h2 → b2 - a2 < b1 - a1 → 0 ≤ l2 → l2 < 1000000 → nx ((a2 : Int), (b2 : Int), l2, wb, wp, ()) h2) → slices_pdqsortOrdered_int_b5 p n cp a1 b1 lim ((b1 : Int) - a1) pv h' nx R := by
    rintro a1 b1 pv lim h' nx ⟨g1, g2, g3, ys, A1, o, s, w, ho2⟩ hv1 hv2 hl1 hl2 hnx
    have hl := o.len
    have hPy := w.allN hl0 hP
    rw [slices_pdqsortOrdered_int_b5_eq]
    refine (partitionOI  s o hPy rfl rfl rfl ⟨hv1, hv2⟩ (by omega) hn).mono fun v h2 ⟨m, bb, hv, m1, m2, zs, A2, o2, s2, w2, hp⟩ => ⟨_, _, hv, ⟨by omega, by omega⟩, ⟨by omega, by omega⟩, quo_intro (by omega) (by omega) (by omega) ?_⟩
    have w02 := w.trans (w2.mono g1 g3 (by omega)).1
    have ho3 := outR_swp g1 g3 ho2 w2
    have hPz := w02.allN hl0 hP
    have hlz := o2.len
    have hlow2 := low a1 b1 zs g1 g3 w02 ho3
    refine condP (fun hlt => ?_) (fun hlt => ⟨⟨by omega, by omega⟩, ?_⟩)
    · refine (ih (m - a1) (by omega) (a0 := a1) (b0 := m) (Nat.le_refl _) s2 o2 hPz rfl rfl m1 (by omega) ⟨hl1, hl2⟩ fun q k k1 k2 => hlow2 q k k1 (by omega)).mono fun v h3 ⟨hv, us, A3, o3, s3, w3, hs3⟩ => ⟨hv, ⟨by omega, by omega⟩, ?_⟩
      have hm : us.getD m (tI 3).d = zs.getD m (tI 3).d := w3.out (.inr (Nat.le_refl _))
      have hp3 : PartR (tI 3).d (fun x y : Int => x < y) a1 b1 m us := ⟨by rw [hm]; exact w3.all (P := fun x => (fun x y : Int => x < y) x (zs.getD m (tI 3).d)) hp.1, fun k k1 k2 => by rw [hm, w3.out (k := k) (.inr (by omega))]; exact hp.2 k k1 k2⟩
      have := hnx (m + 1) b1 lim (decide (((b1 : Int) - a1) / 8 ≤ (m : Int) - a1)) bb h3 ⟨by omega, by omega, g3, us, A3, o3, s3, w02.trans (w3.mono g1 (by omega) (by omega)).1, outR_left ordI g1 g3 m1 m2 (outR_swp g1 g3 ho3 (w3.mono (Nat.le_refl _) (by omega) (by omega)).1) hp3 hs3⟩ (by omega) hl1 hl2
      rwa [show ((m + 1 : Nat) : Int) = (m : Int) + 1 by push_cast; rfl] at this
    · refine (ih (b1 - (m + 1)) (by omega) (a0 := m + 1) (b0 := b1) (Nat.le_refl _) s2 o2 hPz (by push_cast; rfl) rfl (by omega) (by omega) ⟨hl1, hl2⟩ fun q k k1 k2 => hp.2 k (by omega) k2).mono fun v h3 ⟨hv, us, A3, o3, s3, w3, hs3⟩ => ⟨hv, ?_⟩
      have hm : us.getD m (tI 3).d = zs.getD m (tI 3).d := w3.out (.inl (by omega))
      have hp3 : PartR (tI 3).d (fun x y : Int => x < y) a1 b1 m us := ⟨fun k k1 k2 => by rw [hm, w3.out (k := k) (.inl (by omega))]; exact hp.1 k k1 k2, fun k k1 k2 => by rw [hm]; exact w3.all (P := fun x => ¬ (fun x y : Int => x < y) x (zs.getD m (tI 3).d)) (fun k k1 k2 => hp.2 k (by omega) k2) k (by omega) k2⟩
      exact hnx a1 m lim _ bb h3 ⟨g1, m1, by omega, us, A3, o3, s3, w02.trans (w3.mono (by omega) g3 (by omega)).1, outR_right ordI g1 g3 m1 m2 (outR_swp g1 g3 ho3 (w3.mono (by omega) (Nat.le_refl _) (by omega)).1) hp3 hs3⟩ (by omega) hl1 hl2
  have b4 : ∀ (a1 b1 pv : Nat) (lim : Int) (wb wp : Bool) (h' : Hp) (nx : Int × Int × Int × Bool × Bool × Unit → Hp → Prop), ZInvOI () h0 p n cp a0 b0 xs F a1 b1 h' → a1 ≤ pv → pv < b1 → 0 ≤ lim → lim < 1000000 →
      (∀ (a2 b2 : Nat) (l2 : Int) (wb wp : Bool) (h2 : Hp), ZInvOI () h0 p n cp a0 b0 xs F a2 b2 h2 → b2 - a2 < b1 - a1 → 0 ≤ l2 → l2 < 1000000 → nx ((a2 : Int), (b2 : Int), l2, wb, wp, ()) h2) → slices_pdqsortOrdered_int_b4 p n cp a1 b1 lim wb wp ((b1 : Int) - a1) pv h' nx R := by
    rintro a1 b1 pv lim wb wp h' nx ⟨g1, g2, g3, ys, A1, o, s, w, ho2⟩ hv1 hv2 hl1 hl2 hnx
    have hl := o.len
    rw [slices_pdqsortOrdered_int_b4_eq]
    refine condP (fun ha => ⟨⟨by omega, by omega⟩, ?_⟩) (fun _ => b5 a1 b1 pv lim _ _ ⟨g1, g2, g3, ys, A1, o, s, w, ho2⟩ hv1 hv2 hl1 hl2 hnx)
    have hlow2 := low a1 b1 ys g1 g3 w ho2 (by omega)
    have r := o.rd s
    have hPy := w.allN hl0 hP
    have hP := hPy
    refine ldOI (i' := a1 - 1) r (by omega) (by omega) (ldOI (i' := pv) r rfl (by omega) ?_)
    refine ⟨_, (Less_ok _ _ _).mono fun v9 h9 ⟨hh9, hv9⟩ => ⟨hv9, hh9⟩, ?_⟩
    refine condN (fun hc => ?_) (fun hc => b5 a1 b1 pv lim _ _ ⟨g1, g2, g3, ys, A1, o, s, w, ho2⟩ hv1 hv2 hl1 hl2 hnx)
    refine (partitionEqualOI  s o hPy rfl rfl rfl ⟨hv1, hv2⟩ (by omega) hn).mono fun v h2 ⟨m, hv, m1, m2, zs, A2, o2, s2, w2, hp⟩ => ⟨_, hv, ?_⟩
    exact hnx m b1 lim wb wp h2 ⟨by omega, m2, g3, zs, A2, o2, s2, w.trans (w2.mono g1 g3 (by omega)).1, outR_equal ordI g1 g3 (by omega) m2 (outR_swp g1 g3 ho2 w2) hp.2 (w2.all (P := fun x => ¬ (fun x y : Int => x < y) x (ys.getD pv (tI 3).d)) fun k k1 k2 => ordI.trans _ _ _ hc (hlow2 k k1 k2))⟩ (by omega) hl1 hl2
  have b3 : ∀ (a1 b1 pv : Nat) (hint lim : Int) (wb wp : Bool) (h' : Hp) (nx : Int × Int × Int × Bool × Bool × Unit → Hp → Prop), ZInvOI () h0 p n cp a0 b0 xs F a1 b1 h' → a1 ≤ pv → pv < b1 → 0 ≤ lim → lim < 1000000 →
      (∀ (a2 b2 : Nat) (l2 : Int) (wb wp : Bool) (h2 : Hp), ZInvOI () h0 p n cp a0 b0 xs F a2 b2 h2 → b2 - a2 < b1 - a1 → 0 ≤ l2 → l2 < 1000000 → nx ((a2 : Int), (b2 : Int), l2, wb, wp, ()) h2) → slices_pdqsortOrdered_int_b3 p n cp a1 b1 lim wb wp ((b1 : Int) - a1) pv hint h' nx R := by
    rintro a1 b1 pv hint lim wb wp h' nx hI hv1 hv2 hl1 hl2 hnx
    have go := fun h2 (hI : ZInvOI () h0 p n cp a0 b0 xs F a1 b1 h2) => b4 a1 b1 pv lim wb wp h2 nx hI hv1 hv2 hl1 hl2 hnx
    rw [slices_pdqsortOrdered_int_b3_eq]
    refine cond_intro (fun _ => cond_intro (fun _ => condP (fun _ => ?_) fun _ => go _ hI) fun _ => go _ hI) fun _ => go _ hI
    obtain ⟨g1, g2, g3, ys, A1, o, s, w, ho2⟩ := hI
    have hl := o.len
    refine (partialInsertionSortOI  s o (w.allN hl0 hP) rfl rfl (by omega) (by omega) hn (low a1 b1 ys g1 g3 w ho2)).mono fun v h2 ⟨bb, hv, zs, A2, o2, s2, w2, hp⟩ => ⟨_, hv, cond_intro (fun hb => ?_) (fun hb => ?_)⟩
    · exact fin a1 b1 h2 ys g1 g3 w ho2 ⟨zs, A2, o2, s2, w2, hp hb⟩
    · exact go _ ⟨g1, g2, g3, zs, A2, o2, s2, w.trans (w2.mono g1 g3 (by omega)).1, outR_swp g1 g3 ho2 w2⟩
  have b2 : ∀ (a1 b1 : Nat) (lim : Int) (wb wp : Bool) (h' : Hp) (nx : Int × Int × Int × Bool × Bool × Unit → Hp → Prop), ZInvOI () h0 p n cp a0 b0 xs F a1 b1 h' → a1 < b1 → 0 ≤ lim → lim < 1000000 →
      (∀ (a2 b2 : Nat) (l2 : Int) (wb wp : Bool) (h2 : Hp), ZInvOI () h0 p n cp a0 b0 xs F a2 b2 h2 → b2 - a2 < b1 - a1 → 0 ≤ l2 → l2 < 1000000 → nx ((a2 : Int), (b2 : Int), l2, wb, wp, ()) h2) → slices_pdqsortOrdered_int_b2 p n cp a1 b1 lim wb wp ((b1 : Int) - a1) h' nx R := by
    rintro a1 b1 lim wb wp h' nx ⟨g1, g2, g3, ys, A1, o, s, w, ho2⟩ hlt hl1 hl2 hnx
    have hl := o.len
    rw [slices_pdqsortOrdered_int_b2_eq]
    refine (choosePivotOI  s o (w.allN hl0 hP) rfl rfl hlt (by omega) hn).mono fun v h2 ⟨u, hint, hv, u1, u2, s⟩ => ⟨_, _, hv, condP (fun _ => ?_) (fun _ => ?_)⟩
    · refine (reverseRangeOI s o rfl rfl (by omega) (by omega) hn).mono fun v h2 ⟨hv, zs, A2, o2, s2, w2, _⟩ => ⟨hv, ⟨by omega, by omega⟩, ⟨by omega, by omega⟩, ⟨by omega, by omega⟩, ?_⟩
      have := b3 a1 b1 ((b1 : Int) - 1 - (u - a1)).toNat 1 lim wb wp h2 nx ⟨g1, g2, g3, zs, A2, o2, s2, w.trans (w2.mono g1 g3 (by omega)).1, outR_swp g1 g3 ho2 w2⟩ (by omega) (by omega) hl1 hl2 hnx
      rwa [Int.toNat_of_nonneg (by omega)] at this
    · have := b3 a1 b1 u.toNat hint lim wb wp h2 nx ⟨g1, g2, g3, ys, A1, o, s, w, ho2⟩ (by omega) (by omega) hl1 hl2 hnx
      rwa [Int.toNat_of_nonneg (by omega)] at this
  rw [slices_pdqsortOrdered_int_b0_eq]
  refine ⟨fun st h1 => ∃ (a1 b1 : Nat), st.1 = (a1 : Int) ∧ st.2.1 = (b1 : Int) ∧ 0 ≤ st.2.2.1 ∧ st.2.2.1 < 1000000 ∧ ZInvOI () h0 p n cp a0 b0 xs F a1 b1 h1, fun st _ => (st.2.1 - st.1).toNat, ⟨a0, b0, rfl, rfl, hlim.1, hlim.2, Nat.le_refl _, hab, Nat.le_refl _, xs, A, o, s, .refl _, outR_start⟩, ?_⟩
  rintro ⟨_, _, lim, wb, wp, _⟩ h1 ⟨a1, b1, rfl, rfl, hl1, hl2, hI⟩
  dsimp only at hl1 hl2 ⊢
  have go := fun (l2 : Int) (h2 : Hp) (hI : ZInvOI () h0 p n cp a0 b0 xs F a1 b1 h2) (hlt : a1 < b1) (q1 : 0 ≤ l2) (q2 : l2 < 1000000) => b2 a1 b1 l2 wb wp h2 (fun s' h' => (∃ (a1 b1 : Nat), s'.1 = (a1 : Int) ∧ s'.2.1 = (b1 : Int) ∧ 0 ≤ s'.2.2.1 ∧ s'.2.2.1 < 1000000 ∧ ZInvOI () h0 p n cp a0 b0 xs F a1 b1 h') ∧ (s'.2.1 - s'.1).toNat < ((b1 : Int) - a1).toNat) hI hlt q1 q2 fun a2 b2 l2 wb wp h2 hI2 hm k1 k2 => ⟨⟨a2, b2, rfl, rfl, k1, k2, hI2⟩, by have := hI2.2.1; dsimp only; omega⟩
  have hI' := hI
  obtain ⟨g1, g2, g3, ys, A1, o, s, w, ho2⟩ := hI
  have hl := o.len
  rw [slices_pdqsortOrdered_int_b1_eq]
  refine ⟨⟨by omega, by omega⟩, condP (fun h12 => ?_) (fun h12 => condP (fun hz => ?_) (fun hz => cond_intro (fun _ => ?_) (fun _ => ?_)))⟩
  · exact (insertionSortOI  s o (w.allN hl0 hP) rfl rfl (by omega) (by omega) hn).mono fun v h2 ⟨hv, hO⟩ => ⟨hv, fin a1 b1 h2 ys g1 g3 w ho2 hO⟩
  · exact (heapSortOI  s o (w.allN hl0 hP) rfl rfl (by omega) (by omega) hn).mono fun v h2 ⟨hv, hO⟩ => ⟨hv, fin a1 b1 h2 ys g1 g3 w ho2 hO⟩
  · refine (breakPatternsOI s o rfl rfl (by omega) (by omega) hn).mono fun v h2 ⟨hv, zs, A2, o2, s2, w2, _⟩ => ⟨hv, ⟨by omega, by omega⟩, ?_⟩
    exact go (lim - 1) h2 ⟨g1, g2, g3, zs, A2, o2, s2, w.trans (w2.mono g1 g3 (by omega)).1, outR_swp g1 g3 ho2 w2⟩ (by omega) (by omega) (by omega)
  · exact go lim h1 hI' (by omega) hl1 hl2
/-- The whole slice. -/
theorem sortOI {h0 h : Hp} {p : Option Addr} {n cp : Nat} {xs : List Int} {A F : Bag} {P : Int → Prop} (s : St h0 h (A + F)) (o : Sl (tI 3) p n cp xs A) (hP : ∀ k, k < n → P (xs.getD k (tI 3).d)) (hn : n < 1000000) :
    HCalls Try.prog 25 #[.slice p n cp] h (fun v h' => v = .tuple #[] ∧ ∃ ys A', Sl (tI 3) p n cp ys A' ∧ St h0 h' (A' + F) ∧ ys.Perm xs ∧ ys.Pairwise (fun x y => ¬ (fun x y : Int => x < y) y x)) := by
  refine slices_Sort_Sint_int_call ?_
  rw [slices_Sort_Sint_int_b0_eq, wrap_u64_in _ (by omega) (by omega)]
  refine (bitsLen_ok n (by omega) h).mono fun v h1 ⟨hv, hh⟩ => ⟨_, hv, ?_⟩
  subst hh
  have hl : blen n ≤ 20 := blen_le (by omega)
  refine (pdqOI  hn n (a0 := 0) (b0 := n) (by omega) s o hP rfl rfl (by omega) (Nat.le_refl _) ⟨by omega, by omega⟩ (fun h => by omega)).mono fun v h2 ⟨hv, ys, A', o2, s2, w, hs⟩ => ⟨hv, rfl, ys, A', o2, s2, w.perm, srtR_pairwise o2.len hs⟩
end Go.Proofs.Ytbfejfejahoblaa

/- Plain lists: merging of sorted ranges, the steps. -/
namespace Go.Sx
variable {α : Type} {d : α} {lt : α → α → Prop}
/-- The first element goes to its place. -/
theorem merge_first (o : OrdP lt) {a b i : Nat} {xs zs : List α} (h2 : SrtR d lt (a + 1) b xs) (hr : Rot d a (a + 1) i xs zs) (k1 : a + 1 ≤ i) (k2 : i ≤ b) (hb : b ≤ xs.length)
    (f1 : ∀ k, a + 1 ≤ k → k < i → lt (xs.getD k d) (xs.getD a d)) (f2 : ∀ k, i ≤ k → k < b → ¬ lt (xs.getD k d) (xs.getD a d)) : SrtR d lt a b zs ∧ Stb lt xs zs := by
  refine ⟨fun p q g1 g2 g3 => ?_, rot_stb o (by omega) k1 (by omega) hr fun u v c1 c2 c3 c4 => by rw [show u = a by omega]; exact f1 v c3 c4⟩
  rw [hr.2 q, hr.2 p]
  by_cases c1 : q < i - 1
  · rw [if_neg (by omega), if_pos (by omega), if_neg (by omega), if_pos (by omega)]
    exact h2 _ _ (by omega) (by omega) (by omega)
  · by_cases c2 : q = i - 1
    · rw [if_neg (by omega), if_neg (by omega), if_neg (by omega), if_pos (by omega)]
      rw [show q - (i - (a + 1)) = a by omega]
      exact o.asymm _ _ (f1 _ (by omega) (by omega))
    · rw [if_pos (by omega)]
      by_cases c3 : p < i - 1
      · rw [if_neg (by omega), if_pos (by omega)]
        exact h2 _ _ (by omega) (by omega) g3
      · by_cases c4 : p = i - 1
        · rw [if_neg (by omega), if_neg (by omega), show p - (i - (a + 1)) = a by omega]
          exact f2 q (by omega) g3
        · rw [if_pos (by omega)]
          exact h2 _ _ (by omega) g2 g3
/-- The last element goes to its place. -/
theorem merge_last (o : OrdP lt) {a m i : Nat} {xs zs : List α} (h1 : SrtR d lt a m xs) (hr : Rot d i m (m + 1) xs zs) (k1 : a ≤ i) (k2 : i ≤ m) (hb : m + 1 ≤ xs.length)
    (f1 : ∀ k, a ≤ k → k < i → ¬ lt (xs.getD m d) (xs.getD k d)) (f2 : ∀ k, i ≤ k → k < m → lt (xs.getD m d) (xs.getD k d)) : SrtR d lt a (m + 1) zs ∧ Stb lt xs zs := by
  refine ⟨fun p q g1 g2 g3 => ?_, rot_stb o k2 (by omega) hb hr fun u v c1 c2 c3 c4 => by rw [show v = m by omega]; exact f2 u c1 c2⟩
  rw [hr.2 q, hr.2 p]
  by_cases c1 : q < i
  · rw [if_pos (by omega), if_pos (by omega)]
    exact h1 _ _ g1 g2 (by omega)
  · by_cases c2 : q = i
    · rw [if_neg (by omega), if_pos (by omega), if_pos (by omega), show q + (m - i) = m by omega]
      exact f1 p g1 (by omega)
    · rw [if_neg (by omega), if_neg (by omega)]
      by_cases c3 : p < i
      · rw [if_pos (by omega)]
        exact h1 _ _ g1 (by omega) (by omega)
      · by_cases c4 : p = i
        · rw [if_neg (by omega), if_pos (by omega), show p + (m - i) = m by omega]
          exact o.asymm _ _ (f2 _ (by omega) (by omega))
        · rw [if_neg (by omega), if_neg (by omega)]
          exact h1 _ _ (by omega) (by omega) (by omega)
theorem cross_left {a mid b : Nat} {zs ys : List α} (w : Swp d a mid zs ys) (hc : ∀ p q, a ≤ p → p < mid → mid ≤ q → q < b → ¬ lt (zs.getD q d) (zs.getD p d)) : ∀ p q, a ≤ p → p < mid → mid ≤ q → q < b → ¬ lt (ys.getD q d) (ys.getD p d) := by
  intro p q h1 h2 h3 h4
  rw [w.out (k := q) (.inr h3)]
  exact w.all (P := fun x => ¬ lt (zs.getD q d) x) (fun k k1 k2 => hc k q k1 k2 h3 h4) p h1 h2
theorem cross_right {a mid b : Nat} {zs ys : List α} (w : Swp d mid b zs ys) (hc : ∀ p q, a ≤ p → p < mid → mid ≤ q → q < b → ¬ lt (zs.getD q d) (zs.getD p d)) : ∀ p q, a ≤ p → p < mid → mid ≤ q → q < b → ¬ lt (ys.getD q d) (ys.getD p d) := by
  intro p q h1 h2 h3 h4
  rw [w.out (k := p) (.inl h2)]
  exact w.all (P := fun x => ¬ lt x (zs.getD p d)) (fun k k1 k2 => hc p k h1 h2 k1 k2) q h3 h4
theorem srtR_out {a b a' b' : Nat} {zs ys : List α} (w : Swp d a' b' zs ys) (h : SrtR d lt a b zs) (hd : b ≤ a' ∨ b' ≤ a) : SrtR d lt a b ys := by
  intro p q h1 h2 h3
  rw [w.out (k := q) (by omega), w.out (k := p) (by omega)]
  exact h p q h1 h2 h3
end Go.Sx
namespace Go.Sx
variable {α : Type} {d : α} {lt : α → α → Prop}
/-- Sorted within each block of a size, between two places. -/
def BlkS (d : α) (lt : α → α → Prop) (bs a m : Nat) (xs : List α) : Prop := ∀ p q, a ≤ p → p < q → q < m → p / bs = q / bs → ¬ lt (xs.getD q d) (xs.getD p d)
theorem blk_start {bs : Nat} {xs : List α} : BlkS d lt bs 0 0 xs := fun _ _ _ _ h _ => by omega
theorem blk_out {bs a m a' b' : Nat} {xs zs : List α} (w : Swp d a' b' xs zs) (h : BlkS d lt bs a m xs) (hd : m ≤ a' ∨ b' ≤ a) : BlkS d lt bs a m zs := fun p q h1 h2 h3 h4 => by
  rw [w.out (k := q) (by omega), w.out (k := p) (by omega)]; exact h p q h1 h2 h3 h4
/-- One more block is sorted. -/
theorem blk_step {bs k b : Nat} {xs zs : List α} (hb : 0 < bs) (h : BlkS d lt bs 0 (bs * k) xs) (w : Swp d (bs * k) b xs zs) (hs : SrtR d lt (bs * k) b zs) : BlkS d lt bs 0 b zs := by
  intro p q h1 h2 h3 h4
  rcases Nat.lt_or_ge q (bs * k) with h5 | h5
  · rw [w.out (k := q) (.inl h5), w.out (k := p) (by omega)]
    exact h p q h1 h2 h5 h4
  · refine hs p q ?_ h2 h3
    have h6 : k ≤ q / bs := (Nat.le_div_iff_mul_le hb).2 (by rw [Nat.mul_comm]; exact h5)
    rw [← h4] at h6
    have := (Nat.le_div_iff_mul_le hb).1 h6
    rw [Nat.mul_comm] at this
    exact this
theorem blk_srt {bs k m : Nat} {xs : List α} (hb : 0 < bs) (h : BlkS d lt bs (bs * k) m xs) {a b : Nat} (ha : bs * k ≤ a) (hab : a / bs * bs = a) (hbb : b ≤ a + bs) (hm : b ≤ m) : SrtR d lt a b xs := by
  intro p q h1 h2 h3
  refine h p q (by omega) h2 (by omega) ?_
  have e1 : p / bs = a / bs := by
    rw [Nat.div_eq_iff hb]
    omega
  have e2 : q / bs = a / bs := by
    rw [Nat.div_eq_iff hb]
    omega
  rw [e1, e2]
theorem blk_all {bs m : Nat} {xs : List α} (hm : m ≤ bs) (h : BlkS d lt bs 0 m xs) : SrtR d lt 0 m xs := fun p q h1 h2 h3 => h p q h1 h2 h3 (by rw [Nat.div_eq_of_lt (by omega), Nat.div_eq_of_lt (by omega)])
end Go.Sx
