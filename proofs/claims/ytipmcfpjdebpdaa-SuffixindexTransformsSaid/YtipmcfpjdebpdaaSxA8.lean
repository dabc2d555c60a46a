/- Part SD SE P46 P47 P48 A1 A2 A3 P45 P49 A4 A5 A6 A7 A8 of the proof: contracts of functions of the program, and what follows from them. -/
import Derived.Test.YtipmcfpjdebpdaaSxSC
import Derived.Test.YtipmcfpjdebpdaaSxSI
import Derived.Laws.Strings
/- Sorting: partitionEqual, partialInsertionSort. -/
set_option maxRecDepth 100000
namespace Go.Proofs.Ytipmcfpjdebpdaa
open Go Go.Sx
abbrev EInvCI (cf : Int → Int → Int) (h0 : Hp) (p : Option Addr) (n cp a' b' : Nat) (x : Int) (xs : List Int) (F : Bag) (i' J : Nat) (h : Hp) : Prop := a' + 1 ≤ i' ∧ i' ≤ b' ∧ a' + 1 ≤ J ∧ J ≤ b' ∧ OutCI h0 p n cp a' b' xs F h (fun ys => EqR (tI 3).d (fun x y : Int => cf x y < 0) x a' i' ys)
abbrev EStCI (cf : Int → Int → Int) (h0 : Hp) (p : Option Addr) (n cp a' b' : Nat) (x : Int) (xs : List Int) (F : Bag) (i' J : Nat) (h : Hp) : Prop := a' + 1 ≤ i' ∧ i' ≤ b' ∧ a' + 1 ≤ J ∧ J ≤ b' ∧ OutCI h0 p n cp a' b' xs F h (fun ys => EqR (tI 3).d (fun x y : Int => cf x y < 0) x a' i' ys ∧ (i' < J → ¬ (fun x y : Int => cf x y < 0) (ys.getD a' (tI 3).d) (ys.getD (J - 1) (tI 3).d)))
theorem partitionEqualCI {h0 h : Hp} {p : Option Addr} {n cp a' b' pv' : Nat} {a b pv : Int} {xs : List Int} {A F : Bag} {cmp : Value} {cf : Int → Int → Int} {P : Int → Prop} (hX : CmpCI h0 F cmp cf P) (ho : OrdP (fun x y : Int => cf x y < 0)) (s : St h0 h (A + F)) (o : Sl (tI 3) p n cp xs A) (hP : ∀ k, k < n → P (xs.getD k (tI 3).d)) (ea : a = (a' : Int)) (eb : b = (b' : Int)) (ev : pv = (pv' : Int)) (hpv : a' ≤ pv' ∧ pv' < b') (hb : b' ≤ n) (hn : n < 1000000) :
    HCalls Try.prog 84 #[.slice p n cp, .int .i64 a, .int .i64 b, .int .i64 pv, cmp] h (fun v h' => ∃ m : Nat, v = .int .i64 (m : Int) ∧ a' + 1 ≤ m ∧ m ≤ b' ∧ OutCI h0 p n cp a' b' xs F h' (EqR (tI 3).d (fun x y : Int => cf x y < 0) (xs.getD pv' (tI 3).d) a' m)) := by
  subst ea eb ev
  have hl0 := o.len
  refine slices_partitionEqualCmpFunc_int_call ?_
  generalize hx : xs.getD pv' (tI 3).d = x
  generalize hR : (fun v h' => ∃ m : Nat, v = Value.int .i64 (m : Int) ∧ a' + 1 ≤ m ∧ m ≤ b' ∧ OutCI h0 p n cp a' b' xs F h' (EqR (tI 3).d (fun x y : Int => cf x y < 0) x a' m)) = R
  have hRi : ∀ (v : Value) (h' : Hp) (m : Nat), v = .int .i64 (m : Int) → a' + 1 ≤ m → m ≤ b' → OutCI h0 p n cp a' b' xs F h' (EqR (tI 3).d (fun x y : Int => cf x y < 0) x a' m) → R v h' := by
    intro v h' m h1 h2 h3 h4; rw [← hR]; exact ⟨m, h1, h2, h3, h4⟩
  clear hR
  have b7 : ∀ (i' J : Nat) (h' : Hp) (nx : Int × Int × Unit → Hp → Prop), EStCI cf h0 p n cp a' b' x xs F i' J h' → (∀ h', EInvCI cf h0 p n cp a' b' x xs F (i' + 1) (J - 1) h' → i' < J → nx ((i' : Int) + 1, (J : Int) - 1 - 1, ()) h') → slices_partitionEqualCmpFunc_int_b7 p n cp a' cmp i' ((J : Int) - 1) h' nx R := by
    rintro i' J h' nx ⟨hi1, hi2, hJ1, hJ2, ys, A1, o, s, w, he, hs2⟩ hnx
    have hl := o.len
    rw [slices_partitionEqualCmpFunc_int_b7_eq]
    refine condP (fun hlt => ?_) (fun hlt => ?_)
    · rw [slices_partitionEqualCmpFunc_int_b8_eq]
      exact hRi _ _ i' rfl hi1 hi2 ⟨ys, A1, o, s, w, he⟩
    · refine swOI (u' := i') (v' := J - 1) o s rfl (by omega) (by omega) (by omega) fun h6 A6 o6 s6 => ⟨⟨by omega, by omega⟩, ⟨by omega, by omega⟩, ?_⟩
      exact hnx _ ⟨by omega, by omega, by omega, by omega, _, A6, o6, s6, .step w (by omega) (by omega) (by omega) (by omega) (by omega), eq_swap (by omega) (by omega) (by omega) he (hs2 (by omega))⟩ (by omega)
  have b4 : ∀ (i' J : Nat) (h' : Hp) (nx : Int × Int × Unit → Hp → Prop), EInvCI cf h0 p n cp a' b' x xs F i' J h' → (∀ i2 J2 h', i' + 1 ≤ i2 → J2 + 1 ≤ J → EInvCI cf h0 p n cp a' b' x xs F i2 J2 h' → nx ((i2 : Int), (J2 : Int) - 1, ()) h') → slices_partitionEqualCmpFunc_int_b4 p n cp a' cmp i' ((J : Int) - 1) h' nx R := by
    rintro i' J h' nx hI hnx
    rw [slices_partitionEqualCmpFunc_int_b4_eq]
    refine ⟨fun j h2 => ∃ J2 : Nat, j.1 = (J2 : Int) - 1 ∧ J2 ≤ J ∧ EInvCI cf h0 p n cp a' b' x xs F i' J2 h2, fun j _ => (j.1 + 1).toNat, ⟨J, rfl, Nat.le_refl _, hI⟩, ?_⟩
    clear hI
    rintro ⟨_, _⟩ h2 ⟨J2, rfl, hJJ, hi1, hi2, hJ1, hJ2, ys, A1, o, s, w, he⟩
    dsimp only
    have hl := o.len
    have hP := w.allN hl0 hP
    have ch := fun (h3 : Hp) (s : St h0 h3 (A1 + F)) (g : i' < J2 → ¬ (fun x y : Int => cf x y < 0) (ys.getD a' (tI 3).d) (ys.getD (J2 - 1) (tI 3).d)) => b7 i' J2 h3 nx ⟨hi1, hi2, hJ1, hJ2, ys, A1, o, s, w, he, g⟩ fun h' hp hq => by have := hnx (i' + 1) (J2 - 1) h' (by omega) (by omega) hp; rwa [show ((i' + 1 : Nat) : Int) = (i' : Int) + 1 by push_cast; rfl, show ((J2 - 1 : Nat) : Int) - 1 = (J2 : Int) - 1 - 1 by omega] at this
    rw [slices_partitionEqualCmpFunc_int_b5_eq]
    refine condP (fun hlt => ?_) (fun hlt => ch _ s fun h => by omega)
    have r := o.rd s
    refine ldOI (i' := a') r rfl (by omega) (ldOI (i' := J2 - 1) r (by omega) (by omega) ?_)
    refine hX _ _ _ _ _ (s.at F) (hP _ (by omega)) (hP _ (by omega)) fun h5 e5 => ⟨_, rfl, ?_⟩; have s := s.grow e5
    refine condP (fun hc => ?_) (fun hc => ch _ s fun _ => hc)
    rw [slices_partitionEqualCmpFunc_int_b6_eq]
    exact ⟨⟨by omega, by omega⟩, ⟨J2 - 1, by omega, by omega, hi1, hi2, by omega, by omega, ys, A1, o, s, w, he⟩, by omega⟩
  have b2 : ∀ (i' J : Nat) (h' : Hp) (nx : Int × Int × Unit → Hp → Prop), EInvCI cf h0 p n cp a' b' x xs F i' J h' → (∀ i2 J2 h', i' + 1 ≤ i2 → J2 + 1 ≤ J → EInvCI cf h0 p n cp a' b' x xs F i2 J2 h' → nx ((i2 : Int), (J2 : Int) - 1, ()) h') → LoopVC (((i' : Int), ()) : Int × Unit) h' (fun (nx1 : Int × Unit → Hp → Prop) (s4 : Int × Unit) h36 => slices_partitionEqualCmpFunc_int_b2 s4.1 p n cp a' cmp ((J : Int) - 1) h36 nx nx1 R) := by
    rintro i' J h' nx hI hnx
    refine ⟨fun i h2 => ∃ i2 : Nat, i.1 = (i2 : Int) ∧ i' ≤ i2 ∧ EInvCI cf h0 p n cp a' b' x xs F i2 J h2, fun i _ => (b' - i.1).toNat, ⟨i', rfl, Nat.le_refl _, hI⟩, ?_⟩
    clear hI
    rintro ⟨_, _⟩ h2 ⟨i2, rfl, hii, hi1, hi2, hJ1, hJ2, ys, A1, o, s, w, he⟩
    dsimp only
    have hl := o.len
    have hP := w.allN hl0 hP
    have ch := fun (h3 : Hp) (s : St h0 h3 (A1 + F)) => b4 i2 J h3 nx ⟨hi1, hi2, hJ1, hJ2, ys, A1, o, s, w, he⟩ fun i3 J3 h' g1 g2 g3 => hnx i3 J3 h' (by omega) (by omega) g3
    rw [slices_partitionEqualCmpFunc_int_b2_eq]
    refine condP (fun hlt => ?_) (fun hlt => ch _ s)
    have r := o.rd s
    refine ldOI (i' := a') r rfl (by omega) (ldOI (i' := i2) r rfl (by omega) ?_)
    refine hX _ _ _ _ _ (s.at F) (hP _ (by omega)) (hP _ (by omega)) fun h5 e5 => ⟨_, rfl, ?_⟩; have s := s.grow e5
    refine condN (fun hc => ?_) (fun hc => ch _ s)
    rw [slices_partitionEqualCmpFunc_int_b3_eq]
    exact ⟨⟨by omega, by omega⟩, ⟨i2 + 1, by push_cast; rfl, by omega, by omega, by omega, hJ1, hJ2, ys, A1, o, s, w, eq_next he hc⟩, by omega⟩
  rw [slices_partitionEqualCmpFunc_int_b0_eq]
  refine swOI (u' := a') (v' := pv') o s rfl rfl (by omega) (by omega) fun h6 A6 o6 s6 => ⟨⟨by omega, by omega⟩, ⟨by omega, by omega⟩, ?_⟩
  have hx2 : (swapL (tI 3).d xs a' pv').getD a' (tI 3).d = x := by
    rw [swapL_get (by omega) (by omega)]
    by_cases hk : a' = pv'
    · rw [if_pos hk, hk, hx]
    · rw [if_neg hk, if_pos rfl, hx]
  refine ⟨fun ij h2 => ∃ i2 J2 : Nat, ij.1 = (i2 : Int) ∧ ij.2.1 = (J2 : Int) - 1 ∧ EInvCI cf h0 p n cp a' b' x xs F i2 J2 h2, fun ij _ => (b' - ij.1).toNat + (ij.2.1 + 1).toNat, ⟨a' + 1, b', by push_cast; rfl, rfl, Nat.le_refl _, by omega, by omega, Nat.le_refl _, _, A6, o6, s6, .one (Nat.le_refl _) (by omega) (by omega) (by omega) (by omega), hx2, fun k h1 h2 => by rw [show k = a' by omega, hx2]; exact ho.irr _⟩, ?_⟩
  rintro ⟨_, _, _⟩ h2 ⟨i2, J2, rfl, rfl, hI⟩
  dsimp only
  rw [slices_partitionEqualCmpFunc_int_b1_eq]
  refine b2 i2 J2 h2 _ hI fun i3 J3 h3 g1 g2 hI3 => ⟨⟨i3, J3, rfl, rfl, hI3⟩, ?_⟩
  have := hI.1
  have := hI.2.1
  have := hI3.2.1
  dsimp only
  omega
theorem partialInsertionSortCI {h0 h : Hp} {p : Option Addr} {n cp a' b' : Nat} {a b : Int} {xs : List Int} {A F : Bag} {cmp : Value} {cf : Int → Int → Int} {P : Int → Prop} (hX : CmpCI h0 F cmp cf P) (ho : OrdP (fun x y : Int => cf x y < 0)) (s : St h0 h (A + F)) (o : Sl (tI 3) p n cp xs A) (hP : ∀ k, k < n → P (xs.getD k (tI 3).d)) (ea : a = (a' : Int)) (eb : b = (b' : Int)) (hab : a' < b') (hb : b' ≤ n) (hn : n < 1000000)
    (hlow : 0 < a' → ∀ k, a' ≤ k → k < b' → ¬ (fun x y : Int => cf x y < 0) (xs.getD k (tI 3).d) (xs.getD (a' - 1) (tI 3).d)) :
    HCalls Try.prog 83 #[.slice p n cp, .int .i64 a, .int .i64 b, cmp] h (fun v h' => ∃ bb : Bool, v = .bool bb ∧ OutCI h0 p n cp a' b' xs F h' (fun ys => bb = true → SrtR (tI 3).d (fun x y : Int => cf x y < 0) a' b' ys)) := by
  subst ea eb
  have hl0 := o.len
  refine slices_partialInsertionSortCmpFunc_int_call ?_
  generalize hR : (fun v h' => ∃ bb : Bool, v = Value.bool bb ∧ OutCI h0 p n cp a' b' xs F h' (fun ys => bb = true → SrtR (tI 3).d (fun x y : Int => cf x y < 0) a' b' ys)) = R
  have hRf : ∀ (h' : Hp), OutCI h0 p n cp a' b' xs F h' (fun _ => True) → R (.bool false) h' := by
    rintro h' ⟨ys, A1, o, s, w, _⟩; rw [← hR]; exact ⟨false, rfl, ys, A1, o, s, w, fun h => by cases h⟩
  have hRt : ∀ (h' : Hp), OutCI h0 p n cp a' b' xs F h' (SrtR (tI 3).d (fun x y : Int => cf x y < 0) a' b') → R (.bool true) h' := by
    rintro h' ⟨ys, A1, o, s, w, hs⟩; rw [← hR]; exact ⟨true, rfl, ys, A1, o, s, w, fun _ => hs⟩
  clear hR
  rw [slices_partialInsertionSortCmpFunc_int_b0_eq]
  refine ⟨⟨by omega, by omega⟩, fun ic h1 => ∃ (i' c : Nat), ic.1 = (i' : Int) ∧ ic.2.1 = (c : Int) ∧ c ≤ 5 ∧ a' + 1 ≤ i' ∧ i' ≤ b' ∧ OutCI h0 p n cp a' b' xs F h1 (SrtR (tI 3).d (fun x y : Int => cf x y < 0) a' i'), fun ic _ => (5 - ic.2.1).toNat, ⟨a' + 1, 0, by push_cast; rfl, rfl, by omega, Nat.le_refl _, by omega, xs, A, o, s, .refl _, srtR_one (by omega)⟩, ?_⟩
  rintro ⟨_, _, _⟩ h1 ⟨i0, c, rfl, rfl, hc5, hi01, hi02, hO⟩
  dsimp only
  rw [slices_partialInsertionSortCmpFunc_int_b1_eq]
  refine condP (fun hc => ?_) (fun hc => ?_)
  · generalize hNX : (fun (s' : Int × Int × Unit) (h' : Hp) => (∃ (i' c : Nat), s'.1 = (i' : Int) ∧ s'.2.1 = (c : Int) ∧ c ≤ 5 ∧ a' + 1 ≤ i' ∧ i' ≤ b' ∧ OutCI h0 p n cp a' b' xs F h' (SrtR (tI 3).d (fun x y : Int => cf x y < 0) a' i')) ∧ (5 - s'.2.1).toNat < (5 - (c : Int)).toNat) = NX
    have b10 : ∀ (i' : Nat) (h' : Hp), a' + 1 ≤ i' → i' ≤ b' → OutCI h0 p n cp a' b' xs F h' (SrtR (tI 3).d (fun x y : Int => cf x y < 0) a' i') → slices_partialInsertionSortCmpFunc_int_b10 p n cp a' b' cmp i' c h' NX R := by
      intro i' h' g1 g2 g3
      rw [slices_partialInsertionSortCmpFunc_int_b10_eq, ← hNX]
      exact ⟨⟨by omega, by omega⟩, ⟨i', c + 1, rfl, by push_cast; rfl, by omega, g1, g2, g3⟩, by dsimp only; omega⟩
    clear hNX
    have b7 : ∀ (i' : Nat) (h' : Hp), a' + 1 ≤ i' → i' ≤ b' → OutCI h0 p n cp a' b' xs F h' (SrtR (tI 3).d (fun x y : Int => cf x y < 0) a' i') → slices_partialInsertionSortCmpFunc_int_b7 p n cp a' b' cmp i' c h' NX R := by
      intro i' h' g1 g2 g3
      rw [slices_partialInsertionSortCmpFunc_int_b7_eq]
      refine ⟨⟨by omega, by omega⟩, condP (fun h2 => ⟨⟨by omega, by omega⟩, ?_⟩) (fun _ => b10 i' h' g1 g2 g3)⟩
      refine ⟨fun j h2 => ∃ j' : Nat, j.1 = (j' : Int) ∧ i' + 1 ≤ j' ∧ j' ≤ b' ∧ OutCI h0 p n cp a' b' xs F h2 (SrtR (tI 3).d (fun x y : Int => cf x y < 0) a' i'), fun j _ => (b' - j.1).toNat, ⟨i' + 1, by push_cast; rfl, Nat.le_refl _, by omega, g3⟩, ?_⟩
      clear g3
      rintro ⟨_, _⟩ h2 ⟨j', rfl, hj1, hj2, ys, A1, o, s, w, hs⟩
      dsimp only
      have hl := o.len
      have hP := w.allN hl0 hP
      rw [slices_partialInsertionSortCmpFunc_int_b9_eq]
      refine condP (fun hlt => ?_) (fun hlt => b10 i' _ g1 g2 ⟨ys, A1, o, s, w, hs⟩)
      have r := o.rd s
      refine ldOI (i' := j') r rfl (by omega) ⟨⟨by omega, by omega⟩, ldOI (i' := j' - 1) r (by omega) (by omega) ?_⟩
      refine hX _ _ _ _ _ (s.at F) (hP _ (by omega)) (hP _ (by omega)) fun h5 e5 => ⟨_, rfl, ?_⟩; have s := s.grow e5
      refine condN (fun hc => b10 i' _ g1 g2 ⟨ys, A1, o, s, w, hs⟩) (fun hc => ⟨⟨by omega, by omega⟩, ⟨by omega, by omega⟩, ?_⟩)
      refine swOI (u' := j') (v' := j' - 1) o s rfl (by omega) (by omega) (by omega) fun h6 A6 o6 s6 => ?_
      rw [slices_partialInsertionSortCmpFunc_int_b11_eq]
      refine ⟨⟨by omega, by omega⟩, ⟨j' + 1, by push_cast; rfl, by omega, by omega, _, A6, o6, s6, .step w (by omega) (by omega) (by omega) (by omega) (by omega), fun x y k1 k2 k3 => ?_⟩, by omega⟩
      rw [swapL_get (by omega) (by omega), swapL_get (by omega) (by omega), if_neg (by omega), if_neg (by omega), if_neg (by omega), if_neg (by omega)]
      exact hs x y k1 k2 k3
    have b5 : ∀ (i' : Nat) (h' : Hp), a' + 1 ≤ i' → i' ≤ b' → OutCI h0 p n cp a' b' xs F h' (SrtR (tI 3).d (fun x y : Int => cf x y < 0) a' i') → slices_partialInsertionSortCmpFunc_int_b5 p n cp a' b' cmp i' c h' NX R := by
      rintro i' h' g1 g2 ⟨ys, A1, o, s, w, hs⟩
      have hl := o.len
      rw [slices_partialInsertionSortCmpFunc_int_b5_eq]
      refine condP (fun he => hRt _ ⟨ys, A1, o, s, w, by rw [show i' = b' by omega] at hs; exact hs⟩) (fun hne => ⟨⟨by omega, by omega⟩, condP (fun _ => hRf _ ⟨ys, A1, o, s, w, trivial⟩) (fun _ => ⟨⟨by omega, by omega⟩, ⟨by omega, by omega⟩, ?_⟩)⟩)
      refine swOI (u' := i') (v' := i' - 1) o s rfl (by omega) (by omega) (by omega) fun h6 A6 o6 s6 => ⟨⟨by omega, by omega⟩, ?_⟩
      have w6 : Swp (tI 3).d a' b' xs (swapL (tI 3).d ys i' (i' - 1)) := .step w (by omega) (by omega) (by omega) (by omega) (by omega)
      have hs6 : SrtR (tI 3).d (fun x y : Int => cf x y < 0) a' (i' - 1) (swapL (tI 3).d ys i' (i' - 1)) := fun x y k1 k2 k3 => by
        rw [swapL_get (by omega) (by omega), swapL_get (by omega) (by omega), if_neg (by omega), if_neg (by omega), if_neg (by omega), if_neg (by omega)]
        exact hs x y k1 k2 (by omega)
      generalize swapL (tI 3).d ys i' (i' - 1) = zs at *
      clear hs w s o hl
      refine condP (fun h2 => ⟨⟨by omega, by omega⟩, ?_⟩) (fun h2 => b7 i' _ g1 g2 ⟨zs, A6, o6, s6, w6, srtR_one (by omega)⟩)
      refine ⟨fun j h2 => ∃ j' : Nat, j.1 = (j' : Int) ∧ a' ≤ j' ∧ j' ≤ i' - 1 ∧ OutCI h0 p n cp a' b' xs F h2 (InsR (tI 3).d (fun x y : Int => cf x y < 0) a' j' (i' - 1)), fun j _ => j.1.toNat, ⟨i' - 1, by dsimp only; omega, by omega, by omega, zs, A6, o6, s6, w6, ins_start hs6⟩, ?_⟩
      clear hs6 w6 s6 o6 zs
      rintro ⟨_, _⟩ h2 ⟨j', rfl, hj1, hj2, ys, A1, o, s, w, hs⟩
      dsimp only
      have hl := o.len
      have hP := w.allN hl0 hP
      have fin := fun (h3 : Hp) (s : St h0 h3 (A1 + F)) (hx : a' < j' → ¬ (fun x y : Int => cf x y < 0) (ys.getD j' (tI 3).d) (ys.getD (j' - 1) (tI 3).d)) => b7 i' h3 g1 g2 ⟨ys, A1, o, s, w, by have := ins_end ho hj1 hs hx; rwa [show i' - 1 + 1 = i' by omega] at this⟩
      rw [slices_partialInsertionSortCmpFunc_int_b6_eq]
      refine condP (fun hlt => ?_) (fun hlt => fin _ s fun h => by omega)
      have r := o.rd s
      refine ldOI (i' := j') r rfl (by omega) ⟨⟨by omega, by omega⟩, ldOI (i' := j' - 1) r (by omega) (by omega) ?_⟩
      refine hX _ _ _ _ _ (s.at F) (hP _ (by omega)) (hP _ (by omega)) fun h5 e5 => ⟨_, rfl, ?_⟩; have s := s.grow e5
      refine condN (fun hc => fin _ s fun _ => hc) (fun hc => ⟨⟨by omega, by omega⟩, ⟨by omega, by omega⟩, ?_⟩)
      have hja : a' < j' := by
        rcases Nat.lt_or_ge a' j' with h | h
        · exact h
        · obtain rfl : j' = a' := by omega
          rw [w.out (k := j' - 1) (.inl (by omega))] at hc
          exact absurd hc (w.all (P := fun x => ¬ (fun x y : Int => cf x y < 0) x (xs.getD (j' - 1) (tI 3).d)) (hlow (by omega)) j' (Nat.le_refl _) (by omega))
      refine swOI (u' := j') (v' := j' - 1) o s rfl (by omega) (by omega) (by omega) fun h6 A6 o6 s6 => ?_
      rw [slices_partialInsertionSortCmpFunc_int_b8_eq]
      exact ⟨⟨by omega, by omega⟩, ⟨j' - 1, by omega, by omega, by omega, _, A6, o6, s6, .step w (by omega) (by omega) (by omega) (by omega) (by omega), ins_swap ho (by omega) hj2 (by omega) hs hc⟩, by omega⟩
    refine ⟨fun i h2 => ∃ i' : Nat, i.1 = (i' : Int) ∧ a' + 1 ≤ i' ∧ i' ≤ b' ∧ OutCI h0 p n cp a' b' xs F h2 (SrtR (tI 3).d (fun x y : Int => cf x y < 0) a' i'), fun i _ => (b' - i.1).toNat, ⟨i0, rfl, hi01, hi02, hO⟩, ?_⟩
    clear hO
    rintro ⟨_, _⟩ h2 ⟨i', rfl, g1, g2, ys, A1, o, s, w, hs⟩
    dsimp only
    have hl := o.len
    have hP := w.allN hl0 hP
    rw [slices_partialInsertionSortCmpFunc_int_b2_eq]
    refine condP (fun hlt => ?_) (fun hlt => b5 i' _ g1 g2 ⟨ys, A1, o, s, w, hs⟩)
    have r := o.rd s
    refine ldOI (i' := i') r rfl (by omega) ⟨⟨by omega, by omega⟩, ldOI (i' := i' - 1) r (by omega) (by omega) ?_⟩
    refine hX _ _ _ _ _ (s.at F) (hP _ (by omega)) (hP _ (by omega)) fun h5 e5 => ⟨_, rfl, ?_⟩; have s := s.grow e5
    refine condN (fun hc => ?_) (fun hc => b5 i' _ g1 g2 ⟨ys, A1, o, s, w, hs⟩)
    rw [slices_partialInsertionSortCmpFunc_int_b4_eq]
    exact ⟨⟨by omega, by omega⟩, ⟨i' + 1, by push_cast; rfl, by omega, by omega, ys, A1, o, s, w, ins_end ho (by omega) (ins_start hs) fun _ => hc⟩, by omega⟩
  · obtain ⟨ys, A1, o, s, w, hs⟩ := hO
    rw [slices_partialInsertionSortCmpFunc_int_b3_eq]
    exact hRf _ ⟨ys, A1, o, s, w, trivial⟩
abbrev EInvOI (cf : Unit) (h0 : Hp) (p : Option Addr) (n cp a' b' : Nat) (x : Int) (xs : List Int) (F : Bag) (i' J : Nat) (h : Hp) : Prop := a' + 1 ≤ i' ∧ i' ≤ b' ∧ a' + 1 ≤ J ∧ J ≤ b' ∧ OutOI h0 p n cp a' b' xs F h (fun ys => EqR (tI 3).d (fun x y : Int => x < y) x a' i' ys)
abbrev EStOI (cf : Unit) (h0 : Hp) (p : Option Addr) (n cp a' b' : Nat) (x : Int) (xs : List Int) (F : Bag) (i' J : Nat) (h : Hp) : Prop := a' + 1 ≤ i' ∧ i' ≤ b' ∧ a' + 1 ≤ J ∧ J ≤ b' ∧ OutOI h0 p n cp a' b' xs F h (fun ys => EqR (tI 3).d (fun x y : Int => x < y) x a' i' ys ∧ (i' < J → ¬ (fun x y : Int => x < y) (ys.getD a' (tI 3).d) (ys.getD (J - 1) (tI 3).d)))
theorem partitionEqualOI {h0 h : Hp} {p : Option Addr} {n cp a' b' pv' : Nat} {a b pv : Int} {xs : List Int} {A F : Bag} {P : Int → Prop} (s : St h0 h (A + F)) (o : Sl (tI 3) p n cp xs A) (hP : ∀ k, k < n → P (xs.getD k (tI 3).d)) (ea : a = (a' : Int)) (eb : b = (b' : Int)) (ev : pv = (pv' : Int)) (hpv : a' ≤ pv' ∧ pv' < b') (hb : b' ≤ n) (hn : n < 1000000) :
    HCalls Try.prog 74 #[.slice p n cp, .int .i64 a, .int .i64 b, .int .i64 pv] h (fun v h' => ∃ m : Nat, v = .int .i64 (m : Int) ∧ a' + 1 ≤ m ∧ m ≤ b' ∧ OutOI h0 p n cp a' b' xs F h' (EqR (tI 3).d (fun x y : Int => x < y) (xs.getD pv' (tI 3).d) a' m)) := by
  subst ea eb ev
  have hl0 := o.len
  refine slices_partitionEqualOrdered_int_call ?_
  generalize hx : xs.getD pv' (tI 3).d = x
  generalize hR : (fun v h' => ∃ m : Nat, v = Value.int .i64 (m : Int) ∧ a' + 1 ≤ m ∧ m ≤ b' ∧ OutOI h0 p n cp a' b' xs F h' (EqR (tI 3).d (fun x y : Int => x < y) x a' m)) = R
  have hRi : ∀ (v : Value) (h' : Hp) (m : Nat), v = .int .i64 (m : Int) → a' + 1 ≤ m → m ≤ b' → OutOI h0 p n cp a' b' xs F h' (EqR (tI 3).d (fun x y : Int => x < y) x a' m) → R v h' := by
    intro v h' m h1 h2 h3 h4; rw [← hR]; exact ⟨m, h1, h2, h3, h4⟩
  clear hR
  have b7 : ∀ (i' J : Nat) (h' : Hp) (nx : Int × Int × Unit → Hp → Prop), EStOI () h0 p n cp a' b' x xs F i' J h' → (∀ h', EInvOI () h0 p n cp a' b' x xs F (i' + 1) (J - 1) h' → i' < J → nx ((i' : Int) + 1, (J : Int) - 1 - 1, ()) h') → slices_partitionEqualOrdered_int_b7 p n cp a' i' ((J : Int) - 1) h' nx R := by
    rintro i' J h' nx ⟨hi1, hi2, hJ1, hJ2, ys, A1, o, s, w, he, hs2⟩ hnx
    have hl := o.len
    rw [slices_partitionEqualOrdered_int_b7_eq]
    refine condP (fun hlt => ?_) (fun hlt => ?_)
    · rw [slices_partitionEqualOrdered_int_b8_eq]
      exact hRi _ _ i' rfl hi1 hi2 ⟨ys, A1, o, s, w, he⟩
    · refine swOI (u' := i') (v' := J - 1) o s rfl (by omega) (by omega) (by omega) fun h6 A6 o6 s6 => ⟨⟨by omega, by omega⟩, ⟨by omega, by omega⟩, ?_⟩
      exact hnx _ ⟨by omega, by omega, by omega, by omega, _, A6, o6, s6, .step w (by omega) (by omega) (by omega) (by omega) (by omega), eq_swap (by omega) (by omega) (by omega) he (hs2 (by omega))⟩ (by omega)
  have b4 : ∀ (i' J : Nat) (h' : Hp) (nx : Int × Int × Unit → Hp → Prop), EInvOI () h0 p n cp a' b' x xs F i' J h' → (∀ i2 J2 h', i' + 1 ≤ i2 → J2 + 1 ≤ J → EInvOI () h0 p n cp a' b' x xs F i2 J2 h' → nx ((i2 : Int), (J2 : Int) - 1, ()) h') → slices_partitionEqualOrdered_int_b4 p n cp a' i' ((J : Int) - 1) h' nx R := by
    rintro i' J h' nx hI hnx
    rw [slices_partitionEqualOrdered_int_b4_eq]
    refine ⟨fun j h2 => ∃ J2 : Nat, j.1 = (J2 : Int) - 1 ∧ J2 ≤ J ∧ EInvOI () h0 p n cp a' b' x xs F i' J2 h2, fun j _ => (j.1 + 1).toNat, ⟨J, rfl, Nat.le_refl _, hI⟩, ?_⟩
    clear hI
    rintro ⟨_, _⟩ h2 ⟨J2, rfl, hJJ, hi1, hi2, hJ1, hJ2, ys, A1, o, s, w, he⟩
    dsimp only
    have hl := o.len
    have hP := w.allN hl0 hP
    have ch := fun (h3 : Hp) (s : St h0 h3 (A1 + F)) (g : i' < J2 → ¬ (fun x y : Int => x < y) (ys.getD a' (tI 3).d) (ys.getD (J2 - 1) (tI 3).d)) => b7 i' J2 h3 nx ⟨hi1, hi2, hJ1, hJ2, ys, A1, o, s, w, he, g⟩ fun h' hp hq => by have := hnx (i' + 1) (J2 - 1) h' (by omega) (by omega) hp; rwa [show ((i' + 1 : Nat) : Int) = (i' : Int) + 1 by push_cast; rfl, show ((J2 - 1 : Nat) : Int) - 1 = (J2 : Int) - 1 - 1 by omega] at this
    rw [slices_partitionEqualOrdered_int_b5_eq]
    refine condP (fun hlt => ?_) (fun hlt => ch _ s fun h => by omega)
    have r := o.rd s
    refine ldOI (i' := a') r rfl (by omega) (ldOI (i' := J2 - 1) r (by omega) (by omega) ?_)
    refine ⟨_, (Less_ok _ _ _).mono fun v9 h9 ⟨hh9, hv9⟩ => ⟨hv9, hh9⟩, ?_⟩
    refine condP (fun hc => ?_) (fun hc => ch _ s fun _ => hc)
    rw [slices_partitionEqualOrdered_int_b6_eq]
    exact ⟨⟨by omega, by omega⟩, ⟨J2 - 1, by omega, by omega, hi1, hi2, by omega, by omega, ys, A1, o, s, w, he⟩, by omega⟩
  have b2 : ∀ (i' J : Nat) (h' : Hp) (nx : Int × Int × Unit → Hp → Prop), EInvOI () h0 p n cp a' b' x xs F i' J h' → (∀ i2 J2 h', i' + 1 ≤ i2 → J2 + 1 ≤ J → EInvOI () h0 p n cp a' b' x xs F i2 J2 h' → nx ((i2 : Int), (J2 : Int) - 1, ()) h') → LoopVC (((i' : Int), ()) : Int × Unit) h' (fun (nx1 : Int × Unit → Hp → Prop) (s4 : Int × Unit) h36 => slices_partitionEqualOrdered_int_b2 s4.1 p n cp a' ((J : Int) - 1) h36 nx nx1 R) := by
    rintro i' J h' nx hI hnx
    refine ⟨fun i h2 => ∃ i2 : Nat, i.1 = (i2 : Int) ∧ i' ≤ i2 ∧ EInvOI () h0 p n cp a' b' x xs F i2 J h2, fun i _ => (b' - i.1).toNat, ⟨i', rfl, Nat.le_refl _, hI⟩, ?_⟩
    clear hI
    rintro ⟨_, _⟩ h2 ⟨i2, rfl, hii, hi1, hi2, hJ1, hJ2, ys, A1, o, s, w, he⟩
    dsimp only
    have hl := o.len
    have hP := w.allN hl0 hP
    have ch := fun (h3 : Hp) (s : St h0 h3 (A1 + F)) => b4 i2 J h3 nx ⟨hi1, hi2, hJ1, hJ2, ys, A1, o, s, w, he⟩ fun i3 J3 h' g1 g2 g3 => hnx i3 J3 h' (by omega) (by omega) g3
    rw [slices_partitionEqualOrdered_int_b2_eq]
    refine condP (fun hlt => ?_) (fun hlt => ch _ s)
    have r := o.rd s
    refine ldOI (i' := a') r rfl (by omega) (ldOI (i' := i2) r rfl (by omega) ?_)
    refine ⟨_, (Less_ok _ _ _).mono fun v9 h9 ⟨hh9, hv9⟩ => ⟨hv9, hh9⟩, ?_⟩
    refine condN (fun hc => ?_) (fun hc => ch _ s)
    rw [slices_partitionEqualOrdered_int_b3_eq]
    exact ⟨⟨by omega, by omega⟩, ⟨i2 + 1, by push_cast; rfl, by omega, by omega, by omega, hJ1, hJ2, ys, A1, o, s, w, eq_next he hc⟩, by omega⟩
  rw [slices_partitionEqualOrdered_int_b0_eq]
  refine swOI (u' := a') (v' := pv') o s rfl rfl (by omega) (by omega) fun h6 A6 o6 s6 => ⟨⟨by omega, by omega⟩, ⟨by omega, by omega⟩, ?_⟩
  have hx2 : (swapL (tI 3).d xs a' pv').getD a' (tI 3).d = x := by
    rw [swapL_get (by omega) (by omega)]
    by_cases hk : a' = pv'
    · rw [if_pos hk, hk, hx]
    · rw [if_neg hk, if_pos rfl, hx]
  refine ⟨fun ij h2 => ∃ i2 J2 : Nat, ij.1 = (i2 : Int) ∧ ij.2.1 = (J2 : Int) - 1 ∧ EInvOI () h0 p n cp a' b' x xs F i2 J2 h2, fun ij _ => (b' - ij.1).toNat + (ij.2.1 + 1).toNat, ⟨a' + 1, b', by push_cast; rfl, rfl, Nat.le_refl _, by omega, by omega, Nat.le_refl _, _, A6, o6, s6, .one (Nat.le_refl _) (by omega) (by omega) (by omega) (by omega), hx2, fun k h1 h2 => by rw [show k = a' by omega, hx2]; exact ordI.irr _⟩, ?_⟩
  rintro ⟨_, _, _⟩ h2 ⟨i2, J2, rfl, rfl, hI⟩
  dsimp only
  rw [slices_partitionEqualOrdered_int_b1_eq]
  refine b2 i2 J2 h2 _ hI fun i3 J3 h3 g1 g2 hI3 => ⟨⟨i3, J3, rfl, rfl, hI3⟩, ?_⟩
  have := hI.1
  have := hI.2.1
  have := hI3.2.1
  dsimp only
  omega
theorem partialInsertionSortOI {h0 h : Hp} {p : Option Addr} {n cp a' b' : Nat} {a b : Int} {xs : List Int} {A F : Bag} {P : Int → Prop} (s : St h0 h (A + F)) (o : Sl (tI 3) p n cp xs A) (hP : ∀ k, k < n → P (xs.getD k (tI 3).d)) (ea : a = (a' : Int)) (eb : b = (b' : Int)) (hab : a' < b') (hb : b' ≤ n) (hn : n < 1000000)
    (hlow : 0 < a' → ∀ k, a' ≤ k → k < b' → ¬ (fun x y : Int => x < y) (xs.getD k (tI 3).d) (xs.getD (a' - 1) (tI 3).d)) :
    HCalls Try.prog 72 #[.slice p n cp, .int .i64 a, .int .i64 b] h (fun v h' => ∃ bb : Bool, v = .bool bb ∧ OutOI h0 p n cp a' b' xs F h' (fun ys => bb = true → SrtR (tI 3).d (fun x y : Int => x < y) a' b' ys)) := by
  subst ea eb
  have hl0 := o.len
  refine slices_partialInsertionSortOrdered_int_call ?_
  generalize hR : (fun v h' => ∃ bb : Bool, v = Value.bool bb ∧ OutOI h0 p n cp a' b' xs F h' (fun ys => bb = true → SrtR (tI 3).d (fun x y : Int => x < y) a' b' ys)) = R
  have hRf : ∀ (h' : Hp), OutOI h0 p n cp a' b' xs F h' (fun _ => True) → R (.bool false) h' := by
    rintro h' ⟨ys, A1, o, s, w, _⟩; rw [← hR]; exact ⟨false, rfl, ys, A1, o, s, w, fun h => by cases h⟩
  have hRt : ∀ (h' : Hp), OutOI h0 p n cp a' b' xs F h' (SrtR (tI 3).d (fun x y : Int => x < y) a' b') → R (.bool true) h' := by
    rintro h' ⟨ys, A1, o, s, w, hs⟩; rw [← hR]; exact ⟨true, rfl, ys, A1, o, s, w, fun _ => hs⟩
  clear hR
  rw [slices_partialInsertionSortOrdered_int_b0_eq]
  refine ⟨⟨by omega, by omega⟩, fun ic h1 => ∃ (i' c : Nat), ic.1 = (i' : Int) ∧ ic.2.1 = (c : Int) ∧ c ≤ 5 ∧ a' + 1 ≤ i' ∧ i' ≤ b' ∧ OutOI h0 p n cp a' b' xs F h1 (SrtR (tI 3).d (fun x y : Int => x < y) a' i'), fun ic _ => (5 - ic.2.1).toNat, ⟨a' + 1, 0, by push_cast; rfl, rfl, by omega, Nat.le_refl _, by omega, xs, A, o, s, .refl _, srtR_one (by omega)⟩, ?_⟩
  rintro ⟨_, _, _⟩ h1 ⟨i0, c, rfl, rfl, hc5, hi01, hi02, hO⟩
  dsimp only
  rw [slices_partialInsertionSortOrdered_int_b1_eq]
  refine condP (fun hc => ?_) (fun hc => ?_)
  · generalize hNX : (fun (s' : Int × Int × Unit) (h' : Hp) => (∃ (i' c : Nat), s'.1 = (i' : Int) ∧ s'.2.1 = (c : Int) ∧ c ≤ 5 ∧ a' + 1 ≤ i' ∧ i' ≤ b' ∧ OutOI h0 p n cp a' b' xs F h' (SrtR (tI 3).d (fun x y : Int => x < y) a' i')) ∧ (5 - s'.2.1).toNat < (5 - (c : Int)).toNat) = NX
    have b10 : ∀ (i' : Nat) (h' : Hp), a' + 1 ≤ i' → i' ≤ b' → OutOI h0 p n cp a' b' xs F h' (SrtR (tI 3).d (fun x y : Int => x < y) a' i') → slices_partialInsertionSortOrdered_int_b10 p n cp a' b' i' c h' NX R := by
      intro i' h' g1 g2 g3
      rw [slices_partialInsertionSortOrdered_int_b10_eq, ← hNX]
      exact ⟨⟨by omega, by omega⟩, ⟨i', c + 1, rfl, by push_cast; rfl, by omega, g1, g2, g3⟩, by dsimp only; omega⟩
    clear hNX
    have b7 : ∀ (i' : Nat) (h' : Hp), a' + 1 ≤ i' → i' ≤ b' → OutOI h0 p n cp a' b' xs F h' (SrtR (tI 3).d (fun x y : Int => x < y) a' i') → slices_partialInsertionSortOrdered_int_b7 p n cp a' b' i' c h' NX R := by
      intro i' h' g1 g2 g3
      rw [slices_partialInsertionSortOrdered_int_b7_eq]
      refine ⟨⟨by omega, by omega⟩, condP (fun h2 => ⟨⟨by omega, by omega⟩, ?_⟩) (fun _ => b10 i' h' g1 g2 g3)⟩
      refine ⟨fun j h2 => ∃ j' : Nat, j.1 = (j' : Int) ∧ i' + 1 ≤ j' ∧ j' ≤ b' ∧ OutOI h0 p n cp a' b' xs F h2 (SrtR (tI 3).d (fun x y : Int => x < y) a' i'), fun j _ => (b' - j.1).toNat, ⟨i' + 1, by push_cast; rfl, Nat.le_refl _, by omega, g3⟩, ?_⟩
      clear g3
      rintro ⟨_, _⟩ h2 ⟨j', rfl, hj1, hj2, ys, A1, o, s, w, hs⟩
      dsimp only
      have hl := o.len
      have hP := w.allN hl0 hP
      rw [slices_partialInsertionSortOrdered_int_b9_eq]
      refine condP (fun hlt => ?_) (fun hlt => b10 i' _ g1 g2 ⟨ys, A1, o, s, w, hs⟩)
      have r := o.rd s
      refine ldOI (i' := j') r rfl (by omega) ⟨⟨by omega, by omega⟩, ldOI (i' := j' - 1) r (by omega) (by omega) ?_⟩
      refine ⟨_, (Less_ok _ _ _).mono fun v9 h9 ⟨hh9, hv9⟩ => ⟨hv9, hh9⟩, ?_⟩
      refine condN (fun hc => b10 i' _ g1 g2 ⟨ys, A1, o, s, w, hs⟩) (fun hc => ⟨⟨by omega, by omega⟩, ⟨by omega, by omega⟩, ?_⟩)
      refine swOI (u' := j') (v' := j' - 1) o s rfl (by omega) (by omega) (by omega) fun h6 A6 o6 s6 => ?_
      rw [slices_partialInsertionSortOrdered_int_b11_eq]
      refine ⟨⟨by omega, by omega⟩, ⟨j' + 1, by push_cast; rfl, by omega, by omega, _, A6, o6, s6, .step w (by omega) (by omega) (by omega) (by omega) (by omega), fun x y k1 k2 k3 => ?_⟩, by omega⟩
      rw [swapL_get (by omega) (by omega), swapL_get (by omega) (by omega), if_neg (by omega), if_neg (by omega), if_neg (by omega), if_neg (by omega)]
      exact hs x y k1 k2 k3
    have b5 : ∀ (i' : Nat) (h' : Hp), a' + 1 ≤ i' → i' ≤ b' → OutOI h0 p n cp a' b' xs F h' (SrtR (tI 3).d (fun x y : Int => x < y) a' i') → slices_partialInsertionSortOrdered_int_b5 p n cp a' b' i' c h' NX R := by
      rintro i' h' g1 g2 ⟨ys, A1, o, s, w, hs⟩
      have hl := o.len
      rw [slices_partialInsertionSortOrdered_int_b5_eq]
      refine condP (fun he => hRt _ ⟨ys, A1, o, s, w, by rw [show i' = b' by omega] at hs; exact hs⟩) (fun hne => ⟨⟨by omega, by omega⟩, condP (fun _ => hRf _ ⟨ys, A1, o, s, w, trivial⟩) (fun _ => ⟨⟨by omega, by omega⟩, ⟨by omega, by omega⟩, ?_⟩)⟩)
      refine swOI (u' := i') (v' := i' - 1) o s rfl (by omega) (by omega) (by omega) fun h6 A6 o6 s6 => ⟨⟨by omega, by omega⟩, ?_⟩
      have w6 : Swp (tI 3).d a' b' xs (swapL (tI 3).d ys i' (i' - 1)) := .step w (by omega) (by omega) (by omega) (by omega) (by omega)
      have hs6 : SrtR (tI 3).d (fun x y : Int => x < y) a' (i' - 1) (swapL (tI 3).d ys i' (i' - 1)) := fun x y k1 k2 k3 => by
        rw [swapL_get (by omega) (by omega), swapL_get (by omega) (by omega), if_neg (by omega), if_neg (by omega), if_neg (by omega), if_neg (by omega)]
        exact hs x y k1 k2 (by omega)
      generalize swapL (tI 3).d ys i' (i' - 1) = zs at *
      clear hs w s o hl
      refine condP (fun h2 => ⟨⟨by omega, by omega⟩, ?_⟩) (fun h2 => b7 i' _ g1 g2 ⟨zs, A6, o6, s6, w6, srtR_one (by omega)⟩)
      refine ⟨fun j h2 => ∃ j' : Nat, j.1 = (j' : Int) ∧ a' ≤ j' ∧ j' ≤ i' - 1 ∧ OutOI h0 p n cp a' b' xs F h2 (InsR (tI 3).d (fun x y : Int => x < y) a' j' (i' - 1)), fun j _ => j.1.toNat, ⟨i' - 1, by dsimp only; omega, by omega, by omega, zs, A6, o6, s6, w6, ins_start hs6⟩, ?_⟩
      clear hs6 w6 s6 o6 zs
      rintro ⟨_, _⟩ h2 ⟨j', rfl, hj1, hj2, ys, A1, o, s, w, hs⟩
      dsimp only
      have hl := o.len
      have hP := w.allN hl0 hP
      have fin := fun (h3 : Hp) (s : St h0 h3 (A1 + F)) (hx : a' < j' → ¬ (fun x y : Int => x < y) (ys.getD j' (tI 3).d) (ys.getD (j' - 1) (tI 3).d)) => b7 i' h3 g1 g2 ⟨ys, A1, o, s, w, by have := ins_end ordI hj1 hs hx; rwa [show i' - 1 + 1 = i' by omega] at this⟩
      rw [slices_partialInsertionSortOrdered_int_b6_eq]
      refine condP (fun hlt => ?_) (fun hlt => fin _ s fun h => by omega)
      have r := o.rd s
      refine ldOI (i' := j') r rfl (by omega) ⟨⟨by omega, by omega⟩, ldOI (i' := j' - 1) r (by omega) (by omega) ?_⟩
      refine ⟨_, (Less_ok _ _ _).mono fun v9 h9 ⟨hh9, hv9⟩ => ⟨hv9, hh9⟩, ?_⟩
      refine condN (fun hc => fin _ s fun _ => hc) (fun hc => ⟨⟨by omega, by omega⟩, ⟨by omega, by omega⟩, ?_⟩)
      have hja : a' < j' := by
        rcases Nat.lt_or_ge a' j' with h | h
        · exact h
        · obtain rfl : j' = a' := by omega
          rw [w.out (k := j' - 1) (.inl (by omega))] at hc
          exact absurd hc (w.all (P := fun x => ¬ (fun x y : Int => x < y) x (xs.getD (j' - 1) (tI 3).d)) (hlow (by omega)) j' (Nat.le_refl _) (by omega))
      refine swOI (u' := j') (v' := j' - 1) o s rfl (by omega) (by omega) (by omega) fun h6 A6 o6 s6 => ?_
      rw [slices_partialInsertionSortOrdered_int_b8_eq]
      exact ⟨⟨by omega, by omega⟩, ⟨j' - 1, by omega, by omega, by omega, _, A6, o6, s6, .step w (by omega) (by omega) (by omega) (by omega) (by omega), ins_swap ordI (by omega) hj2 (by omega) hs hc⟩, by omega⟩
    refine ⟨fun i h2 => ∃ i' : Nat, i.1 = (i' : Int) ∧ a' + 1 ≤ i' ∧ i' ≤ b' ∧ OutOI h0 p n cp a' b' xs F h2 (SrtR (tI 3).d (fun x y : Int => x < y) a' i'), fun i _ => (b' - i.1).toNat, ⟨i0, rfl, hi01, hi02, hO⟩, ?_⟩
    clear hO
    rintro ⟨_, _⟩ h2 ⟨i', rfl, g1, g2, ys, A1, o, s, w, hs⟩
    dsimp only
    have hl := o.len
    have hP := w.allN hl0 hP
    rw [slices_partialInsertionSortOrdered_int_b2_eq]
    refine condP (fun hlt => ?_) (fun hlt => b5 i' _ g1 g2 ⟨ys, A1, o, s, w, hs⟩)
    have r := o.rd s
    refine ldOI (i' := i') r rfl (by omega) ⟨⟨by omega, by omega⟩, ldOI (i' := i' - 1) r (by omega) (by omega) ?_⟩
    refine ⟨_, (Less_ok _ _ _).mono fun v9 h9 ⟨hh9, hv9⟩ => ⟨hv9, hh9⟩, ?_⟩
    refine condN (fun hc => ?_) (fun hc => b5 i' _ g1 g2 ⟨ys, A1, o, s, w, hs⟩)
    rw [slices_partialInsertionSortOrdered_int_b4_eq]
    exact ⟨⟨by omega, by omega⟩, ⟨i' + 1, by push_cast; rfl, by omega, by omega, ys, A1, o, s, w, ins_end ordI (by omega) (ins_start hs) fun _ => hc⟩, by omega⟩
  · obtain ⟨ys, A1, o, s, w, hs⟩ := hO
    rw [slices_partialInsertionSortOrdered_int_b3_eq]
    exact hRf _ ⟨ys, A1, o, s, w, trivial⟩
end Go.Proofs.Ytipmcfpjdebpdaa

/- Sorting: pdqsort. -/
set_option maxRecDepth 100000
namespace Go.Proofs.Ytipmcfpjdebpdaa
open Go Go.Sx
abbrev ZInvCI (cf : Int → Int → Int) (h0 : Hp) (p : Option Addr) (n cp a0 b0 : Nat) (xs : List Int) (F : Bag) (a1 b1 : Nat) (h : Hp) : Prop := a0 ≤ a1 ∧ a1 ≤ b1 ∧ b1 ≤ b0 ∧ OutCI h0 p n cp a0 b0 xs F h (OutR (tI 3).d (fun x y : Int => cf x y < 0) a0 b0 a1 b1)
theorem pdqCI {h0 : Hp} {p : Option Addr} {n cp : Nat} {F : Bag} {cmp : Value} {cf : Int → Int → Int} {P : Int → Prop} (hX : CmpCI h0 F cmp cf P) (ho : OrdP (fun x y : Int => cf x y < 0)) (hn : n < 1000000) : ∀ (N : Nat) {h : Hp} {a0 b0 : Nat} {a b lim : Int} {xs : List Int} {A : Bag} (_ : b0 - a0 ≤ N) (_ : St h0 h (A + F)) (_ : Sl (tI 3) p n cp xs A) (_ : ∀ k, k < n → P (xs.getD k (tI 3).d)) (_ : a = (a0 : Int)) (_ : b = (b0 : Int)) (_ : a0 ≤ b0) (_ : b0 ≤ n) (_ : 0 ≤ lim ∧ lim < 1000000)
    (_ : 0 < a0 → ∀ k, a0 ≤ k → k < b0 → ¬ (fun x y : Int => cf x y < 0) (xs.getD k (tI 3).d) (xs.getD (a0 - 1) (tI 3).d)),
    HCalls Try.prog 63 #[.slice p n cp, .int .i64 a, .int .i64 b, .int .i64 lim, cmp] h (fun v h' => v = .tuple #[] ∧ OutCI h0 p n cp a0 b0 xs F h' (SrtR (tI 3).d (fun x y : Int => cf x y < 0) a0 b0)) := by
  intro N
  induction N using Nat.strongRecOn with
  | _ N ih =>
  intro h a0 b0 a b lim xs A hN s o hP ea eb hab hb hlim hlow
  subst ea eb
  have hl0 := o.len
  refine slices_pdqsortCmpFunc_int_call ?_
  generalize hR : (fun v h' => v = Value.tuple #[] ∧ OutCI h0 p n cp a0 b0 xs F h' (SrtR (tI 3).d (fun x y : Int => cf x y < 0) a0 b0)) = R
  have fin : ∀ (a1 b1 : Nat) (h' : Hp) (ys : List Int), a0 ≤ a1 → b1 ≤ b0 → Swp (tI 3).d a0 b0 xs ys → OutR (tI 3).d (fun x y : Int => cf x y < 0) a0 b0 a1 b1 ys → OutCI h0 p n cp a1 b1 ys F h' (SrtR (tI 3).d (fun x y : Int => cf x y < 0) a1 b1) → R (.tuple #[]) h' := by
    rintro a1 b1 h' ys g1 g2 w ho ⟨zs, A2, o2, s2, w2, hs⟩
    have := w.len
    rw [← hR]
    exact ⟨rfl, zs, A2, o2, s2, w.trans (w2.mono g1 g2 (by omega)).1, outR_done (outR_swp g1 g2 ho w2) hs⟩
  clear hR
  -- what lies before the range is not more than what lies in it
  have low : ∀ (a1 b1 : Nat) (ys : List Int), a0 ≤ a1 → b1 ≤ b0 → Swp (tI 3).d a0 b0 xs ys → OutR (tI 3).d (fun x y : Int => cf x y < 0) a0 b0 a1 b1 ys → 0 < a1 → ∀ k, a1 ≤ k → k < b1 → ¬ (fun x y : Int => cf x y < 0) (ys.getD k (tI 3).d) (ys.getD (a1 - 1) (tI 3).d) := by
    intro a1 b1 ys g1 g2 w ho h1 k k1 k2
    by_cases he : a1 = a0
    · subst he
      rw [w.out (k := a1 - 1) (.inl (by omega))]
      exact w.all (P := fun x => ¬ (fun x y : Int => cf x y < 0) x (xs.getD (a1 - 1) (tI 3).d)) (hlow h1) k k1 (by omega)
    · exact ho (a1 - 1) k (by omega) (by omega) (by omega) (by omega)
  have b5 : ∀ (a1 b1 pv : Nat) (lim : Int) (h' : Hp) (nx : Int × Int × Int × Bool × Bool × Unit → Hp → Prop), ZInvCI cf h0 p n cp a0 b0 xs F a1 b1 h' → a1 ≤ pv → pv < b1 → 0 ≤ lim → lim < 1000000 →
      (∀ (a2 b2 : Nat) (l2 : Int) (wb wp : Bool) (h2 : Hp), ZInvCI cf h0 p n cp a0 b0 xs F a2 b2 h2 → b2 - a2 < b1 - a1 → 0 ≤ l2 → l2 < 1000000 → nx ((a2 : Int), (b2 : Int), l2, wb, wp, ()) h2) → slices_pdqsortCmpFunc_int_b5 p n cp a1 b1 lim cmp ((b1 : Int) - a1) pv h' nx R := by
    rintro a1 b1 pv lim h' nx ⟨g1, g2, g3, ys, A1, o, s, w, ho2⟩ hv1 hv2 hl1 hl2 hnx
    have hl := o.len
    have hPy := w.allN hl0 hP
    rw [slices_pdqsortCmpFunc_int_b5_eq]
    refine (partitionCI hX ho s o hPy rfl rfl rfl ⟨hv1, hv2⟩ (by omega) hn).mono fun v h2 ⟨m, bb, hv, m1, m2, zs, A2, o2, s2, w2, hp⟩ => ⟨_, _, hv, ⟨by omega, by omega⟩, ⟨by omega, by omega⟩, quo_intro (by omega) (by omega) (by omega) ?_⟩
    have w02 := w.trans (w2.mono g1 g3 (by omega)).1
    have ho3 := outR_swp g1 g3 ho2 w2
    have hPz := w02.allN hl0 hP
    have hlz := o2.len
    have hlow2 := low a1 b1 zs g1 g3 w02 ho3
    refine condP (fun hlt => ?_) (fun hlt => ⟨⟨by omega, by omega⟩, ?_⟩)
    · refine (ih (m - a1) (by omega) (a0 := a1) (b0 := m) (Nat.le_refl _) s2 o2 hPz rfl rfl m1 (by omega) ⟨hl1, hl2⟩ fun q k k1 k2 => hlow2 q k k1 (by omega)).mono fun v h3 ⟨hv, us, A3, o3, s3, w3, hs3⟩ => ⟨hv, ⟨by omega, by omega⟩, ?_⟩
      have hm : us.getD m (tI 3).d = zs.getD m (tI 3).d := w3.out (.inr (Nat.le_refl _))
      have hp3 : PartR (tI 3).d (fun x y : Int => cf x y < 0) a1 b1 m us := ⟨by rw [hm]; exact w3.all (P := fun x => (fun x y : Int => cf x y < 0) x (zs.getD m (tI 3).d)) hp.1, fun k k1 k2 => by rw [hm, w3.out (k := k) (.inr (by omega))]; exact hp.2 k k1 k2⟩
      have := hnx (m + 1) b1 lim (decide (((b1 : Int) - a1) / 8 ≤ (m : Int) - a1)) bb h3 ⟨by omega, by omega, g3, us, A3, o3, s3, w02.trans (w3.mono g1 (by omega) (by omega)).1, outR_left ho g1 g3 m1 m2 (outR_swp g1 g3 ho3 (w3.mono (Nat.le_refl _) (by omega) (by omega)).1) hp3 hs3⟩ (by omega) hl1 hl2
      rwa [show ((m + 1 : Nat) : Int) = (m : Int) + 1 by push_cast; rfl] at this
    · refine (ih (b1 - (m + 1)) (by omega) (a0 := m + 1) (b0 := b1) (Nat.le_refl _) s2 o2 hPz (by push_cast; rfl) rfl (by omega) (by omega) ⟨hl1, hl2⟩ fun q k k1 k2 => hp.2 k (by omega) k2).mono fun v h3 ⟨hv, us, A3, o3, s3, w3, hs3⟩ => ⟨hv, ?_⟩
      have hm : us.getD m (tI 3).d = zs.getD m (tI 3).d := w3.out (.inl (by omega))
      have hp3 : PartR (tI 3).d (fun x y : Int => cf x y < 0) a1 b1 m us := ⟨fun k k1 k2 => by rw [hm, w3.out (k := k) (.inl (by omega))]; exact hp.1 k k1 k2, fun k k1 k2 => by rw [hm]; exact w3.all (P := fun x => ¬ (fun x y : Int => cf x y < 0) x (zs.getD m (tI 3).d)) (fun k k1 k2 => hp.2 k (by omega) k2) k (by omega) k2⟩
      exact hnx a1 m lim _ bb h3 ⟨g1, m1, by omega, us, A3, o3, s3, w02.trans (w3.mono (by omega) g3 (by omega)).1, outR_right ho g1 g3 m1 m2 (outR_swp g1 g3 ho3 (w3.mono (by omega) (Nat.le_refl _) (by omega)).1) hp3 hs3⟩ (by omega) hl1 hl2
  have b4 : ∀ (a1 b1 pv : Nat) (lim : Int) (wb wp : Bool) (h' : Hp) (nx : Int × Int × Int × Bool × Bool × Unit → Hp → Prop), ZInvCI cf h0 p n cp a0 b0 xs F a1 b1 h' → a1 ≤ pv → pv < b1 → 0 ≤ lim → lim < 1000000 →
      (∀ (a2 b2 : Nat) (l2 : Int) (wb wp : Bool) (h2 : Hp), ZInvCI cf h0 p n cp a0 b0 xs F a2 b2 h2 → b2 - a2 < b1 - a1 → 0 ≤ l2 → l2 < 1000000 → nx ((a2 : Int), (b2 : Int), l2, wb, wp, ()) h2) → slices_pdqsortCmpFunc_int_b4 p n cp a1 b1 lim cmp wb wp ((b1 : Int) - a1) pv h' nx R := by
    rintro a1 b1 pv lim wb wp h' nx ⟨g1, g2, g3, ys, A1, o, s, w, ho2⟩ hv1 hv2 hl1 hl2 hnx
    have hl := o.len
    rw [slices_pdqsortCmpFunc_int_b4_eq]
    refine condP (fun ha => ⟨⟨by omega, by omega⟩, ?_⟩) (fun _ => b5 a1 b1 pv lim _ _ ⟨g1, g2, g3, ys, A1, o, s, w, ho2⟩ hv1 hv2 hl1 hl2 hnx)
    have hlow2 := low a1 b1 ys g1 g3 w ho2 (by omega)
    have r := o.rd s
    have hPy := w.allN hl0 hP
    have hP := hPy
    refine ldOI (i' := a1 - 1) r (by omega) (by omega) (ldOI (i' := pv) r rfl (by omega) ?_)
    refine hX _ _ _ _ _ (s.at F) (hP _ (by omega)) (hP _ (by omega)) fun h5 e5 => ⟨_, rfl, ?_⟩; have s := s.grow e5
    refine condN (fun hc => ?_) (fun hc => b5 a1 b1 pv lim _ _ ⟨g1, g2, g3, ys, A1, o, s, w, ho2⟩ hv1 hv2 hl1 hl2 hnx)
    refine (partitionEqualCI hX ho s o hPy rfl rfl rfl ⟨hv1, hv2⟩ (by omega) hn).mono fun v h2 ⟨m, hv, m1, m2, zs, A2, o2, s2, w2, hp⟩ => ⟨_, hv, ?_⟩
    exact hnx m b1 lim wb wp h2 ⟨by omega, m2, g3, zs, A2, o2, s2, w.trans (w2.mono g1 g3 (by omega)).1, outR_equal ho g1 g3 (by omega) m2 (outR_swp g1 g3 ho2 w2) hp.2 (w2.all (P := fun x => ¬ (fun x y : Int => cf x y < 0) x (ys.getD pv (tI 3).d)) fun k k1 k2 => ho.trans _ _ _ hc (hlow2 k k1 k2))⟩ (by omega) hl1 hl2
  have b3 : ∀ (a1 b1 pv : Nat) (hint lim : Int) (wb wp : Bool) (h' : Hp) (nx : Int × Int × Int × Bool × Bool × Unit → Hp → Prop), ZInvCI cf h0 p n cp a0 b0 xs F a1 b1 h' → a1 ≤ pv → pv < b1 → 0 ≤ lim → lim < 1000000 →
      (∀ (a2 b2 : Nat) (l2 : Int) (wb wp : Bool) (h2 : Hp), ZInvCI cf h0 p n cp a0 b0 xs F a2 b2 h2 → b2 - a2 < b1 - a1 → 0 ≤ l2 → l2 < 1000000 → nx ((a2 : Int), (b2 : Int), l2, wb, wp, ()) h2) → slices_pdqsortCmpFunc_int_b3 p n cp a1 b1 lim cmp wb wp ((b1 : Int) - a1) pv hint h' nx R := by
    rintro a1 b1 pv hint lim wb wp h' nx hI hv1 hv2 hl1 hl2 hnx
    have go := fun h2 (hI : ZInvCI cf h0 p n cp a0 b0 xs F a1 b1 h2) => b4 a1 b1 pv lim wb wp h2 nx hI hv1 hv2 hl1 hl2 hnx
    rw [slices_pdqsortCmpFunc_int_b3_eq]
    refine cond_intro (fun _ => cond_intro (fun _ => condP (fun _ => ?_) fun _ => go _ hI) fun _ => go _ hI) fun _ => go _ hI
    obtain ⟨g1, g2, g3, ys, A1, o, s, w, ho2⟩ := hI
    have hl := o.len
    refine (partialInsertionSortCI hX ho s o (w.allN hl0 hP) rfl rfl (by omega) (by omega) hn (low a1 b1 ys g1 g3 w ho2)).mono fun v h2 ⟨bb, hv, zs, A2, o2, s2, w2, hp⟩ => ⟨_, hv, cond_intro (fun hb => ?_) (fun hb => ?_)⟩
    · exact fin a1 b1 h2 ys g1 g3 w ho2 ⟨zs, A2, o2, s2, w2, hp hb⟩
    · exact go _ ⟨g1, g2, g3, zs, A2, o2, s2, w.trans (w2.mono g1 g3 (by omega)).1, outR_swp g1 g3 ho2 w2⟩
  have b2 : ∀ (a1 b1 : Nat) (lim : Int) (wb wp : Bool) (h' : Hp) (nx : Int × Int × Int × Bool × Bool × Unit → Hp → Prop), ZInvCI cf h0 p n cp a0 b0 xs F a1 b1 h' → a1 < b1 → 0 ≤ lim → lim < 1000000 →
      (∀ (a2 b2 : Nat) (l2 : Int) (wb wp : Bool) (h2 : Hp), ZInvCI cf h0 p n cp a0 b0 xs F a2 b2 h2 → b2 - a2 < b1 - a1 → 0 ≤ l2 → l2 < 1000000 → nx ((a2 : Int), (b2 : Int), l2, wb, wp, ()) h2) → slices_pdqsortCmpFunc_int_b2 p n cp a1 b1 lim cmp wb wp ((b1 : Int) - a1) h' nx R := by
    rintro a1 b1 lim wb wp h' nx ⟨g1, g2, g3, ys, A1, o, s, w, ho2⟩ hlt hl1 hl2 hnx
    have hl := o.len
    rw [slices_pdqsortCmpFunc_int_b2_eq]
    refine (choosePivotCI hX ho s o (w.allN hl0 hP) rfl rfl hlt (by omega) hn).mono fun v h2 ⟨u, hint, hv, u1, u2, s⟩ => ⟨_, _, hv, condP (fun _ => ?_) (fun _ => ?_)⟩
    · refine (reverseRangeCI s o rfl rfl (by omega) (by omega) hn).mono fun v h2 ⟨hv, zs, A2, o2, s2, w2, _⟩ => ⟨hv, ⟨by omega, by omega⟩, ⟨by omega, by omega⟩, ⟨by omega, by omega⟩, ?_⟩
      have := b3 a1 b1 ((b1 : Int) - 1 - (u - a1)).toNat 1 lim wb wp h2 nx ⟨g1, g2, g3, zs, A2, o2, s2, w.trans (w2.mono g1 g3 (by omega)).1, outR_swp g1 g3 ho2 w2⟩ (by omega) (by omega) hl1 hl2 hnx
      rwa [Int.toNat_of_nonneg (by omega)] at this
    · have := b3 a1 b1 u.toNat hint lim wb wp h2 nx ⟨g1, g2, g3, ys, A1, o, s, w, ho2⟩ (by omega) (by omega) hl1 hl2 hnx
      rwa [Int.toNat_of_nonneg (by omega)] at this
  rw [slices_pdqsortCmpFunc_int_b0_eq]
  refine ⟨fun st h1 => ∃ (a1 b1 : Nat), st.1 = (a1 : Int) ∧ st.2.1 = (b1 : Int) ∧ 0 ≤ st.2.2.1 ∧ st.2.2.1 < 1000000 ∧ ZInvCI cf h0 p n cp a0 b0 xs F a1 b1 h1, fun st _ => (st.2.1 - st.1).toNat, ⟨a0, b0, rfl, rfl, hlim.1, hlim.2, Nat.le_refl _, hab, Nat.le_refl _, xs, A, o, s, .refl _, outR_start⟩, ?_⟩
  rintro ⟨_, _, lim, wb, wp, _⟩ h1 ⟨a1, b1, rfl, rfl, hl1, hl2, hI⟩
  dsimp only at hl1 hl2 ⊢
  have go := fun (l2 : Int) (h2 : Hp) (hI : ZInvCI cf h0 p n cp a0 b0 xs F a1 b1 h2) (hlt : a1 < b1) (q1 : 0 ≤ l2) (q2 : l2 < 1000000) => b2 a1 b1 l2 wb wp h2 (fun s' h' => (∃ (a1 b1 : Nat), s'.1 = (a1 : Int) ∧ s'.2.1 = (b1 : Int) ∧ 0 ≤ s'.2.2.1 ∧ s'.2.2.1 < 1000000 ∧ ZInvCI cf h0 p n cp a0 b0 xs F a1 b1 h') ∧ (s'.2.1 - s'.1).toNat < ((b1 : Int) - a1).toNat) hI hlt q1 q2 fun a2 b2 l2 wb wp h2 hI2 hm k1 k2 => ⟨⟨a2, b2, rfl, rfl, k1, k2, hI2⟩, by have := hI2.2.1; dsimp only; omega⟩
  have hI' := hI
  obtain ⟨g1, g2, g3, ys, A1, o, s, w, ho2⟩ := hI
  have hl := o.len
  rw [slices_pdqsortCmpFunc_int_b1_eq]
  refine ⟨⟨by omega, by omega⟩, condP (fun h12 => ?_) (fun h12 => condP (fun hz => ?_) (fun hz => cond_intro (fun _ => ?_) (fun _ => ?_)))⟩
  · exact (insertionSortCI hX ho s o (w.allN hl0 hP) rfl rfl (by omega) (by omega) hn).mono fun v h2 ⟨hv, hO⟩ => ⟨hv, fin a1 b1 h2 ys g1 g3 w ho2 hO⟩
  · exact (heapSortCI hX ho s o (w.allN hl0 hP) rfl rfl (by omega) (by omega) hn).mono fun v h2 ⟨hv, hO⟩ => ⟨hv, fin a1 b1 h2 ys g1 g3 w ho2 hO⟩
  · refine (breakPatternsCI s o rfl rfl (by omega) (by omega) hn).mono fun v h2 ⟨hv, zs, A2, o2, s2, w2, _⟩ => ⟨hv, ⟨by omega, by omega⟩, ?_⟩
    exact go (lim - 1) h2 ⟨g1, g2, g3, zs, A2, o2, s2, w.trans (w2.mono g1 g3 (by omega)).1, outR_swp g1 g3 ho2 w2⟩ (by omega) (by omega) (by omega)
  · exact go lim h1 hI' (by omega) hl1 hl2
/-- The whole slice. -/
theorem sortCI {h0 h : Hp} {p : Option Addr} {n cp : Nat} {xs : List Int} {A F : Bag} {cmp : Value} {cf : Int → Int → Int} {P : Int → Prop} (hX : CmpCI h0 F cmp cf P) (ho : OrdP (fun x y : Int => cf x y < 0)) (s : St h0 h (A + F)) (o : Sl (tI 3) p n cp xs A) (hP : ∀ k, k < n → P (xs.getD k (tI 3).d)) (hn : n < 1000000) :
    HCalls Try.prog 53 #[.slice p n cp, cmp] h (fun v h' => v = .tuple #[] ∧ ∃ ys A', Sl (tI 3) p n cp ys A' ∧ St h0 h' (A' + F) ∧ ys.Perm xs ∧ ys.Pairwise (fun x y => ¬ (fun x y : Int => cf x y < 0) y x)) := by
  refine slices_SortFunc_Sint_int_call ?_
  rw [slices_SortFunc_Sint_int_b0_eq, wrap_u64_in _ (by omega) (by omega)]
  refine (bitsLen_ok n (by omega) h).mono fun v h1 ⟨hv, hh⟩ => ⟨_, hv, ?_⟩
  subst hh
  have hl : blen n ≤ 20 := blen_le (by omega)
  refine (pdqCI hX ho hn n (a0 := 0) (b0 := n) (by omega) s o hP rfl rfl (by omega) (Nat.le_refl _) ⟨by omega, by omega⟩ (fun h => by omega)).mono fun v h2 ⟨hv, ys, A', o2, s2, w, hs⟩ => ⟨hv, rfl, ys, A', o2, s2, w.perm, srtR_pairwise o2.len hs⟩
abbrev ZInvOI (cf : Unit) (h0 : Hp) (p : Option Addr) (n cp a0 b0 : Nat) (xs : List Int) (F : Bag) (a1 b1 : Nat) (h : Hp) : Prop := a0 ≤ a1 ∧ a1 ≤ b1 ∧ b1 ≤ b0 ∧ OutOI h0 p n cp a0 b0 xs F h (OutR (tI 3).d (fun x y : Int => x < y) a0 b0 a1 b1)
theorem pdqOI {h0 : Hp} {p : Option Addr} {n cp : Nat} {F : Bag} {P : Int → Prop} (hn : n < 1000000) : ∀ (N : Nat) {h : Hp} {a0 b0 : Nat} {a b lim : Int} {xs : List Int} {A : Bag} (_ : b0 - a0 ≤ N) (_ : St h0 h (A + F)) (_ : Sl (tI 3) p n cp xs A) (_ : ∀ k, k < n → P (xs.getD k (tI 3).d)) (_ : a = (a0 : Int)) (_ : b = (b0 : Int)) (_ : a0 ≤ b0) (_ : b0 ≤ n) (_ : 0 ≤ lim ∧ lim < 1000000)
    (_ : 0 < a0 → ∀ k, a0 ≤ k → k < b0 → ¬ (fun x y : Int => x < y) (xs.getD k (tI 3).d) (xs.getD (a0 - 1) (tI 3).d)),
    HCalls Try.prog 59 #[.slice p n cp, .int .i64 a, .int .i64 b, .int .i64 lim] h (fun v h' => v = .tuple #[] ∧ OutOI h0 p n cp a0 b0 xs F h' (SrtR (tI 3).d (fun x y : Int => x < y) a0 b0)) := by
  intro N
  induction N using Nat.strongRecOn with
  | _ N ih =>
  intro h a0 b0 a b lim xs A hN s o hP ea eb hab hb hlim hlow
  subst ea eb
  have hl0 := o.len
  refine slices_pdqsortOrdered_int_call ?_
  generalize hR : (fun v h' => v = Value.tuple #[] ∧ OutOI h0 p n cp a0 b0 xs F h' (SrtR (tI 3).d (fun x y : Int => x < y) a0 b0)) = R
  have fin : ∀ (a1 b1 : Nat) (h' : Hp) (ys : List Int), a0 ≤ a1 → b1 ≤ b0 → Swp (tI 3).d a0 b0 xs ys → OutR (tI 3).d (fun x y : Int => x < y) a0 b0 a1 b1 ys → OutOI h0 p n cp a1 b1 ys F h' (SrtR (tI 3).d (fun x y : Int => x < y) a1 b1) → R (.tuple #[]) h' := by
    rintro a1 b1 h' ys g1 g2 w ho ⟨zs, A2, o2, s2, w2, hs⟩
    have := w.len
    rw [← hR]
    exact ⟨rfl, zs, A2, o2, s2, w.trans (w2.mono g1 g2 (by omega)).1, outR_done (outR_swp g1 g2 ho w2) hs⟩
  clear hR
  -- what lies before the range is not more than what lies in it
  have low : ∀ (a1 b1 : Nat) (ys : List Int), a0 ≤ a1 → b1 ≤ b0 → Swp (tI 3).d a0 b0 xs ys → OutR (tI 3).d (fun x y : Int => x < y) a0 b0 a1 b1 ys → 0 < a1 → ∀ k, a1 ≤ k → k < b1 → ¬ (fun x y : Int => x < y) (ys.getD k (tI 3).d) (ys.getD (a1 - 1) (tI 3).d) := by
    intro a1 b1 ys g1 g2 w ho h1 k k1 k2
    by_cases he : a1 = a0
    · subst he
      rw [w.out (k := a1 - 1) (.inl (by omega))]
      exact w.all (P := fun x => ¬ (fun x y : Int => x < y) x (xs.getD (a1 - 1) (tI 3).d)) (hlow h1) k k1 (by omega)
    · exact ho (a1 - 1) k (by omega) (by omega) (by omega) (by omega)
  have b5 : ∀ (a1 b1 pv : Nat) (lim : Int) (h' : Hp) (nx : Int × Int × Int × Bool × Bool × Unit → Hp → Prop), ZInvOI () h0 p n cp a0 b0 xs F a1 b1 h' → a1 ≤ pv → pv < b1 → 0 ≤ lim → lim < 1000000 →
      (∀ (a2 b2 : Nat) (l2 : Int) (wb wp : Bool) (h2 : Hp), ZInvOI () h0 p n cp a0 b0 xs F a2 b2 h2 → b2 - a2 < b1 - a1 → 0 ≤ l2 → l2 < 1000000 → nx ((a2 : Int), (b2 : Int), l2, wb, wp, ()) h2) → slices_pdqsortOrdered_int_b5 p n cp a1 b1 lim ((b1 : Int) - a1) pv h' nx R := by
    rintro a1 b1 pv lim h' nx ⟨g1, g2, g3, ys, A1, o, s, w, ho2⟩ hv1 hv2 hl1 hl2 hnx
    have hl := o.len
    have hPy := w.allN hl0 hP
    rw [slices_pdqsortOrdered_int_b5_eq]
    refine (partitionOI  s o hPy rfl rfl rfl ⟨hv1, hv2⟩ (by omega) hn).mono fun v h2 ⟨m, bb, hv, m1, m2, zs, A2, o2, s2, w2, hp⟩ => ⟨_, _, hv, ⟨by omega, by omega⟩, ⟨by omega, by omega⟩, quo_intro (by omega) (by omega) (by omega) ?_⟩
    have w02 := w.trans (w2.mono g1 g3 (by omega)).1
    have ho3 := outR_swp g1 g3 ho2 w2
    have hPz := w02.allN hl0 hP
    have hlz := o2.len
    have hlow2 := low a1 b1 zs g1 g3 w02 ho3
    refine condP (fun hlt => ?_) (fun hlt => ⟨⟨by omega, by omega⟩, ?_⟩)
    · refine (ih (m - a1) (by omega) (a0 := a1) (b0 := m) (Nat.le_refl _) s2 o2 hPz rfl rfl m1 (by omega) ⟨hl1, hl2⟩ fun q k k1 k2 => hlow2 q k k1 (by omega)).mono fun v h3 ⟨hv, us, A3, o3, s3, w3, hs3⟩ => ⟨hv, ⟨by omega, by omega⟩, ?_⟩
      have hm : us.getD m (tI 3).d = zs.getD m (tI 3).d := w3.out (.inr (Nat.le_refl _))
      have hp3 : PartR (tI 3).d (fun x y : Int => x < y) a1 b1 m us := ⟨by rw [hm]; exact w3.all (P := fun x => (fun x y : Int => x < y) x (zs.getD m (tI 3).d)) hp.1, fun k k1 k2 => by rw [hm, w3.out (k := k) (.inr (by omega))]; exact hp.2 k k1 k2⟩
      have := hnx (m + 1) b1 lim (decide (((b1 : Int) - a1) / 8 ≤ (m : Int) - a1)) bb h3 ⟨by omega, by omega, g3, us, A3, o3, s3, w02.trans (w3.mono g1 (by omega) (by omega)).1, outR_left ordI g1 g3 m1 m2 (outR_swp g1 g3 ho3 (w3.mono (Nat.le_refl _) (by omega) (by omega)).1) hp3 hs3⟩ (by omega) hl1 hl2
      rwa [show ((m + 1 : Nat) : Int) = (m : Int) + 1 by push_cast; rfl] at this
    · refine (ih (b1 - (m + 1)) (by omega) (a0 := m + 1) (b0 := b1) (Nat.le_refl _) s2 o2 hPz (by push_cast; rfl) rfl (by omega) (by omega) ⟨hl1, hl2⟩ fun q k k1 k2 => hp.2 k (by omega) k2).mono fun v h3 ⟨hv, us, A3, o3, s3, w3, hs3⟩ => ⟨hv, ?_⟩
      have hm : us.getD m (tI 3).d = zs.getD m (tI 3).d := w3.out (.inl (by omega))
      have hp3 : PartR (tI 3).d (fun x y : Int => x < y) a1 b1 m us := ⟨fun k k1 k2 => by rw [hm, w3.out (k := k) (.inl (by omega))]; exact hp.1 k k1 k2, fun k k1 k2 => by rw [hm]; exact w3.all (P := fun x => ¬ (fun x y : Int => x < y) x (zs.getD m (tI 3).d)) (fun k k1 k2 => hp.2 k (by omega) k2) k (by omega) k2⟩
      exact hnx a1 m lim _ bb h3 ⟨g1, m1, by omega, us, A3, o3, s3, w02.trans (w3.mono (by omega) g3 (by omega)).1, outR_right ordI g1 g3 m1 m2 (outR_swp g1 g3 ho3 (w3.mono (by omega) (Nat.le_refl _) (by omega)).1) hp3 hs3⟩ (by omega) hl1 hl2
  have b4 : ∀ (a1 b1 pv : Nat) (lim : Int) (wb wp : Bool) (h' : Hp) (nx : Int × Int × Int × Bool × Bool × Unit → Hp → Prop), ZInvOI () h0 p n cp a0 b0 xs F a1 b1 h' → a1 ≤ pv → pv < b1 → 0 ≤ lim → lim < 1000000 →
      (∀ (a2 b2 : Nat) (l2 : Int) (wb wp : Bool) (h2 : Hp), ZInvOI () h0 p n cp a0 b0 xs F a2 b2 h2 → b2 - a2 < b1 - a1 → 0 ≤ l2 → l2 < 1000000 → nx ((a2 : Int), (b2 : Int), l2, wb, wp, ()) h2) → slices_pdqsortOrdered_int_b4 p n cp a1 b1 lim wb wp ((b1 : Int) - a1) pv h' nx R := by
    rintro a1 b1 pv lim wb wp h' nx ⟨g1, g2, g3, ys, A1, o, s, w, ho2⟩ hv1 hv2 hl1 hl2 hnx
    have hl := o.len
    rw [slices_pdqsortOrdered_int_b4_eq]
    refine condP (fun ha => ⟨⟨by omega, by omega⟩, ?_⟩) (fun _ => b5 a1 b1 pv lim _ _ ⟨g1, g2, g3, ys, A1, o, s, w, ho2⟩ hv1 hv2 hl1 hl2 hnx)
    have hlow2 := low a1 b1 ys g1 g3 w ho2 (by omega)
    have r := o.rd s
    have hPy := w.allN hl0 hP
    have hP := hPy
    refine ldOI (i' := a1 - 1) r (by omega) (by omega) (ldOI (i' := pv) r rfl (by omega) ?_)
    refine ⟨_, (Less_ok _ _ _).mono fun v9 h9 ⟨hh9, hv9⟩ => ⟨hv9, hh9⟩, ?_⟩
    refine condN (fun hc => ?_) (fun hc => b5 a1 b1 pv lim _ _ ⟨g1, g2, g3, ys, A1, o, s, w, ho2⟩ hv1 hv2 hl1 hl2 hnx)
    refine (partitionEqualOI  s o hPy rfl rfl rfl ⟨hv1, hv2⟩ (by omega) hn).mono fun v h2 ⟨m, hv, m1, m2, zs, A2, o2, s2, w2, hp⟩ => ⟨_, hv, ?_⟩
    exact hnx m b1 lim wb wp h2 ⟨by omega, m2, g3, zs, A2, o2, s2, w.trans (w2.mono g1 g3 (by omega)).1, outR_equal ordI g1 g3 (by omega) m2 (outR_swp g1 g3 ho2 w2) hp.2 (w2.all (P := fun x => ¬ (fun x y : Int => x < y) x (ys.getD pv (tI 3).d)) fun k k1 k2 => ordI.trans _ _ _ hc (hlow2 k k1 k2))⟩ (by omega) hl1 hl2
  have b3 : ∀ (a1 b1 pv : Nat) (hint lim : Int) (wb wp : Bool) (h' : Hp) (nx : Int × Int × Int × Bool × Bool × Unit → Hp → Prop), ZInvOI () h0 p n cp a0 b0 xs F a1 b1 h' → a1 ≤ pv → pv < b1 → 0 ≤ lim → lim < 1000000 →
      (∀ (a2 b2 : Nat) (l2 : Int) (wb wp : Bool) (h2 : Hp), ZInvOI () h0 p n cp a0 b0 xs F a2 b2 h2 → b2 - a2 < b1 - a1 → 0 ≤ l2 → l2 < 1000000 → nx ((a2 : Int), (b2 : Int), l2, wb, wp, ()) h2) → slices_pdqsortOrdered_int_b3 p n cp a1 b1 lim wb wp ((b1 : Int) - a1) pv hint h' nx R := by
    rintro a1 b1 pv hint lim wb wp h' nx hI hv1 hv2 hl1 hl2 hnx
    have go := fun h2 (hI : ZInvOI () h0 p n cp a0 b0 xs F a1 b1 h2) => b4 a1 b1 pv lim wb wp h2 nx hI hv1 hv2 hl1 hl2 hnx
    rw [slices_pdqsortOrdered_int_b3_eq]
    refine cond_intro (fun _ => cond_intro (fun _ => condP (fun _ => ?_) fun _ => go _ hI) fun _ => go _ hI) fun _ => go _ hI
    obtain ⟨g1, g2, g3, ys, A1, o, s, w, ho2⟩ := hI
    have hl := o.len
    refine (partialInsertionSortOI  s o (w.allN hl0 hP) rfl rfl (by omega) (by omega) hn (low a1 b1 ys g1 g3 w ho2)).mono fun v h2 ⟨bb, hv, zs, A2, o2, s2, w2, hp⟩ => ⟨_, hv, cond_intro (fun hb => ?_) (fun hb => ?_)⟩
    · exact fin a1 b1 h2 ys g1 g3 w ho2 ⟨zs, A2, o2, s2, w2, hp hb⟩
    · exact go _ ⟨g1, g2, g3, zs, A2, o2, s2, w.trans (w2.mono g1 g3 (by omega)).1, outR_swp g1 g3 ho2 w2⟩
  have b2 : ∀ (a1 b1 : Nat) (lim : Int) (wb wp : Bool) (h' : Hp) (nx : Int × Int × Int × Bool × Bool × Unit → Hp → Prop), ZInvOI () h0 p n cp a0 b0 xs F a1 b1 h' → a1 < b1 → 0 ≤ lim → lim < 1000000 →
      (∀ (a2 b2 : Nat) (l2 : Int) (wb wp : Bool) (h2 : Hp), ZInvOI () h0 p n cp a0 b0 xs F a2 b2 h2 → b2 - a2 < b1 - a1 → 0 ≤ l2 → l2 < 1000000 → nx ((a2 : Int), (b2 : Int), l2, wb, wp, ()) h2) → slices_pdqsortOrdered_int_b2 p n cp a1 b1 lim wb wp ((b1 : Int) - a1) h' nx R := by
    rintro a1 b1 lim wb wp h' nx ⟨g1, g2, g3, ys, A1, o, s, w, ho2⟩ hlt hl1 hl2 hnx
    have hl := o.len
    rw [slices_pdqsortOrdered_int_b2_eq]
    refine (choosePivotOI  s o (w.allN hl0 hP) rfl rfl hlt (by omega) hn).mono fun v h2 ⟨u, hint, hv, u1, u2, s⟩ => ⟨_, _, hv, condP (fun _ => ?_) (fun _ => ?_)⟩
    · refine (reverseRangeOI s o rfl rfl (by omega) (by omega) hn).mono fun v h2 ⟨hv, zs, A2, o2, s2, w2, _⟩ => ⟨hv, ⟨by omega, by omega⟩, ⟨by omega, by omega⟩, ⟨by omega, by omega⟩, ?_⟩
      have := b3 a1 b1 ((b1 : Int) - 1 - (u - a1)).toNat 1 lim wb wp h2 nx ⟨g1, g2, g3, zs, A2, o2, s2, w.trans (w2.mono g1 g3 (by omega)).1, outR_swp g1 g3 ho2 w2⟩ (by omega) (by omega) hl1 hl2 hnx
      rwa [Int.toNat_of_nonneg (by omega)] at this
    · have := b3 a1 b1 u.toNat hint lim wb wp h2 nx ⟨g1, g2, g3, ys, A1, o, s, w, ho2⟩ (by omega) (by omega) hl1 hl2 hnx
      rwa [Int.toNat_of_nonneg (by omega)] at this
  rw [slices_pdqsortOrdered_int_b0_eq]
  refine ⟨fun st h1 => ∃ (a1 b1 : Nat), st.1 = (a1 : Int) ∧ st.2.1 = (b1 : Int) ∧ 0 ≤ st.2.2.1 ∧ st.2.2.1 < 1000000 ∧ ZInvOI () h0 p n cp a0 b0 xs F a1 b1 h1, fun st _ => (st.2.1 - st.1).toNat, ⟨a0, b0, rfl, rfl, hlim.1, hlim.2, Nat.le_refl _, hab, Nat.le_refl _, xs, A, o, s, .refl _, outR_start⟩, ?_⟩
  rintro ⟨_, _, lim, wb, wp, _⟩ h1 ⟨a1, b1, rfl, rfl, hl1, hl2, hI⟩
  dsimp only at hl1 hl2 ⊢
  have go := fun (l2 : Int) (h2 : Hp) (hI : ZInvOI () h0 p n cp a0 b0 xs F a1 b1 h2) (hlt : a1 < b1) (q1 : 0 ≤ l2) (q2 : l2 < 1000000) => b2 a1 b1 l2 wb wp h2 (fun s' h' => (∃ (a1 b1 : Nat), s'.1 = (a1 : Int) ∧ s'.2.1 = (b1 : Int) ∧ 0 ≤ s'.2.2.1 ∧ s'.2.2.1 < 1000000 ∧ ZInvOI () h0 p n cp a0 b0 xs F a1 b1 h') ∧ (s'.2.1 - s'.1).toNat < ((b1 : Int) - a1).toNat) hI hlt q1 q2 fun a2 b2 l2 wb wp h2 hI2 hm k1 k2 => ⟨⟨a2, b2, rfl, rfl, k1, k2, hI2⟩, by have := hI2.2.1; dsimp only; omega⟩
  have hI' := hI
  obtain ⟨g1, g2, g3, ys, A1, o, s, w, ho2⟩ := hI
  have hl := o.len
  rw [slices_pdqsortOrdered_int_b1_eq]
  refine ⟨⟨by omega, by omega⟩, condP (fun h12 => ?_) (fun h12 => condP (fun hz => ?_) (fun hz => cond_intro (fun _ => ?_) (fun _ => ?_)))⟩
  · exact (insertionSortOI  s o (w.allN hl0 hP) rfl rfl (by omega) (by omega) hn).mono fun v h2 ⟨hv, hO⟩ => ⟨hv, fin a1 b1 h2 ys g1 g3 w ho2 hO⟩
  · exact (heapSortOI  s o (w.allN hl0 hP) rfl rfl (by omega) (by omega) hn).mono fun v h2 ⟨hv, hO⟩ => ⟨hv, fin a1 b1 h2 ys g1 g3 w ho2 hO⟩
  · refine (breakPatternsOI s o rfl rfl (by omega) (by omega) hn).mono fun v h2 ⟨hv, zs, A2, o2, s2, w2, _⟩ => ⟨hv, ⟨by omega, by omega⟩, ?_⟩
    exact go (lim - 1) h2 ⟨g1, g2, g3, zs, A2, o2, s2, w.trans (w2.mono g1 g3 (by omega)).1, outR_swp g1 g3 ho2 w2⟩ (by omega) (by omega) (by omega)
  · exact go lim h1 hI' (by omega) hl1 hl2
/-- The whole slice. -/
theorem sortOI {h0 h : Hp} {p : Option Addr} {n cp : Nat} {xs : List Int} {A F : Bag} {P : Int → Prop} (s : St h0 h (A + F)) (o : Sl (tI 3) p n cp xs A) (hP : ∀ k, k < n → P (xs.getD k (tI 3).d)) (hn : n < 1000000) :
    HCalls Try.prog 44 #[.slice p n cp] h (fun v h' => v = .tuple #[] ∧ ∃ ys A', Sl (tI 3) p n cp ys A' ∧ St h0 h' (A' + F) ∧ ys.Perm xs ∧ ys.Pairwise (fun x y => ¬ (fun x y : Int => x < y) y x)) := by
  refine slices_Sort_Sint_int_call ?_
  rw [slices_Sort_Sint_int_b0_eq, wrap_u64_in _ (by omega) (by omega)]
  refine (bitsLen_ok n (by omega) h).mono fun v h1 ⟨hv, hh⟩ => ⟨_, hv, ?_⟩
  subst hh
  have hl : blen n ≤ 20 := blen_le (by omega)
  refine (pdqOI  hn n (a0 := 0) (b0 := n) (by omega) s o hP rfl rfl (by omega) (Nat.le_refl _) ⟨by omega, by omega⟩ (fun h => by omega)).mono fun v h2 ⟨hv, ys, A', o2, s2, w, hs⟩ => ⟨hv, rfl, ys, A', o2, s2, w.perm, srtR_pairwise o2.len hs⟩
end Go.Proofs.Ytipmcfpjdebpdaa

/- Suffixes in plain lists: the order of lists, prefixes of twice the length, ranks. -/
namespace Go.Sx
def ltL : List Int → List Int → Prop
  | _, [] => False
  | [], _ :: _ => True
  | a :: r, b :: t => a < b ∨ (a = b ∧ ltL r t)
instance ltL_dec : ∀ l t : List Int, Decidable (ltL l t)
  | l, [] => isFalse (by cases l <;> simp [ltL])
  | [], _ :: _ => isTrue trivial
  | a :: r, b :: t => by
    have := ltL_dec r t
    unfold ltL
    infer_instance
theorem ltL_nil (l : List Int) : ltL [] l ↔ l ≠ [] := by cases l <;> simp [ltL]
theorem ltL_nil' (l : List Int) : ¬ ltL l [] := by cases l <;> simp [ltL]
theorem ltL_irr : ∀ l : List Int, ¬ ltL l l
  | [] => by simp [ltL]
  | a :: r => by
    have := ltL_irr r
    simp [ltL, this]
theorem ltL_asymm : ∀ {l t : List Int}, ltL l t → ¬ ltL t l
  | _, [], h => absurd h (ltL_nil' _)
  | [], _ :: _, _ => ltL_nil' _
  | a :: r, b :: t, h => by
    intro h'
    unfold ltL at h h'
    rcases h with h | ⟨rfl, h⟩
    · omega
    · rcases h' with h' | ⟨_, h'⟩
      · omega
      · exact ltL_asymm h h'
theorem ltL_trans : ∀ {l t u : List Int}, ltL l t → ltL t u → ltL l u
  | _, [], _, h, _ => absurd h (ltL_nil' _)
  | _, _ :: _, [], _, h => absurd h (ltL_nil' _)
  | [], _ :: _, _ :: _, _, _ => trivial
  | a :: r, b :: t, c :: u, h, h' => by
    unfold ltL at h h' ⊢
    rcases h with h | ⟨rfl, h⟩
    · rcases h' with h' | ⟨rfl, _⟩ <;> exact .inl (by omega)
    · rcases h' with h' | ⟨rfl, h'⟩
      · exact .inl h'
      · exact .inr ⟨rfl, ltL_trans h h'⟩
theorem ltL_tri : ∀ l t : List Int, ltL l t ∨ l = t ∨ ltL t l
  | [], [] => .inr (.inl rfl)
  | [], _ :: _ => .inl trivial
  | _ :: _, [] => .inr (.inr trivial)
  | a :: r, b :: t => by
    unfold ltL
    rcases Int.lt_trichotomy a b with h | h | h
    · exact .inl (.inl h)
    · subst h
      rcases ltL_tri r t with h | rfl | h
      · exact .inl (.inr ⟨rfl, h⟩)
      · exact .inr (.inl rfl)
      · exact .inr (.inr (.inr ⟨rfl, h⟩))
    · exact .inr (.inr (.inl h))
/-- Prefixes of the length k + m: first those of k, then those of m behind. -/
theorem ltL_take : ∀ (k m : Nat) (a b : List Int), ltL (a.take (k + m)) (b.take (k + m)) ↔ ltL (a.take k) (b.take k) ∨ (a.take k = b.take k ∧ ltL ((a.drop k).take m) ((b.drop k).take m))
  | 0, m, a, b => by simp [ltL]
  | k + 1, m, [], [] => by simp [ltL]
  | k + 1, m, [], b :: t => by rw [show k + 1 + m = k + m + 1 by omega]; simp [ltL]
  | k + 1, m, a :: r, [] => by rw [show k + 1 + m = k + m + 1 by omega]; simp [ltL]
  | k + 1, m, a :: r, b :: t => by
    rw [show k + 1 + m = k + m + 1 by omega]
    simp only [List.take_succ_cons, List.drop_succ_cons, ltL, List.cons.injEq]
    rw [ltL_take k m r t]
    constructor
    · rintro (h | ⟨rfl, h | ⟨h, h'⟩⟩)
      · exact .inl (.inl h)
      · exact .inl (.inr ⟨rfl, h⟩)
      · exact .inr ⟨⟨rfl, h⟩, h'⟩
    · rintro ((h | ⟨rfl, h⟩) | ⟨⟨rfl, h⟩, h'⟩)
      · exact .inl h
      · exact .inr ⟨rfl, .inl h⟩
      · exact .inr ⟨rfl, .inr ⟨h, h'⟩⟩
/-- The ranks tell the order of the prefixes of the length k. -/
structure RankK (s : List Int) (k : Nat) (r : List Int) : Prop where
  len : r.length = s.length
  pos : ∀ i, i < s.length → 0 ≤ r.getD i 0
  lt : ∀ i j, i < s.length → j < s.length → (r.getD i 0 < r.getD j 0 ↔ ltL ((s.drop i).take k) ((s.drop j).take k))
theorem RankK.eq {s : List Int} {k : Nat} {r : List Int} (h : RankK s k r) {i j : Nat} (hi : i < s.length) (hj : j < s.length) : r.getD i 0 = r.getD j 0 ↔ (s.drop i).take k = (s.drop j).take k := by
  have h1 := h.lt i j hi hj
  have h2 := h.lt j i hj hi
  constructor
  · intro e
    rcases ltL_tri ((s.drop i).take k) ((s.drop j).take k) with h | h | h
    · have := h1.2 h; omega
    · exact h
    · have := h2.2 h; omega
  · intro e
    rw [e] at h1 h2
    have h3 := mt h1.1 (ltL_irr _)
    have h4 := mt h2.1 (ltL_irr _)
    omega
/-- The rank of what follows. -/
def secK (r : List Int) (n k i : Nat) : Int := if i + k < n then r.getD (i + k) 0 else -1
theorem RankK.sec {s : List Int} {k : Nat} {r : List Int} (h : RankK s k r) (hk : 0 < k) (i j : Nat) : secK r s.length k i < secK r s.length k j ↔ ltL (((s.drop i).drop k).take k) (((s.drop j).drop k).take k) := by
  rw [List.drop_drop, List.drop_drop]
  unfold secK
  by_cases hi : i + k < s.length
  · by_cases hj : j + k < s.length
    · rw [if_pos hi, if_pos hj]; exact h.lt _ _ hi hj
    · rw [if_pos hi, if_neg hj, List.drop_eq_nil_of_le (i := j + k) (by omega), List.take_nil]
      have := h.pos _ hi
      constructor
      · intro h; omega
      · intro h; exact absurd h (ltL_nil' _)
  · rw [if_neg hi, List.drop_eq_nil_of_le (i := i + k) (by omega), List.take_nil, ltL_nil]
    by_cases hj : j + k < s.length
    · rw [if_pos hj]
      have := h.pos _ hj
      constructor
      · intro _ he
        have := congrArg List.length he
        rw [List.length_take, List.length_drop] at this
        simp at this
        omega
      · intro _; omega
    · rw [if_neg hj, List.drop_eq_nil_of_le (i := j + k) (by omega), List.take_nil]; simp
/-- The comparison of prefixes of twice the length. -/
theorem RankK.two {s : List Int} {k : Nat} {r : List Int} (h : RankK s k r) (hk : 0 < k) {i j : Nat} (hi : i < s.length) (hj : j < s.length) :
    (r.getD i 0 < r.getD j 0 ∨ (r.getD i 0 = r.getD j 0 ∧ secK r s.length k i < secK r s.length k j)) ↔ ltL ((s.drop i).take (k + k)) ((s.drop j).take (k + k)) := by
  rw [ltL_take, h.lt i j hi hj, h.eq hi hj, h.sec hk]
theorem rankK_one {s : List Int} (hs : ∀ x ∈ s, 0 ≤ x) : RankK s 1 s := by
  refine ⟨rfl, fun i hi => ?_, fun i j hi hj => ?_⟩
  · have : s.getD i 0 = s[i] := by simp [List.getD, hi]
    rw [this]; exact hs _ (List.getElem_mem hi)
  · have e : ∀ i, i < s.length → (s.drop i).take 1 = [s.getD i 0] := fun i hi => by
      rw [List.drop_eq_getElem_cons hi, List.take_succ_cons, List.take_zero]; simp [List.getD, hi]
    rw [e i hi, e j hj]
    simp [ltL]
/-- Suffixes differ. -/
theorem suf_ne {s : List Int} {i j : Nat} (hi : i ≤ s.length) (hj : j ≤ s.length) (h : s.drop i = s.drop j) : i = j := by
  have := congrArg List.length h
  rw [List.length_drop, List.length_drop] at this
  omega
end Go.Sx

/- The suffix array in plain lists: ranks along the sorted order, when it is done, uniqueness. -/
namespace Go.Sx
/-- Two lists with the same members, strictly ordered. -/
theorem strictExt {α : Type} {R : α → α → Prop} (ha : ∀ a b, R a b → ¬ R b a) : ∀ {l l' : List α}, l.Pairwise R → l'.Pairwise R → (∀ x, x ∈ l ↔ x ∈ l') → l = l'
  | [], [], _, _, _ => rfl
  | [], b :: l', _, _, h => by have := (h b).2 List.mem_cons_self; cases this
  | a :: l, [], _, _, h => by have := (h a).1 List.mem_cons_self; cases this
  | a :: l, b :: l', h1, h2, h => by
    rw [List.pairwise_cons] at h1 h2
    have e : a = b := by
      rcases List.mem_cons.1 ((h a).1 List.mem_cons_self) with e | e
      · exact e
      · rcases List.mem_cons.1 ((h b).2 List.mem_cons_self) with e' | e'
        · exact e'.symm
        · exact absurd (h1.1 b e') (ha _ _ (h2.1 a e))
    subst e
    rw [strictExt ha h1.2 h2.2 fun x => ?_]
    constructor
    · intro hx
      rcases List.mem_cons.1 ((h x).1 (List.mem_cons_of_mem _ hx)) with rfl | e
      · exact absurd (h1.1 x hx) (ha _ _ (h1.1 x hx))
      · exact e
    · intro hx
      rcases List.mem_cons.1 ((h x).2 (List.mem_cons_of_mem _ hx)) with rfl | e
      · exact absurd (h2.1 x hx) (ha _ _ (h2.1 x hx))
      · exact e
def iota (n : Nat) : List Int := (List.range n).map Int.ofNat
theorem mem_iota {n : Nat} {x : Int} : x ∈ iota n ↔ 0 ≤ x ∧ x < n := by
  unfold iota
  rw [List.mem_map]
  constructor
  · rintro ⟨i, hi, rfl⟩
    rw [List.mem_range] at hi
    show (0 : Int) ≤ (i : Int) ∧ (i : Int) < n
    omega
  · intro h
    exact ⟨x.toNat, List.mem_range.2 (by omega), by show ((x.toNat : Nat) : Int) = x; omega⟩
theorem iota_len (n : Nat) : (iota n).length = n := by simp [iota]
theorem iota_nodup (n : Nat) : (iota n).Nodup := by
  unfold iota
  rw [List.nodup_iff_pairwise_ne, List.pairwise_map]
  exact List.pairwise_lt_range.imp fun h e => by
    have := Int.ofNat.inj e
    omega
/-- The suffix from an index on. -/
def suf (s : List Int) (i : Int) : List Int := s.drop i.toNat
/-- The suffixes of some indices in strict order. -/
def SufS (s : List Int) (l : List Int) : Prop := l.Pairwise fun a b => ltL (suf s a) (suf s b)
theorem sufS_uniq {s : List Int} {n : Nat} {l l' : List Int} (h : SufS s l) (p : l.Perm (iota n)) (h' : SufS s l') (p' : l'.Perm (iota n)) : l = l' :=
  strictExt (fun a b h => ltL_asymm h) h h' fun x => by rw [p.mem_iff, p'.mem_iff]
/-- Ranks along an order of lists. -/
def rkA (P : Nat → List Int) : Nat → Nat
  | 0 => 0
  | i + 1 => rkA P i + (if ltL (P i) (P (i + 1)) then 1 else 0)
theorem rkA_mono (P : Nat → List Int) {i j : Nat} (h : i ≤ j) : rkA P i ≤ rkA P j := by
  induction j with
  | zero => rw [show i = 0 by omega]; exact Nat.le_refl _
  | succ j ih =>
    rcases Nat.lt_or_ge j i with h1 | h1
    · rw [show i = j + 1 by omega]; exact Nat.le_refl _
    · have := ih h1
      show rkA P i ≤ rkA P j + _
      omega
theorem rkA_le (P : Nat → List Int) (i : Nat) : rkA P i ≤ i := by
  induction i with
  | zero => exact Nat.le_refl _
  | succ i ih =>
    show rkA P i + _ ≤ _
    split <;> omega
theorem rkA_lt {P : Nat → List Int} {n : Nat} (hs : ∀ i j, i < j → j < n → ¬ ltL (P j) (P i)) {i j : Nat} (hij : i < j) (hj : j < n) : rkA P i < rkA P j ↔ ltL (P i) (P j) := by
  induction j with
  | zero => omega
  | succ j ih =>
    have hst : rkA P (j + 1) = rkA P j + (if ltL (P j) (P (j + 1)) then 1 else 0) := rfl
    rcases Nat.lt_or_ge i j with h1 | h1
    · have ih := ih h1 (by omega)
      have hm := rkA_mono P (show i ≤ j by omega)
      have h2 := hs i j h1 (by omega)
      have h3 := hs j (j + 1) (by omega) hj
      by_cases hc : ltL (P j) (P (j + 1))
      · rw [if_pos hc] at hst
        refine ⟨fun _ => ?_, fun _ => by omega⟩
        rcases ltL_tri (P i) (P j) with h | h | h
        · exact ltL_trans h hc
        · rw [h]; exact hc
        · exact absurd h h2
      · rw [if_neg hc] at hst
        have e : P j = P (j + 1) := by
          rcases ltL_tri (P j) (P (j + 1)) with h | h | h
          · exact absurd h hc
          · exact h
          · exact absurd h h3
        rw [hst, ← e]
        exact ih
    · obtain rfl : i = j := by omega
      by_cases hc : ltL (P i) (P (i + 1))
      · rw [if_pos hc] at hst
        exact ⟨fun _ => hc, fun _ => by omega⟩
      · rw [if_neg hc] at hst
        exact ⟨fun h => by omega, fun h => absurd h hc⟩
theorem rkA_full {P : Nat → List Int} {n : Nat} (h : rkA P n = n) : ∀ i, i ≤ n → rkA P i = i := by
  induction n with
  | zero => intro i hi; rw [show i = 0 by omega]; rfl
  | succ n ih =>
    intro i hi
    have h1 : rkA P (n + 1) = rkA P n + (if ltL (P n) (P (n + 1)) then 1 else 0) := rfl
    have h2 := rkA_le P n
    have h3 : rkA P n = n := by
      split at h1 <;> omega
    rcases Nat.lt_or_ge n i with h4 | h4
    · rw [show i = n + 1 by omega]; exact h
    · exact ih h3 i h4
theorem ltL_of_take {a b : List Int} {m : Nat} (h : ltL (a.take m) (b.take m)) : ltL a b := by
  have := (ltL_take m (a.length + b.length) a b).2 (.inl h)
  rwa [List.take_of_length_le (by omega), List.take_of_length_le (by omega)] at this
/-- The new ranks are those of the longer prefixes. -/
theorem rank_new {s : List Int} {k : Nat} {ord nx : List Int} (hp : ord.Perm (iota s.length)) (hl : nx.length = s.length)
    (hs : ∀ i j, i < j → j < s.length → ¬ ltL ((suf s (ord.getD j 0)).take k) ((suf s (ord.getD i 0)).take k))
    (hn : ∀ i, i < s.length → nx.getD (ord.getD i 0).toNat 0 = rkA (fun i => (suf s (ord.getD i 0)).take k) i) : RankK s k nx := by
  have hol : ord.length = s.length := by have := hp.length_eq; rwa [iota_len] at this
  have key : ∀ i, i < s.length → ∃ a, a < s.length ∧ ord.getD a 0 = (i : Int) := fun i hi => by
    obtain ⟨a, ha, e⟩ := List.getElem_of_mem (hp.mem_iff.2 (mem_iota.2 ⟨Int.natCast_nonneg i, by omega⟩))
    exact ⟨a, by omega, by simp [List.getD, ha, e]⟩
  refine ⟨hl, fun i hi => ?_, fun i j hi hj => ?_⟩
  · obtain ⟨a, ha, e⟩ := key i hi
    have := hn a ha
    rw [e, Int.toNat_natCast] at this
    omega
  · obtain ⟨a, ha, ea⟩ := key i hi
    obtain ⟨b, hb, eb⟩ := key j hj
    have h1 := hn a ha
    have h2 := hn b hb
    rw [ea, Int.toNat_natCast] at h1
    rw [eb, Int.toNat_natCast] at h2
    have pa : (suf s (ord.getD a 0)).take k = (s.drop i).take k := by rw [ea]; rfl
    have pb : (suf s (ord.getD b 0)).take k = (s.drop j).take k := by rw [eb]; rfl
    rw [h1, h2, ← pa, ← pb]
    rcases Nat.lt_trichotomy a b with h | h | h
    · have := rkA_lt hs h hb
      rw [← this]; omega
    · subst h
      have := ltL_irr ((suf s (ord.getD a 0)).take k)
      constructor
      · intro h; omega
      · intro h; exact absurd h this
    · have h3 := rkA_mono (fun i => (suf s (ord.getD i 0)).take k) (Nat.le_of_lt h)
      have h4 := hs b a h ha
      constructor
      · intro h; omega
      · intro h; exact absurd h h4
/-- When all ranks differ, the order is the one of the suffixes. -/
theorem order_done {s : List Int} {k : Nat} {ord : List Int} (hl : ord.length = s.length)
    (hs : ∀ i j, i < j → j < s.length → ¬ ltL ((suf s (ord.getD j 0)).take k) ((suf s (ord.getD i 0)).take k))
    (hd : rkA (fun i => (suf s (ord.getD i 0)).take k) (s.length - 1) = s.length - 1) : SufS s ord := by
  have hf := rkA_full hd
  unfold SufS
  rw [List.pairwise_iff_getElem]
  intro i j hi hj hij
  have h1 := hf i (by omega)
  have h2 := hf j (by omega)
  have h3 := (rkA_lt hs hij (by omega)).1 (by omega)
  have h4 := ltL_of_take h3
  simpa [List.getD, hi, hj] using h4
/-- When the prefixes are whole suffixes, too. -/
theorem order_long {s : List Int} {k : Nat} {ord : List Int} (hp : ord.Perm (iota s.length)) (hk : s.length ≤ k)
    (hs : ∀ i j, i < j → j < s.length → ¬ ltL ((suf s (ord.getD j 0)).take k) ((suf s (ord.getD i 0)).take k)) : SufS s ord := by
  have hol : ord.length = s.length := by have := hp.length_eq; rwa [iota_len] at this
  have hnd := hp.nodup_iff.2 (iota_nodup s.length)
  unfold SufS
  rw [List.pairwise_iff_getElem]
  intro i j hi hj hij
  have h1 := hs i j hij (by omega)
  have ei : ord.getD i 0 = ord[i] := by simp [List.getD, hi]
  have ej : ord.getD j 0 = ord[j] := by simp [List.getD, hj]
  have tk : ∀ x, (suf s x).take k = suf s x := fun x => List.take_of_length_le (by unfold suf; rw [List.length_drop]; omega)
  rw [tk, tk, ei, ej] at h1
  have mi := mem_iota.1 (hp.mem_iff.1 (List.getElem_mem hi))
  have mj := mem_iota.1 (hp.mem_iff.1 (List.getElem_mem hj))
  rcases ltL_tri (suf s ord[i]) (suf s ord[j]) with h | h | h
  · exact h
  · have := suf_ne (by omega) (by omega) h
    have e : ord[i] = ord[j] := by omega
    rw [List.nodup_iff_pairwise_ne] at hnd
    exact absurd e (List.pairwise_iff_getElem.1 hnd i j hi hj hij)
  · exact absurd h h1
end Go.Sx

/- Strings as lists of numbers. -/
namespace Go.Sx
def bs (s : ByteArray) : List Int := s.data.toList.map fun b => (b.toNat : Int)
theorem bs_len (s : ByteArray) : (bs s).length = s.size := by unfold bs; rw [List.length_map, Array.length_toList]; rfl
theorem bs_get {s : ByteArray} {i : Nat} (h : i < s.size) : ((s.data.toList.getD i 0).toNat : Int) = (bs s).getD i 0 := by
  have h1 : i < s.data.toList.length := by rw [Array.length_toList]; exact h
  unfold bs
  rw [List.getD_eq_getElem?_getD, List.getD_eq_getElem?_getD, List.getElem?_map, List.getElem?_eq_getElem h1]
  rfl
theorem bs_range {s : ByteArray} {x : Int} (h : x ∈ bs s) : 0 ≤ x ∧ x ≤ 255 := by
  obtain ⟨b, _, rfl⟩ := List.mem_map.1 h
  have := b.toNat_lt
  omega
theorem bs_byte {s : ByteArray} (i : Nat) : 0 ≤ (bs s).getD i 0 ∧ (bs s).getD i 0 ≤ 255 := by
  rcases Nat.lt_or_ge i (bs s).length with h | h
  · have e : (bs s).getD i 0 = (bs s)[i] := by simp [List.getD, h]
    rw [e]; exact bs_range (List.getElem_mem h)
  · have e : (bs s).getD i 0 = 0 := by simp [List.getD, h]
    rw [e]; omega
theorem bs_inj {a b : ByteArray} (h : bs a = bs b) : a = b := by
  apply ByteArray.ext
  apply Array.ext'
  unfold bs at h
  exact (List.map_inj_right fun x y hxy => by
    have : x.toNat = y.toNat := by omega
    exact UInt8.toNat_inj.1 this).1 h
theorem bs_ext (s : ByteArray) (i j : Nat) : bs (s.extract i j) = ((bs s).take j).drop i := by
  unfold bs
  rw [ByteArray.data_extract, Array.toList_extract, List.map_take, List.map_drop]
  rw [List.drop_take]
theorem strEq_bs (a b : ByteArray) : strEq a b = decide (bs a = bs b) := by
  unfold strEq
  rw [ByteArray.toList_eq, ByteArray.toList_eq, Bool.eq_iff_iff, beq_iff_eq, decide_eq_true_iff]
  constructor
  · intro h; unfold bs; rw [h]
  · intro h; rw [bs_inj h]
theorem less_ltL : ∀ (a b : List UInt8), Op.bytesLess a b = decide (ltL (a.map fun x => (x.toNat : Int)) (b.map fun x => (x.toNat : Int)))
  | [], [] => rfl
  | _ :: _, [] => rfl
  | [], _ :: _ => rfl
  | a :: x, b :: y => by
    unfold Op.bytesLess
    rw [less_ltL x y, Bool.eq_iff_iff, decide_eq_true_iff]
    simp only [List.map_cons, ltL, Bool.or_eq_true, decide_eq_true_eq, Bool.and_eq_true, beq_iff_eq, UInt8.lt_iff_toNat_lt]
    constructor
    · rintro (h | ⟨rfl, h⟩)
      · exact .inl (by omega)
      · exact .inr ⟨rfl, h⟩
    · rintro (h | ⟨h1, h⟩)
      · exact .inl (by omega)
      · have : a.toNat = b.toNat := by omega
        exact .inr ⟨UInt8.toNat_inj.1 this, h⟩
theorem strLt_bs (a b : ByteArray) : strLt a b = decide (ltL (bs a) (bs b)) := by
  unfold strLt
  rw [ByteArray.toList_eq, ByteArray.toList_eq, less_ltL]
  rfl
end Go.Sx

/- Suffix arrays: the comparison. -/
set_option maxRecDepth 100000
namespace Go.Proofs.Ytipmcfpjdebpdaa
open Go Go.Sx
theorem Or_w {h : Hp} {b : Nat} {x y : Int} (cb : Blk h b [.int .i64 x, .int .i64 y] 3) : HCalls Try.prog 51 #[.slice (some ⟨b, 0, none⟩) 2 2] h (fun v h' => v = .int .i64 (if x ≠ 0 then x else y) ∧ h' = h) := by
  refine cmp_Or_int_call ?_
  rw [cmp_Or_int_b0_eq]
  refine ⟨fun i h1 => h1 = h ∧ ∃ i' : Nat, i.1 = i' ∧ i' ≤ 2 ∧ (0 < i' → x = 0) ∧ (1 < i' → y = 0), fun i _ => (2 - i.1).toNat, ⟨rfl, 0, rfl, by omega, fun h => by omega, fun h => by omega⟩, ?_⟩
  rintro ⟨_, _⟩ h1 ⟨rfl, i, rfl, hi, hx, hy⟩
  dsimp only
  rw [cmp_Or_int_b1_eq]
  refine condP (fun hlt => ?_) (fun hge => ?_)
  · refine ⟨⟨by omega, by omega⟩, ?_⟩
    rcases (by omega : i = 0 ∨ i = 1) with rfl | rfl
    · refine ⟨x, ?_, ?_⟩
      · have := cb.cell 0
        exact this
      · refine condN (fun h2 => ⟨by rw [if_pos h2], rfl⟩) (fun h2 => ?_)
        rw [cmp_Or_int_b2_eq]
        exact ⟨⟨by omega, by omega⟩, ⟨rfl, 1, rfl, by omega, fun _ => h2, fun h => by omega⟩, by dsimp only; omega⟩
    · have hx0 := hx (by omega)
      refine ⟨y, ?_, ?_⟩
      · have := cb.cell 1
        exact this
      · refine condN (fun h2 => ⟨by rw [if_neg (by omega)], rfl⟩) (fun h2 => ?_)
        rw [cmp_Or_int_b2_eq]
        exact ⟨⟨by omega, by omega⟩, ⟨rfl, 2, rfl, by omega, fun _ => hx0, fun _ => h2⟩, by dsimp only; omega⟩
  · obtain rfl : i = 2 := by omega
    rw [cmp_Or_int_b3_eq]
    exact ⟨by rw [if_neg (by rw [hx (by omega)]; simp), hy (by omega)], rfl⟩

/-- The comparison of two indices, by ranks. -/
def cfR (r : List Int) (n k : Nat) (a b : Int) : Int := if cmpI (r.getD a.toNat 0) (r.getD b.toNat 0) ≠ 0 then cmpI (r.getD a.toNat 0) (r.getD b.toNat 0) else cmpI (secK r n k a.toNat) (secK r n k b.toNat)
theorem cfR_neg {r : List Int} {n k : Nat} {a b : Int} : cfR r n k a b < 0 ↔ r.getD a.toNat 0 < r.getD b.toNat 0 ∨ (r.getD a.toNat 0 = r.getD b.toNat 0 ∧ secK r n k a.toNat < secK r n k b.toNat) := by
  unfold cfR cmpI
  repeat' split
  all_goals omega
theorem ordR (r : List Int) (n k : Nat) : OrdP (fun a b : Int => cfR r n k a b < 0) := by
  constructor
  · intro x y h1 h2
    rw [cfR_neg] at h1 h2
    omega
  · intro x y z h1 h2 h3
    rw [cfR_neg] at h1 h2 h3
    omega
abbrev secF (kb nb rb : Nat) : Value := .func (.func 49) #[] #[ptr kb, ptr nb, ptr rb]
abbrev cmpF (rb sb : Nat) : Value := .func (.func 50) #[] #[ptr rb, ptr sb]
section
variable {h0 h : Hp} {kb nb rb sb k n rc : Nat} {rp : Option Addr} {r : List Int} {Ar R : Bag}
theorem sec_ok (s : St h0 h (cA kb [.int .i64 (k : Int)] 3 + (cA nb [.int .i64 (n : Int)] 3 + (cA rb [.slice rp n rc] 24 + (Ar + R))))) (o : Sl TI rp n rc r Ar) (a : Nat) (ha : a < n) (hn : n ≤ 4096) (hk : k ≤ 8192) :
    HCalls Try.prog 49 #[.int .i64 (a : Int), ptr kb, ptr nb, ptr rb] h (fun v h' => v = .int .i64 (secK r n k a) ∧ h' = h) := by
  have rd := o.rd (s.to (B := Ar + (cA kb [.int .i64 (k : Int)] 3 + (cA nb [.int .i64 (n : Int)] 3 + (cA rb [.slice rp n rc] 24 + R)))))
  refine suffixindex_suffixes_c1_call ?_
  rw [suffixindex_suffixes_c1_b0_eq]
  refine ⟨_, s.ld0, ⟨by omega, by omega⟩, _, s.ld0, ?_⟩
  unfold secK
  refine condP (fun h1 => ?_) (fun h1 => ⟨by rw [if_neg (by omega)], rfl⟩)
  refine ⟨_, _, _, s.ld0, _, s.ld0, ⟨by omega, by omega⟩, rd.int (by omega) (by omega) ⟨?_, rfl⟩⟩
  rw [if_pos (by omega), show Int.toNat ((a : Int) + (k : Int)) = a + k by omega]
theorem cmp_ok (o : Sl TI rp n rc r Ar) (hn : n ≤ 4096) (hk : k ≤ 8192) :
    CmpCI h0 (cA kb [.int .i64 (k : Int)] 3 + (cA nb [.int .i64 (n : Int)] 3 + (cA rb [.slice rp n rc] 24 + (cA sb [secF kb nb rb] 75 + (Ar + R))))) (cmpF rb sb) (cfR r n k) (fun x => 0 ≤ x ∧ x < n) := by
  intro x y h B K s hx hy hK
  obtain ⟨a, rfl⟩ := Int.eq_ofNat_of_zero_le hx.1
  obtain ⟨b, rfl⟩ := Int.eq_ofNat_of_zero_le hy.1
  have s := s.to (B := cA kb [.int .i64 (k : Int)] 3 + (cA nb [.int .i64 (n : Int)] 3 + (cA rb [.slice rp n rc] 24 + (Ar + (cA sb [secF kb nb rb] 75 + (R + B))))))
  have rd := o.rd (s.to (B := Ar + (cA kb [.int .i64 (k : Int)] 3 + (cA nb [.int .i64 (n : Int)] 3 + (cA rb [.slice rp n rc] 24 + (cA sb [secF kb nb rb] 75 + (R + B)))))))
  refine funX_of (by kernel_rfl) (suffixindex_suffixes_c2_call ?_)
  rw [suffixindex_suffixes_c2_b0_eq]
  refine ⟨_, _, _, s.ld0, rd.int (by omega) (by omega) ⟨_, _, _, s.ld0, rd.int (by omega) (by omega) ⟨_, s.ld0, _, s.ld0, ?_⟩⟩⟩
  refine (Compare_w _ _ _).mono fun v h1 ⟨hv, hh⟩ => ⟨_, hv, ?_⟩
  subst hh
  refine ⟨⟨_, s.ld0, rfl⟩, ⟨_, s.ld0, rfl⟩, ?_⟩
  refine funX_of (by kernel_rfl) ((sec_ok s o a (by omega) hn hk).mono fun v h1 ⟨hv, hh⟩ => ⟨_, hv, ?_⟩)
  subst hh
  refine ⟨⟨_, s.ld0, rfl⟩, ?_⟩
  refine funX_of (by kernel_rfl) ((sec_ok s o b (by omega) hn hk).mono fun v h1 ⟨hv, hh⟩ => ⟨_, hv, ?_⟩)
  subst hh
  refine (Compare_w _ _ _).mono fun v h1 ⟨hv, hh⟩ => ⟨_, hv, ?_⟩
  subst hh
  refine (St.start h1).new (cs := [_, _]) fun b3 h3 x3 s3 => ?_
  refine (Or_w s3.blk).mono fun v h4 ⟨hv, hh⟩ => ⟨_, hv, ?_⟩
  subst hh
  exact hK _ x3
end
end Go.Proofs.Ytipmcfpjdebpdaa

/- Suffix arrays: the rounds. -/
set_option maxRecDepth 100000
namespace Go.Proofs.Ytipmcfpjdebpdaa
open Go Go.Sx
/-- What suffixes gives back. -/
def SA (s : List Int) (l : List Int) : Prop := l.Perm (iota s.length) ∧ SufS s l
theorem copy_sl {α : Type} {T : Ty α} {P : Program} {t : TypeId} {h0 h : Hp} {p q : Option Addr} {n c c2 : Nat} {xs ys : List α} {A F : Bag} {K : Value → Hp → Prop} (ok : ElOk T P t) (o : Sl T p n c xs A) (s : St h0 h (A + F)) (r : RdT T h q n ys) (hn : 0 < n)
    (hk : ∀ v h' A', Sl T p n c ys A' → St h0 h' (A' + F) → K v h') : copyV P t (.slice p n c) (.slice q n c2) h K := by
  obtain ⟨hl, ⟨rfl, rfl, rfl, rfl⟩ | ⟨b, rest, rfl, hc, hr, rfl⟩⟩ := o
  · omega
  · refine copy_st (pre := []) (mid := T.cells xs) (rest := rest) (j := n) ok s r rfl (by omega) (by rw [T.cells_len, hl]) fun v h' s' => hk v h' _ ⟨r.len, .inr ⟨b, rest, rfl, hc, hr, rfl⟩⟩ s'
theorem getD_set {l : List Int} {i j : Nat} {x : Int} (hi : i < l.length) : (l.set i x).getD j 0 = if j = i then x else l.getD j 0 := getD_setS (d := (0 : Int)) hi
theorem ldI {h : Hp} {p : Option Addr} {n : Nat} {l : List Int} {i : Int} {i' : Nat} {Q : Int → Prop} (r : RdT TI h p n l) (ei : i = (i' : Int)) (h1 : i' < n) (hq : Q (l.getD i' 0)) :
    (0 ≤ i ∧ i < (n : Int)) ∧ NN p fun a => ∃ x : Int, cell h (a.add (Int.toNat i * 1)) = some (.int .i64 x) ∧ Q x := ldOI r ei h1 hq
section
variable {s : ByteArray} {h0 : Hp} {nb rb n oc rc nc : Nat} {op rp np : Option Addr}
/-- The state between two rounds. -/
def RoundS (s : ByteArray) (h0 : Hp) (nb rb n oc rc nc : Nat) (op rp np : Option Addr) (kp : Option Addr) (h : Hp) : Prop :=
  ∃ (kb k : Nat) (ord r nx : List Int) (Ao Ar An G : Bag), kp = some ⟨kb, 0, none⟩ ∧ 1 ≤ k ∧ k ≤ 8192 ∧ Sl TI op n oc ord Ao ∧ Sl TI rp n rc r Ar ∧ Sl TI np n nc nx An ∧ RankK (bs s) k r ∧ ord.Perm (iota n) ∧
    St h0 h (cA kb [.int .i64 (k : Int)] 3 + (cA nb [.int .i64 (n : Int)] 3 + (cA rb [.slice rp n rc] 24 + (Ar + (Ao + (An + G))))))
theorem rounds (hn : n ≤ 4096) (hsn : s.size = n) {kp : Option Addr} {h : Hp} (h1 : RoundS s h0 nb rb n oc rc nc op rp np kp h) {K : Value → Hp → Prop}
    (hK : ∀ h' A l, Sl TI op n oc l A → (∃ G, St h0 h' (A + G)) → SA (bs s) l → K (.slice op n oc) h') :
    LoopVC ((kp, ()) : Option Addr × Unit) h (fun (nx0 : Option Addr × Unit → Hp → Prop) (s2 : Option Addr × Unit) h148 => suffixindex_suffixes_b5 s2.1 (some ⟨nb, 0, none⟩) op n oc (some ⟨rb, 0, none⟩) np n nc h148 nx0 K) := by
  have hbl : (bs s).length = n := by rw [bs_len, hsn]
  refine ⟨fun q h' => RoundS s h0 nb rb n oc rc nc op rp np q.1 h', fun q h' => match q.1 with | some a => (match cell h' a with | some (.int _ z) => (10000 - z).toNat | _ => 0) | none => 0, h1, ?_⟩
  clear h1 kp h
  rintro ⟨_, _⟩ h ⟨kb, k, ord, r, nx, Ao, Ar, An, G, rfl, hk1, hk2, oo, orr, on, rk, hp, st⟩
  dsimp only
  have hkc : cell h ⟨kb, 0, none⟩ = some (.int .i64 (k : Int)) := st.ld0
  rw [hkc]
  dsimp only
  rw [suffixindex_suffixes_b5_eq]
  refine ⟨_, st.ld0, condP (fun hn1 => ?_) (fun hn1 => ?_)⟩
  rotate_left
  · rw [suffixindex_suffixes_b7_eq]
    refine hK _ Ao ord oo ⟨_, st.to (B := Ao + (cA kb [.int .i64 (k : Int)] 3 + (cA nb [.int .i64 (n : Int)] 3 + (cA rb [.slice rp n rc] 24 + (Ar + (An + G))))))⟩ ⟨by rw [hbl]; exact hp, ?_⟩
    have hol := oo.len
    unfold SufS
    rw [List.pairwise_iff_getElem]
    intro i j hi hj hij
    omega
  refine st.new (cs := [_]) fun sb h2 _ st => st.wr1 fun h3 st => ?_
  have st := st.to (B := Ao + (cA kb [.int .i64 (k : Int)] 3 + (cA nb [.int .i64 (n : Int)] 3 + (cA rb [.slice rp n rc] 24 + (cA sb [secF kb nb rb] 75 + (Ar + (An + G)))))))
  have hol := oo.len
  have hord : ∀ i, i < n → 0 ≤ ord.getD i 0 ∧ ord.getD i 0 < n := fun i hi => by
    have e : ord.getD i 0 = ord[i] := by simp [List.getD, show i < ord.length by omega]
    rw [e]
    exact mem_iota.1 (hp.mem_iff.1 (List.getElem_mem _))
  refine (sortCI (cmp_ok orr hn hk2) (ordR r n k) st oo hord (by omega)).mono fun v h4 ⟨hv, zs, Az, oz, st, hpz, hwz⟩ => ⟨hv, ?_⟩
  have hpz := hpz.trans hp
  have hzl := oz.len
  have hz : ∀ i, i < n → 0 ≤ zs.getD i 0 ∧ zs.getD i 0 < n := fun i hi => by
    have e : zs.getD i 0 = zs[i] := by simp [List.getD, show i < zs.length by omega]
    rw [e]
    exact mem_iota.1 (hpz.mem_iff.1 (List.getElem_mem _))
  have hinj : ∀ i j, i < n → j < n → i ≠ j → zs.getD i 0 ≠ zs.getD j 0 := fun i j hi hj hij e => by
    have hnd := hpz.nodup_iff.2 (iota_nodup n)
    have ei : zs.getD i 0 = zs[i] := by simp [List.getD, show i < zs.length by omega]
    have ej : zs.getD j 0 = zs[j] := by simp [List.getD, show j < zs.length by omega]
    rw [ei, ej] at e
    rw [List.nodup_iff_pairwise_ne, List.pairwise_iff_getElem] at hnd
    rcases Nat.lt_or_ge i j with h | h
    · exact hnd i j (by omega) (by omega) h e
    · exact hnd j i (by omega) (by omega) (by omega) e.symm
  let P : Nat → List Int := fun i => (suf (bs s) (zs.getD i 0)).take (k + k)
  have hcmp : ∀ i j, i < n → j < n → (cfR r n k (zs.getD i 0) (zs.getD j 0) < 0 ↔ ltL (P i) (P j)) := fun i j hi hj => by
    rw [cfR_neg]
    have := rk.two hk1 (i := (zs.getD i 0).toNat) (j := (zs.getD j 0).toNat) (by have := hz i hi; omega) (by have := hz j hj; omega)
    rw [hbl] at this
    exact this
  have hsP : ∀ i j, i < j → j < n → ¬ ltL (P j) (P i) := fun i j hij hj => by
    rw [← hcmp j i hj (by omega)]
    have ei : zs.getD i 0 = zs[i] := by simp [List.getD, show i < zs.length by omega]
    have ej : zs.getD j 0 = zs[j] := by simp [List.getD, show j < zs.length by omega]
    rw [ei, ej]
    exact List.pairwise_iff_getElem.1 hwz i j (by omega) (by omega) hij
  have hn0 : 0 < n := by omega
  -- the first rank
  refine (oz.rd st).int (by omega) (by omega) ?_
  rw [show Int.toNat (0 : Int) = 0 from rfl]
  have z0 := hz 0 hn0
  have st := st.to (B := An + (Az + (cA kb [.int .i64 (k : Int)] 3 + (cA nb [.int .i64 (n : Int)] 3 + (cA rb [.slice rp n rc] 24 + (cA sb [secF kb nb rb] 75 + (Ar + G)))))))
  refine on.wrI (x := 0) st z0.1 z0.2 rfl rfl fun h5 An1 on1 st => ?_
  have hnl := on.len
  refine ⟨fun q h' => ∃ (i : Nat) (nx : List Int) (An : Bag), q.1 = i ∧ 1 ≤ i ∧ i ≤ n ∧ Sl TI np n nc nx An ∧ (∀ j, j < i → nx.getD (zs.getD j 0).toNat 0 = (rkA P j : Nat)) ∧ St h0 h' (An + (Az + (cA kb [.int .i64 (k : Int)] 3 + (cA nb [.int .i64 (n : Int)] 3 + (cA rb [.slice rp n rc] 24 + (cA sb [secF kb nb rb] 75 + (Ar + G))))))), fun q _ => (n - q.1).toNat, ⟨1, _, An1, rfl, Nat.le_refl _, hn0, on1, fun j hj => ?_, st⟩, ?_⟩
  · obtain rfl : j = 0 := by omega
    rw [getD_set (by omega), if_pos rfl]
    rfl
  clear st
  rintro ⟨_, _⟩ h6 ⟨i, nx, An, rfl, hi1, hi2, on, hnx, st⟩
  dsimp only
  have hnl := on.len
  rw [suffixindex_suffixes_b6_eq]
  refine ⟨_, st.ld0, condP (fun hlt => ?_) (fun hge => ?_)⟩
  · have hin : i < n := by omega
    have zi := hz i hin
    have zp := hz (i - 1) (by omega)
    have ep : Int.toNat ((i : Int) - 1) = i - 1 := by omega
    have rz : RdT TI h6 op n zs := oz.rd (st.to (B := Az + (An + (cA kb [.int .i64 (k : Int)] 3 + (cA nb [.int .i64 (n : Int)] 3 + (cA rb [.slice rp n rc] 24 + (cA sb [secF kb nb rb] 75 + (Ar + G))))))))
    refine ldI (i' := i) rz rfl hin ?_
    refine ⟨⟨by omega, by omega⟩, ldI (i' := i - 1) rz (by omega) (by omega) ?_⟩
    refine (on.rd st).int zp.1 zp.2 ?_
    rw [hnx (i - 1) (by omega)]
    refine on.wrI (x := ((rkA P (i - 1) : Nat) : Int)) st zi.1 zi.2 rfl rfl fun h7 An1 on1 st => ?_
    have rz : RdT TI h7 op n zs := oz.rd (st.to (B := Az + (An1 + (cA kb [.int .i64 (k : Int)] 3 + (cA nb [.int .i64 (n : Int)] 3 + (cA rb [.slice rp n rc] 24 + (cA sb [secF kb nb rb] 75 + (Ar + G))))))))
    refine ⟨⟨by omega, by omega⟩, ldI (i' := i - 1) rz (by omega) (by omega) ?_⟩
    refine ldI (i' := i) rz rfl hin ?_
    have hold : ∀ j, j < i → ∀ x : Int, (nx.set (zs.getD i 0).toNat x).getD (zs.getD j 0).toNat 0 = (rkA P j : Nat) := fun j hj x => by
      rw [getD_set (by omega), if_neg, hnx j hj]
      intro e
      have := hz j (by omega)
      exact hinj j i (by omega) hin (by omega) (by omega)
    have hstep : rkA P i = rkA P (i - 1) + (if ltL (P (i - 1)) (P i) then 1 else 0) := by
      obtain ⟨m, rfl⟩ : ∃ m, i = m + 1 := ⟨i - 1, by omega⟩
      rw [Nat.add_sub_cancel]; rfl
    have hle := rkA_le P (i - 1)
    refine cmp_ok (h0 := h0) (kb := kb) (nb := nb) (rb := rb) (sb := sb) (R := An1 + (Az + G)) orr hn hk2 _ _ h7 0 _ (st.to) zp zi fun h8 e8 => ⟨_, rfl, ?_⟩
    have st := st.grow e8
    have hc := hcmp (i - 1) i (by omega) hin
    refine condP (fun hc0 => ?_) (fun hc0 => ?_)
    · rw [if_pos (hc.1 hc0)] at hstep
      have rz : RdT TI h8 op n zs := rz.ext e8
      refine ldI (i' := i) rz rfl hin ?_
      refine (on1.rd st).int zi.1 zi.2 ?_
      rw [getD_set (by omega), if_pos rfl]
      refine ⟨⟨by omega, by omega⟩, ?_⟩
      refine on1.wrI (x := ((rkA P (i - 1) : Nat) : Int) + 1) st zi.1 zi.2 rfl rfl fun h9 An2 on2 st => ?_
      rw [List.set_set] at on2
      rw [suffixindex_suffixes_b8_eq]
      refine ⟨⟨by omega, by omega⟩, ⟨i + 1, _, An2, by push_cast; rfl, by omega, by omega, on2, fun j hj => ?_, st⟩, by dsimp only; omega⟩
      rcases Nat.lt_or_ge j i with h | h
      · exact hold j h _
      · obtain rfl : j = i := by omega
        rw [getD_set (by omega), if_pos rfl, hstep]
        push_cast; rfl
    · rw [if_neg (fun h => hc0 (hc.2 h))] at hstep
      rw [suffixindex_suffixes_b8_eq]
      refine ⟨⟨by omega, by omega⟩, ⟨i + 1, _, An1, by push_cast; rfl, by omega, by omega, on1, fun j hj => ?_, st⟩, by dsimp only; omega⟩
      rcases Nat.lt_or_ge j i with h | h
      · exact hold j h _
      · obtain rfl : j = i := by omega
        rw [getD_set (by omega), if_pos rfl, hstep]
        rfl
  · obtain rfl : i = n := by omega
    rw [suffixindex_suffixes_b9_eq]
    refine ⟨_, _, _, st.ld0, ?_⟩
    have st := st.to (B := Ar + (An + (Az + (cA kb [.int .i64 (k : Int)] 3 + (cA nb [.int .i64 (i : Int)] 3 + (cA rb [.slice rp i rc] 24 + (cA sb [secF kb nb rb] 75 + G)))))))
    refine copy_sl ok_int orr st (on.rd (st.to (B := An + (Ar + (Az + (cA kb [.int .i64 (k : Int)] 3 + (cA nb [.int .i64 (i : Int)] 3 + (cA rb [.slice rp i rc] 24 + (cA sb [secF kb nb rb] 75 + G))))))))) hn0 fun v h7 Ar1 or1 st => ?_
    have rkn : RankK (bs s) (k + k) nx := rank_new (by rw [hbl]; exact hpz) (by omega) (fun a b hab hb => hsP a b hab (by omega)) (fun j hj => hnx j (by omega))
    have zl := hz (i - 1) (by omega)
    have ep : Int.toNat ((i : Int) - 1) = i - 1 := by omega
    have rz : RdT TI h7 op i zs := oz.rd (st.to (B := Az + (Ar1 + (An + (cA kb [.int .i64 (k : Int)] 3 + (cA nb [.int .i64 (i : Int)] 3 + (cA rb [.slice rp i rc] 24 + (cA sb [secF kb nb rb] 75 + G))))))))
    have hout : SA (bs s) zs → suffixindex_suffixes_b7 op i oc h7 K := fun hsa => by
      rw [suffixindex_suffixes_b7_eq]
      exact hK _ Az zs oz ⟨_, st.to (B := Az + (Ar1 + (An + (cA kb [.int .i64 (k : Int)] 3 + (cA nb [.int .i64 (i : Int)] 3 + (cA rb [.slice rp i rc] 24 + (cA sb [secF kb nb rb] 75 + G)))))))⟩ hsa
    have hpb : zs.Perm (iota (bs s).length) := by rw [hbl]; exact hpz
    refine ⟨_, _, _, st.ld0, _, st.ld0, ⟨by omega, by omega⟩, rz.int (by omega) (by omega) ?_⟩
    rw [ep]
    refine (or1.rd st).int zl.1 zl.2 ⟨_, st.ld0, ⟨by omega, by omega⟩, condP (fun hd => ?_) (fun hd => ⟨_, st.ld0, _, st.ld0, condP (fun hk => ?_) (fun hk => ?_)⟩)⟩
    · rw [hnx (i - 1) (by omega)] at hd
      refine hout ⟨hpb, order_done (k := k + k) (by omega) (fun a b hab hb => hsP a b hab (by omega)) ?_⟩
      rw [hbl]
      show rkA P (i - 1) = i - 1
      omega
    · exact hout ⟨hpb, order_long (k := k + k) hpb (by omega) (fun a b hab hb => hsP a b hab (by omega))⟩
    · rw [suffixindex_suffixes_b10_eq]
      refine ⟨_, st.ld0, st.new (cs := [_]) fun kb2 h8 _ st => st.wr1 fun h9 st => ⟨_, st.ld0, ⟨by omega, by omega⟩, st.wr1 fun h10 st => ?_⟩⟩
      have st := st.to (B := cA kb2 [.int .i64 ((k : Int) * 2)] 3 + (cA nb [.int .i64 (i : Int)] 3 + (cA rb [.slice rp i rc] 24 + (Ar1 + (Az + (An + (cA kb [.int .i64 (k : Int)] 3 + (cA sb [secF kb nb rb] 75 + G))))))))
      have e2 : (k : Int) * 2 = ((k + k : Nat) : Int) := by push_cast; omega
      rw [e2] at st
      refine ⟨⟨kb2, k + k, zs, nx, nx, Az, Ar1, An, _, rfl, by omega, by omega, oz, or1, on, rkn, hpz, st⟩, ?_⟩
      have c2 : cell h10 ⟨kb2, 0, none⟩ = some (.int .i64 ((k + k : Nat) : Int)) := st.ld0
      dsimp only
      rw [c2]
      show (10000 - ((k + k : Nat) : Int)).toNat < (10000 - (k : Int)).toNat
      omega
end
end Go.Proofs.Ytipmcfpjdebpdaa

/- Suffix arrays: suffixes. -/
set_option maxRecDepth 100000
namespace Go.Proofs.Ytipmcfpjdebpdaa
open Go Go.Sx
section
variable {s : ByteArray} {h0 : Hp} {n : Nat}
theorem suf_b1 (hn : n ≤ 4096) (hsn : s.size = n) {b1 ob rb kb nb : Nat} {h : Hp} {K : Value → Hp → Prop} (hc : cell h ⟨rb, 0, none⟩ = some (.slice (some ⟨kb, 0, none⟩) n n))
    (st : St h0 h (cA b1 [.int .i64 (n : Int)] 3 + (cA rb [.slice (some ⟨kb, 0, none⟩) n n] 24 + (cA ob (List.replicate n (.int .i64 0)) 3 + (cA kb (List.replicate n (.int .i64 0)) 3 + (cA nb (List.replicate n (.int .i64 0)) 3 + 0))))))
    (hK : ∀ p c h' A l, Sl TI p n c l A → (∃ G, St h0 h' (A + G)) → SA (bs s) l → K (.slice p n c) h') :
    suffixindex_suffixes_b1 s (some ⟨b1, 0, none⟩) (some ⟨ob, 0, none⟩) n n (some ⟨rb, 0, none⟩) (some ⟨nb, 0, none⟩) n n h K := by
  have hbl : (bs s).length = n := by rw [bs_len, hsn]
  have zr : ∀ b : Nat, Sl TI (some ⟨b, 0, none⟩) n n (List.replicate n 0) (cA b (List.replicate n (.int .i64 0)) 3) := fun b => Sl.of_blk (T := TI) (by simp) (by rw [tI_cells]; simp)
  rw [suffixindex_suffixes_b1_eq]
  refine ⟨_, st.ld0, ?_⟩
  refine ⟨fun q h' => ∃ (i : Nat) (ord r : List Int) (Ao Ar : Bag), q.1 = i ∧ i ≤ n ∧ Sl TI (some ⟨ob, 0, none⟩) n n ord Ao ∧ Sl TI (some ⟨kb, 0, none⟩) n n r Ar ∧ (∀ j, j < i → ord.getD j 0 = j ∧ r.getD j 0 = (bs s).getD j 0) ∧
    St h0 h' (Ao + (Ar + (cA b1 [.int .i64 (n : Int)] 3 + (cA rb [.slice (some ⟨kb, 0, none⟩) n n] 24 + (cA nb (List.replicate n (.int .i64 0)) 3 + 0))))), fun q _ => (n - q.1).toNat, ⟨0, _, _, _, _, rfl, Nat.zero_le _, zr ob, zr kb, fun j hj => by omega, st.to⟩, ?_⟩
  clear st hc
  rintro ⟨_, _⟩ h1 ⟨i, ord, r, Ao, Ar, rfl, hi, oo, orr, hall, st⟩
  dsimp only
  have hol := oo.len
  have hrl := orr.len
  rw [suffixindex_suffixes_b2_eq]
  refine condP (fun hlt => ?_) (fun hge => ?_)
  · have hin : i < n := by omega
    have hb := bs_byte (s := s) i
    have eb : ((s.data.toList.getD (Int.toNat (i : Int)) 0).toNat : Int) = (bs s).getD i 0 := by rw [Int.toNat_natCast]; exact bs_get (by omega)
    simp only [eb]
    refine ⟨_, _, _, st.ld0, ⟨by omega, by omega⟩, ⟨by omega, by omega⟩, ?_⟩
    refine oo.wrI (x := (i : Int)) st (by omega) (by omega) rfl rfl fun h2 Ao1 oo1 st => ?_
    rw [Int.toNat_natCast] at oo1
    refine ⟨⟨⟨by omega, by omega⟩, trivial⟩, ⟨⟨by omega, by omega⟩, trivial⟩, ⟨_, _, _, st.ld0, rfl⟩, ?_⟩
    have st := st.to (B := Ar + (Ao1 + (cA b1 [.int .i64 (n : Int)] 3 + (cA rb [.slice (some ⟨kb, 0, none⟩) n n] 24 + (cA nb (List.replicate n (.int .i64 0)) 3 + 0)))))
    refine orr.wrI (x := (bs s).getD i 0) st (by omega) (by omega) rfl rfl fun h3 Ar1 or1 st => ?_
    rw [Int.toNat_natCast] at or1
    rw [suffixindex_suffixes_b3_eq]
    refine ⟨⟨by omega, by omega⟩, ⟨i + 1, _, _, Ao1, Ar1, by push_cast; rfl, by omega, oo1, or1, fun j hj => ?_, st.to⟩, by dsimp only; omega⟩
    rw [getD_set (by omega), getD_set (by omega)]
    rcases Nat.lt_or_ge j i with h | h
    · rw [if_neg (by omega), if_neg (by omega)]; exact hall j h
    · rw [if_pos (by omega), if_pos (by omega), show j = i by omega]; exact ⟨rfl, rfl⟩
  · obtain rfl : i = n := by omega
    have eord : ord = iota i := list_eq_of (d := 0) (by rw [iota_len]; exact hol) fun j hj => by
      rw [(hall j (by omega)).1]
      unfold iota
      simp [List.getD, show j < i by omega]
    have er : r = bs s := list_eq_of (d := 0) (by omega) fun j hj => (hall j (by omega)).2
    subst er
    rw [suffixindex_suffixes_b4_eq]
    refine st.new (cs := [_]) fun kb2 h2 _ st => st.wr1 fun h3 st => ?_
    refine rounds (s := s) (h0 := h0) (nb := b1) (rb := rb) hn hsn ⟨kb2, 1, ord, bs s, _, Ao, Ar, _, 0, rfl, Nat.le_refl _, by omega, oo, orr, zr nb, rankK_one fun x hx => (bs_range hx).1, by rw [eord], st.to⟩ fun h' A l o hG hsa => hK _ _ _ _ _ o hG hsa
theorem suffixes_ok (h : Hp) (hn : s.size ≤ 4096) :
    HCalls Try.prog 34 #[.string s] h (fun v h' => ∃ q d A l, v = .slice q s.size d ∧ Sl TI q s.size d l A ∧ St h h' A ∧ SA (bs s) l) := by
  refine suffixindex_suffixes_call ?_
  rw [suffixindex_suffixes_b0_eq]
  refine (St.start h).new (cs := [_]) fun b1 h1 _ s1 => s1.wr1 fun h2 s1 => ⟨_, s1.ld0, _, s1.ld0, _, s1.ld0, ?_⟩
  generalize hsn : s.size = n at *
  simp only [Int.toNat_natCast, Nat.mul_one, repL_one]
  have fin : ∀ {b1 ob rb kb nb : Nat} {h' : Hp}, cell h' ⟨rb, 0, none⟩ = some (.slice (some ⟨kb, 0, none⟩) n n) → St h h' (cA b1 [.int .i64 (n : Int)] 3 + (cA rb [.slice (some ⟨kb, 0, none⟩) n n] 24 + (cA ob (List.replicate n (.int .i64 0)) 3 + (cA kb (List.replicate n (.int .i64 0)) 3 + (cA nb (List.replicate n (.int .i64 0)) 3 + 0))))) →
      suffixindex_suffixes_b1 s (some ⟨b1, 0, none⟩) (some ⟨ob, 0, none⟩) n n (some ⟨rb, 0, none⟩) (some ⟨nb, 0, none⟩) n n h' (fun v h' => ∃ q d A l, v = .slice q n d ∧ Sl TI q n d l A ∧ St h h' A ∧ SA (bs s) l) := fun hc st =>
    suf_b1 (h0 := h) hn hsn hc st fun p c h' A l o hG hsa => by
      obtain ⟨G, hG⟩ := hG
      exact ⟨_, _, _, _, rfl, o, hG.left, hsa⟩
  repeat' first
    | (with_reducible refine And.intro ?_ ?_; fail)
    | (exact fin s1.ld0 s1.to)
    | (with_reducible refine St.new (cs := List.replicate n (.int .i64 0)) s1 fun bx hx xx s1 => ?_)
    | (with_reducible refine St.new (cs := [_]) s1 fun bx hx xx s1 => ?_)
    | (refine s1.wr1 fun hx s1 => ?_)
    | (with_reducible refine And.intro ⟨_, s1.ld0, rfl⟩ ?_)
    | (with_reducible refine And.intro ⟨(by omega : (0 : Int) ≤ n), (by omega : (n : Int) ≤ n), (by omega : (n : Int) ≤ 281474976710656), (by omega : (n : Int) * ((8 : Nat) : Int) ≤ 281474976710656)⟩ ?_)
    | (with_reducible refine And.intro ?_ ?_)
    | fail
end
end Go.Proofs.Ytipmcfpjdebpdaa

/- Sorting by insertion, in plain lists. -/
namespace Go.Sx
theorem getD_at {α : Type} (P Q : List α) (y d : α) {i : Nat} (h : i = P.length) : (P ++ y :: Q).getD i d = y := by
  subst h; simp [List.getD]
theorem getD_at1 {α : Type} (P Q : List α) (y x d : α) {i : Nat} (h : i = P.length + 1) : (P ++ y :: x :: Q).getD i d = x := by
  subst h; simp [List.getD]
theorem set_swap {α : Type} (P Q : List α) (y x : α) {i j : Nat} (h : i = P.length) (hj : j = P.length + 1) : ((P ++ y :: x :: Q).set i x).set j y = P ++ x :: y :: Q := by
  subst h hj
  rw [List.set_append, if_neg (Nat.lt_irrefl _), Nat.sub_self]
  rw [List.set_append, if_neg (by omega), Nat.add_sub_cancel_left]
  rfl
/-- An element has found its place. -/
theorem ins_fin {α : Type} {R : α → α → Prop} (ht : ∀ a b c, R a b → R b c → R a c) {pre post : List α} {x : α} (hs : (pre ++ post).Pairwise R) (h1 : ∀ y ∈ post, R x y) (h2 : ∀ P y, pre = P ++ [y] → R y x) : (pre ++ x :: post).Pairwise R := by
  rw [List.pairwise_append] at hs ⊢
  obtain ⟨a, b, c⟩ := hs
  refine ⟨a, List.pairwise_cons.2 ⟨h1, b⟩, fun z hz w hw => ?_⟩
  have hzx : R z x := by
    rcases List.eq_nil_or_concat pre with rfl | ⟨P, y, rfl⟩
    · cases hz
    · rw [List.concat_eq_append] at *
      have hy := h2 P y rfl
      rw [List.pairwise_append] at a
      rcases List.mem_append.1 hz with h | h
      · exact ht _ _ _ (a.2.2 z h y (List.mem_singleton.2 rfl)) hy
      · rw [List.mem_singleton.1 h]; exact hy
  rcases List.mem_cons.1 hw with rfl | hw
  · exact hzx
  · exact c z hz w hw
end Go.Sx

/- Common prefixes. -/
namespace Go.Sx
def lcp : List Int → List Int → Nat
  | a :: r, b :: t => if a = b then lcp r t + 1 else 0
  | _, _ => 0
theorem lcp_of : ∀ (a b : List Int) (m : Nat), a.take m = b.take m → m ≤ a.length → m ≤ b.length → (m = a.length ∨ m = b.length ∨ a.getD m 0 ≠ b.getD m 0) → lcp a b = m
  | [], b, m, _, h1, _, _ => by
    have : m = 0 := by simpa using h1
    subst this
    cases b <;> rfl
  | _ :: _, [], m, _, _, h2, _ => by
    have : m = 0 := by simpa using h2
    subst this
    rfl
  | x :: r, y :: t, 0, _, _, _, h => by
    rcases h with h | h | h
    · simp at h
    · simp at h
    · unfold lcp
      rw [if_neg (by simpa using h)]
  | x :: r, y :: t, m + 1, he, h1, h2, h => by
    rw [List.take_succ_cons, List.take_succ_cons, List.cons.injEq] at he
    unfold lcp
    rw [if_pos he.1, lcp_of r t m he.2 (by simpa using h1) (by simpa using h2) (by
      rcases h with h | h | h
      · exact .inl (by simpa using h)
      · exact .inr (.inl (by simpa using h))
      · exact .inr (.inr (by simpa using h)))]
theorem take_more {a b : List Int} {m : Nat} (h : a.take m = b.take m) (h1 : m < a.length) (h2 : m < b.length) (he : a.getD m 0 = b.getD m 0) : a.take (m + 1) = b.take (m + 1) := by
  rw [List.take_succ_eq_append_getElem h1, List.take_succ_eq_append_getElem h2, h]
  congr 2
  simpa [List.getD, h1, h2] using he
/-- The common list. -/
def comL (s l : List Int) : List Int := (List.range l.length).map fun i => if i = 0 then 0 else (lcp (suf s (l.getD (i - 1) 0)) (suf s (l.getD i 0)) : Int)
theorem comL_len (s l : List Int) : (comL s l).length = l.length := by simp [comL]
theorem comL_get {s l : List Int} {i : Nat} (h : i < l.length) : (comL s l).getD i 0 = if i = 0 then 0 else (lcp (suf s (l.getD (i - 1) 0)) (suf s (l.getD i 0)) : Int) := by
  unfold comL
  simp [List.getD, h]
theorem bs_suf {s : ByteArray} {n : Int} : bs (s.extract n.toNat (Int.toNat (s.size : Int))) = suf (bs s) n := by
  rw [bs_ext, Int.toNat_natCast, List.take_of_length_le (by rw [bs_len]; exact Nat.le_refl _)]
  rfl
theorem suf_len (s : List Int) {n : Int} (h0 : 0 ≤ n) (h1 : n ≤ s.length) : ((suf s n).length : Int) = s.length - n := by
  unfold suf
  rw [List.length_drop]
  omega
theorem suf_eq {s : List Int} {a b : Int} (ha : 0 ≤ a ∧ a ≤ s.length) (hb : 0 ≤ b ∧ b ≤ s.length) (h : suf s a = suf s b) : a = b := by
  have := suf_ne (s := s) (i := a.toNat) (j := b.toNat) (by omega) (by omega) h
  omega
end Go.Sx

/- The reference: Sorted, Suffixes; Suffixes of the program. -/
set_option maxRecDepth 100000
namespace Go.Proofs.Ytipmcfpjdebpdaa
open Go Go.Sx
theorem Suffixes_ok {s : ByteArray} (h : Hp) :
    HCalls Try.prog 12 #[.string s] h (fun v h' => if 4096 < s.size then v = .tuple #[.slice none 0 0, .int .i64 4] ∧ h' = h else ∃ q d A l, v = .tuple #[.slice q s.size d, .int .i64 0] ∧ Sl TI q s.size d l A ∧ St h h' A ∧ SA (bs s) l) := by
  refine suffixindex_Suffixes_call ?_
  rw [suffixindex_Suffixes_b0_eq]
  refine suffixindex_long_call ?_
  rw [suffixindex_long_b0_eq]
  refine ⟨_, rfl, condP (fun h1 => ?_) (fun h1 => ?_)⟩
  · rw [if_pos (by omega)]; exact ⟨rfl, rfl⟩
  · simp only [if_neg (show ¬ 4096 < s.size by omega)]
    exact (suffixes_ok h (by omega)).mono fun v h' ⟨q, d, A, l, hv, o, st, hsa⟩ => ⟨_, _, _, hv, q, d, A, l, rfl, o, st, hsa⟩
theorem iota_succ (n : Nat) : iota (n + 1) = iota n ++ [(n : Int)] := by
  unfold iota
  rw [List.range_succ, List.map_append]; rfl
theorem Sorted_s {s : ByteArray} {h : Hp} (hn : s.size < 1000000) :
    HCalls Try.prog 36 #[.string s] h (fun v h' => ∃ q d A zs, v = .slice q (s.size + 1) d ∧ Sl TI q (s.size + 1) d zs A ∧ St h h' A ∧ zs.Perm (iota (s.size + 1)) ∧ SufS (bs s) zs) := by
  generalize hS : s.size = n at *
  have hbl : (bs s).length = n := by rw [bs_len, hS]
  refine r30_Sorted_call ?_
  rw [r30_Sorted_b0_eq]
  refine (St.start h).new (cs := []) fun b h1 _ st => ?_
  refine ⟨fun q h' => ∃ (i : Nat) (A : Bag) (zs : List Int), q.2.1 = i ∧ i ≤ n + 1 ∧ q.1.2.1 = i ∧ Sl TI q.1.1 i q.1.2.2 zs A ∧ St h h' (A + 0) ∧ zs.Perm (iota i) ∧ SufS (bs s) zs, fun q _ => (n + 1 - q.2.1).toNat, ⟨0, cA b [] 3, [], rfl, Nat.zero_le _, rfl, ⟨rfl, .inr ⟨b, [], rfl, Nat.le_refl _, by simp, rfl⟩⟩, st, .refl _, List.Pairwise.nil⟩, ?_⟩
  clear st
  rintro ⟨⟨out, oL, oc⟩, _, _⟩ h2 ⟨i, A, zs, rfl, hi, ho, o, st, hp, hpw⟩
  dsimp only at ho o st ⊢
  have ho := ho.symm
  subst ho
  rw [r30_Sorted_b1_eq]
  rw [hS]
  refine condP (fun hlt => ?_) (fun hge => ?_)
  · refine push_sl ok_int st o (x := (i : Int)) rfl rfl (by omega) fun out oc h3 A o1 st1 => ?_
    have hzl : zs.length = i := by have := hp.length_eq; rwa [iota_len] at this
    refine ⟨fun q h' => ∃ (A : Bag) (pre post : List Int), Sl TI out (i + 1) oc (pre ++ (i : Int) :: post) A ∧ St h h' (A + 0) ∧ q.1 = pre.length ∧ pre ++ post = zs ∧ ∀ y ∈ post, ltL (suf (bs s) i) (suf (bs s) y), fun q _ => q.1.toNat, ⟨A, zs, [], o1, st1, by rw [hzl], by simp, by simp⟩, ?_⟩
    clear o1 st1 o st
    rintro ⟨k, _⟩ h4 ⟨A, pre, post, o, st, hk, rfl, hpo⟩
    dsimp only at hk ⊢
    subst hk
    have hfin : (∀ P y, pre = P ++ [y] → ltL (suf (bs s) y) (suf (bs s) i)) → (pre ++ (i : Int) :: post).Perm (iota (i + 1)) ∧ SufS (bs s) (pre ++ (i : Int) :: post) := fun hP => by
      refine ⟨?_, ins_fin (R := fun a b : Int => ltL (suf (bs s) a) (suf (bs s) b)) (fun _ _ _ h h' => ltL_trans h h') hpw hpo hP⟩
      rw [iota_succ]
      refine List.perm_middle.trans (.trans ?_ List.perm_append_comm)
      exact .cons _ hp
    rw [r30_Sorted_b2_eq]
    refine condP (fun hk0 => ?_) (fun hk0 => ?_)
    · rcases List.eq_nil_or_concat pre with rfl | ⟨P, y, rfl⟩
      · simp at hk0
      · rw [List.concat_eq_append] at *
        have hlen : P.length + 1 + post.length = i := by rw [← hzl]; simp; omega
        have ek : (((P ++ [y]).length : Nat) : Int) = ((P.length + 1 : Nat) : Int) := by simp
        simp only [ek, show ((P.length + 1 : Nat) : Int) - 1 = ((P.length : Nat) : Int) by omega]
        have el : P ++ [y] ++ (i : Int) :: post = P ++ y :: (i : Int) :: post := by simp
        rw [el] at o hfin
        have e1 : (P ++ y :: (i : Int) :: post).getD P.length 0 = y := getD_at P _ y 0 rfl
        have e2 : (P ++ y :: (i : Int) :: post).getD (P.length + 1) 0 = i := getD_at1 P _ y _ 0 rfl
        have hy := mem_iota.1 (hp.mem_iff.1 (show y ∈ P ++ [y] ++ post by simp))
        refine ldI (i' := P.length + 1) (o.rd st) rfl (by omega) ?_
        simp only [e2]
        refine ⟨⟨by omega, by omega, by omega⟩, ⟨by omega, by omega⟩, ldI (i' := P.length) (o.rd st) rfl (by omega) ?_⟩
        simp only [e1]
        refine ⟨⟨by omega, by omega, by omega⟩, ?_⟩
        rw [← hS, strLt_bs, bs_suf, bs_suf]
        refine condP (fun hxy => ?_) (fun hxy => ?_)
        · rw [r30_Sorted_b4_eq]
          simp only [show ((P.length + 1 : Nat) : Int) - 1 = ((P.length : Nat) : Int) by omega]
          refine ⟨⟨by omega, by omega⟩, ldI (i' := P.length + 1) (o.rd st) rfl (by omega) ?_⟩
          simp only [e2]
          refine ⟨⟨by omega, by omega⟩, ldI (i' := P.length) (o.rd st) rfl (by omega) ?_⟩
          simp only [e1]
          refine o.wrI (x := (i : Int)) st (by omega) (by omega) rfl rfl fun h5 A o st => ?_
          refine o.wrI (x := y) st (by omega) (by omega) rfl rfl fun h6 A o st => ?_
          simp only [Int.toNat_natCast] at o
          rw [set_swap P _ y _ rfl rfl] at o
          refine ⟨⟨by omega, by omega⟩, ⟨A, P, y :: post, o, st, rfl, by simp, ?_⟩, by omega⟩
          intro z hz
          rcases List.mem_cons.1 hz with rfl | hz
          · exact hxy
          · exact hpo z hz
        · obtain ⟨f1, f2⟩ := hfin (by
            intro P' y' h
            have := List.append_inj' h rfl
            simp at this
            rw [← this.2]
            rcases ltL_tri (suf (bs s) i) (suf (bs s) y) with h | h | h
            · exact absurd h hxy
            · have := suf_eq (by omega) (by omega) h; omega
            · exact h)
          rw [r30_Sorted_b5_eq]
          exact ⟨⟨by omega, by omega⟩, ⟨i + 1, A, _, by push_cast; rfl, by omega, rfl, o, st, f1, f2⟩, by dsimp only; omega⟩
    · obtain ⟨f1, f2⟩ := hfin fun P y h => by
        subst h
        simp at hk0
      rw [r30_Sorted_b5_eq]
      exact ⟨⟨by omega, by omega⟩, ⟨i + 1, A, _, by push_cast; rfl, by omega, rfl, o, st, f1, f2⟩, by dsimp only; omega⟩
  · rw [r30_Sorted_b3_eq]
    obtain rfl : i = n + 1 := by omega
    exact ⟨_, _, _, _, rfl, o, st.to, hp, hpw⟩
theorem Long_s {s : ByteArray} {h : Hp} : HCalls Try.prog 11 #[.string s] h (fun v h' => h' = h ∧ v = .bool (decide ((60 < s.size ∧ s.size ≤ 4096) ∨ 5000 < s.size))) := by
  refine l30_long_call ?_
  rw [l30_long_b0_eq]
  have e : ∀ {P Q : Prop} [Decidable P] [Decidable Q], (P ↔ Q) → Value.bool (decide P) = Value.bool (decide Q) := fun h => by rw [decide_eq_decide.2 h]
  refine condP (fun h1 => condP (fun h2 => ⟨rfl, ?_⟩) (fun h2 => ⟨rfl, e (by omega)⟩)) (fun h1 => ⟨rfl, e (by omega)⟩)
  rw [decide_eq_true (by omega)]
theorem Full_s {s : ByteArray} {h : Hp} : HCalls Try.prog 14 #[.string s] h (fun v h' => h' = h ∧ v = .bool (decide (4096 < s.size))) := by
  refine l30_full_call ?_
  rw [l30_full_b0_eq]
  exact ⟨rfl, by congr 1; exact decide_eq_decide.2 (by omega)⟩
theorem EqualI {h : Hp} {p q : Option Addr} {n m c d : Nat} {xs ys : List Int} (r1 : RdT TI h p n xs) (r2 : RdT TI h q m ys) (hn : n ≤ 1000000000) :
    HCalls Try.prog 15 #[.slice p n c, .slice q m d] h (fun v h' => h' = h ∧ v = .bool (decide (xs = ys))) := by
  have l1 := r1.len
  have l2 := r2.len
  refine EqI_call ?_
  rw [EqI_b0_eq]
  refine condN (fun hl => ?_) (fun hl => ?_)
  · exact ⟨rfl, by rw [decide_eq_false (fun h => hl (by subst h; omega))]⟩
  refine ⟨fun x h' => h' = h ∧ ∃ i : Nat, x.1 = i ∧ i ≤ n ∧ ∀ j, j < i → xs.getD j 0 = ys.getD j 0, fun x _ => n - x.1.toNat, ⟨rfl, 0, rfl, by omega, fun j hj => by omega⟩, ?_⟩
  rintro ⟨_, _⟩ h1 ⟨rfl, i, rfl, hin, heq⟩
  dsimp only
  rw [EqI_b1_eq]
  refine condP (fun hlt => ?_) (fun hge => ?_)
  · refine ldI (i' := i) r1 rfl (by omega) (ldI (i' := i) r2 rfl (by omega) (condN (fun hne => ?_) (fun he => ?_)))
    · exact ⟨rfl, by rw [decide_eq_false (fun h => hne (by rw [h]))]⟩
    · rw [EqI_b2_eq]
      refine ⟨⟨by omega, by omega⟩, ⟨rfl, i + 1, by simp only; omega, by omega, fun j hj => ?_⟩, by simp only; omega⟩
      rcases Nat.lt_or_ge j i with h1 | h1
      · exact heq j h1
      · obtain rfl : j = i := by omega
        exact he
  · rw [EqI_b3_eq]
    exact ⟨rfl, by rw [decide_eq_true (list_eq_of (d := 0) (by omega) (fun t ht => heq t (by omega)))]⟩
end Go.Proofs.Ytipmcfpjdebpdaa

/- Common prefixes of neighbours: the program and the reference. -/
set_option maxRecDepth 100000
namespace Go.Proofs.Ytipmcfpjdebpdaa
open Go Go.Sx
theorem cellI {h : Hp} {a : Addr} {n i : Nat} {xs : List Int} (r : RdT TI h (some a) n xs) (hi : i < n) : cell h (a.add i) = some (.int .i64 (xs.getD i 0)) := by
  obtain ⟨a', e, hc⟩ := r.at_ hi
  cases e
  have := hc 0 Nat.one_pos
  rw [add_add] at this
  rw [show i * TI.sz + 0 = i by show i * 1 + 0 = i; omega] at this
  exact this
theorem comL_one {s l : List Int} {i : Nat} (h0 : 0 < i) (h : i < l.length) : (comL s l).getD i 0 = (lcp (suf s (l.getD (i - 1) 0)) (suf s (l.getD i 0)) : Int) := by
  rw [comL_get h, if_neg (by omega)]
theorem common_ok {s : ByteArray} {h : Hp} {p : Option Addr} {n c : Nat} {l : List Int} (r : RdT TI h p n l) (hn : n ≤ 4096) (hs : s.size ≤ 4096) (hl : ∀ i, i < n → 0 ≤ l.getD i 0 ∧ l.getD i 0 ≤ s.size) :
    HCalls Try.prog 35 #[.string s, .slice p n c] h (fun v h' => ∃ b A, v = .slice (some ⟨b, 0, none⟩) n n ∧ Sl TI (some ⟨b, 0, none⟩) n n (comL (bs s) l) A ∧ St h h' A) := by
  have hll := r.len
  have hbl := bs_len s
  refine suffixindex_common_call ?_
  rw [suffixindex_common_b0_eq]
  refine ⟨⟨by omega, by omega, by omega, by omega⟩, ?_⟩
  simp only [Int.toNat_natCast, Nat.mul_one, repL_one]
  refine (St.start h).new (cs := List.replicate n (.int .i64 0)) fun b h1 _ st => ?_
  have zr : Sl TI (some ⟨b, 0, none⟩) n n (List.replicate n 0) (cA b (List.replicate n (.int .i64 0)) 3) := Sl.of_blk (T := TI) (by simp) (by rw [tI_cells]; simp)
  have rep : ∀ j, (List.replicate n (0 : Int)).getD j 0 = 0 := fun j => by
    rw [List.getD_eq_getElem?_getD, List.getElem?_replicate]; split <;> rfl
  refine ⟨fun q h' => ∃ (i : Nat) (out : List Int) (A : Bag), q.1 = i ∧ 1 ≤ i ∧ Sl TI (some ⟨b, 0, none⟩) n n out A ∧ (∀ j, j < i → j < n → out.getD j 0 = (comL (bs s) l).getD j 0) ∧ (∀ j, i ≤ j → out.getD j 0 = 0) ∧ St h h' (A + 0), fun q _ => (n - q.1).toNat, ⟨1, _, _, rfl, Nat.le_refl _, zr, fun j hj hjn => ?_, fun j _ => rep j, st⟩, ?_⟩
  · obtain rfl : j = 0 := by omega
    rw [rep, comL_get (by omega), if_pos rfl]
  clear st zr
  rintro ⟨_, _⟩ h2 ⟨i, out, A, rfl, hi1, o, hlo, hhi, st⟩
  dsimp only
  rw [suffixindex_common_b1_eq]
  refine condP (fun hlt => ?_) (fun hge => ?_)
  · have hin : i < n := by omega
    have l1 := hl (i - 1) (by omega)
    have l2 := hl i hin
    refine ⟨⟨by omega, by omega⟩, ldI (i' := i - 1) (r.ext st.ext) (by omega) (by omega) ⟨⟨by omega, by omega, by omega⟩, ldI (i' := i) (r.ext st.ext) rfl hin ⟨⟨by omega, by omega, by omega⟩, ?_⟩⟩⟩
    have eA := bs_suf (s := s) (n := l.getD (i - 1) 0)
    have eB := bs_suf (s := s) (n := l.getD i 0)
    have cG := comL_one (s := bs s) (l := l) (i := i) (by omega) (by omega)
    generalize s.extract (Int.toNat (l.getD (i - 1) 0)) (Int.toNat (s.size : Int)) = a at *
    generalize s.extract (Int.toNat (l.getD i 0)) (Int.toNat (s.size : Int)) = b2 at *
    rw [← eA, ← eB] at cG
    have la := bs_len a
    have lb := bs_len b2
    have sA := suf_len (bs s) (n := l.getD (i - 1) 0) (by omega) (by omega)
    have sB := suf_len (bs s) (n := l.getD i 0) (by omega) (by omega)
    rw [← eA] at sA
    rw [← eB] at sB
    refine ⟨fun _ h' => ∃ (m : Nat) (out : List Int) (A : Bag), Sl TI (some ⟨b, 0, none⟩) n n out A ∧ (∀ j, j < i → j < n → out.getD j 0 = (comL (bs s) l).getD j 0) ∧ (∀ j, i + 1 ≤ j → out.getD j 0 = 0) ∧ out.getD i 0 = m ∧ m ≤ a.size ∧ m ≤ b2.size ∧ (bs a).take m = (bs b2).take m ∧ St h h' (A + 0), fun _ h' => match cell h' ((⟨b, 0, none⟩ : Addr).add i) with | some (.int _ z) => (5000 - z).toNat | _ => 0, ⟨0, out, A, o, hlo, fun j hj => hhi j (by omega), hhi i (Nat.le_refl _), Nat.zero_le _, Nat.zero_le _, rfl, st⟩, ?_⟩
    clear o hlo hhi st
    rintro _ h3 ⟨m, out, A, o, hlo, hhi, hm, hma, hmb, htk, st⟩
    dsimp only
    have hol := o.len
    have rd := o.rd st
    have hc := cellI rd hin
    rw [hm] at hc
    rw [hc]
    dsimp only
    have fin : (m = a.size ∨ m = b2.size ∨ (bs a).getD m 0 ≠ (bs b2).getD m 0) → ∀ {nx K}, (((i : Int) + 1 = ((i + 1 : Nat) : Int)) → (∀ j, j < i + 1 → j < n → out.getD j 0 = (comL (bs s) l).getD j 0) → nx ((i : Int) + 1, ()) h3) → suffixindex_common_b5 s p n c (some ⟨b, 0, none⟩) n n i h3 nx K := fun hend nx K hnx => by
      rw [suffixindex_common_b5_eq]
      refine ⟨⟨by omega, by omega⟩, hnx (by push_cast; rfl) fun j hj hjn => ?_⟩
      rcases Nat.lt_or_ge j i with h | h
      · exact hlo j h hjn
      · obtain rfl : j = i := by omega
        rw [hm, cG, lcp_of (bs a) (bs b2) m htk (by omega) (by omega) (by rw [la, lb]; exact hend)]
    have emin : (if (b2.size : Int) < (a.size : Int) then (b2.size : Int) else (a.size : Int)) = ((min a.size b2.size : Nat) : Int) := by split <;> omega
    rw [suffixindex_common_b2_eq]
    refine ldI (i' := i) rd rfl hin ?_
    rw [hm, emin]
    refine condP (fun hlt2 => ?_) (fun hge2 => ?_)
    · refine ldI (i' := i) rd rfl hin ?_
      rw [hm]
      refine ⟨⟨by omega, by omega⟩, ldI (i' := i) rd rfl hin ?_⟩
      rw [hm]
      have ea : ((a.data.toList.getD (Int.toNat (m : Int)) 0).toNat : Int) = (bs a).getD m 0 := by rw [Int.toNat_natCast]; exact bs_get (by omega)
      have eb : ((b2.data.toList.getD (Int.toNat (m : Int)) 0).toNat : Int) = (bs b2).getD m 0 := by rw [Int.toNat_natCast]; exact bs_get (by omega)
      rw [ea, eb]
      refine ⟨⟨by omega, by omega⟩, condP (fun he => ?_) (fun he => ?_)⟩
      · rw [suffixindex_common_b4_eq]
        refine ldI (i' := i) rd rfl hin ?_
        rw [hm]
        refine ⟨⟨by omega, by omega⟩, o.wrI (x := (m : Int) + 1) st (by omega) (by omega) rfl rfl fun h4 A4 o4 st4 => ?_⟩
        rw [Int.toNat_natCast] at o4
        refine ⟨⟨m + 1, _, A4, o4, fun j hj hjn => ?_, fun j hj => ?_, ?_, by omega, by omega, take_more htk (by omega) (by omega) he, st4⟩, ?_⟩
        · rw [getD_set (by omega), if_neg (by omega)]; exact hlo j hj hjn
        · rw [getD_set (by omega), if_neg (by omega)]; exact hhi j hj
        · rw [getD_set (by omega), if_pos rfl]; push_cast; rfl
        · have hc4 := cellI (o4.rd st4) hin
          rw [getD_set (by omega), if_pos rfl] at hc4
          rw [hc4]
          show (5000 - ((m : Int) + 1)).toNat < (5000 - (m : Int)).toNat
          omega
      · exact fin (.inr (.inr he)) fun e1 e2 => ⟨⟨i + 1, out, A, e1, by omega, o, e2, hhi, st⟩, by dsimp only; omega⟩
    · exact fin (by omega) fun e1 e2 => ⟨⟨i + 1, out, A, e1, by omega, o, e2, hhi, st⟩, by dsimp only; omega⟩
  · rw [suffixindex_common_b3_eq]
    have hol := o.len
    have e : out = comL (bs s) l := list_eq_of (d := 0) (by rw [comL_len]; omega) fun j hj => hlo j (by omega) (by omega)
    rw [e] at o
    exact ⟨b, A, rfl, o, st.to⟩
theorem SA_range {s l : List Int} (h : SA s l) : l.length = s.length ∧ ∀ i, i < s.length → 0 ≤ l.getD i 0 ∧ l.getD i 0 < s.length := by
  have hl := h.1.length_eq
  rw [iota_len] at hl
  refine ⟨hl, fun i hi => ?_⟩
  have e : l.getD i 0 = l[i] := by simp [List.getD, show i < l.length by omega]
  rw [e]
  exact mem_iota.1 (h.1.mem_iff.1 (List.getElem_mem _))
theorem SA_uniq {s l l' : List Int} (h : SA s l) (h' : SA s l') : l = l' := sufS_uniq h.2 h.1 h'.2 h'.1
theorem Common_ok {s : ByteArray} (h : Hp) :
    HCalls Try.prog 13 #[.string s] h (fun v h' => if 4096 < s.size then v = .tuple #[.slice none 0 0, .int .i64 4] ∧ h' = h else ∃ q d l, v = .tuple #[.slice q s.size d, .int .i64 0] ∧ SA (bs s) l ∧ RdT TI h' q s.size (comL (bs s) l) ∧ Ext h h') := by
  refine suffixindex_Common_call ?_
  rw [suffixindex_Common_b0_eq]
  refine suffixindex_long_call ?_
  rw [suffixindex_long_b0_eq]
  refine ⟨_, rfl, condP (fun h1 => ?_) (fun h1 => ?_)⟩
  · rw [if_pos (by omega)]; exact ⟨rfl, rfl⟩
  · simp only [if_neg (show ¬ 4096 < s.size by omega)]
    refine (suffixes_ok h (by omega)).mono fun v h' ⟨q, d, A, l, hv, o, st, hsa⟩ => ⟨_, _, _, hv, ?_⟩
    obtain ⟨hll, hrg⟩ := SA_range hsa
    rw [bs_len] at hrg hll
    have st := st.to (B := A + 0)
    refine (common_ok (o.rd st) (by omega) (by omega) fun i hi => by have := hrg i hi; omega).mono fun v h2 ⟨b, A2, hv, o2, st2⟩ => ⟨_, _, _, hv, _, _, l, rfl, hsa, o2.rd (st2.to (B := A2 + 0)), st.ext.trans st2.ext⟩
end Go.Proofs.Ytipmcfpjdebpdaa

/- The reference: Common. -/
set_option maxRecDepth 100000
namespace Go.Proofs.Ytipmcfpjdebpdaa
open Go Go.Sx
theorem take_snocI {S : List Int} {i : Nat} (h : i < S.length) : S.take (i + 1) = S.take i ++ [S.getD i 0] := by
  rw [List.take_succ_eq_append_getElem h]; simp [List.getD, h]
end Go.Proofs.Ytipmcfpjdebpdaa

/- Transforms: the program and the reference. -/
set_option maxRecDepth 100000
namespace Go.Proofs.Ytipmcfpjdebpdaa
open Go Go.Sx
/-- The transform, from the order of all suffixes. -/
def bwtL (s O : List Int) : List Int := O.map fun i => if i = 0 then -1 else s.getD (i - 1).toNat 0
theorem bwtL_len (s O : List Int) : (bwtL s O).length = O.length := by simp [bwtL]
theorem bwtL_get {s O : List Int} {i : Nat} (h : i < O.length) : (bwtL s O).getD i 0 = if O.getD i 0 = 0 then -1 else s.getD (O.getD i 0 - 1).toNat 0 := by
  unfold bwtL
  simp [List.getD, h]
/-- The place on the way. -/
def PlS (O : List Int) (i : Nat) (p : Int) : Prop := ((∀ j, j < i → O.getD j 0 ≠ 0) ∧ p = 0) ∨ ∃ j, j < i ∧ O.getD j 0 = 0 ∧ p = (j : Int)
theorem plS_set {O : List Int} {i : Nat} (h : O.getD i 0 = 0) : PlS O (i + 1) i := .inr ⟨i, by omega, h, rfl⟩
theorem plS_keep {O : List Int} {i : Nat} {p : Int} (h : PlS O i p) (hn : O.getD i 0 ≠ 0) : PlS O (i + 1) p := by
  rcases h with ⟨h, rfl⟩ | ⟨j, hj, h1, h2⟩
  · refine .inl ⟨fun j hj => ?_, rfl⟩
    rcases Nat.lt_or_ge j i with h' | h'
    · exact h j h'
    · rw [show j = i by omega]; exact hn
  · exact .inr ⟨j, by omega, h1, h2⟩
/-- The order of all suffixes, the empty one first. -/
def SA0 (s O : List Int) : Prop := O.Perm (iota (s.length + 1)) ∧ SufS s O
theorem SA_cons {s l : List Int} (h : SA s l) : SA0 s ((s.length : Int) :: l) := by
  refine ⟨?_, List.pairwise_cons.2 ⟨fun y hy => ?_, h.2⟩⟩
  · rw [iota_succ]
    exact (List.Perm.cons _ h.1).trans (List.perm_append_comm (l₁ := [(s.length : Int)]))
  · have e : suf s (s.length : Int) = [] := by unfold suf; rw [Int.toNat_natCast, List.drop_length]
    rw [e, ltL_nil]
    have := mem_iota.1 (h.1.mem_iff.1 hy)
    intro hc
    have := congrArg List.length hc
    have hs := suf_len s (n := y) (by omega) (by omega)
    rw [hc] at hs
    simp at hs
    omega
theorem SA0_uniq {s O O' : List Int} (h : SA0 s O) (h' : SA0 s O') : O = O' := sufS_uniq h.2 h.1 h'.2 h'.1
theorem SA0_range {s O : List Int} (h : SA0 s O) : O.length = s.length + 1 ∧ ∀ i, i < s.length + 1 → 0 ≤ O.getD i 0 ∧ O.getD i 0 ≤ s.length := by
  have hl := h.1.length_eq
  rw [iota_len] at hl
  refine ⟨hl, fun i hi => ?_⟩
  have e : O.getD i 0 = O[i] := by simp [List.getD, show i < O.length by omega]
  rw [e]
  have := mem_iota.1 (h.1.mem_iff.1 (List.getElem_mem (show i < O.length by omega)))
  omega
theorem SA0_inj {s O : List Int} (h : SA0 s O) {i j : Nat} (hi : i < s.length + 1) (hj : j < s.length + 1) (e : O.getD i 0 = O.getD j 0) : i = j := by
  have hl := (SA0_range h).1
  have hnd := h.1.nodup_iff.2 (iota_nodup _)
  have ei : O.getD i 0 = O[i] := by simp [List.getD, show i < O.length by omega]
  have ej : O.getD j 0 = O[j] := by simp [List.getD, show j < O.length by omega]
  rw [ei, ej] at e
  rw [List.nodup_iff_pairwise_ne, List.pairwise_iff_getElem] at hnd
  rcases Nat.lt_trichotomy i j with h | h | h
  · exact absurd e (hnd i j (by omega) (by omega) h)
  · exact h
  · exact absurd e.symm (hnd j i (by omega) (by omega) h)
/-- The place: where the whole text stands. -/
def PlAt (O : List Int) (p : Nat) : Prop := p < O.length ∧ O.getD p 0 = 0
theorem plAt_uniq {s O : List Int} (h : SA0 s O) {p q : Nat} (hp : PlAt O p) (hq : PlAt O q) : p = q := by
  have hl := (SA0_range h).1
  exact SA0_inj h (by have := hp.1; omega) (by have := hq.1; omega) (by rw [hp.2, hq.2])
theorem plS_end {s O : List Int} (h : SA0 s O) {p : Int} (hp : PlS O O.length p) : ∃ q : Nat, p = q ∧ PlAt O q := by
  rcases hp with ⟨h1, _⟩ | ⟨j, hj, h1, h2⟩
  · have hm : (0 : Int) ∈ O := h.1.mem_iff.2 (mem_iota.2 (by omega))
    obtain ⟨j, hj, e⟩ := List.getElem_of_mem hm
    exact absurd (by simp [List.getD, hj, e]) (h1 j hj)
  · exact ⟨j, h2, hj, h1⟩
theorem transform_ok {s : ByteArray} {h : Hp} {p : Option Addr} {c : Nat} {l : List Int} (r : RdT TI h p s.size l) (hs : s.size ≤ 4096) (hsa : SA (bs s) l) :
    HCalls Try.prog 39 #[.string s, .slice p s.size c] h (fun v h' => ∃ q d A pl, v = .tuple #[.slice q (s.size + 1) d, .int .i64 ((pl : Nat) : Int)] ∧ Sl TI q (s.size + 1) d (bwtL (bs s) ((s.size : Int) :: l)) A ∧ St h h' A ∧ PlAt ((s.size : Int) :: l) pl) := by
  have hbl := bs_len s
  have hO := SA_cons hsa
  rw [hbl] at hO
  obtain ⟨hol, hrg⟩ := SA0_range hO
  refine suffixindex_transform_call ?_
  rw [suffixindex_transform_b0_eq]
  refine (St.start h).new (cs := [_]) fun b1 h1 x1 st0 => ?_
  have o1 : Sl TI (some ⟨b1, 0, none⟩) 1 1 [(s.size : Int)] (cA b1 [.int .i64 (s.size : Int)] 3) := Sl.one rfl
  refine append_sl ok_int st0 o1 (r.ext x1) (by omega) fun tp tc h2 At ot st => ?_
  rw [show [(s.size : Int)] ++ l = (s.size : Int) :: l from rfl] at ot
  generalize hOd : (s.size : Int) :: l = O at *
  generalize hn : s.size = n at *
  rw [hbl] at hol hrg
  rw [show 1 + n = n + 1 by omega] at ot ⊢
  refine ⟨fun q h' => ∃ (i : Nat) (A : Bag), q.2.2.1 = i ∧ i ≤ n + 1 ∧ q.2.1.2.1 = i ∧ Sl TI q.2.1.1 i q.2.1.2.2 ((bwtL (bs s) O).take i) A ∧ PlS O i q.1 ∧ St h h' (A + (At + 0)), fun q _ => (n + 1 - q.2.2.1).toNat, ⟨0, 0, rfl, Nat.zero_le _, rfl, Sl.nil, .inl ⟨fun j hj => by omega, rfl⟩, st.to⟩, ?_⟩
  clear st
  rintro ⟨pl, ⟨out, oL, oc⟩, _, _⟩ h3 ⟨i, A, rfl, hi, ho, o, hpl, st⟩
  dsimp only at ho o hpl st ⊢
  have ho := ho.symm
  subst ho
  have rt : RdT TI h3 tp (n + 1) O := ot.rd (st.to (B := At + (A + 0)))
  have hbw := bwtL_len (bs s) O
  rw [suffixindex_transform_b1_eq]
  refine condP (fun hlt => ?_) (fun hge => ?_)
  · have hin : i < n + 1 := by omega
    have hr := hrg i hin
    have hget := bwtL_get (s := bs s) (O := O) (i := i) (by omega)
    refine ldI (i' := i) rt rfl hin ?_
    refine condP (fun h0 => ?_) (fun h0 => ?_)
    · rw [if_pos h0] at hget
      refine push_sl ok_int st o (x := -1) rfl rfl (by omega) fun q c' h4 A' o' st' => ?_
      rw [suffixindex_transform_b2_eq]
      rw [← hget, ← take_snocI (by omega)] at o'
      exact ⟨⟨by omega, by omega⟩, ⟨i + 1, A', by push_cast; rfl, by omega, rfl, o', plS_set h0, st'⟩, by dsimp only; omega⟩
    · rw [if_neg h0] at hget
      have hb := bs_byte (s := s) (O.getD i 0 - 1).toNat
      have eb : ((s.data.toList.getD (Int.toNat (O.getD i 0 - 1)) 0).toNat : Int) = (bs s).getD (O.getD i 0 - 1).toNat 0 := bs_get (by omega)
      rw [eb, hn]
      refine ⟨⟨by omega, by omega⟩, ⟨by omega, by omega⟩, ⟨by omega, by omega⟩, ?_⟩
      refine push_sl ok_int st o (x := (bs s).getD (O.getD i 0 - 1).toNat 0) rfl rfl (by omega) fun q c' h4 A' o' st' => ?_
      rw [suffixindex_transform_b2_eq]
      rw [← hget, ← take_snocI (by omega)] at o'
      exact ⟨⟨by omega, by omega⟩, ⟨i + 1, A', by push_cast; rfl, by omega, rfl, o', plS_keep hpl h0, st'⟩, by dsimp only; omega⟩
  · rw [suffixindex_transform_b3_eq]
    obtain rfl : i = n + 1 := by omega
    rw [List.take_of_length_le (by omega)] at o
    rw [← hol] at hpl
    obtain ⟨q, rfl, hq⟩ := plS_end hO hpl
    exact ⟨_, _, A, q, rfl, o, st.left, hq⟩
theorem Transform_r {s : ByteArray} {h : Hp} (hs : s.size < 1000000) :
    HCalls Try.prog 32 #[.string s] h (fun v h' => ∃ q d O pl, v = .tuple #[.slice q (s.size + 1) d, .int .i64 ((pl : Nat) : Int)] ∧ SA0 (bs s) O ∧ RdT TI h' q (s.size + 1) (bwtL (bs s) O) ∧ Ext h h' ∧ PlAt O pl) := by
  have hbl := bs_len s
  refine r30_Transform_call ?_
  rw [r30_Transform_b0_eq]
  refine (Sorted_s hs).mono fun v h1 ⟨p, c, At, O, hv, ot, st1, hp, hw⟩ => ⟨_, _, _, hv, ?_⟩
  have rt := ot.rd (st1.to (B := At + 0))
  have hO : SA0 (bs s) O := ⟨by rw [hbl]; exact hp, hw⟩
  obtain ⟨hol, hrg⟩ := SA0_range hO
  refine (St.start h1).new (cs := []) fun b h2 _ st => ?_
  generalize hn : s.size = n at *
  rw [hbl] at hol hrg
  refine ⟨fun q h' => ∃ (i : Nat) (A : Bag), q.2.2.1 = i ∧ i ≤ n + 1 ∧ q.1.2.1 = i ∧ Sl TI q.1.1 i q.1.2.2 ((bwtL (bs s) O).take i) A ∧ PlS O i q.2.1 ∧ St h1 h' (A + 0), fun q _ => (n + 1 - q.2.2.1).toNat, ⟨0, cA b [] 3, rfl, Nat.zero_le _, rfl, ⟨rfl, .inr ⟨b, [], rfl, Nat.le_refl _, by simp, rfl⟩⟩, .inl ⟨fun j hj => by omega, rfl⟩, st⟩, ?_⟩
  clear st
  rintro ⟨⟨out, oL, oc⟩, pl, _, _⟩ h3 ⟨i, A, rfl, hi, ho, o, hpl, st⟩
  dsimp only at ho o hpl st ⊢
  have ho := ho.symm
  subst ho
  have rt := rt.ext st.ext
  have hbw := bwtL_len (bs s) O
  rw [r30_Transform_b1_eq]
  refine condP (fun hlt => ?_) (fun hge => ?_)
  · have hin : i < n + 1 := by omega
    have hr := hrg i hin
    have hget := bwtL_get (s := bs s) (O := O) (i := i) (by omega)
    refine ldI (i' := i) rt rfl hin ?_
    refine condP (fun h0 => ?_) (fun h0 => ?_)
    · rw [if_pos h0] at hget
      refine push_sl ok_int st o (x := -1) rfl rfl (by omega) fun q c' h4 A' o' st' => ?_
      rw [r30_Transform_b2_eq]
      rw [← hget, ← take_snocI (by omega)] at o'
      exact ⟨⟨by omega, by omega⟩, ⟨i + 1, A', by push_cast; rfl, by omega, rfl, o', plS_set h0, st'⟩, by dsimp only; omega⟩
    · rw [if_neg h0] at hget
      refine ldI (i' := i) rt rfl hin ?_
      have hb := bs_byte (s := s) (O.getD i 0 - 1).toNat
      have eb : ((s.data.toList.getD (Int.toNat (O.getD i 0 - 1)) 0).toNat : Int) = (bs s).getD (O.getD i 0 - 1).toNat 0 := bs_get (by omega)
      rw [eb, hn]
      refine ⟨⟨by omega, by omega⟩, ⟨by omega, by omega⟩, ⟨by omega, by omega⟩, ?_⟩
      refine push_sl ok_int st o (x := (bs s).getD (O.getD i 0 - 1).toNat 0) rfl rfl (by omega) fun q c' h4 A' o' st' => ?_
      rw [r30_Transform_b2_eq]
      rw [← hget, ← take_snocI (by omega)] at o'
      exact ⟨⟨by omega, by omega⟩, ⟨i + 1, A', by push_cast; rfl, by omega, rfl, o', plS_keep hpl h0, st'⟩, by dsimp only; omega⟩
  · rw [r30_Transform_b3_eq]
    obtain rfl : i = n + 1 := by omega
    rw [List.take_of_length_le (by omega)] at o
    rw [← hol] at hpl
    obtain ⟨q, rfl, hq⟩ := plS_end hO hpl
    exact ⟨_, _, O, q, rfl, hO, o.rd st, st1.ext.trans st.ext, hq⟩
end Go.Proofs.Ytipmcfpjdebpdaa

/- Transform; slices.Delete; the numbers of lesser elements. -/
set_option maxRecDepth 100000
namespace Go.Proofs.Ytipmcfpjdebpdaa
open Go Go.Sx
theorem deleteI_st {h0 h : Hp} {p : Option Addr} {n c i : Nat} {j : Int} {xs : List Int} {A F : Bag} (s : St h0 h (A + F)) (a : Sl TI p n c xs A) (hi : i < n) (hj : j = (i : Int) + 1) (hn : n < 1000000) :
    HCalls Try.prog 41 #[.slice p n c, .int .i64 (i : Int), .int .i64 j] h (fun v h' => ∃ A', v = .slice p (n - 1) c ∧ Sl TI p (n - 1) c (xs.take i ++ xs.drop (i + 1)) A' ∧ St h0 h' (A' + F)) := by
  obtain rfl : j = ((i + 1 : Nat) : Int) := by omega
  have hcap := a.cap
  have hlen := a.len
  have rd := a.rd s
  refine slices_Delete_Sint_int_call ?_
  rw [slices_Delete_Sint_int_b0_eq]
  refine slC_st (ok_int).el (by omega) (by omega) hcap fun _ => condP (fun h1 => by omega) (fun _ => ?_)
  have e1 : Int.toNat (i : Int) = i := Int.toNat_natCast i
  have e2 : Int.toNat ((i + 1 : Nat) : Int) = i + 1 := Int.toNat_natCast _
  have e3 : Int.toNat (n : Int) = n := Int.toNat_natCast _
  have e0 : Int.toNat (0 : Int) = 0 := rfl
  refine ⟨⟨by omega, by omega, by omega⟩, ⟨by omega, by omega, by omega⟩, ?_⟩
  rw [e0, e1, e2, e3, subAddr_z, Nat.sub_zero, Nat.sub_zero]
  rcases a with ⟨hl, ⟨rfl, h3, _, _⟩ | ⟨b, rest, rfl, hc, hr, rfl⟩⟩
  · omega
  have hti : (TI.cells (xs.take i)).length = i * TI.sz := by rw [TI.cells_len, List.length_take]; congr 1; omega
  have hdl : (TI.cells (xs.drop i)).length = (n - i) * TI.sz := by rw [TI.cells_len, List.length_drop, hl]
  have hd1l : (TI.cells (xs.drop (i + 1))).length = (n - (i + 1)) * TI.sz := by rw [TI.cells_len, List.length_drop, hl]
  have s1 : St h0 h (cA b (TI.cells (xs.take i) ++ (TI.cells (xs.drop i)).take ((n - (i + 1)) * TI.sz) ++ ((TI.cells (xs.drop i)).drop ((n - (i + 1)) * TI.sz) ++ rest)) TI.e + F) := by
    have e : TI.cells (xs.take i) ++ (TI.cells (xs.drop i)).take ((n - (i + 1)) * TI.sz) ++ ((TI.cells (xs.drop i)).drop ((n - (i + 1)) * TI.sz) ++ rest) = TI.cells xs ++ rest := by
      rw [List.append_assoc, ← List.append_assoc _ _ rest, List.take_append_drop, ← List.append_assoc, ← TI.cells_append, List.take_append_drop]
    rw [e]; exact s
  have hle : (n - (i + 1)) * TI.sz ≤ (n - i) * TI.sz := Nat.mul_le_mul_right _ (by omega)
  refine append_fit_st ok_int s1 hti (by rw [List.length_take, hdl]; omega) (rd.sub (by omega) hcap rfl) (by omega) fun h' s2 => ?_
  refine ⟨⟨by omega, by omega, by omega⟩, ?_⟩
  have e4 : Int.toNat ((i + (n - (i + 1)) : Nat) : Int) = n - 1 := by omega
  have e5 : i + (n - (i + 1)) = n - 1 := by omega
  rw [e4, show subAddr (some ⟨b, 0, none⟩) c (n - 1) 1 = some ⟨b, (n - 1) * TI.sz, none⟩ by rw [show subAddr (some ⟨b, 0, none⟩) c (n - 1) 1 = subAddr (some ⟨b, 0, none⟩) c (n - 1) TI.sz from rfl, subAddr_in' (by omega), Nat.zero_add]]
  rw [← TI.cells_append, ← List.append_assoc] at s2
  have hl1 : (xs.take i ++ xs.drop (i + 1)).length = n - 1 := by rw [List.length_append, List.length_take, List.length_drop]; omega
  have hn1 : n - (n - 1) = 1 := by omega
  refine clear_st ok_int s2 (by rw [TI.cells_len, hl1]) (by
    rw [List.length_drop, hdl, ← Nat.sub_mul]; congr 1; omega) fun h2 zs hzl s3 => ?_
  rw [e5]
  refine ⟨_, rfl, ⟨hl1, .inr ⟨b, zs ++ rest, rfl, by omega, ?_, rfl⟩⟩, ?_⟩
  · rw [List.length_append, hzl, hr, ← Nat.add_mul]; congr 1; omega
  · rw [← List.append_assoc]; exact s3

theorem Transform_ok {s : ByteArray} (h : Hp) :
    HCalls Try.prog 31 #[.string s] h (fun v h' => if 4096 < s.size then v = .tuple #[.slice none 0 0, .int .i64 0, .int .i64 4] ∧ h' = h else ∃ q d O pl, v = .tuple #[.slice q (s.size + 1) d, .int .i64 ((pl : Nat) : Int), .int .i64 0] ∧ s.size + 1 ≤ d ∧ SA0 (bs s) O ∧ RdT TI h' q (s.size + 1) (bwtL (bs s) O) ∧ Ext h h' ∧ PlAt O pl) := by
  refine suffixindex_Transform_call ?_
  rw [suffixindex_Transform_b0_eq]
  refine suffixindex_long_call ?_
  rw [suffixindex_long_b0_eq]
  refine ⟨_, rfl, condP (fun h1 => ?_) (fun h1 => ?_)⟩
  · rw [if_pos (by omega)]; exact ⟨rfl, rfl⟩
  · simp only [if_neg (show ¬ 4096 < s.size by omega)]
    refine (suffixes_ok h (by omega)).mono fun v h' ⟨q, d, A, l, hv, o, st, hsa⟩ => ⟨_, _, _, hv, ?_⟩
    have st := st.to (B := A + 0)
    have hO := SA_cons hsa
    rw [bs_len] at hO
    refine (transform_ok (o.rd st) (by omega) hsa).mono fun v h2 ⟨q2, d2, A2, pl, hv, o2, st2, hp⟩ => ⟨_, _, _, _, hv, _, _, _, pl, rfl, o2.cap, hO, o2.rd (st2.to (B := A2 + 0)), st.ext.trans st2.ext, hp⟩
/-- How many elements lie from nought on below a bound. -/
def ltN (l : List Int) (c : Int) : Nat := (l.filter fun x => decide (0 ≤ x ∧ x < c)).length
def eqN (l : List Int) (c : Int) : Nat := (l.filter fun x => decide (x = c)).length
theorem ltN_succ (l : List Int) {c : Int} (hc : 0 ≤ c) : ltN l (c + 1) = ltN l c + eqN l c := by
  unfold ltN eqN
  induction l with
  | nil => rfl
  | cons z l ih =>
    rw [List.filter_cons, List.filter_cons, List.filter_cons]
    simp only [decide_eq_true_eq] at ih ⊢
    by_cases h1 : z = c
    · rw [if_pos (by omega), if_neg (by omega), if_pos h1, List.length_cons, List.length_cons]; omega
    · rw [if_neg h1]
      by_cases h2 : 0 ≤ z ∧ z < c
      · rw [if_pos (by omega), if_pos h2, List.length_cons, List.length_cons]; omega
      · rw [if_neg (by omega), if_neg h2]; exact ih
theorem ltN_zero (l : List Int) : ltN l 0 = 0 := by
  unfold ltN
  rw [List.length_eq_zero_iff, List.filter_eq_nil_iff]
  intro x _
  rw [decide_eq_true_eq]
  omega
theorem ltN_le (l : List Int) (c : Int) : ltN l c ≤ l.length := List.length_filter_le _ _
theorem eqN_le (l : List Int) (c : Int) : eqN l c ≤ l.length := List.length_filter_le _ _
theorem eqN_take {l : List Int} {i : Nat} (h : i < l.length) (c : Int) : eqN (l.take (i + 1)) c = eqN (l.take i) c + if l.getD i 0 = c then 1 else 0 := by
  unfold eqN
  rw [take_snocI h, List.filter_append, List.length_append, List.filter_cons]
  simp only [decide_eq_true_eq]
  split <;> rfl
/-- The row before which a byte's suffixes begin. -/
def firsts (l : List Int) : List Int := (List.range 257).map fun c : Nat => ((1 + ltN l c : Nat) : Int)
theorem firsts_len (l : List Int) : (firsts l).length = 257 := by simp [firsts]
theorem firsts_get {l : List Int} {c : Nat} (h : c < 257) : (firsts l).getD c 0 = ((1 + ltN l c : Nat) : Int) := by
  unfold firsts
  simp [List.getD, h]
abbrev T65 : Ty Int := tI 65
theorem starts_ok {h : Hp} {p : Option Addr} {n c : Nat} {l : List Int} (r : RdT TI h p n l) (hn : n ≤ 5001) (hr : ∀ i, i < n → -1 ≤ l.getD i 0 ∧ l.getD i 0 ≤ 255) :
    HCalls Try.prog 42 #[.slice p n c] h (fun v h' => v = .agg ((firsts l).map (Value.int .i64)).toArray ∧ Ext h h') := by
  have hll := r.len
  refine suffixindex_starts_call ?_
  rw [suffixindex_starts_b0_eq]
  refine (St.start h).new (cs := List.replicate 257 (.int .i64 0)) fun b1 h1 _ st => ?_
  refine st.new (cs := List.replicate 257 (.int .i64 0)) fun b2 h2 _ st => ?_
  have zr : Sl T65 (some ⟨b2, 0, none⟩) 257 257 (List.replicate 257 0) (cA b2 (List.replicate 257 (.int .i64 0)) 65) := Sl.of_blk (T := T65) (by simp) (by rw [tI_cells]; simp)
  have rep : ∀ j, (List.replicate 257 (0 : Int)).getD j 0 = 0 := fun j => by
    rw [List.getD_eq_getElem?_getD, List.getElem?_replicate]; split <;> rfl
  refine ⟨fun q h' => ∃ (i : Nat) (out : List Int) (A : Bag), q.1 = i ∧ i ≤ n ∧ Sl T65 (some ⟨b2, 0, none⟩) 257 257 out A ∧ (∀ j : Nat, j < 257 → out.getD j 0 = (eqN (l.take i) ((j : Int) - 1) : Nat)) ∧ St h h' (A + (cA b1 (List.replicate 257 (.int .i64 0)) 65 + 0)), fun q _ => (n - q.1).toNat, ⟨0, _, _, rfl, Nat.zero_le _, zr, fun j hj => by rw [rep]; rfl, st⟩, ?_⟩
  clear st zr
  rintro ⟨_, _⟩ h3 ⟨i, out, A, rfl, hi, o, hout, st⟩
  dsimp only
  have hol := o.len
  rw [suffixindex_starts_b1_eq]
  refine condP (fun hlt => ?_) (fun hge => ?_)
  · have hin : i < n := by omega
    have hb := hr i hin
    refine ldI (i' := i) (r.ext st.ext) rfl hin ?_
    generalize hx : l.getD i 0 = x at *
    obtain ⟨k, hk⟩ : ∃ k : Nat, x + 1 = k := ⟨(x + 1).toNat, by omega⟩
    rw [hk]
    have hek := hout k (by omega)
    have hle := eqN_le (l.take i) ((k : Int) - 1)
    rw [List.length_take] at hle
    refine ⟨⟨by omega, by omega⟩, (o.rd st).int (by omega) (by omega) ?_⟩
    rw [show out.getD (Int.toNat (k : Int)) 0 = out.getD k 0 by rw [Int.toNat_natCast], hek]
    refine ⟨⟨by omega, by omega⟩, o.wrI (x := ((eqN (l.take i) ((k : Int) - 1) : Nat) : Int) + 1) st (by omega) (by omega) rfl rfl fun h4 A4 o4 st4 => ?_⟩
    rw [Int.toNat_natCast] at o4
    rw [suffixindex_starts_b2_eq]
    refine ⟨⟨by omega, by omega⟩, ⟨i + 1, _, A4, by push_cast; rfl, by omega, o4, fun j hj => ?_, st4⟩, by dsimp only; omega⟩
    rw [getD_set (by omega), eqN_take (by omega), hx]
    by_cases hjk : j = k
    · subst hjk
      rw [if_pos rfl, if_pos (by omega)]
      push_cast; rfl
    · rw [if_neg hjk, if_neg (by omega), hout j hj]
      rfl
  · obtain rfl : i = n := by omega
    rw [← hll, List.take_length] at hout
    rw [suffixindex_starts_b3_eq]
    refine ⟨⟨by omega, by omega⟩, ?_⟩
    refine (o.wrI (i := 0) (x := 1) st (by omega) (by omega) rfl rfl fun h4 A4 o4 st4 => ?_).2
    rw [show Int.toNat (0 : Int) = 0 from rfl] at o4
    refine ⟨fun q h' => ∃ (k : Nat) (out : List Int) (A : Bag), q.1 = k ∧ 1 ≤ k ∧ k ≤ 257 ∧ Sl T65 (some ⟨b2, 0, none⟩) 257 257 out A ∧ (∀ j : Nat, j < k → out.getD j 0 = (1 + ltN l j : Nat)) ∧ (∀ j : Nat, k ≤ j → j < 257 → out.getD j 0 = (eqN l ((j : Int) - 1) : Nat)) ∧ St h h' (A + (cA b1 (List.replicate 257 (.int .i64 0)) 65 + 0)), fun q _ => (257 - q.1).toNat, ⟨1, _, A4, rfl, Nat.le_refl _, by omega, o4, fun j hj => ?_, fun j hj hj2 => ?_, st4⟩, ?_⟩
    · obtain rfl : j = 0 := by omega
      rw [getD_set (by omega), if_pos rfl]
      rw [show ((0 : Nat) : Int) = 0 from rfl, ltN_zero]; rfl
    · rw [getD_set (by omega), if_neg (by omega)]
      exact hout j hj2
    clear st4 o4 hout st o
    rintro ⟨_, _⟩ h5 ⟨k, out, A, rfl, hk1, hk2, o, hlo, hhi, st⟩
    dsimp only
    have hol := o.len
    rw [suffixindex_starts_b4_eq]
    refine condP (fun hlt => ?_) (fun hge => ?_)
    · have hkk : k < 257 := by omega
      have h6 := hhi k (Nat.le_refl _) hkk
      have h7 := hlo (k - 1) (by omega)
      have hc := ltN_succ l (c := ((k - 1 : Nat) : Int)) (by omega)
      rw [show ((k - 1 : Nat) : Int) + 1 = (k : Int) by omega, show ((k - 1 : Nat) : Int) = (k : Int) - 1 by omega] at hc
      rw [show ((k - 1 : Nat) : Int) = (k : Int) - 1 by omega] at h7
      have hle1 := ltN_le l ((k : Int) - 1)
      have hle2 := eqN_le l ((k : Int) - 1)
      refine (o.rd st).int (by omega) (by omega) ?_
      rw [show out.getD (Int.toNat (k : Int)) 0 = out.getD k 0 by rw [Int.toNat_natCast], h6]
      refine ⟨⟨by omega, by omega⟩, (o.rd st).int (by omega) (by omega) ?_⟩
      rw [show out.getD (Int.toNat ((k : Int) - 1)) 0 = out.getD (k - 1) 0 by rw [show Int.toNat ((k : Int) - 1) = k - 1 by omega], h7]
      refine ⟨⟨by omega, by omega⟩, o.wrI (x := ((eqN l ((k : Int) - 1) : Nat) : Int) + ((1 + ltN l ((k : Int) - 1) : Nat) : Int)) st (by omega) (by omega) rfl rfl fun h8 A8 o8 st8 => ?_⟩
      rw [Int.toNat_natCast] at o8
      rw [suffixindex_starts_b5_eq]
      refine ⟨⟨by omega, by omega⟩, ⟨k + 1, _, A8, by push_cast; rfl, by omega, by omega, o8, fun j hj => ?_, fun j hj hj2 => ?_, st8⟩, by dsimp only; omega⟩
      · rw [getD_set (by omega)]
        by_cases hjk : j = k
        · subst hjk
          rw [if_pos rfl, hc]
          push_cast; omega
        · rw [if_neg hjk, hlo j (by omega)]
      · rw [getD_set (by omega), if_neg (by omega), hhi j (by omega) hj2]
    · obtain rfl : k = 257 := by omega
      have e : out = firsts l := list_eq_of (d := 0) (by rw [firsts_len]; exact hol) fun j hj => by
        rw [hlo j (by omega), firsts_get (by omega)]
      rw [e] at o
      rw [suffixindex_starts_b6_eq]
      have rd := (o.rd st).readsL
      rw [tI_cells] at rd
      have hfl : ((firsts l).map (Value.int .i64)).length = 257 := by rw [List.length_map, firsts_len]
      refine ⟨_, hfl, rd, hfl, ?_⟩
      have st := st.to (B := cA b1 ([] ++ List.replicate 257 (.int .i64 0) ++ []) 65 + (A + 0)) (by simp; ac_rfl)
      unfold StL
      refine st.storesV _ 0 [] (List.replicate 257 (.int .i64 0)) [] (fun v hv => by obtain ⟨x, _, rfl⟩ := List.mem_map.1 hv; rfl) rfl (by rw [hfl]; simp) fun h9 st => ?_
      refine ⟨_, hfl, ?_, rfl, st.ext⟩
      intro i hi
      have := st.cellA i
      simpa using this
end Go.Proofs.Ytipmcfpjdebpdaa
