/- Part SC SD SE LH P41 P42 P43 P54 LI LJ LK LL of the proof: contracts of functions of the program, and what follows from them. -/
import Derived.Test.YtllhdhpjgihjfaaGreatDoorSxSB
set_option maxRecDepth 100000
namespace Go.Proofs.YtllhdhpjgihjfaaGreatDoor
open Go Go.Sx
abbrev yaiu (cf : Unit) (h0 : Hp) (p : OA) (n cp a' b' : Nat) (xs : List Int) (F : Bag) (i' J : Nat) (h : Hp) : Prop := a' + 1 ≤ i' ∧ i' ≤ b' ∧ a' + 1 ≤ J ∧ J ≤ b' ∧ OutOI h0 p n cp a' b' xs F h (fun ys => LoR (tI 3).d (fun x y : Int => x < y) a' i' ys ∧ HiR (tI 3).d (fun x y : Int => x < y) a' J b' ys)
abbrev yasq (cf : Unit) (h0 : Hp) (p : OA) (n cp a' b' : Nat) (xs : List Int) (F : Bag) (i' J : Nat) (h : Hp) : Prop := a' + 1 ≤ i' ∧ i' ≤ b' ∧ a' + 1 ≤ J ∧ J ≤ b' ∧ OutOI h0 p n cp a' b' xs F h (fun ys => LoR (tI 3).d (fun x y : Int => x < y) a' i' ys ∧ HiR (tI 3).d (fun x y : Int => x < y) a' J b' ys ∧ (i' < J → ¬ (fun x y : Int => x < y) (ys.getD i' (tI 3).d) (ys.getD a' (tI 3).d)))
abbrev yazd (cf : Unit) (h0 : Hp) (p : OA) (n cp a' b' : Nat) (xs : List Int) (F : Bag) (i' J : Nat) (h : Hp) : Prop := a' + 1 ≤ i' ∧ i' ≤ b' ∧ a' + 1 ≤ J ∧ J ≤ b' ∧ OutOI h0 p n cp a' b' xs F h (fun ys => LoR (tI 3).d (fun x y : Int => x < y) a' i' ys ∧ HiR (tI 3).d (fun x y : Int => x < y) a' J b' ys ∧ (i' < J → ¬ (fun x y : Int => x < y) (ys.getD i' (tI 3).d) (ys.getD a' (tI 3).d)) ∧ (i' < J → (fun x y : Int => x < y) (ys.getD (J - 1) (tI 3).d) (ys.getD a' (tI 3).d)))
theorem yaoi {h0 h : Hp} {p : OA} {n cp a' b' pv' : Nat} {a b pv : Int} {xs : List Int} {A F : Bag} {P : Int → Prop} (s : St h0 h (A + F)) (o : Sl (tI 3) p n cp xs A) (hP : ∀ k, k < n → P (xs.getD k (tI 3).d)) (ea : a = (a' : Int)) (eb : b = (b' : Int)) (ev : pv = (pv' : Int)) (hpv : a' ≤ pv' ∧ pv' < b') (hb : b' ≤ n) (hn : n < 1000000) :
    yaah Tryz.prog 161 #[.slice p n cp, .int .i64 a, .int .i64 b, .int .i64 pv] h (fun v h' => ∃ (m : Nat) (bb : Bool), v = .tuple #[.int .i64 (m : Int), .bool bb] ∧ a' ≤ m ∧ m < b' ∧ OutOI h0 p n cp a' b' xs F h' (PartR (tI 3).d (fun x y : Int => x < y) a' b' m)) := by
  subst ea eb ev
  have hl0 := o.len
  refine zdw_call ?_
  generalize hR : (fun v h' => ∃ (m : Nat) (bb : Bool), v = Value.tuple #[.int .i64 (m : Int), .bool bb] ∧ a' ≤ m ∧ m < b' ∧ OutOI h0 p n cp a' b' xs F h' (PartR (tI 3).d (fun x y : Int => x < y) a' b' m)) = R
  have hRi : ∀ (v : Value) (h' : Hp) (m : Nat) (bb : Bool), v = .tuple #[.int .i64 (m : Int), .bool bb] → a' ≤ m → m < b' → OutOI h0 p n cp a' b' xs F h' (PartR (tI 3).d (fun x y : Int => x < y) a' b' m) → R v h' := by
    intro v h' m bb h1 h2 h3 h4; rw [← hR]; exact ⟨m, bb, h1, h2, h3, h4⟩
  clear hR
  have b13 : ∀ (i' J : Nat) (h' : Hp) (nx : Int × Int × Unit → Hp → Prop) , yazd () h0 p n cp a' b' xs F i' J h' → (∀ h', yaiu () h0 p n cp a' b' xs F (i' + 1) (J - 1) h' → i' < J → nx ((i' : Int) + 1, (J : Int) - 1 - 1, ()) h') → zdw_b13 p n cp a' i' ((J : Int) - 1) h' nx R := by
    rintro i' J h' nx ⟨hi1, hi2, hJ1, hJ2, ys, A1, o, s, w, lo, hi, hst, hs2⟩ hnx
    have hl := o.len
    rw [zdw_b13_eq]
    refine condP (fun hlt => ?_) (fun hlt => ?_)
    · rw [zdw_b14_eq]
      refine swOI (u' := J - 1) (v' := a') o s (by omega) rfl (by omega) (by omega) fun h6 A6 o6 s6 => ?_
      refine hRi _ _ (J - 1) false (by rw [show ((J - 1 : Nat) : Int) = (J : Int) - 1 by omega]) (by omega) (by omega) ⟨_, A6, o6, s6, .step w (by omega) (by omega) (by omega) (by omega) (by omega), yaib (by omega) hi2 (by omega) (by omega) lo hi⟩
    · refine swOI (u' := i') (v' := J - 1) o s rfl (by omega) (by omega) (by omega) fun h6 A6 o6 s6 => ⟨⟨by omega, by omega⟩, ⟨by omega, by omega⟩, ?_⟩
      have hs2 := hs2 (by omega)
      exact hnx _ ⟨by omega, by omega, by omega, by omega, _, A6, o6, s6, .step w (by omega) (by omega) (by omega) (by omega) (by omega), yafr (by omega) (by omega) hJ2 (by omega) lo hi (hst (by omega)) hs2⟩ (by omega)
  have b10 : ∀ (i' J : Nat) (h' : Hp) (nx : Int × Int × Unit → Hp → Prop) , yasq () h0 p n cp a' b' xs F i' J h' → (∀ i2 J2 h', i' + 1 ≤ i2 → J2 + 1 ≤ J → yaiu () h0 p n cp a' b' xs F i2 J2 h' → nx ((i2 : Int), (J2 : Int) - 1, ()) h') → zdw_b10 p n cp a' i' ((J : Int) - 1) h' nx R := by
    rintro i' J h' nx hI hnx
    rw [zdw_b10_eq]
    refine ⟨fun j h2 => ∃ J2 : Nat, j.1 = (J2 : Int) - 1 ∧ J2 ≤ J ∧ yasq () h0 p n cp a' b' xs F i' J2 h2, fun j _ => (j.1 + 1).toNat, ⟨J, rfl, Nat.le_refl _, hI⟩, ?_⟩
    clear hI
    rintro ⟨_, _⟩ h2 ⟨J2, rfl, hJJ, hi1, hi2, hJ1, hJ2, ys, A1, o, s, w, lo, hi, hst⟩
    dsimp only
    have hl := o.len
    have hP := w.allN hl0 hP
    have ch := fun (h3 : Hp) (s : St h0 h3 (A1 + F)) (g : i' < J2 → (fun x y : Int => x < y) (ys.getD (J2 - 1) (tI 3).d) (ys.getD a' (tI 3).d)) => b13 i' J2 h3 nx ⟨hi1, hi2, hJ1, hJ2, ys, A1, o, s, w, lo, hi, hst, g⟩ fun h' hp hq => by have := hnx (i' + 1) (J2 - 1) h' (by omega) (by omega) hp; rwa [show ((i' + 1 : Nat) : Int) = (i' : Int) + 1 by push_cast; rfl, show ((J2 - 1 : Nat) : Int) - 1 = (J2 : Int) - 1 - 1 by omega] at this
    rw [zdw_b11_eq]
    refine condP (fun hlt => ?_) (fun hlt => ch _ s fun h => by omega)
    have r := o.rd s
    refine ldOI (i' := J2 - 1) r (by omega) (by omega) (ldOI (i' := a') r rfl (by omega) ?_)
    refine ⟨_, (yact _ _ _).mono fun v9 h9 ⟨hh9, hv9⟩ => ⟨hv9, hh9⟩, ?_⟩
    refine condN (fun hc => ?_) (fun hc => ch _ s fun _ => hc)
    rw [zdw_b12_eq]
    exact ⟨⟨by omega, by omega⟩, ⟨J2 - 1, by omega, by omega, hi1, hi2, by omega, by omega, ys, A1, o, s, w, lo, yamo hi hc, fun h => hst (by omega)⟩, by omega⟩
  have b8 : ∀ (i' J : Nat) (h' : Hp) (nx : Int × Int × Unit → Hp → Prop) , yaiu () h0 p n cp a' b' xs F i' J h' → (∀ i2 J2 h', i' + 1 ≤ i2 → J2 + 1 ≤ J → yaiu () h0 p n cp a' b' xs F i2 J2 h' → nx ((i2 : Int), (J2 : Int) - 1, ()) h') → yaaq (((i' : Int), ()) : Int × Unit) h' (fun (nx1 : Int × Unit → Hp → Prop) (s4 : Int × Unit) h36 => zdw_b8 s4.1 p n cp a' ((J : Int) - 1) h36 nx nx1 R) := by
    rintro i' J h' nx hI hnx
    refine ⟨fun i h2 => ∃ i2 : Nat, i.1 = (i2 : Int) ∧ i' ≤ i2 ∧ yaiu () h0 p n cp a' b' xs F i2 J h2, fun i _ => (b' - i.1).toNat, ⟨i', rfl, Nat.le_refl _, hI⟩, ?_⟩
    clear hI
    rintro ⟨_, _⟩ h2 ⟨i2, rfl, hii, hi1, hi2, hJ1, hJ2, ys, A1, o, s, w, lo, hi⟩
    dsimp only
    have hl := o.len
    have hP := w.allN hl0 hP
    have ch := fun (h3 : Hp) (s : St h0 h3 (A1 + F)) (g : i2 < J → ¬ (fun x y : Int => x < y) (ys.getD i2 (tI 3).d) (ys.getD a' (tI 3).d)) => b10 i2 J h3 nx ⟨hi1, hi2, hJ1, hJ2, ys, A1, o, s, w, lo, hi, g⟩ fun i3 J3 h' g1 g2 g3 => hnx i3 J3 h' (by omega) (by omega) g3
    rw [zdw_b8_eq]
    refine condP (fun hlt => ?_) (fun hlt => ch _ s fun h => by omega)
    have r := o.rd s
    refine ldOI (i' := i2) r rfl (by omega) (ldOI (i' := a') r rfl (by omega) ?_)
    refine ⟨_, (yact _ _ _).mono fun v9 h9 ⟨hh9, hv9⟩ => ⟨hv9, hh9⟩, ?_⟩
    refine condP (fun hc => ?_) (fun hc => ch _ s fun _ => hc)
    rw [zdw_b9_eq]
    exact ⟨⟨by omega, by omega⟩, ⟨i2 + 1, by push_cast; rfl, by omega, by omega, by omega, hJ1, hJ2, ys, A1, o, s, w, yanp lo hc, hi⟩, by omega⟩
  have b7 : ∀ (i' J : Nat) (h' : Hp), yaiu () h0 p n cp a' b' xs F i' J h' → yaaq ((i', (J : Int) - 1, ()) : Int × Int × Unit) h' (fun (nx0 : Int × Int × Unit → Hp → Prop) (s3 : Int × Int × Unit) h35 => zdw_b7 s3.1 s3.2.1 p n cp a' h35 nx0 R) := by
    intro i' J h' hI
    refine ⟨fun ij h2 => ∃ i2 J2 : Nat, ij.1 = (i2 : Int) ∧ ij.2.1 = (J2 : Int) - 1 ∧ yaiu () h0 p n cp a' b' xs F i2 J2 h2, fun ij _ => (b' - ij.1).toNat + (ij.2.1 + 1).toNat, ⟨i', J, rfl, rfl, hI⟩, ?_⟩
    clear hI
    rintro ⟨_, _, _⟩ h2 ⟨i2, J2, rfl, rfl, hI⟩
    dsimp only
    rw [zdw_b7_eq]
    refine b8 i2 J2 h2 _ hI fun i3 J3 h3 g1 g2 hI3 => ⟨⟨i3, J3, rfl, rfl, hI3⟩, ?_⟩
    have := hI.1
    have := hI.2.1
    have := hI3.2.1
    dsimp only
    omega
  have b6 : ∀ (i' J : Nat) (h' : Hp) , yazd () h0 p n cp a' b' xs F i' J h' → zdw_b6 p n cp a' i' ((J : Int) - 1) h' R := by
    rintro i' J h' ⟨hi1, hi2, hJ1, hJ2, ys, A1, o, s, w, lo, hi, hst, hs2⟩
    have hl := o.len
    rw [zdw_b6_eq]
    refine condP (fun hlt => ?_) (fun hlt => ?_)
    · refine swOI (u' := J - 1) (v' := a') o s (by omega) rfl (by omega) (by omega) fun h6 A6 o6 s6 => ?_
      refine hRi _ _ (J - 1) true (by rw [show ((J - 1 : Nat) : Int) = (J : Int) - 1 by omega]) (by omega) (by omega) ⟨_, A6, o6, s6, .step w (by omega) (by omega) (by omega) (by omega) (by omega), yaib (by omega) hi2 (by omega) (by omega) lo hi⟩
    · refine swOI (u' := i') (v' := J - 1) o s rfl (by omega) (by omega) (by omega) fun h6 A6 o6 s6 => ⟨⟨by omega, by omega⟩, ⟨by omega, by omega⟩, ?_⟩
      have hs2 := hs2 (by omega)
      have := b7 (i' + 1) (J - 1) h6 ⟨by omega, by omega, by omega, by omega, _, A6, o6, s6, .step w (by omega) (by omega) (by omega) (by omega) (by omega), yafr (by omega) (by omega) hJ2 (by omega) lo hi (hst (by omega)) hs2⟩
      rwa [show ((i' + 1 : Nat) : Int) = (i' : Int) + 1 by push_cast; rfl, show ((J - 1 : Nat) : Int) - 1 = (J : Int) - 1 - 1 by omega] at this
  have b3 : ∀ (i' J : Nat) (h' : Hp) , yasq () h0 p n cp a' b' xs F i' J h' → zdw_b3 p n cp a' i' ((J : Int) - 1) h' R := by
    rintro i' J h' hI
    rw [zdw_b3_eq]
    refine ⟨fun j h2 => ∃ J2 : Nat, j.1 = (J2 : Int) - 1 ∧ J2 ≤ J ∧ yasq () h0 p n cp a' b' xs F i' J2 h2, fun j _ => (j.1 + 1).toNat, ⟨J, rfl, Nat.le_refl _, hI⟩, ?_⟩
    clear hI
    rintro ⟨_, _⟩ h2 ⟨J2, rfl, hJJ, hi1, hi2, hJ1, hJ2, ys, A1, o, s, w, lo, hi, hst⟩
    dsimp only
    have hl := o.len
    have hP := w.allN hl0 hP
    have ch := fun (h3 : Hp) (s : St h0 h3 (A1 + F)) (g : i' < J2 → (fun x y : Int => x < y) (ys.getD (J2 - 1) (tI 3).d) (ys.getD a' (tI 3).d)) => b6 i' J2 h3  ⟨hi1, hi2, hJ1, hJ2, ys, A1, o, s, w, lo, hi, hst, g⟩
    rw [zdw_b4_eq]
    refine condP (fun hlt => ?_) (fun hlt => ch _ s fun h => by omega)
    have r := o.rd s
    refine ldOI (i' := J2 - 1) r (by omega) (by omega) (ldOI (i' := a') r rfl (by omega) ?_)
    refine ⟨_, (yact _ _ _).mono fun v9 h9 ⟨hh9, hv9⟩ => ⟨hv9, hh9⟩, ?_⟩
    refine condN (fun hc => ?_) (fun hc => ch _ s fun _ => hc)
    rw [zdw_b5_eq]
    exact ⟨⟨by omega, by omega⟩, ⟨J2 - 1, by omega, by omega, hi1, hi2, by omega, by omega, ys, A1, o, s, w, lo, yamo hi hc, fun h => hst (by omega)⟩, by omega⟩
  have b1 : ∀ (i' J : Nat) (h' : Hp) , yaiu () h0 p n cp a' b' xs F i' J h' → yaaq (((i' : Int), ()) : Int × Unit) h' (fun (nx1 : Int × Unit → Hp → Prop) (s4 : Int × Unit) h36 => zdw_b1 s4.1 p n cp a' ((J : Int) - 1) h36 nx1 R) := by
    rintro i' J h' hI
    refine ⟨fun i h2 => ∃ i2 : Nat, i.1 = (i2 : Int) ∧ i' ≤ i2 ∧ yaiu () h0 p n cp a' b' xs F i2 J h2, fun i _ => (b' - i.1).toNat, ⟨i', rfl, Nat.le_refl _, hI⟩, ?_⟩
    clear hI
    rintro ⟨_, _⟩ h2 ⟨i2, rfl, hii, hi1, hi2, hJ1, hJ2, ys, A1, o, s, w, lo, hi⟩
    dsimp only
    have hl := o.len
    have hP := w.allN hl0 hP
    have ch := fun (h3 : Hp) (s : St h0 h3 (A1 + F)) (g : i2 < J → ¬ (fun x y : Int => x < y) (ys.getD i2 (tI 3).d) (ys.getD a' (tI 3).d)) => b3 i2 J h3  ⟨hi1, hi2, hJ1, hJ2, ys, A1, o, s, w, lo, hi, g⟩
    rw [zdw_b1_eq]
    refine condP (fun hlt => ?_) (fun hlt => ch _ s fun h => by omega)
    have r := o.rd s
    refine ldOI (i' := i2) r rfl (by omega) (ldOI (i' := a') r rfl (by omega) ?_)
    refine ⟨_, (yact _ _ _).mono fun v9 h9 ⟨hh9, hv9⟩ => ⟨hv9, hh9⟩, ?_⟩
    refine condP (fun hc => ?_) (fun hc => ch _ s fun _ => hc)
    rw [zdw_b2_eq]
    exact ⟨⟨by omega, by omega⟩, ⟨i2 + 1, by push_cast; rfl, by omega, by omega, by omega, hJ1, hJ2, ys, A1, o, s, w, yanp lo hc, hi⟩, by omega⟩
  rw [zdw_b0_eq]
  refine swOI (u' := a') (v' := pv') o s rfl rfl (by omega) (by omega) fun h6 A6 o6 s6 => ⟨⟨by omega, by omega⟩, ⟨by omega, by omega⟩, ?_⟩
  have := b1 (a' + 1) b' h6 ⟨Nat.le_refl _, by omega, by omega, Nat.le_refl _, _, A6, o6, s6, .one (Nat.le_refl _) (by omega) (by omega) (by omega) (by omega), fun k h1 h2 => by omega, fun k h1 h2 => by omega⟩
  rwa [show ((a' + 1 : Nat) : Int) = (a' : Int) + 1 by push_cast; rfl] at this
abbrev yaip (cf : EvT → EvT → Int) (h0 : Hp) (p : OA) (n cp a' b' : Nat) (xs : List EvT) (F : Bag) (i' J : Nat) (h : Hp) : Prop := a' + 1 ≤ i' ∧ i' ≤ b' ∧ a' + 1 ≤ J ∧ J ≤ b' ∧ OutEV h0 p n cp a' b' xs F h (fun ys => LoR tEv.d (fun x y : EvT => cf x y < 0) a' i' ys ∧ HiR tEv.d (fun x y : EvT => cf x y < 0) a' J b' ys)
abbrev yaua (cf : EvT → EvT → Int) (h0 : Hp) (p : OA) (n cp a' b' : Nat) (xs : List EvT) (F : Bag) (i' J : Nat) (h : Hp) : Prop := a' + 1 ≤ i' ∧ i' ≤ b' ∧ a' + 1 ≤ J ∧ J ≤ b' ∧ OutEV h0 p n cp a' b' xs F h (fun ys => LoR tEv.d (fun x y : EvT => cf x y < 0) a' i' ys ∧ HiR tEv.d (fun x y : EvT => cf x y < 0) a' J b' ys ∧ (i' < J → ¬ (fun x y : EvT => cf x y < 0) (ys.getD i' tEv.d) (ys.getD a' tEv.d)))
abbrev yayx (cf : EvT → EvT → Int) (h0 : Hp) (p : OA) (n cp a' b' : Nat) (xs : List EvT) (F : Bag) (i' J : Nat) (h : Hp) : Prop := a' + 1 ≤ i' ∧ i' ≤ b' ∧ a' + 1 ≤ J ∧ J ≤ b' ∧ OutEV h0 p n cp a' b' xs F h (fun ys => LoR tEv.d (fun x y : EvT => cf x y < 0) a' i' ys ∧ HiR tEv.d (fun x y : EvT => cf x y < 0) a' J b' ys ∧ (i' < J → ¬ (fun x y : EvT => cf x y < 0) (ys.getD i' tEv.d) (ys.getD a' tEv.d)) ∧ (i' < J → (fun x y : EvT => cf x y < 0) (ys.getD (J - 1) tEv.d) (ys.getD a' tEv.d)))
theorem yaok {h0 h : Hp} {p : OA} {n cp a' b' pv' : Nat} {a b pv : Int} {xs : List EvT} {A F : Bag} {cmp : Value} {cf : EvT → EvT → Int} {P : EvT → Prop} (hX : CmpEV h0 cmp cf P) (ho : OrdP (fun x y : EvT => cf x y < 0)) (s : St h0 h (A + F)) (o : Sl tEv p n cp xs A) (hP : ∀ k, k < n → P (xs.getD k tEv.d)) (ea : a = (a' : Int)) (eb : b = (b' : Int)) (ev : pv = (pv' : Int)) (hpv : a' ≤ pv' ∧ pv' < b') (hb : b' ≤ n) (hn : n < 1000000) :
    yaah Tryz.prog 119 #[.slice p n cp, .int .i64 a, .int .i64 b, .int .i64 pv, cmp] h (fun v h' => ∃ (m : Nat) (bb : Bool), v = .tuple #[.int .i64 (m : Int), .bool bb] ∧ a' ≤ m ∧ m < b' ∧ OutEV h0 p n cp a' b' xs F h' (PartR tEv.d (fun x y : EvT => cf x y < 0) a' b' m)) := by
  subst ea eb ev
  have hl0 := o.len
  refine zdt_call ?_
  generalize hR : (fun v h' => ∃ (m : Nat) (bb : Bool), v = Value.tuple #[.int .i64 (m : Int), .bool bb] ∧ a' ≤ m ∧ m < b' ∧ OutEV h0 p n cp a' b' xs F h' (PartR tEv.d (fun x y : EvT => cf x y < 0) a' b' m)) = R
  have hRi : ∀ (v : Value) (h' : Hp) (m : Nat) (bb : Bool), v = .tuple #[.int .i64 (m : Int), .bool bb] → a' ≤ m → m < b' → OutEV h0 p n cp a' b' xs F h' (PartR tEv.d (fun x y : EvT => cf x y < 0) a' b' m) → R v h' := by
    intro v h' m bb h1 h2 h3 h4; rw [← hR]; exact ⟨m, bb, h1, h2, h3, h4⟩
  clear hR
  have b13 : ∀ (i' J : Nat) (h' : Hp) (nx : Int × Int × Unit → Hp → Prop) , yayx cf h0 p n cp a' b' xs F i' J h' → (∀ h', yaip cf h0 p n cp a' b' xs F (i' + 1) (J - 1) h' → i' < J → nx ((i' : Int) + 1, (J : Int) - 1 - 1, ()) h') → zdt_b13 p n cp a' cmp i' ((J : Int) - 1) h' nx R := by
    rintro i' J h' nx ⟨hi1, hi2, hJ1, hJ2, ys, A1, o, s, w, lo, hi, hst, hs2⟩ hnx
    have hl := o.len
    rw [zdt_b13_eq]
    refine condP (fun hlt => ?_) (fun hlt => ?_)
    · rw [zdt_b14_eq]
      refine swEV (u' := J - 1) (v' := a') o s (by omega) rfl (by omega) (by omega) fun h6 A6 o6 s6 => ?_
      refine hRi _ _ (J - 1) false (by rw [show ((J - 1 : Nat) : Int) = (J : Int) - 1 by omega]) (by omega) (by omega) ⟨_, A6, o6, s6, .step w (by omega) (by omega) (by omega) (by omega) (by omega), yaib (by omega) hi2 (by omega) (by omega) lo hi⟩
    · refine swEV (u' := i') (v' := J - 1) o s rfl (by omega) (by omega) (by omega) fun h6 A6 o6 s6 => ⟨⟨by omega, by omega⟩, ⟨by omega, by omega⟩, ?_⟩
      have hs2 := hs2 (by omega)
      exact hnx _ ⟨by omega, by omega, by omega, by omega, _, A6, o6, s6, .step w (by omega) (by omega) (by omega) (by omega) (by omega), yafr (by omega) (by omega) hJ2 (by omega) lo hi (hst (by omega)) hs2⟩ (by omega)
  have b10 : ∀ (i' J : Nat) (h' : Hp) (nx : Int × Int × Unit → Hp → Prop) , yaua cf h0 p n cp a' b' xs F i' J h' → (∀ i2 J2 h', i' + 1 ≤ i2 → J2 + 1 ≤ J → yaip cf h0 p n cp a' b' xs F i2 J2 h' → nx ((i2 : Int), (J2 : Int) - 1, ()) h') → zdt_b10 p n cp a' cmp i' ((J : Int) - 1) h' nx R := by
    rintro i' J h' nx hI hnx
    rw [zdt_b10_eq]
    refine ⟨fun j h2 => ∃ J2 : Nat, j.1 = (J2 : Int) - 1 ∧ J2 ≤ J ∧ yaua cf h0 p n cp a' b' xs F i' J2 h2, fun j _ => (j.1 + 1).toNat, ⟨J, rfl, Nat.le_refl _, hI⟩, ?_⟩
    clear hI
    rintro ⟨_, _⟩ h2 ⟨J2, rfl, hJJ, hi1, hi2, hJ1, hJ2, ys, A1, o, s, w, lo, hi, hst⟩
    dsimp only
    have hl := o.len
    have hP := w.allN hl0 hP
    have ch := fun (h3 : Hp) (s : St h0 h3 (A1 + F)) (g : i' < J2 → (fun x y : EvT => cf x y < 0) (ys.getD (J2 - 1) tEv.d) (ys.getD a' tEv.d)) => b13 i' J2 h3 nx ⟨hi1, hi2, hJ1, hJ2, ys, A1, o, s, w, lo, hi, hst, g⟩ fun h' hp hq => by have := hnx (i' + 1) (J2 - 1) h' (by omega) (by omega) hp; rwa [show ((i' + 1 : Nat) : Int) = (i' : Int) + 1 by push_cast; rfl, show ((J2 - 1 : Nat) : Int) - 1 = (J2 : Int) - 1 - 1 by omega] at this
    rw [zdt_b11_eq]
    refine condP (fun hlt => ?_) (fun hlt => ch _ s fun h => by omega)
    have r := o.rd s
    refine ldEV (i' := J2 - 1) r (by omega) (by omega) (ldEV (i' := a') r rfl (by omega) ?_)
    refine hX _ _ _ _ s.ext (hP _ (by omega)) (hP _ (by omega)) fun h5 e5 => ⟨_, rfl, ?_⟩; have s := s.grow e5
    refine condN (fun hc => ?_) (fun hc => ch _ s fun _ => hc)
    rw [zdt_b12_eq]
    exact ⟨⟨by omega, by omega⟩, ⟨J2 - 1, by omega, by omega, hi1, hi2, by omega, by omega, ys, A1, o, s, w, lo, yamo hi hc, fun h => hst (by omega)⟩, by omega⟩
  have b8 : ∀ (i' J : Nat) (h' : Hp) (nx : Int × Int × Unit → Hp → Prop) , yaip cf h0 p n cp a' b' xs F i' J h' → (∀ i2 J2 h', i' + 1 ≤ i2 → J2 + 1 ≤ J → yaip cf h0 p n cp a' b' xs F i2 J2 h' → nx ((i2 : Int), (J2 : Int) - 1, ()) h') → yaaq (((i' : Int), ()) : Int × Unit) h' (fun (nx1 : Int × Unit → Hp → Prop) (s4 : Int × Unit) h36 => zdt_b8 s4.1 p n cp a' cmp ((J : Int) - 1) h36 nx nx1 R) := by
    rintro i' J h' nx hI hnx
    refine ⟨fun i h2 => ∃ i2 : Nat, i.1 = (i2 : Int) ∧ i' ≤ i2 ∧ yaip cf h0 p n cp a' b' xs F i2 J h2, fun i _ => (b' - i.1).toNat, ⟨i', rfl, Nat.le_refl _, hI⟩, ?_⟩
    clear hI
    rintro ⟨_, _⟩ h2 ⟨i2, rfl, hii, hi1, hi2, hJ1, hJ2, ys, A1, o, s, w, lo, hi⟩
    dsimp only
    have hl := o.len
    have hP := w.allN hl0 hP
    have ch := fun (h3 : Hp) (s : St h0 h3 (A1 + F)) (g : i2 < J → ¬ (fun x y : EvT => cf x y < 0) (ys.getD i2 tEv.d) (ys.getD a' tEv.d)) => b10 i2 J h3 nx ⟨hi1, hi2, hJ1, hJ2, ys, A1, o, s, w, lo, hi, g⟩ fun i3 J3 h' g1 g2 g3 => hnx i3 J3 h' (by omega) (by omega) g3
    rw [zdt_b8_eq]
    refine condP (fun hlt => ?_) (fun hlt => ch _ s fun h => by omega)
    have r := o.rd s
    refine ldEV (i' := i2) r rfl (by omega) (ldEV (i' := a') r rfl (by omega) ?_)
    refine hX _ _ _ _ s.ext (hP _ (by omega)) (hP _ (by omega)) fun h5 e5 => ⟨_, rfl, ?_⟩; have s := s.grow e5
    refine condP (fun hc => ?_) (fun hc => ch _ s fun _ => hc)
    rw [zdt_b9_eq]
    exact ⟨⟨by omega, by omega⟩, ⟨i2 + 1, by push_cast; rfl, by omega, by omega, by omega, hJ1, hJ2, ys, A1, o, s, w, yanp lo hc, hi⟩, by omega⟩
  have b7 : ∀ (i' J : Nat) (h' : Hp), yaip cf h0 p n cp a' b' xs F i' J h' → yaaq ((i', (J : Int) - 1, ()) : Int × Int × Unit) h' (fun (nx0 : Int × Int × Unit → Hp → Prop) (s3 : Int × Int × Unit) h35 => zdt_b7 s3.1 s3.2.1 p n cp a' cmp h35 nx0 R) := by
    intro i' J h' hI
    refine ⟨fun ij h2 => ∃ i2 J2 : Nat, ij.1 = (i2 : Int) ∧ ij.2.1 = (J2 : Int) - 1 ∧ yaip cf h0 p n cp a' b' xs F i2 J2 h2, fun ij _ => (b' - ij.1).toNat + (ij.2.1 + 1).toNat, ⟨i', J, rfl, rfl, hI⟩, ?_⟩
    clear hI
    rintro ⟨_, _, _⟩ h2 ⟨i2, J2, rfl, rfl, hI⟩
    dsimp only
    rw [zdt_b7_eq]
    refine b8 i2 J2 h2 _ hI fun i3 J3 h3 g1 g2 hI3 => ⟨⟨i3, J3, rfl, rfl, hI3⟩, ?_⟩
    have := hI.1
    have := hI.2.1
    have := hI3.2.1
    dsimp only
    omega
  have b6 : ∀ (i' J : Nat) (h' : Hp) , yayx cf h0 p n cp a' b' xs F i' J h' → zdt_b6 p n cp a' cmp i' ((J : Int) - 1) h' R := by
    rintro i' J h' ⟨hi1, hi2, hJ1, hJ2, ys, A1, o, s, w, lo, hi, hst, hs2⟩
    have hl := o.len
    rw [zdt_b6_eq]
    refine condP (fun hlt => ?_) (fun hlt => ?_)
    · refine swEV (u' := J - 1) (v' := a') o s (by omega) rfl (by omega) (by omega) fun h6 A6 o6 s6 => ?_
      refine hRi _ _ (J - 1) true (by rw [show ((J - 1 : Nat) : Int) = (J : Int) - 1 by omega]) (by omega) (by omega) ⟨_, A6, o6, s6, .step w (by omega) (by omega) (by omega) (by omega) (by omega), yaib (by omega) hi2 (by omega) (by omega) lo hi⟩
    · refine swEV (u' := i') (v' := J - 1) o s rfl (by omega) (by omega) (by omega) fun h6 A6 o6 s6 => ⟨⟨by omega, by omega⟩, ⟨by omega, by omega⟩, ?_⟩
      have hs2 := hs2 (by omega)
      have := b7 (i' + 1) (J - 1) h6 ⟨by omega, by omega, by omega, by omega, _, A6, o6, s6, .step w (by omega) (by omega) (by omega) (by omega) (by omega), yafr (by omega) (by omega) hJ2 (by omega) lo hi (hst (by omega)) hs2⟩
      rwa [show ((i' + 1 : Nat) : Int) = (i' : Int) + 1 by push_cast; rfl, show ((J - 1 : Nat) : Int) - 1 = (J : Int) - 1 - 1 by omega] at this
  have b3 : ∀ (i' J : Nat) (h' : Hp) , yaua cf h0 p n cp a' b' xs F i' J h' → zdt_b3 p n cp a' cmp i' ((J : Int) - 1) h' R := by
    rintro i' J h' hI
    rw [zdt_b3_eq]
    refine ⟨fun j h2 => ∃ J2 : Nat, j.1 = (J2 : Int) - 1 ∧ J2 ≤ J ∧ yaua cf h0 p n cp a' b' xs F i' J2 h2, fun j _ => (j.1 + 1).toNat, ⟨J, rfl, Nat.le_refl _, hI⟩, ?_⟩
    clear hI
    rintro ⟨_, _⟩ h2 ⟨J2, rfl, hJJ, hi1, hi2, hJ1, hJ2, ys, A1, o, s, w, lo, hi, hst⟩
    dsimp only
    have hl := o.len
    have hP := w.allN hl0 hP
    have ch := fun (h3 : Hp) (s : St h0 h3 (A1 + F)) (g : i' < J2 → (fun x y : EvT => cf x y < 0) (ys.getD (J2 - 1) tEv.d) (ys.getD a' tEv.d)) => b6 i' J2 h3  ⟨hi1, hi2, hJ1, hJ2, ys, A1, o, s, w, lo, hi, hst, g⟩
    rw [zdt_b4_eq]
    refine condP (fun hlt => ?_) (fun hlt => ch _ s fun h => by omega)
    have r := o.rd s
    refine ldEV (i' := J2 - 1) r (by omega) (by omega) (ldEV (i' := a') r rfl (by omega) ?_)
    refine hX _ _ _ _ s.ext (hP _ (by omega)) (hP _ (by omega)) fun h5 e5 => ⟨_, rfl, ?_⟩; have s := s.grow e5
    refine condN (fun hc => ?_) (fun hc => ch _ s fun _ => hc)
    rw [zdt_b5_eq]
    exact ⟨⟨by omega, by omega⟩, ⟨J2 - 1, by omega, by omega, hi1, hi2, by omega, by omega, ys, A1, o, s, w, lo, yamo hi hc, fun h => hst (by omega)⟩, by omega⟩
  have b1 : ∀ (i' J : Nat) (h' : Hp) , yaip cf h0 p n cp a' b' xs F i' J h' → yaaq (((i' : Int), ()) : Int × Unit) h' (fun (nx1 : Int × Unit → Hp → Prop) (s4 : Int × Unit) h36 => zdt_b1 s4.1 p n cp a' cmp ((J : Int) - 1) h36 nx1 R) := by
    rintro i' J h' hI
    refine ⟨fun i h2 => ∃ i2 : Nat, i.1 = (i2 : Int) ∧ i' ≤ i2 ∧ yaip cf h0 p n cp a' b' xs F i2 J h2, fun i _ => (b' - i.1).toNat, ⟨i', rfl, Nat.le_refl _, hI⟩, ?_⟩
    clear hI
    rintro ⟨_, _⟩ h2 ⟨i2, rfl, hii, hi1, hi2, hJ1, hJ2, ys, A1, o, s, w, lo, hi⟩
    dsimp only
    have hl := o.len
    have hP := w.allN hl0 hP
    have ch := fun (h3 : Hp) (s : St h0 h3 (A1 + F)) (g : i2 < J → ¬ (fun x y : EvT => cf x y < 0) (ys.getD i2 tEv.d) (ys.getD a' tEv.d)) => b3 i2 J h3  ⟨hi1, hi2, hJ1, hJ2, ys, A1, o, s, w, lo, hi, g⟩
    rw [zdt_b1_eq]
    refine condP (fun hlt => ?_) (fun hlt => ch _ s fun h => by omega)
    have r := o.rd s
    refine ldEV (i' := i2) r rfl (by omega) (ldEV (i' := a') r rfl (by omega) ?_)
    refine hX _ _ _ _ s.ext (hP _ (by omega)) (hP _ (by omega)) fun h5 e5 => ⟨_, rfl, ?_⟩; have s := s.grow e5
    refine condP (fun hc => ?_) (fun hc => ch _ s fun _ => hc)
    rw [zdt_b2_eq]
    exact ⟨⟨by omega, by omega⟩, ⟨i2 + 1, by push_cast; rfl, by omega, by omega, by omega, hJ1, hJ2, ys, A1, o, s, w, yanp lo hc, hi⟩, by omega⟩
  rw [zdt_b0_eq]
  refine swEV (u' := a') (v' := pv') o s rfl rfl (by omega) (by omega) fun h6 A6 o6 s6 => ⟨⟨by omega, by omega⟩, ⟨by omega, by omega⟩, ?_⟩
  have := b1 (a' + 1) b' h6 ⟨Nat.le_refl _, by omega, by omega, Nat.le_refl _, _, A6, o6, s6, .one (Nat.le_refl _) (by omega) (by omega) (by omega) (by omega), fun k h1 h2 => by omega, fun k h1 h2 => by omega⟩
  rwa [show ((a' + 1 : Nat) : Int) = (a' : Int) + 1 by push_cast; rfl] at this
abbrev yaky (cf : Unit) (h0 : Hp) (p : OA) (n cp a' b' : Nat) (x : Int) (xs : List Int) (F : Bag) (i' J : Nat) (h : Hp) : Prop := a' + 1 ≤ i' ∧ i' ≤ b' ∧ a' + 1 ≤ J ∧ J ≤ b' ∧ OutOI h0 p n cp a' b' xs F h (fun ys => EqR (tI 3).d (fun x y : Int => x < y) x a' i' ys)
abbrev EStOI (cf : Unit) (h0 : Hp) (p : OA) (n cp a' b' : Nat) (x : Int) (xs : List Int) (F : Bag) (i' J : Nat) (h : Hp) : Prop := a' + 1 ≤ i' ∧ i' ≤ b' ∧ a' + 1 ≤ J ∧ J ≤ b' ∧ OutOI h0 p n cp a' b' xs F h (fun ys => EqR (tI 3).d (fun x y : Int => x < y) x a' i' ys ∧ (i' < J → ¬ (fun x y : Int => x < y) (ys.getD a' (tI 3).d) (ys.getD (J - 1) (tI 3).d)))
theorem yagw {h0 h : Hp} {p : OA} {n cp a' b' pv' : Nat} {a b pv : Int} {xs : List Int} {A F : Bag} {P : Int → Prop} (s : St h0 h (A + F)) (o : Sl (tI 3) p n cp xs A) (hP : ∀ k, k < n → P (xs.getD k (tI 3).d)) (ea : a = (a' : Int)) (eb : b = (b' : Int)) (ev : pv = (pv' : Int)) (hpv : a' ≤ pv' ∧ pv' < b') (hb : b' ≤ n) (hn : n < 1000000) :
    yaah Tryz.prog 160 #[.slice p n cp, .int .i64 a, .int .i64 b, .int .i64 pv] h (fun v h' => ∃ m : Nat, v = .int .i64 (m : Int) ∧ a' + 1 ≤ m ∧ m ≤ b' ∧ OutOI h0 p n cp a' b' xs F h' (EqR (tI 3).d (fun x y : Int => x < y) (xs.getD pv' (tI 3).d) a' m)) := by
  subst ea eb ev
  have hl0 := o.len
  refine zdv_call ?_
  generalize hx : xs.getD pv' (tI 3).d = x
  generalize hR : (fun v h' => ∃ m : Nat, v = Value.int .i64 (m : Int) ∧ a' + 1 ≤ m ∧ m ≤ b' ∧ OutOI h0 p n cp a' b' xs F h' (EqR (tI 3).d (fun x y : Int => x < y) x a' m)) = R
  have hRi : ∀ (v : Value) (h' : Hp) (m : Nat), v = .int .i64 (m : Int) → a' + 1 ≤ m → m ≤ b' → OutOI h0 p n cp a' b' xs F h' (EqR (tI 3).d (fun x y : Int => x < y) x a' m) → R v h' := by
    intro v h' m h1 h2 h3 h4; rw [← hR]; exact ⟨m, h1, h2, h3, h4⟩
  clear hR
  have b7 : ∀ (i' J : Nat) (h' : Hp) (nx : Int × Int × Unit → Hp → Prop), EStOI () h0 p n cp a' b' x xs F i' J h' → (∀ h', yaky () h0 p n cp a' b' x xs F (i' + 1) (J - 1) h' → i' < J → nx ((i' : Int) + 1, (J : Int) - 1 - 1, ()) h') → zdv_b7 p n cp a' i' ((J : Int) - 1) h' nx R := by
    rintro i' J h' nx ⟨hi1, hi2, hJ1, hJ2, ys, A1, o, s, w, he, hs2⟩ hnx
    have hl := o.len
    rw [zdv_b7]
    refine condP (fun hlt => ?_) (fun hlt => ?_)
    · rw [zdv_b8]
      exact hRi _ _ i' rfl hi1 hi2 ⟨ys, A1, o, s, w, he⟩
    · refine swOI (u' := i') (v' := J - 1) o s rfl (by omega) (by omega) (by omega) fun h6 A6 o6 s6 => ⟨⟨by omega, by omega⟩, ⟨by omega, by omega⟩, ?_⟩
      exact hnx _ ⟨by omega, by omega, by omega, by omega, _, A6, o6, s6, .step w (by omega) (by omega) (by omega) (by omega) (by omega), yaus (by omega) (by omega) (by omega) he (hs2 (by omega))⟩ (by omega)
  have b4 : ∀ (i' J : Nat) (h' : Hp) (nx : Int × Int × Unit → Hp → Prop), yaky () h0 p n cp a' b' x xs F i' J h' → (∀ i2 J2 h', i' + 1 ≤ i2 → J2 + 1 ≤ J → yaky () h0 p n cp a' b' x xs F i2 J2 h' → nx ((i2 : Int), (J2 : Int) - 1, ()) h') → zdv_b4 p n cp a' i' ((J : Int) - 1) h' nx R := by
    rintro i' J h' nx hI hnx
    rw [zdv_b4]
    refine ⟨fun j h2 => ∃ J2 : Nat, j.1 = (J2 : Int) - 1 ∧ J2 ≤ J ∧ yaky () h0 p n cp a' b' x xs F i' J2 h2, fun j _ => (j.1 + 1).toNat, ⟨J, rfl, Nat.le_refl _, hI⟩, ?_⟩
    clear hI
    rintro ⟨_, _⟩ h2 ⟨J2, rfl, hJJ, hi1, hi2, hJ1, hJ2, ys, A1, o, s, w, he⟩
    dsimp only
    have hl := o.len
    have hP := w.allN hl0 hP
    have ch := fun (h3 : Hp) (s : St h0 h3 (A1 + F)) (g : i' < J2 → ¬ (fun x y : Int => x < y) (ys.getD a' (tI 3).d) (ys.getD (J2 - 1) (tI 3).d)) => b7 i' J2 h3 nx ⟨hi1, hi2, hJ1, hJ2, ys, A1, o, s, w, he, g⟩ fun h' hp hq => by have := hnx (i' + 1) (J2 - 1) h' (by omega) (by omega) hp; rwa [show ((i' + 1 : Nat) : Int) = (i' : Int) + 1 by push_cast; rfl, show ((J2 - 1 : Nat) : Int) - 1 = (J2 : Int) - 1 - 1 by omega] at this
    rw [zdv_b5]
    refine condP (fun hlt => ?_) (fun hlt => ch _ s fun h => by omega)
    have r := o.rd s
    refine ldOI (i' := a') r rfl (by omega) (ldOI (i' := J2 - 1) r (by omega) (by omega) ?_)
    refine ⟨_, (yact _ _ _).mono fun v9 h9 ⟨hh9, hv9⟩ => ⟨hv9, hh9⟩, ?_⟩
    refine condP (fun hc => ?_) (fun hc => ch _ s fun _ => hc)
    rw [zdv_b6]
    exact ⟨⟨by omega, by omega⟩, ⟨J2 - 1, by omega, by omega, hi1, hi2, by omega, by omega, ys, A1, o, s, w, he⟩, by omega⟩
  have b2 : ∀ (i' J : Nat) (h' : Hp) (nx : Int × Int × Unit → Hp → Prop), yaky () h0 p n cp a' b' x xs F i' J h' → (∀ i2 J2 h', i' + 1 ≤ i2 → J2 + 1 ≤ J → yaky () h0 p n cp a' b' x xs F i2 J2 h' → nx ((i2 : Int), (J2 : Int) - 1, ()) h') → yaaq (((i' : Int), ()) : Int × Unit) h' (fun (nx1 : Int × Unit → Hp → Prop) (s4 : Int × Unit) h36 => zdv_b2 s4.1 p n cp a' ((J : Int) - 1) h36 nx nx1 R) := by
    rintro i' J h' nx hI hnx
    refine ⟨fun i h2 => ∃ i2 : Nat, i.1 = (i2 : Int) ∧ i' ≤ i2 ∧ yaky () h0 p n cp a' b' x xs F i2 J h2, fun i _ => (b' - i.1).toNat, ⟨i', rfl, Nat.le_refl _, hI⟩, ?_⟩
    clear hI
    rintro ⟨_, _⟩ h2 ⟨i2, rfl, hii, hi1, hi2, hJ1, hJ2, ys, A1, o, s, w, he⟩
    dsimp only
    have hl := o.len
    have hP := w.allN hl0 hP
    have ch := fun (h3 : Hp) (s : St h0 h3 (A1 + F)) => b4 i2 J h3 nx ⟨hi1, hi2, hJ1, hJ2, ys, A1, o, s, w, he⟩ fun i3 J3 h' g1 g2 g3 => hnx i3 J3 h' (by omega) (by omega) g3
    rw [zdv_b2]
    refine condP (fun hlt => ?_) (fun hlt => ch _ s)
    have r := o.rd s
    refine ldOI (i' := a') r rfl (by omega) (ldOI (i' := i2) r rfl (by omega) ?_)
    refine ⟨_, (yact _ _ _).mono fun v9 h9 ⟨hh9, hv9⟩ => ⟨hv9, hh9⟩, ?_⟩
    refine condN (fun hc => ?_) (fun hc => ch _ s)
    rw [zdv_b3]
    exact ⟨⟨by omega, by omega⟩, ⟨i2 + 1, by push_cast; rfl, by omega, by omega, by omega, hJ1, hJ2, ys, A1, o, s, w, yavn he hc⟩, by omega⟩
  rw [zdv_b0]
  refine swOI (u' := a') (v' := pv') o s rfl rfl (by omega) (by omega) fun h6 A6 o6 s6 => ⟨⟨by omega, by omega⟩, ⟨by omega, by omega⟩, ?_⟩
  have hx2 : (swapL (tI 3).d xs a' pv').getD a' (tI 3).d = x := by
    rw [yaas (by omega) (by omega)]
    by_cases hk : a' = pv'
    · rw [if_pos hk, hk, hx]
    · rw [if_neg hk, if_pos rfl, hx]
  refine ⟨fun ij h2 => ∃ i2 J2 : Nat, ij.1 = (i2 : Int) ∧ ij.2.1 = (J2 : Int) - 1 ∧ yaky () h0 p n cp a' b' x xs F i2 J2 h2, fun ij _ => (b' - ij.1).toNat + (ij.2.1 + 1).toNat, ⟨a' + 1, b', by push_cast; rfl, rfl, Nat.le_refl _, by omega, by omega, Nat.le_refl _, _, A6, o6, s6, .one (Nat.le_refl _) (by omega) (by omega) (by omega) (by omega), hx2, fun k h1 h2 => by rw [show k = a' by omega, hx2]; exact ordI.irr _⟩, ?_⟩
  rintro ⟨_, _, _⟩ h2 ⟨i2, J2, rfl, rfl, hI⟩
  dsimp only
  rw [zdv_b1]
  refine b2 i2 J2 h2 _ hI fun i3 J3 h3 g1 g2 hI3 => ⟨⟨i3, J3, rfl, rfl, hI3⟩, ?_⟩
  have := hI.1
  have := hI.2.1
  have := hI3.2.1
  dsimp only
  omega
theorem yadn {h0 h : Hp} {p : OA} {n cp a' b' : Nat} {a b : Int} {xs : List Int} {A F : Bag} {P : Int → Prop} (s : St h0 h (A + F)) (o : Sl (tI 3) p n cp xs A) (hP : ∀ k, k < n → P (xs.getD k (tI 3).d)) (ea : a = (a' : Int)) (eb : b = (b' : Int)) (hab : a' < b') (hb : b' ≤ n) (hn : n < 1000000)
    (hlow : 0 < a' → ∀ k, a' ≤ k → k < b' → ¬ (fun x y : Int => x < y) (xs.getD k (tI 3).d) (xs.getD (a' - 1) (tI 3).d)) :
    yaah Tryz.prog 158 #[.slice p n cp, .int .i64 a, .int .i64 b] h (fun v h' => ∃ bb : Bool, v = .bool bb ∧ OutOI h0 p n cp a' b' xs F h' (fun ys => bb = true → SrtR (tI 3).d (fun x y : Int => x < y) a' b' ys)) := by
  subst ea eb
  have hl0 := o.len
  refine zds_call ?_
  generalize hR : (fun v h' => ∃ bb : Bool, v = Value.bool bb ∧ OutOI h0 p n cp a' b' xs F h' (fun ys => bb = true → SrtR (tI 3).d (fun x y : Int => x < y) a' b' ys)) = R
  have hRf : ∀ (h' : Hp), OutOI h0 p n cp a' b' xs F h' (fun _ => True) → R (.bool false) h' := by
    rintro h' ⟨ys, A1, o, s, w, _⟩; rw [← hR]; exact ⟨false, rfl, ys, A1, o, s, w, fun h => by cases h⟩
  have hRt : ∀ (h' : Hp), OutOI h0 p n cp a' b' xs F h' (SrtR (tI 3).d (fun x y : Int => x < y) a' b') → R (.bool true) h' := by
    rintro h' ⟨ys, A1, o, s, w, hs⟩; rw [← hR]; exact ⟨true, rfl, ys, A1, o, s, w, fun _ => hs⟩
  clear hR
  rw [zds_b0_eq]
  refine ⟨⟨by omega, by omega⟩, fun ic h1 => ∃ (i' c : Nat), ic.1 = (i' : Int) ∧ ic.2.1 = (c : Int) ∧ c ≤ 5 ∧ a' + 1 ≤ i' ∧ i' ≤ b' ∧ OutOI h0 p n cp a' b' xs F h1 (SrtR (tI 3).d (fun x y : Int => x < y) a' i'), fun ic _ => (5 - ic.2.1).toNat, ⟨a' + 1, 0, by push_cast; rfl, rfl, by omega, Nat.le_refl _, by omega, xs, A, o, s, .refl _, yado (by omega)⟩, ?_⟩
  rintro ⟨_, _, _⟩ h1 ⟨i0, c, rfl, rfl, hc5, hi01, hi02, hO⟩
  dsimp only
  rw [zds_b1_eq]
  refine condP (fun hc => ?_) (fun hc => ?_)
  · generalize hNX : (fun (s' : Int × Int × Unit) (h' : Hp) => (∃ (i' c : Nat), s'.1 = (i' : Int) ∧ s'.2.1 = (c : Int) ∧ c ≤ 5 ∧ a' + 1 ≤ i' ∧ i' ≤ b' ∧ OutOI h0 p n cp a' b' xs F h' (SrtR (tI 3).d (fun x y : Int => x < y) a' i')) ∧ (5 - s'.2.1).toNat < (5 - (c : Int)).toNat) = NX
    have b10 : ∀ (i' : Nat) (h' : Hp), a' + 1 ≤ i' → i' ≤ b' → OutOI h0 p n cp a' b' xs F h' (SrtR (tI 3).d (fun x y : Int => x < y) a' i') → zds_b10 p n cp a' b' i' c h' NX R := by
      intro i' h' g1 g2 g3
      rw [zds_b10_eq, ← hNX]
      exact ⟨⟨by omega, by omega⟩, ⟨i', c + 1, rfl, by push_cast; rfl, by omega, g1, g2, g3⟩, by dsimp only; omega⟩
    clear hNX
    have b7 : ∀ (i' : Nat) (h' : Hp), a' + 1 ≤ i' → i' ≤ b' → OutOI h0 p n cp a' b' xs F h' (SrtR (tI 3).d (fun x y : Int => x < y) a' i') → zds_b7 p n cp a' b' i' c h' NX R := by
      intro i' h' g1 g2 g3
      rw [zds_b7_eq]
      refine ⟨⟨by omega, by omega⟩, condP (fun h2 => ⟨⟨by omega, by omega⟩, ?_⟩) (fun _ => b10 i' h' g1 g2 g3)⟩
      refine ⟨fun j h2 => ∃ j' : Nat, j.1 = (j' : Int) ∧ i' + 1 ≤ j' ∧ j' ≤ b' ∧ OutOI h0 p n cp a' b' xs F h2 (SrtR (tI 3).d (fun x y : Int => x < y) a' i'), fun j _ => (b' - j.1).toNat, ⟨i' + 1, by push_cast; rfl, Nat.le_refl _, by omega, g3⟩, ?_⟩
      clear g3
      rintro ⟨_, _⟩ h2 ⟨j', rfl, hj1, hj2, ys, A1, o, s, w, hs⟩
      dsimp only
      have hl := o.len
      have hP := w.allN hl0 hP
      rw [zds_b9_eq]
      refine condP (fun hlt => ?_) (fun hlt => b10 i' _ g1 g2 ⟨ys, A1, o, s, w, hs⟩)
      have r := o.rd s
      refine ldOI (i' := j') r rfl (by omega) ⟨⟨by omega, by omega⟩, ldOI (i' := j' - 1) r (by omega) (by omega) ?_⟩
      refine ⟨_, (yact _ _ _).mono fun v9 h9 ⟨hh9, hv9⟩ => ⟨hv9, hh9⟩, ?_⟩
      refine condN (fun hc => b10 i' _ g1 g2 ⟨ys, A1, o, s, w, hs⟩) (fun hc => ⟨⟨by omega, by omega⟩, ⟨by omega, by omega⟩, ?_⟩)
      refine swOI (u' := j') (v' := j' - 1) o s rfl (by omega) (by omega) (by omega) fun h6 A6 o6 s6 => ?_
      rw [zds_b11_eq]
      refine ⟨⟨by omega, by omega⟩, ⟨j' + 1, by push_cast; rfl, by omega, by omega, _, A6, o6, s6, .step w (by omega) (by omega) (by omega) (by omega) (by omega), fun x y k1 k2 k3 => ?_⟩, by omega⟩
      rw [yaas (by omega) (by omega), yaas (by omega) (by omega), if_neg (by omega), if_neg (by omega), if_neg (by omega), if_neg (by omega)]
      exact hs x y k1 k2 k3
    have b5 : ∀ (i' : Nat) (h' : Hp), a' + 1 ≤ i' → i' ≤ b' → OutOI h0 p n cp a' b' xs F h' (SrtR (tI 3).d (fun x y : Int => x < y) a' i') → zds_b5 p n cp a' b' i' c h' NX R := by
      rintro i' h' g1 g2 ⟨ys, A1, o, s, w, hs⟩
      have hl := o.len
      rw [zds_b5_eq]
      refine condP (fun he => hRt _ ⟨ys, A1, o, s, w, by rw [show i' = b' by omega] at hs; exact hs⟩) (fun hne => ⟨⟨by omega, by omega⟩, condP (fun _ => hRf _ ⟨ys, A1, o, s, w, trivial⟩) (fun _ => ⟨⟨by omega, by omega⟩, ⟨by omega, by omega⟩, ?_⟩)⟩)
      refine swOI (u' := i') (v' := i' - 1) o s rfl (by omega) (by omega) (by omega) fun h6 A6 o6 s6 => ⟨⟨by omega, by omega⟩, ?_⟩
      have w6 : Swp (tI 3).d a' b' xs (swapL (tI 3).d ys i' (i' - 1)) := .step w (by omega) (by omega) (by omega) (by omega) (by omega)
      have hs6 : SrtR (tI 3).d (fun x y : Int => x < y) a' (i' - 1) (swapL (tI 3).d ys i' (i' - 1)) := fun x y k1 k2 k3 => by
        rw [yaas (by omega) (by omega), yaas (by omega) (by omega), if_neg (by omega), if_neg (by omega), if_neg (by omega), if_neg (by omega)]
        exact hs x y k1 k2 (by omega)
      generalize swapL (tI 3).d ys i' (i' - 1) = zs at *
      clear hs w s o hl
      refine condP (fun h2 => ⟨⟨by omega, by omega⟩, ?_⟩) (fun h2 => b7 i' _ g1 g2 ⟨zs, A6, o6, s6, w6, yado (by omega)⟩)
      refine ⟨fun j h2 => ∃ j' : Nat, j.1 = (j' : Int) ∧ a' ≤ j' ∧ j' ≤ i' - 1 ∧ OutOI h0 p n cp a' b' xs F h2 (InsR (tI 3).d (fun x y : Int => x < y) a' j' (i' - 1)), fun j _ => j.1.toNat, ⟨i' - 1, by dsimp only; omega, by omega, by omega, zs, A6, o6, s6, w6, yaef hs6⟩, ?_⟩
      clear hs6 w6 s6 o6 zs
      rintro ⟨_, _⟩ h2 ⟨j', rfl, hj1, hj2, ys, A1, o, s, w, hs⟩
      dsimp only
      have hl := o.len
      have hP := w.allN hl0 hP
      have fin := fun (h3 : Hp) (s : St h0 h3 (A1 + F)) (hx : a' < j' → ¬ (fun x y : Int => x < y) (ys.getD j' (tI 3).d) (ys.getD (j' - 1) (tI 3).d)) => b7 i' h3 g1 g2 ⟨ys, A1, o, s, w, by have := yaho ordI hj1 hs hx; rwa [show i' - 1 + 1 = i' by omega] at this⟩
      rw [zds_b6_eq]
      refine condP (fun hlt => ?_) (fun hlt => fin _ s fun h => by omega)
      have r := o.rd s
      refine ldOI (i' := j') r rfl (by omega) ⟨⟨by omega, by omega⟩, ldOI (i' := j' - 1) r (by omega) (by omega) ?_⟩
      refine ⟨_, (yact _ _ _).mono fun v9 h9 ⟨hh9, hv9⟩ => ⟨hv9, hh9⟩, ?_⟩
      refine condN (fun hc => fin _ s fun _ => hc) (fun hc => ⟨⟨by omega, by omega⟩, ⟨by omega, by omega⟩, ?_⟩)
      have hja : a' < j' := by
        rcases Nat.lt_or_ge a' j' with h | h
        · exact h
        · obtain rfl : j' = a' := by omega
          rw [w.out (k := j' - 1) (.inl (by omega))] at hc
          exact absurd hc (w.all (P := fun x => ¬ (fun x y : Int => x < y) x (xs.getD (j' - 1) (tI 3).d)) (hlow (by omega)) j' (Nat.le_refl _) (by omega))
      refine swOI (u' := j') (v' := j' - 1) o s rfl (by omega) (by omega) (by omega) fun h6 A6 o6 s6 => ?_
      rw [zds_b8_eq]
      exact ⟨⟨by omega, by omega⟩, ⟨j' - 1, by omega, by omega, by omega, _, A6, o6, s6, .step w (by omega) (by omega) (by omega) (by omega) (by omega), yaij ordI (by omega) hj2 (by omega) hs hc⟩, by omega⟩
    refine ⟨fun i h2 => ∃ i' : Nat, i.1 = (i' : Int) ∧ a' + 1 ≤ i' ∧ i' ≤ b' ∧ OutOI h0 p n cp a' b' xs F h2 (SrtR (tI 3).d (fun x y : Int => x < y) a' i'), fun i _ => (b' - i.1).toNat, ⟨i0, rfl, hi01, hi02, hO⟩, ?_⟩
    clear hO
    rintro ⟨_, _⟩ h2 ⟨i', rfl, g1, g2, ys, A1, o, s, w, hs⟩
    dsimp only
    have hl := o.len
    have hP := w.allN hl0 hP
    rw [zds_b2_eq]
    refine condP (fun hlt => ?_) (fun hlt => b5 i' _ g1 g2 ⟨ys, A1, o, s, w, hs⟩)
    have r := o.rd s
    refine ldOI (i' := i') r rfl (by omega) ⟨⟨by omega, by omega⟩, ldOI (i' := i' - 1) r (by omega) (by omega) ?_⟩
    refine ⟨_, (yact _ _ _).mono fun v9 h9 ⟨hh9, hv9⟩ => ⟨hv9, hh9⟩, ?_⟩
    refine condN (fun hc => ?_) (fun hc => b5 i' _ g1 g2 ⟨ys, A1, o, s, w, hs⟩)
    rw [zds_b4_eq]
    exact ⟨⟨by omega, by omega⟩, ⟨i' + 1, by push_cast; rfl, by omega, by omega, ys, A1, o, s, w, yaho ordI (by omega) (yaef hs) fun _ => hc⟩, by omega⟩
  · obtain ⟨ys, A1, o, s, w, hs⟩ := hO
    rw [zds_b3_eq]
    exact hRf _ ⟨ys, A1, o, s, w, trivial⟩
abbrev yakz (cf : EvT → EvT → Int) (h0 : Hp) (p : OA) (n cp a' b' : Nat) (x : EvT) (xs : List EvT) (F : Bag) (i' J : Nat) (h : Hp) : Prop := a' + 1 ≤ i' ∧ i' ≤ b' ∧ a' + 1 ≤ J ∧ J ≤ b' ∧ OutEV h0 p n cp a' b' xs F h (fun ys => EqR tEv.d (fun x y : EvT => cf x y < 0) x a' i' ys)
abbrev EStEV (cf : EvT → EvT → Int) (h0 : Hp) (p : OA) (n cp a' b' : Nat) (x : EvT) (xs : List EvT) (F : Bag) (i' J : Nat) (h : Hp) : Prop := a' + 1 ≤ i' ∧ i' ≤ b' ∧ a' + 1 ≤ J ∧ J ≤ b' ∧ OutEV h0 p n cp a' b' xs F h (fun ys => EqR tEv.d (fun x y : EvT => cf x y < 0) x a' i' ys ∧ (i' < J → ¬ (fun x y : EvT => cf x y < 0) (ys.getD a' tEv.d) (ys.getD (J - 1) tEv.d)))
theorem yahb {h0 h : Hp} {p : OA} {n cp a' b' pv' : Nat} {a b pv : Int} {xs : List EvT} {A F : Bag} {cmp : Value} {cf : EvT → EvT → Int} {P : EvT → Prop} (hX : CmpEV h0 cmp cf P) (ho : OrdP (fun x y : EvT => cf x y < 0)) (s : St h0 h (A + F)) (o : Sl tEv p n cp xs A) (hP : ∀ k, k < n → P (xs.getD k tEv.d)) (ea : a = (a' : Int)) (eb : b = (b' : Int)) (ev : pv = (pv' : Int)) (hpv : a' ≤ pv' ∧ pv' < b') (hb : b' ≤ n) (hn : n < 1000000) :
    yaah Tryz.prog 118 #[.slice p n cp, .int .i64 a, .int .i64 b, .int .i64 pv, cmp] h (fun v h' => ∃ m : Nat, v = .int .i64 (m : Int) ∧ a' + 1 ≤ m ∧ m ≤ b' ∧ OutEV h0 p n cp a' b' xs F h' (EqR tEv.d (fun x y : EvT => cf x y < 0) (xs.getD pv' tEv.d) a' m)) := by
  subst ea eb ev
  have hl0 := o.len
  refine zdu_call ?_
  generalize hx : xs.getD pv' tEv.d = x
  generalize hR : (fun v h' => ∃ m : Nat, v = Value.int .i64 (m : Int) ∧ a' + 1 ≤ m ∧ m ≤ b' ∧ OutEV h0 p n cp a' b' xs F h' (EqR tEv.d (fun x y : EvT => cf x y < 0) x a' m)) = R
  have hRi : ∀ (v : Value) (h' : Hp) (m : Nat), v = .int .i64 (m : Int) → a' + 1 ≤ m → m ≤ b' → OutEV h0 p n cp a' b' xs F h' (EqR tEv.d (fun x y : EvT => cf x y < 0) x a' m) → R v h' := by
    intro v h' m h1 h2 h3 h4; rw [← hR]; exact ⟨m, h1, h2, h3, h4⟩
  clear hR
  have b7 : ∀ (i' J : Nat) (h' : Hp) (nx : Int × Int × Unit → Hp → Prop), EStEV cf h0 p n cp a' b' x xs F i' J h' → (∀ h', yakz cf h0 p n cp a' b' x xs F (i' + 1) (J - 1) h' → i' < J → nx ((i' : Int) + 1, (J : Int) - 1 - 1, ()) h') → zdu_b7 p n cp a' cmp i' ((J : Int) - 1) h' nx R := by
    rintro i' J h' nx ⟨hi1, hi2, hJ1, hJ2, ys, A1, o, s, w, he, hs2⟩ hnx
    have hl := o.len
    rw [zdu_b7]
    refine condP (fun hlt => ?_) (fun hlt => ?_)
    · rw [zdu_b8]
      exact hRi _ _ i' rfl hi1 hi2 ⟨ys, A1, o, s, w, he⟩
    · refine swEV (u' := i') (v' := J - 1) o s rfl (by omega) (by omega) (by omega) fun h6 A6 o6 s6 => ⟨⟨by omega, by omega⟩, ⟨by omega, by omega⟩, ?_⟩
      exact hnx _ ⟨by omega, by omega, by omega, by omega, _, A6, o6, s6, .step w (by omega) (by omega) (by omega) (by omega) (by omega), yaus (by omega) (by omega) (by omega) he (hs2 (by omega))⟩ (by omega)
  have b4 : ∀ (i' J : Nat) (h' : Hp) (nx : Int × Int × Unit → Hp → Prop), yakz cf h0 p n cp a' b' x xs F i' J h' → (∀ i2 J2 h', i' + 1 ≤ i2 → J2 + 1 ≤ J → yakz cf h0 p n cp a' b' x xs F i2 J2 h' → nx ((i2 : Int), (J2 : Int) - 1, ()) h') → zdu_b4 p n cp a' cmp i' ((J : Int) - 1) h' nx R := by
    rintro i' J h' nx hI hnx
    rw [zdu_b4]
    refine ⟨fun j h2 => ∃ J2 : Nat, j.1 = (J2 : Int) - 1 ∧ J2 ≤ J ∧ yakz cf h0 p n cp a' b' x xs F i' J2 h2, fun j _ => (j.1 + 1).toNat, ⟨J, rfl, Nat.le_refl _, hI⟩, ?_⟩
    clear hI
    rintro ⟨_, _⟩ h2 ⟨J2, rfl, hJJ, hi1, hi2, hJ1, hJ2, ys, A1, o, s, w, he⟩
    dsimp only
    have hl := o.len
    have hP := w.allN hl0 hP
    have ch := fun (h3 : Hp) (s : St h0 h3 (A1 + F)) (g : i' < J2 → ¬ (fun x y : EvT => cf x y < 0) (ys.getD a' tEv.d) (ys.getD (J2 - 1) tEv.d)) => b7 i' J2 h3 nx ⟨hi1, hi2, hJ1, hJ2, ys, A1, o, s, w, he, g⟩ fun h' hp hq => by have := hnx (i' + 1) (J2 - 1) h' (by omega) (by omega) hp; rwa [show ((i' + 1 : Nat) : Int) = (i' : Int) + 1 by push_cast; rfl, show ((J2 - 1 : Nat) : Int) - 1 = (J2 : Int) - 1 - 1 by omega] at this
    rw [zdu_b5]
    refine condP (fun hlt => ?_) (fun hlt => ch _ s fun h => by omega)
    have r := o.rd s
    refine ldEV (i' := a') r rfl (by omega) (ldEV (i' := J2 - 1) r (by omega) (by omega) ?_)
    refine hX _ _ _ _ s.ext (hP _ (by omega)) (hP _ (by omega)) fun h5 e5 => ⟨_, rfl, ?_⟩; have s := s.grow e5
    refine condP (fun hc => ?_) (fun hc => ch _ s fun _ => hc)
    rw [zdu_b6]
    exact ⟨⟨by omega, by omega⟩, ⟨J2 - 1, by omega, by omega, hi1, hi2, by omega, by omega, ys, A1, o, s, w, he⟩, by omega⟩
  have b2 : ∀ (i' J : Nat) (h' : Hp) (nx : Int × Int × Unit → Hp → Prop), yakz cf h0 p n cp a' b' x xs F i' J h' → (∀ i2 J2 h', i' + 1 ≤ i2 → J2 + 1 ≤ J → yakz cf h0 p n cp a' b' x xs F i2 J2 h' → nx ((i2 : Int), (J2 : Int) - 1, ()) h') → yaaq (((i' : Int), ()) : Int × Unit) h' (fun (nx1 : Int × Unit → Hp → Prop) (s4 : Int × Unit) h36 => zdu_b2 s4.1 p n cp a' cmp ((J : Int) - 1) h36 nx nx1 R) := by
    rintro i' J h' nx hI hnx
    refine ⟨fun i h2 => ∃ i2 : Nat, i.1 = (i2 : Int) ∧ i' ≤ i2 ∧ yakz cf h0 p n cp a' b' x xs F i2 J h2, fun i _ => (b' - i.1).toNat, ⟨i', rfl, Nat.le_refl _, hI⟩, ?_⟩
    clear hI
    rintro ⟨_, _⟩ h2 ⟨i2, rfl, hii, hi1, hi2, hJ1, hJ2, ys, A1, o, s, w, he⟩
    dsimp only
    have hl := o.len
    have hP := w.allN hl0 hP
    have ch := fun (h3 : Hp) (s : St h0 h3 (A1 + F)) => b4 i2 J h3 nx ⟨hi1, hi2, hJ1, hJ2, ys, A1, o, s, w, he⟩ fun i3 J3 h' g1 g2 g3 => hnx i3 J3 h' (by omega) (by omega) g3
    rw [zdu_b2]
    refine condP (fun hlt => ?_) (fun hlt => ch _ s)
    have r := o.rd s
    refine ldEV (i' := a') r rfl (by omega) (ldEV (i' := i2) r rfl (by omega) ?_)
    refine hX _ _ _ _ s.ext (hP _ (by omega)) (hP _ (by omega)) fun h5 e5 => ⟨_, rfl, ?_⟩; have s := s.grow e5
    refine condN (fun hc => ?_) (fun hc => ch _ s)
    rw [zdu_b3]
    exact ⟨⟨by omega, by omega⟩, ⟨i2 + 1, by push_cast; rfl, by omega, by omega, by omega, hJ1, hJ2, ys, A1, o, s, w, yavn he hc⟩, by omega⟩
  rw [zdu_b0]
  refine swEV (u' := a') (v' := pv') o s rfl rfl (by omega) (by omega) fun h6 A6 o6 s6 => ⟨⟨by omega, by omega⟩, ⟨by omega, by omega⟩, ?_⟩
  have hx2 : (swapL tEv.d xs a' pv').getD a' tEv.d = x := by
    rw [yaas (by omega) (by omega)]
    by_cases hk : a' = pv'
    · rw [if_pos hk, hk, hx]
    · rw [if_neg hk, if_pos rfl, hx]
  refine ⟨fun ij h2 => ∃ i2 J2 : Nat, ij.1 = (i2 : Int) ∧ ij.2.1 = (J2 : Int) - 1 ∧ yakz cf h0 p n cp a' b' x xs F i2 J2 h2, fun ij _ => (b' - ij.1).toNat + (ij.2.1 + 1).toNat, ⟨a' + 1, b', by push_cast; rfl, rfl, Nat.le_refl _, by omega, by omega, Nat.le_refl _, _, A6, o6, s6, .one (Nat.le_refl _) (by omega) (by omega) (by omega) (by omega), hx2, fun k h1 h2 => by rw [show k = a' by omega, hx2]; exact ho.irr _⟩, ?_⟩
  rintro ⟨_, _, _⟩ h2 ⟨i2, J2, rfl, rfl, hI⟩
  dsimp only
  rw [zdu_b1]
  refine b2 i2 J2 h2 _ hI fun i3 J3 h3 g1 g2 hI3 => ⟨⟨i3, J3, rfl, rfl, hI3⟩, ?_⟩
  have := hI.1
  have := hI.2.1
  have := hI3.2.1
  dsimp only
  omega
theorem yadm {h0 h : Hp} {p : OA} {n cp a' b' : Nat} {a b : Int} {xs : List EvT} {A F : Bag} {cmp : Value} {cf : EvT → EvT → Int} {P : EvT → Prop} (hX : CmpEV h0 cmp cf P) (ho : OrdP (fun x y : EvT => cf x y < 0)) (s : St h0 h (A + F)) (o : Sl tEv p n cp xs A) (hP : ∀ k, k < n → P (xs.getD k tEv.d)) (ea : a = (a' : Int)) (eb : b = (b' : Int)) (hab : a' < b') (hb : b' ≤ n) (hn : n < 1000000)
    (hlow : 0 < a' → ∀ k, a' ≤ k → k < b' → ¬ (fun x y : EvT => cf x y < 0) (xs.getD k tEv.d) (xs.getD (a' - 1) tEv.d)) :
    yaah Tryz.prog 117 #[.slice p n cp, .int .i64 a, .int .i64 b, cmp] h (fun v h' => ∃ bb : Bool, v = .bool bb ∧ OutEV h0 p n cp a' b' xs F h' (fun ys => bb = true → SrtR tEv.d (fun x y : EvT => cf x y < 0) a' b' ys)) := by
  subst ea eb
  have hl0 := o.len
  refine zdr_call ?_
  generalize hR : (fun v h' => ∃ bb : Bool, v = Value.bool bb ∧ OutEV h0 p n cp a' b' xs F h' (fun ys => bb = true → SrtR tEv.d (fun x y : EvT => cf x y < 0) a' b' ys)) = R
  have hRf : ∀ (h' : Hp), OutEV h0 p n cp a' b' xs F h' (fun _ => True) → R (.bool false) h' := by
    rintro h' ⟨ys, A1, o, s, w, _⟩; rw [← hR]; exact ⟨false, rfl, ys, A1, o, s, w, fun h => by cases h⟩
  have hRt : ∀ (h' : Hp), OutEV h0 p n cp a' b' xs F h' (SrtR tEv.d (fun x y : EvT => cf x y < 0) a' b') → R (.bool true) h' := by
    rintro h' ⟨ys, A1, o, s, w, hs⟩; rw [← hR]; exact ⟨true, rfl, ys, A1, o, s, w, fun _ => hs⟩
  clear hR
  rw [zdr_b0_eq]
  refine ⟨⟨by omega, by omega⟩, fun ic h1 => ∃ (i' c : Nat), ic.1 = (i' : Int) ∧ ic.2.1 = (c : Int) ∧ c ≤ 5 ∧ a' + 1 ≤ i' ∧ i' ≤ b' ∧ OutEV h0 p n cp a' b' xs F h1 (SrtR tEv.d (fun x y : EvT => cf x y < 0) a' i'), fun ic _ => (5 - ic.2.1).toNat, ⟨a' + 1, 0, by push_cast; rfl, rfl, by omega, Nat.le_refl _, by omega, xs, A, o, s, .refl _, yado (by omega)⟩, ?_⟩
  rintro ⟨_, _, _⟩ h1 ⟨i0, c, rfl, rfl, hc5, hi01, hi02, hO⟩
  dsimp only
  rw [zdr_b1_eq]
  refine condP (fun hc => ?_) (fun hc => ?_)
  · generalize hNX : (fun (s' : Int × Int × Unit) (h' : Hp) => (∃ (i' c : Nat), s'.1 = (i' : Int) ∧ s'.2.1 = (c : Int) ∧ c ≤ 5 ∧ a' + 1 ≤ i' ∧ i' ≤ b' ∧ OutEV h0 p n cp a' b' xs F h' (SrtR tEv.d (fun x y : EvT => cf x y < 0) a' i')) ∧ (5 - s'.2.1).toNat < (5 - (c : Int)).toNat) = NX
    have b10 : ∀ (i' : Nat) (h' : Hp), a' + 1 ≤ i' → i' ≤ b' → OutEV h0 p n cp a' b' xs F h' (SrtR tEv.d (fun x y : EvT => cf x y < 0) a' i') → zdr_b10 p n cp a' b' cmp i' c h' NX R := by
      intro i' h' g1 g2 g3
      rw [zdr_b10_eq, ← hNX]
      exact ⟨⟨by omega, by omega⟩, ⟨i', c + 1, rfl, by push_cast; rfl, by omega, g1, g2, g3⟩, by dsimp only; omega⟩
    clear hNX
    have b7 : ∀ (i' : Nat) (h' : Hp), a' + 1 ≤ i' → i' ≤ b' → OutEV h0 p n cp a' b' xs F h' (SrtR tEv.d (fun x y : EvT => cf x y < 0) a' i') → zdr_b7 p n cp a' b' cmp i' c h' NX R := by
      intro i' h' g1 g2 g3
      rw [zdr_b7_eq]
      refine ⟨⟨by omega, by omega⟩, condP (fun h2 => ⟨⟨by omega, by omega⟩, ?_⟩) (fun _ => b10 i' h' g1 g2 g3)⟩
      refine ⟨fun j h2 => ∃ j' : Nat, j.1 = (j' : Int) ∧ i' + 1 ≤ j' ∧ j' ≤ b' ∧ OutEV h0 p n cp a' b' xs F h2 (SrtR tEv.d (fun x y : EvT => cf x y < 0) a' i'), fun j _ => (b' - j.1).toNat, ⟨i' + 1, by push_cast; rfl, Nat.le_refl _, by omega, g3⟩, ?_⟩
      clear g3
      rintro ⟨_, _⟩ h2 ⟨j', rfl, hj1, hj2, ys, A1, o, s, w, hs⟩
      dsimp only
      have hl := o.len
      have hP := w.allN hl0 hP
      rw [zdr_b9_eq]
      refine condP (fun hlt => ?_) (fun hlt => b10 i' _ g1 g2 ⟨ys, A1, o, s, w, hs⟩)
      have r := o.rd s
      refine ldEV (i' := j') r rfl (by omega) ⟨⟨by omega, by omega⟩, ldEV (i' := j' - 1) r (by omega) (by omega) ?_⟩
      refine hX _ _ _ _ s.ext (hP _ (by omega)) (hP _ (by omega)) fun h5 e5 => ⟨_, rfl, ?_⟩; have s := s.grow e5
      refine condN (fun hc => b10 i' _ g1 g2 ⟨ys, A1, o, s, w, hs⟩) (fun hc => ⟨⟨by omega, by omega⟩, ⟨by omega, by omega⟩, ?_⟩)
      refine swEV (u' := j') (v' := j' - 1) o s rfl (by omega) (by omega) (by omega) fun h6 A6 o6 s6 => ?_
      rw [zdr_b11_eq]
      refine ⟨⟨by omega, by omega⟩, ⟨j' + 1, by push_cast; rfl, by omega, by omega, _, A6, o6, s6, .step w (by omega) (by omega) (by omega) (by omega) (by omega), fun x y k1 k2 k3 => ?_⟩, by omega⟩
      rw [yaas (by omega) (by omega), yaas (by omega) (by omega), if_neg (by omega), if_neg (by omega), if_neg (by omega), if_neg (by omega)]
      exact hs x y k1 k2 k3
    have b5 : ∀ (i' : Nat) (h' : Hp), a' + 1 ≤ i' → i' ≤ b' → OutEV h0 p n cp a' b' xs F h' (SrtR tEv.d (fun x y : EvT => cf x y < 0) a' i') → zdr_b5 p n cp a' b' cmp i' c h' NX R := by
      rintro i' h' g1 g2 ⟨ys, A1, o, s, w, hs⟩
      have hl := o.len
      rw [zdr_b5_eq]
      refine condP (fun he => hRt _ ⟨ys, A1, o, s, w, by rw [show i' = b' by omega] at hs; exact hs⟩) (fun hne => ⟨⟨by omega, by omega⟩, condP (fun _ => hRf _ ⟨ys, A1, o, s, w, trivial⟩) (fun _ => ⟨⟨by omega, by omega⟩, ⟨by omega, by omega⟩, ?_⟩)⟩)
      refine swEV (u' := i') (v' := i' - 1) o s rfl (by omega) (by omega) (by omega) fun h6 A6 o6 s6 => ⟨⟨by omega, by omega⟩, ?_⟩
      have w6 : Swp tEv.d a' b' xs (swapL tEv.d ys i' (i' - 1)) := .step w (by omega) (by omega) (by omega) (by omega) (by omega)
      have hs6 : SrtR tEv.d (fun x y : EvT => cf x y < 0) a' (i' - 1) (swapL tEv.d ys i' (i' - 1)) := fun x y k1 k2 k3 => by
        rw [yaas (by omega) (by omega), yaas (by omega) (by omega), if_neg (by omega), if_neg (by omega), if_neg (by omega), if_neg (by omega)]
        exact hs x y k1 k2 (by omega)
      generalize swapL tEv.d ys i' (i' - 1) = zs at *
      clear hs w s o hl
      refine condP (fun h2 => ⟨⟨by omega, by omega⟩, ?_⟩) (fun h2 => b7 i' _ g1 g2 ⟨zs, A6, o6, s6, w6, yado (by omega)⟩)
      refine ⟨fun j h2 => ∃ j' : Nat, j.1 = (j' : Int) ∧ a' ≤ j' ∧ j' ≤ i' - 1 ∧ OutEV h0 p n cp a' b' xs F h2 (InsR tEv.d (fun x y : EvT => cf x y < 0) a' j' (i' - 1)), fun j _ => j.1.toNat, ⟨i' - 1, by dsimp only; omega, by omega, by omega, zs, A6, o6, s6, w6, yaef hs6⟩, ?_⟩
      clear hs6 w6 s6 o6 zs
      rintro ⟨_, _⟩ h2 ⟨j', rfl, hj1, hj2, ys, A1, o, s, w, hs⟩
      dsimp only
      have hl := o.len
      have hP := w.allN hl0 hP
      have fin := fun (h3 : Hp) (s : St h0 h3 (A1 + F)) (hx : a' < j' → ¬ (fun x y : EvT => cf x y < 0) (ys.getD j' tEv.d) (ys.getD (j' - 1) tEv.d)) => b7 i' h3 g1 g2 ⟨ys, A1, o, s, w, by have := yaho ho hj1 hs hx; rwa [show i' - 1 + 1 = i' by omega] at this⟩
      rw [zdr_b6_eq]
      refine condP (fun hlt => ?_) (fun hlt => fin _ s fun h => by omega)
      have r := o.rd s
      refine ldEV (i' := j') r rfl (by omega) ⟨⟨by omega, by omega⟩, ldEV (i' := j' - 1) r (by omega) (by omega) ?_⟩
      refine hX _ _ _ _ s.ext (hP _ (by omega)) (hP _ (by omega)) fun h5 e5 => ⟨_, rfl, ?_⟩; have s := s.grow e5
      refine condN (fun hc => fin _ s fun _ => hc) (fun hc => ⟨⟨by omega, by omega⟩, ⟨by omega, by omega⟩, ?_⟩)
      have hja : a' < j' := by
        rcases Nat.lt_or_ge a' j' with h | h
        · exact h
        · obtain rfl : j' = a' := by omega
          rw [w.out (k := j' - 1) (.inl (by omega))] at hc
          exact absurd hc (w.all (P := fun x => ¬ (fun x y : EvT => cf x y < 0) x (xs.getD (j' - 1) tEv.d)) (hlow (by omega)) j' (Nat.le_refl _) (by omega))
      refine swEV (u' := j') (v' := j' - 1) o s rfl (by omega) (by omega) (by omega) fun h6 A6 o6 s6 => ?_
      rw [zdr_b8_eq]
      exact ⟨⟨by omega, by omega⟩, ⟨j' - 1, by omega, by omega, by omega, _, A6, o6, s6, .step w (by omega) (by omega) (by omega) (by omega) (by omega), yaij ho (by omega) hj2 (by omega) hs hc⟩, by omega⟩
    refine ⟨fun i h2 => ∃ i' : Nat, i.1 = (i' : Int) ∧ a' + 1 ≤ i' ∧ i' ≤ b' ∧ OutEV h0 p n cp a' b' xs F h2 (SrtR tEv.d (fun x y : EvT => cf x y < 0) a' i'), fun i _ => (b' - i.1).toNat, ⟨i0, rfl, hi01, hi02, hO⟩, ?_⟩
    clear hO
    rintro ⟨_, _⟩ h2 ⟨i', rfl, g1, g2, ys, A1, o, s, w, hs⟩
    dsimp only
    have hl := o.len
    have hP := w.allN hl0 hP
    rw [zdr_b2_eq]
    refine condP (fun hlt => ?_) (fun hlt => b5 i' _ g1 g2 ⟨ys, A1, o, s, w, hs⟩)
    have r := o.rd s
    refine ldEV (i' := i') r rfl (by omega) ⟨⟨by omega, by omega⟩, ldEV (i' := i' - 1) r (by omega) (by omega) ?_⟩
    refine hX _ _ _ _ s.ext (hP _ (by omega)) (hP _ (by omega)) fun h5 e5 => ⟨_, rfl, ?_⟩; have s := s.grow e5
    refine condN (fun hc => ?_) (fun hc => b5 i' _ g1 g2 ⟨ys, A1, o, s, w, hs⟩)
    rw [zdr_b4_eq]
    exact ⟨⟨by omega, by omega⟩, ⟨i' + 1, by push_cast; rfl, by omega, by omega, ys, A1, o, s, w, yaho ho (by omega) (yaef hs) fun _ => hc⟩, by omega⟩
  · obtain ⟨ys, A1, o, s, w, hs⟩ := hO
    rw [zdr_b3_eq]
    exact hRf _ ⟨ys, A1, o, s, w, trivial⟩
abbrev yafp (cf : Unit) (h0 : Hp) (p : OA) (n cp a0 b0 : Nat) (xs : List Int) (F : Bag) (a1 b1 : Nat) (h : Hp) : Prop := a0 ≤ a1 ∧ a1 ≤ b1 ∧ b1 ≤ b0 ∧ OutOI h0 p n cp a0 b0 xs F h (OutR (tI 3).d (fun x y : Int => x < y) a0 b0 a1 b1)
theorem pdqOI {h0 : Hp} {p : OA} {n cp : Nat} {F : Bag} {P : Int → Prop} (hn : n < 1000000) : ∀ (N : Nat) {h : Hp} {a0 b0 : Nat} {a b lim : Int} {xs : List Int} {A : Bag} (_ : b0 - a0 ≤ N) (_ : St h0 h (A + F)) (_ : Sl (tI 3) p n cp xs A) (_ : ∀ k, k < n → P (xs.getD k (tI 3).d)) (_ : a = (a0 : Int)) (_ : b = (b0 : Int)) (_ : a0 ≤ b0) (_ : b0 ≤ n) (_ : 0 ≤ lim ∧ lim < 1000000)
    (_ : 0 < a0 → ∀ k, a0 ≤ k → k < b0 → ¬ (fun x y : Int => x < y) (xs.getD k (tI 3).d) (xs.getD (a0 - 1) (tI 3).d)),
    yaah Tryz.prog 143 #[.slice p n cp, .int .i64 a, .int .i64 b, .int .i64 lim] h (fun v h' => v = .tuple #[] ∧ OutOI h0 p n cp a0 b0 xs F h' (SrtR (tI 3).d (fun x y : Int => x < y) a0 b0)) := by
  intro N
  induction N using Nat.strongRecOn with
  | _ N ih =>
  intro h a0 b0 a b lim xs A hN s o hP ea eb hab hb hlim hlow
  subst ea eb
  have hl0 := o.len
  refine zdy_call ?_
  generalize hR : (fun v h' => v = Value.tuple #[] ∧ OutOI h0 p n cp a0 b0 xs F h' (SrtR (tI 3).d (fun x y : Int => x < y) a0 b0)) = R
  have fin : ∀ (a1 b1 : Nat) (h' : Hp) (ys : List Int), a0 ≤ a1 → b1 ≤ b0 → Swp (tI 3).d a0 b0 xs ys → OutR (tI 3).d (fun x y : Int => x < y) a0 b0 a1 b1 ys → OutOI h0 p n cp a1 b1 ys F h' (SrtR (tI 3).d (fun x y : Int => x < y) a1 b1) → R (.tuple #[]) h' := by
    rintro a1 b1 h' ys g1 g2 w ho ⟨zs, A2, o2, s2, w2, hs⟩
    have := w.len
    rw [← hR]
    exact ⟨rfl, zs, A2, o2, s2, w.trans (w2.mono g1 g2 (by omega)).1, yafy (yabe g1 g2 ho w2) hs⟩
  clear hR
  -- what lies before the range is not more than what lies in it
  have low : ∀ (a1 b1 : Nat) (ys : List Int), a0 ≤ a1 → b1 ≤ b0 → Swp (tI 3).d a0 b0 xs ys → OutR (tI 3).d (fun x y : Int => x < y) a0 b0 a1 b1 ys → 0 < a1 → ∀ k, a1 ≤ k → k < b1 → ¬ (fun x y : Int => x < y) (ys.getD k (tI 3).d) (ys.getD (a1 - 1) (tI 3).d) := by
    intro a1 b1 ys g1 g2 w ho h1 k k1 k2
    by_cases he : a1 = a0
    · subst he
      rw [w.out (k := a1 - 1) (.inl (by omega))]
      exact w.all (P := fun x => ¬ (fun x y : Int => x < y) x (xs.getD (a1 - 1) (tI 3).d)) (hlow h1) k k1 (by omega)
    · exact ho (a1 - 1) k (by omega) (by omega) (by omega) (by omega)
  have b5 : ∀ (a1 b1 pv : Nat) (lim : Int) (h' : Hp) (nx : Int × Int × Int × Bool × Bool × Unit → Hp → Prop), yafp () h0 p n cp a0 b0 xs F a1 b1 h' → a1 ≤ pv → pv < b1 → 0 ≤ lim → lim < 1000000 →
      (∀ (a2 b2 : Nat) (l2 : Int) (wb wp : Bool) (h2 : Hp), yafp () h0 p n cp a0 b0 xs F a2 b2 h2 → b2 - a2 < b1 - a1 → 0 ≤ l2 → l2 < 1000000 → nx ((a2 : Int), (b2 : Int), l2, wb, wp, ()) h2) → zdy_b5 p n cp a1 b1 lim ((b1 : Int) - a1) pv h' nx R := by
    rintro a1 b1 pv lim h' nx ⟨g1, g2, g3, ys, A1, o, s, w, ho2⟩ hv1 hv2 hl1 hl2 hnx
    have hl := o.len
    have hPy := w.allN hl0 hP
    rw [zdy_b5_eq]
    refine (yaoi  s o hPy rfl rfl rfl ⟨hv1, hv2⟩ (by omega) hn).mono fun v h2 ⟨m, bb, hv, m1, m2, zs, A2, o2, s2, w2, hp⟩ => ⟨_, _, hv, ⟨by omega, by omega⟩, ⟨by omega, by omega⟩, yabi (by omega) (by omega) (by omega) ?_⟩
    have w02 := w.trans (w2.mono g1 g3 (by omega)).1
    have ho3 := yabe g1 g3 ho2 w2
    have hPz := w02.allN hl0 hP
    have hlz := o2.len
    have hlow2 := low a1 b1 zs g1 g3 w02 ho3
    refine condP (fun hlt => ?_) (fun hlt => ⟨⟨by omega, by omega⟩, ?_⟩)
    · refine (ih (m - a1) (by omega) (a0 := a1) (b0 := m) (Nat.le_refl _) s2 o2 hPz rfl rfl m1 (by omega) ⟨hl1, hl2⟩ fun q k k1 k2 => hlow2 q k k1 (by omega)).mono fun v h3 ⟨hv, us, A3, o3, s3, w3, hs3⟩ => ⟨hv, ⟨by omega, by omega⟩, ?_⟩
      have hm : us.getD m (tI 3).d = zs.getD m (tI 3).d := w3.out (.inr (Nat.le_refl _))
      have hp3 : PartR (tI 3).d (fun x y : Int => x < y) a1 b1 m us := ⟨by rw [hm]; exact w3.all (P := fun x => (fun x y : Int => x < y) x (zs.getD m (tI 3).d)) hp.1, fun k k1 k2 => by rw [hm, w3.out (k := k) (.inr (by omega))]; exact hp.2 k k1 k2⟩
      have := hnx (m + 1) b1 lim (decide (((b1 : Int) - a1) / 8 ≤ (m : Int) - a1)) bb h3 ⟨by omega, by omega, g3, us, A3, o3, s3, w02.trans (w3.mono g1 (by omega) (by omega)).1, yamp ordI g1 g3 m1 m2 (yabe g1 g3 ho3 (w3.mono (Nat.le_refl _) (by omega) (by omega)).1) hp3 hs3⟩ (by omega) hl1 hl2
      rwa [show ((m + 1 : Nat) : Int) = (m : Int) + 1 by push_cast; rfl] at this
    · refine (ih (b1 - (m + 1)) (by omega) (a0 := m + 1) (b0 := b1) (Nat.le_refl _) s2 o2 hPz (by push_cast; rfl) rfl (by omega) (by omega) ⟨hl1, hl2⟩ fun q k k1 k2 => hp.2 k (by omega) k2).mono fun v h3 ⟨hv, us, A3, o3, s3, w3, hs3⟩ => ⟨hv, ?_⟩
      have hm : us.getD m (tI 3).d = zs.getD m (tI 3).d := w3.out (.inl (by omega))
      have hp3 : PartR (tI 3).d (fun x y : Int => x < y) a1 b1 m us := ⟨fun k k1 k2 => by rw [hm, w3.out (k := k) (.inl (by omega))]; exact hp.1 k k1 k2, fun k k1 k2 => by rw [hm]; exact w3.all (P := fun x => ¬ (fun x y : Int => x < y) x (zs.getD m (tI 3).d)) (fun k k1 k2 => hp.2 k (by omega) k2) k (by omega) k2⟩
      exact hnx a1 m lim _ bb h3 ⟨g1, m1, by omega, us, A3, o3, s3, w02.trans (w3.mono (by omega) g3 (by omega)).1, yajz ordI g1 g3 m1 m2 (yabe g1 g3 ho3 (w3.mono (by omega) (Nat.le_refl _) (by omega)).1) hp3 hs3⟩ (by omega) hl1 hl2
  have b4 : ∀ (a1 b1 pv : Nat) (lim : Int) (wb wp : Bool) (h' : Hp) (nx : Int × Int × Int × Bool × Bool × Unit → Hp → Prop), yafp () h0 p n cp a0 b0 xs F a1 b1 h' → a1 ≤ pv → pv < b1 → 0 ≤ lim → lim < 1000000 →
      (∀ (a2 b2 : Nat) (l2 : Int) (wb wp : Bool) (h2 : Hp), yafp () h0 p n cp a0 b0 xs F a2 b2 h2 → b2 - a2 < b1 - a1 → 0 ≤ l2 → l2 < 1000000 → nx ((a2 : Int), (b2 : Int), l2, wb, wp, ()) h2) → zdy_b4 p n cp a1 b1 lim wb wp ((b1 : Int) - a1) pv h' nx R := by
    rintro a1 b1 pv lim wb wp h' nx ⟨g1, g2, g3, ys, A1, o, s, w, ho2⟩ hv1 hv2 hl1 hl2 hnx
    have hl := o.len
    rw [zdy_b4_eq]
    refine condP (fun ha => ⟨⟨by omega, by omega⟩, ?_⟩) (fun _ => b5 a1 b1 pv lim _ _ ⟨g1, g2, g3, ys, A1, o, s, w, ho2⟩ hv1 hv2 hl1 hl2 hnx)
    have hlow2 := low a1 b1 ys g1 g3 w ho2 (by omega)
    have r := o.rd s
    have hPy := w.allN hl0 hP
    have hP := hPy
    refine ldOI (i' := a1 - 1) r (by omega) (by omega) (ldOI (i' := pv) r rfl (by omega) ?_)
    refine ⟨_, (yact _ _ _).mono fun v9 h9 ⟨hh9, hv9⟩ => ⟨hv9, hh9⟩, ?_⟩
    refine condN (fun hc => ?_) (fun hc => b5 a1 b1 pv lim _ _ ⟨g1, g2, g3, ys, A1, o, s, w, ho2⟩ hv1 hv2 hl1 hl2 hnx)
    refine (yagw  s o hPy rfl rfl rfl ⟨hv1, hv2⟩ (by omega) hn).mono fun v h2 ⟨m, hv, m1, m2, zs, A2, o2, s2, w2, hp⟩ => ⟨_, hv, ?_⟩
    exact hnx m b1 lim wb wp h2 ⟨by omega, m2, g3, zs, A2, o2, s2, w.trans (w2.mono g1 g3 (by omega)).1, yakt ordI g1 g3 (by omega) m2 (yabe g1 g3 ho2 w2) hp.2 (w2.all (P := fun x => ¬ (fun x y : Int => x < y) x (ys.getD pv (tI 3).d)) fun k k1 k2 => ordI.trans _ _ _ hc (hlow2 k k1 k2))⟩ (by omega) hl1 hl2
  have b3 : ∀ (a1 b1 pv : Nat) (hint lim : Int) (wb wp : Bool) (h' : Hp) (nx : Int × Int × Int × Bool × Bool × Unit → Hp → Prop), yafp () h0 p n cp a0 b0 xs F a1 b1 h' → a1 ≤ pv → pv < b1 → 0 ≤ lim → lim < 1000000 →
      (∀ (a2 b2 : Nat) (l2 : Int) (wb wp : Bool) (h2 : Hp), yafp () h0 p n cp a0 b0 xs F a2 b2 h2 → b2 - a2 < b1 - a1 → 0 ≤ l2 → l2 < 1000000 → nx ((a2 : Int), (b2 : Int), l2, wb, wp, ()) h2) → zdy_b3 p n cp a1 b1 lim wb wp ((b1 : Int) - a1) pv hint h' nx R := by
    rintro a1 b1 pv hint lim wb wp h' nx hI hv1 hv2 hl1 hl2 hnx
    have go := fun h2 (hI : yafp () h0 p n cp a0 b0 xs F a1 b1 h2) => b4 a1 b1 pv lim wb wp h2 nx hI hv1 hv2 hl1 hl2 hnx
    rw [zdy_b3_eq]
    refine yaat (fun _ => yaat (fun _ => condP (fun _ => ?_) fun _ => go _ hI) fun _ => go _ hI) fun _ => go _ hI
    obtain ⟨g1, g2, g3, ys, A1, o, s, w, ho2⟩ := hI
    have hl := o.len
    refine (yadn  s o (w.allN hl0 hP) rfl rfl (by omega) (by omega) hn (low a1 b1 ys g1 g3 w ho2)).mono fun v h2 ⟨bb, hv, zs, A2, o2, s2, w2, hp⟩ => ⟨_, hv, yaat (fun hb => ?_) (fun hb => ?_)⟩
    · exact fin a1 b1 h2 ys g1 g3 w ho2 ⟨zs, A2, o2, s2, w2, hp hb⟩
    · exact go _ ⟨g1, g2, g3, zs, A2, o2, s2, w.trans (w2.mono g1 g3 (by omega)).1, yabe g1 g3 ho2 w2⟩
  have b2 : ∀ (a1 b1 : Nat) (lim : Int) (wb wp : Bool) (h' : Hp) (nx : Int × Int × Int × Bool × Bool × Unit → Hp → Prop), yafp () h0 p n cp a0 b0 xs F a1 b1 h' → a1 < b1 → 0 ≤ lim → lim < 1000000 →
      (∀ (a2 b2 : Nat) (l2 : Int) (wb wp : Bool) (h2 : Hp), yafp () h0 p n cp a0 b0 xs F a2 b2 h2 → b2 - a2 < b1 - a1 → 0 ≤ l2 → l2 < 1000000 → nx ((a2 : Int), (b2 : Int), l2, wb, wp, ()) h2) → zdy_b2 p n cp a1 b1 lim wb wp ((b1 : Int) - a1) h' nx R := by
    rintro a1 b1 lim wb wp h' nx ⟨g1, g2, g3, ys, A1, o, s, w, ho2⟩ hlt hl1 hl2 hnx
    have hl := o.len
    rw [zdy_b2_eq]
    refine (yake  s o (w.allN hl0 hP) rfl rfl hlt (by omega) hn).mono fun v h2 ⟨u, hint, hv, u1, u2, s⟩ => ⟨_, _, hv, condP (fun _ => ?_) (fun _ => ?_)⟩
    · refine (yajb s o rfl rfl (by omega) (by omega) hn).mono fun v h2 ⟨hv, zs, A2, o2, s2, w2, _⟩ => ⟨hv, ⟨by omega, by omega⟩, ⟨by omega, by omega⟩, ⟨by omega, by omega⟩, ?_⟩
      have := b3 a1 b1 ((b1 : Int) - 1 - (u - a1)).toNat 1 lim wb wp h2 nx ⟨g1, g2, g3, zs, A2, o2, s2, w.trans (w2.mono g1 g3 (by omega)).1, yabe g1 g3 ho2 w2⟩ (by omega) (by omega) hl1 hl2 hnx
      rwa [Int.toNat_of_nonneg (by omega)] at this
    · have := b3 a1 b1 u.toNat hint lim wb wp h2 nx ⟨g1, g2, g3, ys, A1, o, s, w, ho2⟩ (by omega) (by omega) hl1 hl2 hnx
      rwa [Int.toNat_of_nonneg (by omega)] at this
  rw [zdy_b0_eq]
  refine ⟨fun st h1 => ∃ (a1 b1 : Nat), st.1 = (a1 : Int) ∧ st.2.1 = (b1 : Int) ∧ 0 ≤ st.2.2.1 ∧ st.2.2.1 < 1000000 ∧ yafp () h0 p n cp a0 b0 xs F a1 b1 h1, fun st _ => (st.2.1 - st.1).toNat, ⟨a0, b0, rfl, rfl, hlim.1, hlim.2, Nat.le_refl _, hab, Nat.le_refl _, xs, A, o, s, .refl _, yaeu⟩, ?_⟩
  rintro ⟨_, _, lim, wb, wp, _⟩ h1 ⟨a1, b1, rfl, rfl, hl1, hl2, hI⟩
  dsimp only at hl1 hl2 ⊢
  have go := fun (l2 : Int) (h2 : Hp) (hI : yafp () h0 p n cp a0 b0 xs F a1 b1 h2) (hlt : a1 < b1) (q1 : 0 ≤ l2) (q2 : l2 < 1000000) => b2 a1 b1 l2 wb wp h2 (fun s' h' => (∃ (a1 b1 : Nat), s'.1 = (a1 : Int) ∧ s'.2.1 = (b1 : Int) ∧ 0 ≤ s'.2.2.1 ∧ s'.2.2.1 < 1000000 ∧ yafp () h0 p n cp a0 b0 xs F a1 b1 h') ∧ (s'.2.1 - s'.1).toNat < ((b1 : Int) - a1).toNat) hI hlt q1 q2 fun a2 b2 l2 wb wp h2 hI2 hm k1 k2 => ⟨⟨a2, b2, rfl, rfl, k1, k2, hI2⟩, by have := hI2.2.1; dsimp only; omega⟩
  have hI' := hI
  obtain ⟨g1, g2, g3, ys, A1, o, s, w, ho2⟩ := hI
  have hl := o.len
  rw [zdy_b1_eq]
  refine ⟨⟨by omega, by omega⟩, condP (fun h12 => ?_) (fun h12 => condP (fun hz => ?_) (fun hz => yaat (fun _ => ?_) (fun _ => ?_)))⟩
  · exact (yahf  s o (w.allN hl0 hP) rfl rfl (by omega) (by omega) hn).mono fun v h2 ⟨hv, hO⟩ => ⟨hv, fin a1 b1 h2 ys g1 g3 w ho2 hO⟩
  · exact (yasi  s o (w.allN hl0 hP) rfl rfl (by omega) (by omega) hn).mono fun v h2 ⟨hv, hO⟩ => ⟨hv, fin a1 b1 h2 ys g1 g3 w ho2 hO⟩
  · refine (yahh s o rfl rfl (by omega) (by omega) hn).mono fun v h2 ⟨hv, zs, A2, o2, s2, w2, _⟩ => ⟨hv, ⟨by omega, by omega⟩, ?_⟩
    exact go (lim - 1) h2 ⟨g1, g2, g3, zs, A2, o2, s2, w.trans (w2.mono g1 g3 (by omega)).1, yabe g1 g3 ho2 w2⟩ (by omega) (by omega) (by omega)
  · exact go lim h1 hI' (by omega) hl1 hl2
theorem yazi {h0 h : Hp} {p : OA} {n cp : Nat} {xs : List Int} {A F : Bag} {P : Int → Prop} (s : St h0 h (A + F)) (o : Sl (tI 3) p n cp xs A) (hP : ∀ k, k < n → P (xs.getD k (tI 3).d)) (hn : n < 1000000) :
    yaah Tryz.prog 125 #[.slice p n cp] h (fun v h' => v = .tuple #[] ∧ ∃ ys A', Sl (tI 3) p n cp ys A' ∧ St h0 h' (A' + F) ∧ ys.Perm xs ∧ ys.Pairwise (fun x y => ¬ (fun x y : Int => x < y) y x)) := by
  refine zdb_call ?_
  rw [zdb_b0, yacg _ (by omega) (by omega)]
  refine (yagp n (by omega) h).mono fun v h1 ⟨hv, hh⟩ => ⟨_, hv, ?_⟩
  subst hh
  have hl : blen n ≤ 20 := yana (by omega)
  refine (pdqOI  hn n (a0 := 0) (b0 := n) (by omega) s o hP rfl rfl (by omega) (Nat.le_refl _) ⟨by omega, by omega⟩ (fun h => by omega)).mono fun v h2 ⟨hv, ys, A', o2, s2, w, hs⟩ => ⟨hv, rfl, ys, A', o2, s2, w.perm, yafk o2.len hs⟩
abbrev yafq (cf : EvT → EvT → Int) (h0 : Hp) (p : OA) (n cp a0 b0 : Nat) (xs : List EvT) (F : Bag) (a1 b1 : Nat) (h : Hp) : Prop := a0 ≤ a1 ∧ a1 ≤ b1 ∧ b1 ≤ b0 ∧ OutEV h0 p n cp a0 b0 xs F h (OutR tEv.d (fun x y : EvT => cf x y < 0) a0 b0 a1 b1)
theorem pdqEV {h0 : Hp} {p : OA} {n cp : Nat} {F : Bag} {cmp : Value} {cf : EvT → EvT → Int} {P : EvT → Prop} (hX : CmpEV h0 cmp cf P) (ho : OrdP (fun x y : EvT => cf x y < 0)) (hn : n < 1000000) : ∀ (N : Nat) {h : Hp} {a0 b0 : Nat} {a b lim : Int} {xs : List EvT} {A : Bag} (_ : b0 - a0 ≤ N) (_ : St h0 h (A + F)) (_ : Sl tEv p n cp xs A) (_ : ∀ k, k < n → P (xs.getD k tEv.d)) (_ : a = (a0 : Int)) (_ : b = (b0 : Int)) (_ : a0 ≤ b0) (_ : b0 ≤ n) (_ : 0 ≤ lim ∧ lim < 1000000)
    (_ : 0 < a0 → ∀ k, a0 ≤ k → k < b0 → ¬ (fun x y : EvT => cf x y < 0) (xs.getD k tEv.d) (xs.getD (a0 - 1) tEv.d)),
    yaah Tryz.prog 81 #[.slice p n cp, .int .i64 a, .int .i64 b, .int .i64 lim, cmp] h (fun v h' => v = .tuple #[] ∧ OutEV h0 p n cp a0 b0 xs F h' (SrtR tEv.d (fun x y : EvT => cf x y < 0) a0 b0)) := by
  intro N
  induction N using Nat.strongRecOn with
  | _ N ih =>
  intro h a0 b0 a b lim xs A hN s o hP ea eb hab hb hlim hlow
  subst ea eb
  have hl0 := o.len
  refine zdx_call ?_
  generalize hR : (fun v h' => v = Value.tuple #[] ∧ OutEV h0 p n cp a0 b0 xs F h' (SrtR tEv.d (fun x y : EvT => cf x y < 0) a0 b0)) = R
  have fin : ∀ (a1 b1 : Nat) (h' : Hp) (ys : List EvT), a0 ≤ a1 → b1 ≤ b0 → Swp tEv.d a0 b0 xs ys → OutR tEv.d (fun x y : EvT => cf x y < 0) a0 b0 a1 b1 ys → OutEV h0 p n cp a1 b1 ys F h' (SrtR tEv.d (fun x y : EvT => cf x y < 0) a1 b1) → R (.tuple #[]) h' := by
    rintro a1 b1 h' ys g1 g2 w ho ⟨zs, A2, o2, s2, w2, hs⟩
    have := w.len
    rw [← hR]
    exact ⟨rfl, zs, A2, o2, s2, w.trans (w2.mono g1 g2 (by omega)).1, yafy (yabe g1 g2 ho w2) hs⟩
  clear hR
  -- what lies before the range is not more than what lies in it
  have low : ∀ (a1 b1 : Nat) (ys : List EvT), a0 ≤ a1 → b1 ≤ b0 → Swp tEv.d a0 b0 xs ys → OutR tEv.d (fun x y : EvT => cf x y < 0) a0 b0 a1 b1 ys → 0 < a1 → ∀ k, a1 ≤ k → k < b1 → ¬ (fun x y : EvT => cf x y < 0) (ys.getD k tEv.d) (ys.getD (a1 - 1) tEv.d) := by
    intro a1 b1 ys g1 g2 w ho h1 k k1 k2
    by_cases he : a1 = a0
    · subst he
      rw [w.out (k := a1 - 1) (.inl (by omega))]
      exact w.all (P := fun x => ¬ (fun x y : EvT => cf x y < 0) x (xs.getD (a1 - 1) tEv.d)) (hlow h1) k k1 (by omega)
    · exact ho (a1 - 1) k (by omega) (by omega) (by omega) (by omega)
  have b5 : ∀ (a1 b1 pv : Nat) (lim : Int) (h' : Hp) (nx : Int × Int × Int × Bool × Bool × Unit → Hp → Prop), yafq cf h0 p n cp a0 b0 xs F a1 b1 h' → a1 ≤ pv → pv < b1 → 0 ≤ lim → lim < 1000000 →
      (∀ (a2 b2 : Nat) (l2 : Int) (wb wp : Bool) (h2 : Hp), yafq cf h0 p n cp a0 b0 xs F a2 b2 h2 → b2 - a2 < b1 - a1 → 0 ≤ l2 → l2 < 1000000 → nx ((a2 : Int), (b2 : Int), l2, wb, wp, ()) h2) → zdx_b5 p n cp a1 b1 lim cmp ((b1 : Int) - a1) pv h' nx R := by
    rintro a1 b1 pv lim h' nx ⟨g1, g2, g3, ys, A1, o, s, w, ho2⟩ hv1 hv2 hl1 hl2 hnx
    have hl := o.len
    have hPy := w.allN hl0 hP
    rw [zdx_b5_eq]
    refine (yaok hX ho s o hPy rfl rfl rfl ⟨hv1, hv2⟩ (by omega) hn).mono fun v h2 ⟨m, bb, hv, m1, m2, zs, A2, o2, s2, w2, hp⟩ => ⟨_, _, hv, ⟨by omega, by omega⟩, ⟨by omega, by omega⟩, yabi (by omega) (by omega) (by omega) ?_⟩
    have w02 := w.trans (w2.mono g1 g3 (by omega)).1
    have ho3 := yabe g1 g3 ho2 w2
    have hPz := w02.allN hl0 hP
    have hlz := o2.len
    have hlow2 := low a1 b1 zs g1 g3 w02 ho3
    refine condP (fun hlt => ?_) (fun hlt => ⟨⟨by omega, by omega⟩, ?_⟩)
    · refine (ih (m - a1) (by omega) (a0 := a1) (b0 := m) (Nat.le_refl _) s2 o2 hPz rfl rfl m1 (by omega) ⟨hl1, hl2⟩ fun q k k1 k2 => hlow2 q k k1 (by omega)).mono fun v h3 ⟨hv, us, A3, o3, s3, w3, hs3⟩ => ⟨hv, ⟨by omega, by omega⟩, ?_⟩
      have hm : us.getD m tEv.d = zs.getD m tEv.d := w3.out (.inr (Nat.le_refl _))
      have hp3 : PartR tEv.d (fun x y : EvT => cf x y < 0) a1 b1 m us := ⟨by rw [hm]; exact w3.all (P := fun x => (fun x y : EvT => cf x y < 0) x (zs.getD m tEv.d)) hp.1, fun k k1 k2 => by rw [hm, w3.out (k := k) (.inr (by omega))]; exact hp.2 k k1 k2⟩
      have := hnx (m + 1) b1 lim (decide (((b1 : Int) - a1) / 8 ≤ (m : Int) - a1)) bb h3 ⟨by omega, by omega, g3, us, A3, o3, s3, w02.trans (w3.mono g1 (by omega) (by omega)).1, yamp ho g1 g3 m1 m2 (yabe g1 g3 ho3 (w3.mono (Nat.le_refl _) (by omega) (by omega)).1) hp3 hs3⟩ (by omega) hl1 hl2
      rwa [show ((m + 1 : Nat) : Int) = (m : Int) + 1 by push_cast; rfl] at this
    · refine (ih (b1 - (m + 1)) (by omega) (a0 := m + 1) (b0 := b1) (Nat.le_refl _) s2 o2 hPz (by push_cast; rfl) rfl (by omega) (by omega) ⟨hl1, hl2⟩ fun q k k1 k2 => hp.2 k (by omega) k2).mono fun v h3 ⟨hv, us, A3, o3, s3, w3, hs3⟩ => ⟨hv, ?_⟩
      have hm : us.getD m tEv.d = zs.getD m tEv.d := w3.out (.inl (by omega))
      have hp3 : PartR tEv.d (fun x y : EvT => cf x y < 0) a1 b1 m us := ⟨fun k k1 k2 => by rw [hm, w3.out (k := k) (.inl (by omega))]; exact hp.1 k k1 k2, fun k k1 k2 => by rw [hm]; exact w3.all (P := fun x => ¬ (fun x y : EvT => cf x y < 0) x (zs.getD m tEv.d)) (fun k k1 k2 => hp.2 k (by omega) k2) k (by omega) k2⟩
      exact hnx a1 m lim _ bb h3 ⟨g1, m1, by omega, us, A3, o3, s3, w02.trans (w3.mono (by omega) g3 (by omega)).1, yajz ho g1 g3 m1 m2 (yabe g1 g3 ho3 (w3.mono (by omega) (Nat.le_refl _) (by omega)).1) hp3 hs3⟩ (by omega) hl1 hl2
  have b4 : ∀ (a1 b1 pv : Nat) (lim : Int) (wb wp : Bool) (h' : Hp) (nx : Int × Int × Int × Bool × Bool × Unit → Hp → Prop), yafq cf h0 p n cp a0 b0 xs F a1 b1 h' → a1 ≤ pv → pv < b1 → 0 ≤ lim → lim < 1000000 →
      (∀ (a2 b2 : Nat) (l2 : Int) (wb wp : Bool) (h2 : Hp), yafq cf h0 p n cp a0 b0 xs F a2 b2 h2 → b2 - a2 < b1 - a1 → 0 ≤ l2 → l2 < 1000000 → nx ((a2 : Int), (b2 : Int), l2, wb, wp, ()) h2) → zdx_b4 p n cp a1 b1 lim cmp wb wp ((b1 : Int) - a1) pv h' nx R := by
    rintro a1 b1 pv lim wb wp h' nx ⟨g1, g2, g3, ys, A1, o, s, w, ho2⟩ hv1 hv2 hl1 hl2 hnx
    have hl := o.len
    rw [zdx_b4_eq]
    refine condP (fun ha => ⟨⟨by omega, by omega⟩, ?_⟩) (fun _ => b5 a1 b1 pv lim _ _ ⟨g1, g2, g3, ys, A1, o, s, w, ho2⟩ hv1 hv2 hl1 hl2 hnx)
    have hlow2 := low a1 b1 ys g1 g3 w ho2 (by omega)
    have r := o.rd s
    have hPy := w.allN hl0 hP
    have hP := hPy
    refine ldEV (i' := a1 - 1) r (by omega) (by omega) (ldEV (i' := pv) r rfl (by omega) ?_)
    refine hX _ _ _ _ s.ext (hP _ (by omega)) (hP _ (by omega)) fun h5 e5 => ⟨_, rfl, ?_⟩; have s := s.grow e5
    refine condN (fun hc => ?_) (fun hc => b5 a1 b1 pv lim _ _ ⟨g1, g2, g3, ys, A1, o, s, w, ho2⟩ hv1 hv2 hl1 hl2 hnx)
    refine (yahb hX ho s o hPy rfl rfl rfl ⟨hv1, hv2⟩ (by omega) hn).mono fun v h2 ⟨m, hv, m1, m2, zs, A2, o2, s2, w2, hp⟩ => ⟨_, hv, ?_⟩
    exact hnx m b1 lim wb wp h2 ⟨by omega, m2, g3, zs, A2, o2, s2, w.trans (w2.mono g1 g3 (by omega)).1, yakt ho g1 g3 (by omega) m2 (yabe g1 g3 ho2 w2) hp.2 (w2.all (P := fun x => ¬ (fun x y : EvT => cf x y < 0) x (ys.getD pv tEv.d)) fun k k1 k2 => ho.trans _ _ _ hc (hlow2 k k1 k2))⟩ (by omega) hl1 hl2
  have b3 : ∀ (a1 b1 pv : Nat) (hint lim : Int) (wb wp : Bool) (h' : Hp) (nx : Int × Int × Int × Bool × Bool × Unit → Hp → Prop), yafq cf h0 p n cp a0 b0 xs F a1 b1 h' → a1 ≤ pv → pv < b1 → 0 ≤ lim → lim < 1000000 →
      (∀ (a2 b2 : Nat) (l2 : Int) (wb wp : Bool) (h2 : Hp), yafq cf h0 p n cp a0 b0 xs F a2 b2 h2 → b2 - a2 < b1 - a1 → 0 ≤ l2 → l2 < 1000000 → nx ((a2 : Int), (b2 : Int), l2, wb, wp, ()) h2) → zdx_b3 p n cp a1 b1 lim cmp wb wp ((b1 : Int) - a1) pv hint h' nx R := by
    rintro a1 b1 pv hint lim wb wp h' nx hI hv1 hv2 hl1 hl2 hnx
    have go := fun h2 (hI : yafq cf h0 p n cp a0 b0 xs F a1 b1 h2) => b4 a1 b1 pv lim wb wp h2 nx hI hv1 hv2 hl1 hl2 hnx
    rw [zdx_b3_eq]
    refine yaat (fun _ => yaat (fun _ => condP (fun _ => ?_) fun _ => go _ hI) fun _ => go _ hI) fun _ => go _ hI
    obtain ⟨g1, g2, g3, ys, A1, o, s, w, ho2⟩ := hI
    have hl := o.len
    refine (yadm hX ho s o (w.allN hl0 hP) rfl rfl (by omega) (by omega) hn (low a1 b1 ys g1 g3 w ho2)).mono fun v h2 ⟨bb, hv, zs, A2, o2, s2, w2, hp⟩ => ⟨_, hv, yaat (fun hb => ?_) (fun hb => ?_)⟩
    · exact fin a1 b1 h2 ys g1 g3 w ho2 ⟨zs, A2, o2, s2, w2, hp hb⟩
    · exact go _ ⟨g1, g2, g3, zs, A2, o2, s2, w.trans (w2.mono g1 g3 (by omega)).1, yabe g1 g3 ho2 w2⟩
  have b2 : ∀ (a1 b1 : Nat) (lim : Int) (wb wp : Bool) (h' : Hp) (nx : Int × Int × Int × Bool × Bool × Unit → Hp → Prop), yafq cf h0 p n cp a0 b0 xs F a1 b1 h' → a1 < b1 → 0 ≤ lim → lim < 1000000 →
      (∀ (a2 b2 : Nat) (l2 : Int) (wb wp : Bool) (h2 : Hp), yafq cf h0 p n cp a0 b0 xs F a2 b2 h2 → b2 - a2 < b1 - a1 → 0 ≤ l2 → l2 < 1000000 → nx ((a2 : Int), (b2 : Int), l2, wb, wp, ()) h2) → zdx_b2 p n cp a1 b1 lim cmp wb wp ((b1 : Int) - a1) h' nx R := by
    rintro a1 b1 lim wb wp h' nx ⟨g1, g2, g3, ys, A1, o, s, w, ho2⟩ hlt hl1 hl2 hnx
    have hl := o.len
    rw [zdx_b2_eq]
    refine (yajl hX ho s o (w.allN hl0 hP) rfl rfl hlt (by omega) hn).mono fun v h2 ⟨u, hint, hv, u1, u2, s⟩ => ⟨_, _, hv, condP (fun _ => ?_) (fun _ => ?_)⟩
    · refine (yair s o rfl rfl (by omega) (by omega) hn).mono fun v h2 ⟨hv, zs, A2, o2, s2, w2, _⟩ => ⟨hv, ⟨by omega, by omega⟩, ⟨by omega, by omega⟩, ⟨by omega, by omega⟩, ?_⟩
      have := b3 a1 b1 ((b1 : Int) - 1 - (u - a1)).toNat 1 lim wb wp h2 nx ⟨g1, g2, g3, zs, A2, o2, s2, w.trans (w2.mono g1 g3 (by omega)).1, yabe g1 g3 ho2 w2⟩ (by omega) (by omega) hl1 hl2 hnx
      rwa [Int.toNat_of_nonneg (by omega)] at this
    · have := b3 a1 b1 u.toNat hint lim wb wp h2 nx ⟨g1, g2, g3, ys, A1, o, s, w, ho2⟩ (by omega) (by omega) hl1 hl2 hnx
      rwa [Int.toNat_of_nonneg (by omega)] at this
  rw [zdx_b0_eq]
  refine ⟨fun st h1 => ∃ (a1 b1 : Nat), st.1 = (a1 : Int) ∧ st.2.1 = (b1 : Int) ∧ 0 ≤ st.2.2.1 ∧ st.2.2.1 < 1000000 ∧ yafq cf h0 p n cp a0 b0 xs F a1 b1 h1, fun st _ => (st.2.1 - st.1).toNat, ⟨a0, b0, rfl, rfl, hlim.1, hlim.2, Nat.le_refl _, hab, Nat.le_refl _, xs, A, o, s, .refl _, yaeu⟩, ?_⟩
  rintro ⟨_, _, lim, wb, wp, _⟩ h1 ⟨a1, b1, rfl, rfl, hl1, hl2, hI⟩
  dsimp only at hl1 hl2 ⊢
  have go := fun (l2 : Int) (h2 : Hp) (hI : yafq cf h0 p n cp a0 b0 xs F a1 b1 h2) (hlt : a1 < b1) (q1 : 0 ≤ l2) (q2 : l2 < 1000000) => b2 a1 b1 l2 wb wp h2 (fun s' h' => (∃ (a1 b1 : Nat), s'.1 = (a1 : Int) ∧ s'.2.1 = (b1 : Int) ∧ 0 ≤ s'.2.2.1 ∧ s'.2.2.1 < 1000000 ∧ yafq cf h0 p n cp a0 b0 xs F a1 b1 h') ∧ (s'.2.1 - s'.1).toNat < ((b1 : Int) - a1).toNat) hI hlt q1 q2 fun a2 b2 l2 wb wp h2 hI2 hm k1 k2 => ⟨⟨a2, b2, rfl, rfl, k1, k2, hI2⟩, by have := hI2.2.1; dsimp only; omega⟩
  have hI' := hI
  obtain ⟨g1, g2, g3, ys, A1, o, s, w, ho2⟩ := hI
  have hl := o.len
  rw [zdx_b1_eq]
  refine ⟨⟨by omega, by omega⟩, condP (fun h12 => ?_) (fun h12 => condP (fun hz => ?_) (fun hz => yaat (fun _ => ?_) (fun _ => ?_)))⟩
  · exact (yahk hX ho s o (w.allN hl0 hP) rfl rfl (by omega) (by omega) hn).mono fun v h2 ⟨hv, hO⟩ => ⟨hv, fin a1 b1 h2 ys g1 g3 w ho2 hO⟩
  · exact (yapg hX ho s o (w.allN hl0 hP) rfl rfl (by omega) (by omega) hn).mono fun v h2 ⟨hv, hO⟩ => ⟨hv, fin a1 b1 h2 ys g1 g3 w ho2 hO⟩
  · refine (yahe s o rfl rfl (by omega) (by omega) hn).mono fun v h2 ⟨hv, zs, A2, o2, s2, w2, _⟩ => ⟨hv, ⟨by omega, by omega⟩, ?_⟩
    exact go (lim - 1) h2 ⟨g1, g2, g3, zs, A2, o2, s2, w.trans (w2.mono g1 g3 (by omega)).1, yabe g1 g3 ho2 w2⟩ (by omega) (by omega) (by omega)
  · exact go lim h1 hI' (by omega) hl1 hl2
theorem ybbl {h0 h : Hp} {p : OA} {n cp : Nat} {xs : List EvT} {A F : Bag} {cmp : Value} {cf : EvT → EvT → Int} {P : EvT → Prop} (hX : CmpEV h0 cmp cf P) (ho : OrdP (fun x y : EvT => cf x y < 0)) (s : St h0 h (A + F)) (o : Sl tEv p n cp xs A) (hP : ∀ k, k < n → P (xs.getD k tEv.d)) (hn : n < 1000000) :
    yaah Tryz.prog 50 #[.slice p n cp, cmp] h (fun v h' => v = .tuple #[] ∧ ∃ ys A', Sl tEv p n cp ys A' ∧ St h0 h' (A' + F) ∧ ys.Perm xs ∧ ys.Pairwise (fun x y => ¬ (fun x y : EvT => cf x y < 0) y x)) := by
  refine zda_call ?_
  rw [zda_b0, yacg _ (by omega) (by omega)]
  refine (yagp n (by omega) h).mono fun v h1 ⟨hv, hh⟩ => ⟨_, hv, ?_⟩
  subst hh
  have hl : blen n ≤ 20 := yana (by omega)
  refine (pdqEV hX ho hn n (a0 := 0) (b0 := n) (by omega) s o hP rfl rfl (by omega) (Nat.le_refl _) ⟨by omega, by omega⟩ (fun h => by omega)).mono fun v h2 ⟨hv, ys, A', o2, s2, w, hs⟩ => ⟨hv, rfl, ys, A', o2, s2, w.perm, yafk o2.len hs⟩
theorem yamu {ys : List Int} (h : ys.Pairwise (fun x y => ¬ (fun x y : Int => x < y) y x)) : ys.Pairwise (· ≤ ·) := h.imp fun h => Int.not_lt.1 h
theorem yagq {xs ys zs : List Int} (h1 : xs.Pairwise (· ≤ ·)) (h2 : ys.Pairwise (· ≤ ·)) (h3 : zs.Pairwise (· ≤ ·)) (hp : zs.Perm (xs ++ ys)) : zs = yadj xs ys :=
  List.Perm.eq_of_pairwise (fun a b _ _ h1 h2 => Int.le_antisymm h1 h2) h3 (yacj _ _ h1 h2) (hp.trans (yabk _ _).symm)
theorem yaht {l : List (List Int)} (h : ∀ r ∈ l, r.Pairwise (· ≤ ·)) (i : Nat) : (l.getD i []).Pairwise (· ≤ ·) := by
  rcases Nat.lt_or_ge i l.length with hi | hi
  · exact h _ (by rw [yaaf hi]; exact List.getElem_mem hi)
  · rw [List.getD_eq_getElem?_getD, List.getElem?_eq_none hi]; exact List.Pairwise.nil
section
variable {h0 h : Hp} {b1 b2 : Nat} {l : List (List Int)} {p q : OA} {n c m cc : Nat} {code : Int} {zs : List Int} {B G : Bag} {y0 y1 y2 : Value}
theorem yawk (b : Bool) (h : Hp) : yaah Tryz.prog 133 #[.bool b] h (fun v h' => v = .int .i64 (if b = true then 1 else 0) ∧ h' = h) := by
  refine zcb_call ?_
  rw [zcb_b0]
  cases b
  · exact yaau rfl ⟨rfl, rfl⟩
  · exact yaax rfl ⟨rfl, rfl⟩
theorem yahr (hso : ∀ r ∈ l, r.Pairwise (· ≤ ·)) (na : RowsA (p, n, c) l B) (s : St h0 h (modA b1 b2 code q m cc y0 y1 y2 B G)) (hn : n ≤ 1000) (ht : tot l ≤ 500) {a b : Nat} (hab : a < b) (hb : b < n) :
    zbz_b8 p n c (some ⟨b2, 0, none⟩) (a : Int) (b : Int) h (yafm h0 G (cutL (l.set a (yadj (l.getD a []) (l.getD b []))) b) 0 1) := by
  have hl : l.length = n := yabh na
  rw [zbz_b8]
  delta modA at s
  have na0 := na
  obtain ⟨hs, B0, B1, rfl, h1, h2⟩ := na
  have hsl : hs.length = n := h1.len
  obtain ⟨Ai, Br, rfl, oa, hset⟩ := AllH.editH h2 (i := a) (by omega)
  have oal : (l.getD a []).length = (hs.getD a TR.d).2.1 := oa.len
  have la := yamg ht a
  have lb := yamg ht b
  refine ldH (i' := a) h1 (s.at B0) rfl (by omega) (yaif na0 (s.at (B0 + (Ai + Br))) rfl hb fun qb db rb => ?_)
  refine yacb (F := B0 + (Br + (cA b2 [y0, y1, y2] 58 + (cA b1 [.int .i64 code, .slice q m cc] 50 + G)))) yaku s.to oa rb (by omega) fun p' c' h' A' o' s' => ?_
  refine wrH (i' := a) (x := (p', (hs.getD a (none, 0, 0)).2.1 + (l.getD b []).length, c')) (F := A' + (Br + (cA b2 [y0, y1, y2] 58 + (cA b1 [.int .i64 code, .slice q m cc] 50 + G)))) h1 s'.to rfl (by omega) fun h3 B3 o3 s3 => ?_
  have na3 : RowsA (p, n, c) (l.set a (l.getD a [] ++ l.getD b [])) (B3 + (A' + Br)) := ⟨_, B3, A' + Br, rfl, o3, hset _ _ _ o'⟩
  have s3 : St h0 h3 (B3 + (A' + Br) + (cA b2 [y0, y1, y2] 58 + (cA b1 [.int .i64 code, .slice q m cc] 50 + G))) := s3.to
  refine yaev na3 s3 (by omega) (by omega) fun q4 l4 d4 Bi4 Br4 o4 hB4 hset4 => ?_
  rw [Int.toNat_natCast, yade (by omega), if_pos rfl] at o4
  have o4l : (l.getD a [] ++ l.getD b []).length = l4 := o4.len
  rw [List.length_append] at o4l
  rw [hB4] at s3
  refine (yazi (P := fun _ => True) (F := Br4 + (cA b2 [y0, y1, y2] 58 + (cA b1 [.int .i64 code, .slice q m cc] 50 + G))) s3.to o4 (fun _ _ => trivial) (by omega)).mono fun v h5 ⟨hv, ys, A5, o5, s5, hp, hsrt⟩ => ⟨hv, ⟨by omega, by omega⟩, ?_⟩
  have na5 := hset4 _ _ o5
  rw [Int.toNat_natCast, List.set_set, yagq (yaht hso a) (yaht hso b) (yamu hsrt) hp] at na5
  refine (yaer (G := cA b2 [y0, y1, y2] 58 + (cA b1 [.int .i64 code, .slice q m cc] 50 + G)) (i := b) na5 s5.to hb rfl (by omega)).mono fun v h' ⟨B', hv, na', s⟩ => ⟨_, _, _, hv, ?_⟩
  exact mboxT (b2 := b2) (D := cA b1 [.int .i64 code, .slice q m cc] 50) na' s.to (yaal _ _)
theorem yayd (hso : ∀ r ∈ l, r.Pairwise (· ≤ ·)) (na : RowsA (p, n, c) l B) (rz : RdS h0 G TI q m zs) (s : St h0 h (B + G)) (hn : n ≤ 1000) (ht : tot l ≤ 500) (hc : 1 ≤ code ∧ code ≤ 5) (h1 : code = 4 → zs.length = 1) (h2 : code = 2 ∨ code = 3 → zs.length = 2) :
    yaah Tryz.prog 95 #[.slice p n c, .agg #[.int .i64 code, .slice q m cc]] h (yaom h0 G l code zs) := by
  have hl : l.length = n := yabh na
  refine zbz_call ?_
  rw [zbz_b0]
  refine s.new (cs := [_, _]) fun b1 h3 _ s => s.new (cs := [_, _, _]) fun b2 h4 _ s => ?_
  have rzG : ∀ h' {A : Bag}, St h0 h' (modA b1 b2 code q m cc (.int .i64 0) (.int .i64 0) (.slice none 0 0) A G) → RdT TI h' q m zs := fun h' {A} s => rz h' (cA b2 [.int .i64 0, .int .i64 0, .slice none 0 0] 58 + (cA b1 [.int .i64 code, .slice q m cc] 50 + A)) (by delta modA at s; exact s.to)
  refine ⟨_, s.ld0, condP (fun h5 => ?_) (fun h5 => condP (fun hp => ?_) (fun hp => ?_))⟩
  · have e : setsS l code zs = (l, 0, (l.length : Int)) := by subst h5; rfl
    rw [yaom, e, hl]
    exact mboxT na s (yaal _ _)
  · refine ⟨fun x h' => h' = h4 ∧ ∃ i : Nat, x.2.1 = i ∧ i ≤ n ∧ x.1 = (tot (l.take i) : Int), fun x _ => (n - x.2.1).toNat, ⟨rfl, 0, rfl, Nat.zero_le _, by simp [tot]⟩, ?_⟩
    rintro ⟨x, y, _⟩ h7 ⟨rfl, i, rfl, hi, hx⟩
    dsimp only at hx ⊢
    subst hx
    rw [zbz_b1]
    refine condP (fun hlt => ?_) (fun hge => ?_)
    · refine yaif na (s.at B) rfl (by omega) fun q d r => ?_
      have := yalu (rows := l) (i := i) (by omega)
      have := yaxk (rows := l) (i + 1)
      refine ⟨⟨by omega, by omega⟩, ?_⟩
      rw [zbz_b3]
      exact ⟨⟨by omega, by omega⟩, ⟨rfl, i + 1, by push_cast; rfl, by omega, by push_cast; omega⟩, by dsimp only; omega⟩
    · rw [zbz_b4, List.take_of_length_le (by omega)]
      refine condP (fun hf => ?_) (fun hf => ?_)
      · have e : setsS l code zs = (l, 4, 0) := by subst hp; show (if tot l = 500 then (l, 4, 0) else _) = _; rw [if_pos (by omega)]
        rw [yaom, e]
        exact mboxT na s (yaar _ _)
      · have e : setsS l code zs = (l ++ [[(tot l : Int)]], 0, (tot l : Int)) := by subst hp; show (if tot l = 500 then (l, 4, 0) else _) = _; rw [if_neg (by omega)]
        rw [yaom, e]
        refine s.new (cs := [_]) fun b5 h8 _ s => ?_
        have o5 : Sl TI (some ⟨b5, 0, none⟩) 1 1 [(tot l : Int)] (cA b5 [.int .i64 (tot l : Int)] 3) := Sl.of_blk (T := TI) rfl rfl
        refine yajq (s.to (B := B + (cA b5 [.int .i64 (tot l : Int)] 3 + (cA b2 [.int .i64 0, .int .i64 0, .slice none 0 0] 58 + (cA b1 [.int .i64 code, .slice q m cc] 50 + G))))) na o5 rfl (by omega) fun p' c' h' A' na' s => ?_
        exact mboxT (b2 := b2) (D := cA b1 [.int .i64 code, .slice q m cc] 50) na' s.to (yaal _ _)
  have hrz := rzG h4 (by delta modA; exact s)
  have hzl := hrz.len
  rw [zbz_b2]
  refine ⟨_, _, _, s.ldB, ldI (i' := 0) hrz rfl (by omega) ?_⟩
  refine (yanv na (s.at B) hn (by omega)).mono fun v h8 ⟨hv, s⟩ => ⟨_, hv, ?_⟩
  have s : St h0 h8 (cA b2 [.int .i64 0, .int .i64 0, .slice none 0 0] 58 + (cA b1 [.int .i64 code, .slice q m cc] 50 + (B + G))) := s.to
  refine ⟨_, _, _, s.ldB, condP (fun h1m => ?_) (fun h1m => ?_)⟩
  · have h23 : code = 2 ∨ code = 3 := by omega
    have e : setsS l code zs = (if clsZ l (zs.getD 0 0) < 0 ∨ clsZ l (zs.getD 1 0) < 0 then (l, 12, 0) else if code = 3 then (l, 0, if clsN l (zs.getD 0 0) = clsN l (zs.getD 1 0) then 1 else 0) else if clsN l (zs.getD 0 0) = clsN l (zs.getD 1 0) then (l, 0, 0) else (uniR l (clsN l (zs.getD 0 0)) (clsN l (zs.getD 1 0)), 0, 1)) := by
      unfold setsS
      rw [if_neg hp, if_neg h5, if_neg (by omega)]
    rw [yaom, e]
    have hrz8 := rzG h8 (by delta modA; exact s)
    refine ⟨_, _, _, s.ldB, ldI (i' := 1) hrz8 rfl (by omega) ?_⟩
    refine (yanv na (s.at B) hn (by omega)).mono fun v h9 ⟨hv, s⟩ => ⟨_, hv, ?_⟩
    have s : St h0 h9 (cA b2 [.int .i64 0, .int .i64 0, .slice none 0 0] 58 + (cA b1 [.int .i64 code, .slice q m cc] 50 + (B + G))) := s.to
    rw [zbz_b5]
    refine condP (fun ha => ?_) (fun ha => condP (fun hb => ?_) (fun hb => ?_))
    · rw [if_pos (Or.inl ha)]; exact mboxT na s (yaar _ _)
    · rw [if_pos (Or.inr hb)]; exact mboxT na s (yaar _ _)
    rw [if_neg (by omega)]
    obtain ⟨e1, e2⟩ := yagf ha
    obtain ⟨e3, e4⟩ := yagf hb
    rw [e1, e3]
    generalize clsN l (zs.getD 0 0) = a at e2 ⊢
    generalize clsN l (zs.getD 1 0) = b at e4 ⊢
    rw [zbz_b6]
    refine ⟨_, s.ld0, yaau (decide_eq_false (by omega)) (condP (fun h3 => ?_) (fun h3 => ?_))⟩
    · rw [if_pos h3]
      refine (yawk _ _).mono fun v h10 ⟨hv, hh⟩ => ⟨_, hv, ?_⟩
      subst hh
      have e5 : (if decide ((a : Int) = (b : Int)) = true then (1 : Int) else 0) = if a = b then 1 else 0 := by
        by_cases h : a = b
        · rw [if_pos h, if_pos (decide_eq_true (by omega))]
        · rw [if_neg h, if_neg (by rw [decide_eq_false (by omega)]; decide)]
      rw [e5]
      exact mboxT na s (yaal _ _)
    · rw [if_neg h3, zbz_b7]
      refine condP (fun he => ?_) (fun he => ?_)
      · rw [if_pos (by omega)]; exact mboxT na s (yaal _ _)
      rw [if_neg (by omega)]
      refine condP (fun hba => ?_) (fun hba => ?_)
      · have r := yahr (b1 := b1) (b2 := b2) (code := code) (q := q) (m := m) (cc := cc) (y0 := .int .i64 0) (y1 := .int .i64 0) (y2 := .slice none 0 0) (a := b) (b := a) hso na (by delta modA; exact s) hn ht (by omega) (by omega)
        have e6 : yadj (l.getD b []) (l.getD a []) = yadj (l.getD a []) (l.getD b []) := by
          refine yagq (yaht hso a) (yaht hso b) (yacj _ _ (yaht hso b) (yaht hso a)) ((yabk _ _).trans List.perm_append_comm)
        rw [e6] at r
        rw [uniR, show min a b = b by omega, show max a b = a by omega]
        exact r
      · have r := yahr (b1 := b1) (b2 := b2) (code := code) (q := q) (m := m) (cc := cc) (y0 := .int .i64 0) (y1 := .int .i64 0) (y2 := .slice none 0 0) (a := a) (b := b) hso na (by delta modA; exact s) hn ht (by omega) (by omega)
        rw [uniR, show min a b = a by omega, show max a b = b by omega]
        exact r
  · have h4 : code = 4 := by omega
    have e : setsS l code zs = (if clsZ l (zs.getD 0 0) < 0 then (l, 12, 0) else (l, 0, ((l.getD (clsN l (zs.getD 0 0)) []).length : Int))) := by subst h4; rfl
    rw [yaom, e, zbz_b5]
    refine condP (fun ha => ?_) (fun ha => condP (fun hb => absurd hb ha) (fun _ => ?_))
    · rw [if_pos ha]; exact mboxT na s (yaar _ _)
    rw [if_neg ha, zbz_b6]
    obtain ⟨e1, e2⟩ := yagf ha
    rw [e1]
    exact ⟨_, s.ld0, yaax (decide_eq_true h4) (yaif na (s.at B) rfl (by omega) fun q' d' _ => mboxT na s (yaal _ _))⟩
end
end Go.Proofs.YtllhdhpjgihjfaaGreatDoor
namespace Go.Sx
variable {α : Type} {d : α}
noncomputable def like (lt : α → α → Prop) (z y : α) : Bool := @decide (¬ lt y z ∧ ¬ lt z y) (Classical.propDecidable _)
def Stb (lt : α → α → Prop) (xs ys : List α) : Prop := ys.Perm xs ∧ ∀ z, ys.filter (like lt z) = xs.filter (like lt z)
theorem Stb.refl {lt : α → α → Prop} (xs : List α) : Stb lt xs xs := ⟨.refl _, fun _ => rfl⟩
theorem Stb.trans {lt : α → α → Prop} {xs ys zs : List α} (h1 : Stb lt xs ys) (h2 : Stb lt ys zs) : Stb lt xs zs := ⟨h2.1.trans h1.1, fun z => (h2.2 z).trans (h1.2 z)⟩
theorem yaqy {xs ys : List α} {q : Nat} : (xs ++ ys).getD q d = if q < xs.length then xs.getD q d else ys.getD (q - xs.length) d := by
  rw [List.getD_eq_getElem?_getD, List.getElem?_append]
  split <;> rw [← List.getD_eq_getElem?_getD]
theorem yamw {xs : List α} {n q : Nat} : (xs.take n).getD q d = if q < n then xs.getD q d else d := by
  rw [List.getD_eq_getElem?_getD, List.getElem?_take]
  split
  · rw [← List.getD_eq_getElem?_getD]
  · rfl
section
variable {lt : α → α → Prop} (o : OrdP lt)
end
def up (k : Nat) (x : Int) : Int := x / 2 ^ k
abbrev Pt := Int × Int × Int
def inB (x1 x2 y1 y2 : Int) (p : Pt) : Bool := decide (x1 ≤ p.1 ∧ p.1 ≤ x2 ∧ y1 ≤ p.2.1 ∧ p.2.1 ≤ y2)
def wSum (l : List Pt) : Int := (l.map fun p => p.2.2).sum
theorem yasy (p : Pt) (l : List Pt) : wSum (p :: l) = p.2.2 + wSum l := by simp [wSum]
theorem yayg (l m : List Pt) : wSum (l ++ m) = wSum l + wSum m := by simp [wSum]
def cntB (x1 x2 y1 y2 : Int) (l : List Pt) : Int := ((l.filter (inB x1 x2 y1 y2)).length : Int)
def sumB (x1 x2 y1 y2 : Int) (l : List Pt) : Int := wSum (l.filter (inB x1 x2 y1 y2))
section
variable {x1 x2 y1 y2 : Int}
theorem yawo (l m : List Pt) : cntB x1 x2 y1 y2 (l ++ m) = cntB x1 x2 y1 y2 l + cntB x1 x2 y1 y2 m := by unfold cntB; rw [List.filter_append, List.length_append]; push_cast; rfl
theorem yaym (l m : List Pt) : sumB x1 x2 y1 y2 (l ++ m) = sumB x1 x2 y1 y2 l + sumB x1 x2 y1 y2 m := by unfold sumB; rw [List.filter_append, yayg]
end
section
variable {y1 y2 : Int}
end
def ptLt (p q : Pt) : Prop := p.1 < q.1 ∨ (p.1 = q.1 ∧ p.2.1 < q.2.1)
instance (p q : Pt) : Decidable (ptLt p q) := inferInstanceAs (Decidable (_ ∨ _))
theorem yasj {p q r : Pt} (h : ptLt p q) (h' : ptLt q r) : ptLt p r := by unfold ptLt at *; omega
def PtsS (l : List Pt) : Prop := l.Pairwise ptLt
def place (p : Pt) : Int × Int := (p.1, p.2.1)
end Go.Sx
namespace Go.Proofs.YtllhdhpjgihjfaaGreatDoor
open Go Go.Sx
abbrev dPt : Pt := (0, 0, 0)
abbrev row3 (p : Pt) : List Int := [p.1, p.2.1, p.2.2]
abbrev WOk (l : List Pt) : Prop := ∀ x ∈ l, -1048576 ≤ x.2.2 ∧ x.2.2 ≤ 1048576
theorem yaoz {l : List Pt} {i : Nat} (h : i < l.length) : l.take (i + 1) = l.take i ++ [l.getD i dPt] := by
  rw [List.take_succ_eq_append_getElem h, yaaf h]
theorem yatg (x1 x2 y1 y2 : Int) (p : Pt) (l : List Pt) : cntB x1 x2 y1 y2 (p :: l) = (if inB x1 x2 y1 y2 p = true then 1 else 0) + cntB x1 x2 y1 y2 l := by
  unfold cntB
  rw [List.filter_cons]
  split
  · rw [List.length_cons]; push_cast; omega
  · omega
theorem yamh (x1 x2 y1 y2 : Int) (p : Pt) (l : List Pt) : sumB x1 x2 y1 y2 (p :: l) = (if inB x1 x2 y1 y2 p = true then p.2.2 else 0) + sumB x1 x2 y1 y2 l := by
  unfold sumB
  rw [List.filter_cons]
  split
  · rw [yasy]
  · omega
theorem yara {a b y1 y2 : Int} {l : List Pt} (hw : WOk l) : -(1048576 * (l.length : Int)) ≤ sumB a b y1 y2 l ∧ sumB a b y1 y2 l ≤ 1048576 * (l.length : Int) := by
  induction l with
  | nil => exact ⟨Int.le_refl _, Int.le_refl _⟩
  | cons p l ih =>
    have := ih fun x hx => hw x (List.mem_cons_of_mem _ hx)
    have := hw p (List.mem_cons_self ..)
    rw [yamh, List.length_cons]
    push_cast
    split <;> omega
def posP (l : List Pt) (x y : Int) : Nat := (l.takeWhile fun q => decide (ptLt q (x, y, 0))).length
def yaki (l : List Pt) (x y : Int) : Prop := posP l x y < l.length ∧ (l.getD (posP l x y) dPt).1 = x ∧ (l.getD (posP l x y) dPt).2.1 = y
instance (l : List Pt) (x y : Int) : Decidable (yaki l x y) := inferInstanceAs (Decidable (_ ∧ _))
def ptsS (l : List Pt) (c : Int) (zs : List Int) : List Pt × Int × Int :=
  if c = 5 then (l, 0, (l.length : Int)) else if c = 3 then (l, 0, cntB (zs.getD 0 0) (zs.getD 1 0) (zs.getD 2 0) (zs.getD 3 0) l) else if c = 4 then (l, 0, sumB (zs.getD 0 0) (zs.getD 1 0) (zs.getD 2 0) (zs.getD 3 0) l)
  else if c = 1 then (if yaki l (zs.getD 0 0) (zs.getD 1 0) then (l, 15, 0) else if l.length = 500 then (l, 4, 0) else (l.take (posP l (zs.getD 0 0) (zs.getD 1 0)) ++ (zs.getD 0 0, zs.getD 1 0, zs.getD 2 0) :: l.drop (posP l (zs.getD 0 0) (zs.getD 1 0)), 0, 0))
  else (if yaki l (zs.getD 0 0) (zs.getD 1 0) then (cutL l (posP l (zs.getD 0 0) (zs.getD 1 0)), 0, (l.getD (posP l (zs.getD 0 0) (zs.getD 1 0)) dPt).2.2) else (l, 12, 0))
theorem yaxc {l : List Pt} {p : Pt} (so : PtsS l) : ∀ x ∈ l.dropWhile (fun q => decide (ptLt q p)), ¬ ptLt x p := by
  induction l with
  | nil => intro x hx; cases hx
  | cons a l ih =>
    have h := List.pairwise_cons.1 so
    intro x hx
    rw [List.dropWhile_cons] at hx
    by_cases ha : ptLt a p
    · rw [if_pos (decide_eq_true ha)] at hx; exact ih h.2 x hx
    · rw [if_neg (by simpa using ha)] at hx
      rcases List.mem_cons.1 hx with rfl | hx
      · exact ha
      · have := h.1 x hx
        unfold ptLt at *; omega
theorem yazw {l : List Pt} (so : PtsS l) (x y : Int) : posP l x y ≤ l.length ∧ (∀ j, j < posP l x y → ptLt (l.getD j dPt) (x, y, 0)) ∧ ∀ j, posP l x y ≤ j → j < l.length → ¬ ptLt (l.getD j dPt) (x, y, 0) := by
  unfold posP
  have e := (List.takeWhile_append_dropWhile (p := fun q : Pt => decide (ptLt q (x, y, 0))) (l := l)).symm
  have hD := yaxc (p := (x, y, 0)) so
  have hT : ∀ z ∈ l.takeWhile (fun q => decide (ptLt q (x, y, 0))), ptLt z (x, y, 0) := fun z hz => of_decide_eq_true (List.all_eq_true.1 (List.all_takeWhile (p := fun q : Pt => decide (ptLt q (x, y, 0))) (l := l)) z hz)
  generalize l.takeWhile (fun q => decide (ptLt q (x, y, 0))) = T at *
  generalize l.dropWhile (fun q => decide (ptLt q (x, y, 0))) = D at *
  subst e
  refine ⟨by rw [List.length_append]; omega, fun j hj => ?_, fun j hj hjl => ?_⟩
  · rw [yaaf (by rw [List.length_append]; omega), List.getElem_append_left hj]
    exact hT _ (List.getElem_mem hj)
  · rw [yaaf hjl, List.getElem_append_right hj]
    exact hD _ (List.getElem_mem _)
theorem yapo {l : List Pt} {i : Nat} (h : i < l.length) : (l.map row3).getD i [] = row3 (l.getD i dPt) := by
  rw [List.getD_eq_getElem?_getD, List.getElem?_map, List.getElem?_eq_getElem h, List.getD_eq_getElem?_getD, List.getElem?_eq_getElem h]; rfl
theorem cmpK3 {l : List Pt} {x y : Int} {j : Nat} (hj : j < l.length) : cmpK (l.map row3) [x, y] j = if (l.getD j dPt).1 < x then -1 else if x < (l.getD j dPt).1 then 1 else if (l.getD j dPt).2.1 < y then -1 else if y < (l.getD j dPt).2.1 then 1 else 0 := by
  rw [cmpK, yapo hj]
  rfl
theorem yais {l : List Pt} {x y : Int} {j : Nat} (hj : j < l.length) : (cmpK (l.map row3) [x, y] j < 0 ↔ ptLt (l.getD j dPt) (x, y, 0)) ∧ (cmpK (l.map row3) [x, y] j = 0 ↔ (l.getD j dPt).1 = x ∧ (l.getD j dPt).2.1 = y) := by
  rw [cmpK3 hj]
  generalize l.getD j dPt = z
  unfold ptLt
  show _ ∧ _
  by_cases h1 : z.1 < x
  · rw [if_pos h1]; constructor <;> constructor <;> intro h <;> first | omega | (dsimp only at *; omega)
  · rw [if_neg h1]
    by_cases h2 : x < z.1
    · rw [if_pos h2]; constructor <;> constructor <;> intro h <;> first | omega | (dsimp only at *; omega)
    · rw [if_neg h2]
      by_cases h3 : z.2.1 < y
      · rw [if_pos h3]; constructor <;> constructor <;> intro h <;> first | omega | (dsimp only at *; omega)
      · rw [if_neg h3]
        by_cases h4 : y < z.2.1
        · rw [if_pos h4]; constructor <;> constructor <;> intro h <;> first | omega | (dsimp only at *; omega)
        · rw [if_neg h4]; constructor <;> constructor <;> intro h <;> first | omega | (dsimp only at *; omega)
theorem take2 {zs : List Int} (h : 2 ≤ zs.length) : zs.take 2 = [zs.getD 0 0, zs.getD 1 0] := by
  match zs, h with
  | _ :: _ :: _, _ => rfl
theorem list3 {zs : List Int} (h : zs.length = 3) : zs = [zs.getD 0 0, zs.getD 1 0, zs.getD 2 0] := by
  match zs, h with
  | [_, _, _], _ => rfl
section
variable {h0 h : Hp} {b1 b2 : Nat} {l : List Pt} {p q : OA} {n c m cc : Nat} {code : Int} {zs : List Int} {B G : Bag}
abbrev MPtsP (h0 : Hp) (G : Bag) (l : List Pt) (c : Int) (zs : List Int) : VK := yafm h0 G ((ptsS l c zs).1.map row3) (ptsS l c zs).2.1 (ptsS l c zs).2.2
theorem yazr {h0 h : Hp} {l : List Pt} {p : OA} {n c : Nat} {B G : Bag} {i : Int} {i' : Nat} {Q : OA → Nat → Nat → Prop} (na : RowsA (p, n, c) (l.map row3) B) (s : St h0 h (B + G)) (ei : i = (i' : Int)) (hi : i' < n) (hl : l.length = n)
    (hq : ∀ a C, RdT TI h a 3 (row3 (l.getD i' dPt)) → Q a 3 C) : (0 ≤ i ∧ i < (n : Int)) ∧ NN p fun a1 => ∃ a2 L1 C1, cell h (a1.add (Int.toNat i * 1)) = some (.slice a2 L1 C1) ∧ Q a2 L1 C1 := by
  subst ei
  refine Nest.at_ (d := []) na s (by omega) (by show (i' : Int) < n; omega) fun a L C Bi Br o hB => ?_
  rw [Int.toNat_natCast, yapo (by omega)] at o
  have o : Sl TI a L C (row3 (l.getD i' dPt)) Bi := o
  have st2 : St h0 h (Bi + (Br + G)) := by rw [hB] at s; exact s.to
  have hL := o.len
  obtain rfl : L = 3 := by rw [← hL]; rfl
  exact hq a C (o.rd st2)
theorem yase {h0 h : Hp} {b1 b2 : Nat} {l : List Pt} {p q : OA} {n c cc : Nat} {z0 z1 z2 z3 : Int} {B G : Bag} {i : Nat} {K : VK} {nx0 : Int × Int × Int × Unit → Hp → Prop} (hw : WOk l) (na : RowsA (p, n, c) (l.map row3) B) (s : St h0 h (B + G)) (hl : l.length = n) (hn : n ≤ 1000)
    (r : RdT TI h q 4 [z0, z1, z2, z3]) (c1 : cell h ((⟨b1, 0, none⟩ : Addr).add 1) = some (.slice q 4 cc)) (hi : i < n)
    (hnx : nx0 (cntB z0 z1 z2 z3 (l.take (i + 1)), sumB z0 z1 z2 z3 (l.take (i + 1)), (i : Int) + 1, ()) h) :
    zbw_b2 (cntB z0 z1 z2 z3 (l.take i)) (sumB z0 z1 z2 z3 (l.take i)) i p n c (some ⟨b1, 0, none⟩) (some ⟨b2, 0, none⟩) p n c n h nx0 K := by
  have hil : i < l.length := by omega
  have htk := yaoz hil
  have e1 : cntB z0 z1 z2 z3 (l.take (i + 1)) = cntB z0 z1 z2 z3 (l.take i) + (if inB z0 z1 z2 z3 (l.getD i dPt) = true then 1 else 0) := by
    rw [htk, yawo, yatg]; show _ + (_ + 0) = _; rw [Int.add_zero]
  have e2 : sumB z0 z1 z2 z3 (l.take (i + 1)) = sumB z0 z1 z2 z3 (l.take i) + (if inB z0 z1 z2 z3 (l.getD i dPt) = true then (l.getD i dPt).2.2 else 0) := by
    rw [htk, yaym, yamh]; show _ + (_ + 0) = _; rw [Int.add_zero]
  have hb1 := yara (a := z0) (b := z1) (y1 := z2) (y2 := z3) (l := l.take i) fun x hx => hw x (List.mem_of_mem_take hx)
  have hb2 : 0 ≤ cntB z0 z1 z2 z3 (l.take i) ∧ cntB z0 z1 z2 z3 (l.take i) ≤ i := by
    unfold cntB
    have := List.length_filter_le (inB z0 z1 z2 z3) (l.take i)
    rw [List.length_take] at this
    omega
  rw [List.length_take, Nat.min_eq_left (by omega)] at hb1
  have hwi := hw (l.getD i dPt) (by rw [yaaf hil]; exact List.getElem_mem _)
  obtain ⟨z, hz⟩ : ∃ z, l.getD i dPt = z := ⟨_, rfl⟩
  rw [hz] at e1 e2 hwi
  rw [zbw_b2]
  have no : ¬ (z0 ≤ z.1 ∧ z.1 ≤ z1 ∧ z2 ≤ z.2.1 ∧ z.2.1 ≤ z3) → zbw_b4 p n c (some ⟨b1, 0, none⟩) (some ⟨b2, 0, none⟩) (cntB z0 z1 z2 z3 (l.take i)) (sumB z0 z1 z2 z3 (l.take i)) p n c n i h nx0 K := fun hno => by
    have hf : ¬ inB z0 z1 z2 z3 z = true := by unfold inB; rw [decide_eq_true_eq]; exact hno
    rw [if_neg hf, Int.add_zero] at e1 e2
    rw [e1, e2] at hnx
    rw [zbw_b4]
    exact ⟨⟨by omega, by omega⟩, hnx⟩
  refine yaax (decide_eq_true (by omega)) (yazr na s rfl hi hl fun a C rz => ?_)
  rw [hz] at rz
  refine ⟨q, 4, cc, c1, ldI (i' := 0) r rfl (by decide) (ldI (i' := 0) rz rfl (by decide) (condP (fun g1 => ?_) (fun g => no fun h => g h.1)))⟩
  refine ldI (i' := 0) rz rfl (by decide) ⟨q, 4, cc, c1, ldI (i' := 1) r rfl (by decide) (condP (fun g2 => ?_) (fun g => no fun h => g h.2.1))⟩
  refine ⟨q, 4, cc, c1, ldI (i' := 2) r rfl (by decide) (ldI (i' := 1) rz rfl (by decide) (condP (fun g3 => ?_) (fun g => no fun h => g h.2.2.1)))⟩
  refine ldI (i' := 1) rz rfl (by decide) ⟨q, 4, cc, c1, ldI (i' := 3) r rfl (by decide) (condP (fun g4 => ?_) (fun g => no fun h => g h.2.2.2))⟩
  have hf : inB z0 z1 z2 z3 z = true := by unfold inB; rw [decide_eq_true_eq]; exact ⟨g1, g2, g3, g4⟩
  rw [if_pos hf] at e1 e2
  rw [e1, e2] at hnx
  refine ⟨⟨by omega, by omega⟩, ldI (i' := 2) rz rfl (by decide) ⟨⟨?_, ?_⟩, ?_⟩⟩
  · show _ ≤ _ + z.2.2; omega
  · show _ + z.2.2 ≤ _; omega
  · rw [zbw_b4]
    exact ⟨⟨by omega, by omega⟩, hnx⟩
theorem yapz (so : PtsS l) (na : RowsA (p, n, c) (l.map row3) B) (hrz : RdT TI h q m zs) (hmc : m ≤ cc) (s2 : St h0 h (cA b2 [.int .i64 0, .int .i64 0, .slice none 0 0] 58 + (cA b1 [.int .i64 code, .slice q m cc] 50 + (B + G)))) (hn : n ≤ 1000) (hl : l.length = n) (h12 : code = 1 ∨ code = 2) (hz1 : code = 1 → zs.length = 3) (hz2 : code = 2 → zs.length = 2) :
    zbw_b3 p n c (some ⟨b1, 0, none⟩) (some ⟨b2, 0, none⟩) h (MPtsP h0 G l code zs) := by
  have kb1 := s2.atomBlk
  have hzl := hrz.len
  have sB := s2.to (B := B + (cA b2 [.int .i64 0, .int .i64 0, .slice none 0 0] 58 + (cA b1 [.int .i64 code, .slice q m cc] 50 + G)))
  have hm2 : 2 ≤ m := by rcases h12 with h | h
                         · have := hz1 h; omega
                         · have := hz2 h; omega
  have rk := hrz.take (i := 2) hm2
  obtain ⟨x, hx⟩ : ∃ x, zs.getD 0 0 = x := ⟨_, rfl⟩
  obtain ⟨y, hy⟩ : ∃ y, zs.getD 1 0 = y := ⟨_, rfl⟩
  rw [take2 (by omega), hx, hy] at rk
  obtain ⟨w, hwz⟩ : ∃ w, zs.getD 2 0 = w := ⟨_, rfl⟩
  obtain ⟨f1, f2, f3⟩ := yazw so x y
  have e : ptsS l code zs = (if code = 1 then (if yaki l x y then (l, 15, 0) else if l.length = 500 then (l, 4, 0) else (l.take (posP l x y) ++ (x, y, w) :: l.drop (posP l x y), 0, 0)) else (if yaki l x y then (cutL l (posP l x y), 0, (l.getD (posP l x y) dPt).2.2) else (l, 12, 0))) := by
    subst hx hy hwz
    unfold ptsS
    rw [if_neg (by omega), if_neg (by omega), if_neg (by omega)]
  have ht : yaki l x y = (posP l x y < l.length ∧ (l.getD (posP l x y) dPt).1 = x ∧ (l.getD (posP l x y) dPt).2.1 = y) := rfl
  generalize posP l x y = t at *
  rw [MPtsP, e, zbw_b3]
  refine ⟨_, _, _, Blk.cellA kb1 1, ⟨by omega, by omega, by omega⟩, ?_⟩
  rw [show Int.toNat (0 : Int) = 0 from rfl, show Int.toNat (2 : Int) = 2 from rfl, yaej, Nat.sub_zero]
  refine (yapj (t := t) na sB rk (by omega) (fun r hr => by obtain ⟨e, _, rfl⟩ := List.mem_map.1 hr; exact ⟨show 2 ≤ 3 by decide, show 3 ≤ 1000000 by decide⟩) ⟨by omega, fun j h1 => (yais (by omega)).1.2 (f2 j h1), fun j h1 h2 => Int.not_lt.1 fun hc => f3 j h1 (by omega) ((yais (by omega)).1.1 hc)⟩).mono fun v h5 ⟨hv, hh⟩ => ⟨_, _, hv, ?_⟩
  subst hh
  have hd : decide (t < n ∧ cmpK (l.map row3) [x, y] t = 0) = decide (yaki l x y) := by
    refine decide_eq_decide.2 ?_
    rw [ht]
    constructor
    · rintro ⟨h1, h2⟩; exact ⟨by omega, (yais (by omega)).2.1 h2⟩
    · rintro ⟨h1, h2⟩; exact ⟨by omega, (yais (by omega)).2.2 h2⟩
  rw [hd]
  refine ⟨_, kb1.cell 0, condP (fun hc1 => ?_) (fun hc1 => ?_)⟩
  · rw [if_pos hc1]
    refine condP (fun hm => ?_) (fun hm => condP (fun hf => ?_) (fun hf => ?_))
    · rw [if_pos hm]
      exact mboxT na s2 (yaar _ _)
    · rw [if_neg hm, if_pos (by omega)]
      exact mboxT na s2 (yaar _ _)
    rw [if_neg hm, if_neg (by omega), zbw_b6]
    refine ⟨_, _, _, Blk.cellA kb1 1, (yaeq hrz (by have := hz1 hc1; omega)).mono fun v6 h6 ⟨q6, d6, A6, hv6, o6, t6⟩ => ⟨_, _, _, hv6, ?_⟩⟩
    have s6 := s2.join t6
    refine s6.new (cs := [.slice q6 m d6]) fun b3 h7 x7 s7 => ?_
    have s7 := s7.to (B := cA b3 [.slice q6 m d6] 29 + (B + (A6 + (cA b2 [.int .i64 0, .int .i64 0, .slice none 0 0] 58 + (cA b1 [.int .i64 code, .slice q m cc] 50 + G)))))
    refine (yafw (i := t) na o6 s7 (by omega) (by omega)).mono fun v8 h8 ⟨q', d', B', hv8, na', s8⟩ => ⟨_, _, _, hv8, ?_⟩
    have hrow : (l.map row3).take t ++ zs :: (l.map row3).drop t = (l.take t ++ (x, y, w) :: l.drop t).map row3 := by
      rw [← List.map_take, ← List.map_drop, List.map_append, List.map_cons]
      congr 2
      rw [list3 (hz1 hc1), hx, hy, hwz]
    rw [hrow] at na'
    exact mboxT na' (s8.to (B := cA b2 [.int .i64 0, .int .i64 0, .slice none 0 0] 58 + (cA b1 [.int .i64 code, .slice q m cc] 50 + (B' + G)))) (yaal _ _)
  · rw [if_neg hc1]
    refine condN (fun hm => ?_) (fun hm => ?_)
    · rw [if_neg hm]
      exact mboxT na s2 (yaar _ _)
    rw [if_pos hm]
    have g1 : t < l.length := by rw [ht] at hm; exact hm.1
    refine yazr na sB rfl (by omega) hl fun a C rz => ldI (i' := 2) rz rfl (by decide) ⟨⟨by omega, by omega⟩, ?_⟩
    refine (yaer (i := t) na sB (by omega) rfl (by omega)).mono fun v h' ⟨B', hv, na', s'⟩ => ⟨_, _, _, hv, ?_⟩
    have hrow : (l.map row3).take t ++ (l.map row3).drop (t + 1) = (cutL l t).map row3 := by
      rw [← List.map_take, ← List.map_drop, ← List.map_append]; rfl
    rw [hrow] at na'
    exact mboxT na' (s'.to (B := cA b2 [.int .i64 0, .int .i64 0, .slice none 0 0] 58 + (cA b1 [.int .i64 code, .slice q m cc] 50 + (B' + G)))) (yaal _ _)
theorem yaqv (so : PtsS l) (hw : WOk l) (na : RowsA (p, n, c) (l.map row3) B) (rz : RdS h0 G TI q m zs) (hmc : m ≤ cc) (s : St h0 h (B + G)) (hn : n ≤ 1000) (hc : 1 ≤ code ∧ code ≤ 5) (hz1 : code = 1 → zs.length = 3) (hz2 : code = 2 → zs.length = 2) (hz4 : code = 3 ∨ code = 4 → zs.length = 4) :
    yaah Tryz.prog 96 #[.slice p n c, .agg #[.int .i64 code, .slice q m cc]] h (MPtsP h0 G l code zs) := by
  have hl : (l.map row3).length = n := yabh na
  rw [List.length_map] at hl
  refine zbw_call ?_
  rw [zbw_b0]
  refine s.new (cs := [.int .i64 code, .slice q m cc]) fun b1 h3 _ s1 => ?_
  refine s1.new (cs := [.int .i64 0, .int .i64 0, .slice none 0 0]) fun b2 h4 _ s2 => ?_
  have s2 : St h0 h4 (cA b2 [.int .i64 0, .int .i64 0, .slice none 0 0] 58 + (cA b1 [.int .i64 code, .slice q m cc] 50 + (B + G))) := s2
  have kb1 := s2.atomBlk
  have hrz : RdT TI h4 q m zs := rz h4 (cA b2 [.int .i64 0, .int .i64 0, .slice none 0 0] 58 + (cA b1 [.int .i64 code, .slice q m cc] 50 + B)) s2.to
  have hzl := hrz.len
  have sB := s2.to (B := B + (cA b2 [.int .i64 0, .int .i64 0, .slice none 0 0] 58 + (cA b1 [.int .i64 code, .slice q m cc] 50 + G)))
  refine ⟨_, kb1.cell 0, condP (fun h8 => ?_) (fun h8 => ?_)⟩
  · have e : ptsS l code zs = (l, 0, (l.length : Int)) := by subst h8; rfl
    rw [MPtsP, e, hl]
    exact mboxT na s2 (yaal _ _)
  have loop : code = 3 ∨ code = 4 → zbw_b1 p n c (some ⟨b1, 0, none⟩) (some ⟨b2, 0, none⟩) true h4 (MPtsP h0 G l code zs) := fun h34 => by
    have hz4 := hz4 h34
    obtain ⟨z0, z1, z2, z3, hz⟩ : ∃ z0 z1 z2 z3, zs = [z0, z1, z2, z3] := by match zs, hz4 with | [a, b, c, d], _ => exact ⟨_, _, _, _, rfl⟩
    subst hz
    obtain rfl : m = 4 := by rw [← hzl]; rfl
    rw [zbw_b1]
    refine yaax rfl ⟨fun x h' => h' = h4 ∧ ∃ i : Nat, x.2.2.1 = i ∧ i ≤ n ∧ x.1 = cntB z0 z1 z2 z3 (l.take i) ∧ x.2.1 = sumB z0 z1 z2 z3 (l.take i), fun x _ => n - x.2.2.1.toNat, ⟨rfl, 0, rfl, by omega, rfl, rfl⟩, ?_⟩
    rintro ⟨_, _, _, _⟩ h5 ⟨rfl, i, rfl, hi, rfl, rfl⟩
    dsimp only
    rcases Nat.lt_or_ge i n with hlt | hge
    · exact yase hw na sB hl hn hrz (Blk.cellA kb1 1) hlt ⟨⟨rfl, i + 1, by push_cast; rfl, by omega, rfl, rfl⟩, by dsimp only; omega⟩
    · obtain rfl : i = n := by omega
      rw [zbw_b2]
      refine yaau (decide_eq_false (by omega)) ?_
      rw [List.take_of_length_le (by omega), zbw_b5]
      refine ⟨_, kb1.cell 0, condP (fun h3 => ?_) (fun h3 => ?_)⟩
      · have e : ptsS l code [z0, z1, z2, z3] = (l, 0, cntB z0 z1 z2 z3 l) := by subst h3; rfl
        rw [MPtsP, e]
        exact mboxT na s2 (yaal _ _)
      · have h4' : code = 4 := by omega
        have e : ptsS l code [z0, z1, z2, z3] = (l, 0, sumB z0 z1 z2 z3 l) := by subst h4'; rfl
        rw [MPtsP, e]
        exact mboxT na s2 (yaal _ _)
  refine condP (fun h3 => ?_) (fun h3 => ?_)
  · rw [decide_eq_true h3]; exact loop (.inl h3)
  by_cases h4' : code = 4
  · rw [decide_eq_true h4']; exact loop (.inr h4')
  rw [decide_eq_false h4', zbw_b1]
  refine yaau rfl ?_
  exact yapz so na hrz hmc s2 hn hl (by omega) hz1 hz2
end
def befL : List Int → List Int → Bool
  | x :: xs, y :: ys => if x = y then befL xs ys else decide (x < y)
  | _, _ => false
theorem yazj (z : Pt) (x y : Int) : befL [z.1, z.2.1] [x, y] = decide (ptLt z (x, y, 0)) := by
  unfold ptLt
  show (if z.1 = x then (if z.2.1 = y then false else decide (z.2.1 < y)) else decide (z.1 < x)) = _
  by_cases h1 : z.1 = x
  · rw [if_pos h1]
    by_cases h2 : z.2.1 = y
    · rw [if_pos h2]; symm; apply decide_eq_false; dsimp only; omega
    · rw [if_neg h2]; apply decide_eq_decide.2; dsimp only; omega
  · rw [if_neg h1]; apply decide_eq_decide.2; dsimp only; omega
section
variable {h0 h : Hp} {b1 b2 b3 b4 : Nat} {l : List Pt} {p q : OA} {n c m cc : Nat} {code : Int} {zs : List Int} {B G : Bag} {x0 x1 y0 y1 y2 : Value}
end
theorem yass {h : Hp} {p q : OA} {n m c d : Nat} {xs ys : List Int} (r1 : RdT TI h p n xs) (r2 : RdT TI h q m ys) (hn : n ≤ 1000000000) :
    yaah Tryz.prog 29 #[.slice p n c, .slice q m d] h (fun v h' => h' = h ∧ v = .bool (decide (xs = ys))) := by
  have l1 := r1.len
  have l2 := r2.len
  refine zaa_call ?_
  rw [zaa_b0]
  refine condN (fun hl => ?_) (fun hl => ?_)
  · exact ⟨rfl, by rw [decide_eq_false (fun h => hl (by subst h; omega))]⟩
  refine ⟨fun x h' => h' = h ∧ ∃ i : Nat, x.1 = i ∧ i ≤ n ∧ ∀ j, j < i → xs.getD j 0 = ys.getD j 0, fun x _ => n - x.1.toNat, ⟨rfl, 0, rfl, by omega, fun j hj => by omega⟩, ?_⟩
  rintro ⟨_, _⟩ h1 ⟨rfl, i, rfl, hin, heq⟩
  dsimp only
  rw [zaa_b1]
  refine condP (fun hlt => ?_) (fun hge => ?_)
  · refine r1.int (by omega) (by omega) (r2.int (by omega) (by omega) ?_)
    rw [Int.toNat_natCast]
    refine condN (fun hne => ?_) (fun he => ?_)
    · exact ⟨rfl, by rw [decide_eq_false (fun h => hne (by rw [h]))]⟩
    · rw [zaa_b2]
      refine ⟨⟨by omega, by omega⟩, ⟨rfl, i + 1, by simp only; omega, by omega, fun j hj => ?_⟩, by simp only; omega⟩
      rcases Nat.lt_or_ge j i with h | h
      · exact heq j h
      · obtain rfl : j = i := by omega
        exact he
  · rw [zaa_b3]
    refine ⟨rfl, ?_⟩
    rw [decide_eq_true]
    refine List.ext_getElem (by omega) fun j h1 h2 => ?_
    have := heq j (by omega)
    rwa [yaaf h1, yaaf h2] at this
def textR (l : List Int) : List (List Int) := if l = [] then [] else [l]
abbrev occA (l p : List Int) (i : Nat) : Prop := (l.drop i).take p.length = p
def posN (l p : List Int) (k : Nat) : List Nat := (List.range k).filter fun i => decide (occA l p i)
def yagu (l : List Nat) : Int := match l.head? with | none => -1 | some i => (i : Int)
def textS (l : List Int) (c : Int) (zs : List Int) : List Int × Int × Int :=
  if c = 4 then (l, 0, (l.length : Int)) else if c = 1 then (if 500 < l.length + zs.length then (l, 4, 0) else (l ++ zs, 0, 0))
  else if c = 2 then (l, 0, ((posN l zs l.length).length : Int)) else if yagu (posN l zs l.length) < 0 then (l, 12, 0) else (l, 0, yagu (posN l zs l.length))
theorem yail (l p : List Int) (k : Nat) : posN l p (k + 1) = posN l p k ++ (if occA l p k then [k] else []) := by
  unfold posN
  rw [List.range_succ, List.filter_append]
  congr 1
  by_cases h : occA l p k
  · rw [if_pos h, List.filter_cons, if_pos (decide_eq_true h)]; rfl
  · rw [if_neg h, List.filter_cons, if_neg (by rw [decide_eq_false h]; decide)]; rfl
theorem yaxu {l p : List Int} {k : Nat} : ∀ {k' : Nat}, k ≤ k' → (∀ i, k ≤ i → ¬ occA l p i) → posN l p k' = posN l p k
  | k', h, hn => by
    induction k' with
    | zero => rw [show k = 0 by omega]
    | succ k' ih =>
      rcases Nat.lt_or_ge k' k with hlt | hge
      · rw [show k = k' + 1 by omega]
      · rw [yail, if_neg (hn k' hge), List.append_nil, ih hge]
theorem yawf (l p : List Int) (k : Nat) : (posN l p k).length ≤ k := by
  unfold posN
  exact Nat.le_trans (List.length_filter_le _ _) (by rw [List.length_range]; omega)
theorem yatx (l : List Nat) (i : Nat) : yagu (l ++ [i]) = if yagu l < 0 then (i : Int) else yagu l := by
  cases l with
  | nil => rfl
  | cons a l => show (a : Int) = if (a : Int) < 0 then (i : Int) else (a : Int); rw [if_neg (by omega)]
theorem yazl {l p : List Int} {i : Nat} (hp : p ≠ []) (h : occA l p i) : i + p.length ≤ l.length := by
  have e := congrArg List.length h
  rw [List.length_take, List.length_drop] at e
  have : 0 < p.length := List.length_pos_iff.2 hp
  omega
section
variable {h0 h : Hp} {b1 b2 b3 b4 : Nat} {l : List Int} {p q : OA} {n c m cc : Nat} {code : Int} {zs : List Int} {B G : Bag} {x0 x1 y0 y1 y2 : Value}
abbrev yaow (h0 : Hp) (G : Bag) (l : List Int) (c : Int) (zs : List Int) : VK := yafm h0 G (textR (textS l c zs).1) (textS l c zs).2.1 (textS l c zs).2.2
theorem yasu (na : RowsA (p, n, c) (textR l) B) : (l = [] ∧ n = 0) ∨ (l ≠ [] ∧ n = 1) := by
  have hl := yabh na
  unfold textR at hl
  split at hl
  · exact .inl ⟨‹_›, hl.symm⟩
  · exact .inr ⟨‹_›, hl.symm⟩
theorem yapb {s0 : OA} {c0 : Nat} (na : RowsA (p, n, c) (textR l) B) (rl : RdT TI h s0 l.length l) (hc0 : l.length ≤ c0) (hrz : RdT TI h q m zs) (s : St h0 h (modA b1 b2 code q m cc y0 y1 y2 B G)) (hl : l.length ≤ 500) (hm : m ≤ 100) (hz : zs ≠ []) (hc : code = 2 ∨ code = 3) :
    zca_b2 p n c (some ⟨b1, 0, none⟩) (some ⟨b2, 0, none⟩) s0 l.length c0 h (yaow h0 G l code zs) := by
  have hzl := hrz.len
  have e : textS l code zs = (if code = 2 then (l, 0, ((posN l zs l.length).length : Int)) else if yagu (posN l zs l.length) < 0 then (l, 12, 0) else (l, 0, yagu (posN l zs l.length))) := by
    unfold textS; rw [if_neg (by omega), if_neg (by omega)]
  rw [yaow, e, zca_b2]
  delta modA at s
  refine ⟨fun x h' => h' = h ∧ ∃ i : Nat, x.2.2.1 = i ∧ i ≤ l.length ∧ x.2.1 = ((posN l zs i).length : Int) ∧ x.1 = yagu (posN l zs i), fun x _ => (l.length - x.2.2.1).toNat, ⟨rfl, 0, rfl, Nat.zero_le _, rfl, rfl⟩, ?_⟩
  rintro ⟨x, y, _, _⟩ h7 ⟨rfl, i, rfl, hi, hx, hy⟩
  dsimp only at hx hy ⊢
  subst hx hy
  have hb := yawf l zs i
  rw [zca_b3]
  refine ⟨_, _, _, s.ldB, ⟨by omega, by omega⟩, condP (fun hlt => ?_) (fun hge => ?_)⟩
  · have hzp : 0 < zs.length := List.length_pos_iff.2 hz
    refine ⟨_, _, _, s.ldB, ⟨by omega, by omega⟩, ⟨by omega, by omega, by omega⟩, _, _, _, s.ldB, decide (occA l zs i), ?_, ?_⟩
    · have ei : Int.toNat ((i : Int) + (m : Int)) - Int.toNat (i : Int) = m := by omega
      rw [ei, Int.toNat_natCast]
      refine (yass (((rl.sub hi hc0 rfl).take (i := m) (by omega))) hrz (by omega)).mono fun v h8 ⟨hh, hv⟩ => ⟨?_, hh⟩
      rw [hv, ← hzl]
    refine condP (fun ho => ?_) (fun ho => ?_)
    · have es := yail l zs i
      rw [if_pos ho] at es
      have ef : yagu (posN l zs (i + 1)) = if yagu (posN l zs i) < 0 then (i : Int) else yagu (posN l zs i) := by rw [es, yatx]
      have el : ((posN l zs (i + 1)).length : Int) = ((posN l zs i).length : Int) + 1 := by rw [es, List.length_append]; push_cast; rfl
      refine condP (fun hf => ?_) (fun hf => ?_)
      · rw [if_pos hf] at ef
        rw [zca_b4, zca_b5]
        exact ⟨⟨by omega, by omega⟩, ⟨by omega, by omega⟩, ⟨rfl, i + 1, by push_cast; rfl, by omega, el.symm, ef.symm⟩, by dsimp only; omega⟩
      · rw [if_neg hf] at ef
        rw [zca_b4, zca_b5]
        exact ⟨⟨by omega, by omega⟩, ⟨by omega, by omega⟩, ⟨rfl, i + 1, by push_cast; rfl, by omega, el.symm, ef.symm⟩, by dsimp only; omega⟩
    · have es := yail l zs i
      rw [if_neg ho, List.append_nil] at es
      rw [zca_b5]
      exact ⟨⟨by omega, by omega⟩, ⟨rfl, i + 1, by push_cast; rfl, by omega, by rw [es], by rw [es]⟩, by dsimp only; omega⟩
  · have ex : posN l zs l.length = posN l zs i := yaxu hi fun k hk ho => by have := yazl hz ho; omega
    rw [ex, zca_b6]
    refine ⟨_, s.ld0, condP (fun h2 => ?_) (fun h2 => condP (fun hf => ?_) (fun hf => ?_))⟩
    · rw [if_pos h2]; exact mboxT na s (yaal _ _)
    · rw [if_neg h2, if_pos hf]; exact mboxT na s (yaar _ _)
    · rw [if_neg h2, if_neg hf]; exact mboxT na s (yaal _ _)
theorem yahx {s0 : OA} {c0 : Nat} {Bi Br : Bag} (na : RowsA (p, n, c) (textR l) B) (hB : B = Bi + Br) (ol : Sl TI s0 l.length c0 l Bi) (hc0 : l.length ≤ c0) (hrz : RdT TI h q m zs) (s : St h0 h (modA b1 b2 code q m cc y0 y1 y2 B G)) (hl : l.length ≤ 500) (hm : m ≤ 100) (hz : code ≠ 4 → zs ≠ []) (hc : 1 ≤ code ∧ code ≤ 4) :
    zca_b1 p n c (some ⟨b1, 0, none⟩) (some ⟨b2, 0, none⟩) s0 l.length c0 h (yaow h0 G l code zs) := by
  have hzl := hrz.len
  have s' := s
  delta modA at s
  have sB := s
  rw [hB] at sB
  rw [zca_b1]
  refine ⟨_, s.ld0, condP (fun h4 => ?_) (fun h4 => condP (fun h1 => ?_) (fun h1 => ?_))⟩
  · have e : textS l code zs = (l, 0, (l.length : Int)) := by subst h4; rfl
    rw [yaow, e]
    exact mboxT na s (yaal _ _)
  · have e : textS l code zs = (if 500 < l.length + zs.length then (l, 4, 0) else (l ++ zs, 0, 0)) := by subst h1; rfl
    rw [yaow, e]
    refine ⟨_, _, _, s.ldB, ⟨by omega, by omega⟩, condP (fun hf => ?_) (fun hf => ?_)⟩
    · rw [if_pos (by omega)]; exact mboxT na s (yaar _ _)
    rw [if_neg (by omega)]
    refine ⟨_, _, _, s.ldB, ?_⟩
    have s2 : St h0 h (Bi + (cA b2 [y0, y1, y2] 58 + (cA b1 [.int .i64 code, .slice q m cc] 50 + (Br + G)))) := sB.to
    refine yacb yaku s2 ol hrz (by omega) fun p' c' h' A' o' s => s.new (cs := [_]) fun b5 h8 _ s => ?_
    have s : St h0 h8 (Br + (cA b2 [y0, y1, y2] 58 + (cA b1 [.int .i64 code, .slice q m cc] 50 + ((cA b5 [.slice p' (l.length + m) c'] 29 + A') + G)))) := s.to
    have s := s.drop
    have na' : RowsA (some ⟨b5, 0, none⟩, 1, 1) (textR (l ++ zs)) (cA b5 [.slice p' (l.length + m) c'] 29 + A') := by
      unfold textR
      rw [if_neg (by have := hz h4; simp [this])]
      exact ⟨[(p', l.length + m, c')], cA b5 [.slice p' (l.length + m) c'] 29, A', rfl, Sl.of_blk (T := TR) (xs := [(p', l.length + m, c')]) rfl rfl, AllH.one o'⟩
    exact mboxT (b2 := b2) (D := cA b1 [.int .i64 code, .slice q m cc] 50) na' s (yaal _ _)
  · exact yapb na (ol.rd (sB.at Bi)) hc0 hrz s' hl hm (hz h4) (by omega)
theorem yaxj (na : RowsA (p, n, c) (textR l) B) (rz : RdS h0 G TI q m zs) (s : St h0 h (B + G)) (hl : l.length ≤ 500) (hm : m ≤ 100) (hz : code ≠ 4 → zs ≠ []) (hc : 1 ≤ code ∧ code ≤ 4) :
    yaah Tryz.prog 97 #[.slice p n c, .agg #[.int .i64 code, .slice q m cc]] h (yaow h0 G l code zs) := by
  refine zca_call ?_
  rw [zca_b0]
  refine s.new (cs := [_, _]) fun b1 h3 _ s => s.new (cs := [_, _, _]) fun b2 h4 _ s => ?_
  have hrz : RdT TI h4 q m zs := rz h4 (cA b2 [.int .i64 0, .int .i64 0, .slice none 0 0] 58 + (cA b1 [.int .i64 code, .slice q m cc] 50 + B)) s.to
  have s' : St h0 h4 (modA b1 b2 code q m cc (.int .i64 0) (.int .i64 0) (.slice none 0 0) B G) := by delta modA; exact s
  rcases yasu na with ⟨hl0, hn⟩ | ⟨hl0, hn⟩
  · subst hl0 hn
    exact yaau rfl (yahx (Bi := 0) (Br := B) na (by rw [Bag.zero_add]) Sl.nil (Nat.le_refl _) hrz s' hl hm hz hc)
  · subst hn
    refine yaax rfl (yaev na (s.at B) (by omega) (by omega) fun q' l' d' Bi Br o hB _ => ?_)
    have er : (textR l).getD (Int.toNat (0 : Int)) [] = l := by unfold textR; rw [if_neg hl0]; rfl
    rw [er] at o
    have ol : l.length = l' := o.len
    subst ol
    exact yahx na hB o o.cap hrz s' hl hm hz hc
end
theorem opv2 {c : Int} {zs : List Int} (h : OpV 2 c zs) : (1 ≤ c ∧ c ≤ 4) ∧ (c = 1 → zs.length = 1) ∧ ∀ z ∈ zs, KeyP z := by
  obtain ⟨h1, h2⟩ := h
  have e8 : (arT 2).length = 4 := rfl
  rw [e8] at h1
  have hc : c = 1 ∨ c = 2 ∨ c = 3 ∨ c = 4 := by omega
  have h3 : (c = 1 → zs.length = 1) ∧ ∀ z ∈ zs, KeyP z := by
    rcases hc with rfl | rfl | rfl | rfl <;> (have h2 : (zs.length : Int) = _ ∧ ∀ z ∈ zs, KeyP z := h2; refine ⟨fun h => ?_, h2.2⟩; have h3 := h2.1; first | omega | (exact absurd h (by decide)) | (have h4 : (zs.length : Int) = 1 := h3; omega))
  exact ⟨by omega, h3.1, h3.2⟩
theorem opv3 {c : Int} {zs : List Int} (h : OpV 3 c zs) : (1 ≤ c ∧ c ≤ 7) ∧ (c ≠ 7 → 1 ≤ zs.length) ∧ (c = 1 ∨ (4 ≤ c ∧ c ≤ 6) → 2 ≤ zs.length) ∧ ∀ z ∈ zs, KeyP z := by
  obtain ⟨h1, h2⟩ := h
  have e8 : (arT 3).length = 7 := rfl
  rw [e8] at h1
  have hc : c = 1 ∨ c = 2 ∨ c = 3 ∨ c = 4 ∨ c = 5 ∨ c = 6 ∨ c = 7 := by omega
  have e : (arT 3).getD (c - 1).toNat 0 = if c = 7 then 0 else if c = 2 then 1 else if c = 3 then 1 else 2 := by
    rcases hc with rfl | rfl | rfl | rfl | rfl | rfl | rfl <;> rfl
  rw [e] at h2
  have hneg : ¬ (if c = 7 then (0 : Int) else if c = 2 then 1 else if c = 3 then 1 else 2) < 0 := by
    rcases hc with rfl | rfl | rfl | rfl | rfl | rfl | rfl <;> decide
  rw [if_neg hneg] at h2
  obtain ⟨h2, h3⟩ := h2
  refine ⟨by omega, fun h => ?_, fun h => ?_, h3⟩
  · rw [if_neg h] at h2; split at h2
    · omega
    · split at h2 <;> omega
  · rw [if_neg (by omega), if_neg (by omega), if_neg (by omega)] at h2; omega
theorem opv4 {c : Int} {zs : List Int} (h : OpV 4 c zs) : (1 ≤ c ∧ c ≤ 5) ∧ (c = 4 → zs.length = 1) ∧ (c = 2 ∨ c = 3 → zs.length = 2) := by
  obtain ⟨h1, h2⟩ := h
  have e8 : (arT 4).length = 5 := rfl
  rw [e8] at h1
  have hc : c = 1 ∨ c = 2 ∨ c = 3 ∨ c = 4 ∨ c = 5 := by omega
  have e : (arT 4).getD (c - 1).toNat 0 = if c = 4 then 1 else if c = 2 then 2 else if c = 3 then 2 else 0 := by
    rcases hc with rfl | rfl | rfl | rfl | rfl <;> rfl
  rw [e] at h2
  have hneg : ¬ (if c = 4 then (1 : Int) else if c = 2 then 2 else if c = 3 then 2 else 0) < 0 := by
    rcases hc with rfl | rfl | rfl | rfl | rfl <;> decide
  rw [if_neg hneg] at h2
  obtain ⟨h2, h3⟩ := h2
  refine ⟨by omega, fun h => ?_, fun h => ?_⟩
  · rw [if_pos h] at h2; omega
  · rw [if_neg (by omega)] at h2; split at h2
    · omega
    · rw [if_pos (by omega)] at h2; omega
theorem opv5 {c : Int} {zs : List Int} (h : OpV 5 c zs) : (1 ≤ c ∧ c ≤ 5) ∧ (c = 1 → zs.length = 3) ∧ (c = 2 → zs.length = 2) ∧ (c = 3 ∨ c = 4 → zs.length = 4) ∧ ∀ z ∈ zs, KeyP z := by
  obtain ⟨h1, h2⟩ := h
  have e8 : (arT 5).length = 5 := rfl
  rw [e8] at h1
  have hc : c = 1 ∨ c = 2 ∨ c = 3 ∨ c = 4 ∨ c = 5 := by omega
  have e : (arT 5).getD (c - 1).toNat 0 = if c = 1 then 3 else if c = 2 then 2 else if c = 5 then 0 else 4 := by
    rcases hc with rfl | rfl | rfl | rfl | rfl <;> rfl
  rw [e] at h2
  have hneg : ¬ (if c = 1 then (3 : Int) else if c = 2 then 2 else if c = 5 then 0 else 4) < 0 := by
    rcases hc with rfl | rfl | rfl | rfl | rfl <;> decide
  rw [if_neg hneg] at h2
  obtain ⟨h2, h3⟩ := h2
  refine ⟨by omega, fun h => ?_, fun h => ?_, fun h => ?_, h3⟩
  · rw [if_pos h] at h2; omega
  · rw [if_neg (by omega), if_pos h] at h2; omega
  · rw [if_neg (by omega), if_neg (by omega), if_neg (by omega)] at h2; omega
theorem opv6 {c : Int} {zs : List Int} (h : OpV 6 c zs) : (1 ≤ c ∧ c ≤ 4) ∧ (c ≠ 4 → zs ≠ []) ∧ zs.length ≤ 64 ∧ (c ≠ 4 → ∀ z ∈ zs, ChP z) := by
  obtain ⟨h1, h2⟩ := h
  have e8 : (arT 6).length = 4 := rfl
  rw [e8] at h1
  have hc : c = 1 ∨ c = 2 ∨ c = 3 ∨ c = 4 := by omega
  have e : (arT 6).getD (c - 1).toNat 0 = if c = 4 then 0 else -1 := by
    rcases hc with rfl | rfl | rfl | rfl <;> rfl
  rw [e] at h2
  by_cases h4 : c = 4
  · rw [if_pos h4, if_neg (by decide)] at h2
    exact ⟨by omega, fun h => absurd h4 h, by omega, fun h => absurd h4 h⟩
  · rw [if_neg h4, if_pos (by decide)] at h2
    exact ⟨by omega, fun _ hz => by rw [hz] at h2; simp at h2, h2.1.2, fun _ => h2.2⟩
abbrev KeysP (xs : List E) : Prop := ∀ e ∈ xs, KeyP e.1 ∧ KeyP e.2
theorem yaqc {xs : List E} {c : Int} {zs : List Int} (hx : KeysP xs) (hv : OpV 1 c zs) : KeysP (dictS xs c zs).1 := by
  obtain ⟨hc, hz1, hz2, hz⟩ := opv1 hv
  have lo : ∀ k, KeysP (lowS xs k) := fun k e he => hx e (yash.mem he)
  have up : ∀ k, KeysP (upS xs k) := fun k e he => hx e (yasn.mem he)
  have tl : ∀ k, KeysP (upS xs k).tail := fun k e he => up k e (List.mem_of_mem_tail he)
  have hk : ∀ i, i < zs.length → KeyP (zs.getD i 0) := fun i hi => hz _ (yaap hi)
  have app : ∀ {a b : List E}, KeysP a → KeysP b → KeysP (a ++ b) := fun ha hb e he => (List.mem_append.1 he).elim (ha e) (hb e)
  have cons : ∀ {x : E} {b : List E}, KeyP x.1 ∧ KeyP x.2 → KeysP b → KeysP (x :: b) := fun hx hb e he => (List.mem_cons.1 he).elim (fun h => by rw [h]; exact hx) (hb e)
  unfold dictS
  split
  · exact hx
  split
  · rename_i h1
    have := hz2 h1
    split
    · exact app (lo _) (cons ⟨hk 0 (by omega), hk 1 (by omega)⟩ (tl _))
    · split
      · exact hx
      · exact app (lo _) (cons ⟨hk 0 (by omega), hk 1 (by omega)⟩ (up _))
  split
  · split <;> exact hx
  split
  · split
    · exact app (lo _) (tl _)
    · exact hx
  split
  · split
    · exact hx
    · split <;> exact hx
  split
  · split <;> exact hx
  split
  · exact hx
  · split <;> exact hx
theorem yapx {xs : List E} {c : Int} {zs : List Int} (so : Srt xs) : Srt (dictS xs c zs).1 ∧ (dictS xs c zs).1.length ≤ xs.length + 1 := by
  have hX : Srt (lowS xs (zs.getD 0 0)) := so.sublist yash
  have hY : Srt (upS xs (zs.getD 0 0)) := so.sublist yasn
  have hlen := congrArg List.length (yagr (xs := xs) (key := zs.getD 0 0))
  rw [List.length_append] at hlen
  unfold dictS
  split
  · exact ⟨so, Nat.le_succ _⟩
  split
  · split
    · rename_i hk
      refine ⟨yaul hX (hY.sublist (List.tail_sublist _)) yawy (yaqb so hk), ?_⟩
      simp only [List.length_append, List.length_cons, List.length_tail]; omega
    · rename_i hk
      split
      · exact ⟨so, Nat.le_succ _⟩
      · refine ⟨yaul hX hY yawy (ybax hY (up_ge so) (by simpa using hk)), ?_⟩
        simp only [List.length_append, List.length_cons]; omega
  split
  · split <;> exact ⟨so, Nat.le_succ _⟩
  split
  · split
    · refine ⟨?_, ?_⟩
      · have h1 : Srt (lowS xs (zs.getD 0 0) ++ upS xs (zs.getD 0 0)) := by rw [← yagr]; exact so
        exact h1.sublist (List.Sublist.append (List.Sublist.refl _) (List.tail_sublist _))
      · simp only [List.length_append, List.length_tail]; omega
    · exact ⟨so, Nat.le_succ _⟩
  split
  · split
    · exact ⟨so, Nat.le_succ _⟩
    · split <;> exact ⟨so, Nat.le_succ _⟩
  split
  · split <;> exact ⟨so, Nat.le_succ _⟩
  split
  · exact ⟨so, Nat.le_succ _⟩
  · split <;> exact ⟨so, Nat.le_succ _⟩
end Go.Proofs.YtllhdhpjgihjfaaGreatDoor
