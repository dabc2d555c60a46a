/- Part SC SD SE N11 N12 P45 N13 N14 N15 N16 N17 N18 N19 R1 FBV N20 N21 of the proof: contracts of functions of the program, and what follows from them. -/
import Derived.Test.YtfkimbdjgadelaaSxSB
import Derived.Test.YtfkimbdjgadelaaSxP43
import Derived.Deep.Slices
import Derived.OpenShut
import Derived.Test.YtfkimbdjgadelaaRows
import Derived.WalkKit
import Derived.ProofKit
import Derived.ShutString
import Derived.ChangeOld
import Derived.Below
import Derived.ChangeMaps5
import Derived.Deep.Grids
/- Sorting: partition, partitionEqual. -/
set_option maxRecDepth 100000
namespace Go.Proofs.Ytfkimbdjgadelaa
open Go Go.Sx
abbrev PInvP2 (cf : P2 → P2 → Int) (h0 : Hp) (p : Option Addr) (n cp a' b' : Nat) (xs : List P2) (F : Bag) (i' J : Nat) (h : Hp) : Prop := a' + 1 ≤ i' ∧ i' ≤ b' ∧ a' + 1 ≤ J ∧ J ≤ b' ∧ OutP2 h0 p n cp a' b' xs F h (fun ys => LoR tP2.d (fun x y : P2 => cf x y < 0) a' i' ys ∧ HiR tP2.d (fun x y : P2 => cf x y < 0) a' J b' ys)
abbrev PSt1P2 (cf : P2 → P2 → Int) (h0 : Hp) (p : Option Addr) (n cp a' b' : Nat) (xs : List P2) (F : Bag) (i' J : Nat) (h : Hp) : Prop := a' + 1 ≤ i' ∧ i' ≤ b' ∧ a' + 1 ≤ J ∧ J ≤ b' ∧ OutP2 h0 p n cp a' b' xs F h (fun ys => LoR tP2.d (fun x y : P2 => cf x y < 0) a' i' ys ∧ HiR tP2.d (fun x y : P2 => cf x y < 0) a' J b' ys ∧ (i' < J → ¬ (fun x y : P2 => cf x y < 0) (ys.getD i' tP2.d) (ys.getD a' tP2.d)))
abbrev PSt2P2 (cf : P2 → P2 → Int) (h0 : Hp) (p : Option Addr) (n cp a' b' : Nat) (xs : List P2) (F : Bag) (i' J : Nat) (h : Hp) : Prop := a' + 1 ≤ i' ∧ i' ≤ b' ∧ a' + 1 ≤ J ∧ J ≤ b' ∧ OutP2 h0 p n cp a' b' xs F h (fun ys => LoR tP2.d (fun x y : P2 => cf x y < 0) a' i' ys ∧ HiR tP2.d (fun x y : P2 => cf x y < 0) a' J b' ys ∧ (i' < J → ¬ (fun x y : P2 => cf x y < 0) (ys.getD i' tP2.d) (ys.getD a' tP2.d)) ∧ (i' < J → (fun x y : P2 => cf x y < 0) (ys.getD (J - 1) tP2.d) (ys.getD a' tP2.d)))
theorem partitionP2 {h0 h : Hp} {p : Option Addr} {n cp a' b' pv' : Nat} {a b pv : Int} {xs : List P2} {A F : Bag} {cmp : Value} {cf : P2 → P2 → Int} {P : P2 → Prop} (hX : CmpP2 h0 cmp cf P) (ho : OrdP (fun x y : P2 => cf x y < 0)) (s : St h0 h (A + F)) (o : Sl tP2 p n cp xs A) (hP : ∀ k, k < n → P (xs.getD k tP2.d)) (ea : a = (a' : Int)) (eb : b = (b' : Int)) (ev : pv = (pv' : Int)) (hpv : a' ≤ pv' ∧ pv' < b') (hb : b' ≤ n) (hn : n < 1000000) :
    HCalls Try.prog 69 #[.slice p n cp, .int .i64 a, .int .i64 b, .int .i64 pv, cmp] h (fun v h' => ∃ (m : Nat) (bb : Bool), v = .tuple #[.int .i64 (m : Int), .bool bb] ∧ a' ≤ m ∧ m < b' ∧ OutP2 h0 p n cp a' b' xs F h' (PartR tP2.d (fun x y : P2 => cf x y < 0) a' b' m)) := by
  subst ea eb ev
  have hl0 := o.len
  refine slices_partitionCmpFunc_2_int_call ?_
  generalize hR : (fun v h' => ∃ (m : Nat) (bb : Bool), v = Value.tuple #[.int .i64 (m : Int), .bool bb] ∧ a' ≤ m ∧ m < b' ∧ OutP2 h0 p n cp a' b' xs F h' (PartR tP2.d (fun x y : P2 => cf x y < 0) a' b' m)) = R
  have hRi : ∀ (v : Value) (h' : Hp) (m : Nat) (bb : Bool), v = .tuple #[.int .i64 (m : Int), .bool bb] → a' ≤ m → m < b' → OutP2 h0 p n cp a' b' xs F h' (PartR tP2.d (fun x y : P2 => cf x y < 0) a' b' m) → R v h' := by
    intro v h' m bb h1 h2 h3 h4; rw [← hR]; exact ⟨m, bb, h1, h2, h3, h4⟩
  clear hR
  have b13 : ∀ (i' J : Nat) (h' : Hp) (nx : Int × Int × Unit → Hp → Prop) , PSt2P2 cf h0 p n cp a' b' xs F i' J h' → (∀ h', PInvP2 cf h0 p n cp a' b' xs F (i' + 1) (J - 1) h' → i' < J → nx ((i' : Int) + 1, (J : Int) - 1 - 1, ()) h') → slices_partitionCmpFunc_2_int_b13 p n cp a' cmp i' ((J : Int) - 1) h' nx R := by
    rintro i' J h' nx ⟨hi1, hi2, hJ1, hJ2, ys, A1, o, s, w, lo, hi, hst, hs2⟩ hnx 
    have hl := o.len
    rw [slices_partitionCmpFunc_2_int_b13_eq]
    refine condP (fun hlt => ?_) (fun hlt => ?_)
    · rw [slices_partitionCmpFunc_2_int_b14_eq]
      refine swP2 (u' := J - 1) (v' := a') o s (by omega) rfl (by omega) (by omega) fun h6 A6 o6 s6 => ?_
      refine hRi _ _ (J - 1) false (by rw [show ((J - 1 : Nat) : Int) = (J : Int) - 1 by omega]) (by omega) (by omega) ⟨_, A6, o6, s6, .step w (by omega) (by omega) (by omega) (by omega) (by omega), part_end (by omega) hi2 (by omega) (by omega) lo hi⟩
    · refine swP2 (u' := i') (v' := J - 1) o s rfl (by omega) (by omega) (by omega) fun h6 A6 o6 s6 => ⟨⟨by omega, by omega⟩, ⟨by omega, by omega⟩, ?_⟩
      have hs2 := hs2 (by omega)
      exact hnx _ ⟨by omega, by omega, by omega, by omega, _, A6, o6, s6, .step w (by omega) (by omega) (by omega) (by omega) (by omega), part_swap (by omega) (by omega) hJ2 (by omega) lo hi (hst (by omega)) hs2⟩ (by omega)
  have b10 : ∀ (i' J : Nat) (h' : Hp) (nx : Int × Int × Unit → Hp → Prop) , PSt1P2 cf h0 p n cp a' b' xs F i' J h' → (∀ i2 J2 h', i' + 1 ≤ i2 → J2 + 1 ≤ J → PInvP2 cf h0 p n cp a' b' xs F i2 J2 h' → nx ((i2 : Int), (J2 : Int) - 1, ()) h') → slices_partitionCmpFunc_2_int_b10 p n cp a' cmp i' ((J : Int) - 1) h' nx R := by
    rintro i' J h' nx hI hnx 
    rw [slices_partitionCmpFunc_2_int_b10_eq]
    refine ⟨fun j h2 => ∃ J2 : Nat, j.1 = (J2 : Int) - 1 ∧ J2 ≤ J ∧ PSt1P2 cf h0 p n cp a' b' xs F i' J2 h2, fun j _ => (j.1 + 1).toNat, ⟨J, rfl, Nat.le_refl _, hI⟩, ?_⟩
    clear hI
    rintro ⟨_, _⟩ h2 ⟨J2, rfl, hJJ, hi1, hi2, hJ1, hJ2, ys, A1, o, s, w, lo, hi, hst⟩
    dsimp only
    have hl := o.len
    have hP := w.allN hl0 hP
    have ch := fun (h3 : Hp) (s : St h0 h3 (A1 + F)) (g : i' < J2 → (fun x y : P2 => cf x y < 0) (ys.getD (J2 - 1) tP2.d) (ys.getD a' tP2.d)) => b13 i' J2 h3 nx ⟨hi1, hi2, hJ1, hJ2, ys, A1, o, s, w, lo, hi, hst, g⟩ fun h' hp hq => by have := hnx (i' + 1) (J2 - 1) h' (by omega) (by omega) hp; rwa [show ((i' + 1 : Nat) : Int) = (i' : Int) + 1 by push_cast; rfl, show ((J2 - 1 : Nat) : Int) - 1 = (J2 : Int) - 1 - 1 by omega] at this
    rw [slices_partitionCmpFunc_2_int_b11_eq]
    refine condP (fun hlt => ?_) (fun hlt => ch _ s fun h => by omega)
    have r := o.rd s
    refine ldP2 (i' := J2 - 1) r (by omega) (by omega) (ldP2 (i' := a') r rfl (by omega) ?_)
    refine hX _ _ _ _ s.ext (hP _ (by omega)) (hP _ (by omega)) fun h5 e5 => ⟨_, rfl, ?_⟩; have s := s.grow e5
    refine condN (fun hc => ?_) (fun hc => ch _ s fun _ => hc)
    rw [slices_partitionCmpFunc_2_int_b12_eq]
    exact ⟨⟨by omega, by omega⟩, ⟨J2 - 1, by omega, by omega, hi1, hi2, by omega, by omega, ys, A1, o, s, w, lo, hi_next hi hc, fun h => hst (by omega)⟩, by omega⟩
  have b8 : ∀ (i' J : Nat) (h' : Hp) (nx : Int × Int × Unit → Hp → Prop) , PInvP2 cf h0 p n cp a' b' xs F i' J h' → (∀ i2 J2 h', i' + 1 ≤ i2 → J2 + 1 ≤ J → PInvP2 cf h0 p n cp a' b' xs F i2 J2 h' → nx ((i2 : Int), (J2 : Int) - 1, ()) h') → LoopVC (((i' : Int), ()) : Int × Unit) h' (fun (nx1 : Int × Unit → Hp → Prop) (s4 : Int × Unit) h36 => slices_partitionCmpFunc_2_int_b8 s4.1 p n cp a' cmp ((J : Int) - 1) h36 nx nx1 R) := by
    rintro i' J h' nx hI hnx 
    refine ⟨fun i h2 => ∃ i2 : Nat, i.1 = (i2 : Int) ∧ i' ≤ i2 ∧ PInvP2 cf h0 p n cp a' b' xs F i2 J h2, fun i _ => (b' - i.1).toNat, ⟨i', rfl, Nat.le_refl _, hI⟩, ?_⟩
    clear hI
    rintro ⟨_, _⟩ h2 ⟨i2, rfl, hii, hi1, hi2, hJ1, hJ2, ys, A1, o, s, w, lo, hi⟩
    dsimp only
    have hl := o.len
    have hP := w.allN hl0 hP
    have ch := fun (h3 : Hp) (s : St h0 h3 (A1 + F)) (g : i2 < J → ¬ (fun x y : P2 => cf x y < 0) (ys.getD i2 tP2.d) (ys.getD a' tP2.d)) => b10 i2 J h3 nx ⟨hi1, hi2, hJ1, hJ2, ys, A1, o, s, w, lo, hi, g⟩ fun i3 J3 h' g1 g2 g3 => hnx i3 J3 h' (by omega) (by omega) g3
    rw [slices_partitionCmpFunc_2_int_b8_eq]
    refine condP (fun hlt => ?_) (fun hlt => ch _ s fun h => by omega)
    have r := o.rd s
    refine ldP2 (i' := i2) r rfl (by omega) (ldP2 (i' := a') r rfl (by omega) ?_)
    refine hX _ _ _ _ s.ext (hP _ (by omega)) (hP _ (by omega)) fun h5 e5 => ⟨_, rfl, ?_⟩; have s := s.grow e5
    refine condP (fun hc => ?_) (fun hc => ch _ s fun _ => hc)
    rw [slices_partitionCmpFunc_2_int_b9_eq]
    exact ⟨⟨by omega, by omega⟩, ⟨i2 + 1, by push_cast; rfl, by omega, by omega, by omega, hJ1, hJ2, ys, A1, o, s, w, lo_next lo hc, hi⟩, by omega⟩
  have b7 : ∀ (i' J : Nat) (h' : Hp), PInvP2 cf h0 p n cp a' b' xs F i' J h' → LoopVC ((i', (J : Int) - 1, ()) : Int × Int × Unit) h' (fun (nx0 : Int × Int × Unit → Hp → Prop) (s3 : Int × Int × Unit) h35 => slices_partitionCmpFunc_2_int_b7 s3.1 s3.2.1 p n cp a' cmp h35 nx0 R) := by
    intro i' J h' hI
    refine ⟨fun ij h2 => ∃ i2 J2 : Nat, ij.1 = (i2 : Int) ∧ ij.2.1 = (J2 : Int) - 1 ∧ PInvP2 cf h0 p n cp a' b' xs F i2 J2 h2, fun ij _ => (b' - ij.1).toNat + (ij.2.1 + 1).toNat, ⟨i', J, rfl, rfl, hI⟩, ?_⟩
    clear hI
    rintro ⟨_, _, _⟩ h2 ⟨i2, J2, rfl, rfl, hI⟩
    dsimp only
    rw [slices_partitionCmpFunc_2_int_b7_eq]
    refine b8 i2 J2 h2 _ hI fun i3 J3 h3 g1 g2 hI3 => ⟨⟨i3, J3, rfl, rfl, hI3⟩, ?_⟩
    have := hI.1
    have := hI.2.1
    have := hI3.2.1
    dsimp only
    omega
  have b6 : ∀ (i' J : Nat) (h' : Hp) , PSt2P2 cf h0 p n cp a' b' xs F i' J h' → slices_partitionCmpFunc_2_int_b6 p n cp a' cmp i' ((J : Int) - 1) h' R := by
    rintro i' J h' ⟨hi1, hi2, hJ1, hJ2, ys, A1, o, s, w, lo, hi, hst, hs2⟩
    have hl := o.len
    rw [slices_partitionCmpFunc_2_int_b6_eq]
    refine condP (fun hlt => ?_) (fun hlt => ?_)
    · refine swP2 (u' := J - 1) (v' := a') o s (by omega) rfl (by omega) (by omega) fun h6 A6 o6 s6 => ?_
      refine hRi _ _ (J - 1) true (by rw [show ((J - 1 : Nat) : Int) = (J : Int) - 1 by omega]) (by omega) (by omega) ⟨_, A6, o6, s6, .step w (by omega) (by omega) (by omega) (by omega) (by omega), part_end (by omega) hi2 (by omega) (by omega) lo hi⟩
    · refine swP2 (u' := i') (v' := J - 1) o s rfl (by omega) (by omega) (by omega) fun h6 A6 o6 s6 => ⟨⟨by omega, by omega⟩, ⟨by omega, by omega⟩, ?_⟩
      have hs2 := hs2 (by omega)
      have := b7 (i' + 1) (J - 1) h6 ⟨by omega, by omega, by omega, by omega, _, A6, o6, s6, .step w (by omega) (by omega) (by omega) (by omega) (by omega), part_swap (by omega) (by omega) hJ2 (by omega) lo hi (hst (by omega)) hs2⟩
      rwa [show ((i' + 1 : Nat) : Int) = (i' : Int) + 1 by push_cast; rfl, show ((J - 1 : Nat) : Int) - 1 = (J : Int) - 1 - 1 by omega] at this
  have b3 : ∀ (i' J : Nat) (h' : Hp) , PSt1P2 cf h0 p n cp a' b' xs F i' J h' → slices_partitionCmpFunc_2_int_b3 p n cp a' cmp i' ((J : Int) - 1) h' R := by
    rintro i' J h' hI 
    rw [slices_partitionCmpFunc_2_int_b3_eq]
    refine ⟨fun j h2 => ∃ J2 : Nat, j.1 = (J2 : Int) - 1 ∧ J2 ≤ J ∧ PSt1P2 cf h0 p n cp a' b' xs F i' J2 h2, fun j _ => (j.1 + 1).toNat, ⟨J, rfl, Nat.le_refl _, hI⟩, ?_⟩
    clear hI
    rintro ⟨_, _⟩ h2 ⟨J2, rfl, hJJ, hi1, hi2, hJ1, hJ2, ys, A1, o, s, w, lo, hi, hst⟩
    dsimp only
    have hl := o.len
    have hP := w.allN hl0 hP
    have ch := fun (h3 : Hp) (s : St h0 h3 (A1 + F)) (g : i' < J2 → (fun x y : P2 => cf x y < 0) (ys.getD (J2 - 1) tP2.d) (ys.getD a' tP2.d)) => b6 i' J2 h3  ⟨hi1, hi2, hJ1, hJ2, ys, A1, o, s, w, lo, hi, hst, g⟩ 
    rw [slices_partitionCmpFunc_2_int_b4_eq]
    refine condP (fun hlt => ?_) (fun hlt => ch _ s fun h => by omega)
    have r := o.rd s
    refine ldP2 (i' := J2 - 1) r (by omega) (by omega) (ldP2 (i' := a') r rfl (by omega) ?_)
    refine hX _ _ _ _ s.ext (hP _ (by omega)) (hP _ (by omega)) fun h5 e5 => ⟨_, rfl, ?_⟩; have s := s.grow e5
    refine condN (fun hc => ?_) (fun hc => ch _ s fun _ => hc)
    rw [slices_partitionCmpFunc_2_int_b5_eq]
    exact ⟨⟨by omega, by omega⟩, ⟨J2 - 1, by omega, by omega, hi1, hi2, by omega, by omega, ys, A1, o, s, w, lo, hi_next hi hc, fun h => hst (by omega)⟩, by omega⟩
  have b1 : ∀ (i' J : Nat) (h' : Hp) , PInvP2 cf h0 p n cp a' b' xs F i' J h' → LoopVC (((i' : Int), ()) : Int × Unit) h' (fun (nx1 : Int × Unit → Hp → Prop) (s4 : Int × Unit) h36 => slices_partitionCmpFunc_2_int_b1 s4.1 p n cp a' cmp ((J : Int) - 1) h36 nx1 R) := by
    rintro i' J h' hI 
    refine ⟨fun i h2 => ∃ i2 : Nat, i.1 = (i2 : Int) ∧ i' ≤ i2 ∧ PInvP2 cf h0 p n cp a' b' xs F i2 J h2, fun i _ => (b' - i.1).toNat, ⟨i', rfl, Nat.le_refl _, hI⟩, ?_⟩
    clear hI
    rintro ⟨_, _⟩ h2 ⟨i2, rfl, hii, hi1, hi2, hJ1, hJ2, ys, A1, o, s, w, lo, hi⟩
    dsimp only
    have hl := o.len
    have hP := w.allN hl0 hP
    have ch := fun (h3 : Hp) (s : St h0 h3 (A1 + F)) (g : i2 < J → ¬ (fun x y : P2 => cf x y < 0) (ys.getD i2 tP2.d) (ys.getD a' tP2.d)) => b3 i2 J h3  ⟨hi1, hi2, hJ1, hJ2, ys, A1, o, s, w, lo, hi, g⟩ 
    rw [slices_partitionCmpFunc_2_int_b1_eq]
    refine condP (fun hlt => ?_) (fun hlt => ch _ s fun h => by omega)
    have r := o.rd s
    refine ldP2 (i' := i2) r rfl (by omega) (ldP2 (i' := a') r rfl (by omega) ?_)
    refine hX _ _ _ _ s.ext (hP _ (by omega)) (hP _ (by omega)) fun h5 e5 => ⟨_, rfl, ?_⟩; have s := s.grow e5
    refine condP (fun hc => ?_) (fun hc => ch _ s fun _ => hc)
    rw [slices_partitionCmpFunc_2_int_b2_eq]
    exact ⟨⟨by omega, by omega⟩, ⟨i2 + 1, by push_cast; rfl, by omega, by omega, by omega, hJ1, hJ2, ys, A1, o, s, w, lo_next lo hc, hi⟩, by omega⟩
  rw [slices_partitionCmpFunc_2_int_b0_eq]
  refine swP2 (u' := a') (v' := pv') o s rfl rfl (by omega) (by omega) fun h6 A6 o6 s6 => ⟨⟨by omega, by omega⟩, ⟨by omega, by omega⟩, ?_⟩
  have := b1 (a' + 1) b' h6 ⟨Nat.le_refl _, by omega, by omega, Nat.le_refl _, _, A6, o6, s6, .one (Nat.le_refl _) (by omega) (by omega) (by omega) (by omega), fun k h1 h2 => by omega, fun k h1 h2 => by omega⟩
  rwa [show ((a' + 1 : Nat) : Int) = (a' : Int) + 1 by push_cast; rfl] at this
end Go.Proofs.Ytfkimbdjgadelaa

/- Sorting: partitionEqual, partialInsertionSort. -/
set_option maxRecDepth 100000
namespace Go.Proofs.Ytfkimbdjgadelaa
open Go Go.Sx
abbrev EInvP2 (cf : P2 → P2 → Int) (h0 : Hp) (p : Option Addr) (n cp a' b' : Nat) (x : P2) (xs : List P2) (F : Bag) (i' J : Nat) (h : Hp) : Prop := a' + 1 ≤ i' ∧ i' ≤ b' ∧ a' + 1 ≤ J ∧ J ≤ b' ∧ OutP2 h0 p n cp a' b' xs F h (fun ys => EqR tP2.d (fun x y : P2 => cf x y < 0) x a' i' ys)
abbrev EStP2 (cf : P2 → P2 → Int) (h0 : Hp) (p : Option Addr) (n cp a' b' : Nat) (x : P2) (xs : List P2) (F : Bag) (i' J : Nat) (h : Hp) : Prop := a' + 1 ≤ i' ∧ i' ≤ b' ∧ a' + 1 ≤ J ∧ J ≤ b' ∧ OutP2 h0 p n cp a' b' xs F h (fun ys => EqR tP2.d (fun x y : P2 => cf x y < 0) x a' i' ys ∧ (i' < J → ¬ (fun x y : P2 => cf x y < 0) (ys.getD a' tP2.d) (ys.getD (J - 1) tP2.d)))
theorem partitionEqualP2 {h0 h : Hp} {p : Option Addr} {n cp a' b' pv' : Nat} {a b pv : Int} {xs : List P2} {A F : Bag} {cmp : Value} {cf : P2 → P2 → Int} {P : P2 → Prop} (hX : CmpP2 h0 cmp cf P) (ho : OrdP (fun x y : P2 => cf x y < 0)) (s : St h0 h (A + F)) (o : Sl tP2 p n cp xs A) (hP : ∀ k, k < n → P (xs.getD k tP2.d)) (ea : a = (a' : Int)) (eb : b = (b' : Int)) (ev : pv = (pv' : Int)) (hpv : a' ≤ pv' ∧ pv' < b') (hb : b' ≤ n) (hn : n < 1000000) :
    HCalls Try.prog 68 #[.slice p n cp, .int .i64 a, .int .i64 b, .int .i64 pv, cmp] h (fun v h' => ∃ m : Nat, v = .int .i64 (m : Int) ∧ a' + 1 ≤ m ∧ m ≤ b' ∧ OutP2 h0 p n cp a' b' xs F h' (EqR tP2.d (fun x y : P2 => cf x y < 0) (xs.getD pv' tP2.d) a' m)) := by
  subst ea eb ev
  have hl0 := o.len
  refine slices_partitionEqualCmpFunc_2_int_call ?_
  generalize hx : xs.getD pv' tP2.d = x
  generalize hR : (fun v h' => ∃ m : Nat, v = Value.int .i64 (m : Int) ∧ a' + 1 ≤ m ∧ m ≤ b' ∧ OutP2 h0 p n cp a' b' xs F h' (EqR tP2.d (fun x y : P2 => cf x y < 0) x a' m)) = R
  have hRi : ∀ (v : Value) (h' : Hp) (m : Nat), v = .int .i64 (m : Int) → a' + 1 ≤ m → m ≤ b' → OutP2 h0 p n cp a' b' xs F h' (EqR tP2.d (fun x y : P2 => cf x y < 0) x a' m) → R v h' := by
    intro v h' m h1 h2 h3 h4; rw [← hR]; exact ⟨m, h1, h2, h3, h4⟩
  clear hR
  have b7 : ∀ (i' J : Nat) (h' : Hp) (nx : Int × Int × Unit → Hp → Prop), EStP2 cf h0 p n cp a' b' x xs F i' J h' → (∀ h', EInvP2 cf h0 p n cp a' b' x xs F (i' + 1) (J - 1) h' → i' < J → nx ((i' : Int) + 1, (J : Int) - 1 - 1, ()) h') → slices_partitionEqualCmpFunc_2_int_b7 p n cp a' cmp i' ((J : Int) - 1) h' nx R := by
    rintro i' J h' nx ⟨hi1, hi2, hJ1, hJ2, ys, A1, o, s, w, he, hs2⟩ hnx
    have hl := o.len
    rw [slices_partitionEqualCmpFunc_2_int_b7_eq]
    refine condP (fun hlt => ?_) (fun hlt => ?_)
    · rw [slices_partitionEqualCmpFunc_2_int_b8_eq]
      exact hRi _ _ i' rfl hi1 hi2 ⟨ys, A1, o, s, w, he⟩
    · refine swP2 (u' := i') (v' := J - 1) o s rfl (by omega) (by omega) (by omega) fun h6 A6 o6 s6 => ⟨⟨by omega, by omega⟩, ⟨by omega, by omega⟩, ?_⟩
      exact hnx _ ⟨by omega, by omega, by omega, by omega, _, A6, o6, s6, .step w (by omega) (by omega) (by omega) (by omega) (by omega), eq_swap (by omega) (by omega) (by omega) he (hs2 (by omega))⟩ (by omega)
  have b4 : ∀ (i' J : Nat) (h' : Hp) (nx : Int × Int × Unit → Hp → Prop), EInvP2 cf h0 p n cp a' b' x xs F i' J h' → (∀ i2 J2 h', i' + 1 ≤ i2 → J2 + 1 ≤ J → EInvP2 cf h0 p n cp a' b' x xs F i2 J2 h' → nx ((i2 : Int), (J2 : Int) - 1, ()) h') → slices_partitionEqualCmpFunc_2_int_b4 p n cp a' cmp i' ((J : Int) - 1) h' nx R := by
    rintro i' J h' nx hI hnx
    rw [slices_partitionEqualCmpFunc_2_int_b4_eq]
    refine ⟨fun j h2 => ∃ J2 : Nat, j.1 = (J2 : Int) - 1 ∧ J2 ≤ J ∧ EInvP2 cf h0 p n cp a' b' x xs F i' J2 h2, fun j _ => (j.1 + 1).toNat, ⟨J, rfl, Nat.le_refl _, hI⟩, ?_⟩
    clear hI
    rintro ⟨_, _⟩ h2 ⟨J2, rfl, hJJ, hi1, hi2, hJ1, hJ2, ys, A1, o, s, w, he⟩
    dsimp only
    have hl := o.len
    have hP := w.allN hl0 hP
    have ch := fun (h3 : Hp) (s : St h0 h3 (A1 + F)) (g : i' < J2 → ¬ (fun x y : P2 => cf x y < 0) (ys.getD a' tP2.d) (ys.getD (J2 - 1) tP2.d)) => b7 i' J2 h3 nx ⟨hi1, hi2, hJ1, hJ2, ys, A1, o, s, w, he, g⟩ fun h' hp hq => by have := hnx (i' + 1) (J2 - 1) h' (by omega) (by omega) hp; rwa [show ((i' + 1 : Nat) : Int) = (i' : Int) + 1 by push_cast; rfl, show ((J2 - 1 : Nat) : Int) - 1 = (J2 : Int) - 1 - 1 by omega] at this
    rw [slices_partitionEqualCmpFunc_2_int_b5_eq]
    refine condP (fun hlt => ?_) (fun hlt => ch _ s fun h => by omega)
    have r := o.rd s
    refine ldP2 (i' := a') r rfl (by omega) (ldP2 (i' := J2 - 1) r (by omega) (by omega) ?_)
    refine hX _ _ _ _ s.ext (hP _ (by omega)) (hP _ (by omega)) fun h5 e5 => ⟨_, rfl, ?_⟩; have s := s.grow e5
    refine condP (fun hc => ?_) (fun hc => ch _ s fun _ => hc)
    rw [slices_partitionEqualCmpFunc_2_int_b6_eq]
    exact ⟨⟨by omega, by omega⟩, ⟨J2 - 1, by omega, by omega, hi1, hi2, by omega, by omega, ys, A1, o, s, w, he⟩, by omega⟩
  have b2 : ∀ (i' J : Nat) (h' : Hp) (nx : Int × Int × Unit → Hp → Prop), EInvP2 cf h0 p n cp a' b' x xs F i' J h' → (∀ i2 J2 h', i' + 1 ≤ i2 → J2 + 1 ≤ J → EInvP2 cf h0 p n cp a' b' x xs F i2 J2 h' → nx ((i2 : Int), (J2 : Int) - 1, ()) h') → LoopVC (((i' : Int), ()) : Int × Unit) h' (fun (nx1 : Int × Unit → Hp → Prop) (s4 : Int × Unit) h36 => slices_partitionEqualCmpFunc_2_int_b2 s4.1 p n cp a' cmp ((J : Int) - 1) h36 nx nx1 R) := by
    rintro i' J h' nx hI hnx
    refine ⟨fun i h2 => ∃ i2 : Nat, i.1 = (i2 : Int) ∧ i' ≤ i2 ∧ EInvP2 cf h0 p n cp a' b' x xs F i2 J h2, fun i _ => (b' - i.1).toNat, ⟨i', rfl, Nat.le_refl _, hI⟩, ?_⟩
    clear hI
    rintro ⟨_, _⟩ h2 ⟨i2, rfl, hii, hi1, hi2, hJ1, hJ2, ys, A1, o, s, w, he⟩
    dsimp only
    have hl := o.len
    have hP := w.allN hl0 hP
    have ch := fun (h3 : Hp) (s : St h0 h3 (A1 + F)) => b4 i2 J h3 nx ⟨hi1, hi2, hJ1, hJ2, ys, A1, o, s, w, he⟩ fun i3 J3 h' g1 g2 g3 => hnx i3 J3 h' (by omega) (by omega) g3
    rw [slices_partitionEqualCmpFunc_2_int_b2_eq]
    refine condP (fun hlt => ?_) (fun hlt => ch _ s)
    have r := o.rd s
    refine ldP2 (i' := a') r rfl (by omega) (ldP2 (i' := i2) r rfl (by omega) ?_)
    refine hX _ _ _ _ s.ext (hP _ (by omega)) (hP _ (by omega)) fun h5 e5 => ⟨_, rfl, ?_⟩; have s := s.grow e5
    refine condN (fun hc => ?_) (fun hc => ch _ s)
    rw [slices_partitionEqualCmpFunc_2_int_b3_eq]
    exact ⟨⟨by omega, by omega⟩, ⟨i2 + 1, by push_cast; rfl, by omega, by omega, by omega, hJ1, hJ2, ys, A1, o, s, w, eq_next he hc⟩, by omega⟩
  rw [slices_partitionEqualCmpFunc_2_int_b0_eq]
  refine swP2 (u' := a') (v' := pv') o s rfl rfl (by omega) (by omega) fun h6 A6 o6 s6 => ⟨⟨by omega, by omega⟩, ⟨by omega, by omega⟩, ?_⟩
  have hx2 : (swapL tP2.d xs a' pv').getD a' tP2.d = x := by
    rw [swapL_get (by omega) (by omega)]
    by_cases hk : a' = pv'
    · rw [if_pos hk, hk, hx]
    · rw [if_neg hk, if_pos rfl, hx]
  refine ⟨fun ij h2 => ∃ i2 J2 : Nat, ij.1 = (i2 : Int) ∧ ij.2.1 = (J2 : Int) - 1 ∧ EInvP2 cf h0 p n cp a' b' x xs F i2 J2 h2, fun ij _ => (b' - ij.1).toNat + (ij.2.1 + 1).toNat, ⟨a' + 1, b', by push_cast; rfl, rfl, Nat.le_refl _, by omega, by omega, Nat.le_refl _, _, A6, o6, s6, .one (Nat.le_refl _) (by omega) (by omega) (by omega) (by omega), hx2, fun k h1 h2 => by rw [show k = a' by omega, hx2]; exact ho.irr _⟩, ?_⟩
  rintro ⟨_, _, _⟩ h2 ⟨i2, J2, rfl, rfl, hI⟩
  dsimp only
  rw [slices_partitionEqualCmpFunc_2_int_b1_eq]
  refine b2 i2 J2 h2 _ hI fun i3 J3 h3 g1 g2 hI3 => ⟨⟨i3, J3, rfl, rfl, hI3⟩, ?_⟩
  have := hI.1
  have := hI.2.1
  have := hI3.2.1
  dsimp only
  omega
theorem partialInsertionSortP2 {h0 h : Hp} {p : Option Addr} {n cp a' b' : Nat} {a b : Int} {xs : List P2} {A F : Bag} {cmp : Value} {cf : P2 → P2 → Int} {P : P2 → Prop} (hX : CmpP2 h0 cmp cf P) (ho : OrdP (fun x y : P2 => cf x y < 0)) (s : St h0 h (A + F)) (o : Sl tP2 p n cp xs A) (hP : ∀ k, k < n → P (xs.getD k tP2.d)) (ea : a = (a' : Int)) (eb : b = (b' : Int)) (hab : a' < b') (hb : b' ≤ n) (hn : n < 1000000)
    (hlow : 0 < a' → ∀ k, a' ≤ k → k < b' → ¬ (fun x y : P2 => cf x y < 0) (xs.getD k tP2.d) (xs.getD (a' - 1) tP2.d)) :
    HCalls Try.prog 67 #[.slice p n cp, .int .i64 a, .int .i64 b, cmp] h (fun v h' => ∃ bb : Bool, v = .bool bb ∧ OutP2 h0 p n cp a' b' xs F h' (fun ys => bb = true → SrtR tP2.d (fun x y : P2 => cf x y < 0) a' b' ys)) := by
  subst ea eb
  have hl0 := o.len
  refine slices_partialInsertionSortCmpFunc_2_int_call ?_
  generalize hR : (fun v h' => ∃ bb : Bool, v = Value.bool bb ∧ OutP2 h0 p n cp a' b' xs F h' (fun ys => bb = true → SrtR tP2.d (fun x y : P2 => cf x y < 0) a' b' ys)) = R
  have hRf : ∀ (h' : Hp), OutP2 h0 p n cp a' b' xs F h' (fun _ => True) → R (.bool false) h' := by
    rintro h' ⟨ys, A1, o, s, w, _⟩; rw [← hR]; exact ⟨false, rfl, ys, A1, o, s, w, fun h => by cases h⟩
  have hRt : ∀ (h' : Hp), OutP2 h0 p n cp a' b' xs F h' (SrtR tP2.d (fun x y : P2 => cf x y < 0) a' b') → R (.bool true) h' := by
    rintro h' ⟨ys, A1, o, s, w, hs⟩; rw [← hR]; exact ⟨true, rfl, ys, A1, o, s, w, fun _ => hs⟩
  clear hR
  rw [slices_partialInsertionSortCmpFunc_2_int_b0_eq]
  refine ⟨⟨by omega, by omega⟩, fun ic h1 => ∃ (i' c : Nat), ic.1 = (i' : Int) ∧ ic.2.1 = (c : Int) ∧ c ≤ 5 ∧ a' + 1 ≤ i' ∧ i' ≤ b' ∧ OutP2 h0 p n cp a' b' xs F h1 (SrtR tP2.d (fun x y : P2 => cf x y < 0) a' i'), fun ic _ => (5 - ic.2.1).toNat, ⟨a' + 1, 0, by push_cast; rfl, rfl, by omega, Nat.le_refl _, by omega, xs, A, o, s, .refl _, srtR_one (by omega)⟩, ?_⟩
  rintro ⟨_, _, _⟩ h1 ⟨i0, c, rfl, rfl, hc5, hi01, hi02, hO⟩
  dsimp only
  rw [slices_partialInsertionSortCmpFunc_2_int_b1_eq]
  refine condP (fun hc => ?_) (fun hc => ?_)
  · generalize hNX : (fun (s' : Int × Int × Unit) (h' : Hp) => (∃ (i' c : Nat), s'.1 = (i' : Int) ∧ s'.2.1 = (c : Int) ∧ c ≤ 5 ∧ a' + 1 ≤ i' ∧ i' ≤ b' ∧ OutP2 h0 p n cp a' b' xs F h' (SrtR tP2.d (fun x y : P2 => cf x y < 0) a' i')) ∧ (5 - s'.2.1).toNat < (5 - (c : Int)).toNat) = NX
    have b10 : ∀ (i' : Nat) (h' : Hp), a' + 1 ≤ i' → i' ≤ b' → OutP2 h0 p n cp a' b' xs F h' (SrtR tP2.d (fun x y : P2 => cf x y < 0) a' i') → slices_partialInsertionSortCmpFunc_2_int_b10 p n cp a' b' cmp i' c h' NX R := by
      intro i' h' g1 g2 g3
      rw [slices_partialInsertionSortCmpFunc_2_int_b10_eq, ← hNX]
      exact ⟨⟨by omega, by omega⟩, ⟨i', c + 1, rfl, by push_cast; rfl, by omega, g1, g2, g3⟩, by dsimp only; omega⟩
    clear hNX
    have b7 : ∀ (i' : Nat) (h' : Hp), a' + 1 ≤ i' → i' ≤ b' → OutP2 h0 p n cp a' b' xs F h' (SrtR tP2.d (fun x y : P2 => cf x y < 0) a' i') → slices_partialInsertionSortCmpFunc_2_int_b7 p n cp a' b' cmp i' c h' NX R := by
      intro i' h' g1 g2 g3
      rw [slices_partialInsertionSortCmpFunc_2_int_b7_eq]
      refine ⟨⟨by omega, by omega⟩, condP (fun h2 => ⟨⟨by omega, by omega⟩, ?_⟩) (fun _ => b10 i' h' g1 g2 g3)⟩
      refine ⟨fun j h2 => ∃ j' : Nat, j.1 = (j' : Int) ∧ i' + 1 ≤ j' ∧ j' ≤ b' ∧ OutP2 h0 p n cp a' b' xs F h2 (SrtR tP2.d (fun x y : P2 => cf x y < 0) a' i'), fun j _ => (b' - j.1).toNat, ⟨i' + 1, by push_cast; rfl, Nat.le_refl _, by omega, g3⟩, ?_⟩
      clear g3
      rintro ⟨_, _⟩ h2 ⟨j', rfl, hj1, hj2, ys, A1, o, s, w, hs⟩
      dsimp only
      have hl := o.len
      have hP := w.allN hl0 hP
      rw [slices_partialInsertionSortCmpFunc_2_int_b9_eq]
      refine condP (fun hlt => ?_) (fun hlt => b10 i' _ g1 g2 ⟨ys, A1, o, s, w, hs⟩)
      have r := o.rd s
      refine ldP2 (i' := j') r rfl (by omega) ⟨⟨by omega, by omega⟩, ldP2 (i' := j' - 1) r (by omega) (by omega) ?_⟩
      refine hX _ _ _ _ s.ext (hP _ (by omega)) (hP _ (by omega)) fun h5 e5 => ⟨_, rfl, ?_⟩; have s := s.grow e5
      refine condN (fun hc => b10 i' _ g1 g2 ⟨ys, A1, o, s, w, hs⟩) (fun hc => ⟨⟨by omega, by omega⟩, ⟨by omega, by omega⟩, ?_⟩)
      refine swP2 (u' := j') (v' := j' - 1) o s rfl (by omega) (by omega) (by omega) fun h6 A6 o6 s6 => ?_
      rw [slices_partialInsertionSortCmpFunc_2_int_b11_eq]
      refine ⟨⟨by omega, by omega⟩, ⟨j' + 1, by push_cast; rfl, by omega, by omega, _, A6, o6, s6, .step w (by omega) (by omega) (by omega) (by omega) (by omega), fun x y k1 k2 k3 => ?_⟩, by omega⟩
      rw [swapL_get (by omega) (by omega), swapL_get (by omega) (by omega), if_neg (by omega), if_neg (by omega), if_neg (by omega), if_neg (by omega)]
      exact hs x y k1 k2 k3
    have b5 : ∀ (i' : Nat) (h' : Hp), a' + 1 ≤ i' → i' ≤ b' → OutP2 h0 p n cp a' b' xs F h' (SrtR tP2.d (fun x y : P2 => cf x y < 0) a' i') → slices_partialInsertionSortCmpFunc_2_int_b5 p n cp a' b' cmp i' c h' NX R := by
      rintro i' h' g1 g2 ⟨ys, A1, o, s, w, hs⟩
      have hl := o.len
      rw [slices_partialInsertionSortCmpFunc_2_int_b5_eq]
      refine condP (fun he => hRt _ ⟨ys, A1, o, s, w, by rw [show i' = b' by omega] at hs; exact hs⟩) (fun hne => ⟨⟨by omega, by omega⟩, condP (fun _ => hRf _ ⟨ys, A1, o, s, w, trivial⟩) (fun _ => ⟨⟨by omega, by omega⟩, ⟨by omega, by omega⟩, ?_⟩)⟩)
      refine swP2 (u' := i') (v' := i' - 1) o s rfl (by omega) (by omega) (by omega) fun h6 A6 o6 s6 => ⟨⟨by omega, by omega⟩, ?_⟩
      have w6 : Swp tP2.d a' b' xs (swapL tP2.d ys i' (i' - 1)) := .step w (by omega) (by omega) (by omega) (by omega) (by omega)
      have hs6 : SrtR tP2.d (fun x y : P2 => cf x y < 0) a' (i' - 1) (swapL tP2.d ys i' (i' - 1)) := fun x y k1 k2 k3 => by
        rw [swapL_get (by omega) (by omega), swapL_get (by omega) (by omega), if_neg (by omega), if_neg (by omega), if_neg (by omega), if_neg (by omega)]
        exact hs x y k1 k2 (by omega)
      generalize swapL tP2.d ys i' (i' - 1) = zs at *
      clear hs w s o hl
      refine condP (fun h2 => ⟨⟨by omega, by omega⟩, ?_⟩) (fun h2 => b7 i' _ g1 g2 ⟨zs, A6, o6, s6, w6, srtR_one (by omega)⟩)
      refine ⟨fun j h2 => ∃ j' : Nat, j.1 = (j' : Int) ∧ a' ≤ j' ∧ j' ≤ i' - 1 ∧ OutP2 h0 p n cp a' b' xs F h2 (InsR tP2.d (fun x y : P2 => cf x y < 0) a' j' (i' - 1)), fun j _ => j.1.toNat, ⟨i' - 1, by dsimp only; omega, by omega, by omega, zs, A6, o6, s6, w6, ins_start hs6⟩, ?_⟩
      clear hs6 w6 s6 o6 zs
      rintro ⟨_, _⟩ h2 ⟨j', rfl, hj1, hj2, ys, A1, o, s, w, hs⟩
      dsimp only
      have hl := o.len
      have hP := w.allN hl0 hP
      have fin := fun (h3 : Hp) (s : St h0 h3 (A1 + F)) (hx : a' < j' → ¬ (fun x y : P2 => cf x y < 0) (ys.getD j' tP2.d) (ys.getD (j' - 1) tP2.d)) => b7 i' h3 g1 g2 ⟨ys, A1, o, s, w, by have := ins_end ho hj1 hs hx; rwa [show i' - 1 + 1 = i' by omega] at this⟩
      rw [slices_partialInsertionSortCmpFunc_2_int_b6_eq]
      refine condP (fun hlt => ?_) (fun hlt => fin _ s fun h => by omega)
      have r := o.rd s
      refine ldP2 (i' := j') r rfl (by omega) ⟨⟨by omega, by omega⟩, ldP2 (i' := j' - 1) r (by omega) (by omega) ?_⟩
      refine hX _ _ _ _ s.ext (hP _ (by omega)) (hP _ (by omega)) fun h5 e5 => ⟨_, rfl, ?_⟩; have s := s.grow e5
      refine condN (fun hc => fin _ s fun _ => hc) (fun hc => ⟨⟨by omega, by omega⟩, ⟨by omega, by omega⟩, ?_⟩)
      have hja : a' < j' := by
        rcases Nat.lt_or_ge a' j' with h | h
        · exact h
        · obtain rfl : j' = a' := by omega
          rw [w.out (k := j' - 1) (.inl (by omega))] at hc
          exact absurd hc (w.all (P := fun x => ¬ (fun x y : P2 => cf x y < 0) x (xs.getD (j' - 1) tP2.d)) (hlow (by omega)) j' (Nat.le_refl _) (by omega))
      refine swP2 (u' := j') (v' := j' - 1) o s rfl (by omega) (by omega) (by omega) fun h6 A6 o6 s6 => ?_
      rw [slices_partialInsertionSortCmpFunc_2_int_b8_eq]
      exact ⟨⟨by omega, by omega⟩, ⟨j' - 1, by omega, by omega, by omega, _, A6, o6, s6, .step w (by omega) (by omega) (by omega) (by omega) (by omega), ins_swap ho (by omega) hj2 (by omega) hs hc⟩, by omega⟩
    refine ⟨fun i h2 => ∃ i' : Nat, i.1 = (i' : Int) ∧ a' + 1 ≤ i' ∧ i' ≤ b' ∧ OutP2 h0 p n cp a' b' xs F h2 (SrtR tP2.d (fun x y : P2 => cf x y < 0) a' i'), fun i _ => (b' - i.1).toNat, ⟨i0, rfl, hi01, hi02, hO⟩, ?_⟩
    clear hO
    rintro ⟨_, _⟩ h2 ⟨i', rfl, g1, g2, ys, A1, o, s, w, hs⟩
    dsimp only
    have hl := o.len
    have hP := w.allN hl0 hP
    rw [slices_partialInsertionSortCmpFunc_2_int_b2_eq]
    refine condP (fun hlt => ?_) (fun hlt => b5 i' _ g1 g2 ⟨ys, A1, o, s, w, hs⟩)
    have r := o.rd s
    refine ldP2 (i' := i') r rfl (by omega) ⟨⟨by omega, by omega⟩, ldP2 (i' := i' - 1) r (by omega) (by omega) ?_⟩
    refine hX _ _ _ _ s.ext (hP _ (by omega)) (hP _ (by omega)) fun h5 e5 => ⟨_, rfl, ?_⟩; have s := s.grow e5
    refine condN (fun hc => ?_) (fun hc => b5 i' _ g1 g2 ⟨ys, A1, o, s, w, hs⟩)
    rw [slices_partialInsertionSortCmpFunc_2_int_b4_eq]
    exact ⟨⟨by omega, by omega⟩, ⟨i' + 1, by push_cast; rfl, by omega, by omega, ys, A1, o, s, w, ins_end ho (by omega) (ins_start hs) fun _ => hc⟩, by omega⟩
  · obtain ⟨ys, A1, o, s, w, hs⟩ := hO
    rw [slices_partialInsertionSortCmpFunc_2_int_b3_eq]
    exact hRf _ ⟨ys, A1, o, s, w, trivial⟩
end Go.Proofs.Ytfkimbdjgadelaa

/- Sorting: pdqsort. -/
set_option maxRecDepth 100000
namespace Go.Proofs.Ytfkimbdjgadelaa
open Go Go.Sx
abbrev ZInvP2 (cf : P2 → P2 → Int) (h0 : Hp) (p : Option Addr) (n cp a0 b0 : Nat) (xs : List P2) (F : Bag) (a1 b1 : Nat) (h : Hp) : Prop := a0 ≤ a1 ∧ a1 ≤ b1 ∧ b1 ≤ b0 ∧ OutP2 h0 p n cp a0 b0 xs F h (OutR tP2.d (fun x y : P2 => cf x y < 0) a0 b0 a1 b1)
theorem pdqP2 {h0 : Hp} {p : Option Addr} {n cp : Nat} {F : Bag} {cmp : Value} {cf : P2 → P2 → Int} {P : P2 → Prop} (hX : CmpP2 h0 cmp cf P) (ho : OrdP (fun x y : P2 => cf x y < 0)) (hn : n < 1000000) : ∀ (N : Nat) {h : Hp} {a0 b0 : Nat} {a b lim : Int} {xs : List P2} {A : Bag} (_ : b0 - a0 ≤ N) (_ : St h0 h (A + F)) (_ : Sl tP2 p n cp xs A) (_ : ∀ k, k < n → P (xs.getD k tP2.d)) (_ : a = (a0 : Int)) (_ : b = (b0 : Int)) (_ : a0 ≤ b0) (_ : b0 ≤ n) (_ : 0 ≤ lim ∧ lim < 1000000)
    (_ : 0 < a0 → ∀ k, a0 ≤ k → k < b0 → ¬ (fun x y : P2 => cf x y < 0) (xs.getD k tP2.d) (xs.getD (a0 - 1) tP2.d)),
    HCalls Try.prog 55 #[.slice p n cp, .int .i64 a, .int .i64 b, .int .i64 lim, cmp] h (fun v h' => v = .tuple #[] ∧ OutP2 h0 p n cp a0 b0 xs F h' (SrtR tP2.d (fun x y : P2 => cf x y < 0) a0 b0)) := by
  intro N
  induction N using Nat.strongRecOn with
  | _ N ih =>
  intro h a0 b0 a b lim xs A hN s o hP ea eb hab hb hlim hlow
  subst ea eb
  have hl0 := o.len
  refine slices_pdqsortCmpFunc_2_int_call ?_
  generalize hR : (fun v h' => v = Value.tuple #[] ∧ OutP2 h0 p n cp a0 b0 xs F h' (SrtR tP2.d (fun x y : P2 => cf x y < 0) a0 b0)) = R
  have fin : ∀ (a1 b1 : Nat) (h' : Hp) (ys : List P2), a0 ≤ a1 → b1 ≤ b0 → Swp tP2.d a0 b0 xs ys → OutR tP2.d (fun x y : P2 => cf x y < 0) a0 b0 a1 b1 ys → OutP2 h0 p n cp a1 b1 ys F h' (SrtR tP2.d (fun x y : P2 => cf x y < 0) a1 b1) → R (.tuple #[]) h' := by
    rintro a1 b1 h' ys g1 g2 w ho ⟨zs, A2, o2, s2, w2, hs⟩
    have := w.len
    rw [← hR]
    exact ⟨rfl, zs, A2, o2, s2, w.trans (w2.mono g1 g2 (by omega)).1, outR_done (outR_swp g1 g2 ho w2) hs⟩
  clear hR
  -- what lies before the range is not more than what lies in it
  have low : ∀ (a1 b1 : Nat) (ys : List P2), a0 ≤ a1 → b1 ≤ b0 → Swp tP2.d a0 b0 xs ys → OutR tP2.d (fun x y : P2 => cf x y < 0) a0 b0 a1 b1 ys → 0 < a1 → ∀ k, a1 ≤ k → k < b1 → ¬ (fun x y : P2 => cf x y < 0) (ys.getD k tP2.d) (ys.getD (a1 - 1) tP2.d) := by
    intro a1 b1 ys g1 g2 w ho h1 k k1 k2
    by_cases he : a1 = a0
    · subst he
      rw [w.out (k := a1 - 1) (.inl (by omega))]
      exact w.all (P := fun x => ¬ (fun x y : P2 => cf x y < 0) x (xs.getD (a1 - 1) tP2.d)) (hlow h1) k k1 (by omega)
    · exact ho (a1 - 1) k (by omega) (by omega) (by omega) (by omega)
  have b5 : ∀ (a1 b1 pv : Nat) (lim : Int) (h' : Hp) (nx : Int × Int × Int × Bool × Bool × Unit → Hp → Prop), ZInvP2 cf h0 p n cp a0 b0 xs F a1 b1 h' → a1 ≤ pv → pv < b1 → 0 ≤ lim → lim < 1000000 →
      (∀ (a2 b2 : Nat) (l2 : Int) (wb wp : Bool) (h2 : Hp), ZInvP2 cf h0 p n cp a0 b0 xs F a2 b2 h2 → b2 - a2 < b1 - a1 → 0 ≤ l2 → l2 < 1000000 → nx ((a2 : Int), (b2 : Int), l2, wb, wp, ()) h2) → slices_pdqsortCmpFunc_2_int_b5 p n cp a1 b1 lim cmp ((b1 : Int) - a1) pv h' nx R := by
    rintro a1 b1 pv lim h' nx ⟨g1, g2, g3, ys, A1, o, s, w, ho2⟩ hv1 hv2 hl1 hl2 hnx
    have hl := o.len
    have hPy := w.allN hl0 hP
    rw [slices_pdqsortCmpFunc_2_int_b5_eq]
    refine (partitionP2 hX ho s o hPy rfl rfl rfl ⟨hv1, hv2⟩ (by omega) hn).mono fun v h2 ⟨m, bb, hv, m1, m2, zs, A2, o2, s2, w2, hp⟩ => ⟨_, _, hv, ⟨by omega, by omega⟩, ⟨by omega, by omega⟩, quo_intro (by omega) (by omega) (by omega) ?_⟩
    have w02 := w.trans (w2.mono g1 g3 (by omega)).1
    have ho3 := outR_swp g1 g3 ho2 w2
    have hPz := w02.allN hl0 hP
    have hlz := o2.len
    have hlow2 := low a1 b1 zs g1 g3 w02 ho3
    refine condP (fun hlt => ?_) (fun hlt => ⟨⟨by omega, by omega⟩, ?_⟩)
    · refine (ih (m - a1) (by omega) (a0 := a1) (b0 := m) (Nat.le_refl _) s2 o2 hPz rfl rfl m1 (by omega) ⟨hl1, hl2⟩ fun q k k1 k2 => hlow2 q k k1 (by omega)).mono fun v h3 ⟨hv, us, A3, o3, s3, w3, hs3⟩ => ⟨hv, ⟨by omega, by omega⟩, ?_⟩
      have hm : us.getD m tP2.d = zs.getD m tP2.d := w3.out (.inr (Nat.le_refl _))
      have hp3 : PartR tP2.d (fun x y : P2 => cf x y < 0) a1 b1 m us := ⟨by rw [hm]; exact w3.all (P := fun x => (fun x y : P2 => cf x y < 0) x (zs.getD m tP2.d)) hp.1, fun k k1 k2 => by rw [hm, w3.out (k := k) (.inr (by omega))]; exact hp.2 k k1 k2⟩
      have := hnx (m + 1) b1 lim (decide (((b1 : Int) - a1) / 8 ≤ (m : Int) - a1)) bb h3 ⟨by omega, by omega, g3, us, A3, o3, s3, w02.trans (w3.mono g1 (by omega) (by omega)).1, outR_left ho g1 g3 m1 m2 (outR_swp g1 g3 ho3 (w3.mono (Nat.le_refl _) (by omega) (by omega)).1) hp3 hs3⟩ (by omega) hl1 hl2
      rwa [show ((m + 1 : Nat) : Int) = (m : Int) + 1 by push_cast; rfl] at this
    · refine (ih (b1 - (m + 1)) (by omega) (a0 := m + 1) (b0 := b1) (Nat.le_refl _) s2 o2 hPz (by push_cast; rfl) rfl (by omega) (by omega) ⟨hl1, hl2⟩ fun q k k1 k2 => hp.2 k (by omega) k2).mono fun v h3 ⟨hv, us, A3, o3, s3, w3, hs3⟩ => ⟨hv, ?_⟩
      have hm : us.getD m tP2.d = zs.getD m tP2.d := w3.out (.inl (by omega))
      have hp3 : PartR tP2.d (fun x y : P2 => cf x y < 0) a1 b1 m us := ⟨fun k k1 k2 => by rw [hm, w3.out (k := k) (.inl (by omega))]; exact hp.1 k k1 k2, fun k k1 k2 => by rw [hm]; exact w3.all (P := fun x => ¬ (fun x y : P2 => cf x y < 0) x (zs.getD m tP2.d)) (fun k k1 k2 => hp.2 k (by omega) k2) k (by omega) k2⟩
      exact hnx a1 m lim _ bb h3 ⟨g1, m1, by omega, us, A3, o3, s3, w02.trans (w3.mono (by omega) g3 (by omega)).1, outR_right ho g1 g3 m1 m2 (outR_swp g1 g3 ho3 (w3.mono (by omega) (Nat.le_refl _) (by omega)).1) hp3 hs3⟩ (by omega) hl1 hl2
  have b4 : ∀ (a1 b1 pv : Nat) (lim : Int) (wb wp : Bool) (h' : Hp) (nx : Int × Int × Int × Bool × Bool × Unit → Hp → Prop), ZInvP2 cf h0 p n cp a0 b0 xs F a1 b1 h' → a1 ≤ pv → pv < b1 → 0 ≤ lim → lim < 1000000 →
      (∀ (a2 b2 : Nat) (l2 : Int) (wb wp : Bool) (h2 : Hp), ZInvP2 cf h0 p n cp a0 b0 xs F a2 b2 h2 → b2 - a2 < b1 - a1 → 0 ≤ l2 → l2 < 1000000 → nx ((a2 : Int), (b2 : Int), l2, wb, wp, ()) h2) → slices_pdqsortCmpFunc_2_int_b4 p n cp a1 b1 lim cmp wb wp ((b1 : Int) - a1) pv h' nx R := by
    rintro a1 b1 pv lim wb wp h' nx ⟨g1, g2, g3, ys, A1, o, s, w, ho2⟩ hv1 hv2 hl1 hl2 hnx
    have hl := o.len
    rw [slices_pdqsortCmpFunc_2_int_b4_eq]
    refine condP (fun ha => ⟨⟨by omega, by omega⟩, ?_⟩) (fun _ => b5 a1 b1 pv lim _ _ ⟨g1, g2, g3, ys, A1, o, s, w, ho2⟩ hv1 hv2 hl1 hl2 hnx)
    have hlow2 := low a1 b1 ys g1 g3 w ho2 (by omega)
    have r := o.rd s
    have hPy := w.allN hl0 hP
    have hP := hPy
    refine ldP2 (i' := a1 - 1) r (by omega) (by omega) (ldP2 (i' := pv) r rfl (by omega) ?_)
    refine hX _ _ _ _ s.ext (hP _ (by omega)) (hP _ (by omega)) fun h5 e5 => ⟨_, rfl, ?_⟩; have s := s.grow e5
    refine condN (fun hc => ?_) (fun hc => b5 a1 b1 pv lim _ _ ⟨g1, g2, g3, ys, A1, o, s, w, ho2⟩ hv1 hv2 hl1 hl2 hnx)
    refine (partitionEqualP2 hX ho s o hPy rfl rfl rfl ⟨hv1, hv2⟩ (by omega) hn).mono fun v h2 ⟨m, hv, m1, m2, zs, A2, o2, s2, w2, hp⟩ => ⟨_, hv, ?_⟩
    exact hnx m b1 lim wb wp h2 ⟨by omega, m2, g3, zs, A2, o2, s2, w.trans (w2.mono g1 g3 (by omega)).1, outR_equal ho g1 g3 (by omega) m2 (outR_swp g1 g3 ho2 w2) hp.2 (w2.all (P := fun x => ¬ (fun x y : P2 => cf x y < 0) x (ys.getD pv tP2.d)) fun k k1 k2 => ho.trans _ _ _ hc (hlow2 k k1 k2))⟩ (by omega) hl1 hl2
  have b3 : ∀ (a1 b1 pv : Nat) (hint lim : Int) (wb wp : Bool) (h' : Hp) (nx : Int × Int × Int × Bool × Bool × Unit → Hp → Prop), ZInvP2 cf h0 p n cp a0 b0 xs F a1 b1 h' → a1 ≤ pv → pv < b1 → 0 ≤ lim → lim < 1000000 →
      (∀ (a2 b2 : Nat) (l2 : Int) (wb wp : Bool) (h2 : Hp), ZInvP2 cf h0 p n cp a0 b0 xs F a2 b2 h2 → b2 - a2 < b1 - a1 → 0 ≤ l2 → l2 < 1000000 → nx ((a2 : Int), (b2 : Int), l2, wb, wp, ()) h2) → slices_pdqsortCmpFunc_2_int_b3 p n cp a1 b1 lim cmp wb wp ((b1 : Int) - a1) pv hint h' nx R := by
    rintro a1 b1 pv hint lim wb wp h' nx hI hv1 hv2 hl1 hl2 hnx
    have go := fun h2 (hI : ZInvP2 cf h0 p n cp a0 b0 xs F a1 b1 h2) => b4 a1 b1 pv lim wb wp h2 nx hI hv1 hv2 hl1 hl2 hnx
    rw [slices_pdqsortCmpFunc_2_int_b3_eq]
    refine cond_intro (fun _ => cond_intro (fun _ => condP (fun _ => ?_) fun _ => go _ hI) fun _ => go _ hI) fun _ => go _ hI
    obtain ⟨g1, g2, g3, ys, A1, o, s, w, ho2⟩ := hI
    have hl := o.len
    refine (partialInsertionSortP2 hX ho s o (w.allN hl0 hP) rfl rfl (by omega) (by omega) hn (low a1 b1 ys g1 g3 w ho2)).mono fun v h2 ⟨bb, hv, zs, A2, o2, s2, w2, hp⟩ => ⟨_, hv, cond_intro (fun hb => ?_) (fun hb => ?_)⟩
    · exact fin a1 b1 h2 ys g1 g3 w ho2 ⟨zs, A2, o2, s2, w2, hp hb⟩
    · exact go _ ⟨g1, g2, g3, zs, A2, o2, s2, w.trans (w2.mono g1 g3 (by omega)).1, outR_swp g1 g3 ho2 w2⟩
  have b2 : ∀ (a1 b1 : Nat) (lim : Int) (wb wp : Bool) (h' : Hp) (nx : Int × Int × Int × Bool × Bool × Unit → Hp → Prop), ZInvP2 cf h0 p n cp a0 b0 xs F a1 b1 h' → a1 < b1 → 0 ≤ lim → lim < 1000000 →
      (∀ (a2 b2 : Nat) (l2 : Int) (wb wp : Bool) (h2 : Hp), ZInvP2 cf h0 p n cp a0 b0 xs F a2 b2 h2 → b2 - a2 < b1 - a1 → 0 ≤ l2 → l2 < 1000000 → nx ((a2 : Int), (b2 : Int), l2, wb, wp, ()) h2) → slices_pdqsortCmpFunc_2_int_b2 p n cp a1 b1 lim cmp wb wp ((b1 : Int) - a1) h' nx R := by
    rintro a1 b1 lim wb wp h' nx ⟨g1, g2, g3, ys, A1, o, s, w, ho2⟩ hlt hl1 hl2 hnx
    have hl := o.len
    rw [slices_pdqsortCmpFunc_2_int_b2_eq]
    refine (choosePivotP2 hX ho s o (w.allN hl0 hP) rfl rfl hlt (by omega) hn).mono fun v h2 ⟨u, hint, hv, u1, u2, s⟩ => ⟨_, _, hv, condP (fun _ => ?_) (fun _ => ?_)⟩
    · refine (reverseRangeP2 s o rfl rfl (by omega) (by omega) hn).mono fun v h2 ⟨hv, zs, A2, o2, s2, w2, _⟩ => ⟨hv, ⟨by omega, by omega⟩, ⟨by omega, by omega⟩, ⟨by omega, by omega⟩, ?_⟩
      have := b3 a1 b1 ((b1 : Int) - 1 - (u - a1)).toNat 1 lim wb wp h2 nx ⟨g1, g2, g3, zs, A2, o2, s2, w.trans (w2.mono g1 g3 (by omega)).1, outR_swp g1 g3 ho2 w2⟩ (by omega) (by omega) hl1 hl2 hnx
      rwa [Int.toNat_of_nonneg (by omega)] at this
    · have := b3 a1 b1 u.toNat hint lim wb wp h2 nx ⟨g1, g2, g3, ys, A1, o, s, w, ho2⟩ (by omega) (by omega) hl1 hl2 hnx
      rwa [Int.toNat_of_nonneg (by omega)] at this
  rw [slices_pdqsortCmpFunc_2_int_b0_eq]
  refine ⟨fun st h1 => ∃ (a1 b1 : Nat), st.1 = (a1 : Int) ∧ st.2.1 = (b1 : Int) ∧ 0 ≤ st.2.2.1 ∧ st.2.2.1 < 1000000 ∧ ZInvP2 cf h0 p n cp a0 b0 xs F a1 b1 h1, fun st _ => (st.2.1 - st.1).toNat, ⟨a0, b0, rfl, rfl, hlim.1, hlim.2, Nat.le_refl _, hab, Nat.le_refl _, xs, A, o, s, .refl _, outR_start⟩, ?_⟩
  rintro ⟨_, _, lim, wb, wp, _⟩ h1 ⟨a1, b1, rfl, rfl, hl1, hl2, hI⟩
  dsimp only at hl1 hl2 ⊢
  have go := fun (l2 : Int) (h2 : Hp) (hI : ZInvP2 cf h0 p n cp a0 b0 xs F a1 b1 h2) (hlt : a1 < b1) (q1 : 0 ≤ l2) (q2 : l2 < 1000000) => b2 a1 b1 l2 wb wp h2 (fun s' h' => (∃ (a1 b1 : Nat), s'.1 = (a1 : Int) ∧ s'.2.1 = (b1 : Int) ∧ 0 ≤ s'.2.2.1 ∧ s'.2.2.1 < 1000000 ∧ ZInvP2 cf h0 p n cp a0 b0 xs F a1 b1 h') ∧ (s'.2.1 - s'.1).toNat < ((b1 : Int) - a1).toNat) hI hlt q1 q2 fun a2 b2 l2 wb wp h2 hI2 hm k1 k2 => ⟨⟨a2, b2, rfl, rfl, k1, k2, hI2⟩, by have := hI2.2.1; dsimp only; omega⟩
  have hI' := hI
  obtain ⟨g1, g2, g3, ys, A1, o, s, w, ho2⟩ := hI
  have hl := o.len
  rw [slices_pdqsortCmpFunc_2_int_b1_eq]
  refine ⟨⟨by omega, by omega⟩, condP (fun h12 => ?_) (fun h12 => condP (fun hz => ?_) (fun hz => cond_intro (fun _ => ?_) (fun _ => ?_)))⟩
  · exact (insertionSortP2 hX ho s o (w.allN hl0 hP) rfl rfl (by omega) (by omega) hn).mono fun v h2 ⟨hv, hO⟩ => ⟨hv, fin a1 b1 h2 ys g1 g3 w ho2 hO⟩
  · exact (heapSortP2 hX ho s o (w.allN hl0 hP) rfl rfl (by omega) (by omega) hn).mono fun v h2 ⟨hv, hO⟩ => ⟨hv, fin a1 b1 h2 ys g1 g3 w ho2 hO⟩
  · refine (breakPatternsP2 s o rfl rfl (by omega) (by omega) hn).mono fun v h2 ⟨hv, zs, A2, o2, s2, w2, _⟩ => ⟨hv, ⟨by omega, by omega⟩, ?_⟩
    exact go (lim - 1) h2 ⟨g1, g2, g3, zs, A2, o2, s2, w.trans (w2.mono g1 g3 (by omega)).1, outR_swp g1 g3 ho2 w2⟩ (by omega) (by omega) (by omega)
  · exact go lim h1 hI' (by omega) hl1 hl2
/-- The whole slice. -/
theorem sortP2 {h0 h : Hp} {p : Option Addr} {n cp : Nat} {xs : List P2} {A F : Bag} {cmp : Value} {cf : P2 → P2 → Int} {P : P2 → Prop} (hX : CmpP2 h0 cmp cf P) (ho : OrdP (fun x y : P2 => cf x y < 0)) (s : St h0 h (A + F)) (o : Sl tP2 p n cp xs A) (hP : ∀ k, k < n → P (xs.getD k tP2.d)) (hn : n < 1000000) :
    HCalls Try.prog 39 #[.slice p n cp, cmp] h (fun v h' => v = .tuple #[] ∧ ∃ ys A', Sl tP2 p n cp ys A' ∧ St h0 h' (A' + F) ∧ ys.Perm xs ∧ ys.Pairwise (fun x y => ¬ (fun x y : P2 => cf x y < 0) y x)) := by
  refine slices_SortFunc_2_int_2_int_call ?_
  rw [slices_SortFunc_2_int_2_int_b0_eq, wrap_u64_in _ (by omega) (by omega)]
  refine (bitsLen_ok n (by omega) h).mono fun v h1 ⟨hv, hh⟩ => ⟨_, hv, ?_⟩
  subst hh
  have hl : blen n ≤ 20 := blen_le (by omega)
  refine (pdqP2 hX ho hn n (a0 := 0) (b0 := n) (by omega) s o hP rfl rfl (by omega) (Nat.le_refl _) ⟨by omega, by omega⟩ (fun h => by omega)).mono fun v h2 ⟨hv, ys, A', o2, s2, w, hs⟩ => ⟨hv, rfl, ys, A', o2, s2, w.perm, srtR_pairwise o2.len hs⟩
end Go.Proofs.Ytfkimbdjgadelaa

/- A wavelet tree: Top. -/
set_option maxRecDepth 100000
namespace Go.Proofs.Ytfkimbdjgadelaa
open Go Go.Sx
theorem ok_p2 : ElOk tP2 Try.prog 36 := elB_spec (by kernel_rfl)
theorem Or_w {h : Hp} {b : Nat} {x y : Int} (cb : Blk h b [.int .i64 x, .int .i64 y] 3) : HCalls Try.prog 41 #[.slice (some ⟨b, 0, none⟩) 2 2] h (fun v h' => v = .int .i64 (if x ≠ 0 then x else y) ∧ h' = h) := by
  refine cmp_Or_int_call ?_
  rw [cmp_Or_int_b0_eq]
  refine ⟨fun i h1 => h1 = h ∧ ∃ i' : Nat, i.1 = i' ∧ i' ≤ 2 ∧ (0 < i' → x = 0) ∧ (1 < i' → y = 0), fun i _ => (2 - i.1).toNat, ⟨rfl, 0, rfl, by omega, fun h => by omega, fun h => by omega⟩, ?_⟩
  rintro ⟨_, _⟩ h1 ⟨rfl, i, rfl, hi, hx, hy⟩
  dsimp only
  rw [cmp_Or_int_b1_eq]
  refine condP (fun hlt => ?_) (fun hge => ?_)
  · refine ⟨⟨by omega, by omega⟩, ?_⟩
    rcases (by omega : i = 0 ∨ i = 1) with rfl | rfl
    · refine ⟨x, ?_, ?_⟩
      · have := cb.cell 0
        exact this
      · refine condN (fun h2 => ⟨by rw [if_pos h2], rfl⟩) (fun h2 => ?_)
        rw [cmp_Or_int_b2_eq]
        exact ⟨⟨by omega, by omega⟩, ⟨rfl, 1, rfl, by omega, fun _ => h2, fun h => by omega⟩, by dsimp only; omega⟩
    · have hx0 := hx (by omega)
      refine ⟨y, ?_, ?_⟩
      · have := cb.cell 1
        exact this
      · refine condN (fun h2 => ⟨by rw [if_neg (by omega)], rfl⟩) (fun h2 => ?_)
        rw [cmp_Or_int_b2_eq]
        exact ⟨⟨by omega, by omega⟩, ⟨rfl, 2, rfl, by omega, fun _ => hx0, fun _ => h2⟩, by dsimp only; omega⟩
  · obtain rfl : i = 2 := by omega
    rw [cmp_Or_int_b3_eq]
    exact ⟨by rw [if_neg (by rw [hx (by omega)]; simp), hy (by omega)], rfl⟩
/-- The order of the most frequent values. -/
def cfT (x y : P2) : Int := if cmpI y.2 x.2 ≠ 0 then cmpI y.2 x.2 else cmpI x.1 y.1
theorem cfT_neg {x y : P2} : cfT x y < 0 ↔ y.2 < x.2 ∨ (x.2 = y.2 ∧ x.1 < y.1) := by
  unfold cfT cmpI
  repeat' split
  all_goals omega
theorem ordT : OrdP (fun x y : P2 => cfT x y < 0) := by
  constructor
  · intro x y h1 h2
    rw [cfT_neg] at h1 h2
    omega
  · intro x y z h1 h2 h3
    rw [cfT_neg] at h1 h2 h3
    omega
theorem cmpT_ok (h0 : Hp) : CmpP2 h0 (.func (.func 40) #[] #[]) cfT (fun _ => True) := by
  intro x y h K _ _ _ hK
  refine funX_of (by kernel_rfl) (wavelet_Tree_Top_c1_call ?_)
  rw [wavelet_Tree_Top_c1_b0_eq]
  have s := St.start h
  refine s.new (cs := [_, _]) fun b1 _ _ s => s.new (cs := [_, _]) fun b2 h2 x2 s => ?_
  refine ⟨⟨by omega, by omega⟩, _, s.ldB (k := 1), ⟨by omega, by omega⟩, _, s.ldB (k := 1), _, Compare_w _ _ _, ⟨by omega, by omega⟩, _, s.ldB (k := 0), ⟨by omega, by omega⟩, _, s.ldB (k := 0), _, Compare_w _ _ _, ?_⟩
  refine s.new (cs := [_, _]) fun b3 h3 x3 s => ?_
  refine (Or_w (s.find b3).blk).mono fun v h4 ⟨hv, hh⟩ => ⟨_, hv, ?_⟩
  subst hh
  exact hK _ s.ext
theorem Clip_w {h : Hp} {p : Option Addr} {n c : Nat} {xs : List P2} (r : RdT tP2 h p n xs) (hc : n ≤ c) : HCalls Try.prog 43 #[.slice p n c] h (fun v h' => h' = h ∧ v = .slice p n n) := by
  refine slices_Clip_2_int_2_int_call ?_
  rw [slices_Clip_2_int_2_int_b0_eq]
  have he := ok_p2.el
  obtain ⟨hu, inf, hinf, hsz⟩ := elemT_spec he
  have hp : (if n = 0 then p else p.map (·.add (0 * inf.size))) = p := by
    split
    · rfl
    · rw [Nat.zero_mul]; cases p <;> rfl
  refine ⟨p, n, n, ?_, rfl, rfl⟩
  unfold slC
  simp only [Instr.sliceAt, hq_bind', hq_underlying, hu, Instr.slice, Instr.sliceBounds, Option.isSome_some, if_true]
  have b1 : ∀ {y : Nat} {cd : BoundsCode} {x : Nat} {Q : Nat → Prop}, x ≤ y → Q x → hq Try.prog (Instr.sliceBound (.int .i64 (x : Int)) y cd) h Q := fun hxy hq => hq_bound ⟨by omega, by omega⟩ (by rw [Int.toNat_natCast]; exact hq)
  refine b1 hc ?_
  refine b1 (Nat.le_refl _) ?_
  simp only [hq_pure', sizeOf_hq, hinf]
  simpa using hp
/-- The values of a range, with their numbers. -/
def topL (xs : List Int) (a b : Nat) (sg : Int) (H : Nat) : List P2 := (lvs xs a b 0 sg H 0).map fun u : Nat => ((u : Int), (cR (rng xs a b) 0 u : Int))
theorem lvs_len {xs : List Int} {a b : Nat} {low high : Int} {H : Nat} : ∀ (k v : Nat), (lvs xs a b low high k v).length ≤ 2 ^ k
  | 0, v => by unfold lvs; split <;> simp
  | k + 1, v => by
    unfold lvs
    rw [List.length_append, Nat.pow_succ]
    have h1 := lvs_len (xs := xs) (a := a) (b := b) (low := low) (high := high) (H := H) k (2 * v)
    have h2 := lvs_len (xs := xs) (a := a) (b := b) (low := low) (high := high) (H := H) k (2 * v + 1)
    omega
theorem Top_w {h : Hp} {tb : Nat} {xs : List Int} {sg : Int} {H : Nat} (t : WT h tb xs sg H) (a b k : Int) :
    HCalls Try.prog 18 #[ptr tb, .int .i64 a, .int .i64 b, .int .i64 k] h (fun r h' => Ext h h' ∧ (if (0 ≤ a ∧ a ≤ b ∧ b ≤ xs.length) ∧ 0 ≤ k ∧ k ≤ 1000 then ∃ (p : Option Addr) (c : Nat) (zs : List P2), zs.Perm (topL xs a.toNat b.toNat sg H) ∧ zs.Pairwise (fun x y => ¬ cfT y x < 0) ∧ RdT tP2 h' p (zs.take k.toNat).length (zs.take k.toNat) ∧ r = .tuple #[.slice p (zs.take k.toNat).length c, .int .i64 0] else r = .tuple #[.slice none 0 0, .int .i64 2])) := by
  have hn := t.len
  have hH := t.hH
  refine wavelet_Tree_Top_call ?_
  rw [wavelet_Tree_Top_b0_eq]
  refine condNo rfl ((inside_ok t a b).mono fun r hx ⟨hr, hh⟩ => ⟨_, hr, ?_⟩)
  rw [hh]
  refine condN (fun h1 => ⟨.refl _, by rw [if_neg (fun h => h1 h.1)]⟩) (fun h1 => condP (fun h2 => ⟨.refl _, by rw [if_neg (by omega)]⟩) (fun h2 => condP (fun h3 => ⟨.refl _, by rw [if_neg (by omega)]⟩) (fun h3 => ?_)))
  simp only [if_pos (⟨h1, by omega, by omega⟩ : (0 ≤ a ∧ a ≤ b ∧ b ≤ xs.length) ∧ 0 ≤ k ∧ k ≤ 1000)]
  obtain ⟨a, rfl⟩ := Int.eq_ofNat_of_zero_le (show 0 ≤ a by omega)
  obtain ⟨b, rfl⟩ := Int.eq_ofNat_of_zero_le (show 0 ≤ b by omega)
  obtain ⟨k, rfl⟩ := Int.eq_ofNat_of_zero_le (show 0 ≤ k by omega)
  simp only [Int.toNat_natCast]
  have hab : a ≤ b := by omega
  have hb : b ≤ xs.length := by omega
  have s := St.start h
  refine s.new (cs := [_]) fun bo _ _ s => ⟨_, s.ext.cell t.cs, ?_⟩
  refine (leaves_ok tb a b 0 sg).mono fun v h4 ⟨b1, b2, b3, b4, b5, hv, s4⟩ => ⟨_, rfl, 53, #[ptr b1, ptr b4, ptr b5, ptr b2, ptr b3], hv, by kernel_rfl, fun rec HR => ?_⟩
  have s := (s.join s4).range rec
  have hlen : (lvs xs a b 0 sg H 0).length ≤ 1024 := Nat.le_trans (lvs_len (H := H) H 0) (Nat.pow_le_pow_right (by decide : 0 < 2) hH)
  unfold topL
  generalize hL : lvs xs a b 0 sg H 0 = L at *
  let f : Nat → P2 := fun u => ((u : Int), (cR (rng xs a b) 0 u : Int))
  refine HCalls.mono (K := fun _ h' => ∃ A' G, ((∃ po co Ao, Sl tP2 po L.length co ((L.take L.length).map f) Ao ∧ A' = lA rec (h4.size + 1) .ready none + (dA h4.size + (cA bo [.slice po L.length co] 36 + Ao))) ∨ False) ∧ St h h' (A' + (G + 0)))
    (by
      rw [← hL]
      exact leaves_c1_ok (F0 := 0) t hab hb (J := fun i A => ∃ po co Ao, Sl tP2 po i co (((lvs xs a b 0 sg H 0).take i).map f) Ao ∧ A = lA rec (h4.size + 1) .ready none + (dA h4.size + (cA bo [.slice po i co] 36 + Ao))) (Jx := fun A => False)
        (by
          rw [hL]
          rintro i _ F h5 hi ⟨po, co, Ao, oo, rfl⟩ s
          rw [List.length_map] at hi
          have eg : (L.map fun u => ndV xs H 0 u a b).getD i .nilFunc = ndV xs H 0 (L.getD i 0) a b := by simp [List.getD, hi]
          rw [eg]
          have hcr := cnt_rng xs 0 ((L.getD i 0 : Nat) : Int) hab
          have hle : cR (rng xs a b) 0 ((L.getD i 0 : Nat) : Int) ≤ 4096 := by
            unfold cR
            refine Nat.le_trans (List.length_filter_le _ _) ?_
            have := rng_len xs (a := a) hb
            omega
          refine HR _ _ _ _ _ _ h5 _ s.lpB ?_
          refine s.new (cs := [_, _, _, _, _, _]) fun bx h7 _ s => s.wr6 fun h8 s => ⟨s.lpB, ?_⟩
          have s := s.setLpB (rec := rec) (st := .ready) (pe := none) (st' := .busy) (pe' := none) (l := h4.size + 1)
          refine ⟨_, _, _, s.ld0, _, s.ldB, _, s.ldB, _, s.ldB, ⟨by omega, by omega⟩, ?_⟩
          have s := (s.find bx).drop.to (B := Ao + (lA rec (h4.size + 1) .busy none + (dA h4.size + (cA bo [.slice po i co] 36 + F))))
          refine push_sl ok_p2 s oo (x := f (L.getD i 0)) ?_ rfl (by omega) fun p' c' h14 Ao' oo' s => ?_
          · show _ = [Value.int .i64 ((L.getD i 0 : Nat) : Int), Value.int .i64 (cR (rng xs a b) 0 ((L.getD i 0 : Nat) : Int) : Int)]
            rw [hcr]
            congr 3
            push_cast
            omega
          · refine s.wr1 fun h15 s => ⟨s.lpB, .inl ⟨rfl, _, ⟨p', c', Ao', ?_, rfl⟩, ?_⟩⟩
            · rw [List.take_succ_eq_append_getElem hi, List.map_append]
              have : L[i] = L.getD i 0 := by simp [List.getD, hi]
              rw [this]
              exact oo'
            · have s := s.setLpB (rec := rec) (st := .busy) (pe := none) (st' := .ready) (pe' := none) (l := h4.size + 1)
              exact s.to) ⟨none, 0, 0, Sl.nil, rfl⟩ s.to) ?_
  rintro v h6 ⟨A', G, ⟨po, co, Ao, oo, rfl⟩ | hf, s⟩
  · have s2 := s.setLpB (rec := rec) (st := .ready) (pe := none) (st' := .exhausted) (pe' := none) (l := h4.size + 1)
    rw [List.take_length] at oo
    refine ⟨.ready, none, s.lpB, by simp, .inl ⟨rfl, _, _, _, s2.ld0, ?_⟩⟩
    have s2 := s2.to (B := Ao + (cA bo [.slice po L.length co] 36 + (lA rec (h4.size + 1) .exhausted none + (dA h4.size + G))))
    refine (sortP2 (cmpT_ok h) ordT s2 oo (fun _ _ => trivial) (by omega)).mono fun v h7 ⟨hv, zs, Az, oz, s, hperm, hpw⟩ => ⟨hv, _, _, _, s.ld0, _, _, _, s.ld0, ?_⟩
    have hzl := oz.len
    have hcap := oz.cap
    have em : (if (L.length : Int) < k then (L.length : Int) else (k : Int)) = ((zs.take k).length : Int) := by
      rw [List.length_take]; split <;> omega
    simp only [em]
    have hle : (zs.take k).length ≤ L.length := by rw [List.length_take]; omega
    refine ⟨⟨by omega, by omega, by omega⟩, ?_⟩
    simp only [Int.toNat_natCast, Int.toNat_zero, Nat.sub_zero, subAddr_z]
    have etk : zs.take (zs.take k).length = zs.take k := by
      rw [List.length_take, List.take_eq_take_iff]; omega
    refine (Clip_w ((oz.rd s).take hle) (by omega)).mono fun v h8 ⟨hh, hv⟩ => ⟨_, _, _, hv, ?_⟩
    subst hh
    have s3 := (s.defB (d := h4.size)).2
    refine ⟨(s.defB (d := h4.size)).1, s3.ext, po, _, zs, hperm, hpw, ?_, rfl⟩
    have rz := (oz.rd (s3.to (B := Az + (cA bo [.slice po L.length co] 36 + (lA rec (h4.size + 1) .exhausted none + (G + Bag.one (h4.size, .deferred none))))))).take hle
    rwa [etk] at rz
  · exact hf.elim
end Go.Proofs.Ytfkimbdjgadelaa

/- The reference: Fault, Height, Get, Rank, Select, Range. -/
set_option maxRecDepth 100000
namespace Go.Proofs.Ytfkimbdjgadelaa
open Go Go.Sx
theorem mem_getD {l : List Int} {i : Nat} (h : i < l.length) : l.getD i 0 ∈ l := by simp [List.getD, h]
def bad (l : List Int) (sg : Int) : Prop := sg < 1 ∨ 1024 < sg ∨ (∃ x ∈ l, x < 0 ∨ sg ≤ x)
instance (l : List Int) (sg : Int) : Decidable (bad l sg) := by unfold bad; infer_instance
def faultN (l : List Int) (sg : Int) (n : Nat) : Int := if bad l sg then 2 else if 4096 < n then 4 else 0
theorem Fault_r {h : Hp} {p : Option Addr} {n c : Nat} {l : List Int} (r : RdT TI h p n l) (hn : n < 1000000) (sg : Int) :
    HCalls Try.prog 21 #[.slice p n c, .int .i64 sg] h (fun v h' => h' = h ∧ v = .int .i64 (faultN l sg n)) := by
  have hl := r.len
  refine r22_Fault_call ?_
  rw [r22_Fault_b0_eq]
  unfold faultN
  refine condP (fun c1 => ⟨rfl, by rw [if_pos (.inl c1)]⟩) (fun c1 => condP (fun c2 => ⟨rfl, by rw [if_pos (.inr (.inl c2))]⟩) (fun c2 => ?_))
  rw [r22_Fault_b1_eq]
  refine ⟨fun i h1 => h1 = h ∧ ∃ i' : Nat, i.1 = i' ∧ i' ≤ n ∧ ∀ k, k < i' → ¬ (l.getD k 0 < 0 ∨ sg ≤ l.getD k 0), fun i _ => (n - i.1).toNat, ⟨rfl, 0, rfl, by omega, fun k hk => by omega⟩, ?_⟩
  rintro ⟨_, _⟩ h1 ⟨rfl, i, rfl, hi, hall⟩
  dsimp only
  rw [r22_Fault_b2_eq]
  refine condP (fun hlt => ?_) (fun hge => ?_)
  · have hil : i < l.length := by omega
    have hmem := mem_getD hil
    refine r.int (by omega) (by omega) ?_
    rw [Int.toNat_natCast]
    refine condP (fun h2 => ⟨rfl, by rw [if_pos (.inr (.inr ⟨_, hmem, .inl h2⟩))]⟩) (fun h2 => ?_)
    refine r.int (by omega) (by omega) ?_
    rw [Int.toNat_natCast]
    refine condP (fun h3 => ⟨rfl, by rw [if_pos (.inr (.inr ⟨_, hmem, .inr h3⟩))]⟩) (fun h3 => ?_)
    rw [r22_Fault_b3_eq]
    refine ⟨⟨by omega, by omega⟩, ⟨rfl, i + 1, by push_cast; rfl, by omega, fun k hk => ?_⟩, by dsimp only; omega⟩
    rcases Nat.lt_or_ge k i with h4 | h4
    · exact hall k h4
    · rw [show k = i by omega]; omega
  · rw [r22_Fault_b4_eq]
    have hb : ¬ bad l sg := by
      rintro (h | h | ⟨x, hx, hbad⟩)
      · exact c1 h
      · exact c2 h
      · obtain ⟨k, hk, rfl⟩ := List.getElem_of_mem hx
        have := hall k (by omega)
        simp [List.getD, hk] at this
        omega
    rw [if_neg hb]
    exact condP (fun h4 => ⟨rfl, by rw [if_pos (by omega)]⟩) (fun h4 => ⟨rfl, by rw [if_neg (by omega)]⟩)
def inB (a b : Int) (n : Nat) : Prop := 0 ≤ a ∧ a ≤ b ∧ b ≤ n
instance (a b : Int) (n : Nat) : Decidable (inB a b n) := by unfold inB; infer_instance
end Go.Proofs.Ytfkimbdjgadelaa

/- Sorting by insertion, in plain lists. -/
namespace Go.Sx
end Go.Sx

/- The reference: Sorted. -/
set_option maxRecDepth 100000
namespace Go.Proofs.Ytfkimbdjgadelaa
open Go Go.Sx
end Go.Proofs.Ytfkimbdjgadelaa

/- The reference: Quantile, Count, Next; equality of pairs. -/
set_option maxRecDepth 100000
namespace Go.Proofs.Ytfkimbdjgadelaa
open Go Go.Sx
theorem cR_app (P Q : List Int) (x : Int) : cR (P ++ Q) 0 x = cR P 0 x + cR Q 0 x := by unfold cR; rw [List.filter_append, List.length_append]
theorem cR_perm {P Q : List Int} (h : P.Perm Q) (x : Int) : cR P 0 x = cR Q 0 x := by unfold cR; exact (h.filter _).length_eq
/-- What Next answers. -/
def NextIs (R : List Int) (low : Int) (r : Value) : Prop := (r = .tuple #[.int .i64 0, .int .i64 12] ∧ ∀ x ∈ R, x < low) ∨ ∃ v ∈ R, low ≤ v ∧ (∀ x ∈ R, low ≤ x → v ≤ x) ∧ r = .tuple #[.int .i64 v, .int .i64 0]
theorem nextIs_uniq {R : List Int} {low : Int} {r r' : Value} (h : NextIs R low r) (h' : NextIs R low r') : r = r' := by
  rcases h with ⟨rfl, h⟩ | ⟨v, hv, h1, h2, rfl⟩ <;> rcases h' with ⟨rfl, h'⟩ | ⟨v', hv', h1', h2', rfl⟩
  · rfl
  · have := h v' hv'; omega
  · have := h' v hv; omega
  · have e1 := h2 v' hv' h1'
    have e2 := h2' v hv h1
    rw [show v = v' by omega]
theorem next_spec {h : Hp} {tb : Nat} {xs : List Int} {sg : Int} {H : Nat} (t : WT h tb xs sg H) {a b : Nat} (hab : a ≤ b) {low : Int} : NextIs (rng xs a b) low (match lvs xs a b low sg H 0 with | [] => .tuple #[.int .i64 0, .int .i64 12] | v :: _ => .tuple #[.int .i64 (v : Int), .int .i64 0]) := by
  have hm : ∀ x ∈ rng xs a b, low ≤ x → ∃ u ∈ lvs xs a b low sg H 0, x = (u : Int) := fun x hx hlx => by
    have hv := t.val x (rng_mem hx)
    obtain ⟨u, rfl⟩ := Int.eq_ofNat_of_zero_le hv.1
    exact ⟨u, (lvs_mem hab H 0 u).2 ⟨t.top _ hx, hx, hlx, by omega⟩, rfl⟩
  have hi := lvs_inc (xs := xs) (low := low) (high := sg) hab H 0
  cases hL : lvs xs a b low sg H 0 with
  | nil =>
    refine .inl ⟨rfl, fun x hx => ?_⟩
    refine Classical.byContradiction fun hn => ?_
    obtain ⟨u, hu, _⟩ := hm x hx (by omega)
    rw [hL] at hu
    cases hu
  | cons v L =>
    rw [hL] at hi
    have hv := (lvs_mem hab H 0 v).1 (by rw [hL]; exact List.mem_cons_self)
    refine .inr ⟨_, hv.2.1, hv.2.2.1, fun x hx hlx => ?_, rfl⟩
    obtain ⟨u, hu, rfl⟩ := hm x hx hlx
    rw [hL] at hu
    rcases List.mem_cons.1 hu with rfl | hu
    · omega
    · have := (List.pairwise_cons.1 hi).1 u hu
      omega
theorem neqP2 {xo yo : Operand} {a b c d : Int} {h : Hp} : eqC Try.prog .neq 42 xo yo (.agg #[.int .i64 a, .int .i64 b]) (.agg #[.int .i64 c, .int .i64 d]) h (!decide ((a, b) = (c, d))) := by
  have e : (!decide ((a, b) = (c, d))) = !(decide (a = c) && (decide (b = d) && true)) := by simp
  rw [e]
  exact (eqC_array (xs := [.int .i64 a, .int .i64 b]) (ys := [.int .i64 c, .int .i64 d]) (n := 2) (e := 3) (by kernel_rfl) (by kernel_rfl) (by kernel_rfl) (by kernel_rfl)).2 rfl
theorem EqualP2 {h : Hp} {p q : Option Addr} {n m c d : Nat} {xs ys : List P2} (r1 : RdT tP2 h p n xs) (r2 : RdT tP2 h q m ys) (hn : n ≤ 1000000000) :
    HCalls Try.prog 20 #[.slice p n c, .slice q m d] h (fun v h' => h' = h ∧ v = .bool (decide (xs = ys))) := by
  have l1 := r1.len
  have l2 := r2.len
  refine slices_Equal_2_int_2_int_call ?_
  rw [slices_Equal_2_int_2_int_b0_eq]
  refine condN (fun hl => ?_) (fun hl => ?_)
  · exact ⟨rfl, by rw [decide_eq_false (fun h => hl (by subst h; omega))]⟩
  refine ⟨fun x h' => h' = h ∧ ∃ i : Nat, x.1 = i ∧ i ≤ n ∧ ∀ j, j < i → xs.getD j (0, 0) = ys.getD j (0, 0), fun x _ => n - x.1.toNat, ⟨rfl, 0, rfl, by omega, fun j hj => by omega⟩, ?_⟩
  rintro ⟨_, _⟩ h1 ⟨rfl, i, rfl, hin, heq⟩
  dsimp only
  rw [slices_Equal_2_int_2_int_b1_eq]
  refine condP (fun hlt => ?_) (fun hge => ?_)
  · refine ⟨⟨by omega, by omega⟩, ?_⟩
    refine (r1.idx (by omega) (by omega) fun _ _ hc => ⟨_, _, hc 0 (show 0 < 2 by decide), hc 1 (show 1 < 2 by decide), ?_⟩).2
    refine r2.idx (by omega) (by omega) fun _ _ hc => ⟨_, _, hc 0 (show 0 < 2 by decide), hc 1 (show 1 < 2 by decide), ?_⟩
    rw [Int.toNat_natCast]
    refine ⟨_, neqP2, condN (fun hne => ?_) (fun he => ?_)⟩
    · exact ⟨rfl, by rw [decide_eq_false (fun h => hne (by rw [h]))]⟩
    · rw [slices_Equal_2_int_2_int_b2_eq]
      refine ⟨⟨by omega, by omega⟩, ⟨rfl, i + 1, by simp only; omega, by omega, fun j hj => ?_⟩, by simp only; omega⟩
      rcases Nat.lt_or_ge j i with h1 | h1
      · exact heq j h1
      · obtain rfl : j = i := by omega
        exact he
  · rw [slices_Equal_2_int_2_int_b3_eq]
    exact ⟨rfl, by rw [decide_eq_true (list_eq_of (d := (0, 0)) (by omega) (fun t ht => heq t (by omega)))]⟩
end Go.Proofs.Ytfkimbdjgadelaa

/- The reference: Top. -/
set_option maxRecDepth 100000
namespace Go.Proofs.Ytfkimbdjgadelaa
open Go Go.Sx
/-- The values of a list, ascending, with their numbers. -/
structure GI (T : List Int) (gs : List P2) : Prop where
  inc : gs.Pairwise (fun g g' => g.1 < g'.1)
  num : ∀ g ∈ gs, g.2 = (cR T 0 g.1 : Nat) ∧ g.1 ∈ T
  all : ∀ x ∈ T, ∃ g ∈ gs, g.1 = x
theorem cR_one (x y : Int) : cR [y] 0 x = if y = x then 1 else 0 := by
  unfold cR
  rw [List.filter_cons, up_zero]
  simp only [decide_eq_true_eq]
  split <;> rfl
theorem GI.nil : GI [] [] := ⟨.nil, fun _ h => by simp at h, fun _ h => by simp at h⟩
theorem GI.new {T : List Int} {gs : List P2} {y : Int} (h : GI T gs) (hy : ∀ x ∈ T, x < y) : GI (T ++ [y]) (gs ++ [(y, 1)]) := by
  have c0 : cR T 0 y = 0 := by
    rcases Nat.eq_zero_or_pos (cR T 0 y) with h0 | h0
    · exact h0
    · have := hy y (cR_pos.1 h0); omega
  refine ⟨?_, ?_, ?_⟩
  · rw [List.pairwise_append]
    refine ⟨h.inc, List.pairwise_singleton _ _, fun g hg g' hg' => ?_⟩
    rw [List.mem_singleton.1 hg']
    exact hy _ (h.num g hg).2
  · intro g hg
    rw [cR_app, cR_one]
    rcases List.mem_append.1 hg with hg | hg
    · have h1 := h.num g hg
      have := hy _ h1.2
      rw [if_neg (by omega)]
      exact ⟨h1.1, List.mem_append.2 (.inl h1.2)⟩
    · rw [List.mem_singleton.1 hg]
      simp [c0]
  · intro x hx
    rcases List.mem_append.1 hx with hx | hx
    · obtain ⟨g, hg, e⟩ := h.all x hx
      exact ⟨g, List.mem_append.2 (.inl hg), e⟩
    · exact ⟨(y, 1), List.mem_append.2 (.inr (List.mem_singleton.2 rfl)), (List.mem_singleton.1 hx).symm⟩
theorem GI.more {T : List Int} {P : List P2} {x c : Int} (h : GI T (P ++ [(x, c)])) : GI (T ++ [x]) (P ++ [(x, c + 1)]) := by
  have hi := h.inc
  rw [List.pairwise_append] at hi
  have hx := h.num (x, c) (by simp)
  refine ⟨?_, ?_, ?_⟩
  · rw [List.pairwise_append]
    exact ⟨hi.1, List.pairwise_singleton _ _, fun g hg g' hg' => by
      rw [List.mem_singleton.1 hg']
      exact hi.2.2 g hg (x, c) (List.mem_singleton.2 rfl)⟩
  · intro g hg
    rw [cR_app, cR_one]
    rcases List.mem_append.1 hg with hg | hg
    · have h1 := h.num g (List.mem_append.2 (.inl hg))
      have h2 := hi.2.2 g hg (x, c) (List.mem_singleton.2 rfl)
      rw [if_neg (by have : g.1 < x := h2; omega)]
      exact ⟨h1.1, List.mem_append.2 (.inl h1.2)⟩
    · rw [List.mem_singleton.1 hg]
      refine ⟨?_, List.mem_append.2 (.inl hx.2)⟩
      have := hx.1
      simp only [if_true] at this ⊢
      omega
  · intro z hz
    have hz : z ∈ T := by
      rcases List.mem_append.1 hz with hz | hz
      · exact hz
      · rw [List.mem_singleton.1 hz]; exact hx.2
    obtain ⟨g, hg, e⟩ := h.all z hz
    rcases List.mem_append.1 hg with hg | hg
    · exact ⟨g, List.mem_append.2 (.inl hg), e⟩
    · rw [List.mem_singleton.1 hg] at e
      exact ⟨(x, c + 1), by simp, e⟩
theorem GI.last {T : List Int} {gs : List P2} {x : Int} (h : GI T gs) (hx : x ∈ T) (hm : ∀ z ∈ T, z ≤ x) : ∃ P c, gs = P ++ [(x, c)] := by
  obtain ⟨g, hg, e⟩ := h.all x hx
  rcases List.eq_nil_or_concat gs with rfl | ⟨P, l, rfl⟩
  · cases hg
  · rw [List.concat_eq_append] at *
    have hl := hm _ (h.num l (by simp)).2
    have hi := h.inc
    rw [List.pairwise_append] at hi
    rcases List.mem_append.1 hg with hg | hg
    · have := hi.2.2 g hg l (List.mem_singleton.2 rfl)
      omega
    · have := List.mem_singleton.1 hg
      subst this
      exact ⟨P, g.2, by rw [← e]⟩
theorem GI.perm {T T' : List Int} {gs : List P2} (h : GI T gs) (p : T.Perm T') : GI T' gs :=
  ⟨h.inc, fun g hg => ⟨by rw [← cR_perm p]; exact (h.num g hg).1, p.mem_iff.1 (h.num g hg).2⟩, fun x hx => h.all x (p.mem_iff.2 hx)⟩
/-- Two lists with the same members, strictly ordered. -/
theorem strict_ext {α : Type} {R : α → α → Prop} (ha : ∀ a b, R a b → ¬ R b a) : ∀ {l l' : List α}, l.Pairwise R → l'.Pairwise R → (∀ x, x ∈ l ↔ x ∈ l') → l = l'
  | [], [], _, _, _ => rfl
  | [], b :: l', _, _, h => by have := (h b).2 List.mem_cons_self; cases this
  | a :: l, [], _, _, h => by have := (h a).1 List.mem_cons_self; cases this
  | a :: l, b :: l', h1, h2, h => by
    rw [List.pairwise_cons] at h1 h2
    have e : a = b := by
      rcases List.mem_cons.1 ((h a).1 List.mem_cons_self) with e | e
      · exact e
      · rcases List.mem_cons.1 ((h b).2 List.mem_cons_self) with e' | e'
        · exact e'.symm
        · exact absurd (h1.1 b e') (ha _ _ (h2.1 a e))
    subst e
    rw [strict_ext ha h1.2 h2.2 fun x => ?_]
    constructor
    · intro hx
      rcases List.mem_cons.1 ((h x).1 (List.mem_cons_of_mem _ hx)) with rfl | e
      · exact absurd (h1.1 x hx) (ha _ _ (h1.1 x hx))
      · exact e
    · intro hx
      rcases List.mem_cons.1 ((h x).2 (List.mem_cons_of_mem _ hx)) with rfl | e
      · exact absurd (h2.1 x hx) (ha _ _ (h2.1 x hx))
      · exact e
theorem GI.uniq {T : List Int} {gs gs' : List P2} (h : GI T gs) (h' : GI T gs') : gs = gs' := by
  have key : ∀ {gs gs' : List P2}, GI T gs → GI T gs' → ∀ x, x ∈ gs → x ∈ gs' := fun h h' x hx => by
    obtain ⟨h1, h2⟩ := h.num x hx
    obtain ⟨g, hg, e⟩ := h'.all _ h2
    have h3 := (h'.num g hg).1
    rw [e] at h3
    have : x = g := by
      obtain ⟨a, b⟩ := x
      obtain ⟨c, d⟩ := g
      dsimp only at *
      rw [e, h1, h3]
    rw [this]; exact hg
  exact strict_ext (fun a b h1 h2 => by omega) h.inc h'.inc fun x => ⟨key h h' x, key h' h x⟩
/-- The order of the most frequent values is a strict one. -/
theorem top_strict {T : List Int} {gs zs : List P2} (h : GI T gs) (hp : zs.Perm gs) (hw : zs.Pairwise (fun x y => ¬ cfT y x < 0)) : zs.Pairwise (fun x y => cfT x y < 0) := by
  have hd : (gs.map Prod.fst).Nodup := by
    rw [List.nodup_iff_pairwise_ne, List.pairwise_map]
    exact h.inc.imp fun h => by omega
  have hd2 : (zs.map Prod.fst).Nodup := (hp.map _).nodup_iff.2 hd
  rw [List.nodup_iff_pairwise_ne, List.pairwise_map] at hd2
  exact (hw.and hd2).imp fun ⟨h1, h2⟩ => by rw [cfT_neg] at h1 ⊢; omega
theorem top_uniq {T : List Int} {gs zs zs' : List P2} (h : GI T gs) (hp : zs.Perm gs) (hw : zs.Pairwise (fun x y => ¬ cfT y x < 0)) (hp' : zs'.Perm gs) (hw' : zs'.Pairwise (fun x y => ¬ cfT y x < 0)) : zs = zs' :=
  strict_ext (fun a b h1 h2 => by rw [cfT_neg] at h1 h2; omega) (top_strict h hp hw) (top_strict h hp' hw') fun x => by rw [hp.mem_iff, hp'.mem_iff]
theorem topL_GI {h : Hp} {tb : Nat} {xs : List Int} {sg : Int} {H : Nat} (t : WT h tb xs sg H) {a b : Nat} (hab : a ≤ b) : GI (rng xs a b) (topL xs a b sg H) := by
  have hm := lvs_mem (xs := xs) (low := 0) (high := sg) hab H 0
  unfold topL
  refine ⟨?_, ?_, ?_⟩
  · rw [List.pairwise_map]
    exact (lvs_inc hab H 0).imp fun h => by dsimp only; omega
  · intro g hg
    obtain ⟨u, hu, rfl⟩ := List.mem_map.1 hg
    exact ⟨rfl, ((hm u).1 hu).2.1⟩
  · intro x hx
    have hv := t.val x (rng_mem hx)
    obtain ⟨u, rfl⟩ := Int.eq_ofNat_of_zero_le hv.1
    exact ⟨_, List.mem_map.2 ⟨u, (hm u).2 ⟨t.top _ hx, hx, by omega, by omega⟩, rfl⟩, rfl⟩
end Go.Proofs.Ytfkimbdjgadelaa

/- The reference: Top, the walk. -/
set_option maxRecDepth 100000
namespace Go.Proofs.Ytfkimbdjgadelaa
open Go Go.Sx
end Go.Proofs.Ytfkimbdjgadelaa

/- The reference: Top, whole. -/
set_option maxRecDepth 100000
namespace Go.Proofs.Ytfkimbdjgadelaa
open Go Go.Sx
theorem take_get {S : List Int} {i : Nat} {x : Int} (h : x ∈ S.take i) : ∃ j, j < i ∧ j < S.length ∧ x = S.getD j 0 := by
  obtain ⟨j, hj, rfl⟩ := List.getElem_of_mem h
  rw [List.length_take] at hj
  refine ⟨j, by omega, by omega, ?_⟩
  rw [List.getElem_take]
  simp [List.getD, show j < S.length by omega]
end Go.Proofs.Ytfkimbdjgadelaa

/- The laws' own helpers: long, made, awake. -/
set_option maxRecDepth 100000
namespace Go.Proofs.Ytfkimbdjgadelaa
open Go Go.Sx
def longB (n : Nat) : Bool := decide ((60 < n ∧ n ≤ 4096) ∨ 5000 < n)
theorem Long_r {h : Hp} {p : Option Addr} {n c : Nat} : HCalls Try.prog 10 #[.slice p n c] h (fun v h' => h' = h ∧ v = .bool (longB n)) := by
  refine l22_long_call ?_
  rw [l22_long_b0_eq]
  have e : ∀ {P Q : Prop} [Decidable P] [Decidable Q], (P ↔ Q) → Value.bool (decide P) = Value.bool (decide Q) := fun h => by rw [decide_eq_decide.2 h]
  unfold longB
  refine condP (fun h1 => condP (fun h2 => ⟨rfl, ?_⟩) (fun h2 => ⟨rfl, e (by omega)⟩)) (fun h1 => ⟨rfl, e (by omega)⟩)
  rw [decide_eq_true (by omega)]
theorem Made_r {h : Hp} {p : Option Addr} {n c : Nat} {l : List Int} (r : RdT TI h p n l) (hn : n < 1000000) (sg : Int) :
    HCalls Try.prog 11 #[.slice p n c, .int .i64 sg] h (fun v h' => Ext h h' ∧ ((faultN l sg n ≠ 0 ∧ v = .tuple #[.pointer none, .bool true]) ∨ (faultN l sg n = 0 ∧ n ≤ 4096 ∧ 1 ≤ sg ∧ sg ≤ 1024 ∧ ∃ tb H, v = .tuple #[ptr tb, .bool true] ∧ IsH sg H ∧ WT h' tb l sg H ∧ ∃ A, St h h' A ∧ Held A fun g => WT g tb l sg H))) := by
  refine l22_made_call ?_
  rw [l22_made_b0_eq]
  refine (Make_w r hn sg).mono fun v h1 ⟨x1, hv⟩ => ?_
  have hF := Fault_r (c := c) (r.ext x1) hn sg
  by_cases hb : bad l sg
  · have hf : faultN l sg n = 2 := by unfold faultN; rw [if_pos hb]
    unfold bad at hb
    rw [if_pos hb] at hv
    subst hv
    refine ⟨_, _, rfl, hF.mono fun v h2 ⟨hh, hv⟩ => ⟨_, hv, ?_⟩⟩
    subst hh
    rw [hf]
    exact ⟨x1, .inl ⟨by decide, rfl⟩⟩
  · have hb' := hb
    unfold bad at hb'
    rw [if_neg hb'] at hv
    by_cases h4 : 4096 < n
    · have hf : faultN l sg n = 4 := by unfold faultN; rw [if_neg hb, if_pos h4]
      rw [if_pos h4] at hv
      subst hv
      refine ⟨_, _, rfl, hF.mono fun v h2 ⟨hh, hv⟩ => ⟨_, hv, ?_⟩⟩
      subst hh
      rw [hf]
      exact ⟨x1, .inl ⟨by decide, rfl⟩⟩
    · have hf : faultN l sg n = 0 := by unfold faultN; rw [if_neg hb, if_neg h4]
      rw [if_neg h4] at hv
      obtain ⟨tb, H, rfl, hH, t⟩ := hv
      refine ⟨_, _, rfl, hF.mono fun v h2 ⟨hh, hv⟩ => ⟨_, hv, ?_⟩⟩
      subst hh
      rw [hf]
      refine condNo rfl (condNo rfl ?_)
      rw [l22_made_b1_eq]
      refine ⟨x1, .inr ⟨rfl, by omega, ?_, ?_, tb, H, rfl, hH, t⟩⟩
      · exact Classical.byContradiction fun h => hb' (.inl (by omega))
      · exact Classical.byContradiction fun h => hb' (.inr (.inl (by omega)))
/-- The example of the laws. -/
abbrev exL : List Int := [3, 1, 4, 1, 5]
theorem awake_q {x : Int} (h : IsQ (rng exL 0 5) 2 x) : x = 3 := isQ_uniq h (by unfold IsQ; decide)
theorem Awake_r (h : Hp) : HCalls Try.prog 9 #[] h (fun v h' => Ext h h' ∧ v = .bool true) := by
  refine l22_awake_call ?_
  rw [l22_awake_b0_eq]
  refine (St.start h).new (cs := [_, _, _, _, _]) fun b h1 x1 s => ?_
  have o : Sl TI (some ⟨b, 0, none⟩) 5 5 exL (cA b [.int .i64 3, .int .i64 1, .int .i64 4, .int .i64 1, .int .i64 5] 3) := Sl.of_blk (T := TI) (n := 5) (xs := exL) rfl (cs := [.int .i64 3, .int .i64 1, .int .i64 4, .int .i64 1, .int .i64 5]) rfl
  refine (Make_w (o.rd s) (by decide) 6).mono fun v h2 ⟨x2, hv⟩ => ?_
  rw [if_neg (by decide), if_neg (by decide)] at hv
  obtain ⟨tb, H, rfl, hH, t, _⟩ := hv
  have h3 : IsH 6 3 := by unfold IsH; decide
  obtain rfl := isH_uniq hH h3
  have x := x1.trans x2
  refine ⟨_, _, rfl, condNo rfl (condNo rfl ?_)⟩
  refine (Len_w t).mono fun v h3 ⟨hv, hh⟩ => ⟨_, hv, condNo rfl ?_⟩
  subst hh
  refine (Space_w t).mono fun v h3 ⟨hv, hh⟩ => ⟨_, hv, condNo rfl ?_⟩
  subst hh
  rw [l22_awake_b1_eq]
  refine (Rank_w t 1 4).mono fun v h4 ⟨hv, x4⟩ => ?_
  rw [if_pos (by decide)] at hv
  refine ⟨_, _, hv, ?_⟩
  have t := t.ext x4
  have x := x.trans x4
  refine (Select_w t 1 1).mono fun v h5 ⟨x5, hv⟩ => ?_
  rw [if_pos (by decide), if_pos (by decide)] at hv
  obtain ⟨q, hq, hq1, hq2, rfl⟩ := hv
  obtain rfl : q = 3 := by
    have : q < 5 := hq
    rcases (by omega : q = 0 ∨ q = 1 ∨ q = 2 ∨ q = 3 ∨ q = 4) with rfl | rfl | rfl | rfl | rfl
    · exact absurd hq1 (by decide)
    · exact absurd hq2 (by decide)
    · exact absurd hq1 (by decide)
    · rfl
    · exact absurd hq1 (by decide)
  refine ⟨_, _, rfl, ?_⟩
  have t := t.ext x5
  have x := x.trans x5
  refine (Quantile_w t 0 5 2).mono fun v h6 ⟨x6, hv⟩ => ?_
  rw [if_pos (by decide)] at hv
  obtain ⟨z, hz, rfl⟩ := hv
  obtain rfl := awake_q hz
  refine ⟨_, _, rfl, ?_⟩
  have t := t.ext x6
  have x := x.trans x6
  refine (Count_w t 1 5 1 4).mono fun v h7 ⟨x7, hv⟩ => ?_
  rw [if_pos (by decide)] at hv
  refine ⟨_, _, hv, ?_⟩
  have t := t.ext x7
  have x := x.trans x7
  refine (Next_w t 0 5 2).mono fun v h8 ⟨x8, hv⟩ => ?_
  rw [if_pos (by decide)] at hv
  have hnx : v = .tuple #[.int .i64 3, .int .i64 0] := by
    refine nextIs_uniq (R := rng exL 0 5) (low := 2) (by rw [hv]; exact next_spec t (by decide)) (.inr ⟨3, by decide, by decide, by decide, rfl⟩)
  refine ⟨_, _, hnx, ?_⟩
  have t := t.ext x8
  have x := x.trans x8
  refine (Top_w t 0 5 2).mono fun v h9 ⟨x9, hv⟩ => ?_
  rw [if_pos (by decide)] at hv
  obtain ⟨p, c, zs, hp, hw, hr, rfl⟩ := hv
  have g := topL_GI t (a := 0) (b := 5) (by decide)
  have hzs : zs = [(1, 2), (3, 1), (4, 1), (5, 1)] := by
    have g2 : GI (rng exL 0 5) [(1, 2), (3, 1), (4, 1), (5, 1)] := ⟨by decide, by decide, by decide⟩
    have e := g.uniq g2
    refine top_uniq g hp hw (by rw [e]) ?_
    decide
  subst hzs
  refine ⟨_, _, _, _, rfl, ?_⟩
  refine condYes rfl (condYes rfl (condYes rfl (condYes rfl (condYes rfl (condYes rfl (condYes rfl (condYes rfl (condYes rfl (condYes rfl (condYes rfl ?_))))))))))
  have x := x.trans x9
  refine (St.start h9).new (cs := [_, _, _, _]) fun b2 h10 x10 s2 => ?_
  have o2 : Sl tP2 (some ⟨b2, 0, none⟩) 2 2 [(1, 2), (3, 1)] (cA b2 [.int .i64 1, .int .i64 2, .int .i64 3, .int .i64 1] 42) := Sl.of_blk (T := tP2) (n := 2) (xs := [(1, 2), (3, 1)]) rfl (cs := [.int .i64 1, .int .i64 2, .int .i64 3, .int .i64 1]) rfl
  refine (EqualP2 (hr.ext x10) (o2.rd s2) (by decide)).mono fun v h11 ⟨hh, hv⟩ => ⟨_, hv, ?_⟩
  subst hh
  exact ⟨x.trans x10, by rw [decide_eq_true (by rfl)]⟩
end Go.Proofs.Ytfkimbdjgadelaa

/- The laws WaveletReads, WaveletRanges, WaveletTops. -/
set_option maxRecDepth 100000
namespace Go.Proofs.Ytfkimbdjgadelaa
open Go Go.Sx
theorem long_len {n : Nat} (h : longB n = false) : n < 1000000 := by
  unfold longB at h
  rw [decide_eq_false_iff_not] at h
  omega
end Go.Proofs.Ytfkimbdjgadelaa

/- How a slice that is handed in is read: elements of any number of cells. -/
namespace Go.Sx
open Go Go.ChangeShapes Go.WideShapes Go.Deep
section
variable {H : Type} {enc : TypeId × Value → H} {P : Program} {w : World} {base : Nat} {sp : Nat → Bool} {held : Bool} {α : Type}
theorem rd_flat {t : TypeId} (T : Ty α) {W : α → Prop} {a : Option Addr} {len cap : Nat} {d : DataW H} {ps : List MemPlace} (ht : P.underlying t = some (.slice T.e)) (hc : P.cellsOf T.e = T.sz)
    (dec : ∀ n cs x, DataW.trod enc P w base sp held n T.e cs = some x → ∃ a, cs = T.enc a ∧ W a) (h : DataW.Trod enc P w base sp held t (.slice a len cap) d ps) :
    ∃ xs : List α, RdT T w.heap a len xs ∧ len ≤ cap ∧ ∀ x ∈ xs, W x := by
  obtain ⟨fuel, hf⟩ := h
  have e0 : (Value.slice a len cap).cells.toList = [.slice a len cap] := rfl
  rw [e0] at hf
  rcases open_slice ht hf with ⟨hcs, _⟩ | ⟨x, l, c, m, n, D, Pl, hcs, _, hl, _, hm, _, hx⟩
  · injection hcs with h1 _
    injection h1 with h1 h2 h3
    subst h1 h2 h3
    exact ⟨[], RdT.nil _ _, Nat.le_refl _, fun _ h => nomatch h⟩
  · injection hcs with h1 _
    injection h1 with h1 h2 h3
    subst h1 h2 h3
    have hlm : len ≤ m := by rw [hm]; split <;> omega
    haveI : Inhabited α := ⟨T.d⟩
    obtain ⟨f, hf⟩ := choose_lt (α := α) (n := len) (p := fun i z => w.cells? base (x.add (i * T.sz)) T.sz = some (T.enc z) ∧ W z) (fun i hi => by
      obtain ⟨cs, h1, h2⟩ := hx i (by omega)
      obtain ⟨z, hz, hw⟩ := dec n cs _ h2
      rw [hc] at h1
      exact ⟨z, by rw [h1, hz], hw⟩)
    refine ⟨(List.range len).map f, ⟨by simp, .inr ⟨x, rfl, fun i hi => ?_⟩⟩, hl, fun z hz => ?_⟩
    · have hp := T.pos
      have hdm : T.sz * (i / T.sz) + i % T.sz = i := Nat.div_add_mod i T.sz
      have hq : i / T.sz < len := (Nat.div_lt_iff_lt_mul hp).2 hi
      have hr : i % T.sz < T.sz := Nat.mod_lt _ hp
      obtain ⟨_, _, h3⟩ := World.cells?_some (hf _ hq).1
      have h4 := h3 _ hr
      have e1 : i / T.sz * T.sz + i % T.sz = i := by rw [Nat.mul_comm]; exact hdm
      rw [add_add, e1] at h4
      show cell w.heap (x.add i) = _
      rw [← cell_eq, h4]
      have := T.cells_get ((List.range len).map f) (i := i / T.sz) (j := i % T.sz) (by simpa using hq) hr
      rw [e1] at this
      rw [this]
      simp [List.getD, hq]
    · obtain ⟨i, hi, rfl⟩ := List.mem_map.1 hz
      exact (hf i (List.mem_range.1 hi)).2
theorem dec_int {e : TypeId} {k : IntKind} (he : P.underlying e = some (.int k)) (n : Nat) (cs : List Value) (x : DataW H × List MemPlace) (h : DataW.trod enc P w base sp held n e cs = some x) : ∃ z, cs = [.int k z] ∧ (Lit.int k z).wf = true := by
  obtain ⟨z, h1, _, h2⟩ := DataW.trod_int he h
  exact ⟨z, h1, h2⟩
end
end Go.Sx

/- How the law's arguments are read. -/
set_option maxRecDepth 10000
namespace Go.Proofs.Ytfkimbdjgadelaa
open Go Go.Sx Go.ChangeShapes Go.WideShapes Go.ChangeAt Go.RowKit Go.Deep

theorem own : ownKnob Try.prog.godebug = none := by kernel_rfl
theorem laidOut : laidOutB Try.prog = true := by kernel_rfl
theorem below_of {P : Program} {f : FuncId} {args : Array Value} {w : World} (hc : HCalls P f args w.heap (fun v h' => v = .bool true ∧ Ext w.heap h')) :
    Calls P f args w fun e w' => e = .returned (.bool true) ∧ Below w.heap.size w w' :=
  (hc w rfl).mono fun e w' ⟨v, he, hs, hv, hx⟩ => ⟨by rw [he, hv], ⟨hs.os, hs.tape, hs.output, hx.size, hx.same⟩⟩
section
variable {H : Type} {enc : TypeId × Value → H} {w : World} {base : Nat} {held : Bool} {a : Option Addr} {len cap : Nat} {d : DataW H} {ps : List MemPlace}
theorem rd_ints (h : DataW.Trod enc Try.prog w base (fun _ => true) held 22 (.slice a len cap) d ps) : ∃ l : List Int, RdT TI w.heap a len l ∧ len ≤ cap := by
  obtain ⟨l, h1, h2, _⟩ := rd_flat (W := fun _ => True) TI Try.underlying22 (by kernel_rfl) (fun n cs x h => by
    obtain ⟨z, h1, h2⟩ := dec_int (k := .i64) (by kernel_rfl) n cs x h
    exact ⟨z, h1, trivial⟩) h
  exact ⟨l, h1, h2⟩
end
end Go.Proofs.Ytfkimbdjgadelaa

/- The law WaveletInverse. -/
set_option maxRecDepth 100000
namespace Go.Proofs.Ytfkimbdjgadelaa
open Go Go.Sx
end Go.Proofs.Ytfkimbdjgadelaa

/- The law WaveletSplits. -/
set_option maxRecDepth 100000
namespace Go.Proofs.Ytfkimbdjgadelaa
open Go Go.Sx
theorem clear_sl {α : Type} {T : Ty α} {P : Program} {t : TypeId} {h0 h : Hp} {p : Option Addr} {n c : Nat} {xs : List α} {A F : Bag} {k : Hp → Prop} (ok : ElOk T P t) (o : Sl T p n c xs A) (s : St h0 h (A + F))
    (hk : ∀ h' A', St h0 h' (A' + F) → k h') : clearV P t (.slice p n c) h k := by
  obtain ⟨hl, ⟨rfl, rfl, rfl, rfl⟩ | ⟨b, rest, rfl, hc, hr, rfl⟩⟩ := o
  · obtain ⟨i0, z, hi, hz, hzs, hzc, hbt⟩ := ok.info
    unfold clearV zeroV
    rw [ok.el]
    simp only [hi, hz, storesO]
    exact hk _ _ s
  · exact clear_st (pre := []) ok s rfl (by have := T.cells_len xs; rw [hl] at this; exact this) fun h' zs _ s' => hk _ _ s'
theorem inL_split {R : List Int} {low mid high : Int} (h1 : low ≤ mid) (h2 : mid ≤ high) : inL R low mid + inL R (mid + 1) high = inL R low high := by
  unfold inL
  induction R with
  | nil => rfl
  | cons z R ih =>
    rw [List.filter_cons, List.filter_cons, List.filter_cons]
    simp only [decide_eq_true_eq] at ih ⊢
    by_cases c1 : low ≤ z ∧ z ≤ mid
    · rw [if_pos c1, if_neg (by omega), if_pos (by omega), List.length_cons, List.length_cons]; omega
    · by_cases c2 : mid + 1 ≤ z ∧ z ≤ high
      · rw [if_neg c1, if_pos c2, if_pos (by omega), List.length_cons, List.length_cons]; omega
      · rw [if_neg c1, if_neg c2, if_neg (by omega)]; exact ih
theorem inL_app (P Q : List Int) (low high : Int) : inL (P ++ Q) low high = inL P low high + inL Q low high := by unfold inL; rw [List.filter_append, List.length_append]
theorem rng_app {l : List Int} {q n : Nat} (h : q ≤ n) : rng l 0 n = rng l 0 q ++ rng l q n := by
  have := rng_take l h
  unfold rng at *
  simpa using this
theorem inL_le (R : List Int) (low high : Int) : inL R low high ≤ R.length := List.length_filter_le _ _
theorem nilGet (h : Hp) : HCalls Try.prog 23 #[.pointer none, .int .i64 0] h (fun v h' => h' = h ∧ v = .tuple #[.int .i64 0, .int .i64 1]) := by
  refine wavelet_Tree_Get_call ?_
  rw [wavelet_Tree_Get_b0_eq]
  exact ⟨rfl, rfl⟩
theorem nilTop (h : Hp) : HCalls Try.prog 18 #[.pointer none, .int .i64 0, .int .i64 0, .int .i64 1] h (fun v h' => h' = h ∧ v = .tuple #[.slice none 0 0, .int .i64 1]) := by
  refine wavelet_Tree_Top_call ?_
  rw [wavelet_Tree_Top_b0_eq]
  exact ⟨rfl, rfl⟩
theorem nilLen (h : Hp) : HCalls Try.prog 29 #[.pointer none] h (fun v h' => h' = h ∧ v = .int .i64 0) := by
  refine wavelet_Tree_Len_call ?_
  rw [wavelet_Tree_Len_b0_eq]
  exact ⟨rfl, rfl⟩
theorem nilSpace (h : Hp) : HCalls Try.prog 30 #[.pointer none] h (fun v h' => h' = h ∧ v = .int .i64 0) := by
  refine wavelet_Tree_Space_call ?_
  rw [wavelet_Tree_Space_b0_eq]
  exact ⟨rfl, rfl⟩
theorem splits_law {h : Hp} {p : Option Addr} {n c : Nat} {l : List Int} (r : RdT TI h p n l) (sg i low mid high : Int) (hi : 0 ≤ i ∧ i ≤ 255) :
    HCalls Try.prog 8 #[.slice p n c, .int .i64 sg, .int .u8 i, .int .i64 low, .int .i64 mid, .int .i64 high] h (fun v h' => v = .bool true ∧ Ext h h') := by
  have hl := r.len
  refine l22_WaveletSplits_call ?_
  rw [l22_WaveletSplits_b0_eq]
  refine (Awake_r h).mono fun _ h1 ⟨x, hv⟩ => ⟨_, hv, condNo rfl ?_⟩
  refine Long_r.mono fun _ h2 ⟨hh, hv⟩ => ⟨_, hv, ?_⟩
  subst hh
  refine cond_intro (fun _ => ⟨rfl, x⟩) (fun hlong => ?_)
  have hn := long_len hlong
  refine (Fault_r (r.ext x) hn sg).mono fun _ h3 ⟨hh, hv⟩ => ⟨_, hv, ?_⟩
  subst hh
  refine condN (fun _ => ⟨rfl, x⟩) (fun hf => ?_)
  refine condP (fun _ => ⟨rfl, x⟩) (fun c1 => condP (fun _ => ⟨rfl, x⟩) (fun c2 => condP (fun _ => ⟨rfl, x⟩) (fun c3 => condP (fun _ => ⟨rfl, x⟩) (fun c4 => ?_))))
  rw [l22_WaveletSplits_b1_eq]
  have s := (St.start h).grow x
  refine (cloneI_w (r.ext x) hn).mono fun _ h4 ⟨q0, d, Ao, hv, o, s4⟩ => ⟨_, _, _, hv, ?_⟩
  have s := s.join s4
  refine (Made_r (c := d) (o.rd (s4.to (B := Ao + 0))) hn sg).mono fun _ h5 ⟨x5, hv⟩ => ?_
  rcases hv with ⟨hf', _⟩ | ⟨_, hn4, hs1, hs2, tb, H, rfl, hH, _, A, sA, t⟩
  · exact absurd hf hf'
  refine ⟨_, _, rfl, condNo rfl (condNo rfl ?_)⟩
  rw [l22_WaveletSplits_b2_eq]
  have s := s.join sA
  refine clear_sl ok_int o (s.to (B := Ao + (A + 0))) fun h6 A' s => ?_
  have t := t _ _ _ (s.to (B := A + (A' + 0)))
  have x := s.ext
  clear s sA o x5 s4
  refine ⟨⟨by omega, by omega⟩, ⟨by omega, by omega⟩, ?_⟩
  obtain ⟨i, rfl⟩ := Int.eq_ofNat_of_zero_le hi.1
  generalize hat : i % (n + 1) = q
  have hq : q ≤ n := by have := Nat.mod_lt i (show 0 < n + 1 by omega); omega
  refine rem_intro (by omega) (by omega) ?_
  rw [show (i : Int) % ((n : Int) + 1) = (q : Int) by rw [← hat]; push_cast; rfl]
  have z0 : Int.toNat 0 = 0 := rfl
  refine (Count_w t 0 n low high).mono fun _ h7 ⟨x7, hv⟩ => ?_
  rw [if_pos ⟨by omega, by omega, by omega⟩, Int.toNat_natCast, z0] at hv
  refine ⟨_, _, hv, ?_⟩
  have t := t.ext x7
  have x := x.trans x7
  refine (Count_w t 0 q low high).mono fun _ h8 ⟨x8, hv⟩ => ?_
  rw [if_pos ⟨by omega, by omega, by omega⟩, Int.toNat_natCast, z0] at hv
  refine ⟨_, _, hv, ?_⟩
  have t := t.ext x8
  have x := x.trans x8
  refine (Count_w t q n low high).mono fun _ h9 ⟨x9, hv⟩ => ?_
  rw [if_pos ⟨by omega, by omega, by omega⟩, Int.toNat_natCast, Int.toNat_natCast] at hv
  refine ⟨_, _, hv, ?_⟩
  have t := t.ext x9
  have x := x.trans x9
  refine (Count_w t 0 n low mid).mono fun _ h10 ⟨x10, hv⟩ => ?_
  rw [if_pos ⟨by omega, by omega, by omega⟩, Int.toNat_natCast, z0] at hv
  refine ⟨_, _, hv, ⟨by omega, by omega⟩, ?_⟩
  have t := t.ext x10
  have x := x.trans x10
  refine (Count_w t 0 n (mid + 1) high).mono fun _ h11 ⟨x11, hv⟩ => ?_
  rw [if_pos ⟨by omega, by omega, by omega⟩, Int.toNat_natCast, z0] at hv
  refine ⟨_, _, hv, ?_⟩
  have t := t.ext x11
  have x := x.trans x11
  refine condNo (by decide) (condNo (by decide) (condNo (by decide) (condNo (by decide) (condNo (by decide) ?_))))
  have e1 : inL (rng l 0 q) low high + inL (rng l q n) low high = inL (rng l 0 n) low high := by rw [rng_app hq, inL_app]
  have e2 := inL_split (R := rng l 0 n) (show low ≤ mid by omega) (show mid ≤ high by omega)
  have e3 := inL_le (rng l 0 n) low high
  rw [rng_len l (a := 0) (b := n) (by omega)] at e3
  refine ⟨⟨by omega, by omega⟩, condN (fun h => absurd (by omega) h) fun _ => ⟨⟨by omega, by omega⟩, condN (fun h => absurd (by omega) h) fun _ => ?_⟩⟩
  rw [l22_WaveletSplits_b3_eq]
  refine ⟨fun s h' => Ext h11 h' ∧ ∃ j : Nat, s.1 = j ∧ j ≤ n, fun s _ => (n - s.1).toNat, ⟨.refl _, 0, rfl, by omega⟩, ?_⟩
  rintro ⟨_, _⟩ h12 ⟨x12, j, rfl, hj⟩
  dsimp only
  have x := x.trans x12
  rw [l22_WaveletSplits_b4_eq]
  refine condP (fun hlt => ?_) (fun hge => ?_)
  · refine (r.ext x).int (by omega) (by omega) ?_
    refine (Get_w (t.ext x12) j).mono fun _ h13 ⟨hv, x13⟩ => ?_
    rw [if_pos ⟨by omega, by omega⟩] at hv
    refine ⟨_, _, hv, condNo (by decide) (condN (fun h => absurd rfl h) fun _ => ?_)⟩
    rw [l22_WaveletSplits_b5_eq]
    exact ⟨⟨by omega, by omega⟩, ⟨x12.trans x13, j + 1, by push_cast; rfl, by omega⟩, by dsimp only; omega⟩
  · rw [l22_WaveletSplits_b6_eq]
    refine (nilGet _).mono fun _ h14 ⟨hh, hv⟩ => ⟨_, _, hv, ?_⟩
    subst hh
    refine (nilTop _).mono fun _ h14 ⟨hh, hv⟩ => ⟨_, _, _, _, hv, ?_⟩
    subst hh
    refine (nilLen _).mono fun _ h14 ⟨hh, hv⟩ => ⟨_, hv, condYes rfl ?_⟩
    subst hh
    refine (nilSpace _).mono fun _ h14 ⟨hh, hv⟩ => ⟨_, hv, condYes rfl (condYes rfl ?_)⟩
    subst hh
    exact ⟨by rw [decide_eq_true rfl], x⟩
end Go.Proofs.Ytfkimbdjgadelaa
