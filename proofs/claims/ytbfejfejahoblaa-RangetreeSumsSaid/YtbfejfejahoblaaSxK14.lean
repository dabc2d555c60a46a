/- Part ST K1 K2 K3 K4 K5 K6 K7 K8 K9 K10 R1 FBG K11 K14 of the proof: contracts of functions of the program, and what follows from them. -/
import Derived.Test.YtbfejfejahoblaaSxP44
import Derived.Test.YtbfejfejahoblaaSxSI
import Derived.Deep.Slices
import Derived.OpenShut
import Derived.Test.YtbfejfejahoblaaRows
import Derived.WalkKit
import Derived.ProofKit
import Derived.ShutString
import Derived.ChangeOld
import Derived.Below
import Derived.ChangeMaps5
import Derived.Deep.Grids
/- Sorting: stable sorting. -/
set_option maxRecDepth 100000
namespace Go.Proofs.Ytbfejfejahoblaa
open Go Go.Sx
theorem insertionStablePT {h0 h : Hp} {p : Option Addr} {n cp a' b' : Nat} {a b : Int} {xs : List Pt} {A F : Bag} {cmp : Value} {cf : Pt → Pt → Int} {P : Pt → Prop} (hX : CmpPT h0 cmp cf P) (ho : OrdP (fun x y : Pt => cf x y < 0)) (s : St h0 h (A + F)) (o : Sl tPt p n cp xs A) (hP : ∀ k, k < n → P (xs.getD k tPt.d)) (ea : a = (a' : Int)) (eb : b = (b' : Int)) (ha : a' ≤ n) (hb : b' ≤ n) (hn : n < 1000000) :
    HCalls Try.prog 66 #[.slice p n cp, .int .i64 a, .int .i64 b, cmp] h (fun v h' => v = .tuple #[] ∧ OutPT h0 p n cp a' b' xs F h' (fun ys => SrtR tPt.d (fun x y : Pt => cf x y < 0) a' b' ys ∧ Stb (fun x y : Pt => cf x y < 0) xs ys)) := by
  subst ea eb
  have hl0 := o.len
  refine slices_insertionSortCmpFunc_api_Point_call ?_
  rw [slices_insertionSortCmpFunc_api_Point_b0_eq]
  refine ⟨⟨by omega, by omega⟩, fun i h1 => ∃ i' : Nat, i.1 = i' ∧ a' + 1 ≤ i' ∧ OutPT h0 p n cp a' b' xs F h1 (fun ys => SrtR tPt.d (fun x y : Pt => cf x y < 0) a' i' ys ∧ Stb (fun x y : Pt => cf x y < 0) xs ys), fun i _ => (b' - i.1).toNat, ⟨a' + 1, rfl, Nat.le_refl _, xs, A, o, s, .refl _, srtR_one (by omega), .refl _⟩, ?_⟩
  rintro ⟨_, _⟩ h1 ⟨i', rfl, hi, ys, A1, o, s, w, hs, hb2⟩
  dsimp only
  rw [slices_insertionSortCmpFunc_api_Point_b1_eq]
  refine condP (fun hlt => ?_) (fun hge => ⟨rfl, ys, A1, o, s, w, SrtR.mono hs (Nat.le_refl _) (by omega), hb2⟩)
  refine ⟨fun j h2 => ∃ j' : Nat, j.1 = j' ∧ a' ≤ j' ∧ j' ≤ i' ∧ OutPT h0 p n cp a' b' xs F h2 (fun ys => InsR tPt.d (fun x y : Pt => cf x y < 0) a' j' i' ys ∧ Stb (fun x y : Pt => cf x y < 0) xs ys), fun j _ => j.1.toNat, ⟨i', rfl, by omega, by omega, ys, A1, o, s, w, ins_start hs, hb2⟩, ?_⟩
  clear hs hb2 w s o ys
  rintro ⟨_, _⟩ h2 ⟨j', rfl, hj1, hj2, ys, A1, o, s, w, hs, hb2⟩
  dsimp only
  have hl := o.len
  have hP := w.allN hl0 hP
  have fin : ∀ h3, St h0 h3 (A1 + F) → (a' < j' → ¬ (fun x y : Pt => cf x y < 0) (ys.getD j' tPt.d) (ys.getD (j' - 1) tPt.d)) → slices_insertionSortCmpFunc_api_Point_b4 p n cp a' b' cmp i' h3 (fun s' h' => (∃ i' : Nat, s'.1 = i' ∧ a' + 1 ≤ i' ∧ OutPT h0 p n cp a' b' xs F h' (fun ys => SrtR tPt.d (fun x y : Pt => cf x y < 0) a' i' ys ∧ Stb (fun x y : Pt => cf x y < 0) xs ys)) ∧ (b' - s'.1).toNat < (b' - (i' : Int)).toNat) (fun v h' => v = .tuple #[] ∧ OutPT h0 p n cp a' b' xs F h' (fun ys => SrtR tPt.d (fun x y : Pt => cf x y < 0) a' b' ys ∧ Stb (fun x y : Pt => cf x y < 0) xs ys)) := by
    intro h3 s hx
    rw [slices_insertionSortCmpFunc_api_Point_b4_eq]
    exact ⟨⟨by omega, by omega⟩, ⟨i' + 1, by push_cast; rfl, by omega, ys, A1, o, s, w, ins_end ho hj1 hs hx, hb2⟩, by omega⟩
  rw [slices_insertionSortCmpFunc_api_Point_b2_eq]
  refine condP (fun hj => ?_) (fun hj => fin _ s fun h => by omega)
  have r := o.rd s
  refine ldPT (i' := j') r rfl (by omega) ⟨⟨by omega, by omega⟩, ldPT (i' := j' - 1) r (by omega) (by omega) ?_⟩
  refine hX _ _ _ _ s.ext (hP _ (by omega)) (hP _ (by omega)) fun h5 e5 => ⟨_, rfl, ?_⟩; have s := s.grow e5
  refine condP (fun hc => ?_) (fun hc => fin _ s fun _ => hc)
  rw [slices_insertionSortCmpFunc_api_Point_b3_eq]
  refine ⟨⟨by omega, by omega⟩, ⟨by omega, by omega⟩, ?_⟩
  refine swPT (u' := j') (v' := j' - 1) o s rfl (by omega) (by omega) (by omega) fun h6 A6 o6 s6 => ?_
  rw [slices_insertionSortCmpFunc_api_Point_b5_eq]
  exact ⟨⟨by omega, by omega⟩, ⟨j' - 1, by omega, by omega, by omega, _, A6, o6, s6, .step w (by omega) (by omega) (by omega) (by omega) (by omega), ins_swap ho (by omega) hj2 (by omega) hs hc, hb2.trans (by have := stb_swap ho (d := tPt.d) (i := j' - 1) (xs := ys) (by omega) (by rw [show j' - 1 + 1 = j' by omega]; exact hc); rwa [show j' - 1 + 1 = j' by omega] at this)⟩, by omega⟩
theorem swapRangePT {h0 h : Hp} {p : Option Addr} {n cp a' b' m' lo hi : Nat} {a b m : Int} {xs : List Pt} {A F : Bag} {cmp : Value} (s : St h0 h (A + F)) (o : Sl tPt p n cp xs A) (ea : a = (a' : Int)) (eb : b = (b' : Int)) (em : m = (m' : Int)) (h1 : lo ≤ a') (h2 : a' + m' ≤ b') (h3 : b' + m' ≤ hi) (h4 : hi ≤ n) (hn : n < 1000000) :
    HCalls Try.prog 97 #[.slice p n cp, .int .i64 a, .int .i64 b, .int .i64 m, cmp] h (fun v h' => v = .tuple #[] ∧ OutPT h0 p n cp lo hi xs F h' (SwR tPt.d a' b' m' xs)) := by
  subst ea eb em
  have hl0 := o.len
  refine slices_swapRangeCmpFunc_api_Point_call ?_
  rw [slices_swapRangeCmpFunc_api_Point_b0_eq]
  refine ⟨fun i h1 => ∃ i' : Nat, i.1 = i' ∧ i' ≤ m' ∧ OutPT h0 p n cp lo hi xs F h1 (SwR tPt.d a' b' i' xs), fun i _ => (m' - i.1).toNat, ⟨0, rfl, by omega, xs, A, o, s, .refl _, swR_zero⟩, ?_⟩
  rintro ⟨_, _⟩ h1 ⟨i', rfl, hi', ys, A1, o, s, w, hs⟩
  dsimp only
  have hl := o.len
  rw [slices_swapRangeCmpFunc_api_Point_b1_eq]
  refine condP (fun hlt => ?_) (fun hge => ?_)
  · refine ⟨⟨by omega, by omega⟩, ⟨by omega, by omega⟩, ⟨by omega, by omega⟩, ?_⟩
    refine swPTx (u' := a' + i') (v' := b' + i') ⟨by omega, by omega⟩ o s (by omega) (by omega) (by omega) (by omega) fun h6 A6 o6 s6 => ?_
    rw [slices_swapRangeCmpFunc_api_Point_b2_eq]
    exact ⟨⟨by omega, by omega⟩, ⟨i' + 1, by push_cast; rfl, by omega, _, A6, o6, s6, .step w (by omega) (by omega) (by omega) (by omega) (by omega), swR_succ (by omega) (by omega) hs⟩, by dsimp only; omega⟩
  · obtain rfl : i' = m' := by omega
    exact ⟨rfl, ys, A1, o, s, w, hs⟩
theorem rotatePT {h0 h : Hp} {p : Option Addr} {n cp a' m' b' : Nat} {a m b : Int} {xs : List Pt} {A F : Bag} {cmp : Value} (s : St h0 h (A + F)) (o : Sl tPt p n cp xs A) (ea : a = (a' : Int)) (em : m = (m' : Int)) (eb : b = (b' : Int)) (h1 : a' < m') (h2 : m' < b') (h4 : b' ≤ n) (hn : n < 1000000) :
    HCalls Try.prog 96 #[.slice p n cp, .int .i64 a, .int .i64 m, .int .i64 b, cmp] h (fun v h' => v = .tuple #[] ∧ OutPT h0 p n cp a' b' xs F h' (Rot tPt.d a' m' b' xs)) := by
  subst ea em eb
  have hl0 := o.len
  refine slices_rotateCmpFunc_api_Point_call ?_
  rw [slices_rotateCmpFunc_api_Point_b0_eq]
  refine ⟨⟨by omega, by omega⟩, ⟨by omega, by omega⟩, fun z h1 => ∃ i j : Nat, z.1 = (i : Int) ∧ z.2.1 = (j : Int) ∧ 0 < i ∧ 0 < j ∧ a' + i ≤ m' ∧ m' + j ≤ b' ∧ OutPT h0 p n cp a' b' xs F h1 (fun ys => ∀ zs, Rot tPt.d (m' - i) m' (m' + j) ys zs → Rot tPt.d a' m' b' xs zs), fun z _ => (z.1 + z.2.1).toNat,
    ⟨m' - a', b' - m', by show (m' : Int) - a' = _; omega, by show (b' : Int) - m' = _; omega, by omega, by omega, by omega, by omega, xs, A, o, s, .refl _, fun zs hz => by rwa [show m' - (m' - a') = a' by omega, show m' + (b' - m') = b' by omega] at hz⟩, ?_⟩
  rintro ⟨_, _, _⟩ h2' ⟨i, j, rfl, rfl, hi0, hj0, hi, hj, ys, A1, o, s, w, hs⟩
  dsimp only
  have hl := o.len
  rw [slices_rotateCmpFunc_api_Point_b1_eq]
  refine condN (fun hne => condP (fun hlt => ?_) (fun hge => ?_)) (fun heq => ?_)
  · refine ⟨⟨by omega, by omega⟩, (swapRangePT s o (a' := m' - i) (b' := m') (m' := j) (lo := a') (hi := b') (by omega) rfl rfl (by omega) (by omega) (by omega) h4 hn).mono fun v h3 ⟨hv, zs, A2, o2, s2, w2, hz⟩ => ⟨hv, ⟨by omega, by omega⟩, ⟨i - j, j, by show (i : Int) - j = _; omega, rfl, by omega, hj0, by omega, hj, zs, A2, o2, s2, w.trans w2, fun us hu => hs us (rot_left (by omega) (by omega) hz hu)⟩, by dsimp only; omega⟩⟩
  · refine ⟨⟨by omega, by omega⟩, ⟨by omega, by omega⟩, ⟨by omega, by omega⟩, (swapRangePT s o (a' := m' - i) (b' := m' + j - i) (m' := i) (lo := a') (hi := b') (by omega) (by omega) rfl (by omega) (by omega) (by omega) h4 hn).mono fun v h3 ⟨hv, zs, A2, o2, s2, w2, hz⟩ => ⟨hv, ⟨by omega, by omega⟩, ⟨i, j - i, rfl, by show (j : Int) - i = _; omega, hi0, by omega, hi, by omega, zs, A2, o2, s2, w.trans w2, fun us hu => hs us (rot_right (by omega) (by omega) hz hu)⟩, by dsimp only; omega⟩⟩
  · obtain rfl : i = j := by omega
    rw [slices_rotateCmpFunc_api_Point_b2_eq]
    exact ⟨⟨by omega, by omega⟩, (swapRangePT s o (a' := m' - i) (b' := m') (m' := i) (lo := a') (hi := b') (by omega) rfl rfl (by omega) (by omega) (by omega) h4 hn).mono fun v h3 ⟨hv, zs, A2, o2, s2, w2, hz⟩ => ⟨hv, rfl, zs, A2, o2, s2, w.trans w2, hs zs (rot_last (by omega) hz)⟩⟩
theorem halfPT {a b : Nat} (h : a + b < 4000000) : IntKind.u64.wrap ((a : Int) + (b : Int)) = ((a + b : Nat) : Int) := by rw [wrap_u64_in _ (by omega) (by omega)]; push_cast; rfl
theorem symMergePT {h0 : Hp} {p : Option Addr} {n cp : Nat} {F : Bag} {cmp : Value} {cf : Pt → Pt → Int} {P : Pt → Prop} (hX : CmpPT h0 cmp cf P) (ho : OrdP (fun x y : Pt => cf x y < 0)) (hn : n < 1000000) : ∀ (len a' m' b' : Nat) (a m b : Int) (h : Hp) (xs : List Pt) (A : Bag), b' - a' ≤ len → St h0 h (A + F) → Sl tPt p n cp xs A → (∀ k, k < n → P (xs.getD k tPt.d)) → a = (a' : Int) → m = (m' : Int) → b = (b' : Int) → a' < m' → m' < b' → b' ≤ n →
    SrtR tPt.d (fun x y : Pt => cf x y < 0) a' m' xs → SrtR tPt.d (fun x y : Pt => cf x y < 0) m' b' xs →
    HCalls Try.prog 93 #[.slice p n cp, .int .i64 a, .int .i64 m, .int .i64 b, cmp] h (fun v h' => v = .tuple #[] ∧ OutPT h0 p n cp a' b' xs F h' (fun ys => SrtR tPt.d (fun x y : Pt => cf x y < 0) a' b' ys ∧ Stb (fun x y : Pt => cf x y < 0) xs ys)) := by
  intro len
  induction len with
  | zero => intro a' m' b' a m b h xs A hlen; omega
  | succ len ih =>
  rintro a' m' b' _ _ _ h xs A hlen s o hP rfl rfl rfl h1 h2 h4 hs1 hs2
  have hl0 := o.len
  refine slices_symMergeCmpFunc_api_Point_call ?_
  rw [slices_symMergeCmpFunc_api_Point_b0_eq]
  refine ⟨⟨by omega, by omega⟩, condP (fun he => ?_) (fun he => ⟨⟨by omega, by omega⟩, condP (fun he2 => ?_) (fun he2 => ?_)⟩)⟩
  · obtain rfl : m' = a' + 1 := by omega
    refine ⟨fun z h1 => ∃ i j : Nat, z.1 = (i : Int) ∧ z.2.1 = (j : Int) ∧ a' + 1 ≤ i ∧ i ≤ j ∧ j ≤ b' ∧ St h0 h1 (A + F) ∧ (∀ k, a' + 1 ≤ k → k < i → (fun x y : Pt => cf x y < 0) (xs.getD k tPt.d) (xs.getD a' tPt.d)) ∧ (∀ k, j ≤ k → k < b' → ¬ (fun x y : Pt => cf x y < 0) (xs.getD k tPt.d) (xs.getD a' tPt.d)), fun z _ => (z.2.1 - z.1).toNat,
      ⟨a' + 1, b', rfl, rfl, by omega, by omega, by omega, s, fun k k1 k2 => by omega, fun k k1 k2 => by omega⟩, ?_⟩
    clear s
    rintro ⟨_, _, _⟩ h3 ⟨i, j, rfl, rfl, hi, hij, hj, s, q1, q2⟩
    dsimp only
    rw [slices_symMergeCmpFunc_api_Point_b1_eq]
    refine condP (fun hlt => ?_) (fun hge => ?_)
    · refine ⟨⟨by omega, by omega⟩, ?_⟩
      rw [halfPT (by omega)]
      refine shr_intro (x := i + j) (s := 1) rfl rfl (by decide) ?_
      rw [Nat.shiftRight_eq_div_pow, Nat.pow_one]
      obtain ⟨c, hc⟩ : ∃ c, (i + j) / 2 = c := ⟨_, rfl⟩
      rw [hc]
      have r := o.rd s
      refine ⟨⟨by omega, by omega⟩, ldPT (i' := c) r rfl (by omega) (ldPT (i' := a') r rfl (by omega) ?_)⟩
      refine hX _ _ _ _ s.ext (hP _ (by omega)) (hP _ (by omega)) fun h5 e5 => ⟨_, rfl, ?_⟩; have s := s.grow e5
      refine condP (fun hcl => ⟨⟨by omega, by omega⟩, ⟨c + 1, j, by push_cast; rfl, rfl, by omega, by omega, hj, s, fun k k1 k2 => ?_, q2⟩, by dsimp only; omega⟩) (fun hcl => ⟨⟨i, c, rfl, rfl, hi, by omega, by omega, s, q1, fun k k1 k2 => ?_⟩, by dsimp only; omega⟩)
      · rcases Nat.lt_or_ge k c with hk | hk
        · have := srtR_le ho hs2 (p := k) (q := c) k1 (by omega) (by omega)
          exact Classical.byContradiction fun hn => ho.trans _ _ _ hn this hcl
        · rw [show k = c by omega]; exact hcl
      · rcases Nat.lt_or_ge c k with hk | hk
        · have := srtR_le ho hs2 (p := c) (q := k) (by omega) (by omega) (by omega)
          exact ho.trans _ _ _ hcl this
        · rw [show k = c by omega]; exact hcl
    · obtain rfl : i = j := by omega
      rw [slices_symMergeCmpFunc_api_Point_b4_eq]
      refine ⟨fun z h1 => ∃ k : Nat, z.1 = (k : Int) ∧ a' ≤ k ∧ k + 1 ≤ i ∧ OutPT h0 p n cp a' b' xs F h1 (Rot tPt.d a' (a' + 1) (k + 1) xs), fun z _ => (i - z.1).toNat, ⟨a', rfl, by omega, by omega, xs, A, o, s, .refl _, rot_id (.inr (Nat.le_refl _)) (by omega) (by omega)⟩, ?_⟩
      rintro ⟨_, _⟩ h5 ⟨k, rfl, hk1, hk2, ys, A1, o1, s1, w, hr⟩
      dsimp only
      have hl := o1.len
      rw [slices_symMergeCmpFunc_api_Point_b7_eq]
      refine ⟨⟨by omega, by omega⟩, condP (fun hlt => ?_) (fun hge2 => ?_)⟩
      · refine ⟨⟨by omega, by omega⟩, ⟨by omega, by omega⟩, ?_⟩
        refine swPT (u' := k) (v' := k + 1) o1 s1 rfl (by push_cast; rfl) (by omega) (by omega) fun h6 A6 o6 s6 => ?_
        rw [slices_symMergeCmpFunc_api_Point_b10_eq]
        have := rot_snoc (by omega) (by omega) hr
        rw [show k + 1 - 1 = k by omega] at this
        exact ⟨⟨by omega, by omega⟩, ⟨k + 1, by push_cast; rfl, by omega, by omega, _, A6, o6, s6, .step w (by omega) (by omega) (by omega) (by omega) (by omega), this⟩, by dsimp only; omega⟩
      · obtain rfl : i = k + 1 := by omega
        have := merge_first ho hs2 hr (by omega) (by omega) (by omega) q1 q2
        exact ⟨rfl, ys, A1, o1, s1, w, this.1, this.2⟩
  · obtain rfl : b' = m' + 1 := by omega
    refine ⟨fun z h1 => ∃ i j : Nat, z.1 = (i : Int) ∧ z.2.1 = (j : Int) ∧ a' ≤ i ∧ i ≤ j ∧ j ≤ m' ∧ St h0 h1 (A + F) ∧ (∀ k, a' ≤ k → k < i → ¬ (fun x y : Pt => cf x y < 0) (xs.getD m' tPt.d) (xs.getD k tPt.d)) ∧ (∀ k, j ≤ k → k < m' → (fun x y : Pt => cf x y < 0) (xs.getD m' tPt.d) (xs.getD k tPt.d)), fun z _ => (z.2.1 - z.1).toNat,
      ⟨a', m', rfl, rfl, by omega, by omega, by omega, s, fun k k1 k2 => by omega, fun k k1 k2 => by omega⟩, ?_⟩
    clear s
    rintro ⟨_, _, _⟩ h3 ⟨i, j, rfl, rfl, hi, hij, hj, s, q1, q2⟩
    dsimp only
    rw [slices_symMergeCmpFunc_api_Point_b2_eq]
    refine condP (fun hlt => ?_) (fun hge => ?_)
    · refine ⟨⟨by omega, by omega⟩, ?_⟩
      rw [halfPT (by omega)]
      refine shr_intro (x := i + j) (s := 1) rfl rfl (by decide) ?_
      rw [Nat.shiftRight_eq_div_pow, Nat.pow_one]
      obtain ⟨c, hc⟩ : ∃ c, (i + j) / 2 = c := ⟨_, rfl⟩
      rw [hc]
      have r := o.rd s
      refine ⟨⟨by omega, by omega⟩, ldPT (i' := m') r rfl (by omega) (ldPT (i' := c) r rfl (by omega) ?_)⟩
      refine hX _ _ _ _ s.ext (hP _ (by omega)) (hP _ (by omega)) fun h5 e5 => ⟨_, rfl, ?_⟩; have s := s.grow e5
      refine condN (fun hcl => ⟨⟨by omega, by omega⟩, ⟨c + 1, j, by push_cast; rfl, rfl, by omega, by omega, hj, s, fun k k1 k2 => ?_, q2⟩, by dsimp only; omega⟩) (fun hcl => ⟨⟨i, c, rfl, rfl, hi, by omega, by omega, s, q1, fun k k1 k2 => ?_⟩, by dsimp only; omega⟩)
      · rcases Nat.lt_or_ge k c with hk | hk
        · have := srtR_le ho hs1 (p := k) (q := c) k1 (by omega) (by omega)
          exact ho.trans _ _ _ this hcl
        · rw [show k = c by omega]; exact hcl
      · rcases Nat.lt_or_ge c k with hk | hk
        · have := srtR_le ho hs1 (p := c) (q := k) (by omega) (by omega) (by omega)
          exact Classical.byContradiction fun hn => ho.trans _ _ _ this hn hcl
        · rw [show k = c by omega]; exact hcl
    · obtain rfl : i = j := by omega
      rw [slices_symMergeCmpFunc_api_Point_b5_eq]
      refine ⟨fun z h1 => ∃ k : Nat, z.1 = (k : Int) ∧ i ≤ k ∧ k ≤ m' ∧ OutPT h0 p n cp a' (m' + 1) xs F h1 (Rot tPt.d k m' (m' + 1) xs), fun z _ => (z.1 - i).toNat, ⟨m', rfl, by omega, by omega, xs, A, o, s, .refl _, rot_id (.inl (Nat.le_refl _)) (by omega) (by omega)⟩, ?_⟩
      rintro ⟨_, _⟩ h5 ⟨k, rfl, hk1, hk2, ys, A1, o1, s1, w, hr⟩
      dsimp only
      have hl := o1.len
      rw [slices_symMergeCmpFunc_api_Point_b8_eq]
      refine condP (fun hlt => ?_) (fun hge2 => ?_)
      · refine ⟨⟨by omega, by omega⟩, ⟨by omega, by omega⟩, ?_⟩
        refine swPT (u' := k) (v' := k - 1) o1 s1 rfl (by omega) (by omega) (by omega) fun h6 A6 o6 s6 => ?_
        rw [slices_symMergeCmpFunc_api_Point_b11_eq]
        exact ⟨⟨by omega, by omega⟩, ⟨k - 1, by omega, by omega, by omega, _, A6, o6, s6, .step w (by omega) (by omega) (by omega) (by omega) (by omega), rot_cons (by omega) hk2 (by omega) hr⟩, by dsimp only; omega⟩
      · obtain rfl : k = i := by omega
        have := merge_last ho hs1 hr (by omega) (by omega) (by omega) q1 q2
        exact ⟨rfl, ys, A1, o1, s1, w, this.1, this.2⟩
  · refine ⟨⟨by omega, by omega⟩, ?_⟩
    rw [halfPT (by omega)]
    refine shr_intro (x := a' + b') (s := 1) rfl rfl (by decide) ?_
    rw [Nat.shiftRight_eq_div_pow, Nat.pow_one]
    obtain ⟨mid, hmid⟩ : ∃ c, (a' + b') / 2 = c := ⟨_, rfl⟩
    rw [hmid]
    refine ⟨⟨by omega, by omega⟩, ⟨by omega, by omega⟩, ?_⟩
    -- the right half is merged
    have b13 : ∀ (e : Nat) (h5 : Hp) (ys : List Pt) (A1 : Bag), mid ≤ e → e ≤ b' → Sl tPt p n cp ys A1 → St h0 h5 (A1 + F) → Swp tPt.d a' b' xs ys → SrtR tPt.d (fun x y : Pt => cf x y < 0) a' mid ys → SrtR tPt.d (fun x y : Pt => cf x y < 0) mid e ys → SrtR tPt.d (fun x y : Pt => cf x y < 0) e b' ys → (∀ p q, a' ≤ p → p < mid → mid ≤ q → q < b' → ¬ (fun x y : Pt => cf x y < 0) (ys.getD q tPt.d) (ys.getD p tPt.d)) → Stb (fun x y : Pt => cf x y < 0) xs ys →
        slices_symMergeCmpFunc_api_Point_b13 p n cp b' cmp mid e h5 (fun v h' => v = .tuple #[] ∧ OutPT h0 p n cp a' b' xs F h' (fun ys => SrtR tPt.d (fun x y : Pt => cf x y < 0) a' b' ys ∧ Stb (fun x y : Pt => cf x y < 0) xs ys)) := by
      intro e h5 ys A1 g1 g2 o1 s1 w t1 t2 t3 t4 t5
      have hl := o1.len
      rw [slices_symMergeCmpFunc_api_Point_b13_eq]
      refine condP (fun c1 => condP (fun c2 => ?_) (fun c2 => ?_)) (fun c1 => ?_)
      · refine (ih mid e b' mid e b' h5 ys A1 (by omega) s1 o1 (w.allN hl0 hP) rfl rfl rfl (by omega) (by omega) h4 t2 t3).mono fun v h6 ⟨hv, zs, A2, o2, s2, w2, u1, u2⟩ => ⟨hv, rfl, zs, A2, o2, s2, w.trans (w2.mono (by omega) (Nat.le_refl _) (by omega)).1, srtR_join (srtR_out w2 t1 (.inl (Nat.le_refl _))) u1 (cross_right (lt := (fun x y : Pt => cf x y < 0)) w2 t4), t5.trans u2⟩
      · obtain rfl : e = b' := by omega
        exact ⟨rfl, ys, A1, o1, s1, w, srtR_join t1 t2 t4, t5⟩
      · obtain rfl : e = mid := by omega
        exact ⟨rfl, ys, A1, o1, s1, w, srtR_join t1 t3 t4, t5⟩
    -- the left half is merged
    have b12 : ∀ (st e : Nat) (h5 : Hp) (ys : List Pt) (A1 : Bag), a' ≤ st → st ≤ mid → mid ≤ e → e ≤ b' → Sl tPt p n cp ys A1 → St h0 h5 (A1 + F) → Swp tPt.d a' b' xs ys → MergeR tPt.d (fun x y : Pt => cf x y < 0) a' st mid e b' xs ys →
        slices_symMergeCmpFunc_api_Point_b12 p n cp a' b' cmp mid st e h5 (fun v h' => v = .tuple #[] ∧ OutPT h0 p n cp a' b' xs F h' (fun ys => SrtR tPt.d (fun x y : Pt => cf x y < 0) a' b' ys ∧ Stb (fun x y : Pt => cf x y < 0) xs ys)) := by
      intro st e h5 ys A1 g0 g1 g2 g3 o1 s1 w mr
      have hl := o1.len
      rw [slices_symMergeCmpFunc_api_Point_b12_eq]
      refine condP (fun c1 => condP (fun c2 => ?_) (fun c2 => ?_)) (fun c1 => ?_)
      · refine (ih a' st mid a' st mid h5 ys A1 (by omega) s1 o1 (w.allN hl0 hP) rfl rfl rfl (by omega) (by omega) (by omega) mr.s1 mr.s2).mono fun v h6 ⟨hv, zs, A2, o2, s2, w2, u1, u2⟩ => ⟨hv, b13 e h6 zs A2 g2 g3 o2 s2 (w.trans (w2.mono (Nat.le_refl _) (by omega) (by omega)).1) u1 (srtR_out w2 mr.s3 (.inr (Nat.le_refl _))) (srtR_out w2 mr.s4 (.inr g2)) (cross_left (lt := (fun x y : Pt => cf x y < 0)) w2 mr.cross) (mr.stb.trans u2)⟩
      · obtain rfl : st = mid := by omega
        exact b13 e h5 ys A1 g2 g3 o1 s1 w mr.s1 mr.s3 mr.s4 mr.cross mr.stb
      · obtain rfl : st = a' := by omega
        exact b13 e h5 ys A1 g2 g3 o1 s1 w mr.s2 mr.s3 mr.s4 mr.cross mr.stb
    -- the search for the place
    have b3 : ∀ (st r : Nat) (si : Int), si = (st : Int) → a' ≤ st → st ≤ r → r ≤ m' → r ≤ mid → mid + m' ≤ b' + st → (st = a' ∨ mid + m' = b' + st) → (r = m' ∨ r = mid) → slices_symMergeCmpFunc_api_Point_b3 p n cp a' m' b' cmp mid ((mid : Int) + m') si r h (fun v h' => v = .tuple #[] ∧ OutPT h0 p n cp a' b' xs F h' (fun ys => SrtR tPt.d (fun x y : Pt => cf x y < 0) a' b' ys ∧ Stb (fun x y : Pt => cf x y < 0) xs ys)) := by
      rintro st0 r0 _ rfl v1 v2 v3 v4 v5 v6 v7
      rw [slices_symMergeCmpFunc_api_Point_b3_eq]
      refine ⟨⟨by omega, by omega⟩, fun z h1 => ∃ i j : Nat, z.1 = (i : Int) ∧ z.2.1 = (j : Int) ∧ st0 ≤ i ∧ i ≤ j ∧ j ≤ r0 ∧ St h0 h1 (A + F) ∧ (i = st0 ∨ ¬ (fun x y : Pt => cf x y < 0) (xs.getD (mid + m' - i) tPt.d) (xs.getD (i - 1) tPt.d)) ∧ (j = r0 ∨ (fun x y : Pt => cf x y < 0) (xs.getD (mid + m' - 1 - j) tPt.d) (xs.getD j tPt.d)), fun z _ => (z.2.1 - z.1).toNat,
        ⟨st0, r0, rfl, rfl, by omega, v2, by omega, s, .inl rfl, .inl rfl⟩, ?_⟩
      clear s
      rintro ⟨_, _, _⟩ h3 ⟨i, j, rfl, rfl, hi, hij, hj, s, q1, q2⟩
      dsimp only
      rw [slices_symMergeCmpFunc_api_Point_b6_eq]
      refine condP (fun hlt => ?_) (fun hge => ?_)
      · refine ⟨⟨by omega, by omega⟩, ?_⟩
        rw [halfPT (by omega)]
        refine shr_intro (x := i + j) (s := 1) rfl rfl (by decide) ?_
        rw [Nat.shiftRight_eq_div_pow, Nat.pow_one]
        obtain ⟨c, hc⟩ : ∃ c, (i + j) / 2 = c := ⟨_, rfl⟩
        rw [hc]
        have r := o.rd s
        refine ⟨⟨by omega, by omega⟩, ⟨by omega, by omega⟩, ldPT (i' := mid + m' - 1 - c) r (by omega) (by omega) (ldPT (i' := c) r rfl (by omega) ?_)⟩
        refine hX _ _ _ _ s.ext (hP _ (by omega)) (hP _ (by omega)) fun h5 e5 => ⟨_, rfl, ?_⟩; have s := s.grow e5
        refine condN (fun hcl => ⟨⟨by omega, by omega⟩, ⟨c + 1, j, by push_cast; rfl, rfl, by omega, by omega, hj, s, .inr ?_, q2⟩, by dsimp only; omega⟩) (fun hcl => ⟨⟨i, c, rfl, rfl, hi, by omega, by omega, s, q1, .inr hcl⟩, by dsimp only; omega⟩)
        rw [show mid + m' - (c + 1) = mid + m' - 1 - c by omega, show c + 1 - 1 = c by omega]
        exact hcl
      · obtain rfl : i = j := by omega
        rw [slices_symMergeCmpFunc_api_Point_b9_eq]
        obtain ⟨e, he⟩ : ∃ e, mid + m' - i = e := ⟨_, rfl⟩
        have ee : (mid : Int) + m' - i = (e : Int) := by omega
        rw [ee]
        have mr : ∀ zs : List Pt, Rot tPt.d i m' e xs zs → MergeR tPt.d (fun x y : Pt => cf x y < 0) a' i mid e b' xs zs := fun zs hz => merge_rot ho hs1 hs2 hz (by omega) (by omega) (by omega) (by omega) (by omega) (by omega)
          (fun c1 c2 => by
            rcases q2 with q2 | q2
            · omega
            · rwa [show e - 1 = mid + m' - 1 - i by omega])
          (fun c1 c2 => by
            rcases q1 with q1 | q1
            · omega
            · rwa [← he])
        refine ⟨⟨by omega, by omega⟩, condP (fun c1 => condP (fun c2 => ?_) (fun c2 => ?_)) (fun c1 => ?_)⟩
        · refine (rotatePT s o rfl rfl rfl (by omega) (by omega) (by omega) hn).mono fun v h6 ⟨hv, zs, A2, o2, s2, w2, hz⟩ => ⟨hv, b12 i e h6 zs A2 (by omega) (by omega) (by omega) (by omega) o2 s2 (w2.mono (by omega) (by omega) (by omega)).1 (mr zs hz)⟩
        · exact b12 i e h3 xs A (by omega) (by omega) (by omega) (by omega) o s (.refl _) (mr xs (rot_id (.inr (by omega)) (by omega) (by omega)))
        · exact b12 i e h3 xs A (by omega) (by omega) (by omega) (by omega) o s (.refl _) (mr xs (rot_id (.inl (by omega)) (by omega) (by omega)))
    refine condP (fun hm => ⟨⟨by omega, by omega⟩, ?_⟩) (fun hm => ?_)
    · exact b3 (mid + m' - b') mid _ (by omega) (by omega) (by omega) (by omega) (Nat.le_refl _) (by omega) (.inr (by omega)) (.inr rfl)
    · exact b3 a' m' _ rfl (Nat.le_refl _) (by omega) (Nat.le_refl _) (by omega) (by omega) (.inl rfl) (.inl rfl)
theorem stablePT {h0 h : Hp} {p : Option Addr} {n cp : Nat} {xs : List Pt} {A F : Bag} {cmp : Value} {cf : Pt → Pt → Int} {P : Pt → Prop} (hX : CmpPT h0 cmp cf P) (ho : OrdP (fun x y : Pt => cf x y < 0)) (s : St h0 h (A + F)) (o : Sl tPt p n cp xs A) (hP : ∀ k, k < n → P (xs.getD k tPt.d)) (hn : n < 400000) :
    HCalls Try.prog 84 #[.slice p n cp, .int .i64 (n : Int), cmp] h (fun v h' => v = .tuple #[] ∧ OutPT h0 p n cp 0 n xs F h' (fun ys => SrtR tPt.d (fun x y : Pt => cf x y < 0) 0 n ys ∧ Stb (fun x y : Pt => cf x y < 0) xs ys)) := by
  have hl0 := o.len
  refine slices_stableCmpFunc_api_Point_call ?_
  rw [slices_stableCmpFunc_api_Point_b0_eq]
  refine ⟨fun z h1 => ∃ k : Nat, z.1 = ((20 * k : Nat) : Int) ∧ z.2.1 = ((20 * k + 20 : Nat) : Int) ∧ 20 * k ≤ n ∧ OutPT h0 p n cp 0 n xs F h1 (fun ys => BlkS tPt.d (fun x y : Pt => cf x y < 0) 20 0 (20 * k) ys ∧ Stb (fun x y : Pt => cf x y < 0) xs ys), fun z _ => (n - z.1).toNat, ⟨0, rfl, rfl, by omega, xs, A, o, s, .refl _, blk_start, .refl _⟩, ?_⟩
  clear s
  rintro ⟨_, _, _⟩ h1 ⟨k, rfl, rfl, hk, ys, A1, o, s, w, hb, hst⟩
  dsimp only
  have hl := o.len
  rw [slices_stableCmpFunc_api_Point_b1_eq]
  refine condP (fun hlt => ?_) (fun hge => ?_)
  · refine (insertionStablePT hX ho s o (w.allN hl0 hP) (a' := 20 * k) (b' := 20 * k + 20) rfl rfl (by omega) (by omega) (by omega)).mono fun v h2 ⟨hv, zs, A2, o2, s2, w2, u1, u2⟩ => ⟨hv, ⟨by omega, by omega⟩, ⟨k + 1, by push_cast; omega, by push_cast; omega, by omega, zs, A2, o2, s2, w.trans (w2.mono (by omega) (by omega) (by omega)).1, ?_, hst.trans u2⟩, by dsimp only; omega⟩
    have := blk_step (by omega) hb w2 u1
    rwa [show 20 * k + 20 = 20 * (k + 1) by omega] at this
  rw [slices_stableCmpFunc_api_Point_b2_eq]
  refine (insertionStablePT hX ho s o (w.allN hl0 hP) (a' := 20 * k) (b' := n) rfl rfl (by omega) (by omega) (by omega)).mono fun v h2 ⟨hv, zs, A2, o2, s2, w2, u1, u2⟩ => ⟨hv, ?_⟩
  have hb0 := blk_step (by omega) hb w2 u1
  refine ⟨fun z h1 => ∃ bs : Nat, z.1 = (bs : Int) ∧ 20 ≤ bs ∧ bs ≤ 2 * n + 20 ∧ OutPT h0 p n cp 0 n xs F h1 (fun ys => BlkS tPt.d (fun x y : Pt => cf x y < 0) bs 0 n ys ∧ Stb (fun x y : Pt => cf x y < 0) xs ys), fun z _ => (n - z.1).toNat, ⟨20, rfl, by omega, by omega, zs, A2, o2, s2, w.trans (w2.mono (by omega) (by omega) (by omega)).1, hb0, hst.trans u2⟩, ?_⟩
  clear hb0 hb hst u1 u2 w2 s2 o2 w s o
  rintro ⟨_, _⟩ h3 ⟨bs, rfl, hbs1, hbs2, ys, A1, o, s, w, hb, hst⟩
  dsimp only
  have hl := o.len
  rw [slices_stableCmpFunc_api_Point_b3_eq]
  refine condP (fun hlt => ⟨⟨by omega, by omega⟩, ?_⟩) (fun hge => ⟨rfl, ys, A1, o, s, w, blk_all (by omega) hb, hst⟩)
  refine ⟨fun z h1 => ∃ k : Nat, z.1 = ((2 * bs * k : Nat) : Int) ∧ z.2.1 = ((2 * bs * k + 2 * bs : Nat) : Int) ∧ 2 * bs * k ≤ n ∧ OutPT h0 p n cp 0 n xs F h1 (fun ys => BlkS tPt.d (fun x y : Pt => cf x y < 0) (2 * bs) 0 (2 * bs * k) ys ∧ BlkS tPt.d (fun x y : Pt => cf x y < 0) bs (bs * (2 * k)) n ys ∧ Stb (fun x y : Pt => cf x y < 0) xs ys), fun z _ => (n - z.1).toNat,
    ⟨0, by show (0 : Int) = _; simp, by show 2 * (bs : Int) = _; push_cast; omega, by omega, ys, A1, o, s, w, by rw [Nat.mul_zero]; exact blk_start, by exact hb, hst⟩, ?_⟩
  clear hb hst w s o
  rintro ⟨_, _, _⟩ h4 ⟨k, rfl, rfl, hk, ys, A1, o, s, w, hb, hb2, hst⟩
  dsimp only
  have hl := o.len
  have ek : bs * (2 * k) = 2 * bs * k := by rw [← Nat.mul_assoc, Nat.mul_comm bs 2]
  have d1 : 2 * bs * k / bs * bs = 2 * bs * k := by rw [← ek, Nat.mul_comm bs, Nat.mul_div_cancel _ (by omega)]
  have d2 : (2 * bs * k + bs) / bs * bs = 2 * bs * k + bs := by rw [← ek, show bs * (2 * k) + bs = (2 * k + 1) * bs by rw [Nat.add_mul, Nat.mul_comm bs, Nat.one_mul], Nat.mul_div_cancel _ (by omega)]
  generalize hK : 2 * bs * k = Kb at *
  rw [slices_stableCmpFunc_api_Point_b4_eq]
  refine condP (fun hlt2 => ⟨⟨by omega, by omega⟩, ?_⟩) (fun hge => ?_)
  · have t1 : SrtR tPt.d (fun x y : Pt => cf x y < 0) Kb (Kb + bs) ys := blk_srt (by omega) hb2 (by omega) d1 (by omega) (by omega)
    have t2 : SrtR tPt.d (fun x y : Pt => cf x y < 0) (Kb + bs) (Kb + 2 * bs) ys := blk_srt (by omega) hb2 (by omega) d2 (by omega) (by omega)
    refine (symMergePT hX ho (by omega) n Kb (Kb + bs) (Kb + 2 * bs) _ _ _ h4 ys A1 (by omega) s o (w.allN hl0 hP) rfl (by push_cast; rfl) rfl (by omega) (by omega) (by omega) t1 t2).mono fun v h5 ⟨hv, zs, A2, o2, s2, w2, u1, u2⟩ => ⟨hv, ⟨by omega, by omega⟩, ⟨by omega, by omega⟩, ⟨k + 1, ?_, ?_, ?_, zs, A2, o2, s2, w.trans (w2.mono (by omega) (by omega) (by omega)).1, ?_, ?_, hst.trans u2⟩, by dsimp only; omega⟩
    · rw [Nat.mul_add, hK, Nat.mul_one]
    · rw [Nat.mul_add, hK, Nat.mul_one]; push_cast; omega
    · rw [Nat.mul_add, hK, Nat.mul_one]; omega
    · rw [Nat.mul_add, hK, Nat.mul_one]
      rw [← hK] at hb w2 u1 ⊢
      exact blk_step (by omega) hb w2 u1
    · have hb3 : BlkS tPt.d (fun x y : Pt => cf x y < 0) bs (bs * (2 * (k + 1))) n ys := fun p q h1 h2 h3 h4 => hb2 p q (by rw [Nat.mul_add, Nat.mul_add] at h1; omega) h2 h3 h4
      exact blk_out w2 hb3 (.inr (by rw [Nat.mul_add, Nat.mul_add, ek]; omega))
  rw [slices_stableCmpFunc_api_Point_b5_eq]
  have fin : ∀ (h5 : Hp) (zs : List Pt) (A2 : Bag), Sl tPt p n cp zs A2 → St h0 h5 (A2 + F) → Swp tPt.d 0 n xs zs → BlkS tPt.d (fun x y : Pt => cf x y < 0) (2 * bs) 0 n zs → Stb (fun x y : Pt => cf x y < 0) xs zs → slices_stableCmpFunc_api_Point_b6 p n cp n cmp bs h5 (fun s' h' => (∃ bs : Nat, s'.1 = (bs : Int) ∧ 20 ≤ bs ∧ bs ≤ 2 * n + 20 ∧ OutPT h0 p n cp 0 n xs F h' (fun ys => BlkS tPt.d (fun x y : Pt => cf x y < 0) bs 0 n ys ∧ Stb (fun x y : Pt => cf x y < 0) xs ys)) ∧ (n - s'.1).toNat < ((n : Int) - bs).toNat) (fun v h' => v = .tuple #[] ∧ OutPT h0 p n cp 0 n xs F h' (fun ys => SrtR tPt.d (fun x y : Pt => cf x y < 0) 0 n ys ∧ Stb (fun x y : Pt => cf x y < 0) xs ys)) := by
    intro h5 zs A2 o2 s2 w2 u1 u2
    rw [slices_stableCmpFunc_api_Point_b6_eq]
    exact ⟨⟨by omega, by omega⟩, ⟨bs * 2, by push_cast; rfl, by omega, by omega, zs, A2, o2, s2, w2, by rw [Nat.mul_comm]; exact u1, u2⟩, by dsimp only; omega⟩
  refine ⟨⟨by omega, by omega⟩, condP (fun hm => ?_) (fun hm => ?_)⟩
  · have t1 : SrtR tPt.d (fun x y : Pt => cf x y < 0) Kb (Kb + bs) ys := blk_srt (by omega) hb2 (by omega) d1 (by omega) (by omega)
    have t2 : SrtR tPt.d (fun x y : Pt => cf x y < 0) (Kb + bs) n ys := blk_srt (by omega) hb2 (by omega) d2 (by omega) (by omega)
    refine (symMergePT hX ho (by omega) n Kb (Kb + bs) n _ _ _ h4 ys A1 (by omega) s o (w.allN hl0 hP) rfl (by push_cast; rfl) rfl (by omega) (by omega) (by omega) t1 t2).mono fun v h5 ⟨hv, zs, A2, o2, s2, w2, u1, u2⟩ => ⟨hv, fin h5 zs A2 o2 s2 (w.trans (w2.mono (by omega) (by omega) (by omega)).1) ?_ (hst.trans u2)⟩
    rw [← hK] at hb w2 u1
    exact blk_step (by omega) hb w2 u1
  · have t1 : SrtR tPt.d (fun x y : Pt => cf x y < 0) Kb n ys := blk_srt (by omega) hb2 (by omega) d1 (by omega) (by omega)
    refine fin h4 ys A1 o s w ?_ hst
    rw [← hK] at hb t1
    exact blk_step (by omega) hb (.refl _) t1
/-- The whole slice. -/
theorem sortStablePT {h0 h : Hp} {p : Option Addr} {n cp : Nat} {xs : List Pt} {A F : Bag} {cmp : Value} {cf : Pt → Pt → Int} {P : Pt → Prop} (hX : CmpPT h0 cmp cf P) (ho : OrdP (fun x y : Pt => cf x y < 0)) (s : St h0 h (A + F)) (o : Sl tPt p n cp xs A) (hP : ∀ k, k < n → P (xs.getD k tPt.d)) (hn : n < 400000) :
    HCalls Try.prog 64 #[.slice p n cp, cmp] h (fun v h' => v = .tuple #[] ∧ ∃ ys A', Sl tPt p n cp ys A' ∧ St h0 h' (A' + F) ∧ ys.Pairwise (fun x y => ¬ (fun x y : Pt => cf x y < 0) y x) ∧ Stb (fun x y : Pt => cf x y < 0) xs ys) := by
  refine slices_SortStableFunc_Sapi_Point_api_Point_call ?_
  rw [slices_SortStableFunc_Sapi_Point_api_Point_b0_eq]
  exact (stablePT hX ho s o hP hn).mono fun v h' ⟨hv, ys, A', o2, s2, w, hs, hst⟩ => ⟨hv, rfl, ys, A', o2, s2, srtR_pairwise o2.len hs, hst⟩
end Go.Proofs.Ytbfejfejahoblaa

/- Points: comparisons, copies, searching, places as keys. -/
set_option maxRecDepth 100000
namespace Go.Proofs.Ytbfejfejahoblaa
open Go Go.Sx
theorem cmpI_neg {x y : Int} : cmpI x y < 0 ↔ x < y := by unfold cmpI; split <;> (try split) <;> omega
theorem Compare_w (x y : Int) (h : Hp) : HCalls Try.prog 48 #[.int .i64 x, .int .i64 y] h (fun v h' => v = .int .i64 (cmpI x y) ∧ h' = h) := by
  refine cmp_Compare_int_call ?_
  rw [cmp_Compare_int_b0_eq]
  refine (cisNaN_ok x h).mono fun v h1 ⟨hh, hv⟩ => ⟨_, hv, ?_⟩
  subst hh
  refine (cisNaN_ok y _).mono fun v h2 ⟨hh, hv⟩ => ⟨_, hv, ?_⟩
  subst hh
  refine condNo rfl (condNo rfl (condP (fun h1 => ⟨?_, rfl⟩) (fun h1 => condP (fun h2 => ⟨?_, rfl⟩) (fun h2 => ⟨?_, rfl⟩))))
  · unfold cmpI; rw [if_pos h1]
  · unfold cmpI; rw [if_neg h1, if_pos h2]
  · unfold cmpI; rw [if_neg h1, if_neg h2]
theorem Or_w {h : Hp} {b : Nat} {x y : Int} (cb : Blk h b [.int .i64 x, .int .i64 y] 3) : HCalls Try.prog 47 #[.slice (some ⟨b, 0, none⟩) 2 2] h (fun v h' => v = .int .i64 (if x ≠ 0 then x else y) ∧ h' = h) := by
  refine cmp_Or_int_call ?_
  rw [cmp_Or_int_b0_eq]
  refine ⟨fun i h1 => h1 = h ∧ ∃ i' : Nat, i.1 = i' ∧ i' ≤ 2 ∧ (0 < i' → x = 0) ∧ (1 < i' → y = 0), fun i _ => (2 - i.1).toNat, ⟨rfl, 0, rfl, by omega, fun h => by omega, fun h => by omega⟩, ?_⟩
  rintro ⟨_, _⟩ h1 ⟨rfl, i, rfl, hi, hx, hy⟩
  dsimp only
  rw [cmp_Or_int_b1_eq]
  refine condP (fun hlt => ?_) (fun hge => ?_)
  · refine ⟨⟨by omega, by omega⟩, ?_⟩
    rcases (by omega : i = 0 ∨ i = 1) with rfl | rfl
    · refine ⟨x, ?_, ?_⟩
      · have := cb.cell 0
        exact this
      · refine condN (fun h2 => ⟨by rw [if_pos h2], rfl⟩) (fun h2 => ?_)
        rw [cmp_Or_int_b2_eq]
        exact ⟨⟨by omega, by omega⟩, ⟨rfl, 1, rfl, by omega, fun _ => h2, fun h => by omega⟩, by dsimp only; omega⟩
    · have hx0 := hx (by omega)
      refine ⟨y, ?_, ?_⟩
      · have := cb.cell 1
        exact this
      · refine condN (fun h2 => ⟨by rw [if_neg (by omega)], rfl⟩) (fun h2 => ?_)
        rw [cmp_Or_int_b2_eq]
        exact ⟨⟨by omega, by omega⟩, ⟨rfl, 2, rfl, by omega, fun _ => hx0, fun _ => h2⟩, by dsimp only; omega⟩
  · obtain rfl : i = 2 := by omega
    rw [cmp_Or_int_b3_eq]
    exact ⟨by rw [if_neg (by rw [hx (by omega)]; simp), hy (by omega)], rfl⟩
def cfO (x y : Pt) : Int := if cmpI x.1 y.1 ≠ 0 then cmpI x.1 y.1 else cmpI x.2.1 y.2.1
theorem cfO_neg {x y : Pt} : cfO x y < 0 ↔ ptLt x y := by
  unfold cfO cmpI ptLt
  repeat' split
  all_goals omega
theorem ordO : OrdP (fun x y : Pt => cfO x y < 0) := ⟨fun x y h1 h2 => ptLt_asymm (cfO_neg.1 h1) (cfO_neg.1 h2), fun x y z h1 h2 h3 => by
  rw [cfO_neg] at h1 h2 h3
  unfold ptLt at *
  omega⟩
theorem order_ok (x y : Pt) (h : Hp) : HCalls Try.prog 32 #[encPt x, encPt y] h (fun v h' => Ext h h' ∧ v = .int .i64 (cfO x y)) := by
  refine rangetree_order_call ?_
  rw [rangetree_order_b0_eq]
  refine (St.start h).new (cs := [_, _, _]) fun b1 h1 _ s => s.new (cs := [_, _, _]) fun b2 h2 _ s => ?_
  refine ⟨_, s.ld0, _, s.ld0, _, Compare_w _ _ _, _, s.ldB, _, s.ldB, _, Compare_w _ _ _, ?_⟩
  refine s.new (cs := [_, _]) fun b3 h3 _ s => ?_
  refine (Or_w s.blk).mono fun v h4 ⟨hv, hh⟩ => ⟨_, hv, ?_⟩
  subst hh
  exact ⟨s.ext, rfl⟩
theorem cmpOrder (h0 : Hp) : CmpPT h0 (.func (.func 32) #[] #[]) cfO (fun _ => True) := fun x y h K _ _ _ hK =>
  funX_of (by kernel_rfl) ((order_ok x y h).mono fun v h1 ⟨hx, hv⟩ => by rw [hv]; exact hK h1 hx)
def cfY (x y : Pt) : Int := cmpI x.2.1 y.2.1
theorem ordY : OrdP (fun x y : Pt => cfY x y < 0) := ⟨fun x y h1 h2 => by
  have := cmpI_neg.1 h1
  have := cmpI_neg.1 h2
  omega, fun x y z h1 h2 h3 => by
  have := mt cmpI_neg.2 h1
  have := mt cmpI_neg.2 h2
  have := cmpI_neg.1 h3
  omega⟩
theorem cmpY (h0 : Hp) : CmpPT h0 (.func (.func 85) #[] #[]) cfY (fun _ => True) := fun x y h K _ _ _ hK => by
  refine funX_of (by kernel_rfl) (rangetree_build_c1_call ?_)
  rw [rangetree_build_c1_b0_eq]
  refine (St.start h).new (cs := [_, _, _]) fun b1 h1 _ s => s.new (cs := [_, _, _]) fun b2 h2 _ s => ?_
  refine ⟨_, s.ldB, _, s.ldB, (Compare_w x.2.1 y.2.1 _).mono fun v h3 ⟨hv, hh⟩ => ⟨_, hv, ?_⟩⟩
  subst hh
  exact hK _ s.ext
theorem ok_pts : ElOk tPt Try.prog 22 := elB_spec (by kernel_rfl)
theorem clonePt {h : Hp} {p : Option Addr} {n c : Nat} {xs : List Pt} (r : RdT tPt h p n xs) (hn : n < 1000000) :
    HCalls Try.prog 63 #[.slice p n c] h (fun v h' => ∃ q d A, v = .slice q n d ∧ Sl tPt q n d xs A ∧ St h h' A) := by
  refine slices_Clone_Sapi_Point_api_Point_call ?_
  rw [slices_Clone_Sapi_Point_api_Point_b0_eq]
  have s := St.start h
  refine cond_intro (fun h1 => ?_) (fun h1 => ?_)
  · have hp : p = none := by simpa using h1
    subst hp
    have hn0 : n = 0 := by
      rcases r.2 with h0 | ⟨a, ha, _⟩
      · exact h0
      · cases ha
    subst hn0
    have : xs = [] := List.eq_nil_of_length_eq_zero r.len
    subst this
    exact ⟨none, 0, 0, rfl, Sl.nil, s⟩
  · refine s.new (cs := []) fun b h2 x2 s => ?_
    have o : Sl tPt (some ⟨b, 0, none⟩) 0 0 [] (cA b [] 33) := ⟨rfl, .inr ⟨b, [], rfl, Nat.le_refl _, by simp, rfl⟩⟩
    refine append_sl ok_pts s o (r.ext x2) (by omega) fun p' c' h3 A' o' s' => ?_
    rw [Nat.zero_add, List.nil_append] at o'
    exact ⟨p', c', A', by rw [Nat.zero_add], o', s'.to⟩
/-! ### places as keys -/
abbrev MPl : MTy (Int × Int) Int := ⟨fun k => .agg #[.int .i64 k.1, .int .i64 k.2], fun w => .int .i64 w, .int .i64 0⟩
theorem eq_place (a b : Int × Int) (h : Hp) (K : Bool → Prop) (hK : K (decide (b = a))) : hq Try.prog (Op.equal 70 (MPl.ken a) (MPl.ken b)) h K := by
  have e : (decide (a.1 = b.1) && (decide (a.2 = b.2) && true)) = decide (b = a) := by
    rw [Bool.eq_iff_iff]
    simp only [Bool.and_true, Bool.and_eq_true, decide_eq_true_eq]
    constructor
    · rintro ⟨h1, h2⟩; exact (Prod.ext h1 h2).symm
    · rintro rfl; exact ⟨rfl, rfl⟩
  exact equal_struct (d := 9998) (fs := structFs Try.prog 70) (xs := [.int .i64 a.1, .int .i64 a.2]) (ys := [.int .i64 b.1, .int .i64 b.2]) (b := (decide (a.1 = b.1) && (decide (a.2 = b.2) && true))) (by kernel_rfl) (by kernel_rfl) (by kernel_rfl) (by rw [e]; exact hK)
theorem mapOk_pl : MapOk MPl Try.prog 65 :=
  mapOk_struct (kt := 70) (et := 3) (by kernel_rfl) (by kernel_rfl) (by kernel_rfl) (fun k => ⟨#[.int .i64 k.1, .int .i64 k.2], rfl, by kernel_rfl⟩) (fun a b h K hK => eq_place a b h K hK) (fun k => by simp [Instr.sameBits])
/-! ### searching -/
theorem half_ok {i j : Nat} (h : i + j < 2000000) : IntKind.u64.wrap ((i : Int) + (j : Int)) = ((i + j : Nat) : Int) ∧ (((i + j : Nat) : Int)).fdiv ((2 : Int) ^ (min (Int.toNat 1) IntKind.u64.bits)) = (((i + j) / 2 : Nat) : Int) := by
  constructor
  · show ((i : Int) + (j : Int)) % 18446744073709551616 = _
    rw [Int.emod_eq_of_lt (by omega) (by omega)]; push_cast; rfl
  · have : (2 : Int) ^ (min (Int.toNat 1) IntKind.u64.bits) = 2 := by decide
    rw [this, Int.fdiv_eq_ediv_of_nonneg _ (by omega)]
    omega
theorem searchI_ok {h : Hp} {p : Option Addr} {n c t : Nat} {zs : List Int} {key : Int} (r : RdT TI h p n zs) (hn : n ≤ 100000) (ht : t ≤ n) (lo : ∀ j, j < t → zs.getD j 0 < key) (hi : ∀ j, t ≤ j → j < n → key ≤ zs.getD j 0) :
    HCalls Try.prog 89 #[.slice p n c, .int .i64 key] h (fun v h' => h' = h ∧ ∃ b, v = .tuple #[.int .i64 (t : Int), .bool b]) := by
  refine slices_BinarySearch_Sint_int_call ?_
  rw [slices_BinarySearch_Sint_int_b0_eq]
  refine ⟨fun s h' => h' = h ∧ ∃ i j : Nat, s.1 = i ∧ s.2.1 = j ∧ i ≤ t ∧ t ≤ j ∧ j ≤ n, fun s _ => (s.2.1 - s.1).toNat, ⟨rfl, 0, n, rfl, rfl, by omega, by omega, by omega⟩, ?_⟩
  rintro ⟨_, _, _⟩ h1 ⟨rfl, i, j, rfl, rfl, hit, htj, hjn⟩
  dsimp only
  rw [slices_BinarySearch_Sint_int_b1_eq]
  refine condP (fun hlt => ?_) (fun hge => ?_)
  · obtain ⟨e1, e2⟩ := half_ok (i := i) (j := j) (by omega)
    refine ⟨⟨by omega, by omega⟩, (((i + j) / 2 : Nat) : Int), ⟨by omega, by rw [e1, e2]⟩, ⟨by omega, by omega⟩, ldI (i' := (i + j) / 2) r rfl (by omega) ?_⟩
    refine (Less_ok _ _ _).mono fun v h2 ⟨hh, hv⟩ => ?_
    subst hh
    refine ⟨_, hv, condP (fun h3 => ?_) (fun h3 => ?_)⟩
    · have : (i + j) / 2 < t := by
        rcases Nat.lt_or_ge ((i + j) / 2) t with h | h
        · exact h
        · have := hi _ h (by omega); omega
      exact ⟨⟨by omega, by omega⟩, ⟨rfl, (i + j) / 2 + 1, j, by simp only; omega, rfl, by omega, htj, hjn⟩, by simp only; omega⟩
    · have : t ≤ (i + j) / 2 := by
        rcases Nat.lt_or_ge ((i + j) / 2) t with h | h
        · have := lo _ h; omega
        · exact h
      exact ⟨⟨rfl, i, (i + j) / 2, rfl, rfl, hit, this, by omega⟩, by simp only; omega⟩
  · obtain rfl : i = t := by omega
    rw [slices_BinarySearch_Sint_int_b2_eq]
    refine condP (fun hl => ?_) (fun hl => ⟨rfl, _, rfl⟩)
    refine ldI (i' := i) r rfl (by omega) (condP (fun he => ⟨rfl, _, rfl⟩) (fun he => ldI (i' := i) r rfl (by omega) ?_))
    refine (isNaN_ok _ _).mono fun v h2 ⟨hh, hv⟩ => ?_
    subst hh
    exact ⟨_, hv, rfl, _, rfl⟩
/-- Behind all numbers up to a key. -/
theorem searchC_ok {h : Hp} {p : Option Addr} {n c t : Nat} {zs : List Int} {key : Int} (r : RdT TI h p n zs) (hn : n ≤ 100000) (ht : t ≤ n) (lo : ∀ j, j < t → zs.getD j 0 ≤ key) (hi : ∀ j, t ≤ j → j < n → key < zs.getD j 0) :
    HCalls Try.prog 90 #[.slice p n c, .int .i64 key, .func (.func 91) #[] #[]] h (fun v h' => h' = h ∧ ∃ b, v = .tuple #[.int .i64 (t : Int), .bool b]) := by
  have cl : ∀ y z (h : Hp), HCalls Try.prog 91 #[.int .i64 y, .int .i64 z] h (fun v h' => h' = h ∧ v = .int .i64 (if y ≤ z then -1 else 1)) := fun y z h => by
    refine rangetree_layer_ask_c1_call ?_
    rw [rangetree_layer_ask_c1_b0_eq]
    exact condP (fun h1 => ⟨rfl, by rw [if_pos h1]⟩) (fun h1 => ⟨rfl, by rw [if_neg h1]⟩)
  refine slices_BinarySearchFunc_Sint_int_int_call ?_
  rw [slices_BinarySearchFunc_Sint_int_int_b0_eq]
  refine ⟨fun s h' => h' = h ∧ ∃ i j : Nat, s.1 = i ∧ s.2.1 = j ∧ i ≤ t ∧ t ≤ j ∧ j ≤ n, fun s _ => (s.2.1 - s.1).toNat, ⟨rfl, 0, n, rfl, rfl, by omega, by omega, by omega⟩, ?_⟩
  rintro ⟨_, _, _⟩ h1 ⟨rfl, i, j, rfl, rfl, hit, htj, hjn⟩
  dsimp only
  rw [slices_BinarySearchFunc_Sint_int_int_b1_eq]
  refine condP (fun hlt => ?_) (fun hge => ?_)
  · obtain ⟨e1, e2⟩ := half_ok (i := i) (j := j) (by omega)
    refine ⟨⟨by omega, by omega⟩, (((i + j) / 2 : Nat) : Int), ⟨by omega, by rw [e1, e2]⟩, ⟨by omega, by omega⟩, ldI (i' := (i + j) / 2) r rfl (by omega) ?_⟩
    refine funX_of (by kernel_rfl) ((cl (zs.getD ((i + j) / 2) 0) key _).mono fun v h2 ⟨hh, hv⟩ => ?_)
    subst hh
    refine ⟨_, hv, condP (fun h3 => ?_) (fun h3 => ?_)⟩
    · have : (i + j) / 2 < t := by
        rcases Nat.lt_or_ge ((i + j) / 2) t with h | h
        · exact h
        · have := hi _ h (by omega)
          rw [if_neg (by omega)] at h3; omega
      exact ⟨⟨by omega, by omega⟩, ⟨rfl, (i + j) / 2 + 1, j, by simp only; omega, rfl, by omega, htj, hjn⟩, by simp only; omega⟩
    · have : t ≤ (i + j) / 2 := by
        rcases Nat.lt_or_ge ((i + j) / 2) t with h | h
        · have := lo _ h
          rw [if_pos (by omega)] at h3; omega
        · exact h
      exact ⟨⟨rfl, i, (i + j) / 2, rfl, rfl, hit, this, by omega⟩, by simp only; omega⟩
  · obtain rfl : i = t := by omega
    rw [slices_BinarySearchFunc_Sint_int_int_b2_eq]
    refine condP (fun hl => ?_) (fun hl => ⟨rfl, _, rfl⟩)
    refine ldI (i' := i) r rfl (by omega) (funX_of (by kernel_rfl) ((cl (zs.getD i 0) key _).mono fun v h2 ⟨hh, hv⟩ => ?_))
    subst hh
    exact ⟨_, hv, rfl, _, rfl⟩
/-- A search in points, by a closure. -/
theorem searchP_ok {h : Hp} {p : Option Addr} {n c t g : Nat} {l : List Pt} {key : Int} (cf : Pt → Bool) (hg : F g = true) (cl : ∀ x (h : Hp), HCalls Try.prog g #[encPt x, .int .i64 key] h (fun v h' => Ext h h' ∧ ∃ z : Int, v = .int .i64 z ∧ (z < 0 ↔ cf x = true)))
    (r : RdT tPt h p n l) (hn : n ≤ 100000) (ht : t ≤ n) (lo : ∀ j, j < t → cf (l.getD j tPt.d) = true) (hi : ∀ j, t ≤ j → j < n → cf (l.getD j tPt.d) = false) :
    HCalls Try.prog 75 #[.slice p n c, .int .i64 key, .func (.func g) #[] #[]] h (fun v h' => Ext h h' ∧ ∃ b, v = .tuple #[.int .i64 (t : Int), .bool b]) := by
  refine slices_BinarySearchFunc_Sapi_Point_api_Point_int_call ?_
  rw [slices_BinarySearchFunc_Sapi_Point_api_Point_int_b0_eq]
  refine ⟨fun s h' => Ext h h' ∧ ∃ i j : Nat, s.1 = i ∧ s.2.1 = j ∧ i ≤ t ∧ t ≤ j ∧ j ≤ n, fun s _ => (s.2.1 - s.1).toNat, ⟨.refl _, 0, n, rfl, rfl, by omega, by omega, by omega⟩, ?_⟩
  rintro ⟨_, _, _⟩ h1 ⟨x1, i, j, rfl, rfl, hit, htj, hjn⟩
  dsimp only
  have r1 := r.ext x1
  rw [slices_BinarySearchFunc_Sapi_Point_api_Point_int_b1_eq]
  refine condP (fun hlt => ?_) (fun hge => ?_)
  · obtain ⟨e1, e2⟩ := half_ok (i := i) (j := j) (by omega)
    refine ⟨⟨by omega, by omega⟩, (((i + j) / 2 : Nat) : Int), ⟨by omega, by rw [e1, e2]⟩, ⟨by omega, by omega⟩, ldPT (i' := (i + j) / 2) r1 rfl (by omega) ?_⟩
    refine funX_of hg ((cl (l.getD ((i + j) / 2) tPt.d) _).mono fun v h2 ⟨x2, z, hv, hz⟩ => ?_)
    refine ⟨_, hv, condP (fun h3 => ?_) (fun h3 => ?_)⟩
    · have : (i + j) / 2 < t := by
        rcases Nat.lt_or_ge ((i + j) / 2) t with h | h
        · exact h
        · have := hi _ h (by omega)
          rw [hz.1 h3] at this; cases this
      exact ⟨⟨by omega, by omega⟩, ⟨x1.trans x2, (i + j) / 2 + 1, j, by simp only; omega, rfl, by omega, htj, hjn⟩, by simp only; omega⟩
    · have : t ≤ (i + j) / 2 := by
        rcases Nat.lt_or_ge ((i + j) / 2) t with h | h
        · exact absurd (hz.2 (lo _ h)) h3
        · exact h
      exact ⟨⟨x1.trans x2, i, (i + j) / 2, rfl, rfl, hit, this, by omega⟩, by simp only; omega⟩
  · obtain rfl : i = t := by omega
    rw [slices_BinarySearchFunc_Sapi_Point_api_Point_int_b2_eq]
    refine condP (fun hl => ?_) (fun hl => ⟨x1, _, rfl⟩)
    refine ldPT (i' := i) r1 rfl (by omega) (funX_of hg ((cl (l.getD i tPt.d) _).mono fun v h2 ⟨x2, z, hv, hz⟩ => ⟨_, hv, x1.trans x2, _, rfl⟩))
theorem rect_c1 (x : Pt) (key : Int) (h : Hp) : HCalls Try.prog 76 #[encPt x, .int .i64 key] h (fun v h' => Ext h h' ∧ ∃ z : Int, v = .int .i64 z ∧ (z < 0 ↔ decide (x.1 < key) = true)) := by
  refine rangetree_part_rectangle_c1_call ?_
  rw [rangetree_part_rectangle_c1_b0_eq]
  refine (St.start h).new (cs := [_, _, _]) fun b1 h1 _ s => ⟨_, s.ld0, (Compare_w x.1 key _).mono fun v h3 ⟨hv, hh⟩ => ⟨_, hv, ?_⟩⟩
  subst hh
  exact ⟨s.ext, _, rfl, by rw [cmpI_neg, decide_eq_true_eq]⟩
theorem rect_c2 (x : Pt) (key : Int) (h : Hp) : HCalls Try.prog 77 #[encPt x, .int .i64 key] h (fun v h' => Ext h h' ∧ ∃ z : Int, v = .int .i64 z ∧ (z < 0 ↔ decide (x.1 ≤ key) = true)) := by
  refine rangetree_part_rectangle_c2_call ?_
  rw [rangetree_part_rectangle_c2_b0_eq]
  refine (St.start h).new (cs := [_, _, _]) fun b1 h1 _ s => ⟨_, s.ld0, condP (fun hc => ⟨s.ext, _, rfl, ?_⟩) (fun hc => ⟨s.ext, _, rfl, ?_⟩)⟩
  · rw [decide_eq_true hc]; simp
  · rw [decide_eq_false hc]; simp
end Go.Proofs.Ytbfejfejahoblaa

/- Layers: what is built of points. -/
set_option maxRecDepth 100000
namespace Go.Proofs.Ytbfejfejahoblaa
open Go Go.Sx
def yOf (p : Pt) : Int := p.2.1
def psum (l : List Pt) : List Int := (List.range (l.length + 1)).map fun i => wSum (l.take i)
theorem psum_len (l : List Pt) : (psum l).length = l.length + 1 := by simp [psum]
theorem psum_get {l : List Pt} {i : Nat} (h : i ≤ l.length) : (psum l).getD i 0 = wSum (l.take i) := by
  unfold psum
  simp [List.getD, show i < l.length + 1 by omega]
theorem psum_snoc (l : List Pt) (p : Pt) : psum (l ++ [p]) = psum l ++ [wSum l + p.2.2] := by
  unfold psum
  rw [List.length_append, List.length_singleton, List.range_succ (n := l.length + 1), List.map_append]
  congr 1
  · refine List.map_congr_left fun i hi => ?_
    rw [List.mem_range] at hi
    rw [List.take_append_of_le_length (by omega)]
  · simp only [List.map_cons, List.map_nil]
    rw [List.take_of_length_le (by simp), wSum_app, wSum_cons, wSum_nil]
    simp
theorem wSum_bound {l : List Pt} (h : ∀ x ∈ l, -1048576 ≤ x.2.2 ∧ x.2.2 ≤ 1048576) : -(1048576 * (l.length : Int)) ≤ wSum l ∧ wSum l ≤ 1048576 * (l.length : Int) := by
  induction l with
  | nil => simp [wSum]
  | cons p l ih =>
    have h1 := h p List.mem_cons_self
    have h2 := ih fun x hx => h x (List.mem_cons_of_mem _ hx)
    rw [wSum_cons, List.length_cons]
    push_cast
    omega
abbrev WOk (l : List Pt) : Prop := ∀ x ∈ l, -1048576 ≤ x.2.2 ∧ x.2.2 ≤ 1048576
inductive LayA : List Pt → Nat → Bag → Prop
  | one {l own : List Pt} {b : Nat} {yp sp : Option Addr} {yc sc : Nat} {A1 A2 : Bag} : l.length < 2 → own.Perm l → own.Pairwise (fun p q => p.2.1 ≤ q.2.1) → Sl TI yp l.length yc (own.map yOf) A1 → Sl TI sp (l.length + 1) sc (psum own) A2 →
      LayA l b (cA b [.slice yp l.length yc, .slice sp (l.length + 1) sc, .pointer none, .pointer none] 126 + (A1 + A2))
  | two {l own : List Pt} {b bl br : Nat} {yp sp : Option Addr} {yc sc : Nat} {A1 A2 L R : Bag} : 2 ≤ l.length → own.Perm l → own.Pairwise (fun p q => p.2.1 ≤ q.2.1) → Sl TI yp l.length yc (own.map yOf) A1 → Sl TI sp (l.length + 1) sc (psum own) A2 →
      LayA (l.take (l.length / 2)) bl L → LayA (l.drop (l.length / 2)) br R →
      LayA l b (cA b [.slice yp l.length yc, .slice sp (l.length + 1) sc, ptr bl, ptr br] 126 + (A1 + (A2 + (L + R))))
theorem take_succ_d {l : List Pt} {i : Nat} (h : i < l.length) : l.take (i + 1) = l.take i ++ [l.getD i tPt.d] := by
  rw [List.take_succ_eq_append_getElem h, getD_get h]
theorem build_ok : ∀ (n : Nat) {h : Hp} {p : Option Addr} {c : Nat} {l : List Pt}, n ≤ 5000 → n ≤ c → RdT tPt h p n l → WOk l →
    HCalls Try.prog 65 #[.slice p n c] h (fun v h' => ∃ b A, v = ptr b ∧ LayA l b A ∧ St h h' A) := by
  intro n
  induction n using Nat.strongRecOn with
  | _ n ih =>
  intro h p c l hn hc r hw
  have hll := r.len
  refine rangetree_build_call ?_
  rw [rangetree_build_b0_eq]
  refine (clonePt r (by omega)).mono fun v h1 ⟨q, d, A0, hv, o, st⟩ => ⟨_, _, _, hv, ?_⟩
  refine (sortPT (P := fun _ => True) (cmpY h) ordY (st.to (B := A0 + 0)) o (fun _ _ => trivial) (by omega)).mono fun v h2 ⟨hv, ys, A0, o, st, hp, hpw⟩ => ⟨hv, ?_⟩
  have hyl := o.len
  have hpw2 : ys.Pairwise fun p q => p.2.1 ≤ q.2.1 := hpw.imp fun {a b} h => by
    have := mt cmpI_neg.2 h
    omega
  have hwy : WOk ys := fun x hx => hw x (hp.mem_iff.1 hx)
  refine st.new (cs := [.int .i64 0]) fun b1 h3 _ st => ?_
  have o2 : Sl TI (some ⟨b1, 0, none⟩) 1 1 (psum ([] : List Pt)) (cA b1 [.int .i64 0] 3) := Sl.of_blk (T := TI) rfl rfl
  generalize cA b1 [.int .i64 0] 3 = A2 at *
  refine st.new (cs := [_, _, _, _]) fun b2 h4 _ st => ?_
  refine ⟨fun q' h' => ∃ (i : Nat) (yp sp : Option Addr) (yc sc : Nat) (A1 A2 : Bag), q'.1 = i ∧ i ≤ n ∧ Sl TI yp i yc ((ys.take i).map yOf) A1 ∧ Sl TI sp (i + 1) sc (psum (ys.take i)) A2 ∧ St h h' (cA b2 [.slice yp i yc, .slice sp (i + 1) sc, .pointer none, .pointer none] 126 + (A1 + (A2 + (A0 + 0)))), fun q' _ => (n - q'.1).toNat, ⟨0, none, _, 0, _, 0, A2, rfl, Nat.zero_le _, Sl.nil, o2, st.to⟩, ?_⟩
  clear st o2
  rintro ⟨_, _⟩ h5 ⟨i, yp, sp, yc, sc, A1, A2, rfl, hi, o1, o2, st⟩
  dsimp only
  have hpl := psum_len (ys.take i)
  rw [List.length_take] at hpl
  rw [rangetree_build_b1_eq]
  refine condP (fun hlt => ?_) (fun hge => ?_)
  · have hin : i < n := by omega
    refine ldPT (i' := i) (o.rd (st.to (B := A0 + (cA b2 [.slice yp i yc, .slice sp (i + 1) sc, .pointer none, .pointer none] 126 + (A1 + A2))))) rfl hin ?_
    have htk := take_succ_d (l := ys) (i := i) (by omega)
    have hwb := wSum_bound (l := ys.take i) fun x hx => hwy x (List.mem_of_mem_take hx)
    rw [List.length_take] at hwb
    have hwx := hwy _ (by rw [getD_get (d := tPt.d) (show i < ys.length by omega)]; exact List.getElem_mem _ : ys.getD i tPt.d ∈ ys)
    generalize ys.getD i tPt.d = x at *
    refine st.new (cs := [_, _, _]) fun b3 h6 _ st => st.wr3 fun h9 st => ?_
    refine ⟨_, _, _, st.ld0, _, st.ldB, ?_⟩
    refine st.new (cs := [_]) fun b4 h10 _ st => ⟨⟨_, _, _, st.ld0, rfl⟩, ?_⟩
    refine append_sl ok_int (st.at A1) o1 ((Sl.one (T := TI) (x := x.2.1) rfl).rd (st.find b4)) (by omega) fun p' c' h11 A1' o1' st => ?_
    refine st.wr0 fun h12 st => ?_
    refine ⟨_, _, _, st.ldB, _, _, _, st.ldB, _, _, _, st.ldB, ⟨by omega, by omega⟩, ?_⟩
    refine ldI (i' := i) (o2.rd (st.at A2)) (by omega) (by omega) ?_
    rw [psum_get (by rw [List.length_take]; omega), List.take_of_length_le (l := ys.take i) (by rw [List.length_take]; omega)]
    refine ⟨_, st.ldB, ⟨by omega, by omega⟩, ?_⟩
    refine st.new (cs := [_]) fun b5 h13 _ st => ⟨⟨_, _, _, st.ldB, rfl⟩, ?_⟩
    refine append_sl ok_int (st.at A2) o2 ((Sl.one (T := TI) (x := wSum (ys.take i) + x.2.2) rfl).rd (st.find b5)) (by omega) fun p2 c2 h14 A2' o2' st => ?_
    refine st.wrB fun h15 st => ?_
    rw [rangetree_build_b2_eq]
    refine ⟨⟨by omega, by omega⟩, ⟨i + 1, p', p2, c', c2, A1', A2', by push_cast; rfl, by omega, ?_, ?_, ?_⟩, by dsimp only; omega⟩
    · rw [htk, List.map_append]; exact o1'
    · rw [htk, psum_snoc]; exact o2'
    · refine St.drop (A := cA b3 [.int .i64 x.1, .int .i64 x.2.1, .int .i64 x.2.2] 33 + (cA b4 [.int .i64 x.2.1] 3 + cA b5 [.int .i64 (wSum (ys.take i) + x.2.2)] 3)) ?_
      exact st.to
  obtain rfl : i = n := by omega
  rw [List.take_of_length_le (by omega)] at o1 o2
  have st := (st.to (B := A0 + (cA b2 [.slice yp i yc, .slice sp (i + 1) sc, .pointer none, .pointer none] 126 + (A1 + (A2 + 0))))).drop
  rw [rangetree_build_b3_eq]
  refine quo_intro (by omega) (by omega) (by omega) ?_
  have eq : (i : Int) / 2 = ((i / 2 : Nat) : Int) := by omega
  rw [eq]
  subst hll
  refine condP (fun hpos => ?_) (fun hneg => ?_)
  · have r5 := r.ext st.ext
    have e1 : Int.toNat (((l.length / 2 : Nat) : Int)) = l.length / 2 := Int.toNat_natCast _
    have e2 : Int.toNat ((l.length : Nat) : Int) = l.length := Int.toNat_natCast _
    rw [e1, e2]
    refine ⟨⟨by omega, by omega, by omega⟩, ⟨by omega, by omega, by omega⟩, ?_⟩
    have rl : RdT tPt h5 (subAddr p c (Int.toNat (0 : Int)) 3) (l.length / 2 - Int.toNat (0 : Int)) (l.take (l.length / 2)) := by
      have r2 := (r5.sub (c := c) (i := 0) (m := l.length - 0) (by omega) hc rfl).take (i := l.length / 2) (by omega)
      rw [List.drop_zero] at r2
      exact r2
    refine (ih (l.length / 2 - Int.toNat (0 : Int)) (by show l.length / 2 - 0 < _; omega) (by show l.length / 2 - 0 ≤ _; omega) (by show l.length / 2 - 0 ≤ c - 0; omega) rl fun x hx => hw x (List.mem_of_mem_take hx)).mono fun v h16 ⟨bl, L, hv, lay1, st1⟩ => ⟨_, hv, ⟨⟨by omega, by omega, by omega⟩, rfl⟩, ?_⟩
    have st := st.join st1
    have rr : RdT tPt h16 (subAddr p c (l.length / 2) 3) (l.length - l.length / 2) (l.drop (l.length / 2)) := (r5.ext st1.ext).sub (c := c) (by omega) hc rfl
    refine (ih (l.length - l.length / 2) (by omega) (by omega) (by omega) rr fun x hx => hw x (List.mem_of_mem_drop hx)).mono fun v h17 ⟨br, R, hv, lay2, st2⟩ => ⟨_, hv, ?_⟩
    have st := st.join st2
    refine st.wrB fun h18 st => st.wrB fun h19 st => ?_
    rw [rangetree_build_b4_eq]
    exact ⟨_, _, rfl, LayA.two (by omega) hp hpw2 o1 o2 lay1 lay2, st.to⟩
  · rw [rangetree_build_b4_eq]
    exact ⟨_, _, rfl, LayA.one (by omega) hp hpw2 o1 o2, st.to⟩
end Go.Proofs.Ytbfejfejahoblaa

/- Asking layers and parts. -/
set_option maxRecDepth 100000
namespace Go.Proofs.Ytbfejfejahoblaa
open Go Go.Sx
theorem cut_ex {α : Type} (p : α → Bool) (l : List α) (hp : l.Pairwise (fun a b => p b = true → p a = true)) : ∃ t, t ≤ l.length ∧ ∀ i, (h : i < l.length) → (p l[i] = true ↔ i < t) := by
  induction l with
  | nil => exact ⟨0, Nat.le_refl _, fun i h => absurd h (Nat.not_lt_zero _)⟩
  | cons x l ih =>
    rw [List.pairwise_cons] at hp
    obtain ⟨t, ht, h⟩ := ih hp.2
    by_cases hx : p x = true
    · refine ⟨t + 1, by rw [List.length_cons]; omega, fun i hi => ?_⟩
      cases i with
      | zero => exact ⟨fun _ => Nat.succ_pos _, fun _ => hx⟩
      | succ i =>
        have h2 := h i (Nat.lt_of_succ_lt_succ hi)
        exact ⟨fun a => Nat.succ_lt_succ (h2.1 a), fun a => h2.2 (Nat.lt_of_succ_lt_succ a)⟩
    · refine ⟨0, Nat.zero_le _, fun i hi => ⟨fun hc => ?_, fun hc => absurd hc (Nat.not_lt_zero _)⟩⟩
      cases i with
      | zero => exact absurd hc hx
      | succ i => exact absurd (hp.1 _ (List.getElem_mem (Nat.lt_of_succ_lt_succ hi)) hc) hx
theorem layA_len {l : List Pt} {b : Nat} {A : Bag} (a : LayA l b A) : ∃ (own : List Pt) (yp sp : Option Addr) (yc sc : Nat) (A1 A2 G : Bag) (v1 v2 : Value), own.Perm l ∧ own.Pairwise (fun p q => p.2.1 ≤ q.2.1) ∧ Sl TI yp l.length yc (own.map yOf) A1 ∧ Sl TI sp (l.length + 1) sc (psum own) A2 ∧
    A = cA b [.slice yp l.length yc, .slice sp (l.length + 1) sc, v1, v2] 126 + (A1 + (A2 + G)) := by
  cases a with
  | one h1 h2 h3 h4 h5 => exact ⟨_, _, _, _, _, _, _, 0, _, _, h2, h3, h4, h5, by rw [Bag.add_zero]⟩
  | two h1 h2 h3 h4 h5 _ _ => exact ⟨_, _, _, _, _, _, _, _, _, _, h2, h3, h4, h5, rfl⟩
theorem cntY_bound (y1 y2 : Int) (l : List Pt) : 0 ≤ cntY y1 y2 l ∧ cntY y1 y2 l ≤ l.length := by
  unfold cntY
  have := List.length_filter_le (yIn y1 y2) l
  omega
theorem sumY_bound {y1 y2 : Int} {l : List Pt} (hw : WOk l) : -(1048576 * (l.length : Int)) ≤ sumY y1 y2 l ∧ sumY y1 y2 l ≤ 1048576 * (l.length : Int) := by
  unfold sumY
  have h1 := wSum_bound (l := l.filter (yIn y1 y2)) fun x hx => hw x (List.mem_filter.1 hx).1
  have := List.length_filter_le (yIn y1 y2) l
  omega
theorem rngI_sub {l : List Pt} {a b : Int} {x : Pt} (h : x ∈ rngI l a b) : x ∈ l := rng_mem h
theorem rngI_len (l : List Pt) (a b : Int) : (rngI l a b).length ≤ l.length := by
  unfold rngI rng
  rw [List.length_drop, List.length_take]; omega
/-- All points of a layer. -/
theorem askAll_ok {h0 h : Hp} {l : List Pt} {b : Nat} {A F : Bag} {to fr y1 y2 : Int} (a : LayA l b A) (s : St h0 h (A + F)) (hl : l.length ≤ 5000) (hw : WOk l) (h1 : fr ≤ 0) (h2 : (l.length : Int) ≤ to) (h3 : fr < to) :
    HCalls Try.prog 78 #[ptr b, .int .i64 (l.length : Int), .int .i64 fr, .int .i64 to, .int .i64 y1, .int .i64 y2] h (fun v h' => Ext h h' ∧ v = .tuple #[.int .i64 (cntY y1 y2 (rngI l fr to)), .int .i64 (sumY y1 y2 (rngI l fr to))]) := by
  rw [ask_full h1 h2]
  obtain ⟨own, yp, sp, yc, sc, A1, A2, G, v1, v2, hp, hpw, o1, o2, rfl⟩ := layA_len a
  have hol := hp.length_eq
  refine rangetree_layer_ask_call ?_
  rw [rangetree_layer_ask_b0_eq]
  refine condNo (decide_eq_false (by omega)) (condYes (decide_eq_true h1) (condYes (decide_eq_true h2) ?_))
  obtain ⟨ca, hca, ha⟩ := cut_ex (fun p : Pt => decide (p.2.1 < y1)) own (hpw.imp fun {p q} h hq => by rw [decide_eq_true_eq] at *; omega)
  obtain ⟨cb, hcb, hb⟩ := cut_ex (fun p : Pt => decide (p.2.1 ≤ y2)) own (hpw.imp fun {p q} h hq => by rw [decide_eq_true_eq] at *; omega)
  have hA := layer_ask (y1 := y1) (y2 := y2) (own := own) (a := ca) (b := cb) hcb hca (fun i hi => by have := ha i hi; rwa [decide_eq_true_eq] at this) (fun i hi => by have := hb i hi; rwa [decide_eq_true_eq] at this)
  rw [cntY_perm hp, sumY_perm hp] at hA
  have yg : ∀ i, (hi : i < own.length) → (own.map yOf).getD i 0 = own[i].2.1 := fun i hi => by
    rw [getD_get (by simpa using hi), List.getElem_map]; rfl
  have s := s.to (B := cA b [.slice yp l.length yc, .slice sp (l.length + 1) sc, v1, v2] 126 + (A1 + (A2 + (G + F))))
  have ry := o1.rd (s.at A1)
  have rs := o2.rd (s.at A2)
  refine ⟨_, _, _, s.ld0, ?_⟩
  refine (searchI_ok (t := ca) ry (by omega) (by omega) (fun j hj => ?_) (fun j hj hj2 => ?_)).mono fun v h5 ⟨hh, bb, hv⟩ => ⟨_, _, hv, ?_⟩
  · rw [yg j (by omega)]
    have := (ha j (by omega)).2 hj
    rwa [decide_eq_true_eq] at this
  · rw [yg j (by omega)]
    have := mt (ha j (by omega)).1 (by omega)
    rw [decide_eq_true_eq] at this; omega
  subst hh
  refine ⟨_, _, _, s.ld0, ?_⟩
  refine (searchC_ok (t := cb) ry (by omega) (by omega) (fun j hj => ?_) (fun j hj hj2 => ?_)).mono fun v h5 ⟨hh, bb, hv⟩ => ⟨_, _, hv, ?_⟩
  · rw [yg j (by omega)]
    have := (hb j (by omega)).2 hj
    rwa [decide_eq_true_eq] at this
  · rw [yg j (by omega)]
    have := mt (hb j (by omega)).1 (by omega)
    rw [decide_eq_true_eq] at this; omega
  subst hh
  refine condP (fun hc => ⟨.refl _, ?_⟩) (fun hc => ⟨⟨by omega, by omega⟩, ?_⟩)
  · rw [hA.1, hA.2, if_pos (by omega), if_pos (by omega)]
  · have b1 := wSum_bound (l := own.take cb) fun x hx => hw x (hp.mem_iff.1 (List.mem_of_mem_take hx))
    have b2 := wSum_bound (l := own.take ca) fun x hx => hw x (hp.mem_iff.1 (List.mem_of_mem_take hx))
    rw [List.length_take] at b1 b2
    refine ⟨_, _, _, s.ldB, ldI (i' := cb) rs rfl (by omega) ⟨_, _, _, s.ldB, ldI (i' := ca) rs rfl (by omega) ?_⟩⟩
    rw [psum_get hcb, psum_get hca]
    refine ⟨⟨by omega, by omega⟩, .refl _, ?_⟩
    rw [hA.1, hA.2, if_neg (by omega), if_neg (by omega), show ((cb - ca : Nat) : Int) = (cb : Int) - ca by omega]
theorem ask_ok {l : List Pt} {b : Nat} {A : Bag} (a : LayA l b A) : ∀ {h0 h : Hp} {F : Bag} {fr to y1 y2 : Int}, St h0 h (A + F) → l.length ≤ 5000 → WOk l → 0 ≤ fr → fr ≤ 10000 → -10000 ≤ to → to ≤ l.length →
    HCalls Try.prog 78 #[ptr b, .int .i64 (l.length : Int), .int .i64 fr, .int .i64 to, .int .i64 y1, .int .i64 y2] h (fun v h' => Ext h h' ∧ v = .tuple #[.int .i64 (cntY y1 y2 (rngI l fr to)), .int .i64 (sumY y1 y2 (rngI l fr to))]) := by
  induction a with
  | @one l own b yp sp yc sc A1 A2 h1 h2 h3 h4 h5 =>
    intro h0 h F fr to y1 y2 s hl hw hf1 hf2 ht1 ht2
    by_cases hc : to ≤ fr
    · rw [ask_none hc]
      refine rangetree_layer_ask_call ?_
      rw [rangetree_layer_ask_b0_eq]
      exact condYes (decide_eq_true hc) ⟨.refl _, rfl⟩
    · exact askAll_ok (LayA.one h1 h2 h3 h4 h5) s hl hw (by omega) (by omega) (by omega)
  | @two l own b bl br yp sp yc sc A1 A2 L R h1 h2 h3 h4 h5 l1 l2 ih1 ih2 =>
    intro h0 h F fr to y1 y2 s hl hw hf1 hf2 ht1 ht2
    by_cases hc : to ≤ fr
    · rw [ask_none hc]
      refine rangetree_layer_ask_call ?_
      rw [rangetree_layer_ask_b0_eq]
      exact condYes (decide_eq_true hc) ⟨.refl _, rfl⟩
    by_cases hd : fr ≤ 0 ∧ (l.length : Int) ≤ to
    · exact askAll_ok (LayA.two h1 h2 h3 h4 h5 l1 l2) s hl hw hd.1 hd.2 (by omega)
    refine rangetree_layer_ask_call ?_
    rw [rangetree_layer_ask_b0_eq]
    suffices main : rangetree_layer_ask_b1 (some ⟨b, 0, none⟩) (l.length : Int) fr to y1 y2 h (fun v h' => Ext h h' ∧ v = .tuple #[.int .i64 (cntY y1 y2 (rngI l fr to)), .int .i64 (sumY y1 y2 (rngI l fr to))]) from
      condNo (decide_eq_false hc) (condP (fun g1 => condNo (decide_eq_false fun g2 => hd ⟨g1, g2⟩) main) (fun _ => main))
    rw [rangetree_layer_ask_b1_eq]
    refine quo_intro (by omega) (by omega) (by omega) ?_
    obtain ⟨m, hm⟩ : ∃ m, m = l.length / 2 := ⟨_, rfl⟩
    rw [← hm] at l1 l2 ih1 ih2
    have eq : (l.length : Int) / 2 = (m : Int) := by omega
    rw [eq]
    have hsplit := ask_split (l := l) (m := m) (by omega) fr to
    have lt : (l.take m).length = m := by rw [List.length_take]; omega
    have ld : (l.drop m).length = l.length - m := by rw [List.length_drop]
    have e1 : (if (m : Int) < to then (m : Int) else to) = (if to < m then to else (m : Int)) := by split <;> split <;> omega
    rw [e1]
    have w1 : WOk (l.take m) := fun x hx => hw x (List.mem_of_mem_take hx)
    have w2 : WOk (l.drop m) := fun x hx => hw x (List.mem_of_mem_drop hx)
    have c1 := ih1 (fr := fr) (to := if to < m then to else (m : Int)) (y1 := y1) (y2 := y2) (F := cA b [.slice yp l.length yc, .slice sp (l.length + 1) sc, ptr bl, ptr br] 126 + (A1 + (A2 + (R + F)))) s.to (by omega) w1 hf1 hf2 (by split <;> omega) (by rw [lt]; split <;> omega)
    rw [lt] at c1
    have bl1 := cntY_bound y1 y2 (rngI (l.take m) fr (if to < m then to else (m : Int)))
    have bl2 := sumY_bound (y1 := y1) (y2 := y2) (l := rngI (l.take m) fr (if to < m then to else (m : Int))) fun x hx => w1 x (rngI_sub hx)
    have bl3 := rngI_len (l.take m) fr (if to < m then to else (m : Int))
    have br1 := cntY_bound y1 y2 (rngI (l.drop m) (if (0 : Int) < fr - m then fr - m else 0) (to - m))
    have br2 := sumY_bound (y1 := y1) (y2 := y2) (l := rngI (l.drop m) (if (0 : Int) < fr - m then fr - m else 0) (to - m)) fun x hx => w2 x (rngI_sub hx)
    have br3 := rngI_len (l.drop m) (if (0 : Int) < fr - m then fr - m else 0) (to - m)
    refine ⟨_, (s.find b).ldB, c1.mono fun v h3 ⟨x3, hv⟩ => ⟨_, _, hv, _, ((s.grow x3).find b).ldB, ⟨by omega, by omega⟩, ⟨by omega, by omega⟩, ⟨by omega, by omega⟩, ?_⟩⟩
    have c2 := ih2 (fr := if (0 : Int) < fr - m then fr - m else 0) (to := to - m) (y1 := y1) (y2 := y2) (F := cA b [.slice yp l.length yc, .slice sp (l.length + 1) sc, ptr bl, ptr br] 126 + (A1 + (A2 + (L + F)))) (s.grow x3).to (by omega) w2 (by split <;> omega) (by split <;> omega) (by omega) (by omega)
    rw [ld, show ((l.length - m : Nat) : Int) = (l.length : Int) - m by omega] at c2
    refine c2.mono fun v h4 ⟨x4, hv⟩ => ⟨_, _, hv, ⟨by omega, by omega⟩, ⟨by omega, by omega⟩, x3.trans x4, ?_⟩
    rw [hsplit, cntY_app, sumY_app]
/-- A static part. -/
def PartA (own : List Pt) (b : Nat) (A : Bag) : Prop := ∃ (p : Option Addr) (c rb : Nat) (A0 L : Bag), Sl tPt p own.length c own A0 ∧ LayA own rb L ∧ A = cA b [.slice p own.length c, ptr rb] 74 + (A0 + L) ∧ own.Pairwise (fun p q => p.1 ≤ q.1)
theorem newPart_ok {h : Hp} {p : Option Addr} {n c : Nat} {l : List Pt} (r : RdT tPt h p n l) (hn : n ≤ 5000) (hw : WOk l) :
    HCalls Try.prog 45 #[.slice p n c] h (fun v h' => ∃ b A own, v = ptr b ∧ PartA own b A ∧ own.Perm l ∧ St h h' A) := by
  refine rangetree_newPart_call ?_
  rw [rangetree_newPart_b0_eq]
  refine (clonePt r (by omega)).mono fun v h1 ⟨q, d, A0, hv, o, st⟩ => ⟨_, _, _, hv, ?_⟩
  refine (sortStablePT (P := fun _ => True) (cmpOrder h) ordO (st.to (B := A0 + 0)) o (fun _ _ => trivial) (by omega)).mono fun v h2 ⟨hv, ys, A0, o, st, hpw, hst⟩ => ⟨hv, ?_⟩
  have hp := hst.1
  have hyl := o.len
  refine (build_ok n (by omega) o.cap (o.rd st) fun x hx => hw x (hp.mem_iff.1 hx)).mono fun v h3 ⟨rb, L, hv, lay, st2⟩ => ⟨_, hv, ?_⟩
  have st := st.join st2
  refine st.new (cs := [_, _]) fun b h4 _ st => ?_
  subst hyl
  exact ⟨b, _, ys, rfl, ⟨_, _, _, _, _, o, lay, rfl, hpw.imp fun {a b} h => by have := mt cfO_neg.2 h; unfold ptLt at this; omega⟩, hp, st.to⟩
theorem rectangle_ok {h0 h : Hp} {own : List Pt} {b : Nat} {A F : Bag} (a : PartA own b A) (s : St h0 h (A + F)) (hl : own.length ≤ 5000) (hw : WOk own) (x1 x2 y1 y2 : Int) :
    HCalls Try.prog 49 #[ptr b, .int .i64 x1, .int .i64 x2, .int .i64 y1, .int .i64 y2] h (fun v h' => Ext h h' ∧ v = .tuple #[.int .i64 (cntB x1 x2 y1 y2 own), .int .i64 (sumB x1 x2 y1 y2 own)]) := by
  obtain ⟨p, c, rb, A0, L, o, lay, rfl, hpw⟩ := a
  refine rangetree_part_rectangle_call ?_
  rw [rangetree_part_rectangle_b0_eq]
  have s := s.to (B := cA b [.slice p own.length c, ptr rb] 74 + (A0 + (L + F)))
  obtain ⟨ca, hca, ha⟩ := cut_ex (fun p : Pt => decide (p.1 < x1)) own (hpw.imp fun {p q} h hq => by rw [decide_eq_true_eq] at *; omega)
  obtain ⟨cb, hcb, hb⟩ := cut_ex (fun p : Pt => decide (p.1 ≤ x2)) own (hpw.imp fun {p q} h hq => by rw [decide_eq_true_eq] at *; omega)
  have hA := part_ask (y1 := y1) (y2 := y2) (l := own) (x1 := x1) (x2 := x2) (a := ca) (b := cb) hcb (fun i hi => by have := ha i hi; rwa [decide_eq_true_eq] at this) (fun i hi => by have := hb i hi; rwa [decide_eq_true_eq] at this)
  refine ⟨_, _, _, s.ld0, ?_⟩
  refine (searchP_ok (t := ca) (fun p : Pt => decide (p.1 < x1)) (by kernel_rfl) (fun x h => rect_c1 x x1 h) (o.rd (s.at A0)) (by omega) hca (fun j hj => ?_) (fun j hj hj2 => ?_)).mono fun v h1 ⟨e1, bb, hv⟩ => ⟨_, _, hv, ?_⟩
  · rw [getD_get (show j < own.length by omega)]; exact (ha j (by omega)).2 hj
  · rw [getD_get hj2]; exact Bool.eq_false_iff.2 (mt (ha j hj2).1 (by omega))
  have s := s.grow e1
  refine ⟨_, _, _, s.ld0, ?_⟩
  refine (searchP_ok (t := cb) (fun p : Pt => decide (p.1 ≤ x2)) (by kernel_rfl) (fun x h => rect_c2 x x2 h) (o.rd (s.at A0)) (by omega) hcb (fun j hj => ?_) (fun j hj hj2 => ?_)).mono fun v h2 ⟨e2, bb, hv⟩ => ⟨_, _, hv, ?_⟩
  · rw [getD_get (show j < own.length by omega)]; exact (hb j (by omega)).2 hj
  · rw [getD_get hj2]; exact Bool.eq_false_iff.2 (mt (hb j hj2).1 (by omega))
  have s := s.grow e2
  refine ⟨_, s.ldB, _, _, _, s.ld0, ?_⟩
  refine (ask_ok lay (s.at L) hl hw (by omega) (by omega) (by omega) (by omega)).mono fun v h3 ⟨e3, hv⟩ => ⟨_, _, hv, (e1.trans e2).trans e3, ?_⟩
  rw [hA.1, hA.2]
  rfl
end Go.Proofs.Ytbfejfejahoblaa

/- The tree in memory: List, put, renew. -/
set_option maxRecDepth 100000
namespace Go.Proofs.Ytbfejfejahoblaa
open Go Go.Sx
abbrev tPart : Ty Nat := tP 75
theorem ok_part : ElOk tPart Try.prog 66 := elB_spec (by kernel_rfl)
abbrev PS := List ((Int × Int) × Int)
def ptOf (e : (Int × Int) × Int) : Pt := (e.1.1, e.1.2, e.2)
def ptsOf (ps : PS) : List Pt := ps.map ptOf
def kvOf (p : Pt) : (Int × Int) × Int := ((p.1, p.2.1), p.2.2)
theorem ptsOf_len (ps : PS) : (ptsOf ps).length = ps.length := by simp [ptsOf]
theorem ptsOf_kv (l : List Pt) : ptsOf (l.map kvOf) = l := by
  unfold ptsOf
  rw [List.map_map]
  exact List.map_id' l
theorem ptsOf_place (ps : PS) : (ptsOf ps).map place = ps.map Prod.fst := by
  unfold ptsOf
  rw [List.map_map]
  rfl
def storedOf (parts : List (List Pt)) : Nat := (parts.map List.length).sum
theorem storedOf_app (P Q : List (List Pt)) : storedOf (P ++ Q) = storedOf P + storedOf Q := by simp [storedOf]
theorem storedOf_flat (P : List (List Pt)) : P.flatten.length = storedOf P := by simp [storedOf, List.length_flatten]
def TreeA (tb : Nat) (ps : PS) (parts : List (List Pt)) (rem : List Pt) (built : Int) (A : Bag) : Prop :=
  ∃ (m : Nat) (pp rp : Option Addr) (pc rc : Nat) (bs : List Nat) (Am Ap L Ar : Bag), MapA MPl m ps Am ∧ Sl tPart pp parts.length pc bs Ap ∧ AllH (fun b own A => PartA own b A) bs parts L ∧ Sl tPt rp rem.length rc rem Ar ∧
    A = cA tb [.map (some m), .slice pp parts.length pc, .slice rp rem.length rc, .int .i64 (storedOf parts : Nat), .int .i64 built] 68 + (Am + (Ap + (L + Ar)))
theorem TreeA.kd {tb : Nat} {ps : PS} {parts : List (List Pt)} {rem : List Pt} {built : Int} {A : Bag} (a : TreeA tb ps parts rem built A) : KD ps := by
  obtain ⟨m, pp, rp, pc, rc, bs, Am, Ap, L, Ar, hm, _⟩ := a
  exact hm.kd
/-- Sorted points of a map are in strict order. -/
theorem ptsS_of {ps : PS} {l : List Pt} (hd : KD ps) (hp : l.Perm (ptsOf ps)) (hw : l.Pairwise fun p q => ¬ cfO q p < 0) : PtsS l := by
  have hn : (l.map place).Nodup := by
    have := (hp.map place).nodup_iff.2 (by rw [ptsOf_place]; exact hd)
    exact this
  rw [List.nodup_iff_pairwise_ne, List.pairwise_map] at hn
  unfold PtsS
  refine (hw.and hn).imp fun {p q} ⟨h1, h2⟩ => ?_
  have h1 := mt cfO_neg.2 h1
  unfold ptLt at *
  unfold place at h2
  simp only [ne_eq, Prod.mk.injEq] at h2
  omega
section
variable {h0 h : Hp} {tb : Nat} {ps : PS} {parts : List (List Pt)} {rem : List Pt} {built : Int} {A F : Bag}
theorem List_ok (a : TreeA tb ps parts rem built A) (s : St h0 h (A + F)) (hn : ps.length ≤ 5000) :
    HCalls Try.prog 15 #[ptr tb] h (fun v h' => ∃ q d A' l, v = .slice q ps.length d ∧ Sl tPt q ps.length d l A' ∧ St h0 h' (A' + (A + F)) ∧ l.Perm (ptsOf ps) ∧ PtsS l) := by
  obtain ⟨m, pp, rp, pc, rc, bs, Am, Ap, L, Ar, hm, o1, hL, o2, rfl⟩ := a
  have hd := hm.kd
  generalize hT : cA tb [.map (some m), .slice pp parts.length pc, .slice rp rem.length rc, .int .i64 (storedOf parts : Nat), .int .i64 built] 68 = T at *
  have s := s.to (B := Am + (T + (Ap + (L + (Ar + F)))))
  refine rangetree_Tree_List_call ?_
  rw [rangetree_Tree_List_b0_eq]
  have ct : cell h ⟨tb, 0, none⟩ = some (.map (some m)) := by
    have s2 := s.at T
    rw [← hT] at s2
    exact s2.ld0
  refine condNo rfl ⟨_, ct, ?_⟩
  refine s.rangeM mapOk_pl hm fun it h1 I x1 itI s => ?_
  refine ⟨fun q h' => ∃ (done left : PS) (out : List Pt) (B I : Bag), q.1.2.1 = done.length ∧ Sl tPt q.1.1 q.1.2.1 q.1.2.2 out B ∧ out = ptsOf done ∧ IterA MPl it m ps Am done left I ∧ St h0 h' (Am + (I + (B + (T + (Ap + (L + (Ar + F))))))), fun q _ => ps.length - q.1.2.1, ⟨[], ps, [], 0, I, rfl, Sl.nil, rfl, itI, s.to⟩, ?_⟩
  clear s itI
  rintro ⟨⟨q, n, d⟩, _⟩ h2 ⟨done, left, out, B, I, rfl, o, rfl, itI, s⟩
  dsimp only at *
  have hlen : done.length + left.length = ps.length := by
    obtain ⟨l, c, sn, _, _, _, _, _, _, hp, _⟩ := itI
    have := hp.length_eq
    rw [List.length_append] at this
    omega
  rw [rangetree_Tree_List_b1_eq]
  refine s.nextM itI (fun hl => ?_) (fun e pre post h3 I' hl itI s => ?_)
  · rw [rangetree_Tree_List_b2_eq]
    subst hl
    have hp : done.Perm ps := by
      obtain ⟨l, c, sn, _, _, _, _, _, _, hp, _⟩ := itI
      rwa [List.append_nil] at hp
    refine (sortPT (P := fun _ => True) (cmpOrder h0) ordO (s.to (B := B + (I + (Am + (T + (Ap + (L + (Ar + F)))))))) o (fun _ _ => trivial) (by rw [List.length_nil] at hlen; omega)).mono fun v h4 ⟨hv, ys, B', o', s', hq, hw⟩ => ⟨hv, ?_⟩
    have hdl := hp.length_eq
    have hys := hq.trans (hp.map ptOf)
    rw [hdl] at o' ⊢
    exact ⟨q, d, B', ys, rfl, o', (s'.to (B := I + (B' + (T + (Am + (Ap + (L + Ar))) + F)))).drop, hys, ptsS_of hd hys hw⟩
  · have hdl : done.length < ps.length := by rw [← hlen, hl, List.length_append, List.length_cons]; omega
    refine itI.entry s ⟨_, _, _, rfl, ?_⟩
    refine s.new (cs := [_, _]) fun b1 h4 _ s => s.wr2c fun h5 s => ⟨_, s.ld0, _, s.ldB, ?_⟩
    refine push_sl (s := (s.at B)) ok_pts (cs := [_, _, _]) o (x := ptOf e) rfl rfl (by omega) fun p' c' h6 B' o' s => ?_
    refine ⟨⟨done ++ [e], pre ++ post, _, B', I', by simp, o', by simp [ptsOf], itI, ?_⟩, by dsimp only; omega⟩
    exact (s.to (B := cA b1 [.int .i64 e.1.1, .int .i64 e.1.2] 70 + (Am + (I' + (B' + (T + (Ap + (L + (Ar + F))))))))).drop
theorem put_ok (a : TreeA tb ps parts rem built A) (s : St h0 h (A + F)) {p : Option Addr} {n c : Nat} {l : List Pt} (r : RdT tPt h p n l) (hn : n ≤ 5000) (hw : WOk l) (hs : storedOf parts ≤ 10000) (hpl : parts.length ≤ 10000) (hb : 0 ≤ built ∧ built ≤ 1000000000) :
    HCalls Try.prog 30 #[ptr tb, .slice p n c] h (fun v h' => v = .tuple #[] ∧ ∃ own A', own.Perm l ∧ TreeA tb ps (parts ++ [own]) rem (built + n) A' ∧ St h0 h' (A' + F)) := by
  obtain ⟨m, pp, rp, pc, rc, bs, Am, Ap, L, Ar, hm, o1, hL, o2, rfl⟩ := a
  have hll := r.len
  refine rangetree_Tree_put_call ?_
  rw [rangetree_Tree_put_b0_eq]
  have s := s.to (B := cA tb [.map (some m), .slice pp parts.length pc, .slice rp rem.length rc, .int .i64 (storedOf parts : Nat), .int .i64 built] 68 + (Am + (Ap + (L + (Ar + F)))))
  refine ⟨_, _, _, s.ldB, ?_⟩
  refine (newPart_ok r hn hw).mono fun v h1 ⟨b, B, own, hv, pa, hp, st⟩ => ⟨_, hv, ?_⟩
  have s := s.join st
  refine ⟨⟨_, _, _, s.ldB, rfl⟩, ?_⟩
  refine s.new (cs := [_]) fun b1 h2 _ s => ⟨⟨_, _, _, s.ldB, rfl⟩, ?_⟩
  refine append_sl ok_part (s.at Ap) o1 ((Sl.one (T := tPart) (x := b) rfl).rd (s.find b1)) (by omega) fun p' c' h3 Ap' o1' s => ?_
  refine s.wrB fun h4 s => ⟨_, s.ldB, ⟨by omega, by omega⟩, s.wrB fun h5 s => ⟨_, s.ldB, ⟨by omega, by omega⟩, s.wrB fun h6 s => ⟨rfl, own, _, hp, ⟨m, p', rp, c', rc, bs ++ [b], Am, Ap', L + B, Ar, hm, ?_, hL.append (AllH.one pa), o2, rfl⟩, ?_⟩⟩⟩
  · rw [List.length_append]; exact o1'
  · have hpe := hp.length_eq
    have e1 : (.int .i64 ((storedOf parts : Nat) + (n : Int)) : Value) = .int .i64 ((storedOf (parts ++ [own]) : Nat) : Int) := by
      rw [storedOf_app]
      simp [storedOf]
      omega
    rw [List.length_append, List.length_singleton, ← e1]
    exact (s.to (B := cA b1 [.pointer (some ⟨b, 0, none⟩)] 75 + (cA tb [.map (some m), .slice p' (parts.length + 1) c', .slice rp rem.length rc, .int .i64 ((storedOf parts : Nat) + (n : Int)), .int .i64 (built + n)] 68 + (Am + (Ap' + (L + B + Ar))) + F))).drop
/-- All is built anew. -/
theorem renew_ok (a : TreeA tb ps parts rem built A) (s : St h0 h (A + F)) (hn : ps.length ≤ 5000) (hw : WOk (ptsOf ps)) (hb : 0 ≤ built ∧ built ≤ 1000000000) :
    HCalls Try.prog 29 #[ptr tb] h (fun v h' => v = .tuple #[] ∧ ∃ own A', own.Perm (ptsOf ps) ∧ TreeA tb ps (if ps.length = 0 then [] else [own]) [] (built + ps.length) A' ∧ St h0 h' (A' + F)) := by
  obtain ⟨m, pp, rp, pc, rc, bs, Am, Ap, L, Ar, hm, o1, hL, o2, rfl⟩ := a
  refine rangetree_Tree_renew_call ?_
  rw [rangetree_Tree_renew_b0_eq]
  have s := s.to (B := cA tb [.map (some m), .slice pp parts.length pc, .slice rp rem.length rc, .int .i64 (storedOf parts : Nat), .int .i64 built] 68 + (Ap + (L + (Ar + (Am + F)))))
  refine s.wrB fun h1 s => s.wrB fun h2 s => s.wrB fun h3 s => ?_
  have a' : TreeA tb ps [] [] built (cA tb [.map (some m), .slice none 0 0, .slice none 0 0, .int .i64 0, .int .i64 built] 68 + (Am + (0 + (0 + 0)))) := ⟨m, none, none, 0, 0, [], Am, 0, 0, 0, hm, Sl.nil, rfl, Sl.nil, rfl⟩
  have s := (s.to (B := (Ap + (L + Ar)) + (cA tb [.map (some m), .slice none 0 0, .slice none 0 0, .int .i64 0, .int .i64 built] 68 + (Am + (0 + (0 + 0))) + F))).drop
  generalize cA tb [.map (some m), .slice none 0 0, .slice none 0 0, .int .i64 0, .int .i64 built] 68 + (Am + (0 + (0 + 0))) = A at *
  refine (List_ok a' s hn).mono fun v h4 ⟨q, d, B, l, hv, o, s, hp, _⟩ => ⟨_, _, _, hv, condP (fun hpos => ?_) (fun hneg => ?_)⟩
  · refine (put_ok a' (s.to (B := A + (B + F))) (o.rd s) hn (fun x hx => hw x (hp.mem_iff.1 hx)) (by simp [storedOf]) (by simp) hb).mono fun v h5 ⟨hv, own, A', hq, ta, s⟩ => ⟨hv, rfl, own, A', hq.trans hp, ?_, (s.to (B := B + (A' + F))).drop⟩
    rw [if_neg (by omega)]
    exact ta
  · have hz : ps.length = 0 := by omega
    refine ⟨rfl, [], A, ?_, ?_, s.drop⟩
    · rw [List.eq_nil_of_length_eq_zero hz]; exact List.Perm.refl _
    · rw [if_pos hz, hz]
      simpa using a'
end
end Go.Proofs.Ytbfejfejahoblaa

/- Points: equality, predicates by closures, leaving out. -/
set_option maxRecDepth 100000
namespace Go.Proofs.Ytbfejfejahoblaa
open Go Go.Sx
theorem eq_pt {a b : Pt} : (decide (a.1 = b.1) && (decide (a.2.1 = b.2.1) && (decide (a.2.2 = b.2.2) && true))) = decide (a = b) := by
  rw [Bool.eq_iff_iff]
  simp only [Bool.and_true, Bool.and_eq_true, decide_eq_true_eq]
  constructor
  · rintro ⟨h1, h2, h3⟩; exact Prod.ext h1 (Prod.ext h2 h3)
  · rintro rfl; exact ⟨rfl, rfl, rfl⟩
theorem eql_pt {xo yo : Operand} (a b : Pt) {h : Hp} : eqC Try.prog .eql 33 xo yo (encPt a) (encPt b) h (decide (a = b)) := by
  rw [← eq_pt]
  exact (eqC_struct (xs := [.int .i64 a.1, .int .i64 a.2.1, .int .i64 a.2.2]) (ys := [.int .i64 b.1, .int .i64 b.2.1, .int .i64 b.2.2]) (fs := structFs Try.prog 33) (by kernel_rfl) (by kernel_rfl) (by kernel_rfl) (by kernel_rfl)).1 rfl
/-- What a closure says of points, in a state. -/
def PredP (h0 : Hp) (G : Bag) (f : Value) (cf : Pt → Bool) : Prop := ∀ (x : Pt) (h : Hp) (B : Bag) (K : Value → Hp → Prop), St h0 h (G + B) → (∀ h', Ext h h' → K (.bool (cf x)) h') → funV f fun fg fa fc => callX Try.prog F fg (fa ++ (([encPt x] : List Value) ++ fc)).toArray h K
theorem IndexF {h0 h : Hp} {G B : Bag} {f : Value} {cf : Pt → Bool} {p : Option Addr} {n c : Nat} {l : List Pt} (hf : PredP h0 G f cf) (s : St h0 h (G + B)) (r : RdT tPt h p n l) (hn : n ≤ 1000000) :
    HCalls Try.prog 44 #[.slice p n c, f] h (fun v h' => Ext h h' ∧ ((v = .int .i64 (-1) ∧ ∀ x ∈ l, cf x = false) ∨ ∃ i : Nat, v = .int .i64 (i : Int) ∧ i < n ∧ cf (l.getD i tPt.d) = true ∧ ∀ x ∈ l.take i, cf x = false)) := by
  have hll := r.len
  refine slices_IndexFunc_Sapi_Point_api_Point_call ?_
  rw [slices_IndexFunc_Sapi_Point_api_Point_b0_eq]
  refine ⟨fun q h' => Ext h h' ∧ ∃ i : Nat, q.1 = i ∧ i ≤ n ∧ ∀ x ∈ l.take i, cf x = false, fun q _ => (n - q.1).toNat, ⟨.refl _, 0, rfl, Nat.zero_le _, fun x hx => by rw [List.take_zero] at hx; cases hx⟩, ?_⟩
  rintro ⟨_, _⟩ h1 ⟨x1, i, rfl, hi, hall⟩
  dsimp only
  rw [slices_IndexFunc_Sapi_Point_api_Point_b1_eq]
  refine condP (fun hlt => ?_) (fun hge => ?_)
  · refine ldPT (i' := i) (r.ext x1) rfl (by omega) ?_
    refine hf (l.getD i tPt.d) _ B _ (s.grow x1) fun h2 x2 => ⟨_, rfl, cond_intro (fun hc => ⟨x1.trans x2, .inr ⟨i, rfl, by omega, hc, hall⟩⟩) (fun hc => ?_)⟩
    rw [slices_IndexFunc_Sapi_Point_api_Point_b2_eq]
    refine ⟨⟨by omega, by omega⟩, ⟨x1.trans x2, i + 1, by push_cast; rfl, by omega, fun x hx => ?_⟩, by dsimp only; omega⟩
    rw [take_succ_d (by omega)] at hx
    rcases List.mem_append.1 hx with hx | hx
    · exact hall x hx
    · rw [List.mem_singleton.1 hx]; exact hc
  · rw [slices_IndexFunc_Sapi_Point_api_Point_b3_eq]
    rw [List.take_of_length_le (by omega)] at hall
    exact ⟨x1, .inl ⟨rfl, hall⟩⟩
theorem ContainsF {h0 h : Hp} {G B : Bag} {f : Value} {cf : Pt → Bool} {p : Option Addr} {n c : Nat} {l : List Pt} (hf : PredP h0 G f cf) (s : St h0 h (G + B)) (r : RdT tPt h p n l) (hn : n ≤ 1000000) :
    HCalls Try.prog 26 #[.slice p n c, f] h (fun v h' => Ext h h' ∧ v = .bool (l.any cf)) := by
  have hll := r.len
  refine slices_ContainsFunc_Sapi_Point_api_Point_call ?_
  rw [slices_ContainsFunc_Sapi_Point_api_Point_b0_eq]
  refine (IndexF hf s r hn).mono fun v h1 ⟨x1, hv⟩ => ?_
  rcases hv with ⟨hv, hall⟩ | ⟨i, hv, hi, hc, _⟩
  · refine ⟨_, hv, x1, ?_⟩
    have : l.any cf = false := List.any_eq_false.2 fun x hx => by rw [hall x hx]; simp
    rw [this]; rfl
  · refine ⟨_, hv, x1, ?_⟩
    have hil : i < l.length := by omega
    rw [getD_get (d := tPt.d) hil] at hc
    have : l.any cf = true := List.any_eq_true.2 ⟨_, List.getElem_mem hil, hc⟩
    rw [this, decide_eq_true (by omega)]
/-- Points for which a closure says yes are left out. -/
theorem DeleteF {h0 h : Hp} {G B A : Bag} {f : Value} {cf : Pt → Bool} {p : Option Addr} {n c : Nat} {l : List Pt} (hf : PredP h0 G f cf) (s : St h0 h (A + (G + B))) (o : Sl tPt p n c l A) (hn : n ≤ 1000000) :
    HCalls Try.prog 34 #[.slice p n c, f] h (fun v h' => ∃ m A', v = .slice p m c ∧ Sl tPt p m c (l.filter fun x => !cf x) A' ∧ St h0 h' (A' + (G + B))) := by
  have hll := o.len
  have hcap := o.cap
  refine slices_DeleteFunc_Sapi_Point_api_Point_call ?_
  rw [slices_DeleteFunc_Sapi_Point_api_Point_b0_eq]
  refine (IndexF hf (s.to (B := G + (A + B))) (o.rd s) hn).mono fun v h1 ⟨x1, hv⟩ => ?_
  have s := s.grow x1
  rcases hv with ⟨hv, hall⟩ | ⟨i0, hv, hi0, hc0, hall⟩
  · refine ⟨_, hv, condYes rfl ⟨n, A, rfl, ?_, s⟩⟩
    rw [List.filter_eq_self.2 fun x hx => by rw [hall x hx]; rfl]
    exact o
  refine ⟨_, hv, condNo (decide_eq_false (by omega)) ⟨⟨by omega, by omega⟩, ?_⟩⟩
  refine ⟨fun q h' => ∃ (i j : Nat) (ys : List Pt) (A : Bag), q.1 = i ∧ q.2.1 = j ∧ i ≤ j ∧ j ≤ n ∧ Sl tPt p n c ys A ∧ ys.take i = (l.take j).filter (fun x => !cf x) ∧ (∀ k, j ≤ k → ys.getD k tPt.d = l.getD k tPt.d) ∧ St h0 h' (A + (G + B)), fun q _ => (n - q.2.1).toNat, ⟨i0, i0 + 1, l, A, rfl, by push_cast; rfl, by omega, by omega, o, ?_, fun _ _ => rfl, s⟩, ?_⟩
  · rw [take_succ_d (by omega), List.filter_append, List.filter_eq_self.2 fun x hx => by rw [hall x hx]; rfl, List.filter_cons, hc0]
    simp
  clear s o hall
  rintro ⟨_, _, _⟩ h2 ⟨i, j, ys, A, rfl, rfl, hij, hjn, o, htk, hrest, s⟩
  dsimp only
  have hyl := o.len
  have hil := congrArg List.length htk
  rw [List.length_take] at hil
  rw [slices_DeleteFunc_Sapi_Point_api_Point_b1_eq]
  refine condP (fun hlt => ?_) (fun hge => ?_)
  · refine ldPT (i' := j) (o.rd s) rfl (by omega) ?_
    rw [hrest j (Nat.le_refl _)]
    generalize hx : l.getD j tPt.d = x at *
    refine s.new (cs := [_, _, _]) fun b h3 _ s => s.wr3 fun h6 s => ⟨_, _, _, s.ld0, s.ldB, s.ldB, ?_⟩
    refine hf x _ (cA b [.int .i64 x.1, .int .i64 x.2.1, .int .i64 x.2.2] 33 + (A + B)) _ s.to fun h7 x7 => ⟨_, rfl, ?_⟩
    have s := s.grow x7
    have hfl : (l.take (j + 1)).filter (fun x => !cf x) = (l.take j).filter (fun x => !cf x) ++ (if cf x then [] else [x]) := by
      rw [take_succ_d (by omega), hx, List.filter_append, List.filter_cons]
      cases cf x <;> simp
    have keep := fun (h8 : Hp) (s8 : St h0 h8 (A + (G + B))) (hc : cf x = true) => (⟨i, j + 1, ys, A, rfl, by push_cast; rfl, by omega, by omega, o, by rw [htk, hfl, if_pos hc, List.append_nil], fun k hk => hrest k (by omega), s8⟩ : ∃ (i' j' : Nat) (ys : List Pt) (A : Bag), (i : Int) = i' ∧ (j : Int) + 1 = j' ∧ i' ≤ j' ∧ j' ≤ n ∧ Sl tPt p n c ys A ∧ ys.take i' = (l.take j').filter (fun x => !cf x) ∧ (∀ k, j' ≤ k → ys.getD k tPt.d = l.getD k tPt.d) ∧ St h0 h8 (A + (G + B)))
    refine cond_intro (fun hc => ?_) (fun hc => ?_)
    · have hc : cf x = false := by simpa using hc
      refine ⟨_, _, _, s.ld0, s.ldB, s.ldB, ⟨by omega, by omega⟩, ?_⟩
      obtain ⟨ad, hpa, _⟩ := (o.rd (s.at A)).at_ (i := i) (by omega)
      subst hpa
      rw [Int.toNat_natCast]
      refine wrPT (x := x) o (s.at A) (by omega) fun h8 A8 o8 s8 => ⟨⟨by omega, by omega⟩, ?_⟩
      rw [slices_DeleteFunc_Sapi_Point_api_Point_b2_eq]
      refine ⟨⟨by omega, by omega⟩, ⟨i + 1, j + 1, _, A8, by push_cast; rfl, by push_cast; rfl, by omega, by omega, o8, ?_, fun k hk => ?_, (s8.to (B := cA b [.int .i64 x.1, .int .i64 x.2.1, .int .i64 x.2.2] 33 + (A8 + (G + B)))).drop⟩, by dsimp only; omega⟩
      · rw [hfl, hc, ← htk, take_succ_d (by rw [List.length_set]; omega), List.take_set_of_le (Nat.le_refl _), getD_set_selfPt (by omega)]
        rfl
      · rw [getD_setS (by omega), if_neg (by omega)]
        exact hrest k (by omega)
    · have hc : cf x = true := by simpa using hc
      rw [slices_DeleteFunc_Sapi_Point_api_Point_b2_eq]
      refine ⟨⟨by omega, by omega⟩, keep h7 (s.to (B := cA b [.int .i64 x.1, .int .i64 x.2.1, .int .i64 x.2.2] 33 + (A + (G + B)))).drop hc, by dsimp only; omega⟩
  · obtain rfl : j = n := by omega
    rw [List.take_of_length_le (l := l) (by omega)] at htk
    rw [slices_DeleteFunc_Sapi_Point_api_Point_b3_eq]
    have e1 : Int.toNat (i : Int) = i := Int.toNat_natCast i
    have e2 : Int.toNat (j : Int) = j := Int.toNat_natCast j
    have e0 : Int.toNat (0 : Int) = 0 := rfl
    rw [e1, e2, e0, subAddr_z, Nat.sub_zero, Nat.sub_zero]
    refine ⟨⟨by omega, by omega, by omega⟩, clear_tail ok_pts o s hij fun h3 A3 o3 s3 => ⟨⟨by omega, by omega, by omega⟩, ?_⟩⟩
    rw [htk] at o3
    exact ⟨i, A3, rfl, o3, s3⟩
end Go.Proofs.Ytbfejfejahoblaa

/- The tree: valid points, Make, asking. -/
set_option maxRecDepth 100000
namespace Go.Proofs.Ytbfejfejahoblaa
open Go Go.Sx
def vPt (p : Pt) : Bool := decide ((-1048576 ≤ p.1 ∧ p.1 ≤ 1048576) ∧ (-1048576 ≤ p.2.1 ∧ p.2.1 ≤ 1048576) ∧ (-1048576 ≤ p.2.2 ∧ p.2.2 ≤ 1048576))
theorem vPt_iff {p : Pt} : vPt p = true ↔ (-1048576 ≤ p.1 ∧ p.1 ≤ 1048576) ∧ (-1048576 ≤ p.2.1 ∧ p.2.1 ≤ 1048576) ∧ (-1048576 ≤ p.2.2 ∧ p.2.2 ≤ 1048576) := by unfold vPt; rw [decide_eq_true_eq]
theorem valid_ok (x : Pt) (h : Hp) : HCalls Try.prog 28 #[encPt x] h (fun v h' => Ext h h' ∧ v = .bool (vPt x)) := by
  refine rangetree_valid_call ?_
  rw [rangetree_valid_b0_eq]
  refine (St.start h).new (cs := [_, _, _]) fun b1 h1 _ s => ⟨_, s.ld0, _, s.ldB, _, s.ldB, condP (fun hc => ⟨_, s.ld0, _, s.ldB, _, s.ldB, s.ext, ?_⟩) (fun hc => ⟨s.ext, ?_⟩)⟩
  · unfold vPt
    congr 1
    refine decide_eq_decide.2 ?_
    revert hc
    repeat' split
    all_goals omega
  · unfold vPt
    congr 1
    refine (decide_eq_false ?_).symm
    revert hc
    repeat' split
    all_goals omega
theorem validN (h0 : Hp) : PredP h0 0 (.func (.func 27) #[] #[]) (fun x => !vPt x) := fun x h B K _ hK => by
  refine funX_of (by kernel_rfl) (rangetree_Make_c1_call ?_)
  rw [rangetree_Make_c1_b0_eq]
  refine (St.start h).new (cs := [_, _, _]) fun b1 h1 _ s => ⟨_, _, _, s.ld0, s.ldB, s.ldB, (valid_ok x _).mono fun v h2 ⟨x2, hv⟩ => ⟨_, hv, hK _ (s.ext.trans x2)⟩⟩
/-! ### plain -/
theorem setk_len {ps : PS} {k : Int × Int} {w : Int} : (setk ps k w).length = ps.length + if lkp ps k = none then 1 else 0 := by
  induction ps with
  | nil => rfl
  | cons e l ih =>
    obtain ⟨a, v⟩ := e
    unfold setk lkp
    by_cases h : a = k
    · rw [if_pos h, if_pos h, if_neg (by simp)]; rfl
    · rw [if_neg h, if_neg h, List.length_cons, ih, List.length_cons]; omega
/-- A map after some points were put in. -/
def MI (l : List Pt) (ps : PS) : Prop := ((l.map place).Nodup ∧ ps = l.map kvOf) ∨ (¬ (l.map place).Nodup ∧ ps.length < l.length)
theorem MI_step {l : List Pt} {ps : PS} (h : MI l ps) (p : Pt) : MI (l ++ [p]) (setk ps (place p) p.2.2) := by
  rcases h with ⟨hn, rfl⟩ | ⟨hn, hl⟩
  · have hk : (l.map kvOf).map Prod.fst = l.map place := by rw [List.map_map]; rfl
    cases hc : lkp (l.map kvOf) (place p) with
    | none =>
      refine .inl ⟨?_, by rw [setk_new hc, List.map_append]; rfl⟩
      rw [List.map_append, List.nodup_append]
      refine ⟨hn, by simp, fun x hx y hy e => ?_⟩
      rw [List.map_singleton, List.mem_singleton] at hy
      subst hy; subst e
      rw [lkp_none, hk] at hc
      exact hc hx
    | some w =>
      refine .inr ⟨fun hn2 => ?_, by rw [setk_len, if_neg (by rw [hc]; simp)]; simp⟩
      rw [List.map_append, List.nodup_append] at hn2
      have : ¬ lkp (l.map kvOf) (place p) = none := by rw [hc]; simp
      rw [lkp_none, hk, Classical.not_not] at this
      exact hn2.2.2 _ this _ (by simp) rfl
  · refine .inr ⟨fun hn2 => hn ?_, ?_⟩
    · rw [List.map_append, List.nodup_append] at hn2; exact hn2.1
    · rw [setk_len, List.length_append, List.length_singleton]; split <;> omega
structure RI (ps : PS) (parts : List (List Pt)) (rem : List Pt) : Prop where
  perm : parts.flatten.Perm (ptsOf ps ++ rem)
  val : ∀ x ∈ parts.flatten, vPt x = true
  ne : ∀ P ∈ parts, P ≠ []
  small : 2 * rem.length < storedOf parts ∨ parts = []
  len : ps.length ≤ 1000
section
variable {ps : PS} {parts : List (List Pt)} {rem : List Pt}
theorem RI.stored (r : RI ps parts rem) : storedOf parts = ps.length + rem.length := by
  have := r.perm.length_eq
  rw [storedOf_flat, List.length_append, ptsOf_len] at this
  exact this
theorem RI.bound (r : RI ps parts rem) : storedOf parts ≤ 2000 ∧ rem.length ≤ 1000 := by
  have h1 := r.stored
  have h2 := r.len
  rcases r.small with h | h
  · omega
  · subst h
    have : storedOf [] = 0 := rfl
    omega
theorem parts_len : ∀ {parts : List (List Pt)}, (∀ P ∈ parts, P ≠ []) → parts.length ≤ storedOf parts
  | [], _ => Nat.le_refl _
  | P :: R, h => by
    have ih := parts_len (parts := R) fun Q hQ => h Q (List.mem_cons_of_mem _ hQ)
    have hp := List.length_pos_iff.2 (h P List.mem_cons_self)
    have e : storedOf (P :: R) = P.length + storedOf R := by simp [storedOf]
    rw [List.length_cons, e]; omega
theorem RI.wok (r : RI ps parts rem) : WOk parts.flatten := fun x hx => (vPt_iff.1 (r.val x hx)).2.2
theorem RI.wrem (r : RI ps parts rem) : WOk rem := fun x hx => r.wok x (r.perm.mem_iff.2 (List.mem_append.2 (.inr hx)))
end
theorem cntB_bound (x1 x2 y1 y2 : Int) (l : List Pt) : 0 ≤ cntB x1 x2 y1 y2 l ∧ cntB x1 x2 y1 y2 l ≤ l.length := by
  unfold cntB
  have := List.length_filter_le (inB x1 x2 y1 y2) l
  omega
theorem sumB_bound {x1 x2 y1 y2 : Int} {l : List Pt} (hw : WOk l) : -(1048576 * (l.length : Int)) ≤ sumB x1 x2 y1 y2 l ∧ sumB x1 x2 y1 y2 l ≤ 1048576 * (l.length : Int) := by
  unfold sumB
  have h1 := wSum_bound (l := l.filter (inB x1 x2 y1 y2)) fun x hx => hw x (List.mem_filter.1 hx).1
  have := List.length_filter_le (inB x1 x2 y1 y2) l
  omega
section
variable {h0 h : Hp} {tb : Nat} {ps : PS} {parts : List (List Pt)} {rem : List Pt} {built : Int} {A F : Bag}
theorem cntB_nil (x1 x2 y1 y2 : Int) : cntB x1 x2 y1 y2 [] = 0 := rfl
theorem sumB_nil (x1 x2 y1 y2 : Int) : sumB x1 x2 y1 y2 [] = 0 := rfl
theorem take_flat {parts : List (List Pt)} {i : Nat} (h : i < parts.length) : (parts.take (i + 1)).flatten = (parts.take i).flatten ++ parts.getD i [] := by
  rw [List.take_succ_eq_append_getElem h, List.flatten_append, getD_get h]
  simp
theorem flat_take_le (parts : List (List Pt)) (i : Nat) : (parts.take i).flatten.length ≤ storedOf parts := by
  conv => rhs; rw [← List.take_append_drop i parts, storedOf_app]
  rw [storedOf_flat]; omega
theorem treeAsk_ok (a : TreeA tb ps parts rem built A) (s : St h0 h (A + F)) (ri : RI ps parts rem) (x1 x2 y1 y2 : Int) :
    HCalls Try.prog 33 #[ptr tb, .int .i64 x1, .int .i64 x2, .int .i64 y1, .int .i64 y2] h (fun v h' => Ext h h' ∧ v = .tuple #[.int .i64 (cntB x1 x2 y1 y2 (ptsOf ps)), .int .i64 (sumB x1 x2 y1 y2 (ptsOf ps))]) := by
  obtain ⟨m, pp, rp, pc, rc, bs, Am, Ap, L, Ar, hm, o1, hL, o2, rfl⟩ := a
  obtain ⟨hb1, hb2⟩ := ri.bound
  have hpl := parts_len ri.ne
  have hbl := hL.len
  have hwf := ri.wok
  have hwr := ri.wrem
  have s := s.to (B := cA tb [.map (some m), .slice pp parts.length pc, .slice rp rem.length rc, .int .i64 (storedOf parts : Nat), .int .i64 built] 68 + (Am + (Ap + (L + (Ar + F)))))
  refine rangetree_Tree_ask_call ?_
  rw [rangetree_Tree_ask_b0_eq]
  refine ⟨_, _, _, s.ldB, ?_⟩
  refine ⟨fun q h' => ∃ i : Nat, q.2.2.1 = i ∧ i ≤ parts.length ∧ q.1 = cntB x1 x2 y1 y2 (parts.take i).flatten ∧ q.2.1 = sumB x1 x2 y1 y2 (parts.take i).flatten ∧ Ext h h', fun q _ => (parts.length - q.2.2.1).toNat, ⟨0, rfl, Nat.zero_le _, rfl, rfl, .refl _⟩, ?_⟩
  rintro ⟨_, _, _, _⟩ h1 ⟨i, rfl, hi, rfl, rfl, e1⟩
  dsimp only
  have s := s.grow e1
  have wi : WOk (parts.take i).flatten := fun x hx => hwf x (by rw [List.mem_flatten] at hx ⊢; obtain ⟨P, hP, hx⟩ := hx; exact ⟨P, List.mem_of_mem_take hP, hx⟩)
  have c1 := cntB_bound x1 x2 y1 y2 (parts.take i).flatten
  have c2 := sumB_bound (x1 := x1) (x2 := x2) (y1 := y1) (y2 := y2) wi
  have c3 := flat_take_le parts i
  rw [rangetree_Tree_ask_b1_eq]
  refine condP (fun hlt => ?_) (fun hge => ?_)
  · have hin : i < parts.length := by omega
    refine (o1.rd (s.at Ap)).ptr (by omega) (by omega) ?_
    obtain ⟨Li, Lr, rfl, pa⟩ := hL.pick (d := []) (d' := 0) (i := i) (by omega)
    have hP : parts.getD i [] ∈ parts := by rw [getD_get hin]; exact List.getElem_mem _
    have wP : WOk (parts.getD i []) := fun x hx => hwf x (List.mem_flatten.2 ⟨_, hP, hx⟩)
    have lP : (parts.getD i []).length ≤ storedOf parts := by
      have := flat_take_le parts (i + 1)
      rw [take_flat hin, List.length_append] at this; omega
    rw [Int.toNat_natCast]
    refine (rectangle_ok pa (s.to (B := Li + (cA tb [.map (some m), .slice pp parts.length pc, .slice rp rem.length rc, .int .i64 (storedOf parts : Nat), .int .i64 built] 68 + (Am + (Ap + (Lr + (Ar + F))))))) (by omega) wP x1 x2 y1 y2).mono fun v h2 ⟨e2, hv⟩ => ⟨_, _, hv, ?_⟩
    have d1 := cntB_bound x1 x2 y1 y2 (parts.getD i [])
    have d2 := sumB_bound (x1 := x1) (x2 := x2) (y1 := y1) (y2 := y2) wP
    refine ⟨⟨by omega, by omega⟩, ⟨by omega, by omega⟩, ?_⟩
    rw [rangetree_Tree_ask_b2_eq]
    refine ⟨⟨by omega, by omega⟩, ⟨i + 1, by push_cast; rfl, by omega, ?_, ?_, e1.trans e2⟩, by dsimp only; omega⟩
    · rw [take_flat hin, cntB_app]
    · rw [take_flat hin, sumB_app]
  obtain rfl : i = parts.length := by omega
  rw [List.take_length] at *
  rw [rangetree_Tree_ask_b3_eq]
  refine ⟨_, _, _, s.ldB, ?_⟩
  refine ⟨fun q h' => ∃ i : Nat, q.2.2.1 = i ∧ i ≤ rem.length ∧ q.1 = cntB x1 x2 y1 y2 parts.flatten - cntB x1 x2 y1 y2 (rem.take i) ∧ q.2.1 = sumB x1 x2 y1 y2 parts.flatten - sumB x1 x2 y1 y2 (rem.take i) ∧ Ext h1 h', fun q _ => (rem.length - q.2.2.1).toNat, ⟨0, rfl, Nat.zero_le _, by rw [List.take_zero, cntB_nil]; omega, by dsimp only; rw [List.take_zero, sumB_nil]; omega, .refl _⟩, ?_⟩
  rintro ⟨_, _, _, _⟩ h2 ⟨i, rfl, hi, rfl, rfl, e2⟩
  dsimp only
  have s := s.grow e2
  have wi : WOk (rem.take i) := fun x hx => hwr x (List.mem_of_mem_take hx)
  have d1 := cntB_bound x1 x2 y1 y2 (rem.take i)
  have d2 := sumB_bound (x1 := x1) (x2 := x2) (y1 := y1) (y2 := y2) wi
  rw [List.length_take] at d1 d2
  rw [rangetree_Tree_ask_b4_eq]
  refine condP (fun hlt => ?_) (fun hge => ?_)
  · have hin : i < rem.length := by omega
    refine ldPT (i' := i) (o2.rd (s.at Ar)) rfl hin ?_
    have hwx := hwr (rem.getD i tPt.d) (by rw [getD_get hin]; exact List.getElem_mem _)
    have htk := take_succ_d hin
    generalize rem.getD i tPt.d = x at *
    have cs1 : cntB x1 x2 y1 y2 (rem.take (i + 1)) = cntB x1 x2 y1 y2 (rem.take i) + (if x1 ≤ x.1 ∧ x.1 ≤ x2 ∧ y1 ≤ x.2.1 ∧ x.2.1 ≤ y2 then 1 else 0) := by
      rw [htk, cntB_app]
      unfold cntB inB
      rw [List.filter_cons]
      split <;> rename_i hh <;> rw [decide_eq_true_eq] at hh
      · rw [if_pos hh]; rfl
      · rw [if_neg hh]; rfl
    have cs2 : sumB x1 x2 y1 y2 (rem.take (i + 1)) = sumB x1 x2 y1 y2 (rem.take i) + (if x1 ≤ x.1 ∧ x.1 ≤ x2 ∧ y1 ≤ x.2.1 ∧ x.2.1 ≤ y2 then x.2.2 else 0) := by
      rw [htk, sumB_app]
      unfold sumB inB
      rw [List.filter_cons]
      split <;> rename_i hh <;> rw [decide_eq_true_eq] at hh
      · rw [if_pos hh, List.filter_nil, wSum_cons, wSum_nil]; omega
      · rw [if_neg hh]; rfl
    refine (St.start h2).new (cs := [_, _, _]) fun b h3 x3 t => t.wr3 fun h7 t => ⟨_, t.ld0, ?_⟩
    have e7 := e2.trans t.ext
    have fin : ∀ c z : Int, c = cntB x1 x2 y1 y2 parts.flatten - cntB x1 x2 y1 y2 (rem.take (i + 1)) → z = sumB x1 x2 y1 y2 parts.flatten - sumB x1 x2 y1 y2 (rem.take (i + 1)) → ∀ {nx K}, (∀ q : Int × Int × Int × Unit, q.1 = c → q.2.1 = z → q.2.2.1 = (i : Int) + 1 → nx q h7) → rangetree_Tree_ask_b5 x1 x2 y1 y2 c z rp rem.length rc (rem.length : Int) (i : Int) h7 nx K := fun c z _ _ nx K hn => by
      rw [rangetree_Tree_ask_b5_eq]
      exact ⟨⟨by omega, by omega⟩, hn _ rfl rfl rfl⟩
    have no : ¬ (x1 ≤ x.1 ∧ x.1 ≤ x2 ∧ y1 ≤ x.2.1 ∧ x.2.1 ≤ y2) → rangetree_Tree_ask_b5 x1 x2 y1 y2 (cntB x1 x2 y1 y2 parts.flatten - cntB x1 x2 y1 y2 (rem.take i)) (sumB x1 x2 y1 y2 parts.flatten - sumB x1 x2 y1 y2 (rem.take i)) rp rem.length rc (rem.length : Int) (i : Int) h7 (fun q h' => (∃ i : Nat, q.2.2.1 = i ∧ i ≤ rem.length ∧ q.1 = cntB x1 x2 y1 y2 parts.flatten - cntB x1 x2 y1 y2 (rem.take i) ∧ q.2.1 = sumB x1 x2 y1 y2 parts.flatten - sumB x1 x2 y1 y2 (rem.take i) ∧ Ext h1 h') ∧ ((rem.length : Int) - q.2.2.1).toNat < ((rem.length : Int) - (i : Int)).toNat) (fun v h' => Ext h h' ∧ v = .tuple #[.int .i64 (cntB x1 x2 y1 y2 (ptsOf ps)), .int .i64 (sumB x1 x2 y1 y2 (ptsOf ps))]) := fun hno => by
      rw [if_neg hno] at cs1 cs2
      exact fin _ _ (by omega) (by omega) fun q q1 q2 q3 => ⟨⟨i + 1, by rw [q3]; push_cast; rfl, by omega, by rw [q1]; omega, by rw [q2]; omega, e7⟩, by omega⟩
    refine condP (fun g1 => ⟨_, t.ld0, condP (fun g2 => ⟨_, t.ldB, condP (fun g3 => ⟨_, t.ldB, condP (fun g4 => ?_) (fun g => no (by omega))⟩) (fun g => no (by omega))⟩) (fun g => no (by omega))⟩) (fun g => no (by omega))
    rw [if_pos ⟨g1, g2, g3, g4⟩] at cs1 cs2
    refine ⟨⟨by omega, by omega⟩, _, t.ldB, ⟨by omega, by omega⟩, ?_⟩
    exact fin _ _ (by omega) (by omega) fun q q1 q2 q3 => ⟨⟨i + 1, by rw [q3]; push_cast; rfl, by omega, by rw [q1]; omega, by rw [q2]; omega, e7⟩, by omega⟩
  · obtain rfl : i = rem.length := by omega
    rw [rangetree_Tree_ask_b6_eq]
    refine ⟨e1.trans e2, ?_⟩
    rw [List.take_length, cntB_perm ri.perm, sumB_perm ri.perm, cntB_app, sumB_app]
    congr 3
    · congr 1; omega
    · congr 2; omega
theorem Count_ok (a : TreeA tb ps parts rem built A) (s : St h0 h (A + F)) (ri : RI ps parts rem) (x1 x2 y1 y2 : Int) :
    HCalls Try.prog 16 #[ptr tb, .int .i64 x1, .int .i64 x2, .int .i64 y1, .int .i64 y2] h (fun v h' => Ext h h' ∧ v = .tuple #[.int .i64 (cntB x1 x2 y1 y2 (ptsOf ps)), .int .i64 0]) := by
  refine rangetree_Tree_Count_call ?_
  rw [rangetree_Tree_Count_b0_eq]
  exact condNo rfl ((treeAsk_ok a s ri x1 x2 y1 y2).mono fun v h1 ⟨x1, hv⟩ => ⟨_, _, hv, x1, rfl⟩)
theorem Sum_ok (a : TreeA tb ps parts rem built A) (s : St h0 h (A + F)) (ri : RI ps parts rem) (x1 x2 y1 y2 : Int) :
    HCalls Try.prog 20 #[ptr tb, .int .i64 x1, .int .i64 x2, .int .i64 y1, .int .i64 y2] h (fun v h' => Ext h h' ∧ v = .tuple #[.int .i64 (sumB x1 x2 y1 y2 (ptsOf ps)), .int .i64 0]) := by
  refine rangetree_Tree_Sum_call ?_
  rw [rangetree_Tree_Sum_b0_eq]
  exact condNo rfl ((treeAsk_ok a s ri x1 x2 y1 y2).mono fun v h1 ⟨x1, hv⟩ => ⟨_, _, hv, x1, rfl⟩)
theorem Len_ok (a : TreeA tb ps parts rem built A) (s : St h0 h (A + F)) : HCalls Try.prog 17 #[ptr tb] h (fun v h' => h' = h ∧ v = .int .i64 (ps.length : Nat)) := by
  obtain ⟨m, pp, rp, pc, rc, bs, Am, Ap, L, Ar, hm, o1, hL, o2, rfl⟩ := a
  refine rangetree_Tree_Len_call ?_
  rw [rangetree_Tree_Len_b0_eq]
  exact condNo rfl ⟨_, s.ld0, hm.len (s.to (B := Am + (cA tb [.map (some m), .slice pp parts.length pc, .slice rp rem.length rc, .int .i64 (storedOf parts : Nat), .int .i64 built] 68 + (Ap + (L + Ar) + F)))) ⟨rfl, rfl⟩⟩
/-- The points of a rectangle. -/
theorem Report_ok (a : TreeA tb ps parts rem built A) (s : St h0 h (A + F)) (hn : ps.length ≤ 5000) (x1 x2 y1 y2 : Int) :
    HCalls Try.prog 19 #[ptr tb, .int .i64 x1, .int .i64 x2, .int .i64 y1, .int .i64 y2] h (fun v h' => ∃ q n d A' l, v = .tuple #[.slice q n d, .int .i64 0] ∧ l.Perm (ptsOf ps) ∧ PtsS l ∧ Sl tPt q n d (l.filter (inB x1 x2 y1 y2)) A' ∧ St h0 h' (A' + (A + F))) := by
  refine rangetree_Tree_Report_call ?_
  rw [rangetree_Tree_Report_b0_eq]
  refine s.new (cs := [_]) fun b1 g1 _ s => s.new (cs := [_]) fun b2 g2 _ s => s.new (cs := [_]) fun b3 g3 _ s => s.new (cs := [_]) fun b4 g4 _ s => condNo rfl ?_
  have s := s.to (B := A + ((cA b1 [.int .i64 x1] 3 + (cA b2 [.int .i64 x2] 3 + (cA b3 [.int .i64 y1] 3 + cA b4 [.int .i64 y2] 3))) + F))
  refine (List_ok a s hn).mono fun v h5 ⟨q, d, A', l, hv, o, s, hp, hs⟩ => ⟨_, _, _, hv, ?_⟩
  have hf : PredP h0 (cA b1 [.int .i64 x1] 3 + (cA b2 [.int .i64 x2] 3 + (cA b3 [.int .i64 y1] 3 + cA b4 [.int .i64 y2] 3))) (.func (.func 35) #[] #[ptr b1, ptr b2, ptr b3, ptr b4]) (fun x => !inB x1 x2 y1 y2 x) := fun x h B K s hK => by
    refine funX_of (by kernel_rfl) (rangetree_Tree_Report_c1_call ?_)
    rw [rangetree_Tree_Report_c1_b0_eq]
    refine (St.start h).new (cs := [_, _, _]) fun c h1 _ t => ⟨_, t.ld0, ?_⟩
    have s := s.grow t.ext
    have yes : ∀ z : Bool, z = (!inB x1 x2 y1 y2 x) → K (.bool z) h1 := fun z hz => by rw [hz]; exact hK h1 t.ext
    refine ⟨_, s.ld0, condP (fun g => yes _ ?_) (fun g => ⟨_, t.ld0, _, s.ld0, condP (fun g' => yes _ ?_) (fun g' => ⟨_, t.ldB, _, s.ld0, condP (fun g2 => yes _ ?_) (fun g2 => ⟨_, t.ldB, _, s.ld0, yes _ ?_⟩)⟩)⟩)⟩
    · unfold inB; rw [decide_eq_false (by omega)]; rfl
    · unfold inB; rw [decide_eq_false (by omega)]; rfl
    · unfold inB; rw [decide_eq_false (by omega)]; rfl
    · unfold inB
      by_cases g3 : x.2.1 ≤ y2
      · rw [decide_eq_false (by omega), decide_eq_true (by omega)]; rfl
      · rw [decide_eq_true (by omega), decide_eq_false (by omega)]; rfl
  refine (DeleteF hf (s.to (B := A' + ((cA b1 [.int .i64 x1] 3 + (cA b2 [.int .i64 x2] 3 + (cA b3 [.int .i64 y1] 3 + cA b4 [.int .i64 y2] 3))) + (A + F)))) o (by omega)).mono fun v h6 ⟨n, A2, hv, o2, s2⟩ => ⟨_, _, _, hv, q, n, d, A2, l, rfl, hp, hs, ?_, (s2.to (B := (cA b1 [.int .i64 x1] 3 + (cA b2 [.int .i64 x2] 3 + (cA b3 [.int .i64 y1] 3 + cA b4 [.int .i64 y2] 3))) + (A2 + (A + F)))).drop⟩
  have e : (l.filter fun x => !!inB x1 x2 y1 y2 x) = l.filter (inB x1 x2 y1 y2) := List.filter_congr fun x _ => by simp
  rw [e] at o2
  exact o2
theorem find_take {α : Type} {p : α → Bool} {l : List α} {i : Nat} (hi : i < l.length) (h1 : ∀ x ∈ l.take i, p x = false) (h2 : p l[i] = true) : l.find? p = some l[i] := by
  have e := split_at hi
  generalize l[i] = x at *
  rw [e, List.find?_append, List.find?_eq_none.2 (fun y hy => by rw [h1 y hy]; simp), List.find?_cons, h2]
  rfl
theorem Leftmost_ok (a : TreeA tb ps parts rem built A) (s : St h0 h (A + F)) (hn : ps.length ≤ 5000) (x1 y1 y2 : Int) :
    HCalls Try.prog 22 #[ptr tb, .int .i64 x1, .int .i64 y1, .int .i64 y2] h (fun v h' => St h0 h' (A + F) ∧ ∃ l, l.Perm (ptsOf ps) ∧ PtsS l ∧ v = match l.find? (fun p => decide (x1 ≤ p.1 ∧ y1 ≤ p.2.1 ∧ p.2.1 ≤ y2)) with | some p => .tuple #[encPt p, .int .i64 0] | none => .tuple #[encPt (0, 0, 0), .int .i64 12]) := by
  refine rangetree_Tree_Leftmost_call ?_
  rw [rangetree_Tree_Leftmost_b0_eq]
  refine s.new (cs := [_, _, _]) fun b1 g1 _ s => condNo rfl ?_
  refine (List_ok a (s.to (B := A + (cA b1 [.int .i64 0, .int .i64 0, .int .i64 0] 33 + F))) hn).mono fun v h5 ⟨q, d, A', l, hv, o, s, hp, hs⟩ => ⟨_, _, _, hv, ?_⟩
  have hl := o.len
  have s := s.to (B := A' + (cA b1 [.int .i64 0, .int .i64 0, .int .i64 0] 33 + (A + F)))
  refine ⟨fun z h' => ∃ i : Nat, z.1 = i ∧ i ≤ ps.length ∧ (∀ x ∈ l.take i, decide (x1 ≤ x.1 ∧ y1 ≤ x.2.1 ∧ x.2.1 ≤ y2) = false) ∧ St h0 h' (A' + (cA b1 [.int .i64 0, .int .i64 0, .int .i64 0] 33 + (A + F))), fun z _ => (ps.length - z.1).toNat, ⟨0, rfl, Nat.zero_le _, fun x hx => (by rw [List.take_zero] at hx; cases hx), s⟩, ?_⟩
  clear s
  rintro ⟨_, _⟩ h6 ⟨i, rfl, hi, hall, s⟩
  dsimp only
  rw [rangetree_Tree_Leftmost_b1_eq]
  refine condP (fun hlt => ?_) (fun hge => ?_)
  · have hin : i < l.length := by omega
    refine ldPT (i' := i) (o.rd s) rfl (by omega) ?_
    have hx : l.getD i tPt.d = l[i] := getD_get hin
    have htk := take_succ_d hin
    rw [hx] at htk ⊢
    have hfd := find_take (p := fun x : Pt => decide (x1 ≤ x.1 ∧ y1 ≤ x.2.1 ∧ x.2.1 ≤ y2)) hin hall
    generalize l[i] = x at *
    refine s.new (cs := [_, _, _]) fun b h7 _ s => s.wr3 fun h10 s => ⟨_, s.ld0, ?_⟩
    have no : ¬ (x1 ≤ x.1 ∧ y1 ≤ x.2.1 ∧ x.2.1 ≤ y2) → rangetree_Tree_Leftmost_b2 x1 y1 y2 (some ⟨b1, 0, none⟩) q ps.length d (ps.length : Int) (i : Int) h10 (fun z h' => (∃ i : Nat, z.1 = i ∧ i ≤ ps.length ∧ (∀ x ∈ l.take i, decide (x1 ≤ x.1 ∧ y1 ≤ x.2.1 ∧ x.2.1 ≤ y2) = false) ∧ St h0 h' (A' + (cA b1 [.int .i64 0, .int .i64 0, .int .i64 0] 33 + (A + F)))) ∧ ((ps.length : Int) - z.1).toNat < ((ps.length : Int) - (i : Int)).toNat) (fun v h' => St h0 h' (A + F) ∧ ∃ l, l.Perm (ptsOf ps) ∧ PtsS l ∧ v = match l.find? (fun p => decide (x1 ≤ p.1 ∧ y1 ≤ p.2.1 ∧ p.2.1 ≤ y2)) with | some p => .tuple #[encPt p, .int .i64 0] | none => .tuple #[encPt (0, 0, 0), .int .i64 12]) := fun hno => by
      rw [rangetree_Tree_Leftmost_b2_eq]
      refine ⟨⟨by omega, by omega⟩, ⟨i + 1, by push_cast; rfl, by omega, fun y hy => ?_, s.drop⟩, by dsimp only; omega⟩
      rw [htk] at hy
      rcases List.mem_append.1 hy with hy | hy
      · exact hall y hy
      · rw [List.mem_singleton.1 hy]; exact decide_eq_false hno
    refine condP (fun g1 => ⟨_, s.ldB, condP (fun g2 => ⟨_, s.ldB, condP (fun g3 => ?_) (fun g => no (by omega))⟩) (fun g => no (by omega))⟩) (fun g => no (by omega))
    refine ⟨_, _, _, s.ld0, s.ldB, s.ldB, (s.find b1).wr3 fun h13 s => ⟨_, _, _, s.ld0, s.ldB, s.ldB, ?_⟩⟩
    refine ⟨(s.to (B := (cA b1 [.int .i64 x.1, .int .i64 x.2.1, .int .i64 x.2.2] 33 + (cA b [.int .i64 x.1, .int .i64 x.2.1, .int .i64 x.2.2] 33 + A')) + (A + F))).drop, l, hp, hs, ?_⟩
    rw [hfd (decide_eq_true ⟨g1, g2, g3⟩)]
  · obtain rfl : i = ps.length := by omega
    rw [List.take_of_length_le (by omega)] at hall
    rw [rangetree_Tree_Leftmost_b3_eq]
    refine (s.find b1).wr3 fun h13 s => ⟨_, _, _, s.ld0, s.ldB, s.ldB, ?_⟩
    refine ⟨(s.to (B := (cA b1 [.int .i64 0, .int .i64 0, .int .i64 0] 33 + A') + (A + F))).drop, l, hp, hs, ?_⟩
    rw [List.find?_eq_none.2 fun x hx => by rw [hall x hx]; simp]
end
end Go.Proofs.Ytbfejfejahoblaa

/- The tree: Make, Add, Remove. -/
set_option maxRecDepth 100000
namespace Go.Proofs.Ytbfejfejahoblaa
open Go Go.Sx
theorem Make_ok {h : Hp} {p : Option Addr} {n c : Nat} {l : List Pt} (r : RdT tPt h p n l) (hn : n ≤ 4000) :
    HCalls Try.prog 10 #[.slice p n c] h (fun v h' => if l.any (fun x => !vPt x) = true then v = .tuple #[.pointer none, .int .i64 1] ∧ Ext h h' else
      if ¬ (l.map place).Nodup then v = .tuple #[.pointer none, .int .i64 10] ∧ Ext h h' else if 1000 < n then v = .tuple #[.pointer none, .int .i64 4] ∧ Ext h h' else
      ∃ tb A own, v = .tuple #[ptr tb, .int .i64 0] ∧ TreeA tb (l.map kvOf) (if n = 0 then [] else [own]) [] n A ∧ own.Perm l ∧ St h h' A) := by
  have hll := r.len
  refine rangetree_Make_call ?_
  rw [rangetree_Make_b0_eq]
  refine (ContainsF (validN h) (St.start h).to r (by omega)).mono fun v h1 ⟨x1, hv⟩ => ⟨_, hv, cond_intro (fun hc => ?_) (fun hc => ?_)⟩
  · rw [if_pos hc]; exact ⟨rfl, x1⟩
  simp only [if_neg (show ¬ l.any (fun x => !vPt x) = true by rw [hc]; simp)]
  have s := (St.start h).grow x1
  refine s.newMap MPl fun m h2 Am _ hm s => s.new (cs := [_, _, _, _, _]) fun tb h3 _ s => ?_
  refine ⟨fun q h' => ∃ (i : Nat) (ps : PS) (Am : Bag), q.1 = i ∧ i ≤ n ∧ MI (l.take i) ps ∧ MapA MPl m ps Am ∧ St h h' (Am + (cA tb [.map (some m), .slice none 0 0, .slice none 0 0, .int .i64 0, .int .i64 0] 68 + 0)), fun q _ => (n - q.1).toNat, ⟨0, [], Am, rfl, Nat.zero_le _, .inl ⟨by simp, rfl⟩, hm, s.to⟩, ?_⟩
  clear s hm
  rintro ⟨_, _⟩ h4 ⟨i, ps, Am, rfl, hi, mi, hm, s⟩
  dsimp only
  rw [rangetree_Make_b1_eq]
  refine condP (fun hlt => ?_) (fun hge => ?_)
  · have hin : i < l.length := by omega
    refine ldPT (i' := i) (r.ext s.ext) rfl (by omega) ?_
    have htk := take_succ_d hin
    generalize l.getD i tPt.d = x at *
    refine s.new (cs := [_, _, _]) fun b h5 _ s => s.wr3 fun h8 s => ⟨_, s.ld0, _, s.ld0, _, s.ldB, _, s.ldB, ?_⟩
    refine hm.set mapOk_pl (k := place x) (v := x.2.2) (s.at Am) rfl fun h9 A9 m9 s => ?_
    rw [rangetree_Make_b2_eq]
    refine ⟨⟨by omega, by omega⟩, ⟨i + 1, _, A9, by push_cast; rfl, by omega, by rw [htk]; exact MI_step mi x, m9, (s.to (B := cA b [.int .i64 x.1, .int .i64 x.2.1, .int .i64 x.2.2] 33 + (A9 + (cA tb [.map (some m), .slice none 0 0, .slice none 0 0, .int .i64 0, .int .i64 0] 68 + 0)))).drop⟩, by dsimp only; omega⟩
  obtain rfl : i = n := by omega
  rw [List.take_of_length_le (by omega)] at mi
  rw [rangetree_Make_b3_eq]
  refine ⟨_, s.ld0, hm.len s ?_⟩
  rcases mi with ⟨hnd, rfl⟩ | ⟨hnd, hlen⟩
  · simp only [if_neg (show ¬ ¬ (l.map place).Nodup from fun h => h hnd)]
    rw [List.length_map]
    refine condP (fun h => by omega) (fun _ => condP (fun hb => ?_) (fun hb => ?_))
    · rw [if_pos (by omega)]; exact ⟨by trivial, s.ext⟩
    simp only [if_neg (show ¬ 1000 < i by omega)]
    rw [rangetree_Make_b4_eq]
    have a' : TreeA tb (l.map kvOf) [] [] 0 (cA tb [.map (some m), .slice none 0 0, .slice none 0 0, .int .i64 0, .int .i64 0] 68 + (Am + (0 + (0 + 0)))) := ⟨m, none, none, 0, 0, [], Am, 0, 0, 0, hm, Sl.nil, rfl, Sl.nil, rfl⟩
    have hw : WOk (ptsOf (l.map kvOf)) := fun x hx => by
      rw [ptsOf_kv] at hx
      have := List.any_eq_false.1 hc x hx
      have h2 : vPt x = true := by simpa using this
      exact (vPt_iff.1 h2).2.2
    refine (renew_ok a' (s.to (B := cA tb [.map (some m), .slice none 0 0, .slice none 0 0, .int .i64 0, .int .i64 0] 68 + (Am + (0 + (0 + 0))) + 0)) (by rw [List.length_map]; omega) hw ⟨by omega, by omega⟩).mono fun v h9 ⟨hv, own, A', hp, ta, s⟩ => ⟨hv, tb, A', own, rfl, ?_, by rw [ptsOf_kv] at hp; exact hp, s.to⟩
    rw [List.length_map, hll, Int.zero_add] at ta
    exact ta
  · simp only [if_pos hnd]
    exact condYes (decide_eq_true (by omega)) ⟨by trivial, s.ext⟩
/-! ### merging -/
section
variable {h0 h : Hp} {tb : Nat} {ps : PS} {parts : List (List Pt)} {rem : List Pt} {built : Int} {A F : Bag}
end
end Go.Proofs.Ytbfejfejahoblaa

/- The tree as a set of points. -/
set_option maxRecDepth 100000
namespace Go.Proofs.Ytbfejfejahoblaa
open Go Go.Sx
/-! ### plain -/
def insPt (p : Pt) (l : List Pt) : List Pt := l.takeWhile (fun q => decide (ptLt q p)) ++ p :: l.dropWhile (fun q => decide (ptLt q p))
theorem insPt_perm (p : Pt) (l : List Pt) : (insPt p l).Perm (p :: l) := by
  unfold insPt
  refine List.perm_middle.trans ?_
  rw [List.takeWhile_append_dropWhile]
theorem mem_place {l : List Pt} {k : Int × Int} : k ∈ l.map place ↔ ∃ p ∈ l, place p = k := List.mem_map
theorem insPt_S {p : Pt} {l : List Pt} (hs : PtsS l) (hp : place p ∉ l.map place) : PtsS (insPt p l) := by
  unfold insPt PtsS
  have e := List.takeWhile_append_dropWhile (p := fun q => decide (ptLt q p)) (l := l)
  have hs' := hs
  unfold PtsS at hs
  rw [← e, List.pairwise_append] at hs
  have h1 : ∀ q ∈ l.takeWhile (fun q => decide (ptLt q p)), ptLt q p := fun q hq => by
    have := List.all_eq_true.1 (List.all_takeWhile (p := fun q => decide (ptLt q p)) (l := l)) q hq
    simpa using this
  have h2 : ∀ q ∈ l.dropWhile (fun q => decide (ptLt q p)), ptLt p q := by
    cases hd : l.dropWhile (fun q => decide (ptLt q p)) with
    | nil => intro q hq; cases hq
    | cons z t =>
      have hz : ¬ ptLt z p := by
        have := List.head_dropWhile_not (p := fun q => decide (ptLt q p)) (l := l) (by rw [hd]; simp)
        simp only [hd, List.head_cons] at this
        simpa using this
      have hzl : z ∈ l := by rw [← e, hd]; simp
      have hne : place z ≠ place p := fun h => hp (mem_place.2 ⟨z, hzl, h⟩)
      have hpz : ptLt p z := by
        unfold place at hne
        simp only [ne_eq, Prod.mk.injEq] at hne
        unfold ptLt at *
        omega
      intro q hq
      rcases List.mem_cons.1 hq with rfl | hq
      · exact hpz
      · have := hs.2.1
        rw [hd, List.pairwise_cons] at this
        exact ptLt_trans hpz (this.1 q hq)
  rw [List.pairwise_append, List.pairwise_cons]
  refine ⟨hs.1, ⟨h2, hs.2.1⟩, fun a ha b hb => ?_⟩
  rcases List.mem_cons.1 hb with rfl | hb
  · exact h1 a ha
  · exact hs.2.2 a ha b hb
def madeL (l : List Pt) : List Pt := l.foldl (fun a p => insPt p a) []
theorem madeL_snoc (l : List Pt) (p : Pt) : madeL (l ++ [p]) = insPt p (madeL l) := by unfold madeL; rw [List.foldl_append]; rfl
theorem list_rev_ind {α : Type} {P : List α → Prop} (h0 : P []) (h1 : ∀ l a, P l → P (l ++ [a])) (l : List α) : P l := by
  rw [← List.reverse_reverse l]
  induction l.reverse with
  | nil => exact h0
  | cons a t ih => rw [List.reverse_cons]; exact h1 _ _ ih
theorem madeL_perm (l : List Pt) : (madeL l).Perm l := by
  induction l using list_rev_ind with
  | h0 => exact .refl _
  | h1 l p ih =>
    rw [madeL_snoc]
    refine (insPt_perm p _).trans ?_
    refine (List.Perm.cons p ih).trans ?_
    simpa using (List.perm_append_comm (l₁ := [p]) (l₂ := l))
theorem madeL_S {l : List Pt} (h : (l.map place).Nodup) : PtsS (madeL l) := by
  induction l using list_rev_ind with
  | h0 => exact List.Pairwise.nil
  | h1 l p ih =>
    rw [madeL_snoc]
    rw [List.map_append, List.nodup_append] at h
    refine insPt_S (ih h.1) fun hc => ?_
    have := ((madeL_perm l).map place).mem_iff.1 hc
    exact h.2.2 _ this _ (by simp) rfl
/-! ### the tree -/
def TreeS (tb : Nat) (l : List Pt) (n u built : Nat) (A : Bag) : Prop := ∃ (ps : PS) (parts : List (List Pt)) (rem : List Pt), TreeA tb ps parts rem (built : Int) A ∧ RI ps parts rem ∧ l.Perm (ptsOf ps) ∧ PtsS l ∧ EffI n u rem.length built (parts.reverse.map List.length)
section
variable {h0 h : Hp} {tb n u built : Nat} {l : List Pt} {A F : Bag}
theorem TreeS.sorted (a : TreeS tb l n u built A) : PtsS l := by obtain ⟨_, _, _, _, _, _, hs, _⟩ := a; exact hs
theorem TreeS.len (a : TreeS tb l n u built A) : l.length ≤ 1000 := by
  obtain ⟨ps, _, _, _, ri, hp, _⟩ := a
  rw [hp.length_eq, ptsOf_len]; exact ri.len
theorem TreeS.val (a : TreeS tb l n u built A) : ∀ x ∈ l, vPt x = true := by
  obtain ⟨ps, parts, rem, _, ri, hp, _⟩ := a
  exact fun x hx => ri.val x (ri.perm.mem_iff.2 (List.mem_append.2 (.inl (hp.mem_iff.1 hx))))
theorem TreeS.small (a : TreeS tb l n u built A) (hn : n ≤ 2000) (hu : u ≤ 2000) : (0 : Int) ≤ built ∧ (built : Int) ≤ 100000000 := by
  obtain ⟨_, _, _, _, _, _, _, he⟩ := a
  have := eff_bound he (L := 11) (by omega)
  omega
theorem TreeS.more {u' : Nat} (a : TreeS tb l n u built A) (hu : u ≤ u') : TreeS tb l n u' built A := by
  obtain ⟨ps, parts, rem, h1, h2, h3, h4, he⟩ := a
  exact ⟨ps, parts, rem, h1, h2, h3, h4, eff_keep he hu⟩
theorem Make_s {h : Hp} {p : Option Addr} {n c : Nat} {l : List Pt} (r : RdT tPt h p n l) (hn : n ≤ 4000) :
    HCalls Try.prog 10 #[.slice p n c] h (fun v h' => if l.any (fun x => !vPt x) = true then v = .tuple #[.pointer none, .int .i64 1] ∧ Ext h h' else
      if ¬ (l.map place).Nodup then v = .tuple #[.pointer none, .int .i64 10] ∧ Ext h h' else if 1000 < n then v = .tuple #[.pointer none, .int .i64 4] ∧ Ext h h' else
      ∃ tb A, v = .tuple #[ptr tb, .int .i64 0] ∧ TreeS tb (madeL l) n 0 n A ∧ St h h' A) := by
  have hll := r.len
  refine (Make_ok r hn).mono fun v h' hv => ?_
  by_cases h1 : l.any (fun x => !vPt x) = true
  · rw [if_pos h1] at hv ⊢; exact hv
  rw [if_neg h1] at hv ⊢
  by_cases h2 : ¬ (l.map place).Nodup
  · rw [if_pos h2] at hv ⊢; exact hv
  rw [if_neg h2] at hv ⊢
  by_cases h3 : 1000 < n
  · rw [if_pos h3] at hv ⊢; exact hv
  rw [if_neg h3] at hv ⊢
  obtain ⟨tb, A, own, hv, ta, hp, st⟩ := hv
  have hnd : (l.map place).Nodup := Classical.not_not.1 h2
  have hpe := hp.length_eq
  refine ⟨tb, A, hv, ⟨l.map kvOf, _, [], ta, ?_, by rw [ptsOf_kv]; exact madeL_perm l, madeL_S hnd, ?_⟩, st⟩
  · by_cases hz : n = 0
    · rw [if_pos hz]
      have : l = [] := List.eq_nil_of_length_eq_zero (by omega)
      subst this
      exact ⟨.refl _, fun x hx => (by cases hx), fun P hP => (by cases hP), .inr rfl, by simp⟩
    · rw [if_neg hz]
      refine ⟨?_, fun x hx => ?_, fun P hP => ?_, .inl ?_, by rw [List.length_map]; omega⟩
      · rw [ptsOf_kv]; simpa using hp
      · have hx : x ∈ own := by simpa using hx
        have := List.any_eq_false.1 (Bool.not_eq_true _ ▸ h1) x (hp.mem_iff.1 hx)
        simpa using this
      · rw [List.mem_singleton.1 hP]
        intro e
        rw [e] at hpe
        simp at hpe
        omega
      · show 2 * 0 < _
        have : storedOf [own] = own.length := by simp [storedOf]
        omega
  · have := eff_make n
    by_cases hz : n = 0
    · rw [if_pos hz] at this ⊢; exact this
    · rw [if_neg hz] at this ⊢
      have e : [own].reverse.map List.length = [n] := by simp; omega
      rw [e]; exact this
theorem Count_s (a : TreeS tb l n u built A) (s : St h0 h (A + F)) (x1 x2 y1 y2 : Int) :
    HCalls Try.prog 16 #[ptr tb, .int .i64 x1, .int .i64 x2, .int .i64 y1, .int .i64 y2] h (fun v h' => Ext h h' ∧ v = .tuple #[.int .i64 (cntB x1 x2 y1 y2 l), .int .i64 0]) := by
  obtain ⟨ps, parts, rem, ta, ri, hp, hs, he⟩ := a
  rw [cntB_perm hp]
  exact Count_ok ta s ri x1 x2 y1 y2
theorem Sum_s (a : TreeS tb l n u built A) (s : St h0 h (A + F)) (x1 x2 y1 y2 : Int) :
    HCalls Try.prog 20 #[ptr tb, .int .i64 x1, .int .i64 x2, .int .i64 y1, .int .i64 y2] h (fun v h' => Ext h h' ∧ v = .tuple #[.int .i64 (sumB x1 x2 y1 y2 l), .int .i64 0]) := by
  obtain ⟨ps, parts, rem, ta, ri, hp, hs, he⟩ := a
  rw [sumB_perm hp]
  exact Sum_ok ta s ri x1 x2 y1 y2
theorem Len_s (a : TreeS tb l n u built A) (s : St h0 h (A + F)) : HCalls Try.prog 17 #[ptr tb] h (fun v h' => h' = h ∧ v = .int .i64 (l.length : Nat)) := by
  obtain ⟨ps, parts, rem, ta, ri, hp, hs, he⟩ := a
  rw [hp.length_eq, ptsOf_len]
  exact Len_ok ta s
theorem Report_s (a : TreeS tb l n u built A) (s : St h0 h (A + F)) (x1 x2 y1 y2 : Int) :
    HCalls Try.prog 19 #[ptr tb, .int .i64 x1, .int .i64 x2, .int .i64 y1, .int .i64 y2] h (fun v h' => ∃ q m d A', v = .tuple #[.slice q m d, .int .i64 0] ∧ Sl tPt q m d (l.filter (inB x1 x2 y1 y2)) A' ∧ St h0 h' (A' + (A + F))) := by
  obtain ⟨ps, parts, rem, ta, ri, hp, hs, he⟩ := a
  have hl := ri.len
  refine (Report_ok ta s (by omega) x1 x2 y1 y2).mono fun v h' ⟨q, m, d, A', l', hv, hm, hms, o, st⟩ => ?_
  obtain rfl := ptsS_ext hs hms fun p => by rw [hp.mem_iff, hm.mem_iff]
  exact ⟨q, m, d, A', hv, o, st⟩
theorem Leftmost_s (a : TreeS tb l n u built A) (s : St h0 h (A + F)) (x1 y1 y2 : Int) :
    HCalls Try.prog 22 #[ptr tb, .int .i64 x1, .int .i64 y1, .int .i64 y2] h (fun v h' => St h0 h' (A + F) ∧ v = match l.find? (fun p => decide (x1 ≤ p.1 ∧ y1 ≤ p.2.1 ∧ p.2.1 ≤ y2)) with | some p => .tuple #[encPt p, .int .i64 0] | none => .tuple #[encPt (0, 0, 0), .int .i64 12]) := by
  obtain ⟨ps, parts, rem, ta, ri, hp, hs, he⟩ := a
  have hl := ri.len
  refine (Leftmost_ok ta s (by omega) x1 y1 y2).mono fun v h' ⟨st, l', hm, hms, hv⟩ => ?_
  obtain rfl := ptsS_ext hs hms fun p => by rw [hp.mem_iff, hm.mem_iff]
  exact ⟨st, hv⟩
end
end Go.Proofs.Ytbfejfejahoblaa

/- The reference: points in their order. -/
set_option maxRecDepth 100000
namespace Go.Proofs.Ytbfejfejahoblaa
open Go Go.Sx
end Go.Proofs.Ytbfejfejahoblaa

/- The laws' example; effort. -/
set_option maxRecDepth 100000
namespace Go.Proofs.Ytbfejfejahoblaa
open Go Go.Sx
abbrev exP : List Pt := [(3, 7, -1), (1, 5, 2), (3, 1, 4)]
theorem Awake_r (h : Hp) : HCalls Try.prog 9 #[] h (fun v h' => Ext h h' ∧ v = .bool true) := by
  refine l31_awake_call ?_
  rw [l31_awake_b0_eq]
  refine (St.start h).new (cs := [_, _, _, _, _, _, _, _, _]) fun b h1 x1 s => ?_
  have o : Sl tPt (some ⟨b, 0, none⟩) 3 3 exP (cA b [.int .i64 3, .int .i64 7, .int .i64 (-1), .int .i64 1, .int .i64 5, .int .i64 2, .int .i64 3, .int .i64 1, .int .i64 4] 33) := Sl.of_blk (T := tPt) (n := 3) (xs := exP) rfl (cs := [.int .i64 3, .int .i64 7, .int .i64 (-1), .int .i64 1, .int .i64 5, .int .i64 2, .int .i64 3, .int .i64 1, .int .i64 4]) rfl
  refine (Make_s (o.rd s) (by decide)).mono fun v h2 hv => ?_
  rw [if_neg (by decide), if_neg (by decide), if_neg (by decide)] at hv
  obtain ⟨tb, A, rfl, a, st⟩ := hv
  have e : madeL exP = [(1, 5, 2), (3, 1, 4), (3, 7, -1)] := by decide
  rw [e] at a
  refine ⟨_, _, rfl, condNo rfl (condNo rfl ?_)⟩
  rw [l31_awake_b1_eq]
  have s := s.join st
  refine (Count_s a s 1 3 1 5).mono fun v h3 ⟨x3, hv⟩ => ⟨_, _, hv, ?_⟩
  have s := s.grow x3
  refine (Sum_s a s 0 9 0 9).mono fun v h4 ⟨x4, hv⟩ => ⟨_, _, hv, ?_⟩
  have s := s.grow x4
  refine (Leftmost_s a s 2 2 9).mono fun v h5 ⟨s, hv⟩ => ?_
  have ef : [(1, 5, 2), (3, 1, 4), ((3, 7, -1) : Pt)].find? (fun p => decide (2 ≤ p.1 ∧ 2 ≤ p.2.1 ∧ p.2.1 ≤ 9)) = some (3, 7, -1) := by decide
  rw [ef] at hv
  refine ⟨_, _, _, _, hv, s.new (cs := [_, _, _]) fun b2 h6 x6 s => ?_⟩
  refine s.wr3 fun h7 s => ?_
  refine (Len_s (F := cA b2 _ _ + _) a (s.at A)).mono fun v h8 ⟨hh, hv⟩ => ⟨_, hv, ?_⟩
  subst hh
  refine condYes rfl (condYes (by decide) (condYes rfl (condYes (by decide) (condYes rfl ⟨_, _, _, s.ld0, s.ldB, s.ldB, _, eql_pt (3, 7, -1) (3, 7, -1), condYes (by decide) ⟨s.ext, rfl⟩⟩))))
end Go.Proofs.Ytbfejfejahoblaa

/- How a slice that is handed in is read: elements of any number of cells. -/
namespace Go.Sx
open Go Go.ChangeShapes Go.WideShapes Go.Deep
section
variable {H : Type} {enc : TypeId × Value → H} {P : Program} {w : World} {base : Nat} {sp : Nat → Bool} {held : Bool} {α : Type}
theorem rd_flat {t : TypeId} (T : Ty α) {W : α → Prop} {a : Option Addr} {len cap : Nat} {d : DataW H} {ps : List MemPlace} (ht : P.underlying t = some (.slice T.e)) (hc : P.cellsOf T.e = T.sz)
    (dec : ∀ n cs x, DataW.trod enc P w base sp held n T.e cs = some x → ∃ a, cs = T.enc a ∧ W a) (h : DataW.Trod enc P w base sp held t (.slice a len cap) d ps) :
    ∃ xs : List α, RdT T w.heap a len xs ∧ len ≤ cap ∧ ∀ x ∈ xs, W x := by
  obtain ⟨fuel, hf⟩ := h
  have e0 : (Value.slice a len cap).cells.toList = [.slice a len cap] := rfl
  rw [e0] at hf
  rcases open_slice ht hf with ⟨hcs, _⟩ | ⟨x, l, c, m, n, D, Pl, hcs, _, hl, _, hm, _, hx⟩
  · injection hcs with h1 _
    injection h1 with h1 h2 h3
    subst h1 h2 h3
    exact ⟨[], RdT.nil _ _, Nat.le_refl _, fun _ h => nomatch h⟩
  · injection hcs with h1 _
    injection h1 with h1 h2 h3
    subst h1 h2 h3
    have hlm : len ≤ m := by rw [hm]; split <;> omega
    haveI : Inhabited α := ⟨T.d⟩
    obtain ⟨f, hf⟩ := choose_lt (α := α) (n := len) (p := fun i z => w.cells? base (x.add (i * T.sz)) T.sz = some (T.enc z) ∧ W z) (fun i hi => by
      obtain ⟨cs, h1, h2⟩ := hx i (by omega)
      obtain ⟨z, hz, hw⟩ := dec n cs _ h2
      rw [hc] at h1
      exact ⟨z, by rw [h1, hz], hw⟩)
    refine ⟨(List.range len).map f, ⟨by simp, .inr ⟨x, rfl, fun i hi => ?_⟩⟩, hl, fun z hz => ?_⟩
    · have hp := T.pos
      have hdm : T.sz * (i / T.sz) + i % T.sz = i := Nat.div_add_mod i T.sz
      have hq : i / T.sz < len := (Nat.div_lt_iff_lt_mul hp).2 hi
      have hr : i % T.sz < T.sz := Nat.mod_lt _ hp
      obtain ⟨_, _, h3⟩ := World.cells?_some (hf _ hq).1
      have h4 := h3 _ hr
      have e1 : i / T.sz * T.sz + i % T.sz = i := by rw [Nat.mul_comm]; exact hdm
      rw [add_add, e1] at h4
      show cell w.heap (x.add i) = _
      rw [← cell_eq, h4]
      have := T.cells_get ((List.range len).map f) (i := i / T.sz) (j := i % T.sz) (by simpa using hq) hr
      rw [e1] at this
      rw [this]
      simp [List.getD, hq]
    · obtain ⟨i, hi, rfl⟩ := List.mem_map.1 hz
      exact (hf i (List.mem_range.1 hi)).2
theorem dec_int {e : TypeId} {k : IntKind} (he : P.underlying e = some (.int k)) (n : Nat) (cs : List Value) (x : DataW H × List MemPlace) (h : DataW.trod enc P w base sp held n e cs = some x) : ∃ z, cs = [.int k z] ∧ (Lit.int k z).wf = true := by
  obtain ⟨z, h1, _, h2⟩ := DataW.trod_int he h
  exact ⟨z, h1, h2⟩
end
end Go.Sx

/- How the law's arguments are read. -/
set_option maxRecDepth 10000
namespace Go.Proofs.Ytbfejfejahoblaa
open Go Go.Sx Go.ChangeShapes Go.WideShapes Go.ChangeAt Go.RowKit Go.Deep

theorem own : ownKnob Try.prog.godebug = none := by kernel_rfl
theorem laidOut : laidOutB Try.prog = true := by kernel_rfl
theorem below_of {P : Program} {f : FuncId} {args : Array Value} {w : World} (hc : HCalls P f args w.heap (fun v h' => v = .bool true ∧ Ext w.heap h')) :
    Calls P f args w fun e w' => e = .returned (.bool true) ∧ Below w.heap.size w w' :=
  (hc w rfl).mono fun e w' ⟨v, he, hs, hv, hx⟩ => ⟨by rw [he, hv], ⟨hs.os, hs.tape, hs.output, hx.size, hx.same⟩⟩
section
variable {H : Type} {enc : TypeId × Value → H} {w : World} {base : Nat} {held : Bool} {a : Option Addr} {len cap : Nat} {d : DataW H} {ps : List MemPlace}
theorem dec_pt (n : Nat) (cs : List Value) (x : DataW H × List MemPlace) (h : DataW.trod enc Try.prog w base (fun _ => true) held n 33 cs = some x) : ∃ p : Pt, cs = [.int .i64 p.1, .int .i64 p.2.1, .int .i64 p.2.2] ∧ (InR p.1 ∧ InR p.2.1 ∧ InR p.2.2) := by
  obtain ⟨xs, m, _, _, hl, hxl, hx⟩ := DataW.trod_struct Try.underlying33 h
  rw [show Try.prog.cellsOf 33 = 3 by kernel_rfl] at hl
  match cs, xs, hl, hxl with
  | [c0, c1, c2], [y0, y1, y2], _, _ =>
    obtain ⟨z0, e0, w0⟩ := dec_int (k := .i64) (by kernel_rfl) _ _ _ (hx 0 _ rfl)
    obtain ⟨z1, e1, w1⟩ := dec_int (k := .i64) (by kernel_rfl) _ _ _ (hx 1 _ rfl)
    obtain ⟨z2, e2, w2⟩ := dec_int (k := .i64) (by kernel_rfl) _ _ _ (hx 2 _ rfl)
    have f0 : c0 = .int .i64 z0 := (List.cons.inj (show [c0] = [Value.int .i64 z0] from e0)).1
    have f1 : c1 = .int .i64 z1 := (List.cons.inj (show [c1] = [Value.int .i64 z1] from e1)).1
    have f2 : c2 = .int .i64 z2 := (List.cons.inj (show [c2] = [Value.int .i64 z2] from e2)).1
    exact ⟨(z0, z1, z2), by rw [f0, f1, f2], bounds_i64 w0, bounds_i64 w1, bounds_i64 w2⟩
theorem rd_points (h : DataW.Trod enc Try.prog w base (fun _ => true) held 22 (.slice a len cap) d ps) : ∃ l : List Pt, RdT tPt w.heap a len l ∧ len ≤ cap ∧ ∀ x ∈ l, InR x.1 ∧ InR x.2.1 ∧ InR x.2.2 :=
  rd_flat tPt Try.underlying22 (by kernel_rfl) dec_pt h
end
end Go.Proofs.Ytbfejfejahoblaa

/- The law: back. -/
set_option maxRecDepth 100000
namespace Go.Proofs.Ytbfejfejahoblaa
open Go Go.Sx
/-! ### plain -/
/-! ### the law -/
end Go.Proofs.Ytbfejfejahoblaa

/- The law: sums. -/
set_option maxRecDepth 100000
namespace Go.Proofs.Ytbfejfejahoblaa
open Go Go.Sx
/-! ### plain -/
theorem cntB_cons (x1 x2 y1 y2 : Int) (p : Pt) (l : List Pt) : cntB x1 x2 y1 y2 (p :: l) = (if inB x1 x2 y1 y2 p = true then 1 else 0) + cntB x1 x2 y1 y2 l := by
  unfold cntB
  rw [List.filter_cons]
  split
  · rw [List.length_cons]; push_cast; omega
  · omega
theorem sumB_cons (x1 x2 y1 y2 : Int) (p : Pt) (l : List Pt) : sumB x1 x2 y1 y2 (p :: l) = (if inB x1 x2 y1 y2 p = true then p.2.2 else 0) + sumB x1 x2 y1 y2 l := by
  unfold sumB
  rw [List.filter_cons]
  split
  · rw [wSum_cons]
  · omega
theorem cnt_split {a b c y1 y2 : Int} (h1 : a ≤ b) (h2 : b ≤ c) (l : List Pt) : cntB a b y1 y2 l + cntB (b + 1) c y1 y2 l = cntB a c y1 y2 l := by
  induction l with
  | nil => rfl
  | cons p l ih =>
    rw [cntB_cons, cntB_cons, cntB_cons, ← ih]
    unfold inB
    simp only [decide_eq_true_eq]
    split <;> split <;> split <;> omega
theorem sum_split {a b c y1 y2 : Int} (h1 : a ≤ b) (h2 : b ≤ c) (l : List Pt) : sumB a b y1 y2 l + sumB (b + 1) c y1 y2 l = sumB a c y1 y2 l := by
  induction l with
  | nil => rfl
  | cons p l ih =>
    rw [sumB_cons, sumB_cons, sumB_cons, ← ih]
    unfold inB
    simp only [decide_eq_true_eq]
    split <;> split <;> split <;> omega
theorem inB_none {a b y1 y2 : Int} (h : y2 < y1) (l : List Pt) : l.filter (inB a b y1 y2) = [] := by
  rw [List.filter_eq_nil_iff]
  intro p _
  unfold inB
  rw [decide_eq_true_eq]
  omega
theorem sumB_small {a b y1 y2 : Int} {l : List Pt} (hw : WOk l) : -(1048576 * (l.length : Int)) ≤ sumB a b y1 y2 l ∧ sumB a b y1 y2 l ≤ 1048576 * (l.length : Int) := by
  induction l with
  | nil => exact ⟨Int.le_refl _, Int.le_refl _⟩
  | cons p l ih =>
    have := ih fun x hx => hw x (List.mem_cons_of_mem _ hx)
    have := hw p (List.mem_cons_self ..)
    rw [sumB_cons, List.length_cons]
    push_cast
    split <;> omega
theorem TreeS.w {tb n u built : Nat} {l : List Pt} {A : Bag} (a : TreeS tb l n u built A) : WOk l := fun x hx => (vPt_iff.1 (a.val x hx)).2.2
theorem find_left {l : List Pt} {x1 x2 y1 y2 : Int} (hx : ∀ p ∈ l, p.1 ≤ x2) : l.find? (fun p => decide (x1 ≤ p.1 ∧ y1 ≤ p.2.1 ∧ p.2.1 ≤ y2)) = (l.filter (inB x1 x2 y1 y2)).head? := by
  rw [List.head?_filter]
  induction l with
  | nil => rfl
  | cons p l ih =>
    have h1 := hx p (List.mem_cons_self ..)
    have e : decide (x1 ≤ p.1 ∧ y1 ≤ p.2.1 ∧ p.2.1 ≤ y2) = inB x1 x2 y1 y2 p := by
      unfold inB
      rw [decide_eq_decide]; omega
    rw [List.find?_cons, List.find?_cons, e, ih fun q hq => hx q (List.mem_cons_of_mem _ hq)]
/-! ### the law -/
theorem sums4 {h0 h : Hp} {tb n u b' : Nat} {L : List Pt} {A X G : Bag} {xp : Option Addr} {xc : Nat} {p q r y1 y2 : Int} (a : TreeS tb L n u b' A) (o : Sl TI xp 3 xc [p, q, r] X) (s : St h0 h (A + (X + G))) :
    l31_RangetreeSums_b4 (some ⟨tb, 0, none⟩) xp 3 xc y1 y2 h (fun v h' => v = .bool true ∧ Ext h0 h') := by
  have hL := a.len
  rw [l31_RangetreeSums_b4_eq]
  refine ldI (i' := 0) (o.rd (s.at X)) rfl (by decide) ?_
  refine (Report_s a s p 1048576 y1 y2).mono fun v h1 ⟨q1, m, d, B, hv, o1, s⟩ => ⟨_, _, _, _, hv, ?_⟩
  refine ldI (i' := 0) (o.rd (s.at X)) rfl (by decide) ?_
  refine (Leftmost_s a (s.at A) p y1 y2).mono fun v h2 ⟨s, hv⟩ => ?_
  rw [find_left (x2 := 1048576) fun z hz => by have := (vPt_iff.1 (a.val z hz)).1; omega] at hv
  have hm := o1.len
  cases hR : L.filter (inB p 1048576 y1 y2) with
  | nil =>
    rw [hR] at hv hm
    refine ⟨_, _, _, _, hv, s.new (cs := [_, _, _]) fun b h3 x3 s => s.wr3 fun h4 s => condYes (decide_eq_true (by rw [← hm]; rfl)) (condYes rfl ⟨_, _, _, s.ld0, s.ldB, s.ldB, _, eql_pt (0, 0, 0) (0, 0, 0), condYes (by decide) ⟨rfl, s.ext⟩⟩)⟩
  | cons z t =>
    rw [hR] at hv hm o1
    rw [List.length_cons] at hm
    refine ⟨_, _, _, _, hv, s.new (cs := [_, _, _]) fun b h3 x3 s => s.wr3 fun h4 s => condNo (decide_eq_false (by omega)) (condYes rfl ⟨_, _, _, s.ld0, s.ldB, s.ldB, ?_⟩)⟩
    refine ldPT (i' := 0) (o1.rd (s.at B)) rfl (by omega) ⟨_, eql_pt z z, condYes (by rw [decide_eq_true rfl]) ⟨rfl, s.ext⟩⟩
theorem sums_step {h0 h : Hp} {tb b2 g i : Nat} {A X G : Bag} {xp : Option Addr} {xc : Nat} {p q r y1 y2 : Int} {f : Int → Int → Int → Int → Int} {v6 : Value} {nx0 : Int × Unit → Hp → Prop} {K : Value → Hp → Prop}
    (hv6 : v6 = .func (.func g) #[ptr tb] #[]) (hg : F g = true)
    (cl : ∀ (h' : Hp) (B : Bag) (x1 x2 y1 y2 : Int), St h0 h' (A + B) → HCalls Try.prog g #[ptr tb, .int .i64 x1, .int .i64 x2, .int .i64 y1, .int .i64 y2] h' (fun v h'' => Ext h' h'' ∧ v = .tuple #[.int .i64 (f x1 x2 y1 y2), .int .i64 0]))
    (hf1 : f p q y1 y2 + f (q + 1) r y1 y2 = f p r y1 y2) (hf2 : f p r y2 (y1 - 1) = 0) (hf3 : InR (f p r y1 y2)) (hq : -1000 ≤ q ∧ q ≤ 1000) (hy : -1000 ≤ y1 ∧ y1 ≤ 1000)
    (hi : i < 2) (o : Sl TI xp 3 xc [p, q, r] X) (s : St h0 h (A + (X + G))) (hc : cell h ((⟨b2, 0, none⟩ : Addr).add i) = some v6)
    (hnx : ∀ h', St h0 h' (A + (X + G)) → Ext h h' → nx0 ((i : Int) + 1, ()) h') :
    l31_RangetreeSums_b2 i (some ⟨tb, 0, none⟩) xp 3 xc y1 y2 (some ⟨b2, 0, none⟩) 2 2 ((2 : Nat) : Int) h nx0 K := by
  subst hv6
  rw [l31_RangetreeSums_b2_eq]
  refine condYes (decide_eq_true (by omega)) ⟨⟨by omega, by omega⟩, _, by rw [Int.toNat_natCast, Nat.mul_one]; exact hc, ?_⟩
  refine ldI (i' := 0) (o.rd (s.at X)) rfl (by decide) ?_
  refine ldI (i' := 1) (o.rd (s.at X)) rfl (by decide) ?_
  refine funX_of hg ((cl _ _ p q y1 y2 s).mono fun v h1 ⟨x1, hv⟩ => ⟨_, _, hv, ?_⟩)
  have s := s.grow x1
  refine ldI (i' := 1) (o.rd (s.at X)) rfl (by decide) ⟨⟨by simp; omega, by simp; omega⟩, ?_⟩
  refine ldI (i' := 2) (o.rd (s.at X)) rfl (by decide) ?_
  refine funX_of hg ((cl _ _ (q + 1) r y1 y2 s).mono fun v h2 ⟨x2, hv⟩ => ⟨_, _, hv, ?_⟩)
  have s := s.grow x2
  refine ldI (i' := 0) (o.rd (s.at X)) rfl (by decide) ?_
  refine ldI (i' := 2) (o.rd (s.at X)) rfl (by decide) ?_
  refine funX_of hg ((cl _ _ p r y1 y2 s).mono fun v h3 ⟨x3, hv⟩ => ⟨_, _, hv, ?_⟩)
  have s := s.grow x3
  refine ldI (i' := 0) (o.rd (s.at X)) rfl (by decide) ?_
  refine ldI (i' := 2) (o.rd (s.at X)) rfl (by decide) ⟨⟨by omega, by omega⟩, ?_⟩
  refine funX_of hg ((cl _ _ p r y2 (y1 - 1) s).mono fun v h4 ⟨x4, hv⟩ => ⟨_, _, hv, ?_⟩)
  have s := s.grow x4
  refine condNo rfl (condNo rfl (condNo rfl (condNo rfl ⟨by rw [hf1]; exact hf3, condNo (by rw [hf1, decide_eq_true rfl]; rfl) (condNo (by rw [hf2]; rfl) ?_)⟩)))
  rw [l31_RangetreeSums_b3_eq]
  exact ⟨⟨by omega, by omega⟩, hnx _ s (x1.trans (x2.trans (x3.trans x4)))⟩
theorem sums_law {h : Hp} {p : Option Addr} {n c : Nat} {l : List Pt} {a b e d f : Int} (r : RdT tPt h p n l) (ha : -128 ≤ a ∧ a ≤ 127) (hb : -128 ≤ b ∧ b ≤ 127) (he : -128 ≤ e ∧ e ≤ 127) (hd : -128 ≤ d ∧ d ≤ 127) (hf : -128 ≤ f ∧ f ≤ 127) :
    HCalls Try.prog 8 #[.slice p n c, .int .i8 a, .int .i8 b, .int .i8 e, .int .i8 d, .int .i8 f] h (fun v h' => v = .bool true ∧ Ext h h') := by
  have hll := r.len
  refine l31_RangetreeSums_call ?_
  rw [l31_RangetreeSums_b0_eq]
  refine (Awake_r h).mono fun v h1 ⟨x1, hv⟩ => ⟨_, hv, condNo rfl (condP (fun _ => (Awake_r h1).mono fun v h3 ⟨x3, hv⟩ => ⟨_, hv, rfl, x1.trans x3⟩) (fun hn => ?_))⟩
  rw [l31_RangetreeSums_b1_eq]
  refine (Make_s (r.ext x1) (by omega)).mono fun v h2 hv => ?_
  split at hv
  · exact ⟨_, _, hv.1, condYes rfl ⟨rfl, x1.trans hv.2⟩⟩
  split at hv
  · exact ⟨_, _, hv.1, condYes rfl ⟨rfl, x1.trans hv.2⟩⟩
  split at hv
  · exact ⟨_, _, hv.1, condYes rfl ⟨rfl, x1.trans hv.2⟩⟩
  obtain ⟨tb, A, rfl, t, st⟩ := hv
  have s := ((St.start h).grow x1).join st
  generalize madeL l = L at t
  have hL := t.len
  refine ⟨_, _, rfl, condNo rfl ⟨⟨by omega, by omega⟩, ⟨by omega, by omega⟩, ⟨by omega, by omega⟩, s.new (cs := [_, _, _]) fun b1 h3 x3 s => ?_⟩⟩
  have o : Sl TI (some ⟨b1, 0, none⟩) 3 3 [a, b, e] (cA b1 [.int .i64 a, .int .i64 b, .int .i64 e] 3) := Sl.of_blk (T := TI) (n := 3) (xs := [a, b, e]) rfl (cs := [_, _, _]) rfl
  refine (sortOI (P := fun _ => True) s o (fun _ _ => trivial) (by decide)).mono fun v h4 ⟨hv, ys, X, o, s, hp, hs⟩ => ⟨hv, ?_⟩
  have hyl := o.len
  obtain ⟨y0, y1, y2, rfl⟩ : ∃ y0 y1 y2, ys = [y0, y1, y2] := by
    match ys, hyl with
    | [y0, y1, y2], _ => exact ⟨_, _, _, rfl⟩
  have hm : ∀ z ∈ [y0, y1, y2], -128 ≤ z ∧ z ≤ 127 := fun z hz => by
    have := hp.mem_iff.1 hz
    simp only [List.mem_cons, List.not_mem_nil, or_false] at this
    rcases this with rfl | rfl | rfl <;> assumption
  have m0 := hm y0 (by simp)
  have m1 := hm y1 (by simp)
  have m2 := hm y2 (by simp)
  simp only [List.pairwise_cons, List.mem_cons, List.not_mem_nil, or_false] at hs
  have s1 : y0 ≤ y1 := by have := hs.1 y1 (.inl rfl); omega
  have s2 : y1 ≤ y2 := by have := hs.2.1 y2 rfl; omega
  have g1 : (if f < d then f else d) ≤ (if d < f then f else d) := by split <;> split <;> omega
  have g2 : -128 ≤ (if f < d then f else d) ∧ (if f < d then f else d) ≤ 127 := by split <;> omega
  have g3 : -128 ≤ (if d < f then f else d) ∧ (if d < f then f else d) ≤ 127 := by split <;> omega
  generalize (if f < d then f else d) = z1 at g1 g2 ⊢
  generalize (if d < f then f else d) = z2 at g1 g3 ⊢
  refine ⟨⟨by omega, by omega⟩, ⟨by omega, by omega⟩, s.new (cs := [_, _]) fun b2 h5 x5 s => ?_⟩
  refine ⟨fun q h' => ∃ i : Nat, q.1 = i ∧ i ≤ 2 ∧ St h h' (A + (X + (cA b2 [.func (.func 16) #[ptr tb] #[], .func (.func 20) #[ptr tb] #[]] 39 + 0))), fun q _ => (2 - q.1).toNat, ⟨0, rfl, by decide, s.to⟩, ?_⟩
  clear s
  rintro ⟨_, _⟩ h6 ⟨i, rfl, hi, s⟩
  dsimp only
  have hw := t.w
  rcases (by omega : i = 0 ∨ i = 1 ∨ i = 2) with rfl | rfl | rfl
  · refine sums_step (i := 0) (f := fun x1 x2 y1 y2 => cntB x1 x2 y1 y2 L) rfl rfl (fun h' B x1 x2 y1 y2 s => Count_s t s x1 x2 y1 y2) (cnt_split s1 s2 L) ?_ ?_ (by omega) (by omega) (by decide) o s s.ldB fun h' s x => ⟨⟨1, rfl, by decide, s⟩, by decide⟩
    · show cntB _ _ _ _ _ = 0
      unfold cntB; rw [inB_none (by omega)]; rfl
    · have := List.length_filter_le (inB y0 y2 z1 z2) L
      exact ⟨by show _ ≤ cntB _ _ _ _ _; unfold cntB; omega, by show cntB _ _ _ _ _ ≤ _; unfold cntB; omega⟩
  · refine sums_step (i := 1) (f := fun x1 x2 y1 y2 => sumB x1 x2 y1 y2 L) rfl rfl (fun h' B x1 x2 y1 y2 s => Sum_s t s x1 x2 y1 y2) (sum_split s1 s2 L) ?_ ?_ (by omega) (by omega) (by decide) o s s.ldB fun h' s x => ⟨⟨2, rfl, by decide, s⟩, by decide⟩
    · show sumB _ _ _ _ _ = 0
      unfold sumB; rw [inB_none (by omega)]; rfl
    · have := sumB_small (a := y0) (b := y2) (y1 := z1) (y2 := z2) hw
      exact ⟨by omega, by omega⟩
  · rw [l31_RangetreeSums_b2_eq]
    refine condNo rfl ?_
    exact sums4 t o s
end Go.Proofs.Ytbfejfejahoblaa
