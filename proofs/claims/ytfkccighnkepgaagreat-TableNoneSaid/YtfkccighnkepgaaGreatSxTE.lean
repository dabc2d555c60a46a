/- Part SB SC SD SE TB MI TC TD TE of the proof: contracts of functions of the program, and what follows from them. -/
import Derived.Test.YtfkccighnkepgaaGreatSxSL
import Derived.Lib.IndexMore
/- Sorting: the choice of a pivot, breakPatterns. -/
set_option maxRecDepth 100000
namespace Go.Proofs.YtfkccighnkepgaaGreat
open Go Go.Sx
theorem order2CI {h0 h : Hp} {p : Option Addr} {n cp a' b' sb : Nat} {a b z : Int} {e : TypeId} {xs : List Int} {A F : Bag} {cmp : Value} {cf : Int → Int → Int} {P : Int → Prop} (hX : CmpCI h0 F cmp cf P) (ho : OrdP (fun x y : Int => cf x y < 0)) (s : St h0 h (A + (cA sb [.int .i64 z] e + F))) (o : Sl (tI 3) p n cp xs A) (hP : ∀ k, k < n → P (xs.getD k (tI 3).d)) (ea : a = (a' : Int)) (eb : b = (b' : Int)) (ha : a' < n) (hb : b' < n) (hz : 0 ≤ z) (hz1 : z < 1000) :
    HCalls Tryz.prog 112 #[.slice p n cp, .int .i64 a, .int .i64 b, .pointer (some ⟨sb, 0, none⟩), cmp] h (fun v h' => ∃ u w z' : Int, v = .tuple #[.int .i64 u, .int .i64 w] ∧ (u = a ∧ w = b ∨ u = b ∧ w = a) ∧ z ≤ z' ∧ z' ≤ z + 1 ∧ St h0 h' (A + (cA sb [.int .i64 z'] e + F))) := by
  subst ea eb
  have hl0 := o.len
  refine slices_order2CmpFunc_int_call ?_
  rw [slices_order2CmpFunc_int_b0_eq]
  have r := o.rd s
  refine ldOI (i' := b') r rfl hb (ldOI (i' := a') r rfl ha ?_)
  refine hX _ _ _ _ _ (s.at F) (hP _ (by omega)) (hP _ (by omega)) fun h5 e5 => ⟨_, rfl, ?_⟩; have s := s.grow e5
  refine condP (fun hc => ?_) (fun hc => ⟨_, _, z, rfl, .inl ⟨rfl, rfl⟩, by omega, by omega, s⟩)
  have s := s.to (B := cA sb [.int .i64 z] e + (A + F))
  refine ⟨_, s.cell 0, ⟨by omega, by omega⟩, s.wr (o := 0) rfl Nat.zero_lt_one fun h2 s => ?_⟩
  exact ⟨_, _, z + 1, rfl, .inr ⟨rfl, rfl⟩, by omega, by omega, s.to⟩
theorem medianCI {h0 h : Hp} {p : Option Addr} {n cp sb : Nat} {a b c z : Int} {e : TypeId} {xs : List Int} {A F : Bag} {cmp : Value} {cf : Int → Int → Int} {P : Int → Prop} (hX : CmpCI h0 F cmp cf P) (ho : OrdP (fun x y : Int => cf x y < 0)) (s : St h0 h (A + (cA sb [.int .i64 z] e + F))) (o : Sl (tI 3) p n cp xs A) (hP : ∀ k, k < n → P (xs.getD k (tI 3).d)) (ha : 0 ≤ a ∧ a < n) (hb : 0 ≤ b ∧ b < n) (hc : 0 ≤ c ∧ c < n) (hz : 0 ≤ z) (hz1 : z < 900) :
    HCalls Tryz.prog 104 #[.slice p n cp, .int .i64 a, .int .i64 b, .int .i64 c, .pointer (some ⟨sb, 0, none⟩), cmp] h (fun v h' => ∃ u z' : Int, v = .int .i64 u ∧ (u = a ∨ u = b ∨ u = c) ∧ z ≤ z' ∧ z' ≤ z + 3 ∧ St h0 h' (A + (cA sb [.int .i64 z'] e + F))) := by
  refine slices_medianCmpFunc_int_call ?_
  rw [slices_medianCmpFunc_int_b0_eq]
  refine (order2CI hX ho s o hP (a' := a.toNat) (b' := b.toNat) (by omega) (by omega) (by omega) (by omega) hz (by omega)).mono fun v1 h1 ⟨u1, w1, z1, hv1, hu1, g1, g2, s⟩ => ⟨_, _, hv1, ?_⟩
  refine (order2CI hX ho s o hP (a' := w1.toNat) (b' := c.toNat) (by omega) (by omega) (by omega) (by omega) (by omega) (by omega)).mono fun v2 h2 ⟨u2, w2, z2, hv2, hu2, g3, g4, s⟩ => ⟨_, _, hv2, ?_⟩
  refine (order2CI hX ho s o hP (a' := u1.toNat) (b' := u2.toNat) (by omega) (by omega) (by omega) (by omega) (by omega) (by omega)).mono fun v3 h3 ⟨u3, w3, z3, hv3, hu3, g5, g6, s⟩ => ⟨_, _, hv3, ?_⟩
  exact ⟨_, z3, rfl, by omega, by omega, by omega, s⟩
theorem medianAdjacentCI {h0 h : Hp} {p : Option Addr} {n cp sb : Nat} {a z : Int} {e : TypeId} {xs : List Int} {A F : Bag} {cmp : Value} {cf : Int → Int → Int} {P : Int → Prop} (hX : CmpCI h0 F cmp cf P) (ho : OrdP (fun x y : Int => cf x y < 0)) (s : St h0 h (A + (cA sb [.int .i64 z] e + F))) (o : Sl (tI 3) p n cp xs A) (hP : ∀ k, k < n → P (xs.getD k (tI 3).d)) (ha : 1 ≤ a ∧ a + 1 < n) (hn : n < 1000000) (hz : 0 ≤ z) (hz1 : z < 900) :
    HCalls Tryz.prog 103 #[.slice p n cp, .int .i64 a, .pointer (some ⟨sb, 0, none⟩), cmp] h (fun v h' => ∃ u z' : Int, v = .int .i64 u ∧ (a - 1 ≤ u ∧ u ≤ a + 1) ∧ z ≤ z' ∧ z' ≤ z + 3 ∧ St h0 h' (A + (cA sb [.int .i64 z'] e + F))) := by
  refine slices_medianAdjacentCmpFunc_int_call ?_
  rw [slices_medianAdjacentCmpFunc_int_b0_eq]
  refine ⟨⟨by omega, by omega⟩, ⟨by omega, by omega⟩, (medianCI hX ho s o hP (by omega) (by omega) (by omega) hz hz1).mono fun v1 h1 ⟨u, z', hv, hu, g1, g2, s⟩ => ⟨_, hv, _, z', rfl, by omega, g1, g2, s⟩⟩
theorem choosePivotCI {h0 h : Hp} {p : Option Addr} {n cp a' b' : Nat} {a b : Int} {xs : List Int} {A F : Bag} {cmp : Value} {cf : Int → Int → Int} {P : Int → Prop} (hX : CmpCI h0 F cmp cf P) (ho : OrdP (fun x y : Int => cf x y < 0)) (s : St h0 h (A + F)) (o : Sl (tI 3) p n cp xs A) (hP : ∀ k, k < n → P (xs.getD k (tI 3).d)) (ea : a = (a' : Int)) (eb : b = (b' : Int)) (hab : a' < b') (hb : b' ≤ n) (hn : n < 1000000) :
    HCalls Tryz.prog 82 #[.slice p n cp, .int .i64 a, .int .i64 b, cmp] h (fun v h' => ∃ u hint : Int, v = .tuple #[.int .i64 u, .int .i64 hint] ∧ a ≤ u ∧ u < b ∧ St h0 h' (A + F)) := by
  subst ea eb
  refine slices_choosePivotCmpFunc_int_call ?_
  rw [slices_choosePivotCmpFunc_int_b0_eq]
  refine ⟨⟨by omega, by omega⟩, s.new (cs := [.int .i64 0]) fun sb h1 _ s => ?_⟩
  have s := s.to (B := A + (cA sb [.int .i64 0] 3 + F))
  have b2 : ∀ (u z : Int) (h' : Hp), a' ≤ u → u < b' → St h0 h' (A + (cA sb [.int .i64 z] 3 + F)) → slices_choosePivotCmpFunc_int_b2 (some ⟨sb, 0, none⟩) u h' (fun v h' => ∃ u hint : Int, v = .tuple #[.int .i64 u, .int .i64 hint] ∧ (a' : Int) ≤ u ∧ u < b' ∧ St h0 h' (A + F)) := by
    intro u z h' h1 h2 s
    rw [slices_choosePivotCmpFunc_int_b2_eq]
    have s := s.to (B := cA sb [.int .i64 z] 3 + (A + F))
    exact ⟨_, s.cell 0, condP (fun _ => ⟨_, _, rfl, h1, h2, s.drop⟩) fun _ => condP (fun _ => ⟨_, _, rfl, h1, h2, s.drop⟩) fun _ => ⟨_, _, rfl, h1, h2, s.drop⟩⟩
  have b1 : ∀ (u v w z : Int) (h' : Hp), (a' ≤ u ∧ u < b') → (a' ≤ v ∧ v < b') → (a' ≤ w ∧ w < b') → 0 ≤ z → z < 100 → St h0 h' (A + (cA sb [.int .i64 z] 3 + F)) → slices_choosePivotCmpFunc_int_b1 p n cp cmp (some ⟨sb, 0, none⟩) u v w h' (fun v h' => ∃ u hint : Int, v = .tuple #[.int .i64 u, .int .i64 hint] ∧ (a' : Int) ≤ u ∧ u < b' ∧ St h0 h' (A + F)) := by
    intro u v w z h' h1 h2 h3 hz hz1 s
    rw [slices_choosePivotCmpFunc_int_b1_eq]
    refine (medianCI hX ho s o hP (by omega) (by omega) (by omega) hz (by omega)).mono fun v1 h1 ⟨u, z', hv, hu, g1, g2, s⟩ => ⟨_, hv, ?_⟩
    exact b2 _ _ _ (by omega) (by omega) s
  refine quo_intro (by omega) (by omega) (by omega) ⟨⟨by omega, by omega⟩, ⟨by omega, by omega⟩, ?_⟩
  refine quo_intro (by omega) (by omega) (by omega) ⟨⟨by omega, by omega⟩, ⟨by omega, by omega⟩, ?_⟩
  refine quo_intro (by omega) (by omega) (by omega) ⟨⟨by omega, by omega⟩, ⟨by omega, by omega⟩, ?_⟩
  refine condP (fun h8 => ?_) (fun h8 => b2 _ _ _ (by omega) (by omega) s)
  refine condP (fun h50 => ?_) (fun h50 => b1 _ _ _ _ _ (by omega) (by omega) (by omega) (by omega) (by omega) s)
  refine (medianAdjacentCI hX ho s o hP (by omega) hn (by omega) (by omega)).mono fun v1 h1 ⟨u1, z1, hv, hu, g1, g2, s⟩ => ⟨_, hv, ?_⟩
  refine (medianAdjacentCI hX ho s o hP (by omega) hn (by omega) (by omega)).mono fun v1 h1 ⟨u2, z2, hv, hu, g3, g4, s⟩ => ⟨_, hv, ?_⟩
  refine (medianAdjacentCI hX ho s o hP (by omega) hn (by omega) (by omega)).mono fun v1 h1 ⟨u3, z3, hv, hu, g5, g6, s⟩ => ⟨_, hv, ?_⟩
  exact b1 _ _ _ _ _ (by omega) (by omega) (by omega) (by omega) (by omega) s
theorem breakPatternsCI {h0 h : Hp} {p : Option Addr} {n cp a' b' : Nat} {a b : Int} {xs : List Int} {A F : Bag} {cmp : Value} (s : St h0 h (A + F)) (o : Sl (tI 3) p n cp xs A) (ea : a = (a' : Int)) (eb : b = (b' : Int)) (hab : a' ≤ b') (hb : b' ≤ n) (hn : n < 1000000) :
    HCalls Tryz.prog 81 #[.slice p n cp, .int .i64 a, .int .i64 b, cmp] h (fun v h' => v = .tuple #[] ∧ OutCI h0 p n cp a' b' xs F h' fun _ => True) := by
  subst ea eb
  have hl0 := o.len
  refine slices_breakPatternsCmpFunc_int_call ?_
  rw [slices_breakPatternsCmpFunc_int_b0_eq]
  refine ⟨⟨by omega, by omega⟩, condP (fun h8 => ?_) (fun h8 => ⟨rfl, xs, A, o, s, .refl _, trivial⟩)⟩
  refine s.new (cs := [.int .u64 0]) fun rb h1 _ s => ?_
  refine s.wr (o := 0) rfl Nat.zero_lt_one fun h2 s => ?_
  rw [show ((b' : Int) - a') = ((b' - a' : Nat) : Int) by omega]
  refine (nextPow_ok (b' - a') (by omega) (by omega) h2).mono fun v h3 ⟨hv, hh⟩ => ⟨_, hv, ?_⟩
  subst hh
  have hm := blen_pow (x := b' - a') (by omega)
  generalize 2 ^ blen (b' - a') = m at *
  refine quo_intro (by omega) (by omega) (by omega) ⟨⟨by omega, by omega⟩, ⟨by omega, by omega⟩, ⟨by omega, by omega⟩, ?_⟩
  obtain ⟨q, hq⟩ : ∃ q : Nat, ((b' - a' : Nat) : Int) / 4 = q := ⟨(b' - a') / 4, by omega⟩
  rw [hq]
  refine ⟨fun i h1 => ∃ (i' : Nat) (z : Int), i.1 = i' ∧ a' ≤ i' ∧ ∃ ys A1, Sl (tI 3) p n cp ys A1 ∧ St h0 h1 (cA rb [.int .u64 z] 139 + (A1 + F)) ∧ Swp (tI 3).d a' b' xs ys, fun i _ => (b' - i.1).toNat, ⟨a' + 2 * q - 1, _, by show (_ : Int) - 1 = _; omega, by omega, xs, A, o, s, .refl _⟩, ?_⟩
  rintro ⟨_, _⟩ h1 ⟨i', z, rfl, hi, ys, A1, o, s, w⟩
  dsimp only
  have hl := o.len
  rw [slices_breakPatternsCmpFunc_int_b1_eq]
  refine quo_intro (by omega) (by omega) (by omega) ?_
  rw [hq]
  refine ⟨⟨by omega, by omega⟩, ⟨by omega, by omega⟩, ⟨by omega, by omega⟩, condP (fun hlt => ?_) (fun hlt => ⟨rfl, ys, A1, o, s.drop, w, trivial⟩)⟩
  refine (Next_ok s).mono fun v h3 ⟨y, hv, s⟩ => ⟨_, hv, mask_lt y m (by omega) (by omega) fun k hk => ⟨⟨by omega, by omega⟩, ?_⟩⟩
  have fin : ∀ u : Nat, u < b' - a' → slices_breakPatternsCmpFunc_int_b2 p n cp a' ((b' - a' : Nat) : Int) (some ⟨rb, 0, none⟩) m i' u h3 (fun s' h' => (∃ (i' : Nat) (z : Int), s'.1 = i' ∧ a' ≤ i' ∧ ∃ ys A1, Sl (tI 3) p n cp ys A1 ∧ St h0 h' (cA rb [.int .u64 z] 139 + (A1 + F)) ∧ Swp (tI 3).d a' b' xs ys) ∧ (b' - s'.1).toNat < (b' - (i' : Int)).toNat) (fun v h' => v = .tuple #[] ∧ OutCI h0 p n cp a' b' xs F h' fun _ => True) := by
    intro u hu
    rw [slices_breakPatternsCmpFunc_int_b2_eq]
    have s := s.to (B := A1 + (cA rb [.int .u64 y] 139 + F))
    refine ⟨⟨by omega, by omega⟩, ⟨by omega, by omega⟩, swOI (u' := i') (v' := a' + u) o s rfl (by push_cast; rfl) (by omega) (by omega) fun h6 A6 o6 s6 => ?_⟩
    rw [slices_breakPatternsCmpFunc_int_b3_eq]
    exact ⟨⟨by omega, by omega⟩, ⟨i' + 1, y, by push_cast; rfl, by omega, _, A6, o6, s6.to, .step w (by omega) (by omega) (by omega) (by omega) (by omega)⟩, by omega⟩
  refine condP (fun hk2 => ⟨⟨by omega, by omega⟩, ?_⟩) (fun hk2 => fin k (by omega))
  have := fin (k - (b' - a')) (by omega)
  rwa [show ((k - (b' - a') : Nat) : Int) = (k : Int) - ((b' - a' : Nat) : Int) by omega] at this
theorem order2OI {h0 h : Hp} {p : Option Addr} {n cp a' b' sb : Nat} {a b z : Int} {e : TypeId} {xs : List Int} {A F : Bag} {P : Int → Prop} (s : St h0 h (A + (cA sb [.int .i64 z] e + F))) (o : Sl (tI 3) p n cp xs A) (hP : ∀ k, k < n → P (xs.getD k (tI 3).d)) (ea : a = (a' : Int)) (eb : b = (b' : Int)) (ha : a' < n) (hb : b' < n) (hz : 0 ≤ z) (hz1 : z < 1000) :
    HCalls Tryz.prog 113 #[.slice p n cp, .int .i64 a, .int .i64 b, .pointer (some ⟨sb, 0, none⟩)] h (fun v h' => ∃ u w z' : Int, v = .tuple #[.int .i64 u, .int .i64 w] ∧ (u = a ∧ w = b ∨ u = b ∧ w = a) ∧ z ≤ z' ∧ z' ≤ z + 1 ∧ St h0 h' (A + (cA sb [.int .i64 z'] e + F))) := by
  subst ea eb
  have hl0 := o.len
  refine slices_order2Ordered_int_call ?_
  rw [slices_order2Ordered_int_b0_eq]
  have r := o.rd s
  refine ldOI (i' := b') r rfl hb (ldOI (i' := a') r rfl ha ?_)
  refine ⟨_, (Less_ok _ _ _).mono fun v9 h9 ⟨hh9, hv9⟩ => ⟨hv9, hh9⟩, ?_⟩
  refine condP (fun hc => ?_) (fun hc => ⟨_, _, z, rfl, .inl ⟨rfl, rfl⟩, by omega, by omega, s⟩)
  have s := s.to (B := cA sb [.int .i64 z] e + (A + F))
  refine ⟨_, s.cell 0, ⟨by omega, by omega⟩, s.wr (o := 0) rfl Nat.zero_lt_one fun h2 s => ?_⟩
  exact ⟨_, _, z + 1, rfl, .inr ⟨rfl, rfl⟩, by omega, by omega, s.to⟩
theorem medianOI {h0 h : Hp} {p : Option Addr} {n cp sb : Nat} {a b c z : Int} {e : TypeId} {xs : List Int} {A F : Bag} {P : Int → Prop} (s : St h0 h (A + (cA sb [.int .i64 z] e + F))) (o : Sl (tI 3) p n cp xs A) (hP : ∀ k, k < n → P (xs.getD k (tI 3).d)) (ha : 0 ≤ a ∧ a < n) (hb : 0 ≤ b ∧ b < n) (hc : 0 ≤ c ∧ c < n) (hz : 0 ≤ z) (hz1 : z < 900) :
    HCalls Tryz.prog 107 #[.slice p n cp, .int .i64 a, .int .i64 b, .int .i64 c, .pointer (some ⟨sb, 0, none⟩)] h (fun v h' => ∃ u z' : Int, v = .int .i64 u ∧ (u = a ∨ u = b ∨ u = c) ∧ z ≤ z' ∧ z' ≤ z + 3 ∧ St h0 h' (A + (cA sb [.int .i64 z'] e + F))) := by
  refine slices_medianOrdered_int_call ?_
  rw [slices_medianOrdered_int_b0_eq]
  refine (order2OI  s o hP (a' := a.toNat) (b' := b.toNat) (by omega) (by omega) (by omega) (by omega) hz (by omega)).mono fun v1 h1 ⟨u1, w1, z1, hv1, hu1, g1, g2, s⟩ => ⟨_, _, hv1, ?_⟩
  refine (order2OI  s o hP (a' := w1.toNat) (b' := c.toNat) (by omega) (by omega) (by omega) (by omega) (by omega) (by omega)).mono fun v2 h2 ⟨u2, w2, z2, hv2, hu2, g3, g4, s⟩ => ⟨_, _, hv2, ?_⟩
  refine (order2OI  s o hP (a' := u1.toNat) (b' := u2.toNat) (by omega) (by omega) (by omega) (by omega) (by omega) (by omega)).mono fun v3 h3 ⟨u3, w3, z3, hv3, hu3, g5, g6, s⟩ => ⟨_, _, hv3, ?_⟩
  exact ⟨_, z3, rfl, by omega, by omega, by omega, s⟩
theorem medianAdjacentOI {h0 h : Hp} {p : Option Addr} {n cp sb : Nat} {a z : Int} {e : TypeId} {xs : List Int} {A F : Bag} {P : Int → Prop} (s : St h0 h (A + (cA sb [.int .i64 z] e + F))) (o : Sl (tI 3) p n cp xs A) (hP : ∀ k, k < n → P (xs.getD k (tI 3).d)) (ha : 1 ≤ a ∧ a + 1 < n) (hn : n < 1000000) (hz : 0 ≤ z) (hz1 : z < 900) :
    HCalls Tryz.prog 106 #[.slice p n cp, .int .i64 a, .pointer (some ⟨sb, 0, none⟩)] h (fun v h' => ∃ u z' : Int, v = .int .i64 u ∧ (a - 1 ≤ u ∧ u ≤ a + 1) ∧ z ≤ z' ∧ z' ≤ z + 3 ∧ St h0 h' (A + (cA sb [.int .i64 z'] e + F))) := by
  refine slices_medianAdjacentOrdered_int_call ?_
  rw [slices_medianAdjacentOrdered_int_b0_eq]
  refine ⟨⟨by omega, by omega⟩, ⟨by omega, by omega⟩, (medianOI  s o hP (by omega) (by omega) (by omega) hz hz1).mono fun v1 h1 ⟨u, z', hv, hu, g1, g2, s⟩ => ⟨_, hv, _, z', rfl, by omega, g1, g2, s⟩⟩
theorem choosePivotOI {h0 h : Hp} {p : Option Addr} {n cp a' b' : Nat} {a b : Int} {xs : List Int} {A F : Bag} {P : Int → Prop} (s : St h0 h (A + F)) (o : Sl (tI 3) p n cp xs A) (hP : ∀ k, k < n → P (xs.getD k (tI 3).d)) (ea : a = (a' : Int)) (eb : b = (b' : Int)) (hab : a' < b') (hb : b' ≤ n) (hn : n < 1000000) :
    HCalls Tryz.prog 92 #[.slice p n cp, .int .i64 a, .int .i64 b] h (fun v h' => ∃ u hint : Int, v = .tuple #[.int .i64 u, .int .i64 hint] ∧ a ≤ u ∧ u < b ∧ St h0 h' (A + F)) := by
  subst ea eb
  refine slices_choosePivotOrdered_int_call ?_
  rw [slices_choosePivotOrdered_int_b0_eq]
  refine ⟨⟨by omega, by omega⟩, s.new (cs := [.int .i64 0]) fun sb h1 _ s => ?_⟩
  have s := s.to (B := A + (cA sb [.int .i64 0] 3 + F))
  have b2 : ∀ (u z : Int) (h' : Hp), a' ≤ u → u < b' → St h0 h' (A + (cA sb [.int .i64 z] 3 + F)) → slices_choosePivotOrdered_int_b2 (some ⟨sb, 0, none⟩) u h' (fun v h' => ∃ u hint : Int, v = .tuple #[.int .i64 u, .int .i64 hint] ∧ (a' : Int) ≤ u ∧ u < b' ∧ St h0 h' (A + F)) := by
    intro u z h' h1 h2 s
    rw [slices_choosePivotOrdered_int_b2_eq]
    have s := s.to (B := cA sb [.int .i64 z] 3 + (A + F))
    exact ⟨_, s.cell 0, condP (fun _ => ⟨_, _, rfl, h1, h2, s.drop⟩) fun _ => condP (fun _ => ⟨_, _, rfl, h1, h2, s.drop⟩) fun _ => ⟨_, _, rfl, h1, h2, s.drop⟩⟩
  have b1 : ∀ (u v w z : Int) (h' : Hp), (a' ≤ u ∧ u < b') → (a' ≤ v ∧ v < b') → (a' ≤ w ∧ w < b') → 0 ≤ z → z < 100 → St h0 h' (A + (cA sb [.int .i64 z] 3 + F)) → slices_choosePivotOrdered_int_b1 p n cp (some ⟨sb, 0, none⟩) u v w h' (fun v h' => ∃ u hint : Int, v = .tuple #[.int .i64 u, .int .i64 hint] ∧ (a' : Int) ≤ u ∧ u < b' ∧ St h0 h' (A + F)) := by
    intro u v w z h' h1 h2 h3 hz hz1 s
    rw [slices_choosePivotOrdered_int_b1_eq]
    refine (medianOI  s o hP (by omega) (by omega) (by omega) hz (by omega)).mono fun v1 h1 ⟨u, z', hv, hu, g1, g2, s⟩ => ⟨_, hv, ?_⟩
    exact b2 _ _ _ (by omega) (by omega) s
  refine quo_intro (by omega) (by omega) (by omega) ⟨⟨by omega, by omega⟩, ⟨by omega, by omega⟩, ?_⟩
  refine quo_intro (by omega) (by omega) (by omega) ⟨⟨by omega, by omega⟩, ⟨by omega, by omega⟩, ?_⟩
  refine quo_intro (by omega) (by omega) (by omega) ⟨⟨by omega, by omega⟩, ⟨by omega, by omega⟩, ?_⟩
  refine condP (fun h8 => ?_) (fun h8 => b2 _ _ _ (by omega) (by omega) s)
  refine condP (fun h50 => ?_) (fun h50 => b1 _ _ _ _ _ (by omega) (by omega) (by omega) (by omega) (by omega) s)
  refine (medianAdjacentOI  s o hP (by omega) hn (by omega) (by omega)).mono fun v1 h1 ⟨u1, z1, hv, hu, g1, g2, s⟩ => ⟨_, hv, ?_⟩
  refine (medianAdjacentOI  s o hP (by omega) hn (by omega) (by omega)).mono fun v1 h1 ⟨u2, z2, hv, hu, g3, g4, s⟩ => ⟨_, hv, ?_⟩
  refine (medianAdjacentOI  s o hP (by omega) hn (by omega) (by omega)).mono fun v1 h1 ⟨u3, z3, hv, hu, g5, g6, s⟩ => ⟨_, hv, ?_⟩
  exact b1 _ _ _ _ _ (by omega) (by omega) (by omega) (by omega) (by omega) s
theorem breakPatternsOI {h0 h : Hp} {p : Option Addr} {n cp a' b' : Nat} {a b : Int} {xs : List Int} {A F : Bag} (s : St h0 h (A + F)) (o : Sl (tI 3) p n cp xs A) (ea : a = (a' : Int)) (eb : b = (b' : Int)) (hab : a' ≤ b') (hb : b' ≤ n) (hn : n < 1000000) :
    HCalls Tryz.prog 91 #[.slice p n cp, .int .i64 a, .int .i64 b] h (fun v h' => v = .tuple #[] ∧ OutOI h0 p n cp a' b' xs F h' fun _ => True) := by
  subst ea eb
  have hl0 := o.len
  refine slices_breakPatternsOrdered_int_call ?_
  rw [slices_breakPatternsOrdered_int_b0_eq]
  refine ⟨⟨by omega, by omega⟩, condP (fun h8 => ?_) (fun h8 => ⟨rfl, xs, A, o, s, .refl _, trivial⟩)⟩
  refine s.new (cs := [.int .u64 0]) fun rb h1 _ s => ?_
  refine s.wr (o := 0) rfl Nat.zero_lt_one fun h2 s => ?_
  rw [show ((b' : Int) - a') = ((b' - a' : Nat) : Int) by omega]
  refine (nextPow_ok (b' - a') (by omega) (by omega) h2).mono fun v h3 ⟨hv, hh⟩ => ⟨_, hv, ?_⟩
  subst hh
  have hm := blen_pow (x := b' - a') (by omega)
  generalize 2 ^ blen (b' - a') = m at *
  refine quo_intro (by omega) (by omega) (by omega) ⟨⟨by omega, by omega⟩, ⟨by omega, by omega⟩, ⟨by omega, by omega⟩, ?_⟩
  obtain ⟨q, hq⟩ : ∃ q : Nat, ((b' - a' : Nat) : Int) / 4 = q := ⟨(b' - a') / 4, by omega⟩
  rw [hq]
  refine ⟨fun i h1 => ∃ (i' : Nat) (z : Int), i.1 = i' ∧ a' ≤ i' ∧ ∃ ys A1, Sl (tI 3) p n cp ys A1 ∧ St h0 h1 (cA rb [.int .u64 z] 139 + (A1 + F)) ∧ Swp (tI 3).d a' b' xs ys, fun i _ => (b' - i.1).toNat, ⟨a' + 2 * q - 1, _, by show (_ : Int) - 1 = _; omega, by omega, xs, A, o, s, .refl _⟩, ?_⟩
  rintro ⟨_, _⟩ h1 ⟨i', z, rfl, hi, ys, A1, o, s, w⟩
  dsimp only
  have hl := o.len
  rw [slices_breakPatternsOrdered_int_b1_eq]
  refine quo_intro (by omega) (by omega) (by omega) ?_
  rw [hq]
  refine ⟨⟨by omega, by omega⟩, ⟨by omega, by omega⟩, ⟨by omega, by omega⟩, condP (fun hlt => ?_) (fun hlt => ⟨rfl, ys, A1, o, s.drop, w, trivial⟩)⟩
  refine (Next_ok s).mono fun v h3 ⟨y, hv, s⟩ => ⟨_, hv, mask_lt y m (by omega) (by omega) fun k hk => ⟨⟨by omega, by omega⟩, ?_⟩⟩
  have fin : ∀ u : Nat, u < b' - a' → slices_breakPatternsOrdered_int_b2 p n cp a' ((b' - a' : Nat) : Int) (some ⟨rb, 0, none⟩) m i' u h3 (fun s' h' => (∃ (i' : Nat) (z : Int), s'.1 = i' ∧ a' ≤ i' ∧ ∃ ys A1, Sl (tI 3) p n cp ys A1 ∧ St h0 h' (cA rb [.int .u64 z] 139 + (A1 + F)) ∧ Swp (tI 3).d a' b' xs ys) ∧ (b' - s'.1).toNat < (b' - (i' : Int)).toNat) (fun v h' => v = .tuple #[] ∧ OutOI h0 p n cp a' b' xs F h' fun _ => True) := by
    intro u hu
    rw [slices_breakPatternsOrdered_int_b2_eq]
    have s := s.to (B := A1 + (cA rb [.int .u64 y] 139 + F))
    refine ⟨⟨by omega, by omega⟩, ⟨by omega, by omega⟩, swOI (u' := i') (v' := a' + u) o s rfl (by push_cast; rfl) (by omega) (by omega) fun h6 A6 o6 s6 => ?_⟩
    rw [slices_breakPatternsOrdered_int_b3_eq]
    exact ⟨⟨by omega, by omega⟩, ⟨i' + 1, y, by push_cast; rfl, by omega, _, A6, o6, s6.to, .step w (by omega) (by omega) (by omega) (by omega) (by omega)⟩, by omega⟩
  refine condP (fun hk2 => ⟨⟨by omega, by omega⟩, ?_⟩) (fun hk2 => fin k (by omega))
  have := fin (k - (b' - a')) (by omega)
  rwa [show ((k - (b' - a') : Nat) : Int) = (k : Int) - ((b' - a' : Nat) : Int) by omega] at this
end Go.Proofs.YtfkccighnkepgaaGreat

/- Sorting: partition, partitionEqual. -/
set_option maxRecDepth 100000
namespace Go.Proofs.YtfkccighnkepgaaGreat
open Go Go.Sx
abbrev PInvCI (cf : Int → Int → Int) (h0 : Hp) (p : Option Addr) (n cp a' b' : Nat) (xs : List Int) (F : Bag) (i' J : Nat) (h : Hp) : Prop := a' + 1 ≤ i' ∧ i' ≤ b' ∧ a' + 1 ≤ J ∧ J ≤ b' ∧ OutCI h0 p n cp a' b' xs F h (fun ys => LoR (tI 3).d (fun x y : Int => cf x y < 0) a' i' ys ∧ HiR (tI 3).d (fun x y : Int => cf x y < 0) a' J b' ys)
abbrev PSt1CI (cf : Int → Int → Int) (h0 : Hp) (p : Option Addr) (n cp a' b' : Nat) (xs : List Int) (F : Bag) (i' J : Nat) (h : Hp) : Prop := a' + 1 ≤ i' ∧ i' ≤ b' ∧ a' + 1 ≤ J ∧ J ≤ b' ∧ OutCI h0 p n cp a' b' xs F h (fun ys => LoR (tI 3).d (fun x y : Int => cf x y < 0) a' i' ys ∧ HiR (tI 3).d (fun x y : Int => cf x y < 0) a' J b' ys ∧ (i' < J → ¬ (fun x y : Int => cf x y < 0) (ys.getD i' (tI 3).d) (ys.getD a' (tI 3).d)))
abbrev PSt2CI (cf : Int → Int → Int) (h0 : Hp) (p : Option Addr) (n cp a' b' : Nat) (xs : List Int) (F : Bag) (i' J : Nat) (h : Hp) : Prop := a' + 1 ≤ i' ∧ i' ≤ b' ∧ a' + 1 ≤ J ∧ J ≤ b' ∧ OutCI h0 p n cp a' b' xs F h (fun ys => LoR (tI 3).d (fun x y : Int => cf x y < 0) a' i' ys ∧ HiR (tI 3).d (fun x y : Int => cf x y < 0) a' J b' ys ∧ (i' < J → ¬ (fun x y : Int => cf x y < 0) (ys.getD i' (tI 3).d) (ys.getD a' (tI 3).d)) ∧ (i' < J → (fun x y : Int => cf x y < 0) (ys.getD (J - 1) (tI 3).d) (ys.getD a' (tI 3).d)))
theorem partitionCI {h0 h : Hp} {p : Option Addr} {n cp a' b' pv' : Nat} {a b pv : Int} {xs : List Int} {A F : Bag} {cmp : Value} {cf : Int → Int → Int} {P : Int → Prop} (hX : CmpCI h0 F cmp cf P) (ho : OrdP (fun x y : Int => cf x y < 0)) (s : St h0 h (A + F)) (o : Sl (tI 3) p n cp xs A) (hP : ∀ k, k < n → P (xs.getD k (tI 3).d)) (ea : a = (a' : Int)) (eb : b = (b' : Int)) (ev : pv = (pv' : Int)) (hpv : a' ≤ pv' ∧ pv' < b') (hb : b' ≤ n) (hn : n < 1000000) :
    HCalls Tryz.prog 86 #[.slice p n cp, .int .i64 a, .int .i64 b, .int .i64 pv, cmp] h (fun v h' => ∃ (m : Nat) (bb : Bool), v = .tuple #[.int .i64 (m : Int), .bool bb] ∧ a' ≤ m ∧ m < b' ∧ OutCI h0 p n cp a' b' xs F h' (PartR (tI 3).d (fun x y : Int => cf x y < 0) a' b' m)) := by
  subst ea eb ev
  have hl0 := o.len
  refine slices_partitionCmpFunc_int_call ?_
  generalize hR : (fun v h' => ∃ (m : Nat) (bb : Bool), v = Value.tuple #[.int .i64 (m : Int), .bool bb] ∧ a' ≤ m ∧ m < b' ∧ OutCI h0 p n cp a' b' xs F h' (PartR (tI 3).d (fun x y : Int => cf x y < 0) a' b' m)) = R
  have hRi : ∀ (v : Value) (h' : Hp) (m : Nat) (bb : Bool), v = .tuple #[.int .i64 (m : Int), .bool bb] → a' ≤ m → m < b' → OutCI h0 p n cp a' b' xs F h' (PartR (tI 3).d (fun x y : Int => cf x y < 0) a' b' m) → R v h' := by
    intro v h' m bb h1 h2 h3 h4; rw [← hR]; exact ⟨m, bb, h1, h2, h3, h4⟩
  clear hR
  have b13 : ∀ (i' J : Nat) (h' : Hp) (nx : Int × Int × Unit → Hp → Prop) , PSt2CI cf h0 p n cp a' b' xs F i' J h' → (∀ h', PInvCI cf h0 p n cp a' b' xs F (i' + 1) (J - 1) h' → i' < J → nx ((i' : Int) + 1, (J : Int) - 1 - 1, ()) h') → slices_partitionCmpFunc_int_b13 p n cp a' cmp i' ((J : Int) - 1) h' nx R := by
    rintro i' J h' nx ⟨hi1, hi2, hJ1, hJ2, ys, A1, o, s, w, lo, hi, hst, hs2⟩ hnx 
    have hl := o.len
    rw [slices_partitionCmpFunc_int_b13_eq]
    refine condP (fun hlt => ?_) (fun hlt => ?_)
    · rw [slices_partitionCmpFunc_int_b14_eq]
      refine swOI (u' := J - 1) (v' := a') o s (by omega) rfl (by omega) (by omega) fun h6 A6 o6 s6 => ?_
      refine hRi _ _ (J - 1) false (by rw [show ((J - 1 : Nat) : Int) = (J : Int) - 1 by omega]) (by omega) (by omega) ⟨_, A6, o6, s6, .step w (by omega) (by omega) (by omega) (by omega) (by omega), part_end (by omega) hi2 (by omega) (by omega) lo hi⟩
    · refine swOI (u' := i') (v' := J - 1) o s rfl (by omega) (by omega) (by omega) fun h6 A6 o6 s6 => ⟨⟨by omega, by omega⟩, ⟨by omega, by omega⟩, ?_⟩
      have hs2 := hs2 (by omega)
      exact hnx _ ⟨by omega, by omega, by omega, by omega, _, A6, o6, s6, .step w (by omega) (by omega) (by omega) (by omega) (by omega), part_swap (by omega) (by omega) hJ2 (by omega) lo hi (hst (by omega)) hs2⟩ (by omega)
  have b10 : ∀ (i' J : Nat) (h' : Hp) (nx : Int × Int × Unit → Hp → Prop) , PSt1CI cf h0 p n cp a' b' xs F i' J h' → (∀ i2 J2 h', i' + 1 ≤ i2 → J2 + 1 ≤ J → PInvCI cf h0 p n cp a' b' xs F i2 J2 h' → nx ((i2 : Int), (J2 : Int) - 1, ()) h') → slices_partitionCmpFunc_int_b10 p n cp a' cmp i' ((J : Int) - 1) h' nx R := by
    rintro i' J h' nx hI hnx 
    rw [slices_partitionCmpFunc_int_b10_eq]
    refine ⟨fun j h2 => ∃ J2 : Nat, j.1 = (J2 : Int) - 1 ∧ J2 ≤ J ∧ PSt1CI cf h0 p n cp a' b' xs F i' J2 h2, fun j _ => (j.1 + 1).toNat, ⟨J, rfl, Nat.le_refl _, hI⟩, ?_⟩
    clear hI
    rintro ⟨_, _⟩ h2 ⟨J2, rfl, hJJ, hi1, hi2, hJ1, hJ2, ys, A1, o, s, w, lo, hi, hst⟩
    dsimp only
    have hl := o.len
    have hP := w.allN hl0 hP
    have ch := fun (h3 : Hp) (s : St h0 h3 (A1 + F)) (g : i' < J2 → (fun x y : Int => cf x y < 0) (ys.getD (J2 - 1) (tI 3).d) (ys.getD a' (tI 3).d)) => b13 i' J2 h3 nx ⟨hi1, hi2, hJ1, hJ2, ys, A1, o, s, w, lo, hi, hst, g⟩ fun h' hp hq => by have := hnx (i' + 1) (J2 - 1) h' (by omega) (by omega) hp; rwa [show ((i' + 1 : Nat) : Int) = (i' : Int) + 1 by push_cast; rfl, show ((J2 - 1 : Nat) : Int) - 1 = (J2 : Int) - 1 - 1 by omega] at this
    rw [slices_partitionCmpFunc_int_b11_eq]
    refine condP (fun hlt => ?_) (fun hlt => ch _ s fun h => by omega)
    have r := o.rd s
    refine ldOI (i' := J2 - 1) r (by omega) (by omega) (ldOI (i' := a') r rfl (by omega) ?_)
    refine hX _ _ _ _ _ (s.at F) (hP _ (by omega)) (hP _ (by omega)) fun h5 e5 => ⟨_, rfl, ?_⟩; have s := s.grow e5
    refine condN (fun hc => ?_) (fun hc => ch _ s fun _ => hc)
    rw [slices_partitionCmpFunc_int_b12_eq]
    exact ⟨⟨by omega, by omega⟩, ⟨J2 - 1, by omega, by omega, hi1, hi2, by omega, by omega, ys, A1, o, s, w, lo, hi_next hi hc, fun h => hst (by omega)⟩, by omega⟩
  have b8 : ∀ (i' J : Nat) (h' : Hp) (nx : Int × Int × Unit → Hp → Prop) , PInvCI cf h0 p n cp a' b' xs F i' J h' → (∀ i2 J2 h', i' + 1 ≤ i2 → J2 + 1 ≤ J → PInvCI cf h0 p n cp a' b' xs F i2 J2 h' → nx ((i2 : Int), (J2 : Int) - 1, ()) h') → LoopVC (((i' : Int), ()) : Int × Unit) h' (fun (nx1 : Int × Unit → Hp → Prop) (s4 : Int × Unit) h36 => slices_partitionCmpFunc_int_b8 s4.1 p n cp a' cmp ((J : Int) - 1) h36 nx nx1 R) := by
    rintro i' J h' nx hI hnx 
    refine ⟨fun i h2 => ∃ i2 : Nat, i.1 = (i2 : Int) ∧ i' ≤ i2 ∧ PInvCI cf h0 p n cp a' b' xs F i2 J h2, fun i _ => (b' - i.1).toNat, ⟨i', rfl, Nat.le_refl _, hI⟩, ?_⟩
    clear hI
    rintro ⟨_, _⟩ h2 ⟨i2, rfl, hii, hi1, hi2, hJ1, hJ2, ys, A1, o, s, w, lo, hi⟩
    dsimp only
    have hl := o.len
    have hP := w.allN hl0 hP
    have ch := fun (h3 : Hp) (s : St h0 h3 (A1 + F)) (g : i2 < J → ¬ (fun x y : Int => cf x y < 0) (ys.getD i2 (tI 3).d) (ys.getD a' (tI 3).d)) => b10 i2 J h3 nx ⟨hi1, hi2, hJ1, hJ2, ys, A1, o, s, w, lo, hi, g⟩ fun i3 J3 h' g1 g2 g3 => hnx i3 J3 h' (by omega) (by omega) g3
    rw [slices_partitionCmpFunc_int_b8_eq]
    refine condP (fun hlt => ?_) (fun hlt => ch _ s fun h => by omega)
    have r := o.rd s
    refine ldOI (i' := i2) r rfl (by omega) (ldOI (i' := a') r rfl (by omega) ?_)
    refine hX _ _ _ _ _ (s.at F) (hP _ (by omega)) (hP _ (by omega)) fun h5 e5 => ⟨_, rfl, ?_⟩; have s := s.grow e5
    refine condP (fun hc => ?_) (fun hc => ch _ s fun _ => hc)
    rw [slices_partitionCmpFunc_int_b9_eq]
    exact ⟨⟨by omega, by omega⟩, ⟨i2 + 1, by push_cast; rfl, by omega, by omega, by omega, hJ1, hJ2, ys, A1, o, s, w, lo_next lo hc, hi⟩, by omega⟩
  have b7 : ∀ (i' J : Nat) (h' : Hp), PInvCI cf h0 p n cp a' b' xs F i' J h' → LoopVC ((i', (J : Int) - 1, ()) : Int × Int × Unit) h' (fun (nx0 : Int × Int × Unit → Hp → Prop) (s3 : Int × Int × Unit) h35 => slices_partitionCmpFunc_int_b7 s3.1 s3.2.1 p n cp a' cmp h35 nx0 R) := by
    intro i' J h' hI
    refine ⟨fun ij h2 => ∃ i2 J2 : Nat, ij.1 = (i2 : Int) ∧ ij.2.1 = (J2 : Int) - 1 ∧ PInvCI cf h0 p n cp a' b' xs F i2 J2 h2, fun ij _ => (b' - ij.1).toNat + (ij.2.1 + 1).toNat, ⟨i', J, rfl, rfl, hI⟩, ?_⟩
    clear hI
    rintro ⟨_, _, _⟩ h2 ⟨i2, J2, rfl, rfl, hI⟩
    dsimp only
    rw [slices_partitionCmpFunc_int_b7_eq]
    refine b8 i2 J2 h2 _ hI fun i3 J3 h3 g1 g2 hI3 => ⟨⟨i3, J3, rfl, rfl, hI3⟩, ?_⟩
    have := hI.1
    have := hI.2.1
    have := hI3.2.1
    dsimp only
    omega
  have b6 : ∀ (i' J : Nat) (h' : Hp) , PSt2CI cf h0 p n cp a' b' xs F i' J h' → slices_partitionCmpFunc_int_b6 p n cp a' cmp i' ((J : Int) - 1) h' R := by
    rintro i' J h' ⟨hi1, hi2, hJ1, hJ2, ys, A1, o, s, w, lo, hi, hst, hs2⟩
    have hl := o.len
    rw [slices_partitionCmpFunc_int_b6_eq]
    refine condP (fun hlt => ?_) (fun hlt => ?_)
    · refine swOI (u' := J - 1) (v' := a') o s (by omega) rfl (by omega) (by omega) fun h6 A6 o6 s6 => ?_
      refine hRi _ _ (J - 1) true (by rw [show ((J - 1 : Nat) : Int) = (J : Int) - 1 by omega]) (by omega) (by omega) ⟨_, A6, o6, s6, .step w (by omega) (by omega) (by omega) (by omega) (by omega), part_end (by omega) hi2 (by omega) (by omega) lo hi⟩
    · refine swOI (u' := i') (v' := J - 1) o s rfl (by omega) (by omega) (by omega) fun h6 A6 o6 s6 => ⟨⟨by omega, by omega⟩, ⟨by omega, by omega⟩, ?_⟩
      have hs2 := hs2 (by omega)
      have := b7 (i' + 1) (J - 1) h6 ⟨by omega, by omega, by omega, by omega, _, A6, o6, s6, .step w (by omega) (by omega) (by omega) (by omega) (by omega), part_swap (by omega) (by omega) hJ2 (by omega) lo hi (hst (by omega)) hs2⟩
      rwa [show ((i' + 1 : Nat) : Int) = (i' : Int) + 1 by push_cast; rfl, show ((J - 1 : Nat) : Int) - 1 = (J : Int) - 1 - 1 by omega] at this
  have b3 : ∀ (i' J : Nat) (h' : Hp) , PSt1CI cf h0 p n cp a' b' xs F i' J h' → slices_partitionCmpFunc_int_b3 p n cp a' cmp i' ((J : Int) - 1) h' R := by
    rintro i' J h' hI 
    rw [slices_partitionCmpFunc_int_b3_eq]
    refine ⟨fun j h2 => ∃ J2 : Nat, j.1 = (J2 : Int) - 1 ∧ J2 ≤ J ∧ PSt1CI cf h0 p n cp a' b' xs F i' J2 h2, fun j _ => (j.1 + 1).toNat, ⟨J, rfl, Nat.le_refl _, hI⟩, ?_⟩
    clear hI
    rintro ⟨_, _⟩ h2 ⟨J2, rfl, hJJ, hi1, hi2, hJ1, hJ2, ys, A1, o, s, w, lo, hi, hst⟩
    dsimp only
    have hl := o.len
    have hP := w.allN hl0 hP
    have ch := fun (h3 : Hp) (s : St h0 h3 (A1 + F)) (g : i' < J2 → (fun x y : Int => cf x y < 0) (ys.getD (J2 - 1) (tI 3).d) (ys.getD a' (tI 3).d)) => b6 i' J2 h3  ⟨hi1, hi2, hJ1, hJ2, ys, A1, o, s, w, lo, hi, hst, g⟩ 
    rw [slices_partitionCmpFunc_int_b4_eq]
    refine condP (fun hlt => ?_) (fun hlt => ch _ s fun h => by omega)
    have r := o.rd s
    refine ldOI (i' := J2 - 1) r (by omega) (by omega) (ldOI (i' := a') r rfl (by omega) ?_)
    refine hX _ _ _ _ _ (s.at F) (hP _ (by omega)) (hP _ (by omega)) fun h5 e5 => ⟨_, rfl, ?_⟩; have s := s.grow e5
    refine condN (fun hc => ?_) (fun hc => ch _ s fun _ => hc)
    rw [slices_partitionCmpFunc_int_b5_eq]
    exact ⟨⟨by omega, by omega⟩, ⟨J2 - 1, by omega, by omega, hi1, hi2, by omega, by omega, ys, A1, o, s, w, lo, hi_next hi hc, fun h => hst (by omega)⟩, by omega⟩
  have b1 : ∀ (i' J : Nat) (h' : Hp) , PInvCI cf h0 p n cp a' b' xs F i' J h' → LoopVC (((i' : Int), ()) : Int × Unit) h' (fun (nx1 : Int × Unit → Hp → Prop) (s4 : Int × Unit) h36 => slices_partitionCmpFunc_int_b1 s4.1 p n cp a' cmp ((J : Int) - 1) h36 nx1 R) := by
    rintro i' J h' hI 
    refine ⟨fun i h2 => ∃ i2 : Nat, i.1 = (i2 : Int) ∧ i' ≤ i2 ∧ PInvCI cf h0 p n cp a' b' xs F i2 J h2, fun i _ => (b' - i.1).toNat, ⟨i', rfl, Nat.le_refl _, hI⟩, ?_⟩
    clear hI
    rintro ⟨_, _⟩ h2 ⟨i2, rfl, hii, hi1, hi2, hJ1, hJ2, ys, A1, o, s, w, lo, hi⟩
    dsimp only
    have hl := o.len
    have hP := w.allN hl0 hP
    have ch := fun (h3 : Hp) (s : St h0 h3 (A1 + F)) (g : i2 < J → ¬ (fun x y : Int => cf x y < 0) (ys.getD i2 (tI 3).d) (ys.getD a' (tI 3).d)) => b3 i2 J h3  ⟨hi1, hi2, hJ1, hJ2, ys, A1, o, s, w, lo, hi, g⟩ 
    rw [slices_partitionCmpFunc_int_b1_eq]
    refine condP (fun hlt => ?_) (fun hlt => ch _ s fun h => by omega)
    have r := o.rd s
    refine ldOI (i' := i2) r rfl (by omega) (ldOI (i' := a') r rfl (by omega) ?_)
    refine hX _ _ _ _ _ (s.at F) (hP _ (by omega)) (hP _ (by omega)) fun h5 e5 => ⟨_, rfl, ?_⟩; have s := s.grow e5
    refine condP (fun hc => ?_) (fun hc => ch _ s fun _ => hc)
    rw [slices_partitionCmpFunc_int_b2_eq]
    exact ⟨⟨by omega, by omega⟩, ⟨i2 + 1, by push_cast; rfl, by omega, by omega, by omega, hJ1, hJ2, ys, A1, o, s, w, lo_next lo hc, hi⟩, by omega⟩
  rw [slices_partitionCmpFunc_int_b0_eq]
  refine swOI (u' := a') (v' := pv') o s rfl rfl (by omega) (by omega) fun h6 A6 o6 s6 => ⟨⟨by omega, by omega⟩, ⟨by omega, by omega⟩, ?_⟩
  have := b1 (a' + 1) b' h6 ⟨Nat.le_refl _, by omega, by omega, Nat.le_refl _, _, A6, o6, s6, .one (Nat.le_refl _) (by omega) (by omega) (by omega) (by omega), fun k h1 h2 => by omega, fun k h1 h2 => by omega⟩
  rwa [show ((a' + 1 : Nat) : Int) = (a' : Int) + 1 by push_cast; rfl] at this
abbrev PInvOI (cf : Unit) (h0 : Hp) (p : Option Addr) (n cp a' b' : Nat) (xs : List Int) (F : Bag) (i' J : Nat) (h : Hp) : Prop := a' + 1 ≤ i' ∧ i' ≤ b' ∧ a' + 1 ≤ J ∧ J ≤ b' ∧ OutOI h0 p n cp a' b' xs F h (fun ys => LoR (tI 3).d (fun x y : Int => x < y) a' i' ys ∧ HiR (tI 3).d (fun x y : Int => x < y) a' J b' ys)
abbrev PSt1OI (cf : Unit) (h0 : Hp) (p : Option Addr) (n cp a' b' : Nat) (xs : List Int) (F : Bag) (i' J : Nat) (h : Hp) : Prop := a' + 1 ≤ i' ∧ i' ≤ b' ∧ a' + 1 ≤ J ∧ J ≤ b' ∧ OutOI h0 p n cp a' b' xs F h (fun ys => LoR (tI 3).d (fun x y : Int => x < y) a' i' ys ∧ HiR (tI 3).d (fun x y : Int => x < y) a' J b' ys ∧ (i' < J → ¬ (fun x y : Int => x < y) (ys.getD i' (tI 3).d) (ys.getD a' (tI 3).d)))
abbrev PSt2OI (cf : Unit) (h0 : Hp) (p : Option Addr) (n cp a' b' : Nat) (xs : List Int) (F : Bag) (i' J : Nat) (h : Hp) : Prop := a' + 1 ≤ i' ∧ i' ≤ b' ∧ a' + 1 ≤ J ∧ J ≤ b' ∧ OutOI h0 p n cp a' b' xs F h (fun ys => LoR (tI 3).d (fun x y : Int => x < y) a' i' ys ∧ HiR (tI 3).d (fun x y : Int => x < y) a' J b' ys ∧ (i' < J → ¬ (fun x y : Int => x < y) (ys.getD i' (tI 3).d) (ys.getD a' (tI 3).d)) ∧ (i' < J → (fun x y : Int => x < y) (ys.getD (J - 1) (tI 3).d) (ys.getD a' (tI 3).d)))
theorem partitionOI {h0 h : Hp} {p : Option Addr} {n cp a' b' pv' : Nat} {a b pv : Int} {xs : List Int} {A F : Bag} {P : Int → Prop} (s : St h0 h (A + F)) (o : Sl (tI 3) p n cp xs A) (hP : ∀ k, k < n → P (xs.getD k (tI 3).d)) (ea : a = (a' : Int)) (eb : b = (b' : Int)) (ev : pv = (pv' : Int)) (hpv : a' ≤ pv' ∧ pv' < b') (hb : b' ≤ n) (hn : n < 1000000) :
    HCalls Tryz.prog 97 #[.slice p n cp, .int .i64 a, .int .i64 b, .int .i64 pv] h (fun v h' => ∃ (m : Nat) (bb : Bool), v = .tuple #[.int .i64 (m : Int), .bool bb] ∧ a' ≤ m ∧ m < b' ∧ OutOI h0 p n cp a' b' xs F h' (PartR (tI 3).d (fun x y : Int => x < y) a' b' m)) := by
  subst ea eb ev
  have hl0 := o.len
  refine slices_partitionOrdered_int_call ?_
  generalize hR : (fun v h' => ∃ (m : Nat) (bb : Bool), v = Value.tuple #[.int .i64 (m : Int), .bool bb] ∧ a' ≤ m ∧ m < b' ∧ OutOI h0 p n cp a' b' xs F h' (PartR (tI 3).d (fun x y : Int => x < y) a' b' m)) = R
  have hRi : ∀ (v : Value) (h' : Hp) (m : Nat) (bb : Bool), v = .tuple #[.int .i64 (m : Int), .bool bb] → a' ≤ m → m < b' → OutOI h0 p n cp a' b' xs F h' (PartR (tI 3).d (fun x y : Int => x < y) a' b' m) → R v h' := by
    intro v h' m bb h1 h2 h3 h4; rw [← hR]; exact ⟨m, bb, h1, h2, h3, h4⟩
  clear hR
  have b13 : ∀ (i' J : Nat) (h' : Hp) (nx : Int × Int × Unit → Hp → Prop) , PSt2OI () h0 p n cp a' b' xs F i' J h' → (∀ h', PInvOI () h0 p n cp a' b' xs F (i' + 1) (J - 1) h' → i' < J → nx ((i' : Int) + 1, (J : Int) - 1 - 1, ()) h') → slices_partitionOrdered_int_b13 p n cp a' i' ((J : Int) - 1) h' nx R := by
    rintro i' J h' nx ⟨hi1, hi2, hJ1, hJ2, ys, A1, o, s, w, lo, hi, hst, hs2⟩ hnx 
    have hl := o.len
    rw [slices_partitionOrdered_int_b13_eq]
    refine condP (fun hlt => ?_) (fun hlt => ?_)
    · rw [slices_partitionOrdered_int_b14_eq]
      refine swOI (u' := J - 1) (v' := a') o s (by omega) rfl (by omega) (by omega) fun h6 A6 o6 s6 => ?_
      refine hRi _ _ (J - 1) false (by rw [show ((J - 1 : Nat) : Int) = (J : Int) - 1 by omega]) (by omega) (by omega) ⟨_, A6, o6, s6, .step w (by omega) (by omega) (by omega) (by omega) (by omega), part_end (by omega) hi2 (by omega) (by omega) lo hi⟩
    · refine swOI (u' := i') (v' := J - 1) o s rfl (by omega) (by omega) (by omega) fun h6 A6 o6 s6 => ⟨⟨by omega, by omega⟩, ⟨by omega, by omega⟩, ?_⟩
      have hs2 := hs2 (by omega)
      exact hnx _ ⟨by omega, by omega, by omega, by omega, _, A6, o6, s6, .step w (by omega) (by omega) (by omega) (by omega) (by omega), part_swap (by omega) (by omega) hJ2 (by omega) lo hi (hst (by omega)) hs2⟩ (by omega)
  have b10 : ∀ (i' J : Nat) (h' : Hp) (nx : Int × Int × Unit → Hp → Prop) , PSt1OI () h0 p n cp a' b' xs F i' J h' → (∀ i2 J2 h', i' + 1 ≤ i2 → J2 + 1 ≤ J → PInvOI () h0 p n cp a' b' xs F i2 J2 h' → nx ((i2 : Int), (J2 : Int) - 1, ()) h') → slices_partitionOrdered_int_b10 p n cp a' i' ((J : Int) - 1) h' nx R := by
    rintro i' J h' nx hI hnx 
    rw [slices_partitionOrdered_int_b10_eq]
    refine ⟨fun j h2 => ∃ J2 : Nat, j.1 = (J2 : Int) - 1 ∧ J2 ≤ J ∧ PSt1OI () h0 p n cp a' b' xs F i' J2 h2, fun j _ => (j.1 + 1).toNat, ⟨J, rfl, Nat.le_refl _, hI⟩, ?_⟩
    clear hI
    rintro ⟨_, _⟩ h2 ⟨J2, rfl, hJJ, hi1, hi2, hJ1, hJ2, ys, A1, o, s, w, lo, hi, hst⟩
    dsimp only
    have hl := o.len
    have hP := w.allN hl0 hP
    have ch := fun (h3 : Hp) (s : St h0 h3 (A1 + F)) (g : i' < J2 → (fun x y : Int => x < y) (ys.getD (J2 - 1) (tI 3).d) (ys.getD a' (tI 3).d)) => b13 i' J2 h3 nx ⟨hi1, hi2, hJ1, hJ2, ys, A1, o, s, w, lo, hi, hst, g⟩ fun h' hp hq => by have := hnx (i' + 1) (J2 - 1) h' (by omega) (by omega) hp; rwa [show ((i' + 1 : Nat) : Int) = (i' : Int) + 1 by push_cast; rfl, show ((J2 - 1 : Nat) : Int) - 1 = (J2 : Int) - 1 - 1 by omega] at this
    rw [slices_partitionOrdered_int_b11_eq]
    refine condP (fun hlt => ?_) (fun hlt => ch _ s fun h => by omega)
    have r := o.rd s
    refine ldOI (i' := J2 - 1) r (by omega) (by omega) (ldOI (i' := a') r rfl (by omega) ?_)
    refine ⟨_, (Less_ok _ _ _).mono fun v9 h9 ⟨hh9, hv9⟩ => ⟨hv9, hh9⟩, ?_⟩
    refine condN (fun hc => ?_) (fun hc => ch _ s fun _ => hc)
    rw [slices_partitionOrdered_int_b12_eq]
    exact ⟨⟨by omega, by omega⟩, ⟨J2 - 1, by omega, by omega, hi1, hi2, by omega, by omega, ys, A1, o, s, w, lo, hi_next hi hc, fun h => hst (by omega)⟩, by omega⟩
  have b8 : ∀ (i' J : Nat) (h' : Hp) (nx : Int × Int × Unit → Hp → Prop) , PInvOI () h0 p n cp a' b' xs F i' J h' → (∀ i2 J2 h', i' + 1 ≤ i2 → J2 + 1 ≤ J → PInvOI () h0 p n cp a' b' xs F i2 J2 h' → nx ((i2 : Int), (J2 : Int) - 1, ()) h') → LoopVC (((i' : Int), ()) : Int × Unit) h' (fun (nx1 : Int × Unit → Hp → Prop) (s4 : Int × Unit) h36 => slices_partitionOrdered_int_b8 s4.1 p n cp a' ((J : Int) - 1) h36 nx nx1 R) := by
    rintro i' J h' nx hI hnx 
    refine ⟨fun i h2 => ∃ i2 : Nat, i.1 = (i2 : Int) ∧ i' ≤ i2 ∧ PInvOI () h0 p n cp a' b' xs F i2 J h2, fun i _ => (b' - i.1).toNat, ⟨i', rfl, Nat.le_refl _, hI⟩, ?_⟩
    clear hI
    rintro ⟨_, _⟩ h2 ⟨i2, rfl, hii, hi1, hi2, hJ1, hJ2, ys, A1, o, s, w, lo, hi⟩
    dsimp only
    have hl := o.len
    have hP := w.allN hl0 hP
    have ch := fun (h3 : Hp) (s : St h0 h3 (A1 + F)) (g : i2 < J → ¬ (fun x y : Int => x < y) (ys.getD i2 (tI 3).d) (ys.getD a' (tI 3).d)) => b10 i2 J h3 nx ⟨hi1, hi2, hJ1, hJ2, ys, A1, o, s, w, lo, hi, g⟩ fun i3 J3 h' g1 g2 g3 => hnx i3 J3 h' (by omega) (by omega) g3
    rw [slices_partitionOrdered_int_b8_eq]
    refine condP (fun hlt => ?_) (fun hlt => ch _ s fun h => by omega)
    have r := o.rd s
    refine ldOI (i' := i2) r rfl (by omega) (ldOI (i' := a') r rfl (by omega) ?_)
    refine ⟨_, (Less_ok _ _ _).mono fun v9 h9 ⟨hh9, hv9⟩ => ⟨hv9, hh9⟩, ?_⟩
    refine condP (fun hc => ?_) (fun hc => ch _ s fun _ => hc)
    rw [slices_partitionOrdered_int_b9_eq]
    exact ⟨⟨by omega, by omega⟩, ⟨i2 + 1, by push_cast; rfl, by omega, by omega, by omega, hJ1, hJ2, ys, A1, o, s, w, lo_next lo hc, hi⟩, by omega⟩
  have b7 : ∀ (i' J : Nat) (h' : Hp), PInvOI () h0 p n cp a' b' xs F i' J h' → LoopVC ((i', (J : Int) - 1, ()) : Int × Int × Unit) h' (fun (nx0 : Int × Int × Unit → Hp → Prop) (s3 : Int × Int × Unit) h35 => slices_partitionOrdered_int_b7 s3.1 s3.2.1 p n cp a' h35 nx0 R) := by
    intro i' J h' hI
    refine ⟨fun ij h2 => ∃ i2 J2 : Nat, ij.1 = (i2 : Int) ∧ ij.2.1 = (J2 : Int) - 1 ∧ PInvOI () h0 p n cp a' b' xs F i2 J2 h2, fun ij _ => (b' - ij.1).toNat + (ij.2.1 + 1).toNat, ⟨i', J, rfl, rfl, hI⟩, ?_⟩
    clear hI
    rintro ⟨_, _, _⟩ h2 ⟨i2, J2, rfl, rfl, hI⟩
    dsimp only
    rw [slices_partitionOrdered_int_b7_eq]
    refine b8 i2 J2 h2 _ hI fun i3 J3 h3 g1 g2 hI3 => ⟨⟨i3, J3, rfl, rfl, hI3⟩, ?_⟩
    have := hI.1
    have := hI.2.1
    have := hI3.2.1
    dsimp only
    omega
  have b6 : ∀ (i' J : Nat) (h' : Hp) , PSt2OI () h0 p n cp a' b' xs F i' J h' → slices_partitionOrdered_int_b6 p n cp a' i' ((J : Int) - 1) h' R := by
    rintro i' J h' ⟨hi1, hi2, hJ1, hJ2, ys, A1, o, s, w, lo, hi, hst, hs2⟩
    have hl := o.len
    rw [slices_partitionOrdered_int_b6_eq]
    refine condP (fun hlt => ?_) (fun hlt => ?_)
    · refine swOI (u' := J - 1) (v' := a') o s (by omega) rfl (by omega) (by omega) fun h6 A6 o6 s6 => ?_
      refine hRi _ _ (J - 1) true (by rw [show ((J - 1 : Nat) : Int) = (J : Int) - 1 by omega]) (by omega) (by omega) ⟨_, A6, o6, s6, .step w (by omega) (by omega) (by omega) (by omega) (by omega), part_end (by omega) hi2 (by omega) (by omega) lo hi⟩
    · refine swOI (u' := i') (v' := J - 1) o s rfl (by omega) (by omega) (by omega) fun h6 A6 o6 s6 => ⟨⟨by omega, by omega⟩, ⟨by omega, by omega⟩, ?_⟩
      have hs2 := hs2 (by omega)
      have := b7 (i' + 1) (J - 1) h6 ⟨by omega, by omega, by omega, by omega, _, A6, o6, s6, .step w (by omega) (by omega) (by omega) (by omega) (by omega), part_swap (by omega) (by omega) hJ2 (by omega) lo hi (hst (by omega)) hs2⟩
      rwa [show ((i' + 1 : Nat) : Int) = (i' : Int) + 1 by push_cast; rfl, show ((J - 1 : Nat) : Int) - 1 = (J : Int) - 1 - 1 by omega] at this
  have b3 : ∀ (i' J : Nat) (h' : Hp) , PSt1OI () h0 p n cp a' b' xs F i' J h' → slices_partitionOrdered_int_b3 p n cp a' i' ((J : Int) - 1) h' R := by
    rintro i' J h' hI 
    rw [slices_partitionOrdered_int_b3_eq]
    refine ⟨fun j h2 => ∃ J2 : Nat, j.1 = (J2 : Int) - 1 ∧ J2 ≤ J ∧ PSt1OI () h0 p n cp a' b' xs F i' J2 h2, fun j _ => (j.1 + 1).toNat, ⟨J, rfl, Nat.le_refl _, hI⟩, ?_⟩
    clear hI
    rintro ⟨_, _⟩ h2 ⟨J2, rfl, hJJ, hi1, hi2, hJ1, hJ2, ys, A1, o, s, w, lo, hi, hst⟩
    dsimp only
    have hl := o.len
    have hP := w.allN hl0 hP
    have ch := fun (h3 : Hp) (s : St h0 h3 (A1 + F)) (g : i' < J2 → (fun x y : Int => x < y) (ys.getD (J2 - 1) (tI 3).d) (ys.getD a' (tI 3).d)) => b6 i' J2 h3  ⟨hi1, hi2, hJ1, hJ2, ys, A1, o, s, w, lo, hi, hst, g⟩ 
    rw [slices_partitionOrdered_int_b4_eq]
    refine condP (fun hlt => ?_) (fun hlt => ch _ s fun h => by omega)
    have r := o.rd s
    refine ldOI (i' := J2 - 1) r (by omega) (by omega) (ldOI (i' := a') r rfl (by omega) ?_)
    refine ⟨_, (Less_ok _ _ _).mono fun v9 h9 ⟨hh9, hv9⟩ => ⟨hv9, hh9⟩, ?_⟩
    refine condN (fun hc => ?_) (fun hc => ch _ s fun _ => hc)
    rw [slices_partitionOrdered_int_b5_eq]
    exact ⟨⟨by omega, by omega⟩, ⟨J2 - 1, by omega, by omega, hi1, hi2, by omega, by omega, ys, A1, o, s, w, lo, hi_next hi hc, fun h => hst (by omega)⟩, by omega⟩
  have b1 : ∀ (i' J : Nat) (h' : Hp) , PInvOI () h0 p n cp a' b' xs F i' J h' → LoopVC (((i' : Int), ()) : Int × Unit) h' (fun (nx1 : Int × Unit → Hp → Prop) (s4 : Int × Unit) h36 => slices_partitionOrdered_int_b1 s4.1 p n cp a' ((J : Int) - 1) h36 nx1 R) := by
    rintro i' J h' hI 
    refine ⟨fun i h2 => ∃ i2 : Nat, i.1 = (i2 : Int) ∧ i' ≤ i2 ∧ PInvOI () h0 p n cp a' b' xs F i2 J h2, fun i _ => (b' - i.1).toNat, ⟨i', rfl, Nat.le_refl _, hI⟩, ?_⟩
    clear hI
    rintro ⟨_, _⟩ h2 ⟨i2, rfl, hii, hi1, hi2, hJ1, hJ2, ys, A1, o, s, w, lo, hi⟩
    dsimp only
    have hl := o.len
    have hP := w.allN hl0 hP
    have ch := fun (h3 : Hp) (s : St h0 h3 (A1 + F)) (g : i2 < J → ¬ (fun x y : Int => x < y) (ys.getD i2 (tI 3).d) (ys.getD a' (tI 3).d)) => b3 i2 J h3  ⟨hi1, hi2, hJ1, hJ2, ys, A1, o, s, w, lo, hi, g⟩ 
    rw [slices_partitionOrdered_int_b1_eq]
    refine condP (fun hlt => ?_) (fun hlt => ch _ s fun h => by omega)
    have r := o.rd s
    refine ldOI (i' := i2) r rfl (by omega) (ldOI (i' := a') r rfl (by omega) ?_)
    refine ⟨_, (Less_ok _ _ _).mono fun v9 h9 ⟨hh9, hv9⟩ => ⟨hv9, hh9⟩, ?_⟩
    refine condP (fun hc => ?_) (fun hc => ch _ s fun _ => hc)
    rw [slices_partitionOrdered_int_b2_eq]
    exact ⟨⟨by omega, by omega⟩, ⟨i2 + 1, by push_cast; rfl, by omega, by omega, by omega, hJ1, hJ2, ys, A1, o, s, w, lo_next lo hc, hi⟩, by omega⟩
  rw [slices_partitionOrdered_int_b0_eq]
  refine swOI (u' := a') (v' := pv') o s rfl rfl (by omega) (by omega) fun h6 A6 o6 s6 => ⟨⟨by omega, by omega⟩, ⟨by omega, by omega⟩, ?_⟩
  have := b1 (a' + 1) b' h6 ⟨Nat.le_refl _, by omega, by omega, Nat.le_refl _, _, A6, o6, s6, .one (Nat.le_refl _) (by omega) (by omega) (by omega) (by omega), fun k h1 h2 => by omega, fun k h1 h2 => by omega⟩
  rwa [show ((a' + 1 : Nat) : Int) = (a' : Int) + 1 by push_cast; rfl] at this
end Go.Proofs.YtfkccighnkepgaaGreat

/- Sorting: partitionEqual, partialInsertionSort. -/
set_option maxRecDepth 100000
namespace Go.Proofs.YtfkccighnkepgaaGreat
open Go Go.Sx
abbrev EInvCI (cf : Int → Int → Int) (h0 : Hp) (p : Option Addr) (n cp a' b' : Nat) (x : Int) (xs : List Int) (F : Bag) (i' J : Nat) (h : Hp) : Prop := a' + 1 ≤ i' ∧ i' ≤ b' ∧ a' + 1 ≤ J ∧ J ≤ b' ∧ OutCI h0 p n cp a' b' xs F h (fun ys => EqR (tI 3).d (fun x y : Int => cf x y < 0) x a' i' ys)
abbrev EStCI (cf : Int → Int → Int) (h0 : Hp) (p : Option Addr) (n cp a' b' : Nat) (x : Int) (xs : List Int) (F : Bag) (i' J : Nat) (h : Hp) : Prop := a' + 1 ≤ i' ∧ i' ≤ b' ∧ a' + 1 ≤ J ∧ J ≤ b' ∧ OutCI h0 p n cp a' b' xs F h (fun ys => EqR (tI 3).d (fun x y : Int => cf x y < 0) x a' i' ys ∧ (i' < J → ¬ (fun x y : Int => cf x y < 0) (ys.getD a' (tI 3).d) (ys.getD (J - 1) (tI 3).d)))
theorem partitionEqualCI {h0 h : Hp} {p : Option Addr} {n cp a' b' pv' : Nat} {a b pv : Int} {xs : List Int} {A F : Bag} {cmp : Value} {cf : Int → Int → Int} {P : Int → Prop} (hX : CmpCI h0 F cmp cf P) (ho : OrdP (fun x y : Int => cf x y < 0)) (s : St h0 h (A + F)) (o : Sl (tI 3) p n cp xs A) (hP : ∀ k, k < n → P (xs.getD k (tI 3).d)) (ea : a = (a' : Int)) (eb : b = (b' : Int)) (ev : pv = (pv' : Int)) (hpv : a' ≤ pv' ∧ pv' < b') (hb : b' ≤ n) (hn : n < 1000000) :
    HCalls Tryz.prog 85 #[.slice p n cp, .int .i64 a, .int .i64 b, .int .i64 pv, cmp] h (fun v h' => ∃ m : Nat, v = .int .i64 (m : Int) ∧ a' + 1 ≤ m ∧ m ≤ b' ∧ OutCI h0 p n cp a' b' xs F h' (EqR (tI 3).d (fun x y : Int => cf x y < 0) (xs.getD pv' (tI 3).d) a' m)) := by
  subst ea eb ev
  have hl0 := o.len
  refine slices_partitionEqualCmpFunc_int_call ?_
  generalize hx : xs.getD pv' (tI 3).d = x
  generalize hR : (fun v h' => ∃ m : Nat, v = Value.int .i64 (m : Int) ∧ a' + 1 ≤ m ∧ m ≤ b' ∧ OutCI h0 p n cp a' b' xs F h' (EqR (tI 3).d (fun x y : Int => cf x y < 0) x a' m)) = R
  have hRi : ∀ (v : Value) (h' : Hp) (m : Nat), v = .int .i64 (m : Int) → a' + 1 ≤ m → m ≤ b' → OutCI h0 p n cp a' b' xs F h' (EqR (tI 3).d (fun x y : Int => cf x y < 0) x a' m) → R v h' := by
    intro v h' m h1 h2 h3 h4; rw [← hR]; exact ⟨m, h1, h2, h3, h4⟩
  clear hR
  have b7 : ∀ (i' J : Nat) (h' : Hp) (nx : Int × Int × Unit → Hp → Prop), EStCI cf h0 p n cp a' b' x xs F i' J h' → (∀ h', EInvCI cf h0 p n cp a' b' x xs F (i' + 1) (J - 1) h' → i' < J → nx ((i' : Int) + 1, (J : Int) - 1 - 1, ()) h') → slices_partitionEqualCmpFunc_int_b7 p n cp a' cmp i' ((J : Int) - 1) h' nx R := by
    rintro i' J h' nx ⟨hi1, hi2, hJ1, hJ2, ys, A1, o, s, w, he, hs2⟩ hnx
    have hl := o.len
    rw [slices_partitionEqualCmpFunc_int_b7_eq]
    refine condP (fun hlt => ?_) (fun hlt => ?_)
    · rw [slices_partitionEqualCmpFunc_int_b8_eq]
      exact hRi _ _ i' rfl hi1 hi2 ⟨ys, A1, o, s, w, he⟩
    · refine swOI (u' := i') (v' := J - 1) o s rfl (by omega) (by omega) (by omega) fun h6 A6 o6 s6 => ⟨⟨by omega, by omega⟩, ⟨by omega, by omega⟩, ?_⟩
      exact hnx _ ⟨by omega, by omega, by omega, by omega, _, A6, o6, s6, .step w (by omega) (by omega) (by omega) (by omega) (by omega), eq_swap (by omega) (by omega) (by omega) he (hs2 (by omega))⟩ (by omega)
  have b4 : ∀ (i' J : Nat) (h' : Hp) (nx : Int × Int × Unit → Hp → Prop), EInvCI cf h0 p n cp a' b' x xs F i' J h' → (∀ i2 J2 h', i' + 1 ≤ i2 → J2 + 1 ≤ J → EInvCI cf h0 p n cp a' b' x xs F i2 J2 h' → nx ((i2 : Int), (J2 : Int) - 1, ()) h') → slices_partitionEqualCmpFunc_int_b4 p n cp a' cmp i' ((J : Int) - 1) h' nx R := by
    rintro i' J h' nx hI hnx
    rw [slices_partitionEqualCmpFunc_int_b4_eq]
    refine ⟨fun j h2 => ∃ J2 : Nat, j.1 = (J2 : Int) - 1 ∧ J2 ≤ J ∧ EInvCI cf h0 p n cp a' b' x xs F i' J2 h2, fun j _ => (j.1 + 1).toNat, ⟨J, rfl, Nat.le_refl _, hI⟩, ?_⟩
    clear hI
    rintro ⟨_, _⟩ h2 ⟨J2, rfl, hJJ, hi1, hi2, hJ1, hJ2, ys, A1, o, s, w, he⟩
    dsimp only
    have hl := o.len
    have hP := w.allN hl0 hP
    have ch := fun (h3 : Hp) (s : St h0 h3 (A1 + F)) (g : i' < J2 → ¬ (fun x y : Int => cf x y < 0) (ys.getD a' (tI 3).d) (ys.getD (J2 - 1) (tI 3).d)) => b7 i' J2 h3 nx ⟨hi1, hi2, hJ1, hJ2, ys, A1, o, s, w, he, g⟩ fun h' hp hq => by have := hnx (i' + 1) (J2 - 1) h' (by omega) (by omega) hp; rwa [show ((i' + 1 : Nat) : Int) = (i' : Int) + 1 by push_cast; rfl, show ((J2 - 1 : Nat) : Int) - 1 = (J2 : Int) - 1 - 1 by omega] at this
    rw [slices_partitionEqualCmpFunc_int_b5_eq]
    refine condP (fun hlt => ?_) (fun hlt => ch _ s fun h => by omega)
    have r := o.rd s
    refine ldOI (i' := a') r rfl (by omega) (ldOI (i' := J2 - 1) r (by omega) (by omega) ?_)
    refine hX _ _ _ _ _ (s.at F) (hP _ (by omega)) (hP _ (by omega)) fun h5 e5 => ⟨_, rfl, ?_⟩; have s := s.grow e5
    refine condP (fun hc => ?_) (fun hc => ch _ s fun _ => hc)
    rw [slices_partitionEqualCmpFunc_int_b6_eq]
    exact ⟨⟨by omega, by omega⟩, ⟨J2 - 1, by omega, by omega, hi1, hi2, by omega, by omega, ys, A1, o, s, w, he⟩, by omega⟩
  have b2 : ∀ (i' J : Nat) (h' : Hp) (nx : Int × Int × Unit → Hp → Prop), EInvCI cf h0 p n cp a' b' x xs F i' J h' → (∀ i2 J2 h', i' + 1 ≤ i2 → J2 + 1 ≤ J → EInvCI cf h0 p n cp a' b' x xs F i2 J2 h' → nx ((i2 : Int), (J2 : Int) - 1, ()) h') → LoopVC (((i' : Int), ()) : Int × Unit) h' (fun (nx1 : Int × Unit → Hp → Prop) (s4 : Int × Unit) h36 => slices_partitionEqualCmpFunc_int_b2 s4.1 p n cp a' cmp ((J : Int) - 1) h36 nx nx1 R) := by
    rintro i' J h' nx hI hnx
    refine ⟨fun i h2 => ∃ i2 : Nat, i.1 = (i2 : Int) ∧ i' ≤ i2 ∧ EInvCI cf h0 p n cp a' b' x xs F i2 J h2, fun i _ => (b' - i.1).toNat, ⟨i', rfl, Nat.le_refl _, hI⟩, ?_⟩
    clear hI
    rintro ⟨_, _⟩ h2 ⟨i2, rfl, hii, hi1, hi2, hJ1, hJ2, ys, A1, o, s, w, he⟩
    dsimp only
    have hl := o.len
    have hP := w.allN hl0 hP
    have ch := fun (h3 : Hp) (s : St h0 h3 (A1 + F)) => b4 i2 J h3 nx ⟨hi1, hi2, hJ1, hJ2, ys, A1, o, s, w, he⟩ fun i3 J3 h' g1 g2 g3 => hnx i3 J3 h' (by omega) (by omega) g3
    rw [slices_partitionEqualCmpFunc_int_b2_eq]
    refine condP (fun hlt => ?_) (fun hlt => ch _ s)
    have r := o.rd s
    refine ldOI (i' := a') r rfl (by omega) (ldOI (i' := i2) r rfl (by omega) ?_)
    refine hX _ _ _ _ _ (s.at F) (hP _ (by omega)) (hP _ (by omega)) fun h5 e5 => ⟨_, rfl, ?_⟩; have s := s.grow e5
    refine condN (fun hc => ?_) (fun hc => ch _ s)
    rw [slices_partitionEqualCmpFunc_int_b3_eq]
    exact ⟨⟨by omega, by omega⟩, ⟨i2 + 1, by push_cast; rfl, by omega, by omega, by omega, hJ1, hJ2, ys, A1, o, s, w, eq_next he hc⟩, by omega⟩
  rw [slices_partitionEqualCmpFunc_int_b0_eq]
  refine swOI (u' := a') (v' := pv') o s rfl rfl (by omega) (by omega) fun h6 A6 o6 s6 => ⟨⟨by omega, by omega⟩, ⟨by omega, by omega⟩, ?_⟩
  have hx2 : (swapL (tI 3).d xs a' pv').getD a' (tI 3).d = x := by
    rw [swapL_get (by omega) (by omega)]
    by_cases hk : a' = pv'
    · rw [if_pos hk, hk, hx]
    · rw [if_neg hk, if_pos rfl, hx]
  refine ⟨fun ij h2 => ∃ i2 J2 : Nat, ij.1 = (i2 : Int) ∧ ij.2.1 = (J2 : Int) - 1 ∧ EInvCI cf h0 p n cp a' b' x xs F i2 J2 h2, fun ij _ => (b' - ij.1).toNat + (ij.2.1 + 1).toNat, ⟨a' + 1, b', by push_cast; rfl, rfl, Nat.le_refl _, by omega, by omega, Nat.le_refl _, _, A6, o6, s6, .one (Nat.le_refl _) (by omega) (by omega) (by omega) (by omega), hx2, fun k h1 h2 => by rw [show k = a' by omega, hx2]; exact ho.irr _⟩, ?_⟩
  rintro ⟨_, _, _⟩ h2 ⟨i2, J2, rfl, rfl, hI⟩
  dsimp only
  rw [slices_partitionEqualCmpFunc_int_b1_eq]
  refine b2 i2 J2 h2 _ hI fun i3 J3 h3 g1 g2 hI3 => ⟨⟨i3, J3, rfl, rfl, hI3⟩, ?_⟩
  have := hI.1
  have := hI.2.1
  have := hI3.2.1
  dsimp only
  omega
theorem partialInsertionSortCI {h0 h : Hp} {p : Option Addr} {n cp a' b' : Nat} {a b : Int} {xs : List Int} {A F : Bag} {cmp : Value} {cf : Int → Int → Int} {P : Int → Prop} (hX : CmpCI h0 F cmp cf P) (ho : OrdP (fun x y : Int => cf x y < 0)) (s : St h0 h (A + F)) (o : Sl (tI 3) p n cp xs A) (hP : ∀ k, k < n → P (xs.getD k (tI 3).d)) (ea : a = (a' : Int)) (eb : b = (b' : Int)) (hab : a' < b') (hb : b' ≤ n) (hn : n < 1000000)
    (hlow : 0 < a' → ∀ k, a' ≤ k → k < b' → ¬ (fun x y : Int => cf x y < 0) (xs.getD k (tI 3).d) (xs.getD (a' - 1) (tI 3).d)) :
    HCalls Tryz.prog 84 #[.slice p n cp, .int .i64 a, .int .i64 b, cmp] h (fun v h' => ∃ bb : Bool, v = .bool bb ∧ OutCI h0 p n cp a' b' xs F h' (fun ys => bb = true → SrtR (tI 3).d (fun x y : Int => cf x y < 0) a' b' ys)) := by
  subst ea eb
  have hl0 := o.len
  refine slices_partialInsertionSortCmpFunc_int_call ?_
  generalize hR : (fun v h' => ∃ bb : Bool, v = Value.bool bb ∧ OutCI h0 p n cp a' b' xs F h' (fun ys => bb = true → SrtR (tI 3).d (fun x y : Int => cf x y < 0) a' b' ys)) = R
  have hRf : ∀ (h' : Hp), OutCI h0 p n cp a' b' xs F h' (fun _ => True) → R (.bool false) h' := by
    rintro h' ⟨ys, A1, o, s, w, _⟩; rw [← hR]; exact ⟨false, rfl, ys, A1, o, s, w, fun h => by cases h⟩
  have hRt : ∀ (h' : Hp), OutCI h0 p n cp a' b' xs F h' (SrtR (tI 3).d (fun x y : Int => cf x y < 0) a' b') → R (.bool true) h' := by
    rintro h' ⟨ys, A1, o, s, w, hs⟩; rw [← hR]; exact ⟨true, rfl, ys, A1, o, s, w, fun _ => hs⟩
  clear hR
  rw [slices_partialInsertionSortCmpFunc_int_b0_eq]
  refine ⟨⟨by omega, by omega⟩, fun ic h1 => ∃ (i' c : Nat), ic.1 = (i' : Int) ∧ ic.2.1 = (c : Int) ∧ c ≤ 5 ∧ a' + 1 ≤ i' ∧ i' ≤ b' ∧ OutCI h0 p n cp a' b' xs F h1 (SrtR (tI 3).d (fun x y : Int => cf x y < 0) a' i'), fun ic _ => (5 - ic.2.1).toNat, ⟨a' + 1, 0, by push_cast; rfl, rfl, by omega, Nat.le_refl _, by omega, xs, A, o, s, .refl _, srtR_one (by omega)⟩, ?_⟩
  rintro ⟨_, _, _⟩ h1 ⟨i0, c, rfl, rfl, hc5, hi01, hi02, hO⟩
  dsimp only
  rw [slices_partialInsertionSortCmpFunc_int_b1_eq]
  refine condP (fun hc => ?_) (fun hc => ?_)
  · generalize hNX : (fun (s' : Int × Int × Unit) (h' : Hp) => (∃ (i' c : Nat), s'.1 = (i' : Int) ∧ s'.2.1 = (c : Int) ∧ c ≤ 5 ∧ a' + 1 ≤ i' ∧ i' ≤ b' ∧ OutCI h0 p n cp a' b' xs F h' (SrtR (tI 3).d (fun x y : Int => cf x y < 0) a' i')) ∧ (5 - s'.2.1).toNat < (5 - (c : Int)).toNat) = NX
    have b10 : ∀ (i' : Nat) (h' : Hp), a' + 1 ≤ i' → i' ≤ b' → OutCI h0 p n cp a' b' xs F h' (SrtR (tI 3).d (fun x y : Int => cf x y < 0) a' i') → slices_partialInsertionSortCmpFunc_int_b10 p n cp a' b' cmp i' c h' NX R := by
      intro i' h' g1 g2 g3
      rw [slices_partialInsertionSortCmpFunc_int_b10_eq, ← hNX]
      exact ⟨⟨by omega, by omega⟩, ⟨i', c + 1, rfl, by push_cast; rfl, by omega, g1, g2, g3⟩, by dsimp only; omega⟩
    clear hNX
    have b7 : ∀ (i' : Nat) (h' : Hp), a' + 1 ≤ i' → i' ≤ b' → OutCI h0 p n cp a' b' xs F h' (SrtR (tI 3).d (fun x y : Int => cf x y < 0) a' i') → slices_partialInsertionSortCmpFunc_int_b7 p n cp a' b' cmp i' c h' NX R := by
      intro i' h' g1 g2 g3
      rw [slices_partialInsertionSortCmpFunc_int_b7_eq]
      refine ⟨⟨by omega, by omega⟩, condP (fun h2 => ⟨⟨by omega, by omega⟩, ?_⟩) (fun _ => b10 i' h' g1 g2 g3)⟩
      refine ⟨fun j h2 => ∃ j' : Nat, j.1 = (j' : Int) ∧ i' + 1 ≤ j' ∧ j' ≤ b' ∧ OutCI h0 p n cp a' b' xs F h2 (SrtR (tI 3).d (fun x y : Int => cf x y < 0) a' i'), fun j _ => (b' - j.1).toNat, ⟨i' + 1, by push_cast; rfl, Nat.le_refl _, by omega, g3⟩, ?_⟩
      clear g3
      rintro ⟨_, _⟩ h2 ⟨j', rfl, hj1, hj2, ys, A1, o, s, w, hs⟩
      dsimp only
      have hl := o.len
      have hP := w.allN hl0 hP
      rw [slices_partialInsertionSortCmpFunc_int_b9_eq]
      refine condP (fun hlt => ?_) (fun hlt => b10 i' _ g1 g2 ⟨ys, A1, o, s, w, hs⟩)
      have r := o.rd s
      refine ldOI (i' := j') r rfl (by omega) ⟨⟨by omega, by omega⟩, ldOI (i' := j' - 1) r (by omega) (by omega) ?_⟩
      refine hX _ _ _ _ _ (s.at F) (hP _ (by omega)) (hP _ (by omega)) fun h5 e5 => ⟨_, rfl, ?_⟩; have s := s.grow e5
      refine condN (fun hc => b10 i' _ g1 g2 ⟨ys, A1, o, s, w, hs⟩) (fun hc => ⟨⟨by omega, by omega⟩, ⟨by omega, by omega⟩, ?_⟩)
      refine swOI (u' := j') (v' := j' - 1) o s rfl (by omega) (by omega) (by omega) fun h6 A6 o6 s6 => ?_
      rw [slices_partialInsertionSortCmpFunc_int_b11_eq]
      refine ⟨⟨by omega, by omega⟩, ⟨j' + 1, by push_cast; rfl, by omega, by omega, _, A6, o6, s6, .step w (by omega) (by omega) (by omega) (by omega) (by omega), fun x y k1 k2 k3 => ?_⟩, by omega⟩
      rw [swapL_get (by omega) (by omega), swapL_get (by omega) (by omega), if_neg (by omega), if_neg (by omega), if_neg (by omega), if_neg (by omega)]
      exact hs x y k1 k2 k3
    have b5 : ∀ (i' : Nat) (h' : Hp), a' + 1 ≤ i' → i' ≤ b' → OutCI h0 p n cp a' b' xs F h' (SrtR (tI 3).d (fun x y : Int => cf x y < 0) a' i') → slices_partialInsertionSortCmpFunc_int_b5 p n cp a' b' cmp i' c h' NX R := by
      rintro i' h' g1 g2 ⟨ys, A1, o, s, w, hs⟩
      have hl := o.len
      rw [slices_partialInsertionSortCmpFunc_int_b5_eq]
      refine condP (fun he => hRt _ ⟨ys, A1, o, s, w, by rw [show i' = b' by omega] at hs; exact hs⟩) (fun hne => ⟨⟨by omega, by omega⟩, condP (fun _ => hRf _ ⟨ys, A1, o, s, w, trivial⟩) (fun _ => ⟨⟨by omega, by omega⟩, ⟨by omega, by omega⟩, ?_⟩)⟩)
      refine swOI (u' := i') (v' := i' - 1) o s rfl (by omega) (by omega) (by omega) fun h6 A6 o6 s6 => ⟨⟨by omega, by omega⟩, ?_⟩
      have w6 : Swp (tI 3).d a' b' xs (swapL (tI 3).d ys i' (i' - 1)) := .step w (by omega) (by omega) (by omega) (by omega) (by omega)
      have hs6 : SrtR (tI 3).d (fun x y : Int => cf x y < 0) a' (i' - 1) (swapL (tI 3).d ys i' (i' - 1)) := fun x y k1 k2 k3 => by
        rw [swapL_get (by omega) (by omega), swapL_get (by omega) (by omega), if_neg (by omega), if_neg (by omega), if_neg (by omega), if_neg (by omega)]
        exact hs x y k1 k2 (by omega)
      generalize swapL (tI 3).d ys i' (i' - 1) = zs at *
      clear hs w s o hl
      refine condP (fun h2 => ⟨⟨by omega, by omega⟩, ?_⟩) (fun h2 => b7 i' _ g1 g2 ⟨zs, A6, o6, s6, w6, srtR_one (by omega)⟩)
      refine ⟨fun j h2 => ∃ j' : Nat, j.1 = (j' : Int) ∧ a' ≤ j' ∧ j' ≤ i' - 1 ∧ OutCI h0 p n cp a' b' xs F h2 (InsR (tI 3).d (fun x y : Int => cf x y < 0) a' j' (i' - 1)), fun j _ => j.1.toNat, ⟨i' - 1, by dsimp only; omega, by omega, by omega, zs, A6, o6, s6, w6, ins_start hs6⟩, ?_⟩
      clear hs6 w6 s6 o6 zs
      rintro ⟨_, _⟩ h2 ⟨j', rfl, hj1, hj2, ys, A1, o, s, w, hs⟩
      dsimp only
      have hl := o.len
      have hP := w.allN hl0 hP
      have fin := fun (h3 : Hp) (s : St h0 h3 (A1 + F)) (hx : a' < j' → ¬ (fun x y : Int => cf x y < 0) (ys.getD j' (tI 3).d) (ys.getD (j' - 1) (tI 3).d)) => b7 i' h3 g1 g2 ⟨ys, A1, o, s, w, by have := ins_end ho hj1 hs hx; rwa [show i' - 1 + 1 = i' by omega] at this⟩
      rw [slices_partialInsertionSortCmpFunc_int_b6_eq]
      refine condP (fun hlt => ?_) (fun hlt => fin _ s fun h => by omega)
      have r := o.rd s
      refine ldOI (i' := j') r rfl (by omega) ⟨⟨by omega, by omega⟩, ldOI (i' := j' - 1) r (by omega) (by omega) ?_⟩
      refine hX _ _ _ _ _ (s.at F) (hP _ (by omega)) (hP _ (by omega)) fun h5 e5 => ⟨_, rfl, ?_⟩; have s := s.grow e5
      refine condN (fun hc => fin _ s fun _ => hc) (fun hc => ⟨⟨by omega, by omega⟩, ⟨by omega, by omega⟩, ?_⟩)
      have hja : a' < j' := by
        rcases Nat.lt_or_ge a' j' with h | h
        · exact h
        · obtain rfl : j' = a' := by omega
          rw [w.out (k := j' - 1) (.inl (by omega))] at hc
          exact absurd hc (w.all (P := fun x => ¬ (fun x y : Int => cf x y < 0) x (xs.getD (j' - 1) (tI 3).d)) (hlow (by omega)) j' (Nat.le_refl _) (by omega))
      refine swOI (u' := j') (v' := j' - 1) o s rfl (by omega) (by omega) (by omega) fun h6 A6 o6 s6 => ?_
      rw [slices_partialInsertionSortCmpFunc_int_b8_eq]
      exact ⟨⟨by omega, by omega⟩, ⟨j' - 1, by omega, by omega, by omega, _, A6, o6, s6, .step w (by omega) (by omega) (by omega) (by omega) (by omega), ins_swap ho (by omega) hj2 (by omega) hs hc⟩, by omega⟩
    refine ⟨fun i h2 => ∃ i' : Nat, i.1 = (i' : Int) ∧ a' + 1 ≤ i' ∧ i' ≤ b' ∧ OutCI h0 p n cp a' b' xs F h2 (SrtR (tI 3).d (fun x y : Int => cf x y < 0) a' i'), fun i _ => (b' - i.1).toNat, ⟨i0, rfl, hi01, hi02, hO⟩, ?_⟩
    clear hO
    rintro ⟨_, _⟩ h2 ⟨i', rfl, g1, g2, ys, A1, o, s, w, hs⟩
    dsimp only
    have hl := o.len
    have hP := w.allN hl0 hP
    rw [slices_partialInsertionSortCmpFunc_int_b2_eq]
    refine condP (fun hlt => ?_) (fun hlt => b5 i' _ g1 g2 ⟨ys, A1, o, s, w, hs⟩)
    have r := o.rd s
    refine ldOI (i' := i') r rfl (by omega) ⟨⟨by omega, by omega⟩, ldOI (i' := i' - 1) r (by omega) (by omega) ?_⟩
    refine hX _ _ _ _ _ (s.at F) (hP _ (by omega)) (hP _ (by omega)) fun h5 e5 => ⟨_, rfl, ?_⟩; have s := s.grow e5
    refine condN (fun hc => ?_) (fun hc => b5 i' _ g1 g2 ⟨ys, A1, o, s, w, hs⟩)
    rw [slices_partialInsertionSortCmpFunc_int_b4_eq]
    exact ⟨⟨by omega, by omega⟩, ⟨i' + 1, by push_cast; rfl, by omega, by omega, ys, A1, o, s, w, ins_end ho (by omega) (ins_start hs) fun _ => hc⟩, by omega⟩
  · obtain ⟨ys, A1, o, s, w, hs⟩ := hO
    rw [slices_partialInsertionSortCmpFunc_int_b3_eq]
    exact hRf _ ⟨ys, A1, o, s, w, trivial⟩
abbrev EInvOI (cf : Unit) (h0 : Hp) (p : Option Addr) (n cp a' b' : Nat) (x : Int) (xs : List Int) (F : Bag) (i' J : Nat) (h : Hp) : Prop := a' + 1 ≤ i' ∧ i' ≤ b' ∧ a' + 1 ≤ J ∧ J ≤ b' ∧ OutOI h0 p n cp a' b' xs F h (fun ys => EqR (tI 3).d (fun x y : Int => x < y) x a' i' ys)
abbrev EStOI (cf : Unit) (h0 : Hp) (p : Option Addr) (n cp a' b' : Nat) (x : Int) (xs : List Int) (F : Bag) (i' J : Nat) (h : Hp) : Prop := a' + 1 ≤ i' ∧ i' ≤ b' ∧ a' + 1 ≤ J ∧ J ≤ b' ∧ OutOI h0 p n cp a' b' xs F h (fun ys => EqR (tI 3).d (fun x y : Int => x < y) x a' i' ys ∧ (i' < J → ¬ (fun x y : Int => x < y) (ys.getD a' (tI 3).d) (ys.getD (J - 1) (tI 3).d)))
theorem partitionEqualOI {h0 h : Hp} {p : Option Addr} {n cp a' b' pv' : Nat} {a b pv : Int} {xs : List Int} {A F : Bag} {P : Int → Prop} (s : St h0 h (A + F)) (o : Sl (tI 3) p n cp xs A) (hP : ∀ k, k < n → P (xs.getD k (tI 3).d)) (ea : a = (a' : Int)) (eb : b = (b' : Int)) (ev : pv = (pv' : Int)) (hpv : a' ≤ pv' ∧ pv' < b') (hb : b' ≤ n) (hn : n < 1000000) :
    HCalls Tryz.prog 96 #[.slice p n cp, .int .i64 a, .int .i64 b, .int .i64 pv] h (fun v h' => ∃ m : Nat, v = .int .i64 (m : Int) ∧ a' + 1 ≤ m ∧ m ≤ b' ∧ OutOI h0 p n cp a' b' xs F h' (EqR (tI 3).d (fun x y : Int => x < y) (xs.getD pv' (tI 3).d) a' m)) := by
  subst ea eb ev
  have hl0 := o.len
  refine slices_partitionEqualOrdered_int_call ?_
  generalize hx : xs.getD pv' (tI 3).d = x
  generalize hR : (fun v h' => ∃ m : Nat, v = Value.int .i64 (m : Int) ∧ a' + 1 ≤ m ∧ m ≤ b' ∧ OutOI h0 p n cp a' b' xs F h' (EqR (tI 3).d (fun x y : Int => x < y) x a' m)) = R
  have hRi : ∀ (v : Value) (h' : Hp) (m : Nat), v = .int .i64 (m : Int) → a' + 1 ≤ m → m ≤ b' → OutOI h0 p n cp a' b' xs F h' (EqR (tI 3).d (fun x y : Int => x < y) x a' m) → R v h' := by
    intro v h' m h1 h2 h3 h4; rw [← hR]; exact ⟨m, h1, h2, h3, h4⟩
  clear hR
  have b7 : ∀ (i' J : Nat) (h' : Hp) (nx : Int × Int × Unit → Hp → Prop), EStOI () h0 p n cp a' b' x xs F i' J h' → (∀ h', EInvOI () h0 p n cp a' b' x xs F (i' + 1) (J - 1) h' → i' < J → nx ((i' : Int) + 1, (J : Int) - 1 - 1, ()) h') → slices_partitionEqualOrdered_int_b7 p n cp a' i' ((J : Int) - 1) h' nx R := by
    rintro i' J h' nx ⟨hi1, hi2, hJ1, hJ2, ys, A1, o, s, w, he, hs2⟩ hnx
    have hl := o.len
    rw [slices_partitionEqualOrdered_int_b7_eq]
    refine condP (fun hlt => ?_) (fun hlt => ?_)
    · rw [slices_partitionEqualOrdered_int_b8_eq]
      exact hRi _ _ i' rfl hi1 hi2 ⟨ys, A1, o, s, w, he⟩
    · refine swOI (u' := i') (v' := J - 1) o s rfl (by omega) (by omega) (by omega) fun h6 A6 o6 s6 => ⟨⟨by omega, by omega⟩, ⟨by omega, by omega⟩, ?_⟩
      exact hnx _ ⟨by omega, by omega, by omega, by omega, _, A6, o6, s6, .step w (by omega) (by omega) (by omega) (by omega) (by omega), eq_swap (by omega) (by omega) (by omega) he (hs2 (by omega))⟩ (by omega)
  have b4 : ∀ (i' J : Nat) (h' : Hp) (nx : Int × Int × Unit → Hp → Prop), EInvOI () h0 p n cp a' b' x xs F i' J h' → (∀ i2 J2 h', i' + 1 ≤ i2 → J2 + 1 ≤ J → EInvOI () h0 p n cp a' b' x xs F i2 J2 h' → nx ((i2 : Int), (J2 : Int) - 1, ()) h') → slices_partitionEqualOrdered_int_b4 p n cp a' i' ((J : Int) - 1) h' nx R := by
    rintro i' J h' nx hI hnx
    rw [slices_partitionEqualOrdered_int_b4_eq]
    refine ⟨fun j h2 => ∃ J2 : Nat, j.1 = (J2 : Int) - 1 ∧ J2 ≤ J ∧ EInvOI () h0 p n cp a' b' x xs F i' J2 h2, fun j _ => (j.1 + 1).toNat, ⟨J, rfl, Nat.le_refl _, hI⟩, ?_⟩
    clear hI
    rintro ⟨_, _⟩ h2 ⟨J2, rfl, hJJ, hi1, hi2, hJ1, hJ2, ys, A1, o, s, w, he⟩
    dsimp only
    have hl := o.len
    have hP := w.allN hl0 hP
    have ch := fun (h3 : Hp) (s : St h0 h3 (A1 + F)) (g : i' < J2 → ¬ (fun x y : Int => x < y) (ys.getD a' (tI 3).d) (ys.getD (J2 - 1) (tI 3).d)) => b7 i' J2 h3 nx ⟨hi1, hi2, hJ1, hJ2, ys, A1, o, s, w, he, g⟩ fun h' hp hq => by have := hnx (i' + 1) (J2 - 1) h' (by omega) (by omega) hp; rwa [show ((i' + 1 : Nat) : Int) = (i' : Int) + 1 by push_cast; rfl, show ((J2 - 1 : Nat) : Int) - 1 = (J2 : Int) - 1 - 1 by omega] at this
    rw [slices_partitionEqualOrdered_int_b5_eq]
    refine condP (fun hlt => ?_) (fun hlt => ch _ s fun h => by omega)
    have r := o.rd s
    refine ldOI (i' := a') r rfl (by omega) (ldOI (i' := J2 - 1) r (by omega) (by omega) ?_)
    refine ⟨_, (Less_ok _ _ _).mono fun v9 h9 ⟨hh9, hv9⟩ => ⟨hv9, hh9⟩, ?_⟩
    refine condP (fun hc => ?_) (fun hc => ch _ s fun _ => hc)
    rw [slices_partitionEqualOrdered_int_b6_eq]
    exact ⟨⟨by omega, by omega⟩, ⟨J2 - 1, by omega, by omega, hi1, hi2, by omega, by omega, ys, A1, o, s, w, he⟩, by omega⟩
  have b2 : ∀ (i' J : Nat) (h' : Hp) (nx : Int × Int × Unit → Hp → Prop), EInvOI () h0 p n cp a' b' x xs F i' J h' → (∀ i2 J2 h', i' + 1 ≤ i2 → J2 + 1 ≤ J → EInvOI () h0 p n cp a' b' x xs F i2 J2 h' → nx ((i2 : Int), (J2 : Int) - 1, ()) h') → LoopVC (((i' : Int), ()) : Int × Unit) h' (fun (nx1 : Int × Unit → Hp → Prop) (s4 : Int × Unit) h36 => slices_partitionEqualOrdered_int_b2 s4.1 p n cp a' ((J : Int) - 1) h36 nx nx1 R) := by
    rintro i' J h' nx hI hnx
    refine ⟨fun i h2 => ∃ i2 : Nat, i.1 = (i2 : Int) ∧ i' ≤ i2 ∧ EInvOI () h0 p n cp a' b' x xs F i2 J h2, fun i _ => (b' - i.1).toNat, ⟨i', rfl, Nat.le_refl _, hI⟩, ?_⟩
    clear hI
    rintro ⟨_, _⟩ h2 ⟨i2, rfl, hii, hi1, hi2, hJ1, hJ2, ys, A1, o, s, w, he⟩
    dsimp only
    have hl := o.len
    have hP := w.allN hl0 hP
    have ch := fun (h3 : Hp) (s : St h0 h3 (A1 + F)) => b4 i2 J h3 nx ⟨hi1, hi2, hJ1, hJ2, ys, A1, o, s, w, he⟩ fun i3 J3 h' g1 g2 g3 => hnx i3 J3 h' (by omega) (by omega) g3
    rw [slices_partitionEqualOrdered_int_b2_eq]
    refine condP (fun hlt => ?_) (fun hlt => ch _ s)
    have r := o.rd s
    refine ldOI (i' := a') r rfl (by omega) (ldOI (i' := i2) r rfl (by omega) ?_)
    refine ⟨_, (Less_ok _ _ _).mono fun v9 h9 ⟨hh9, hv9⟩ => ⟨hv9, hh9⟩, ?_⟩
    refine condN (fun hc => ?_) (fun hc => ch _ s)
    rw [slices_partitionEqualOrdered_int_b3_eq]
    exact ⟨⟨by omega, by omega⟩, ⟨i2 + 1, by push_cast; rfl, by omega, by omega, by omega, hJ1, hJ2, ys, A1, o, s, w, eq_next he hc⟩, by omega⟩
  rw [slices_partitionEqualOrdered_int_b0_eq]
  refine swOI (u' := a') (v' := pv') o s rfl rfl (by omega) (by omega) fun h6 A6 o6 s6 => ⟨⟨by omega, by omega⟩, ⟨by omega, by omega⟩, ?_⟩
  have hx2 : (swapL (tI 3).d xs a' pv').getD a' (tI 3).d = x := by
    rw [swapL_get (by omega) (by omega)]
    by_cases hk : a' = pv'
    · rw [if_pos hk, hk, hx]
    · rw [if_neg hk, if_pos rfl, hx]
  refine ⟨fun ij h2 => ∃ i2 J2 : Nat, ij.1 = (i2 : Int) ∧ ij.2.1 = (J2 : Int) - 1 ∧ EInvOI () h0 p n cp a' b' x xs F i2 J2 h2, fun ij _ => (b' - ij.1).toNat + (ij.2.1 + 1).toNat, ⟨a' + 1, b', by push_cast; rfl, rfl, Nat.le_refl _, by omega, by omega, Nat.le_refl _, _, A6, o6, s6, .one (Nat.le_refl _) (by omega) (by omega) (by omega) (by omega), hx2, fun k h1 h2 => by rw [show k = a' by omega, hx2]; exact ordI.irr _⟩, ?_⟩
  rintro ⟨_, _, _⟩ h2 ⟨i2, J2, rfl, rfl, hI⟩
  dsimp only
  rw [slices_partitionEqualOrdered_int_b1_eq]
  refine b2 i2 J2 h2 _ hI fun i3 J3 h3 g1 g2 hI3 => ⟨⟨i3, J3, rfl, rfl, hI3⟩, ?_⟩
  have := hI.1
  have := hI.2.1
  have := hI3.2.1
  dsimp only
  omega
theorem partialInsertionSortOI {h0 h : Hp} {p : Option Addr} {n cp a' b' : Nat} {a b : Int} {xs : List Int} {A F : Bag} {P : Int → Prop} (s : St h0 h (A + F)) (o : Sl (tI 3) p n cp xs A) (hP : ∀ k, k < n → P (xs.getD k (tI 3).d)) (ea : a = (a' : Int)) (eb : b = (b' : Int)) (hab : a' < b') (hb : b' ≤ n) (hn : n < 1000000)
    (hlow : 0 < a' → ∀ k, a' ≤ k → k < b' → ¬ (fun x y : Int => x < y) (xs.getD k (tI 3).d) (xs.getD (a' - 1) (tI 3).d)) :
    HCalls Tryz.prog 94 #[.slice p n cp, .int .i64 a, .int .i64 b] h (fun v h' => ∃ bb : Bool, v = .bool bb ∧ OutOI h0 p n cp a' b' xs F h' (fun ys => bb = true → SrtR (tI 3).d (fun x y : Int => x < y) a' b' ys)) := by
  subst ea eb
  have hl0 := o.len
  refine slices_partialInsertionSortOrdered_int_call ?_
  generalize hR : (fun v h' => ∃ bb : Bool, v = Value.bool bb ∧ OutOI h0 p n cp a' b' xs F h' (fun ys => bb = true → SrtR (tI 3).d (fun x y : Int => x < y) a' b' ys)) = R
  have hRf : ∀ (h' : Hp), OutOI h0 p n cp a' b' xs F h' (fun _ => True) → R (.bool false) h' := by
    rintro h' ⟨ys, A1, o, s, w, _⟩; rw [← hR]; exact ⟨false, rfl, ys, A1, o, s, w, fun h => by cases h⟩
  have hRt : ∀ (h' : Hp), OutOI h0 p n cp a' b' xs F h' (SrtR (tI 3).d (fun x y : Int => x < y) a' b') → R (.bool true) h' := by
    rintro h' ⟨ys, A1, o, s, w, hs⟩; rw [← hR]; exact ⟨true, rfl, ys, A1, o, s, w, fun _ => hs⟩
  clear hR
  rw [slices_partialInsertionSortOrdered_int_b0_eq]
  refine ⟨⟨by omega, by omega⟩, fun ic h1 => ∃ (i' c : Nat), ic.1 = (i' : Int) ∧ ic.2.1 = (c : Int) ∧ c ≤ 5 ∧ a' + 1 ≤ i' ∧ i' ≤ b' ∧ OutOI h0 p n cp a' b' xs F h1 (SrtR (tI 3).d (fun x y : Int => x < y) a' i'), fun ic _ => (5 - ic.2.1).toNat, ⟨a' + 1, 0, by push_cast; rfl, rfl, by omega, Nat.le_refl _, by omega, xs, A, o, s, .refl _, srtR_one (by omega)⟩, ?_⟩
  rintro ⟨_, _, _⟩ h1 ⟨i0, c, rfl, rfl, hc5, hi01, hi02, hO⟩
  dsimp only
  rw [slices_partialInsertionSortOrdered_int_b1_eq]
  refine condP (fun hc => ?_) (fun hc => ?_)
  · generalize hNX : (fun (s' : Int × Int × Unit) (h' : Hp) => (∃ (i' c : Nat), s'.1 = (i' : Int) ∧ s'.2.1 = (c : Int) ∧ c ≤ 5 ∧ a' + 1 ≤ i' ∧ i' ≤ b' ∧ OutOI h0 p n cp a' b' xs F h' (SrtR (tI 3).d (fun x y : Int => x < y) a' i')) ∧ (5 - s'.2.1).toNat < (5 - (c : Int)).toNat) = NX
    have b10 : ∀ (i' : Nat) (h' : Hp), a' + 1 ≤ i' → i' ≤ b' → OutOI h0 p n cp a' b' xs F h' (SrtR (tI 3).d (fun x y : Int => x < y) a' i') → slices_partialInsertionSortOrdered_int_b10 p n cp a' b' i' c h' NX R := by
      intro i' h' g1 g2 g3
      rw [slices_partialInsertionSortOrdered_int_b10_eq, ← hNX]
      exact ⟨⟨by omega, by omega⟩, ⟨i', c + 1, rfl, by push_cast; rfl, by omega, g1, g2, g3⟩, by dsimp only; omega⟩
    clear hNX
    have b7 : ∀ (i' : Nat) (h' : Hp), a' + 1 ≤ i' → i' ≤ b' → OutOI h0 p n cp a' b' xs F h' (SrtR (tI 3).d (fun x y : Int => x < y) a' i') → slices_partialInsertionSortOrdered_int_b7 p n cp a' b' i' c h' NX R := by
      intro i' h' g1 g2 g3
      rw [slices_partialInsertionSortOrdered_int_b7_eq]
      refine ⟨⟨by omega, by omega⟩, condP (fun h2 => ⟨⟨by omega, by omega⟩, ?_⟩) (fun _ => b10 i' h' g1 g2 g3)⟩
      refine ⟨fun j h2 => ∃ j' : Nat, j.1 = (j' : Int) ∧ i' + 1 ≤ j' ∧ j' ≤ b' ∧ OutOI h0 p n cp a' b' xs F h2 (SrtR (tI 3).d (fun x y : Int => x < y) a' i'), fun j _ => (b' - j.1).toNat, ⟨i' + 1, by push_cast; rfl, Nat.le_refl _, by omega, g3⟩, ?_⟩
      clear g3
      rintro ⟨_, _⟩ h2 ⟨j', rfl, hj1, hj2, ys, A1, o, s, w, hs⟩
      dsimp only
      have hl := o.len
      have hP := w.allN hl0 hP
      rw [slices_partialInsertionSortOrdered_int_b9_eq]
      refine condP (fun hlt => ?_) (fun hlt => b10 i' _ g1 g2 ⟨ys, A1, o, s, w, hs⟩)
      have r := o.rd s
      refine ldOI (i' := j') r rfl (by omega) ⟨⟨by omega, by omega⟩, ldOI (i' := j' - 1) r (by omega) (by omega) ?_⟩
      refine ⟨_, (Less_ok _ _ _).mono fun v9 h9 ⟨hh9, hv9⟩ => ⟨hv9, hh9⟩, ?_⟩
      refine condN (fun hc => b10 i' _ g1 g2 ⟨ys, A1, o, s, w, hs⟩) (fun hc => ⟨⟨by omega, by omega⟩, ⟨by omega, by omega⟩, ?_⟩)
      refine swOI (u' := j') (v' := j' - 1) o s rfl (by omega) (by omega) (by omega) fun h6 A6 o6 s6 => ?_
      rw [slices_partialInsertionSortOrdered_int_b11_eq]
      refine ⟨⟨by omega, by omega⟩, ⟨j' + 1, by push_cast; rfl, by omega, by omega, _, A6, o6, s6, .step w (by omega) (by omega) (by omega) (by omega) (by omega), fun x y k1 k2 k3 => ?_⟩, by omega⟩
      rw [swapL_get (by omega) (by omega), swapL_get (by omega) (by omega), if_neg (by omega), if_neg (by omega), if_neg (by omega), if_neg (by omega)]
      exact hs x y k1 k2 k3
    have b5 : ∀ (i' : Nat) (h' : Hp), a' + 1 ≤ i' → i' ≤ b' → OutOI h0 p n cp a' b' xs F h' (SrtR (tI 3).d (fun x y : Int => x < y) a' i') → slices_partialInsertionSortOrdered_int_b5 p n cp a' b' i' c h' NX R := by
      rintro i' h' g1 g2 ⟨ys, A1, o, s, w, hs⟩
      have hl := o.len
      rw [slices_partialInsertionSortOrdered_int_b5_eq]
      refine condP (fun he => hRt _ ⟨ys, A1, o, s, w, by rw [show i' = b' by omega] at hs; exact hs⟩) (fun hne => ⟨⟨by omega, by omega⟩, condP (fun _ => hRf _ ⟨ys, A1, o, s, w, trivial⟩) (fun _ => ⟨⟨by omega, by omega⟩, ⟨by omega, by omega⟩, ?_⟩)⟩)
      refine swOI (u' := i') (v' := i' - 1) o s rfl (by omega) (by omega) (by omega) fun h6 A6 o6 s6 => ⟨⟨by omega, by omega⟩, ?_⟩
      have w6 : Swp (tI 3).d a' b' xs (swapL (tI 3).d ys i' (i' - 1)) := .step w (by omega) (by omega) (by omega) (by omega) (by omega)
      have hs6 : SrtR (tI 3).d (fun x y : Int => x < y) a' (i' - 1) (swapL (tI 3).d ys i' (i' - 1)) := fun x y k1 k2 k3 => by
        rw [swapL_get (by omega) (by omega), swapL_get (by omega) (by omega), if_neg (by omega), if_neg (by omega), if_neg (by omega), if_neg (by omega)]
        exact hs x y k1 k2 (by omega)
      generalize swapL (tI 3).d ys i' (i' - 1) = zs at *
      clear hs w s o hl
      refine condP (fun h2 => ⟨⟨by omega, by omega⟩, ?_⟩) (fun h2 => b7 i' _ g1 g2 ⟨zs, A6, o6, s6, w6, srtR_one (by omega)⟩)
      refine ⟨fun j h2 => ∃ j' : Nat, j.1 = (j' : Int) ∧ a' ≤ j' ∧ j' ≤ i' - 1 ∧ OutOI h0 p n cp a' b' xs F h2 (InsR (tI 3).d (fun x y : Int => x < y) a' j' (i' - 1)), fun j _ => j.1.toNat, ⟨i' - 1, by dsimp only; omega, by omega, by omega, zs, A6, o6, s6, w6, ins_start hs6⟩, ?_⟩
      clear hs6 w6 s6 o6 zs
      rintro ⟨_, _⟩ h2 ⟨j', rfl, hj1, hj2, ys, A1, o, s, w, hs⟩
      dsimp only
      have hl := o.len
      have hP := w.allN hl0 hP
      have fin := fun (h3 : Hp) (s : St h0 h3 (A1 + F)) (hx : a' < j' → ¬ (fun x y : Int => x < y) (ys.getD j' (tI 3).d) (ys.getD (j' - 1) (tI 3).d)) => b7 i' h3 g1 g2 ⟨ys, A1, o, s, w, by have := ins_end ordI hj1 hs hx; rwa [show i' - 1 + 1 = i' by omega] at this⟩
      rw [slices_partialInsertionSortOrdered_int_b6_eq]
      refine condP (fun hlt => ?_) (fun hlt => fin _ s fun h => by omega)
      have r := o.rd s
      refine ldOI (i' := j') r rfl (by omega) ⟨⟨by omega, by omega⟩, ldOI (i' := j' - 1) r (by omega) (by omega) ?_⟩
      refine ⟨_, (Less_ok _ _ _).mono fun v9 h9 ⟨hh9, hv9⟩ => ⟨hv9, hh9⟩, ?_⟩
      refine condN (fun hc => fin _ s fun _ => hc) (fun hc => ⟨⟨by omega, by omega⟩, ⟨by omega, by omega⟩, ?_⟩)
      have hja : a' < j' := by
        rcases Nat.lt_or_ge a' j' with h | h
        · exact h
        · obtain rfl : j' = a' := by omega
          rw [w.out (k := j' - 1) (.inl (by omega))] at hc
          exact absurd hc (w.all (P := fun x => ¬ (fun x y : Int => x < y) x (xs.getD (j' - 1) (tI 3).d)) (hlow (by omega)) j' (Nat.le_refl _) (by omega))
      refine swOI (u' := j') (v' := j' - 1) o s rfl (by omega) (by omega) (by omega) fun h6 A6 o6 s6 => ?_
      rw [slices_partialInsertionSortOrdered_int_b8_eq]
      exact ⟨⟨by omega, by omega⟩, ⟨j' - 1, by omega, by omega, by omega, _, A6, o6, s6, .step w (by omega) (by omega) (by omega) (by omega) (by omega), ins_swap ordI (by omega) hj2 (by omega) hs hc⟩, by omega⟩
    refine ⟨fun i h2 => ∃ i' : Nat, i.1 = (i' : Int) ∧ a' + 1 ≤ i' ∧ i' ≤ b' ∧ OutOI h0 p n cp a' b' xs F h2 (SrtR (tI 3).d (fun x y : Int => x < y) a' i'), fun i _ => (b' - i.1).toNat, ⟨i0, rfl, hi01, hi02, hO⟩, ?_⟩
    clear hO
    rintro ⟨_, _⟩ h2 ⟨i', rfl, g1, g2, ys, A1, o, s, w, hs⟩
    dsimp only
    have hl := o.len
    have hP := w.allN hl0 hP
    rw [slices_partialInsertionSortOrdered_int_b2_eq]
    refine condP (fun hlt => ?_) (fun hlt => b5 i' _ g1 g2 ⟨ys, A1, o, s, w, hs⟩)
    have r := o.rd s
    refine ldOI (i' := i') r rfl (by omega) ⟨⟨by omega, by omega⟩, ldOI (i' := i' - 1) r (by omega) (by omega) ?_⟩
    refine ⟨_, (Less_ok _ _ _).mono fun v9 h9 ⟨hh9, hv9⟩ => ⟨hv9, hh9⟩, ?_⟩
    refine condN (fun hc => ?_) (fun hc => b5 i' _ g1 g2 ⟨ys, A1, o, s, w, hs⟩)
    rw [slices_partialInsertionSortOrdered_int_b4_eq]
    exact ⟨⟨by omega, by omega⟩, ⟨i' + 1, by push_cast; rfl, by omega, by omega, ys, A1, o, s, w, ins_end ordI (by omega) (ins_start hs) fun _ => hc⟩, by omega⟩
  · obtain ⟨ys, A1, o, s, w, hs⟩ := hO
    rw [slices_partialInsertionSortOrdered_int_b3_eq]
    exact hRf _ ⟨ys, A1, o, s, w, trivial⟩
end Go.Proofs.YtfkccighnkepgaaGreat

/- Sorting: pdqsort. -/
set_option maxRecDepth 100000
namespace Go.Proofs.YtfkccighnkepgaaGreat
open Go Go.Sx
abbrev ZInvCI (cf : Int → Int → Int) (h0 : Hp) (p : Option Addr) (n cp a0 b0 : Nat) (xs : List Int) (F : Bag) (a1 b1 : Nat) (h : Hp) : Prop := a0 ≤ a1 ∧ a1 ≤ b1 ∧ b1 ≤ b0 ∧ OutCI h0 p n cp a0 b0 xs F h (OutR (tI 3).d (fun x y : Int => cf x y < 0) a0 b0 a1 b1)
theorem pdqCI {h0 : Hp} {p : Option Addr} {n cp : Nat} {F : Bag} {cmp : Value} {cf : Int → Int → Int} {P : Int → Prop} (hX : CmpCI h0 F cmp cf P) (ho : OrdP (fun x y : Int => cf x y < 0)) (hn : n < 1000000) : ∀ (N : Nat) {h : Hp} {a0 b0 : Nat} {a b lim : Int} {xs : List Int} {A : Bag} (_ : b0 - a0 ≤ N) (_ : St h0 h (A + F)) (_ : Sl (tI 3) p n cp xs A) (_ : ∀ k, k < n → P (xs.getD k (tI 3).d)) (_ : a = (a0 : Int)) (_ : b = (b0 : Int)) (_ : a0 ≤ b0) (_ : b0 ≤ n) (_ : 0 ≤ lim ∧ lim < 1000000)
    (_ : 0 < a0 → ∀ k, a0 ≤ k → k < b0 → ¬ (fun x y : Int => cf x y < 0) (xs.getD k (tI 3).d) (xs.getD (a0 - 1) (tI 3).d)),
    HCalls Tryz.prog 63 #[.slice p n cp, .int .i64 a, .int .i64 b, .int .i64 lim, cmp] h (fun v h' => v = .tuple #[] ∧ OutCI h0 p n cp a0 b0 xs F h' (SrtR (tI 3).d (fun x y : Int => cf x y < 0) a0 b0)) := by
  intro N
  induction N using Nat.strongRecOn with
  | _ N ih =>
  intro h a0 b0 a b lim xs A hN s o hP ea eb hab hb hlim hlow
  subst ea eb
  have hl0 := o.len
  refine slices_pdqsortCmpFunc_int_call ?_
  generalize hR : (fun v h' => v = Value.tuple #[] ∧ OutCI h0 p n cp a0 b0 xs F h' (SrtR (tI 3).d (fun x y : Int => cf x y < 0) a0 b0)) = R
  have fin : ∀ (a1 b1 : Nat) (h' : Hp) (ys : List Int), a0 ≤ a1 → b1 ≤ b0 → Swp (tI 3).d a0 b0 xs ys → OutR (tI 3).d (fun x y : Int => cf x y < 0) a0 b0 a1 b1 ys → OutCI h0 p n cp a1 b1 ys F h' (SrtR (tI 3).d (fun x y : Int => cf x y < 0) a1 b1) → R (.tuple #[]) h' := by
    rintro a1 b1 h' ys g1 g2 w ho ⟨zs, A2, o2, s2, w2, hs⟩
    have := w.len
    rw [← hR]
    exact ⟨rfl, zs, A2, o2, s2, w.trans (w2.mono g1 g2 (by omega)).1, outR_done (outR_swp g1 g2 ho w2) hs⟩
  clear hR
  -- what lies before the range is not more than what lies in it
  have low : ∀ (a1 b1 : Nat) (ys : List Int), a0 ≤ a1 → b1 ≤ b0 → Swp (tI 3).d a0 b0 xs ys → OutR (tI 3).d (fun x y : Int => cf x y < 0) a0 b0 a1 b1 ys → 0 < a1 → ∀ k, a1 ≤ k → k < b1 → ¬ (fun x y : Int => cf x y < 0) (ys.getD k (tI 3).d) (ys.getD (a1 - 1) (tI 3).d) := by
    intro a1 b1 ys g1 g2 w ho h1 k k1 k2
    by_cases he : a1 = a0
    · subst he
      rw [w.out (k := a1 - 1) (.inl (by omega))]
      exact w.all (P := fun x => ¬ (fun x y : Int => cf x y < 0) x (xs.getD (a1 - 1) (tI 3).d)) (hlow h1) k k1 (by omega)
    · exact ho (a1 - 1) k (by omega) (by omega) (by omega) (by omega)
  have b5 : ∀ (a1 b1 pv : Nat) (lim : Int) (h' : Hp) (nx : Int × Int × Int × Bool × Bool × Unit → Hp → Prop), ZInvCI cf h0 p n cp a0 b0 xs F a1 b1 h' → a1 ≤ pv → pv < b1 → 0 ≤ lim → lim < 1000000 →
      (∀ (a2 b2 : Nat) (l2 : Int) (wb wp : Bool) (h2 : Hp), ZInvCI cf h0 p n cp a0 b0 xs F a2 b2 h2 → b2 - a2 < b1 - a1 → 0 ≤ l2 → l2 < 1000000 → nx ((a2 : Int), (b2 : Int), l2, wb, wp, ()) h2) → slices_pdqsortCmpFunc_int_b5 p n cp a1 b1 lim cmp ((b1 : Int) - a1) pv h' nx R := by
    rintro a1 b1 pv lim h' nx ⟨g1, g2, g3, ys, A1, o, s, w, ho2⟩ hv1 hv2 hl1 hl2 hnx
    have hl := o.len
    have hPy := w.allN hl0 hP
    rw [slices_pdqsortCmpFunc_int_b5_eq]
    refine (partitionCI hX ho s o hPy rfl rfl rfl ⟨hv1, hv2⟩ (by omega) hn).mono fun v h2 ⟨m, bb, hv, m1, m2, zs, A2, o2, s2, w2, hp⟩ => ⟨_, _, hv, ⟨by omega, by omega⟩, ⟨by omega, by omega⟩, quo_intro (by omega) (by omega) (by omega) ?_⟩
    have w02 := w.trans (w2.mono g1 g3 (by omega)).1
    have ho3 := outR_swp g1 g3 ho2 w2
    have hPz := w02.allN hl0 hP
    have hlz := o2.len
    have hlow2 := low a1 b1 zs g1 g3 w02 ho3
    refine condP (fun hlt => ?_) (fun hlt => ⟨⟨by omega, by omega⟩, ?_⟩)
    · refine (ih (m - a1) (by omega) (a0 := a1) (b0 := m) (Nat.le_refl _) s2 o2 hPz rfl rfl m1 (by omega) ⟨hl1, hl2⟩ fun q k k1 k2 => hlow2 q k k1 (by omega)).mono fun v h3 ⟨hv, us, A3, o3, s3, w3, hs3⟩ => ⟨hv, ⟨by omega, by omega⟩, ?_⟩
      have hm : us.getD m (tI 3).d = zs.getD m (tI 3).d := w3.out (.inr (Nat.le_refl _))
      have hp3 : PartR (tI 3).d (fun x y : Int => cf x y < 0) a1 b1 m us := ⟨by rw [hm]; exact w3.all (P := fun x => (fun x y : Int => cf x y < 0) x (zs.getD m (tI 3).d)) hp.1, fun k k1 k2 => by rw [hm, w3.out (k := k) (.inr (by omega))]; exact hp.2 k k1 k2⟩
      have := hnx (m + 1) b1 lim (decide (((b1 : Int) - a1) / 8 ≤ (m : Int) - a1)) bb h3 ⟨by omega, by omega, g3, us, A3, o3, s3, w02.trans (w3.mono g1 (by omega) (by omega)).1, outR_left ho g1 g3 m1 m2 (outR_swp g1 g3 ho3 (w3.mono (Nat.le_refl _) (by omega) (by omega)).1) hp3 hs3⟩ (by omega) hl1 hl2
      rwa [show ((m + 1 : Nat) : Int) = (m : Int) + 1 by push_cast; rfl] at this
    · refine (ih (b1 - (m + 1)) (by omega) (a0 := m + 1) (b0 := b1) (Nat.le_refl _) s2 o2 hPz (by push_cast; rfl) rfl (by omega) (by omega) ⟨hl1, hl2⟩ fun q k k1 k2 => hp.2 k (by omega) k2).mono fun v h3 ⟨hv, us, A3, o3, s3, w3, hs3⟩ => ⟨hv, ?_⟩
      have hm : us.getD m (tI 3).d = zs.getD m (tI 3).d := w3.out (.inl (by omega))
      have hp3 : PartR (tI 3).d (fun x y : Int => cf x y < 0) a1 b1 m us := ⟨fun k k1 k2 => by rw [hm, w3.out (k := k) (.inl (by omega))]; exact hp.1 k k1 k2, fun k k1 k2 => by rw [hm]; exact w3.all (P := fun x => ¬ (fun x y : Int => cf x y < 0) x (zs.getD m (tI 3).d)) (fun k k1 k2 => hp.2 k (by omega) k2) k (by omega) k2⟩
      exact hnx a1 m lim _ bb h3 ⟨g1, m1, by omega, us, A3, o3, s3, w02.trans (w3.mono (by omega) g3 (by omega)).1, outR_right ho g1 g3 m1 m2 (outR_swp g1 g3 ho3 (w3.mono (by omega) (Nat.le_refl _) (by omega)).1) hp3 hs3⟩ (by omega) hl1 hl2
  have b4 : ∀ (a1 b1 pv : Nat) (lim : Int) (wb wp : Bool) (h' : Hp) (nx : Int × Int × Int × Bool × Bool × Unit → Hp → Prop), ZInvCI cf h0 p n cp a0 b0 xs F a1 b1 h' → a1 ≤ pv → pv < b1 → 0 ≤ lim → lim < 1000000 →
      (∀ (a2 b2 : Nat) (l2 : Int) (wb wp : Bool) (h2 : Hp), ZInvCI cf h0 p n cp a0 b0 xs F a2 b2 h2 → b2 - a2 < b1 - a1 → 0 ≤ l2 → l2 < 1000000 → nx ((a2 : Int), (b2 : Int), l2, wb, wp, ()) h2) → slices_pdqsortCmpFunc_int_b4 p n cp a1 b1 lim cmp wb wp ((b1 : Int) - a1) pv h' nx R := by
    rintro a1 b1 pv lim wb wp h' nx ⟨g1, g2, g3, ys, A1, o, s, w, ho2⟩ hv1 hv2 hl1 hl2 hnx
    have hl := o.len
    rw [slices_pdqsortCmpFunc_int_b4_eq]
    refine condP (fun ha => ⟨⟨by omega, by omega⟩, ?_⟩) (fun _ => b5 a1 b1 pv lim _ _ ⟨g1, g2, g3, ys, A1, o, s, w, ho2⟩ hv1 hv2 hl1 hl2 hnx)
    have hlow2 := low a1 b1 ys g1 g3 w ho2 (by omega)
    have r := o.rd s
    have hPy := w.allN hl0 hP
    have hP := hPy
    refine ldOI (i' := a1 - 1) r (by omega) (by omega) (ldOI (i' := pv) r rfl (by omega) ?_)
    refine hX _ _ _ _ _ (s.at F) (hP _ (by omega)) (hP _ (by omega)) fun h5 e5 => ⟨_, rfl, ?_⟩; have s := s.grow e5
    refine condN (fun hc => ?_) (fun hc => b5 a1 b1 pv lim _ _ ⟨g1, g2, g3, ys, A1, o, s, w, ho2⟩ hv1 hv2 hl1 hl2 hnx)
    refine (partitionEqualCI hX ho s o hPy rfl rfl rfl ⟨hv1, hv2⟩ (by omega) hn).mono fun v h2 ⟨m, hv, m1, m2, zs, A2, o2, s2, w2, hp⟩ => ⟨_, hv, ?_⟩
    exact hnx m b1 lim wb wp h2 ⟨by omega, m2, g3, zs, A2, o2, s2, w.trans (w2.mono g1 g3 (by omega)).1, outR_equal ho g1 g3 (by omega) m2 (outR_swp g1 g3 ho2 w2) hp.2 (w2.all (P := fun x => ¬ (fun x y : Int => cf x y < 0) x (ys.getD pv (tI 3).d)) fun k k1 k2 => ho.trans _ _ _ hc (hlow2 k k1 k2))⟩ (by omega) hl1 hl2
  have b3 : ∀ (a1 b1 pv : Nat) (hint lim : Int) (wb wp : Bool) (h' : Hp) (nx : Int × Int × Int × Bool × Bool × Unit → Hp → Prop), ZInvCI cf h0 p n cp a0 b0 xs F a1 b1 h' → a1 ≤ pv → pv < b1 → 0 ≤ lim → lim < 1000000 →
      (∀ (a2 b2 : Nat) (l2 : Int) (wb wp : Bool) (h2 : Hp), ZInvCI cf h0 p n cp a0 b0 xs F a2 b2 h2 → b2 - a2 < b1 - a1 → 0 ≤ l2 → l2 < 1000000 → nx ((a2 : Int), (b2 : Int), l2, wb, wp, ()) h2) → slices_pdqsortCmpFunc_int_b3 p n cp a1 b1 lim cmp wb wp ((b1 : Int) - a1) pv hint h' nx R := by
    rintro a1 b1 pv hint lim wb wp h' nx hI hv1 hv2 hl1 hl2 hnx
    have go := fun h2 (hI : ZInvCI cf h0 p n cp a0 b0 xs F a1 b1 h2) => b4 a1 b1 pv lim wb wp h2 nx hI hv1 hv2 hl1 hl2 hnx
    rw [slices_pdqsortCmpFunc_int_b3_eq]
    refine cond_intro (fun _ => cond_intro (fun _ => condP (fun _ => ?_) fun _ => go _ hI) fun _ => go _ hI) fun _ => go _ hI
    obtain ⟨g1, g2, g3, ys, A1, o, s, w, ho2⟩ := hI
    have hl := o.len
    refine (partialInsertionSortCI hX ho s o (w.allN hl0 hP) rfl rfl (by omega) (by omega) hn (low a1 b1 ys g1 g3 w ho2)).mono fun v h2 ⟨bb, hv, zs, A2, o2, s2, w2, hp⟩ => ⟨_, hv, cond_intro (fun hb => ?_) (fun hb => ?_)⟩
    · exact fin a1 b1 h2 ys g1 g3 w ho2 ⟨zs, A2, o2, s2, w2, hp hb⟩
    · exact go _ ⟨g1, g2, g3, zs, A2, o2, s2, w.trans (w2.mono g1 g3 (by omega)).1, outR_swp g1 g3 ho2 w2⟩
  have b2 : ∀ (a1 b1 : Nat) (lim : Int) (wb wp : Bool) (h' : Hp) (nx : Int × Int × Int × Bool × Bool × Unit → Hp → Prop), ZInvCI cf h0 p n cp a0 b0 xs F a1 b1 h' → a1 < b1 → 0 ≤ lim → lim < 1000000 →
      (∀ (a2 b2 : Nat) (l2 : Int) (wb wp : Bool) (h2 : Hp), ZInvCI cf h0 p n cp a0 b0 xs F a2 b2 h2 → b2 - a2 < b1 - a1 → 0 ≤ l2 → l2 < 1000000 → nx ((a2 : Int), (b2 : Int), l2, wb, wp, ()) h2) → slices_pdqsortCmpFunc_int_b2 p n cp a1 b1 lim cmp wb wp ((b1 : Int) - a1) h' nx R := by
    rintro a1 b1 lim wb wp h' nx ⟨g1, g2, g3, ys, A1, o, s, w, ho2⟩ hlt hl1 hl2 hnx
    have hl := o.len
    rw [slices_pdqsortCmpFunc_int_b2_eq]
    refine (choosePivotCI hX ho s o (w.allN hl0 hP) rfl rfl hlt (by omega) hn).mono fun v h2 ⟨u, hint, hv, u1, u2, s⟩ => ⟨_, _, hv, condP (fun _ => ?_) (fun _ => ?_)⟩
    · refine (reverseRangeCI s o rfl rfl (by omega) (by omega) hn).mono fun v h2 ⟨hv, zs, A2, o2, s2, w2, _⟩ => ⟨hv, ⟨by omega, by omega⟩, ⟨by omega, by omega⟩, ⟨by omega, by omega⟩, ?_⟩
      have := b3 a1 b1 ((b1 : Int) - 1 - (u - a1)).toNat 1 lim wb wp h2 nx ⟨g1, g2, g3, zs, A2, o2, s2, w.trans (w2.mono g1 g3 (by omega)).1, outR_swp g1 g3 ho2 w2⟩ (by omega) (by omega) hl1 hl2 hnx
      rwa [Int.toNat_of_nonneg (by omega)] at this
    · have := b3 a1 b1 u.toNat hint lim wb wp h2 nx ⟨g1, g2, g3, ys, A1, o, s, w, ho2⟩ (by omega) (by omega) hl1 hl2 hnx
      rwa [Int.toNat_of_nonneg (by omega)] at this
  rw [slices_pdqsortCmpFunc_int_b0_eq]
  refine ⟨fun st h1 => ∃ (a1 b1 : Nat), st.1 = (a1 : Int) ∧ st.2.1 = (b1 : Int) ∧ 0 ≤ st.2.2.1 ∧ st.2.2.1 < 1000000 ∧ ZInvCI cf h0 p n cp a0 b0 xs F a1 b1 h1, fun st _ => (st.2.1 - st.1).toNat, ⟨a0, b0, rfl, rfl, hlim.1, hlim.2, Nat.le_refl _, hab, Nat.le_refl _, xs, A, o, s, .refl _, outR_start⟩, ?_⟩
  rintro ⟨_, _, lim, wb, wp, _⟩ h1 ⟨a1, b1, rfl, rfl, hl1, hl2, hI⟩
  dsimp only at hl1 hl2 ⊢
  have go := fun (l2 : Int) (h2 : Hp) (hI : ZInvCI cf h0 p n cp a0 b0 xs F a1 b1 h2) (hlt : a1 < b1) (q1 : 0 ≤ l2) (q2 : l2 < 1000000) => b2 a1 b1 l2 wb wp h2 (fun s' h' => (∃ (a1 b1 : Nat), s'.1 = (a1 : Int) ∧ s'.2.1 = (b1 : Int) ∧ 0 ≤ s'.2.2.1 ∧ s'.2.2.1 < 1000000 ∧ ZInvCI cf h0 p n cp a0 b0 xs F a1 b1 h') ∧ (s'.2.1 - s'.1).toNat < ((b1 : Int) - a1).toNat) hI hlt q1 q2 fun a2 b2 l2 wb wp h2 hI2 hm k1 k2 => ⟨⟨a2, b2, rfl, rfl, k1, k2, hI2⟩, by have := hI2.2.1; dsimp only; omega⟩
  have hI' := hI
  obtain ⟨g1, g2, g3, ys, A1, o, s, w, ho2⟩ := hI
  have hl := o.len
  rw [slices_pdqsortCmpFunc_int_b1_eq]
  refine ⟨⟨by omega, by omega⟩, condP (fun h12 => ?_) (fun h12 => condP (fun hz => ?_) (fun hz => cond_intro (fun _ => ?_) (fun _ => ?_)))⟩
  · exact (insertionSortCI hX ho s o (w.allN hl0 hP) rfl rfl (by omega) (by omega) hn).mono fun v h2 ⟨hv, hO⟩ => ⟨hv, fin a1 b1 h2 ys g1 g3 w ho2 hO⟩
  · exact (heapSortCI hX ho s o (w.allN hl0 hP) rfl rfl (by omega) (by omega) hn).mono fun v h2 ⟨hv, hO⟩ => ⟨hv, fin a1 b1 h2 ys g1 g3 w ho2 hO⟩
  · refine (breakPatternsCI s o rfl rfl (by omega) (by omega) hn).mono fun v h2 ⟨hv, zs, A2, o2, s2, w2, _⟩ => ⟨hv, ⟨by omega, by omega⟩, ?_⟩
    exact go (lim - 1) h2 ⟨g1, g2, g3, zs, A2, o2, s2, w.trans (w2.mono g1 g3 (by omega)).1, outR_swp g1 g3 ho2 w2⟩ (by omega) (by omega) (by omega)
  · exact go lim h1 hI' (by omega) hl1 hl2
/-- The whole slice. -/
theorem sortCI {h0 h : Hp} {p : Option Addr} {n cp : Nat} {xs : List Int} {A F : Bag} {cmp : Value} {cf : Int → Int → Int} {P : Int → Prop} (hX : CmpCI h0 F cmp cf P) (ho : OrdP (fun x y : Int => cf x y < 0)) (s : St h0 h (A + F)) (o : Sl (tI 3) p n cp xs A) (hP : ∀ k, k < n → P (xs.getD k (tI 3).d)) (hn : n < 1000000) :
    HCalls Tryz.prog 40 #[.slice p n cp, cmp] h (fun v h' => v = .tuple #[] ∧ ∃ ys A', Sl (tI 3) p n cp ys A' ∧ St h0 h' (A' + F) ∧ ys.Perm xs ∧ ys.Pairwise (fun x y => ¬ (fun x y : Int => cf x y < 0) y x)) := by
  refine slices_SortFunc_Sint_int_call ?_
  rw [slices_SortFunc_Sint_int_b0_eq, wrap_u64_in _ (by omega) (by omega)]
  refine (bitsLen_ok n (by omega) h).mono fun v h1 ⟨hv, hh⟩ => ⟨_, hv, ?_⟩
  subst hh
  have hl : blen n ≤ 20 := blen_le (by omega)
  refine (pdqCI hX ho hn n (a0 := 0) (b0 := n) (by omega) s o hP rfl rfl (by omega) (Nat.le_refl _) ⟨by omega, by omega⟩ (fun h => by omega)).mono fun v h2 ⟨hv, ys, A', o2, s2, w, hs⟩ => ⟨hv, rfl, ys, A', o2, s2, w.perm, srtR_pairwise o2.len hs⟩
abbrev ZInvOI (cf : Unit) (h0 : Hp) (p : Option Addr) (n cp a0 b0 : Nat) (xs : List Int) (F : Bag) (a1 b1 : Nat) (h : Hp) : Prop := a0 ≤ a1 ∧ a1 ≤ b1 ∧ b1 ≤ b0 ∧ OutOI h0 p n cp a0 b0 xs F h (OutR (tI 3).d (fun x y : Int => x < y) a0 b0 a1 b1)
theorem pdqOI {h0 : Hp} {p : Option Addr} {n cp : Nat} {F : Bag} {P : Int → Prop} (hn : n < 1000000) : ∀ (N : Nat) {h : Hp} {a0 b0 : Nat} {a b lim : Int} {xs : List Int} {A : Bag} (_ : b0 - a0 ≤ N) (_ : St h0 h (A + F)) (_ : Sl (tI 3) p n cp xs A) (_ : ∀ k, k < n → P (xs.getD k (tI 3).d)) (_ : a = (a0 : Int)) (_ : b = (b0 : Int)) (_ : a0 ≤ b0) (_ : b0 ≤ n) (_ : 0 ≤ lim ∧ lim < 1000000)
    (_ : 0 < a0 → ∀ k, a0 ≤ k → k < b0 → ¬ (fun x y : Int => x < y) (xs.getD k (tI 3).d) (xs.getD (a0 - 1) (tI 3).d)),
    HCalls Tryz.prog 66 #[.slice p n cp, .int .i64 a, .int .i64 b, .int .i64 lim] h (fun v h' => v = .tuple #[] ∧ OutOI h0 p n cp a0 b0 xs F h' (SrtR (tI 3).d (fun x y : Int => x < y) a0 b0)) := by
  intro N
  induction N using Nat.strongRecOn with
  | _ N ih =>
  intro h a0 b0 a b lim xs A hN s o hP ea eb hab hb hlim hlow
  subst ea eb
  have hl0 := o.len
  refine slices_pdqsortOrdered_int_call ?_
  generalize hR : (fun v h' => v = Value.tuple #[] ∧ OutOI h0 p n cp a0 b0 xs F h' (SrtR (tI 3).d (fun x y : Int => x < y) a0 b0)) = R
  have fin : ∀ (a1 b1 : Nat) (h' : Hp) (ys : List Int), a0 ≤ a1 → b1 ≤ b0 → Swp (tI 3).d a0 b0 xs ys → OutR (tI 3).d (fun x y : Int => x < y) a0 b0 a1 b1 ys → OutOI h0 p n cp a1 b1 ys F h' (SrtR (tI 3).d (fun x y : Int => x < y) a1 b1) → R (.tuple #[]) h' := by
    rintro a1 b1 h' ys g1 g2 w ho ⟨zs, A2, o2, s2, w2, hs⟩
    have := w.len
    rw [← hR]
    exact ⟨rfl, zs, A2, o2, s2, w.trans (w2.mono g1 g2 (by omega)).1, outR_done (outR_swp g1 g2 ho w2) hs⟩
  clear hR
  -- what lies before the range is not more than what lies in it
  have low : ∀ (a1 b1 : Nat) (ys : List Int), a0 ≤ a1 → b1 ≤ b0 → Swp (tI 3).d a0 b0 xs ys → OutR (tI 3).d (fun x y : Int => x < y) a0 b0 a1 b1 ys → 0 < a1 → ∀ k, a1 ≤ k → k < b1 → ¬ (fun x y : Int => x < y) (ys.getD k (tI 3).d) (ys.getD (a1 - 1) (tI 3).d) := by
    intro a1 b1 ys g1 g2 w ho h1 k k1 k2
    by_cases he : a1 = a0
    · subst he
      rw [w.out (k := a1 - 1) (.inl (by omega))]
      exact w.all (P := fun x => ¬ (fun x y : Int => x < y) x (xs.getD (a1 - 1) (tI 3).d)) (hlow h1) k k1 (by omega)
    · exact ho (a1 - 1) k (by omega) (by omega) (by omega) (by omega)
  have b5 : ∀ (a1 b1 pv : Nat) (lim : Int) (h' : Hp) (nx : Int × Int × Int × Bool × Bool × Unit → Hp → Prop), ZInvOI () h0 p n cp a0 b0 xs F a1 b1 h' → a1 ≤ pv → pv < b1 → 0 ≤ lim → lim < 1000000 →
      (∀ (a2 b2 : Nat) (l2 : Int) (wb wp : Bool) (h2 : Hp), ZInvOI () h0 p n cp a0 b0 xs F a2 b2 h2 → b2 - a2 < b1 - a1 → 0 ≤ l2 → l2 < 1000000 → nx ((a2 : Int), (b2 : Int), l2, wb, wp, ()) h2) → slices_pdqsortOrdered_int_b5 p n cp a1 b1 lim ((b1 : Int) - a1) pv h' nx R := by
    rintro a1 b1 pv lim h' nx ⟨g1, g2, g3, ys, A1, o, s, w, ho2⟩ hv1 hv2 hl1 hl2 hnx
    have hl := o.len
    have hPy := w.allN hl0 hP
    rw [slices_pdqsortOrdered_int_b5_eq]
    refine (partitionOI  s o hPy rfl rfl rfl ⟨hv1, hv2⟩ (by omega) hn).mono fun v h2 ⟨m, bb, hv, m1, m2, zs, A2, o2, s2, w2, hp⟩ => ⟨_, _, hv, ⟨by omega, by omega⟩, ⟨by omega, by omega⟩, quo_intro (by omega) (by omega) (by omega) ?_⟩
    have w02 := w.trans (w2.mono g1 g3 (by omega)).1
    have ho3 := outR_swp g1 g3 ho2 w2
    have hPz := w02.allN hl0 hP
    have hlz := o2.len
    have hlow2 := low a1 b1 zs g1 g3 w02 ho3
    refine condP (fun hlt => ?_) (fun hlt => ⟨⟨by omega, by omega⟩, ?_⟩)
    · refine (ih (m - a1) (by omega) (a0 := a1) (b0 := m) (Nat.le_refl _) s2 o2 hPz rfl rfl m1 (by omega) ⟨hl1, hl2⟩ fun q k k1 k2 => hlow2 q k k1 (by omega)).mono fun v h3 ⟨hv, us, A3, o3, s3, w3, hs3⟩ => ⟨hv, ⟨by omega, by omega⟩, ?_⟩
      have hm : us.getD m (tI 3).d = zs.getD m (tI 3).d := w3.out (.inr (Nat.le_refl _))
      have hp3 : PartR (tI 3).d (fun x y : Int => x < y) a1 b1 m us := ⟨by rw [hm]; exact w3.all (P := fun x => (fun x y : Int => x < y) x (zs.getD m (tI 3).d)) hp.1, fun k k1 k2 => by rw [hm, w3.out (k := k) (.inr (by omega))]; exact hp.2 k k1 k2⟩
      have := hnx (m + 1) b1 lim (decide (((b1 : Int) - a1) / 8 ≤ (m : Int) - a1)) bb h3 ⟨by omega, by omega, g3, us, A3, o3, s3, w02.trans (w3.mono g1 (by omega) (by omega)).1, outR_left ordI g1 g3 m1 m2 (outR_swp g1 g3 ho3 (w3.mono (Nat.le_refl _) (by omega) (by omega)).1) hp3 hs3⟩ (by omega) hl1 hl2
      rwa [show ((m + 1 : Nat) : Int) = (m : Int) + 1 by push_cast; rfl] at this
    · refine (ih (b1 - (m + 1)) (by omega) (a0 := m + 1) (b0 := b1) (Nat.le_refl _) s2 o2 hPz (by push_cast; rfl) rfl (by omega) (by omega) ⟨hl1, hl2⟩ fun q k k1 k2 => hp.2 k (by omega) k2).mono fun v h3 ⟨hv, us, A3, o3, s3, w3, hs3⟩ => ⟨hv, ?_⟩
      have hm : us.getD m (tI 3).d = zs.getD m (tI 3).d := w3.out (.inl (by omega))
      have hp3 : PartR (tI 3).d (fun x y : Int => x < y) a1 b1 m us := ⟨fun k k1 k2 => by rw [hm, w3.out (k := k) (.inl (by omega))]; exact hp.1 k k1 k2, fun k k1 k2 => by rw [hm]; exact w3.all (P := fun x => ¬ (fun x y : Int => x < y) x (zs.getD m (tI 3).d)) (fun k k1 k2 => hp.2 k (by omega) k2) k (by omega) k2⟩
      exact hnx a1 m lim _ bb h3 ⟨g1, m1, by omega, us, A3, o3, s3, w02.trans (w3.mono (by omega) g3 (by omega)).1, outR_right ordI g1 g3 m1 m2 (outR_swp g1 g3 ho3 (w3.mono (by omega) (Nat.le_refl _) (by omega)).1) hp3 hs3⟩ (by omega) hl1 hl2
  have b4 : ∀ (a1 b1 pv : Nat) (lim : Int) (wb wp : Bool) (h' : Hp) (nx : Int × Int × Int × Bool × Bool × Unit → Hp → Prop), ZInvOI () h0 p n cp a0 b0 xs F a1 b1 h' → a1 ≤ pv → pv < b1 → 0 ≤ lim → lim < 1000000 →
      (∀ (a2 b2 : Nat) (l2 : Int) (wb wp : Bool) (h2 : Hp), ZInvOI () h0 p n cp a0 b0 xs F a2 b2 h2 → b2 - a2 < b1 - a1 → 0 ≤ l2 → l2 < 1000000 → nx ((a2 : Int), (b2 : Int), l2, wb, wp, ()) h2) → slices_pdqsortOrdered_int_b4 p n cp a1 b1 lim wb wp ((b1 : Int) - a1) pv h' nx R := by
    rintro a1 b1 pv lim wb wp h' nx ⟨g1, g2, g3, ys, A1, o, s, w, ho2⟩ hv1 hv2 hl1 hl2 hnx
    have hl := o.len
    rw [slices_pdqsortOrdered_int_b4_eq]
    refine condP (fun ha => ⟨⟨by omega, by omega⟩, ?_⟩) (fun _ => b5 a1 b1 pv lim _ _ ⟨g1, g2, g3, ys, A1, o, s, w, ho2⟩ hv1 hv2 hl1 hl2 hnx)
    have hlow2 := low a1 b1 ys g1 g3 w ho2 (by omega)
    have r := o.rd s
    have hPy := w.allN hl0 hP
    have hP := hPy
    refine ldOI (i' := a1 - 1) r (by omega) (by omega) (ldOI (i' := pv) r rfl (by omega) ?_)
    refine ⟨_, (Less_ok _ _ _).mono fun v9 h9 ⟨hh9, hv9⟩ => ⟨hv9, hh9⟩, ?_⟩
    refine condN (fun hc => ?_) (fun hc => b5 a1 b1 pv lim _ _ ⟨g1, g2, g3, ys, A1, o, s, w, ho2⟩ hv1 hv2 hl1 hl2 hnx)
    refine (partitionEqualOI  s o hPy rfl rfl rfl ⟨hv1, hv2⟩ (by omega) hn).mono fun v h2 ⟨m, hv, m1, m2, zs, A2, o2, s2, w2, hp⟩ => ⟨_, hv, ?_⟩
    exact hnx m b1 lim wb wp h2 ⟨by omega, m2, g3, zs, A2, o2, s2, w.trans (w2.mono g1 g3 (by omega)).1, outR_equal ordI g1 g3 (by omega) m2 (outR_swp g1 g3 ho2 w2) hp.2 (w2.all (P := fun x => ¬ (fun x y : Int => x < y) x (ys.getD pv (tI 3).d)) fun k k1 k2 => ordI.trans _ _ _ hc (hlow2 k k1 k2))⟩ (by omega) hl1 hl2
  have b3 : ∀ (a1 b1 pv : Nat) (hint lim : Int) (wb wp : Bool) (h' : Hp) (nx : Int × Int × Int × Bool × Bool × Unit → Hp → Prop), ZInvOI () h0 p n cp a0 b0 xs F a1 b1 h' → a1 ≤ pv → pv < b1 → 0 ≤ lim → lim < 1000000 →
      (∀ (a2 b2 : Nat) (l2 : Int) (wb wp : Bool) (h2 : Hp), ZInvOI () h0 p n cp a0 b0 xs F a2 b2 h2 → b2 - a2 < b1 - a1 → 0 ≤ l2 → l2 < 1000000 → nx ((a2 : Int), (b2 : Int), l2, wb, wp, ()) h2) → slices_pdqsortOrdered_int_b3 p n cp a1 b1 lim wb wp ((b1 : Int) - a1) pv hint h' nx R := by
    rintro a1 b1 pv hint lim wb wp h' nx hI hv1 hv2 hl1 hl2 hnx
    have go := fun h2 (hI : ZInvOI () h0 p n cp a0 b0 xs F a1 b1 h2) => b4 a1 b1 pv lim wb wp h2 nx hI hv1 hv2 hl1 hl2 hnx
    rw [slices_pdqsortOrdered_int_b3_eq]
    refine cond_intro (fun _ => cond_intro (fun _ => condP (fun _ => ?_) fun _ => go _ hI) fun _ => go _ hI) fun _ => go _ hI
    obtain ⟨g1, g2, g3, ys, A1, o, s, w, ho2⟩ := hI
    have hl := o.len
    refine (partialInsertionSortOI  s o (w.allN hl0 hP) rfl rfl (by omega) (by omega) hn (low a1 b1 ys g1 g3 w ho2)).mono fun v h2 ⟨bb, hv, zs, A2, o2, s2, w2, hp⟩ => ⟨_, hv, cond_intro (fun hb => ?_) (fun hb => ?_)⟩
    · exact fin a1 b1 h2 ys g1 g3 w ho2 ⟨zs, A2, o2, s2, w2, hp hb⟩
    · exact go _ ⟨g1, g2, g3, zs, A2, o2, s2, w.trans (w2.mono g1 g3 (by omega)).1, outR_swp g1 g3 ho2 w2⟩
  have b2 : ∀ (a1 b1 : Nat) (lim : Int) (wb wp : Bool) (h' : Hp) (nx : Int × Int × Int × Bool × Bool × Unit → Hp → Prop), ZInvOI () h0 p n cp a0 b0 xs F a1 b1 h' → a1 < b1 → 0 ≤ lim → lim < 1000000 →
      (∀ (a2 b2 : Nat) (l2 : Int) (wb wp : Bool) (h2 : Hp), ZInvOI () h0 p n cp a0 b0 xs F a2 b2 h2 → b2 - a2 < b1 - a1 → 0 ≤ l2 → l2 < 1000000 → nx ((a2 : Int), (b2 : Int), l2, wb, wp, ()) h2) → slices_pdqsortOrdered_int_b2 p n cp a1 b1 lim wb wp ((b1 : Int) - a1) h' nx R := by
    rintro a1 b1 lim wb wp h' nx ⟨g1, g2, g3, ys, A1, o, s, w, ho2⟩ hlt hl1 hl2 hnx
    have hl := o.len
    rw [slices_pdqsortOrdered_int_b2_eq]
    refine (choosePivotOI  s o (w.allN hl0 hP) rfl rfl hlt (by omega) hn).mono fun v h2 ⟨u, hint, hv, u1, u2, s⟩ => ⟨_, _, hv, condP (fun _ => ?_) (fun _ => ?_)⟩
    · refine (reverseRangeOI s o rfl rfl (by omega) (by omega) hn).mono fun v h2 ⟨hv, zs, A2, o2, s2, w2, _⟩ => ⟨hv, ⟨by omega, by omega⟩, ⟨by omega, by omega⟩, ⟨by omega, by omega⟩, ?_⟩
      have := b3 a1 b1 ((b1 : Int) - 1 - (u - a1)).toNat 1 lim wb wp h2 nx ⟨g1, g2, g3, zs, A2, o2, s2, w.trans (w2.mono g1 g3 (by omega)).1, outR_swp g1 g3 ho2 w2⟩ (by omega) (by omega) hl1 hl2 hnx
      rwa [Int.toNat_of_nonneg (by omega)] at this
    · have := b3 a1 b1 u.toNat hint lim wb wp h2 nx ⟨g1, g2, g3, ys, A1, o, s, w, ho2⟩ (by omega) (by omega) hl1 hl2 hnx
      rwa [Int.toNat_of_nonneg (by omega)] at this
  rw [slices_pdqsortOrdered_int_b0_eq]
  refine ⟨fun st h1 => ∃ (a1 b1 : Nat), st.1 = (a1 : Int) ∧ st.2.1 = (b1 : Int) ∧ 0 ≤ st.2.2.1 ∧ st.2.2.1 < 1000000 ∧ ZInvOI () h0 p n cp a0 b0 xs F a1 b1 h1, fun st _ => (st.2.1 - st.1).toNat, ⟨a0, b0, rfl, rfl, hlim.1, hlim.2, Nat.le_refl _, hab, Nat.le_refl _, xs, A, o, s, .refl _, outR_start⟩, ?_⟩
  rintro ⟨_, _, lim, wb, wp, _⟩ h1 ⟨a1, b1, rfl, rfl, hl1, hl2, hI⟩
  dsimp only at hl1 hl2 ⊢
  have go := fun (l2 : Int) (h2 : Hp) (hI : ZInvOI () h0 p n cp a0 b0 xs F a1 b1 h2) (hlt : a1 < b1) (q1 : 0 ≤ l2) (q2 : l2 < 1000000) => b2 a1 b1 l2 wb wp h2 (fun s' h' => (∃ (a1 b1 : Nat), s'.1 = (a1 : Int) ∧ s'.2.1 = (b1 : Int) ∧ 0 ≤ s'.2.2.1 ∧ s'.2.2.1 < 1000000 ∧ ZInvOI () h0 p n cp a0 b0 xs F a1 b1 h') ∧ (s'.2.1 - s'.1).toNat < ((b1 : Int) - a1).toNat) hI hlt q1 q2 fun a2 b2 l2 wb wp h2 hI2 hm k1 k2 => ⟨⟨a2, b2, rfl, rfl, k1, k2, hI2⟩, by have := hI2.2.1; dsimp only; omega⟩
  have hI' := hI
  obtain ⟨g1, g2, g3, ys, A1, o, s, w, ho2⟩ := hI
  have hl := o.len
  rw [slices_pdqsortOrdered_int_b1_eq]
  refine ⟨⟨by omega, by omega⟩, condP (fun h12 => ?_) (fun h12 => condP (fun hz => ?_) (fun hz => cond_intro (fun _ => ?_) (fun _ => ?_)))⟩
  · exact (insertionSortOI  s o (w.allN hl0 hP) rfl rfl (by omega) (by omega) hn).mono fun v h2 ⟨hv, hO⟩ => ⟨hv, fin a1 b1 h2 ys g1 g3 w ho2 hO⟩
  · exact (heapSortOI  s o (w.allN hl0 hP) rfl rfl (by omega) (by omega) hn).mono fun v h2 ⟨hv, hO⟩ => ⟨hv, fin a1 b1 h2 ys g1 g3 w ho2 hO⟩
  · refine (breakPatternsOI s o rfl rfl (by omega) (by omega) hn).mono fun v h2 ⟨hv, zs, A2, o2, s2, w2, _⟩ => ⟨hv, ⟨by omega, by omega⟩, ?_⟩
    exact go (lim - 1) h2 ⟨g1, g2, g3, zs, A2, o2, s2, w.trans (w2.mono g1 g3 (by omega)).1, outR_swp g1 g3 ho2 w2⟩ (by omega) (by omega) (by omega)
  · exact go lim h1 hI' (by omega) hl1 hl2
/-- The whole slice. -/
theorem sortOI {h0 h : Hp} {p : Option Addr} {n cp : Nat} {xs : List Int} {A F : Bag} {P : Int → Prop} (s : St h0 h (A + F)) (o : Sl (tI 3) p n cp xs A) (hP : ∀ k, k < n → P (xs.getD k (tI 3).d)) (hn : n < 1000000) :
    HCalls Tryz.prog 45 #[.slice p n cp] h (fun v h' => v = .tuple #[] ∧ ∃ ys A', Sl (tI 3) p n cp ys A' ∧ St h0 h' (A' + F) ∧ ys.Perm xs ∧ ys.Pairwise (fun x y => ¬ (fun x y : Int => x < y) y x)) := by
  refine slices_Sort_Sint_int_call ?_
  rw [slices_Sort_Sint_int_b0_eq, wrap_u64_in _ (by omega) (by omega)]
  refine (bitsLen_ok n (by omega) h).mono fun v h1 ⟨hv, hh⟩ => ⟨_, hv, ?_⟩
  subst hh
  have hl : blen n ≤ 20 := blen_le (by omega)
  refine (pdqOI  hn n (a0 := 0) (b0 := n) (by omega) s o hP rfl rfl (by omega) (Nat.le_refl _) ⟨by omega, by omega⟩ (fun h => by omega)).mono fun v h2 ⟨hv, ys, A', o2, s2, w, hs⟩ => ⟨hv, rfl, ys, A', o2, s2, w.perm, srtR_pairwise o2.len hs⟩
end Go.Proofs.YtfkccighnkepgaaGreat

/- The table in memory; new tables; one record more, one less. -/
set_option maxRecDepth 100000
namespace Go.Proofs.YtfkccighnkepgaaGreat
open Go Go.Sx
/-- The library's own variable holds a number. -/
def MaxL (h : Hp) : Prop := ∃ m, cell h ⟨0, 0, none⟩ = some (.int .i64 m)
theorem Contains_ok {s sub : ByteArray} {h : Hp} (hm : MaxL h) (hs : s.size < 4294967281) : HCalls Tryz.prog 47 #[.string s, .string sub] h (fun v h' => h' = h ∧ v = .bool (Lib.contains s.data.toList sub.data.toList)) := by
  intro w hw
  obtain ⟨m, hm⟩ := hm
  have hm' : w.cell? ⟨0, 0, none⟩ = some (.int .i64 m) := by subst hw; exact hm
  refine (Tryz.strings_Contains s sub m w hs hm').mono fun e w' ⟨he, hw'⟩ => ?_
  subst hw'
  exact ⟨_, he, Same.refl _, hw, rfl⟩
theorem MaxL.ext {h h' : Hp} (m : MaxL h) (x : Ext h h') : MaxL h' := let ⟨z, hz⟩ := m; ⟨z, x.cell hz⟩
/-! ### maps -/
abbrev MR : MTy Int Nat := ⟨fun k => .int .i64 k, fun b => ptr b, .pointer none⟩
abbrev MK : MTy Int Int := ⟨fun k => .int .i64 k, fun b => .int .i64 b, .int .i64 0⟩
abbrev MG : MTy Int Bool := ⟨fun k => .int .i64 k, fun b => .bool b, .bool false⟩
theorem mapOk_r : MapOk MR Tryz.prog 78 := mapOk_int (kt := 3) (et := 75) (fun _ => rfl) (by kernel_rfl) (by kernel_rfl) (by kernel_rfl)
theorem mapOk_k : MapOk MK Tryz.prog 79 := mapOk_int (kt := 3) (et := 3) (fun _ => rfl) (by kernel_rfl) (by kernel_rfl) (by kernel_rfl)
theorem mapOk_g : MapOk MG Tryz.prog 80 := mapOk_int (kt := 3) (et := 4) (fun _ => rfl) (by kernel_rfl) (by kernel_rfl) (by kernel_rfl)
/-! ### records -/
abbrev Row := Int × Nat × Rec
abbrev recC (r : Rec) : List Value := [.int .i64 r.1, .int .i64 r.2.1, .int .i64 r.2.2.1, .int .i64 r.2.2.2.1, .string r.2.2.2.2]
def recB : List Row → Bag
  | [] => 0
  | e :: l => cA e.2.1 (recC e.2.2) 49 + recB l
theorem recB_app (l m : List Row) : recB (l ++ m) = recB l + recB m := by
  induction l with
  | nil => show recB m = 0 + recB m; rw [Bag.zero_add]
  | cons e l ih => show cA _ _ _ + recB (l ++ m) = cA _ _ _ + recB l + recB m; rw [ih]; ac_rfl
theorem recB_perm {l m : List Row} (h : l.Perm m) : recB l = recB m := by
  induction h with
  | nil => rfl
  | cons e _ ih => show cA _ _ _ + _ = cA _ _ _ + _; rw [ih]
  | swap a b l => show cA _ _ _ + (cA _ _ _ + _) = cA _ _ _ + (cA _ _ _ + _); ac_rfl
  | trans _ _ h1 h2 => rw [h1, h2]
theorem recB_mem {l : List Row} {e : Row} (h : e ∈ l) : ∃ B, recB l = cA e.2.1 (recC e.2.2) 49 + B := by
  obtain ⟨a, b, rfl⟩ := List.append_of_mem h
  exact ⟨recB a + recB b, by rw [recB_app]; show recB a + (cA _ _ _ + recB b) = _; ac_rfl⟩
def rKey (e : Row) : Int := e.2.2.1
/-- The blocks of a table, with its two indexes and its changes. -/
def TabA (tb : Nat) (rs : List Row) (ks : List (Int × Int)) (next : Int) (bk bp ad : List Int) (gs : List (Int × Bool)) (A : Bag) : Prop :=
  ∃ (mr mk mg : Nat) (k p a : SH) (A1 A2 A3 A4 A5 A6 : Bag), A = cA tb [.map (some mr), .map (some mk), .int .i64 next, .slice k.1 k.2.1 k.2.2, .slice p.1 p.2.1 p.2.2, .slice a.1 a.2.1 a.2.2, .map (some mg)] 84 + (A1 + (A2 + (A3 + (A4 + (A5 + (A6 + recB rs)))))) ∧
    MapA MR mr (rs.map fun e => (e.1, e.2.1)) A1 ∧ MapA MK mk ks A2 ∧ MapA MG mg gs A3 ∧ Sl TI k.1 k.2.1 k.2.2 bk A4 ∧ Sl TI p.1 p.2.1 p.2.2 bp A5 ∧ Sl TI a.1 a.2.1 a.2.2 ad A6
theorem New_ok (h : Hp) : HCalls Tryz.prog 24 #[] h (fun v h' => ∃ tb A, v = ptr tb ∧ TabA tb [] [] 0 [] [] [] [] A ∧ St h h' A) := by
  refine table_New_call ?_
  rw [table_New_b0_eq]
  refine (St.start h).newMap MR fun mr h1 A1 _ a1 s => s.newMap MK fun mk h2 A2 _ a2 s => s.newMap MG fun mg h3 A3 _ a3 s => s.new (cs := [_, _, _, _, _, _, _]) fun tb h4 _ s => ?_
  refine ⟨tb, _, rfl, ⟨mr, mk, mg, (none, 0, 0), (none, 0, 0), (none, 0, 0), A1, A2, A3, 0, 0, 0, rfl, a1, a2, a3, Sl.nil, Sl.nil, Sl.nil⟩, ?_⟩
  simp only [recB, Bag.add_zero] at s ⊢
  exact s.to
end Go.Proofs.YtfkccighnkepgaaGreat

/- slices.Clone, Insert of one element, Delete of one element. -/
set_option maxRecDepth 100000
namespace Go.Proofs.YtfkccighnkepgaaGreat
open Go Go.Sx
theorem deleteI_st {h0 h : Hp} {p : Option Addr} {n c i : Nat} {j : Int} {xs : List Int} {A F : Bag} (s : St h0 h (A + F)) (a : Sl (TI) p n c xs A) (hi : i < n) (hj : j = (i : Int) + 1) (hn : n < 1000000) :
    HCalls Tryz.prog 71 #[.slice p n c, .int .i64 (i : Int), .int .i64 j] h (fun v h' => ∃ A', v = .slice p (n - 1) c ∧ Sl (TI) p (n - 1) c (xs.take i ++ xs.drop (i + 1)) A' ∧ St h0 h' (A' + F)) := by
  obtain rfl : j = ((i + 1 : Nat) : Int) := by omega
  have hcap := a.cap
  have hlen := a.len
  have rd := a.rd s
  refine slices_Delete_Sint_int_call ?_
  rw [slices_Delete_Sint_int_b0_eq]
  refine slC_st (ok_int).el (by omega) (by omega) hcap fun _ => condP (fun h1 => by omega) (fun _ => ?_)
  have e1 : Int.toNat (i : Int) = i := Int.toNat_natCast i
  have e2 : Int.toNat ((i + 1 : Nat) : Int) = i + 1 := Int.toNat_natCast _
  have e3 : Int.toNat (n : Int) = n := Int.toNat_natCast _
  have e0 : Int.toNat (0 : Int) = 0 := rfl
  refine ⟨⟨by omega, by omega, by omega⟩, ⟨by omega, by omega, by omega⟩, ?_⟩
  rw [e0, e1, e2, e3, subAddr_z, Nat.sub_zero, Nat.sub_zero]
  rcases a with ⟨hl, ⟨rfl, h3, _, _⟩ | ⟨b, rest, rfl, hc, hr, rfl⟩⟩
  · omega
  have hti : ((TI).cells (xs.take i)).length = i * (TI).sz := by rw [(TI).cells_len, List.length_take]; congr 1; omega
  have hdl : ((TI).cells (xs.drop i)).length = (n - i) * (TI).sz := by rw [(TI).cells_len, List.length_drop, hl]
  have hd1l : ((TI).cells (xs.drop (i + 1))).length = (n - (i + 1)) * (TI).sz := by rw [(TI).cells_len, List.length_drop, hl]
  have s1 : St h0 h (cA b ((TI).cells (xs.take i) ++ ((TI).cells (xs.drop i)).take ((n - (i + 1)) * (TI).sz) ++ (((TI).cells (xs.drop i)).drop ((n - (i + 1)) * (TI).sz) ++ rest)) (TI).e + F) := by
    have e : (TI).cells (xs.take i) ++ ((TI).cells (xs.drop i)).take ((n - (i + 1)) * (TI).sz) ++ (((TI).cells (xs.drop i)).drop ((n - (i + 1)) * (TI).sz) ++ rest) = (TI).cells xs ++ rest := by
      rw [List.append_assoc, ← List.append_assoc _ _ rest, List.take_append_drop, ← List.append_assoc, ← (TI).cells_append, List.take_append_drop]
    rw [e]; exact s
  have hle : (n - (i + 1)) * (TI).sz ≤ (n - i) * (TI).sz := Nat.mul_le_mul_right _ (by omega)
  refine append_fit_st ok_int s1 hti (by rw [List.length_take, hdl]; omega) (rd.sub (by omega) hcap rfl) (by omega) fun h' s2 => ?_
  refine ⟨⟨by omega, by omega, by omega⟩, ?_⟩
  have e4 : Int.toNat ((i + (n - (i + 1)) : Nat) : Int) = n - 1 := by omega
  have e5 : i + (n - (i + 1)) = n - 1 := by omega
  rw [e4, show subAddr (some ⟨b, 0, none⟩) c (n - 1) 1 = some ⟨b, (n - 1) * (TI).sz, none⟩ by rw [show subAddr (some ⟨b, 0, none⟩) c (n - 1) 1 = subAddr (some ⟨b, 0, none⟩) c (n - 1) (TI).sz from rfl, subAddr_in' (by omega), Nat.zero_add]]
  rw [← (TI).cells_append, ← List.append_assoc] at s2
  have hl1 : (xs.take i ++ xs.drop (i + 1)).length = n - 1 := by rw [List.length_append, List.length_take, List.length_drop]; omega
  have hn1 : n - (n - 1) = 1 := by omega
  refine clear_st ok_int s2 (by rw [(TI).cells_len, hl1]) (by
    rw [List.length_drop, hdl, ← Nat.sub_mul]; congr 1; omega) fun h2 zs hzl s3 => ?_
  rw [e5]
  refine ⟨_, rfl, ⟨hl1, .inr ⟨b, zs ++ rest, rfl, by omega, ?_, rfl⟩⟩, ?_⟩
  · rw [List.length_append, hzl, hr, ← Nat.add_mul]; congr 1; omega
  · rw [← List.append_assoc]; exact s3
end Go.Proofs.YtfkccighnkepgaaGreat

/- The table: one record more, one less. -/
set_option maxRecDepth 100000
namespace Go.Proofs.YtfkccighnkepgaaGreat
open Go Go.Sx
theorem add_two (b i j : Nat) : ((⟨b, 0, none⟩ : Addr).add i).add j = (⟨b, 0, none⟩ : Addr).add (i + j) := by rw [add_mk, add_mk, add_mk]; congr 1; omega
theorem ldC {h0 h : Hp} {B C : Bag} {b i j : Nat} {cs : List Value} {e : TypeId} {v : Value} (s : St h0 h B) [x : Bag.Has b B cs e C] (hv : cs[i + j]? = some v := by with_unfolding_all exact rfl) : Sx.cell h (((⟨b, 0, none⟩ : Addr).add i).add j) = some v := by
  rw [add_two]; exact s.ldB hv
theorem TabA.out {h0 h : Hp} {tb : Nat} {rs : List Row} {ks : List (Int × Int)} {next : Int} {bk bp ad : List Int} {gs : List (Int × Bool)} {A F : Bag} (a : TabA tb rs ks next bk bp ad gs A) (s : St h0 h (A + F)) :
    ∃ (mr mk mg : Nat) (k p a : SH) (A1 A2 A3 A4 A5 A6 : Bag), MapA MR mr (rs.map fun e => (e.1, e.2.1)) A1 ∧ MapA MK mk ks A2 ∧ MapA MG mg gs A3 ∧ Sl TI k.1 k.2.1 k.2.2 bk A4 ∧ Sl TI p.1 p.2.1 p.2.2 bp A5 ∧ Sl TI a.1 a.2.1 a.2.2 ad A6 ∧
      St h0 h (cA tb [.map (some mr), .map (some mk), .int .i64 next, .slice k.1 k.2.1 k.2.2, .slice p.1 p.2.1 p.2.2, .slice a.1 a.2.1 a.2.2, .map (some mg)] 84 + (A1 + (A2 + (A3 + (A4 + (A5 + (A6 + (recB rs + F)))))))) := by
  obtain ⟨mr, mk, mg, k, p, a, A1, A2, A3, A4, A5, A6, rfl, a1, a2, a3, a4, a5, a6⟩ := a
  exact ⟨mr, mk, mg, k, p, a, A1, A2, A3, A4, A5, A6, a1, a2, a3, a4, a5, a6, s.to⟩
theorem TabA.into {h0 h : Hp} {tb mr mk mg : Nat} {k p a : SH} {rs : List Row} {ks : List (Int × Int)} {next : Int} {bk bp ad : List Int} {gs : List (Int × Bool)} {A1 A2 A3 A4 A5 A6 F : Bag} (a1 : MapA MR mr (rs.map fun e => (e.1, e.2.1)) A1) (a2 : MapA MK mk ks A2) (a3 : MapA MG mg gs A3) (a4 : Sl TI k.1 k.2.1 k.2.2 bk A4) (a5 : Sl TI p.1 p.2.1 p.2.2 bp A5) (a6 : Sl TI a.1 a.2.1 a.2.2 ad A6)
    (s : St h0 h (cA tb [.map (some mr), .map (some mk), .int .i64 next, .slice k.1 k.2.1 k.2.2, .slice p.1 p.2.1 p.2.2, .slice a.1 a.2.1 a.2.2, .map (some mg)] 84 + (A1 + (A2 + (A3 + (A4 + (A5 + (A6 + (recB rs + F))))))))) : ∃ A, TabA tb rs ks next bk bp ad gs A ∧ St h0 h (A + F) :=
  ⟨_, ⟨mr, mk, mg, k, p, a, A1, A2, A3, A4, A5, A6, rfl, a1, a2, a3, a4, a5, a6⟩, s.to⟩
section
variable {h0 h : Hp} {tb : Nat} {rs : List Row} {ks : List (Int × Int)} {next : Int} {bk bp ad : List Int} {gs : List (Int × Bool)} {A F : Bag}
theorem put_ok (a : TabA tb rs ks next bk bp ad gs A) (s : St h0 h (A + F)) (id : Int) (r : Rec) (hid : id ∉ rs.map Prod.fst) (hk : r.1 ∉ ks.map Prod.fst) (hn : ad.length < 1000000) :
    HCalls Tryz.prog 53 #[ptr tb, .int .i64 id, encR r] h (fun v h' => v = .tuple #[] ∧ ∃ b A', TabA tb (rs ++ [(id, b, r)]) (ks ++ [(r.1, id)]) next bk bp (ad ++ [id]) gs A' ∧ St h0 h' (A' + F)) := by
  obtain ⟨mr, mk, mg, k, p, ⟨aq, am, ac⟩, A1, A2, A3, A4, A5, A6, a1, a2, a3, a4, a5, a6, s⟩ := a.out s
  have hal := a6.len
  refine table_Table_put_call ?_
  rw [table_Table_put_b0_eq]
  refine s.new (cs := [_, _, _, _, _]) fun b h1 _ s => ⟨_, s.ld0, ?_⟩
  refine a1.set (v := b) mapOk_r (s.at A1) rfl fun h2 A1' a1 s => ⟨_, s.ldB, _, s.ld0, ?_⟩
  refine a2.set (v := id) mapOk_k (s.at A2) rfl fun h3 A2' a2 s => ⟨_, _, _, s.ldB, ?_⟩
  rw [setk_new (lkp_none.2 (by rw [List.map_map]; exact hid))] at a1
  rw [setk_new (lkp_none.2 hk)] at a2
  refine push_sl (cs := [_]) ok_int (s.at A6) a6 (x := id) rfl rfl (by omega) fun p' c' h6 A6' a6 s => ?_
  refine s.wrB fun h7 s => ⟨rfl, b, ?_⟩
  have s : St h0 h7 (cA tb [.map (some mr), .map (some mk), .int .i64 next, .slice k.1 k.2.1 k.2.2, .slice p.1 p.2.1 p.2.2, .slice p' (am + 1) c', .map (some mg)] 84 + (cA b (recC r) 49 + _)) := s.find2 tb b
  have a1 : MapA MR mr ((rs ++ [(id, b, r)]).map fun e => (e.1, e.2.1)) A1' := by rw [List.map_append]; exact a1
  refine TabA.into (k := k) (p := p) (a := (p', am + 1, c')) a1 a2 a3 a4 a5 a6 ?_
  rw [recB_app]
  show St h0 h7 (_ + (A1' + (A2' + (A3 + (A4 + (A5 + (A6' + ((recB rs + (cA b (recC r) 49 + 0)) + F))))))))
  rw [Bag.add_zero]
  exact s.to
theorem Index_ok {h : Hp} {p : Option Addr} {n c : Nat} {l : List Int} (r : RdT TI h p n l) (hn : n < 1000000) (x : Int) :
    HCalls Tryz.prog 70 #[.slice p n c, .int .i64 x] h (fun v h' => h' = h ∧ ∃ i : Int, v = .int .i64 i ∧ ((x ∉ l ∧ i = -1) ∨ ∃ j : Nat, i = j ∧ j < l.length ∧ l.getD j 0 = x ∧ x ∉ l.take j)) := by
  have hll := r.len
  refine slices_Index_Sint_int_call ?_
  rw [slices_Index_Sint_int_b0_eq]
  refine ⟨fun q h' => h' = h ∧ ∃ i : Nat, q.1 = i ∧ i ≤ n ∧ x ∉ l.take i, fun q _ => (n - q.1).toNat, ⟨rfl, 0, rfl, Nat.zero_le _, by simp⟩, ?_⟩
  rintro ⟨_, _⟩ h3 ⟨rfl, i, rfl, hi, hno⟩
  dsimp only
  rw [slices_Index_Sint_int_b1_eq]
  refine condP (fun hlt => ?_) (fun hge => ?_)
  · refine ldI (i' := i) r rfl (by omega) (condP (fun he => ⟨rfl, _, rfl, .inr ⟨i, rfl, by omega, he.symm, hno⟩⟩) (fun hne => ?_))
    rw [slices_Index_Sint_int_b2_eq]
    refine ⟨⟨by omega, by omega⟩, ⟨rfl, i + 1, by push_cast; rfl, by omega, ?_⟩, by dsimp only; omega⟩
    have hil : i < l.length := by omega
    rw [List.take_succ_eq_append_getElem hil, List.mem_append, List.mem_singleton, ← getD_get (d := 0) hil]
    exact fun h => h.elim hno hne
  · obtain rfl : i = n := by omega
    rw [List.take_of_length_le (by omega)] at hno
    rw [slices_Index_Sint_int_b3_eq]
    exact ⟨rfl, _, rfl, .inl ⟨hno, rfl⟩⟩
theorem pull_row : ∀ {rs : List Row} {e : Row}, (rs.map Prod.fst).Nodup → e ∈ rs → rs.Perm (e :: rs.filter fun x => decide (x.1 ≠ e.1))
  | a :: l, e, hd, he => by
    rw [List.map_cons, List.nodup_cons] at hd
    rcases List.mem_cons.1 he with rfl | he
    · have hf : (e :: l).filter (fun x => decide (x.1 ≠ e.1)) = l := by
        rw [List.filter_cons, if_neg (by simp)]
        exact List.filter_eq_self.2 fun x hx => decide_eq_true fun hc => hd.1 (List.mem_map.2 ⟨x, hx, hc⟩)
      rw [hf]
    · have hne : a.1 ≠ e.1 := fun hc => hd.1 (by rw [hc]; exact List.mem_map.2 ⟨e, he, rfl⟩)
      rw [List.filter_cons, if_pos (decide_eq_true hne)]
      exact (List.Perm.cons a (pull_row hd.2 he)).trans (List.Perm.swap _ _ _)
theorem filter_at {l : List Int} {j : Nat} (hn : l.Nodup) (hj : j < l.length) : l.take j ++ l.drop (j + 1) = l.filter fun x => decide (x ≠ l.getD j 0) := by
  have e : l = l.take j ++ l.getD j 0 :: l.drop (j + 1) := by rw [getD_get hj, ← List.drop_eq_getElem_cons hj, List.take_append_drop]
  generalize l.getD j 0 = z at e
  have hn' := hn
  rw [e, List.nodup_append, List.nodup_cons] at hn'
  have h1 : (l.take j).filter (fun x => decide (x ≠ z)) = l.take j := List.filter_eq_self.2 fun x hx => decide_eq_true fun hc => hn'.2.2 x hx z List.mem_cons_self hc
  have h2 : (l.drop (j + 1)).filter (fun x => decide (x ≠ z)) = l.drop (j + 1) := List.filter_eq_self.2 fun x hx => decide_eq_true fun hc => hn'.2.1.1 (hc ▸ hx)
  conv => rhs; rw [e]
  rw [List.filter_append, List.filter_cons, if_neg (by simp), h1, h2]
theorem drop_ok (a : TabA tb rs ks next bk bp ad gs A) (s : St h0 h (A + F)) {e : Row} (he : e ∈ rs) (hd : (rs.map Prod.fst).Nodup) (hn : ad.length < 1000000) (hnd : ad.Nodup) :
    HCalls Tryz.prog 52 #[ptr tb, .int .i64 e.1] h (fun v h' => v = .tuple #[] ∧ ∃ A', TabA tb (rs.filter fun x => decide (x.1 ≠ e.1)) (delk ks (rKey e)) next bk bp (if e.1 ∈ ad then ad.filter fun x => decide (x ≠ e.1) else ad) (if e.1 ∈ ad then gs else setk gs e.1 true) A' ∧ St h0 h' (A' + F)) := by
  obtain ⟨mr, mk, mg, k, p, ⟨aq, am, ac⟩, A1, A2, A3, A4, A5, A6, a1, a2, a3, a4, a5, a6, s⟩ := a.out s
  have hal := a6.len
  have hpl := pull_row hd he
  have hKD : KD (rs.map fun e => (e.1, e.2.1)) := by unfold KD; rw [List.map_map]; exact hd
  have hlk : lkp (rs.map fun e => (e.1, e.2.1)) e.1 = some e.2.1 := (lkp_some hKD).2 (List.mem_map.2 ⟨e, he, rfl⟩)
  have hdk : delk (rs.map fun e => (e.1, e.2.1)) e.1 = (rs.filter fun x => decide (x.1 ≠ e.1)).map fun e => (e.1, e.2.1) := by
    rw [delk_eq hKD, List.filter_map]; rfl
  have hrc : recB (e :: rs.filter fun x => decide (x.1 ≠ e.1)) = cA e.2.1 (recC e.2.2) 49 + recB (rs.filter fun x => decide (x.1 ≠ e.1)) := rfl
  rw [recB_perm hpl, hrc] at s
  dsimp only at s a6 hal
  have s : St h0 h (cA tb [.map (some mr), .map (some mk), .int .i64 next, .slice k.1 k.2.1 k.2.2, .slice p.1 p.2.1 p.2.2, .slice aq am ac, .map (some mg)] 84 + (cA e.2.1 [.int .i64 e.2.2.1, .int .i64 e.2.2.2.1, .int .i64 e.2.2.2.2.1, .int .i64 e.2.2.2.2.2.1, .string e.2.2.2.2.2.2] 49 + (A1 + (A2 + (A3 + (A4 + (A5 + (A6 + (recB (rs.filter fun x => decide (x.1 ≠ e.1)) + F))))))))) := s.to (B := cA tb [.map (some mr), .map (some mk), .int .i64 next, .slice k.1 k.2.1 k.2.2, .slice p.1 p.2.1 p.2.2, .slice aq am ac, .map (some mg)] 84 + (cA e.2.1 (recC e.2.2) 49 + (A1 + (A2 + (A3 + (A4 + (A5 + (A6 + (recB (rs.filter fun x => decide (x.1 ≠ e.1)) + F)))))))))
  refine table_Table_drop_call ?_
  rw [table_Table_drop_b0_eq]
  refine ⟨_, s.ldB, _, s.ld0, a1.look mapOk_r (s.at A1) fun v b hv => ?_⟩
  rcases hv with ⟨hv, _⟩ | ⟨x, hx, rfl, _⟩
  · rw [hlk] at hv; cases hv
  rw [hlk] at hx
  cases hx
  refine ⟨some ⟨e.2.1, 0, none⟩, rfl, ⟨_, s.ldB, rfl⟩, _, s.ld0, ?_⟩
  refine a2.del mapOk_k (s.at A2) fun h1 A2' a2 s => ⟨_, s.ld0, a1.del mapOk_r (s.at A1) fun h2 A1' a1 s => ⟨_, _, _, s.ldB, ?_⟩⟩
  rw [hdk] at a1
  refine (Index_ok (a6.rd (s.at A6)) (by omega) e.1).mono fun v h3 ⟨hh, i, hv, hi⟩ => ⟨i, hv, ?_⟩
  subst hh
  rcases hi with ⟨hni, rfl⟩ | ⟨j, rfl, hj, hx, _⟩
  · rw [if_neg hni, if_neg hni]
    refine condNo rfl ⟨_, ldC s, a3.set (v := true) mapOk_g (s.at A3) rfl fun h4 A3' a3 s => ⟨rfl, ?_⟩⟩
    have s : St h0 h4 (cA tb [.map (some mr), .map (some mk), .int .i64 next, .slice k.1 k.2.1 k.2.2, .slice p.1 p.2.1 p.2.2, .slice aq am ac, .map (some mg)] 84 + (cA e.2.1 [.int .i64 e.2.2.1, .int .i64 e.2.2.2.1, .int .i64 e.2.2.2.2.1, .int .i64 e.2.2.2.2.2.1, .string e.2.2.2.2.2.2] 49 + _)) := s.find2 tb e.2.1
    exact TabA.into (k := k) (p := p) (a := (aq, am, ac)) a1 a2 a3 a4 a5 a6 ((s.find e.2.1).drop.to)
  · have hmem : e.1 ∈ ad := by rw [← hx, getD_get hj]; exact List.getElem_mem _
    rw [if_pos hmem, if_pos hmem]
    refine condYes (decide_eq_true (by omega)) ⟨_, _, _, s.ldB, ⟨by omega, by omega⟩, ?_⟩
    refine (deleteI_st (i := j) (s.at A6) a6 (by omega) rfl (by omega)).mono fun v h4 ⟨A6', hv, a6, s⟩ => ⟨_, _, _, hv, s.wrB fun h5 s => ⟨rfl, ?_⟩⟩
    rw [filter_at hnd hj, hx] at a6
    have s : St h0 h5 (cA tb [.map (some mr), .map (some mk), .int .i64 next, .slice k.1 k.2.1 k.2.2, .slice p.1 p.2.1 p.2.2, .slice aq (am - 1) ac, .map (some mg)] 84 + (cA e.2.1 [.int .i64 e.2.2.1, .int .i64 e.2.2.2.1, .int .i64 e.2.2.2.2.1, .int .i64 e.2.2.2.2.2.1, .string e.2.2.2.2.2.2] 49 + _)) := s.find2 tb e.2.1
    exact TabA.into (k := k) (p := p) (a := (aq, am - 1, ac)) a1 a2 a3 a4 a5 a6 ((s.find e.2.1).drop.to)
end
end Go.Proofs.YtfkccighnkepgaaGreat

/- The table: what has a property. -/
set_option maxRecDepth 100000
namespace Go.Proofs.YtfkccighnkepgaaGreat
open Go Go.Sx
theorem Blk.cellA {h : Hp} {b : Nat} {cs : List Value} {e : TypeId} (hb : Blk h b cs e) (o : Nat) : cell h ((⟨b, 0, none⟩ : Addr).add o) = cs[o]? := by rw [add_mk, Nat.zero_add]; exact hb.cell o
/-- How many pairs are still to come. -/
def leftN (h : Hp) (m it : Nat) : Nat :=
  match h[m]?, h[it]? with
  | some (.map es _), some (.mapIter _ _ seen _) => (es.toList.filter fun e => !seen.contains e.born).length
  | _, _ => 0
theorem leftN_eq {κ ν : Type} {T : MTy κ ν} {h0 h : Hp} {it m : Nat} {ps done left : List (κ × ν)} {A I F : Bag} (a : IterA T it m ps A done left I) (s : St h0 h (A + (I + F))) : leftN h m it = left.length := by
  obtain ⟨l, c, seen, _, _, _, rfl, rfl, rfl, _, _⟩ := a
  have h1 := s.head.2
  have h2 := (s.to (B := Bag.one (it, .mapIter (some m) c seen c) + (Bag.one (m, mapO T l c) + F))).head.2
  unfold leftN
  rw [h1, h2]
  show ((l.map (entO T)).toArray.toList.filter fun e => !seen.contains e.born).length = _
  rw [List.length_map]
  show ((l.map (entO T)).filter fun e => !seen.contains e.born).length = _
  rw [List.filter_map, List.length_map]
  rfl
/-- What a property's function answers at a record, in a state. -/
def PredR (h0 : Hp) (G : Bag) (f : Value) (cf : Rec → Bool) (P : Rec → Prop) : Prop := ∀ (b : Nat) (r : Rec) (h : Hp) (B : Bag) (K : Value → Hp → Prop), P r → St h0 h (G + B) → Blk h b (recC r) 49 → (∀ h', Ext h h' → K (.bool (cf r)) h') → funV f fun fg fa fc => callX Tryz.prog F fg (fa ++ (([ptr b] : List Value) ++ fc)).toArray h K
section
variable {h0 h : Hp} {tb : Nat} {rs : List Row} {ks : List (Int × Int)} {next : Int} {bk bp ad : List Int} {gs : List (Int × Bool)} {A G : Bag}
def idsOf (cf : Rec → Bool) (rs : List Row) : List Int := (rs.filter fun e => cf e.2.2).map Prod.fst
theorem row_of {rs : List Row} {e : Int × Nat} (h : e ∈ rs.map fun e => (e.1, e.2.1)) : ∃ r, (e.1, e.2, r) ∈ rs := by
  obtain ⟨x, hx, rfl⟩ := List.mem_map.1 h
  exact ⟨x.2.2, hx⟩
theorem row_blk {h0 h : Hp} {rs : List Row} {e : Row} {F : Bag} (he : e ∈ rs) (s : St h0 h (recB rs + F)) : Blk h e.2.1 (recC e.2.2) 49 := by
  obtain ⟨B, hB⟩ := recB_mem he
  rw [hB] at s
  exact (s.to (B := cA e.2.1 (recC e.2.2) 49 + (B + F))).blk
/-- The records of some pairs. -/
def recOf (rs : List Row) (id : Int) : Rec := match rs.find? fun e => decide (e.1 = id) with | some e => e.2.2 | none => (0, 0, 0, 0, ⟨#[]⟩)
theorem recOf_mem {rs : List Row} (hd : (rs.map Prod.fst).Nodup) {e : Row} (he : e ∈ rs) : recOf rs e.1 = e.2.2 := by
  unfold recOf
  induction rs with
  | nil => cases he
  | cons a l ih =>
    rw [List.map_cons, List.nodup_cons] at hd
    rw [List.find?_cons]
    rcases List.mem_cons.1 he with rfl | he
    · rw [decide_eq_true rfl]
    · rw [decide_eq_false (fun hc => hd.1 (by rw [hc]; exact List.mem_map.2 ⟨e, he, rfl⟩))]
      exact ih hd.2 he
theorem find_ok (a : TabA tb rs ks next bk bp ad gs A) {f : Value} {cf : Rec → Bool} {P : Rec → Prop} (hf : PredR h0 G f cf P) (hP : ∀ e ∈ rs, P e.2.2) (s : St h0 h (A + G)) (hd : (rs.map Prod.fst).Nodup) (hn : rs.length < 100000) :
    HCalls Tryz.prog 35 #[ptr tb, f] h (fun v h' => ∃ q m d A' l, v = .slice q m d ∧ Sl TI q m d l A' ∧ l.Perm (idsOf cf rs) ∧ l.Pairwise (fun x y => x ≤ y) ∧ St h0 h' (A' + (A + G))) := by
  obtain ⟨mr, mk, mg, k, p, a, A1, A2, A3, A4, A5, A6, rfl, a1, a2, a3, a4, a5, a6⟩ := a
  generalize hT : cA tb [.map (some mr), .map (some mk), .int .i64 next, .slice k.1 k.2.1 k.2.2, .slice p.1 p.2.1 p.2.2, .slice a.1 a.2.1 a.2.2, .map (some mg)] 84 = T at *
  generalize hR : A2 + (A3 + (A4 + (A5 + A6))) = R at *
  have hKD : KD (rs.map fun e => (e.1, e.2.1)) := a1.kd
  have eA : T + (A1 + (A2 + (A3 + (A4 + (A5 + (A6 + recB rs)))))) = A1 + (T + (R + recB rs)) := by rw [← hR]; ac_rfl
  rw [eA] at s ⊢
  have s := s.to (B := A1 + (T + (R + (recB rs + G))))
  refine table_Table_find_call ?_
  rw [table_Table_find_b0_eq]
  have ct : cell h ⟨tb, 0, none⟩ = some (.map (some mr)) := by
    have s2 := s.at T
    rw [← hT] at s2
    exact s2.ld0
  refine ⟨_, ct, ?_⟩
  refine s.rangeM mapOk_r a1 fun it h1 I x1 itI s => ?_
  refine ⟨fun q h' => ∃ (done left : List (Int × Nat)) (out : List Int) (B I : Bag), Sl TI q.1.1 q.1.2.1 q.1.2.2 out B ∧ out = (done.filter fun e => cf (recOf rs e.1)).map Prod.fst ∧ IterA MR it mr (rs.map fun e => (e.1, e.2.1)) A1 done left I ∧ St h0 h' (A1 + (I + (B + (T + (R + (recB rs + G)))))), fun _ h' => leftN h' mr it, ⟨[], _, [], 0, I, Sl.nil, rfl, itI, s.to⟩, ?_⟩
  clear s itI
  rintro ⟨⟨q, n, d⟩, _⟩ h2 ⟨done, left, out, B, I, o, rfl, itI, s⟩
  dsimp only at *
  have hpm : (done ++ left).Perm (rs.map fun e => (e.1, e.2.1)) := by
    obtain ⟨l, c, sn, _, _, _, _, _, _, hp, _⟩ := itI
    exact hp
  have hol := o.len
  have hfl := List.length_filter_le (fun e : Int × Nat => cf (recOf rs e.1)) done
  have hlen := hpm.length_eq
  rw [List.length_append, List.length_map] at hlen
  rw [List.length_map] at hol
  rw [leftN_eq itI s, table_Table_find_b1_eq]
  refine s.nextM itI (fun hl => ?_) (fun e pre post h3 I' hl itI s => ?_)
  · rw [table_Table_find_b2_eq]
    subst hl
    rw [List.append_nil] at hpm
    refine (sortOI (P := fun _ => True) (s.at B) o (fun _ _ => trivial) (by omega)).mono fun v h4 ⟨hv, ys, B', o', s', hq, hw⟩ => ⟨hv, ?_⟩
    refine ⟨q, n, d, B', ys, rfl, o', ?_, hw.imp fun h => by omega, ?_⟩
    · refine hq.trans ?_
      refine ((hpm.filter _).map Prod.fst).trans ?_
      unfold idsOf
      rw [List.filter_map, List.map_map]
      have : rs.filter ((fun e : Int × Nat => cf (recOf rs e.1)) ∘ fun e : Row => (e.1, e.2.1)) = rs.filter fun e => cf e.2.2 := List.filter_congr fun x hx => by
        show cf (recOf rs x.1) = _
        rw [recOf_mem hd hx]
      rw [this]
      exact .refl _
    · exact (s'.to (B := I + (B' + (A1 + (T + (R + recB rs)) + G)))).drop
  · have hem : e ∈ rs.map fun e => (e.1, e.2.1) := hpm.mem_iff.1 (List.mem_append.2 (.inr (by rw [hl]; simp)))
    obtain ⟨r, hr⟩ := row_of hem
    have hcr : cf (recOf rs e.1) = cf r := by rw [show recOf rs e.1 = r from recOf_mem hd hr]
    have hll : left.length = pre.length + (post.length + 1) := by rw [hl, List.length_append, List.length_cons]
    refine itI.entry s ⟨_, _, rfl, ?_⟩
    refine hf e.2 r h3 (I' + (A1 + (B + (T + (R + recB rs))))) _ (hP _ hr) s.to (row_blk hr (s.to (B := recB rs + (I' + (A1 + (B + (T + (R + G)))))))) fun h4 x4 => ⟨_, rfl, ?_⟩
    have s := s.grow x4
    refine cond_intro (fun hc => ?_) (fun hc => ?_)
    · refine push_sl (s := s.at B) ok_int (cs := [_]) o (x := e.1) rfl rfl (by omega) fun p' c' h6 B' o' s => ?_
      have s := s.to (B := A1 + (I' + (B' + (T + (R + (recB rs + G))))))
      refine ⟨⟨done ++ [e], pre ++ post, _, B', I', o', by rw [List.filter_append, List.map_append, List.filter_cons, hcr, hc]; rfl, itI, s⟩, ?_⟩
      rw [leftN_eq itI s, List.length_append, hll]; omega
    · have s := s.to (B := A1 + (I' + (B + (T + (R + (recB rs + G))))))
      refine ⟨⟨done ++ [e], pre ++ post, _, B, I', o, by rw [List.filter_append, List.filter_cons, hcr, hc]; simp, itI, s⟩, ?_⟩
      rw [leftN_eq itI s, List.length_append, hll]; omega
end
end Go.Proofs.YtfkccighnkepgaaGreat

/- The table: functions that it hands on. -/
set_option maxRecDepth 100000
namespace Go.Proofs.YtfkccighnkepgaaGreat
open Go Go.Sx
theorem Compare_ok (x y : Int) (h : Hp) : HCalls Tryz.prog 42 #[.int .i64 x, .int .i64 y] h (fun v h' => v = .int .i64 (cmpI x y) ∧ h' = h) := by
  refine cmp_Compare_int_call ?_
  rw [cmp_Compare_int_b0_eq]
  refine (cisNaN_ok x h).mono fun v h1 ⟨hh, hv⟩ => ⟨_, hv, ?_⟩
  subst hh
  refine (cisNaN_ok y h1).mono fun v h2 ⟨hh, hv⟩ => ⟨_, hv, condNo rfl (condNo rfl ?_)⟩
  subst hh
  unfold cmpI
  refine condP (fun h3 => ?_) (fun h3 => condP (fun h4 => ?_) (fun h4 => ?_))
  · rw [if_pos h3]; exact ⟨rfl, rfl⟩
  · rw [if_neg h3, if_pos h4]; exact ⟨rfl, rfl⟩
  · rw [if_neg h3, if_neg h4]; exact ⟨rfl, rfl⟩
section
variable {h0 h : Hp} {mr : Nat} {rs : List Row} {A1 G : Bag}
theorem rows_kd (hd : (rs.map Prod.fst).Nodup) : KD (rs.map fun e => (e.1, e.2.1)) := by unfold KD; rw [List.map_map]; exact hd
theorem look_row {ok : Bool} {e : Row} {K : Value → Prop} (a1 : MapA MR mr (rs.map fun e => (e.1, e.2.1)) A1) (s : St h0 h (A1 + G)) (hd : (rs.map Prod.fst).Nodup) (he : e ∈ rs) (hk : K (if ok then .tuple #[ptr e.2.1, .bool true] else ptr e.2.1)) :
    lookV Tryz.prog 78 (.map (some mr)) (.int .i64 e.1) ok h K := by
  have hlk : lkp (rs.map fun e => (e.1, e.2.1)) e.1 = some e.2.1 := (lkp_some (rows_kd hd)).2 (List.mem_map.2 ⟨e, he, rfl⟩)
  refine a1.look mapOk_r s fun v b hv => ?_
  rcases hv with ⟨hv, _⟩ | ⟨x, hx, rfl, rfl⟩
  · rw [hlk] at hv; cases hv
  · rw [hlk] at hx; cases hx
    exact hk
theorem look_no {ok : Bool} {id : Int} {K : Value → Prop} (a1 : MapA MR mr (rs.map fun e => (e.1, e.2.1)) A1) (s : St h0 h (A1 + G)) (hno : id ∉ rs.map Prod.fst) (hk : K (if ok then .tuple #[.pointer none, .bool false] else .pointer none)) :
    lookV Tryz.prog 78 (.map (some mr)) (.int .i64 id) ok h K := by
  have hlk : lkp (rs.map fun e => (e.1, e.2.1)) id = none := lkp_none.2 (by rw [List.map_map]; exact hno)
  refine a1.look mapOk_r s fun v b hv => ?_
  rcases hv with ⟨_, rfl, rfl⟩ | ⟨x, hx, _, _⟩
  · exact hk
  · rw [hlk] at hx; cases hx
theorem id_row {id : Int} (h : id ∈ rs.map Prod.fst) : ∃ e ∈ rs, e.1 = id := List.mem_map.1 h
end
section
variable {h0 : Hp} {tb bb mr : Nat} {rs : List Row} {c1 c2 c3 c4 c5 c6 : Value} {A1 G : Bag}
theorem byKey_cmp (a1 : MapA MR mr (rs.map fun e => (e.1, e.2.1)) A1) (hd : (rs.map Prod.fst).Nodup) : CmpCI h0 (cA bb [ptr tb] 25 + (cA tb [.map (some mr), c1, c2, c3, c4, c5, c6] 84 + (A1 + (recB rs + G)))) (.func (.func 41) #[] #[ptr bb]) (fun x y => cmpI (recOf rs x).1 (recOf rs y).1) (fun x => x ∈ rs.map Prod.fst) := by
  intro x y h B K s hx hy hK
  obtain ⟨ex, hex, rfl⟩ := id_row hx
  obtain ⟨ey, hey, rfl⟩ := id_row hy
  dsimp only at hK
  rw [recOf_mem hd hex, recOf_mem hd hey] at hK
  have s := s.to (B := cA bb [ptr tb] 25 + (cA tb [.map (some mr), c1, c2, c3, c4, c5, c6] 84 + (A1 + (recB rs + (G + B)))))
  have bx := row_blk hex (s.at (recB rs))
  have by_ := row_blk hey (s.at (recB rs))
  refine funX_of rfl (table_Table_ByKey_c3_call ?_)
  rw [table_Table_ByKey_c3_b0_eq]
  have cx : cell h (⟨ex.2.1, 0, none⟩) = some (.int .i64 ex.2.2.1) := bx.cell 0
  have cy : cell h (⟨ey.2.1, 0, none⟩) = some (.int .i64 ey.2.2.1) := by_.cell 0
  refine ⟨some ⟨tb, 0, none⟩, s.ld0, _, s.ld0, some ⟨tb, 0, none⟩, s.ld0, _, s.ld0, ?_, ?_⟩
  · refine look_row a1 (s.at A1) hd hex ⟨some ⟨ex.2.1, 0, none⟩, rfl, ⟨_, s.ld0, rfl⟩, ⟨_, s.ld0, rfl⟩, _, cx, ?_⟩
    refine look_row a1 (s.at A1) hd hey ⟨some ⟨ey.2.1, 0, none⟩, rfl, ⟨_, cx, rfl⟩, _, cy, ?_⟩
    exact (Compare_ok _ _ h).mono fun v h1 ⟨hv, hh⟩ => ⟨_, hv, hK _ (by rw [hh]; exact Ext.refl _)⟩
  · refine look_row a1 (s.at A1) hd hey ⟨some ⟨ey.2.1, 0, none⟩, rfl, ⟨_, s.ld0, rfl⟩, ⟨_, s.ld0, rfl⟩, _, cy, ?_⟩
    refine look_row a1 (s.at A1) hd hex ⟨some ⟨ex.2.1, 0, none⟩, rfl, ⟨_, cy, rfl⟩, _, cx, ?_⟩
    exact (Compare_ok _ _ h).mono fun v h1 ⟨hv, hh⟩ => ⟨_, hv, hK _ (by rw [hh]; exact Ext.refl _)⟩
theorem build1_cmp (a1 : MapA MR mr (rs.map fun e => (e.1, e.2.1)) A1) (hd : (rs.map Prod.fst).Nodup) : CmpCI h0 (cA bb [ptr tb] 25 + (cA tb [.map (some mr), c1, c2, c3, c4, c5, c6] 84 + (A1 + (recB rs + G)))) (.func (.func 72) #[] #[ptr bb]) (fun x y => cmpI (recOf rs x).1 (recOf rs y).1) (fun x => x ∈ rs.map Prod.fst) := by
  intro x y h B K s hx hy hK
  obtain ⟨ex, hex, rfl⟩ := id_row hx
  obtain ⟨ey, hey, rfl⟩ := id_row hy
  dsimp only at hK
  rw [recOf_mem hd hex, recOf_mem hd hey] at hK
  have s := s.to (B := cA bb [ptr tb] 25 + (cA tb [.map (some mr), c1, c2, c3, c4, c5, c6] 84 + (A1 + (recB rs + (G + B)))))
  have bx := row_blk hex (s.at (recB rs))
  have by_ := row_blk hey (s.at (recB rs))
  refine funX_of rfl (table_Table_build_c1_call ?_)
  rw [table_Table_build_c1_b0_eq]
  have cx : cell h (⟨ex.2.1, 0, none⟩) = some (.int .i64 ex.2.2.1) := bx.cell 0
  have cy : cell h (⟨ey.2.1, 0, none⟩) = some (.int .i64 ey.2.2.1) := by_.cell 0
  refine ⟨some ⟨tb, 0, none⟩, s.ld0, _, s.ld0, some ⟨tb, 0, none⟩, s.ld0, _, s.ld0, ?_, ?_⟩
  · refine look_row a1 (s.at A1) hd hex ⟨some ⟨ex.2.1, 0, none⟩, rfl, ⟨_, s.ld0, rfl⟩, ⟨_, s.ld0, rfl⟩, _, cx, ?_⟩
    refine look_row a1 (s.at A1) hd hey ⟨some ⟨ey.2.1, 0, none⟩, rfl, ⟨_, cx, rfl⟩, _, cy, ?_⟩
    exact (Compare_ok _ _ h).mono fun v h1 ⟨hv, hh⟩ => ⟨_, hv, hK _ (by rw [hh]; exact Ext.refl _)⟩
  · refine look_row a1 (s.at A1) hd hey ⟨some ⟨ey.2.1, 0, none⟩, rfl, ⟨_, s.ld0, rfl⟩, ⟨_, s.ld0, rfl⟩, _, cy, ?_⟩
    refine look_row a1 (s.at A1) hd hex ⟨some ⟨ex.2.1, 0, none⟩, rfl, ⟨_, cy, rfl⟩, _, cx, ?_⟩
    exact (Compare_ok _ _ h).mono fun v h1 ⟨hv, hh⟩ => ⟨_, hv, hK _ (by rw [hh]; exact Ext.refl _)⟩
theorem build2_cmp (a1 : MapA MR mr (rs.map fun e => (e.1, e.2.1)) A1) (hd : (rs.map Prod.fst).Nodup) : CmpCI h0 (cA bb [ptr tb] 25 + (cA tb [.map (some mr), c1, c2, c3, c4, c5, c6] 84 + (A1 + (recB rs + G)))) (.func (.func 73) #[] #[ptr bb]) (fun x y => cmpI (recOf rs x).2.1 (recOf rs y).2.1) (fun x => x ∈ rs.map Prod.fst) := by
  intro x y h B K s hx hy hK
  obtain ⟨ex, hex, rfl⟩ := id_row hx
  obtain ⟨ey, hey, rfl⟩ := id_row hy
  dsimp only at hK
  rw [recOf_mem hd hex, recOf_mem hd hey] at hK
  have s := s.to (B := cA bb [ptr tb] 25 + (cA tb [.map (some mr), c1, c2, c3, c4, c5, c6] 84 + (A1 + (recB rs + (G + B)))))
  have bx := row_blk hex (s.at (recB rs))
  have by_ := row_blk hey (s.at (recB rs))
  refine funX_of rfl (table_Table_build_c2_call ?_)
  rw [table_Table_build_c2_b0_eq]
  have cx : cell h ((⟨ex.2.1, 0, none⟩ : Addr).add 1) = some (.int .i64 ex.2.2.2.1) := Blk.cellA bx 1
  have cy : cell h ((⟨ey.2.1, 0, none⟩ : Addr).add 1) = some (.int .i64 ey.2.2.2.1) := Blk.cellA by_ 1
  refine ⟨some ⟨tb, 0, none⟩, s.ld0, _, s.ld0, some ⟨tb, 0, none⟩, s.ld0, _, s.ld0, ?_, ?_⟩
  · refine look_row a1 (s.at A1) hd hex ⟨some ⟨ex.2.1, 0, none⟩, rfl, ⟨_, s.ld0, rfl⟩, ⟨_, s.ld0, rfl⟩, _, cx, ?_⟩
    refine look_row a1 (s.at A1) hd hey ⟨some ⟨ey.2.1, 0, none⟩, rfl, ⟨_, cx, rfl⟩, _, cy, ?_⟩
    exact (Compare_ok _ _ h).mono fun v h1 ⟨hv, hh⟩ => ⟨_, hv, hK _ (by rw [hh]; exact Ext.refl _)⟩
  · refine look_row a1 (s.at A1) hd hey ⟨some ⟨ey.2.1, 0, none⟩, rfl, ⟨_, s.ld0, rfl⟩, ⟨_, s.ld0, rfl⟩, _, cy, ?_⟩
    refine look_row a1 (s.at A1) hd hex ⟨some ⟨ex.2.1, 0, none⟩, rfl, ⟨_, cy, rfl⟩, _, cx, ?_⟩
    exact (Compare_ok _ _ h).mono fun v h1 ⟨hv, hh⟩ => ⟨_, hv, hK _ (by rw [hh]; exact Ext.refl _)⟩
end
end Go.Proofs.YtfkccighnkepgaaGreat
