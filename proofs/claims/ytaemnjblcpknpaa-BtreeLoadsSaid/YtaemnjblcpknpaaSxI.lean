/- Steps: what a prover says at each condition. -/
import Derived.Test.YtaemnjblcpknpaaSxH
namespace Go.Sx
open Go

/-! ### control -/
theorem cond_intro {b : Bool} {X Y : Prop} (h1 : b = true → X) (h0 : b = false → Y) : cond b X Y := by
  cases b
  · exact h0 rfl
  · exact h1 rfl
theorem condP {p : Prop} [Decidable p] {X Y : Prop} (h1 : p → X) (h0 : ¬ p → Y) : cond (decide p) X Y :=
  cond_intro (fun h => h1 (of_decide_eq_true h)) (fun h => h0 (of_decide_eq_false h))
theorem condN {p : Prop} [Decidable p] {X Y : Prop} (h0 : ¬ p → X) (h1 : p → Y) : cond (!decide p) X Y := by
  by_cases h : p
  · simp only [h, decide_true, Bool.not_true]; exact h1 h
  · simp only [h, decide_false, Bool.not_false]; exact h0 h
theorem condYes {b : Bool} {X Y : Prop} (hb : b = true) (h : X) : cond b X Y := by rw [hb]; exact h
theorem condNo {b : Bool} {X Y : Prop} (hb : b = false) (h : Y) : cond b X Y := by rw [hb]; exact h
theorem NN_some {p : Option Addr} {a : Addr} {k : Addr → Prop} (hp : p = some a) (h : k a) : NN p k := by rw [hp]; exact h

/-! ### arithmetic -/
theorem quo_intro {a b : Int} {Q : Int → Prop} (h0 : 0 ≤ a) (h1 : a ≤ 9223372036854775807) (hb : 0 < b) (h : Q (a / b)) : ∃ q, Sx.Quo .i64 a b q ∧ Q q := by
  refine ⟨a / b, ⟨by omega, ?_⟩, h⟩
  rw [Int.tdiv_eq_ediv_of_nonneg h0, wrap_i64_in]
  have := Int.ediv_nonneg h0 (Int.le_of_lt hb)
  have := Int.ediv_le_self b h0
  exact ⟨by omega, by omega⟩
theorem rem_intro {a b : Int} {Q : Int → Prop} (h0 : 0 ≤ a) (hb : 0 < b) (h : Q (a % b)) : ∃ q, Sx.Rem a b q ∧ Q q :=
  ⟨a % b, ⟨by omega, by rw [Int.tmod_eq_emod_of_nonneg h0]⟩, h⟩
theorem wrap_u64_in (n : Int) (h0 : 0 ≤ n) (h1 : n < 18446744073709551616) : IntKind.u64.wrap n = n := by
  simp [IntKind.wrap, IntKind.bits, IntKind.signed]; omega
theorem wrap_u8_in (n : Int) (h0 : 0 ≤ n) (h1 : n < 256) : IntKind.u8.wrap n = n := by
  rw [IntKind.wrap_u8]; omega
theorem ofInt_nat (w : Nat) (n : Nat) (h : n < 2 ^ w) : (BitVec.ofInt w (n : Int)).toNat = n := by
  simp [Nat.mod_eq_of_lt h]
theorem bits_and (k : IntKind) (x y : Nat) (hx : x < 2 ^ k.bits) (hy : y < 2 ^ k.bits) : ((BitVec.ofInt k.bits (x : Int)) &&& (BitVec.ofInt k.bits (y : Int))).toNat = x &&& y := by
  rw [BitVec.toNat_and, ofInt_nat _ _ hx, ofInt_nat _ _ hy]
theorem bits_or (k : IntKind) (x y : Nat) (hx : x < 2 ^ k.bits) (hy : y < 2 ^ k.bits) : ((BitVec.ofInt k.bits (x : Int)) ||| (BitVec.ofInt k.bits (y : Int))).toNat = x ||| y := by
  rw [BitVec.toNat_or, ofInt_nat _ _ hx, ofInt_nat _ _ hy]
theorem and_u64 {a b : Int} {x y : Nat} {Q : Int → Prop} (ha : a = (x : Int)) (hb : b = (y : Int)) (hx : x < 18446744073709551616) (hy : y < 18446744073709551616) (h : Q ((x &&& y : Nat) : Int)) : ∃ r, Sx.And .u64 a b r ∧ Q r := by
  subst ha hb
  refine ⟨_, rfl, ?_⟩
  rw [bits_and .u64 x y hx hy, wrap_u64_in _ (by omega) ?_]
  · exact h
  · have : x &&& y ≤ x := Nat.and_le_left
    omega
theorem or_u64 {a b : Int} {x y : Nat} {Q : Int → Prop} (ha : a = (x : Int)) (hb : b = (y : Int)) (hx : x < 18446744073709551616) (hy : y < 18446744073709551616) (h : Q ((x ||| y : Nat) : Int)) : ∃ r, Sx.Or .u64 a b r ∧ Q r := by
  subst ha hb
  refine ⟨_, rfl, ?_⟩
  rw [bits_or .u64 x y hx hy, wrap_u64_in _ (by omega) ?_]
  · exact h
  · have : x ||| y < 2 ^ 64 := Nat.or_lt_two_pow hx hy
    omega
theorem and_i64 {a b : Int} {x y : Nat} {Q : Int → Prop} (ha : a = (x : Int)) (hb : b = (y : Int)) (hx : x < 9223372036854775808) (hy : y < 9223372036854775808) (h : Q ((x &&& y : Nat) : Int)) : ∃ r, Sx.And .i64 a b r ∧ Q r := by
  subst ha hb
  refine ⟨_, rfl, ?_⟩
  have e64 : (2 : Nat) ^ IntKind.i64.bits = 18446744073709551616 := by decide
  rw [bits_and .i64 x y (by rw [e64]; omega) (by rw [e64]; omega), wrap_i64_in]
  · exact h
  · have : x &&& y ≤ x := Nat.and_le_left
    exact ⟨by omega, by omega⟩
theorem or_i64 {a b : Int} {x y : Nat} {Q : Int → Prop} (ha : a = (x : Int)) (hb : b = (y : Int)) (hx : x < 9223372036854775808) (hy : y < 9223372036854775808) (h : Q ((x ||| y : Nat) : Int)) : ∃ r, Sx.Or .i64 a b r ∧ Q r := by
  subst ha hb
  refine ⟨_, rfl, ?_⟩
  have e64 : (2 : Nat) ^ IntKind.i64.bits = 18446744073709551616 := by decide
  rw [bits_or .i64 x y (by rw [e64]; omega) (by rw [e64]; omega), wrap_i64_in]
  · exact h
  · have : x ||| y < 2 ^ 63 := Nat.or_lt_two_pow (by omega) (by omega)
    exact ⟨by omega, by omega⟩
theorem or_u8 {a b : Int} {x y : Nat} {Q : Int → Prop} (ha : a = (x : Int)) (hb : b = (y : Int)) (hx : x < 256) (hy : y < 256) (h : Q ((x ||| y : Nat) : Int)) : ∃ r, Sx.Or .u8 a b r ∧ Q r := by
  subst ha hb
  refine ⟨_, rfl, ?_⟩
  rw [bits_or .u8 x y hx hy, wrap_u8_in _ (by omega) ?_]
  · exact h
  · have : x ||| y < 2 ^ 8 := Nat.or_lt_two_pow hx hy
    omega
theorem and_u8 {a b : Int} {x y : Nat} {Q : Int → Prop} (ha : a = (x : Int)) (hb : b = (y : Int)) (hx : x < 256) (hy : y < 256) (h : Q ((x &&& y : Nat) : Int)) : ∃ r, Sx.And .u8 a b r ∧ Q r := by
  subst ha hb
  refine ⟨_, rfl, ?_⟩
  rw [bits_and .u8 x y hx hy, wrap_u8_in _ (by omega) ?_]
  · exact h
  · have : x &&& y ≤ x := Nat.and_le_left
    omega
/-- A shift to the right by a count below the width. -/
theorem shr_intro {k : IntKind} {a b : Int} {x s : Nat} {Q : Int → Prop} (ha : a = (x : Int)) (hb : b = (s : Int)) (hs : s ≤ k.bits) (h : Q ((x >>> s : Nat) : Int)) : ∃ r, Sx.Shr k a b r ∧ Q r := by
  subst ha hb
  refine ⟨_, ⟨by omega, rfl⟩, ?_⟩
  have e : (x : Int).fdiv (2 ^ (min (s : Int).toNat k.bits)) = ((x >>> s : Nat) : Int) := by
    rw [show (s : Int).toNat = s by simp, Nat.min_eq_left hs, Int.fdiv_eq_ediv_of_nonneg _ (Int.pow_nonneg (by decide)), Nat.shiftRight_eq_div_pow]
    rw [Int.natCast_ediv, Int.natCast_pow]; rfl
  rw [e]; exact h
theorem shl_intro {k : IntKind} {a b : Int} {x s : Nat} {Q : Int → Prop} (ha : a = (x : Int)) (hb : b = (s : Int)) (hs : s ≤ k.bits) (hw : k.wrap ((x * 2 ^ s : Nat) : Int) = ((x * 2 ^ s : Nat) : Int)) (h : Q ((x * 2 ^ s : Nat) : Int)) : ∃ r, Sx.Shl k a b r ∧ Q r := by
  subst ha hb
  refine ⟨_, ⟨by omega, rfl⟩, ?_⟩
  have e : (x : Int) * 2 ^ (min (s : Int).toNat k.bits) = ((x * 2 ^ s : Nat) : Int) := by
    rw [show (s : Int).toNat = s by simp, Nat.min_eq_left hs, Int.natCast_mul, Int.natCast_pow]; rfl
  rw [e, hw]; exact h

/-! ### the heap -/
theorem add_mk (b o k : Nat) : (⟨b, o, none⟩ : Addr).add k = ⟨b, o + k, none⟩ := by
  unfold Addr.add; split
  · rename_i h; subst h; rfl
  · rfl
theorem add_add (a : Addr) (i j : Nat) : (a.add i).add j = a.add (i + j) := by
  unfold Addr.add
  by_cases hi : i = 0 <;> by_cases hj : j = 0 <;> simp [hi, hj, Nat.add_assoc]
theorem add_block (a : Addr) (i : Nat) : (a.add i).block = a.block := by unfold Addr.add; split <;> rfl

/-- A heap with more blocks. -/
structure Ext (h h' : Hp) : Prop where
  size : h.size ≤ h'.size
  same : ∀ k, k < h.size → h'[k]? = h[k]?
theorem Ext.refl (h : Hp) : Ext h h := ⟨Nat.le_refl _, fun _ _ => rfl⟩
theorem Ext.trans {a b c : Hp} (h : Ext a b) (k : Ext b c) : Ext a c := ⟨Nat.le_trans h.size k.size, fun i hi => (k.same i (Nat.lt_of_lt_of_le hi h.size)).trans (h.same i hi)⟩
theorem Ext.push (h : Hp) (o : Obj) : Ext h (h.push o) := ⟨by simp, fun k hk => by rw [Array.getElem?_push, if_neg (by omega)]⟩
theorem lt_of_blk {h : Hp} {b : Nat} {o : Obj} (hb : h[b]? = some o) : b < h.size := by
  rcases Nat.lt_or_ge b h.size with hl | hl
  · exact hl
  · rw [Array.getElem?_eq_none hl] at hb; cases hb
theorem Ext.get {h h' : Hp} (e : Ext h h') {b : Nat} {o : Obj} (hb : h[b]? = some o) : h'[b]? = some o := by rw [e.same b (lt_of_blk hb)]; exact hb
theorem cell_lt {h : Hp} {a : Addr} {v : Value} (hc : cell h a = some v) : a.block < h.size := by
  unfold cell at hc
  split at hc
  · rename_i hb; exact lt_of_blk hb
  · cases hc
theorem cell_same {h h' : Hp} {a : Addr} (e : h'[a.block]? = h[a.block]?) : cell h' a = cell h a := by unfold cell; rw [e]
theorem Ext.cell {h h' : Hp} (e : Ext h h') {a : Addr} {v : Value} (hc : Sx.cell h a = some v) : Sx.cell h' a = some v := by
  rw [cell_same (e.same _ (cell_lt hc))]; exact hc

/-- The block b holds these cells; none of them is frozen. -/
def Blk (h : Hp) (b : Nat) (cs : List Value) (e : TypeId) : Prop := h[b]? = some (.cells cs.toArray e (0, 0))
theorem Blk.cell {h : Hp} {b : Nat} {cs : List Value} {e : TypeId} (hb : Blk h b cs e) (o : Nat) : Sx.cell h ⟨b, o, none⟩ = cs[o]? := by
  unfold Blk at hb
  unfold Sx.cell
  rw [hb]
  simp
theorem Blk.lt {h : Hp} {b : Nat} {cs : List Value} {e : TypeId} (hb : Blk h b cs e) : b < h.size := lt_of_blk hb
theorem Blk.ext {h h' : Hp} {b : Nat} {cs : List Value} {e : TypeId} (hb : Blk h b cs e) (x : Ext h h') : Blk h' b cs e := x.get hb
theorem Blk.same {h h' : Hp} {b : Nat} {cs : List Value} {e : TypeId} (hb : Blk h b cs e) (x : h'[b]? = h[b]?) : Blk h' b cs e := by unfold Blk; rw [x]; exact hb
theorem Blk.writable {h : Hp} {b o : Nat} {cs : List Value} {e : TypeId} (hb : Blk h b cs e) (ho : o < cs.length) : Writable h ⟨b, o, none⟩ := by
  refine ⟨by rw [hb.cell, List.getElem?_eq_getElem ho]; rfl, ?_⟩
  unfold Blk at hb
  unfold frozenH
  rw [hb]
  simp
theorem setH_size (h : Hp) (a : Addr) (v : Value) : (setH h a v).size = h.size := by simp [setH]
theorem setH_other (h : Hp) (a : Addr) (v : Value) {k : Nat} (hk : k ≠ a.block) : (setH h a v)[k]? = h[k]? := by
  unfold setH
  rw [Array.getElem?_modify, if_neg (Ne.symm hk)]
theorem Blk.set {h : Hp} {b o : Nat} {cs : List Value} {e : TypeId} (hb : Blk h b cs e) (v : Value) : Blk (setH h ⟨b, o, none⟩ v) b (cs.set o v) e := by
  unfold Blk at hb ⊢
  unfold setH
  rw [Array.getElem?_modify, if_pos rfl, hb]
  simp
theorem blk_new (h : Hp) (cs : List Value) (e : TypeId) : Blk (h.push (.cells cs.toArray e)) h.size cs e := by
  unfold Blk
  rw [Array.getElem?_push, if_pos rfl]

/-- A new block. -/
theorem New_intro {h : Hp} {cs : List Value} {e : TypeId} {k : Nat → Hp → Prop} (hk : ∀ b h', b = h.size → Ext h h' → Blk h' b cs e → h'.size = h.size + 1 → k b h') : New h (.cells cs.toArray e) k :=
  hk _ _ rfl (Ext.push _ _) (blk_new _ _ _) (by simp)
/-- A store into a block that is known whole. -/
theorem Wr_intro {h : Hp} {a : Addr} {b o : Nat} {cs : List Value} {e : TypeId} {v : Value} {k : Hp → Prop} (ha : a = ⟨b, o, none⟩) (hb : Blk h b cs e) (ho : o < cs.length)
    (hk : ∀ h', h'.size = h.size → (∀ j, j ≠ b → h'[j]? = h[j]?) → Blk h' b (cs.set o v) e → k h') : Wr h a v k := by
  subst ha
  exact ⟨hb.writable ho, hk _ (setH_size _ _ _) (fun j hj => setH_other _ _ _ hj) (hb.set v)⟩

/-! ### slices that are read -/
def Rd (h : Hp) (p : Option Addr) (n : Nat) (xs : List Value) : Prop := xs.length = n ∧ (n = 0 ∨ ∃ a, p = some a ∧ ∀ i, i < n → cell h (a.add i) = xs[i]?)
theorem Rd.len {h : Hp} {p : Option Addr} {n : Nat} {xs : List Value} (r : Rd h p n xs) : xs.length = n := r.1
theorem Rd.ext {h h' : Hp} {p : Option Addr} {n : Nat} {xs : List Value} (r : Rd h p n xs) (e : Ext h h') : Rd h' p n xs := by
  refine ⟨r.1, ?_⟩
  rcases r.2 with h0 | ⟨a, hp, hc⟩
  · exact .inl h0
  · refine .inr ⟨a, hp, fun i hi => ?_⟩
    have := hc i hi
    have hi' : i < xs.length := by rw [r.1]; exact hi
    rw [List.getElem?_eq_getElem hi'] at this ⊢
    exact e.cell this
theorem Rd.same {h h' : Hp} {p : Option Addr} {n : Nat} {xs : List Value} (r : Rd h p n xs) (e : ∀ a, p = some a → h'[a.block]? = h[a.block]?) : Rd h' p n xs := by
  refine ⟨r.1, ?_⟩
  rcases r.2 with h0 | ⟨a, hp, hc⟩
  · exact .inl h0
  · refine .inr ⟨a, hp, fun i hi => ?_⟩
    have : h'[(a.add i).block]? = h[(a.add i).block]? := by rw [add_block]; exact e a hp
    rw [cell_same this]
    exact hc i hi
theorem Rd.at_ {h : Hp} {p : Option Addr} {n : Nat} {xs : List Value} (r : Rd h p n xs) {i : Nat} (hi : i < n) : ∃ a, p = some a ∧ ∃ hx : i < xs.length, cell h (a.add (i * 1)) = some xs[i] := by
  rcases r.2 with h0 | ⟨a, hp, hc⟩
  · omega
  · have hi' : i < xs.length := by rw [r.1]; exact hi
    refine ⟨a, hp, hi', ?_⟩
    have := hc i hi
    rw [List.getElem?_eq_getElem hi'] at this
    rw [Nat.mul_one]; exact this
theorem Rd.nil (h : Hp) (p : Option Addr) : Rd h p 0 [] := ⟨rfl, .inl rfl⟩
theorem Rd.of_blk {h : Hp} {b : Nat} {cs : List Value} {e : TypeId} (hb : Blk h b cs e) {n : Nat} (hn : n ≤ cs.length) : Rd h (some ⟨b, 0, none⟩) n (cs.take n) := by
  refine ⟨by simp; omega, .inr ⟨_, rfl, fun i hi => ?_⟩⟩
  rw [add_mk, hb.cell, Nat.zero_add, List.getElem?_take, if_pos hi]
theorem Rd.readsL {h : Hp} {p : Option Addr} {n : Nat} {xs : List Value} (r : Rd h p n xs) : readsL h p xs ∨ n = 0 := by
  rcases r.2 with h0 | ⟨a, hp, hc⟩
  · exact .inr h0
  · subst hp; exact .inl fun i hi => hc i (by rw [← r.1]; exact hi)
/-- An element is loaded: of integers, of bools. -/
theorem idx_int {h : Hp} {p : Option Addr} {n : Nat} {k : IntKind} {zs : List Int} {i : Int} {Q : Int → Prop} (r : Rd h p n (zs.map (Value.int k))) (h0 : 0 ≤ i) (h1 : i < n)
    (hq : Q (zs.getD i.toNat 0)) : (0 ≤ i ∧ i < (n : Int)) ∧ NN p fun a => ∃ x : Int, cell h (a.add (i.toNat * 1)) = some (.int k x) ∧ Q x := by
  refine ⟨⟨h0, h1⟩, ?_⟩
  obtain ⟨a, rfl, hx, hc⟩ := r.at_ (i := i.toNat) (by omega)
  simp only [List.length_map] at hx
  refine ⟨_, ?_, hq⟩
  rw [hc]
  simp [List.getD, hx]
theorem idx_bool {h : Hp} {p : Option Addr} {n : Nat} {zs : List Bool} {i : Int} {Q : Bool → Prop} (r : Rd h p n (zs.map Value.bool)) (h0 : 0 ≤ i) (h1 : i < n)
    (hq : Q (zs.getD i.toNat false)) : (0 ≤ i ∧ i < (n : Int)) ∧ NN p fun a => ∃ x : Bool, cell h (a.add (i.toNat * 1)) = some (.bool x) ∧ Q x := by
  refine ⟨⟨h0, h1⟩, ?_⟩
  obtain ⟨a, rfl, hx, hc⟩ := r.at_ (i := i.toNat) (by omega)
  simp only [List.length_map] at hx
  refine ⟨_, ?_, hq⟩
  rw [hc]
  simp [List.getD, hx]

/-! ### slices that are grown -/
/-- A slice of the call's own: its array is a block from base on, and it begins at the block's head. -/
def Own (h : Hp) (base : Nat) (E : TypeId) (p : Option Addr) (n c : Nat) (xs : List Value) : Prop :=
  (p = none ∧ n = 0 ∧ c = 0 ∧ xs = []) ∨ ∃ b rest, base ≤ b ∧ p = some ⟨b, 0, none⟩ ∧ Blk h b (xs ++ rest) E ∧ xs.length = n ∧ (xs ++ rest).length = c
theorem Own.rd {h : Hp} {base : Nat} {E : TypeId} {p : Option Addr} {n c : Nat} {xs : List Value} (o : Own h base E p n c xs) : Rd h p n xs := by
  rcases o with ⟨rfl, rfl, rfl, rfl⟩ | ⟨b, rest, _, rfl, hb, hl, _⟩
  · exact Rd.nil _ _
  · have := Rd.of_blk hb (n := n) (by simp; omega)
    rwa [List.take_append_of_le_length (by omega), List.take_of_length_le (by omega)] at this
theorem Own.len {h : Hp} {base : Nat} {E : TypeId} {p : Option Addr} {n c : Nat} {xs : List Value} (o : Own h base E p n c xs) : xs.length = n := o.rd.len
theorem Own.cap {h : Hp} {base : Nat} {E : TypeId} {p : Option Addr} {n c : Nat} {xs : List Value} (o : Own h base E p n c xs) : n ≤ c := by
  rcases o with ⟨rfl, rfl, rfl, rfl⟩ | ⟨b, rest, _, rfl, hb, hl, hc⟩
  · exact Nat.le_refl _
  · simp at hc; omega
theorem Own.same {h h' : Hp} {base : Nat} {E : TypeId} {p : Option Addr} {n c : Nat} {xs : List Value} (o : Own h base E p n c xs) (e : ∀ a, p = some a → h'[a.block]? = h[a.block]?) : Own h' base E p n c xs := by
  rcases o with ⟨rfl, rfl, rfl, rfl⟩ | ⟨b, rest, hbs, rfl, hb, hl, hc⟩
  · exact .inl ⟨rfl, rfl, rfl, rfl⟩
  · exact .inr ⟨b, rest, hbs, rfl, hb.same (e _ rfl), hl, hc⟩
theorem Own.ext {h h' : Hp} {base : Nat} {E : TypeId} {p : Option Addr} {n c : Nat} {xs : List Value} (o : Own h base E p n c xs) (e : Ext h h') : Own h' base E p n c xs := by
  rcases o with ⟨rfl, rfl, rfl, rfl⟩ | ⟨b, rest, hbs, rfl, hb, hl, hc⟩
  · exact .inl ⟨rfl, rfl, rfl, rfl⟩
  · exact .inr ⟨b, rest, hbs, rfl, hb.ext e, hl, hc⟩
theorem Own.lt {h : Hp} {base : Nat} {E : TypeId} {p : Option Addr} {n c : Nat} {xs : List Value} (o : Own h base E p n c xs) : ∀ a, p = some a → base ≤ a.block ∧ a.block < h.size := by
  rcases o with ⟨rfl, rfl, rfl, rfl⟩ | ⟨b, rest, hbs, rfl, hb, hl, hc⟩
  · intro a ha; cases ha
  · intro a ha; cases ha; exact ⟨hbs, hb.lt⟩

/-- A heap in which one block may have been written, and more blocks made. -/
structure Grow (h h' : Hp) (p : Option Addr) : Prop where
  size : h.size ≤ h'.size
  same : ∀ k, k < h.size → (∀ a, p = some a → k ≠ a.block) → h'[k]? = h[k]?

theorem storesV_blk {b : Nat} {e : TypeId} {k : Hp → Prop} : ∀ (vs : List Value) (i o : Nat) (h : Hp) (pre mid rest : List Value), (∀ v ∈ vs, scalar v = true) → Blk h b (pre ++ mid ++ rest) e → pre.length = o + i → mid.length = vs.length →
    (∀ h', h'.size = h.size → (∀ j, j ≠ b → h'[j]? = h[j]?) → Blk h' b (pre ++ vs ++ rest) e → k h') → storesV ⟨b, o, none⟩ k vs i h
  | [], i, o, h, pre, mid, rest, _, hb, _, hm, hk => by
    have : mid = [] := List.eq_nil_of_length_eq_zero (by simpa using hm)
    subst this
    exact hk h rfl (fun _ _ => rfl) hb
  | v :: vs, i, o, h, pre, mid, rest, hs, hb, hp, hm, hk => by
    cases mid with
    | nil => simp at hm
    | cons m mid =>
      unfold storesV
      rw [hs v (by simp)]
      refine Wr_intro (add_mk b o i) hb (by simp; omega) fun h' hsz hot hb' => ?_
      have e1 : (pre ++ m :: mid ++ rest).set (o + i) v = (pre ++ [v]) ++ mid ++ rest := by
        rw [← hp, List.append_assoc, List.set_append_right _ _ (Nat.le_refl _)]
        simp
      rw [e1] at hb'
      refine storesV_blk vs (i + 1) o h' (pre ++ [v]) mid rest (fun v hv => hs v (by simp [hv])) hb' (by simp; omega) (by simpa using hm) fun h'' hsz' hot' hb'' => ?_
      refine hk h'' (hsz'.trans hsz) (fun j hj => (hot' j hj).trans (hot j hj)) ?_
      simpa using hb''

/-- **append to a slice of the call's own.** -/
theorem append_own {P : Program} {t t2 e : TypeId} {i0 : TypeInfo} {z : Value} {base : Nat} {h : Hp} {p q : Option Addr} {n c m c2 : Nat} {xs ys : List Value} {k : Option Addr → Nat → Nat → Hp → Prop}
    (ht : elemT P t = some (e, 1)) (ht2 : notIntT P t2 = true) (hi : P.info? e = some i0) (hz : i0.zero = some z) (hzs : scalar z = true)
    (o : Own h base e p n c xs) (hb : base ≤ h.size) (r : readsL h q ys) (hm : ys.length = m) (hys : ∀ v ∈ ys, scalar v = true)
    (hc : 2 * (n + m) * i0.bytes ≤ 281474976710656) (hc2 : n + m < 4611686018427387904)
    (hk : ∀ p' c' h', Own h' base e p' (n + m) c' (xs ++ ys) → Grow h h' p → k p' (n + m) c' h') :
    appendV P t t2 (.slice p n c) (.slice q m c2) h (slK k) := by
  unfold appendV
  rw [ht, ht2]
  refine ⟨ys, by omega, r, fun hle => ?_, fun hlt => ?_⟩
  · rcases o with ⟨rfl, rfl, rfl, rfl⟩ | ⟨b, rest, hbs, rfl, hb, hl, hcl⟩
    · have : m = 0 := by omega
      subst this
      have : ys = [] := List.eq_nil_of_length_eq_zero hm
      subst this
      exact hk none 0 h (.inl ⟨rfl, rfl, rfl, rfl⟩) ⟨Nat.le_refl _, fun _ _ _ => rfl⟩
    · rw [List.length_append] at hcl
      have hrest : rest = rest.take m ++ rest.drop m := (List.take_append_drop m rest).symm
      rw [hrest, ← List.append_assoc] at hb
      simp only [storesO, add_mk, Nat.mul_one, Nat.zero_add]
      refine storesV_blk ys 0 n h xs (rest.take m) (rest.drop m) hys hb (by omega) (by simp; omega) fun h' hsz hot hb' => ?_
      refine hk _ c h' (.inr ⟨b, rest.drop m, hbs, rfl, hb', by simp; omega, by simp; omega⟩) ⟨by omega, fun j hj hn => hot j (hn _ rfl)⟩
  · have hnc : n ≤ c := o.cap
    have hncap : Builtin.nextslicecap (n + m) c ≤ 2 * (n + m) := by
      unfold Builtin.nextslicecap
      split
      · omega
      · split
        · omega
        · rename_i h1 h2
          simp only [Builtin.growBy]
          split
          · omega
          · split
            · omega
            · split
              · omega
              · split <;> omega
    have hbt : bytesT P e = i0.bytes := by unfold bytesT; rw [hi]
    refine ⟨⟨?_, by omega⟩, xs, by have := o.len; omega, ?_, ?_⟩
    · rw [hbt]
      exact Nat.le_trans (Nat.mul_le_mul_right _ hncap) hc
    · rcases o.rd.readsL with hr | h0
      · exact hr
      · subst h0
        have : xs = [] := List.eq_nil_of_length_eq_zero o.len
        subst this
        cases p with
        | none => rfl
        | some a => intro i hi; cases hi
    · unfold zeroV
      rw [hi]
      simp only [hz]
      intro c' hc'
      refine New_intro fun b h' hbe hext hblk hsz => ?_
      have hzc : z.cells = #[z] := by cases z <;> first | rfl | cases hzs
      refine hk _ c' h' (.inr ⟨b, _, by omega, rfl, hblk, by have := o.len; simp; omega, ?_⟩) ⟨hext.size, fun j hj _ => hext.same j hj⟩
      have := o.len
      rw [List.length_append, List.length_append, hzc]
      simp [repL]
      omega

/-- A slice type whose elements are of one cell, and small. -/
structure ElemOk (P : Program) (t e : TypeId) : Prop where
  el : elemT P t = some (e, 1)
  ni : notIntT P t = true
  info : ∃ i0 z, P.info? e = some i0 ∧ i0.zero = some z ∧ scalar z = true ∧ i0.bytes ≤ 32
def elemB (P : Program) (t e : TypeId) : Bool :=
  (match elemT P t with | some (e', s) => Nat.beq e e' && Nat.beq s 1 | none => false) && (notIntT P t &&
  (match P.info? e with | some i0 => (match i0.zero with | some z => scalar z && Nat.ble i0.bytes 32 | none => false) | none => false))
theorem elemB_spec {P : Program} {t e : TypeId} (h : elemB P t e = true) : ElemOk P t e := by
  unfold elemB at h
  simp only [Bool.and_eq_true] at h
  obtain ⟨h1, h2, h3⟩ := h
  refine ⟨?_, h2, ?_⟩
  · split at h1
    · rename_i e' s he
      simp only [Bool.and_eq_true] at h1
      rw [he, Nat.eq_of_beq_eq_true h1.1, Nat.eq_of_beq_eq_true h1.2]
    · cases h1
  · split at h3
    · rename_i i0 hi
      split at h3
      · rename_i z hz
        simp only [Bool.and_eq_true] at h3
        exact ⟨i0, z, hi, hz, h3.1, Nat.le_of_ble_eq_true h3.2⟩
      · cases h3
    · cases h3
theorem Grow.trans_ext {h h1 h2 : Hp} {p : Option Addr} (e : Ext h h1) (g : Grow h1 h2 p) : Grow h h2 p :=
  ⟨Nat.le_trans e.size g.size, fun k hk hn => (g.same k (Nat.lt_of_lt_of_le hk e.size) hn).trans (e.same k hk)⟩
/-- 'out = append(out, x)'. -/
theorem push_own {P : Program} {t e e' : TypeId} {base : Nat} {h : Hp} {p : Option Addr} {n c : Nat} {xs : List Value} {x : Value} {k : Option Addr → Nat → Nat → Hp → Prop}
    (ok : ElemOk P t e) (o : Own h base e p n c xs) (hb : base ≤ h.size) (hx : scalar x = true) (hn : n < 1099511627776)
    (hk : ∀ p' c' h', Own h' base e p' (n + 1) c' (xs ++ [x]) → Grow h h' p → k p' (n + 1) c' h') :
    New h (.cells #[x] e') fun b h1 => appendV P t t (.slice p n c) (.slice (some ⟨b, 0, none⟩) 1 1) h1 (slK k) := by
  refine New_intro (cs := [x]) fun b h1 hbe x1 k1 z1 => ?_
  obtain ⟨i0, z, hi, hz, hzs, hbt⟩ := ok.info
  refine append_own (ys := [x]) ok.el ok.ni hi hz hzs (o.ext x1) (by omega) ?_ rfl (by simpa using hx) ?_ (by omega) fun p' c' h' o' g => hk p' c' h' o' (g.trans_ext x1)
  · intro i hi
    rw [add_mk, k1.cell, Nat.zero_add]
  · have : 2 * (n + 1) * i0.bytes ≤ 2 * (n + 1) * 32 := Nat.mul_le_mul_left _ hbt
    omega
theorem repL_one (n : Nat) (z : Value) : repL n [z] = List.replicate n z := by
  apply List.ext_getElem
  · simp [repL]
  · intro i h1 h2
    simp [repL, Nat.mod_one, nth]
end Go.Sx
