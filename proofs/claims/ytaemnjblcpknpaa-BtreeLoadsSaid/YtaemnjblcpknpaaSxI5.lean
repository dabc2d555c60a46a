/- Separation: what a heap holds beyond a first heap, as a bag of blocks; slices of elements of any size. -/
import Derived.Test.YtaemnjblcpknpaaSxI4
namespace Go.Sx
open Go

abbrev Atom := Nat × Obj
def Bag : Type := Quotient (List.isSetoid Atom)
namespace Bag
def zero : Bag := Quotient.mk (List.isSetoid Atom) []
def one (a : Atom) : Bag := Quotient.mk (List.isSetoid Atom) [a]
def mk (l : List Atom) : Bag := Quotient.mk (List.isSetoid Atom) l
def add (A B : Bag) : Bag := Quotient.liftOn₂ A B (fun l m => mk (l ++ m)) fun _ _ _ _ h1 h2 => Quotient.sound (List.Perm.append h1 h2)
instance : Add Bag := ⟨add⟩
instance : OfNat Bag 0 := ⟨zero⟩
theorem mk_add (l m : List Atom) : mk l + mk m = mk (l ++ m) := rfl
theorem zero_mk : (0 : Bag) = mk [] := rfl
theorem one_mk (a : Atom) : one a = mk [a] := rfl
theorem ind {p : Bag → Prop} (h : ∀ l, p (mk l)) (A : Bag) : p A := Quotient.ind h A
theorem mk_eq {l m : List Atom} (h : mk l = mk m) : l.Perm m := Quotient.exact h
theorem eq_mk {l m : List Atom} (h : l.Perm m) : mk l = mk m := Quotient.sound h
theorem assoc (A B C : Bag) : A + B + C = A + (B + C) := by
  induction A using ind; induction B using ind; induction C using ind
  simp only [mk_add, List.append_assoc]
theorem comm (A B : Bag) : A + B = B + A := by
  induction A using ind; induction B using ind
  simp only [mk_add]
  exact eq_mk List.perm_append_comm
theorem add_zero (A : Bag) : A + 0 = A := by
  induction A using ind
  simp only [zero_mk, mk_add, List.append_nil]
theorem zero_add (A : Bag) : 0 + A = A := by rw [comm, add_zero]
instance : Std.Associative (α := Bag) (· + ·) := ⟨assoc⟩
instance : Std.Commutative (α := Bag) (· + ·) := ⟨comm⟩
instance : Std.LawfulIdentity (α := Bag) (· + ·) 0 where
  left_id := zero_add
  right_id := add_zero
end Bag

abbrev cA (b : Nat) (cs : List Value) (e : TypeId) : Bag := Bag.one (b, .cells cs.toArray e (0, 0))

/-- The heap h has all of h0, and beside it these blocks, each once. -/
structure St (h0 h : Hp) (A : Bag) : Prop where
  ext : Ext h0 h
  rep : ∃ l : List Atom, Bag.mk l = A ∧ (l.map Prod.fst).Nodup ∧ ∀ a ∈ l, h0.size ≤ a.1 ∧ h[a.1]? = some a.2
theorem St.of {h0 h : Hp} {l : List Atom} (s : St h0 h (Bag.mk l)) : (l.map Prod.fst).Nodup ∧ ∀ a ∈ l, h0.size ≤ a.1 ∧ h[a.1]? = some a.2 := by
  obtain ⟨m, hm, hn, ha⟩ := s.rep
  have hp := Bag.mk_eq hm
  exact ⟨(hp.map Prod.fst).nodup_iff.1 hn, fun a h => ha a (hp.mem_iff.2 h)⟩
theorem St.mk' {h0 h : Hp} {l : List Atom} (e : Ext h0 h) (hn : (l.map Prod.fst).Nodup) (ha : ∀ a ∈ l, h0.size ≤ a.1 ∧ h[a.1]? = some a.2) : St h0 h (Bag.mk l) := ⟨e, l, rfl, hn, ha⟩
theorem St.to {h0 h : Hp} {A B : Bag} (s : St h0 h A) (e : A = B := by ac_rfl) : St h0 h B := e ▸ s
theorem St.start (h : Hp) : St h h 0 := ⟨Ext.refl h, [], rfl, by simp, by simp⟩
theorem St.head {h0 h : Hp} {b : Nat} {o : Obj} {F : Bag} (s : St h0 h (Bag.one (b, o) + F)) : h0.size ≤ b ∧ h[b]? = some o := by
  induction F using Bag.ind
  rw [Bag.one_mk, Bag.mk_add] at s
  exact s.of.2 (b, o) (by simp)
theorem St.blk {h0 h : Hp} {b : Nat} {cs : List Value} {e : TypeId} {F : Bag} (s : St h0 h (cA b cs e + F)) : Blk h b cs e := s.head.2
theorem St.cell {h0 h : Hp} {b : Nat} {cs : List Value} {e : TypeId} {F : Bag} (s : St h0 h (cA b cs e + F)) (o : Nat) : Sx.cell h ⟨b, o, none⟩ = cs[o]? := s.blk.cell o
theorem St.cellA {h0 h : Hp} {b : Nat} {cs : List Value} {e : TypeId} {F : Bag} (s : St h0 h (cA b cs e + F)) (o : Nat) : Sx.cell h ((⟨b, 0, none⟩ : Addr).add o) = cs[o]? := by rw [add_mk, Nat.zero_add]; exact s.cell o
theorem St.drop {h0 h : Hp} {A F : Bag} (s : St h0 h (A + F)) : St h0 h F := by
  induction A using Bag.ind
  induction F using Bag.ind
  rw [Bag.mk_add] at s
  obtain ⟨hn, ha⟩ := s.of
  rw [List.map_append] at hn
  exact St.mk' s.ext (List.nodup_append.1 hn).2.1 fun a h => ha a (by simp [h])
theorem St.left {h0 h : Hp} {A F : Bag} (s : St h0 h (A + F)) : St h0 h A := by rw [Bag.comm] at s; exact s.drop
theorem St.ne {h0 h : Hp} {b b' : Nat} {o o' : Obj} {F : Bag} (s : St h0 h (Bag.one (b, o) + (Bag.one (b', o') + F))) : b ≠ b' := by
  induction F using Bag.ind
  rw [Bag.one_mk, Bag.one_mk, Bag.mk_add, Bag.mk_add] at s
  have := s.of.1
  simp at this
  exact this.1.1
/-- More blocks, or others written. -/
theorem St.grow {h0 h h' : Hp} {F : Bag} (s : St h0 h F) (x : Ext h h') : St h0 h' F := by
  induction F using Bag.ind
  obtain ⟨hn, ha⟩ := s.of
  exact St.mk' (s.ext.trans x) hn fun a h => ⟨(ha a h).1, x.get (ha a h).2⟩
theorem St.base {h0 h1 h : Hp} {A : Bag} (s : St h1 h A) (x : Ext h0 h1) : St h0 h A := by
  induction A using Bag.ind
  obtain ⟨hn, ha⟩ := s.of
  exact St.mk' (x.trans s.ext) hn fun a h => ⟨Nat.le_trans x.size (ha a h).1, (ha a h).2⟩
theorem St.lt {h0 h : Hp} {l : List Atom} (s : St h0 h (Bag.mk l)) : ∀ a ∈ l, a.1 < h.size := fun a ha => lt_of_blk (s.of.2 a ha).2
/-- What a callee made beside what was there. -/
theorem St.join {h0 h h' : Hp} {F B : Bag} (s : St h0 h F) (t : St h h' B) : St h0 h' (B + F) := by
  induction F using Bag.ind
  induction B using Bag.ind
  rename_i F B
  obtain ⟨hn, ha⟩ := s.of
  obtain ⟨hm, hb⟩ := t.of
  rw [Bag.mk_add]
  refine St.mk' (s.ext.trans t.ext) ?_ fun a h => ?_
  · rw [List.map_append, List.nodup_append]
    refine ⟨hm, hn, fun x hx y hy => ?_⟩
    obtain ⟨x, hx1, rfl⟩ := List.mem_map.1 hx
    obtain ⟨y, hy1, rfl⟩ := List.mem_map.1 hy
    have h1 := (hb x hx1).1
    have h2 := s.lt y hy1
    omega
  · rcases List.mem_append.1 h with h | h
    · exact ⟨Nat.le_trans s.ext.size (hb a h).1, (hb a h).2⟩
    · exact ⟨(ha a h).1, t.ext.get (ha a h).2⟩
theorem St.push {h0 h : Hp} {F : Bag} (s : St h0 h F) (o : Obj) : St h0 (h.push o) (Bag.one (h.size, o) + F) := by
  refine s.join (B := Bag.one (h.size, o)) ?_
  rw [Bag.one_mk]
  exact St.mk' (Ext.push h o) (by simp) (by simp)
theorem St.new {h0 h : Hp} {F : Bag} {cs : List Value} {e : TypeId} {k : Nat → Hp → Prop} (s : St h0 h F) (hk : ∀ b h', Ext h h' → St h0 h' (cA b cs e + F) → k b h') : New h (.cells cs.toArray e) k := hk _ _ (Ext.push _ _) (s.push _)
theorem St.set {h0 h h' : Hp} {F : Bag} {b : Nat} {o o' : Obj} (s : St h0 h (Bag.one (b, o) + F)) (hz : h'.size = h.size) (hs : ∀ j, j ≠ b → h'[j]? = h[j]?) (hb : h'[b]? = some o') : St h0 h' (Bag.one (b, o') + F) := by
  induction F using Bag.ind
  rw [Bag.one_mk, Bag.mk_add] at s ⊢
  obtain ⟨hn, ha⟩ := s.of
  refine St.mk' ⟨by rw [hz]; exact s.ext.size, fun i hi => ?_⟩ (by simpa using hn) fun a h => ?_
  · rw [hs i (by have := (ha (b, o) (by simp)).1; omega)]; exact s.ext.same i hi
  · rcases List.mem_append.1 h with h1 | h1
    · simp at h1; subst h1; exact ⟨(ha (b, o) (by simp)).1, hb⟩
    · refine ⟨(ha a (by simp [h1])).1, ?_⟩
      rw [hs]
      · exact (ha a (by simp [h1])).2
      · rintro rfl
        simp at hn
        exact hn.1 _ h1
theorem St.wr {h0 h : Hp} {F : Bag} {a : Addr} {b o : Nat} {cs : List Value} {e : TypeId} {v : Value} {k : Hp → Prop} (s : St h0 h (cA b cs e + F)) (ha : a = ⟨b, o, none⟩) (ho : o < cs.length)
    (hk : ∀ h', St h0 h' (cA b (cs.set o v) e + F) → k h') : Wr h a v k :=
  Wr_intro ha s.blk ho fun h' hz hs hb => hk h' (s.set hz hs hb)
/-- One block was written, others may have been made. -/
theorem St.write {h0 h h' : Hp} {F : Bag} {b : Nat} {o o' : Obj} (s : St h0 h (Bag.one (b, o) + F)) (hz : h.size ≤ h'.size) (hs : ∀ j, j < h.size → j ≠ b → h'[j]? = h[j]?) (hb : h'[b]? = some o') : St h0 h' (Bag.one (b, o') + F) := by
  induction F using Bag.ind
  rw [Bag.one_mk, Bag.mk_add] at s ⊢
  obtain ⟨hn, ha⟩ := s.of
  refine St.mk' ⟨Nat.le_trans s.ext.size hz, fun i hi => ?_⟩ (by simpa using hn) fun a h => ?_
  · rw [hs i (Nat.lt_of_lt_of_le hi s.ext.size) (by have := (ha (b, o) (by simp)).1; omega)]; exact s.ext.same i hi
  · rcases List.mem_append.1 h with h1 | h1
    · simp at h1; subst h1; exact ⟨(ha (b, o) (by simp)).1, hb⟩
    · refine ⟨(ha a (by simp [h1])).1, ?_⟩
      rw [hs]
      · exact (ha a (by simp [h1])).2
      · exact s.lt a (by simp [h1])
      · rintro rfl
        simp at hn
        exact hn.1 _ h1
theorem St.storesV {h0 : Hp} {F : Bag} {b : Nat} {e : TypeId} {k : Hp → Prop} {h : Hp} (vs : List Value) (o : Nat) (pre mid rest : List Value) (s : St h0 h (cA b (pre ++ mid ++ rest) e + F)) (hs : ∀ v ∈ vs, scalar v = true) (hp : pre.length = o) (hm : mid.length = vs.length)
    (hk : ∀ h', St h0 h' (cA b (pre ++ vs ++ rest) e + F) → k h') : Sx.storesV ⟨b, o, none⟩ k vs 0 h :=
  storesV_blk vs 0 o h pre mid rest hs s.blk (by omega) hm fun h' hz hs' hb => hk h' (s.set hz hs' hb)
/-- Reading what was there before. -/
theorem St.old {h0 h : Hp} {A : Bag} (s : St h0 h A) {b : Nat} {o : Obj} (hb : h0[b]? = some o) : h[b]? = some o := s.ext.get hb

/-- B is A, and C beside. -/
class Bag.Sub (A B : Bag) (C : outParam Bag) : Prop where
  eq : B = A + C
instance Bag.Sub.refl (A : Bag) : Bag.Sub A A 0 := ⟨(Bag.add_zero A).symm⟩
instance Bag.Sub.head (A Y : Bag) : Bag.Sub A (A + Y) Y := ⟨rfl⟩
instance Bag.Sub.left (A X Y C : Bag) [h : Bag.Sub A X C] : Bag.Sub A (X + Y) (C + Y) := ⟨by rw [h.eq, Bag.assoc]⟩
instance Bag.Sub.right (A X Y C : Bag) [h : Bag.Sub A Y C] : Bag.Sub A (X + Y) (X + C) := ⟨by rw [h.eq]; ac_rfl⟩
theorem St.at {h0 h : Hp} {B : Bag} (s : St h0 h B) (A : Bag) {C : Bag} [x : Bag.Sub A B C] : St h0 h (A + C) := x.eq ▸ s

/-! ### element types -/
structure Ty (α : Type) where
  e : TypeId
  sz : Nat
  enc : α → List Value
  d : α
  len : ∀ a, (enc a).length = sz
  pos : 0 < sz
  sc : ∀ a, ∀ v ∈ enc a, scalar v = true
section
variable {α : Type} (T : Ty α)
def Ty.cells (xs : List α) : List Value := xs.flatMap T.enc
theorem Ty.cells_len (xs : List α) : (T.cells xs).length = xs.length * T.sz := by
  induction xs with
  | nil => simp [Ty.cells]
  | cons x r ih => simp only [Ty.cells, List.flatMap_cons, List.length_append, T.len, List.length_cons] at ih ⊢; rw [ih, Nat.add_mul]; omega
theorem Ty.cells_append (xs ys : List α) : T.cells (xs ++ ys) = T.cells xs ++ T.cells ys := by simp [Ty.cells]
theorem Ty.cells_nil : T.cells [] = [] := rfl
theorem Ty.cells_one (x : α) : T.cells [x] = T.enc x := by simp [Ty.cells]
theorem Ty.cells_cons (x : α) (xs : List α) : T.cells (x :: xs) = T.enc x ++ T.cells xs := rfl
theorem Ty.cells_take (xs : List α) (i : Nat) : T.cells (xs.take i) = (T.cells xs).take (i * T.sz) := by
  rcases Nat.lt_or_ge i xs.length with h | h
  · have : T.cells xs = T.cells (xs.take i) ++ T.cells (xs.drop i) := by rw [← T.cells_append, List.take_append_drop]
    have hl : (T.cells (xs.take i)).length = i * T.sz := by rw [T.cells_len, List.length_take, Nat.min_eq_left (by omega)]
    conv => rhs; rw [this]
    exact (List.take_left' hl).symm
  · rw [List.take_of_length_le h, List.take_of_length_le (by rw [T.cells_len]; exact Nat.mul_le_mul_right _ h)]
theorem Ty.cells_drop (xs : List α) (i : Nat) : T.cells (xs.drop i) = (T.cells xs).drop (i * T.sz) := by
  rcases Nat.lt_or_ge i xs.length with h | h
  · have : T.cells xs = T.cells (xs.take i) ++ T.cells (xs.drop i) := by rw [← T.cells_append, List.take_append_drop]
    have hl : (T.cells (xs.take i)).length = i * T.sz := by rw [T.cells_len, List.length_take, Nat.min_eq_left (by omega)]
    conv => rhs; rw [this]
    exact (List.drop_left' hl).symm
  · rw [List.drop_of_length_le h, List.drop_of_length_le (by rw [T.cells_len]; exact Nat.mul_le_mul_right _ h)]; rfl
theorem Ty.cells_sc (xs : List α) : ∀ v ∈ T.cells xs, scalar v = true := by
  intro v hv
  obtain ⟨x, _, hv⟩ := List.mem_flatMap.1 hv
  exact T.sc x v hv
theorem Ty.cells_get (xs : List α) {i j : Nat} (hi : i < xs.length) (hj : j < T.sz) : (T.cells xs)[i * T.sz + j]? = (T.enc (xs.getD i T.d))[j]? := by
  have e1 : xs = xs.take i ++ (xs[i] :: xs.drop (i + 1)) := by rw [← List.drop_eq_getElem_cons hi, List.take_append_drop]
  have hd : xs.getD i T.d = xs[i] := by simp [List.getD, hi]
  rw [hd]
  conv => lhs; rw [e1]
  have hl : (T.cells (xs.take i)).length = i * T.sz := by rw [T.cells_len, List.length_take, Nat.min_eq_left (by omega)]
  rw [T.cells_append, T.cells_cons, List.getElem?_append_right (by omega), hl, Nat.add_sub_cancel_left, List.getElem?_append_left (by rw [T.len]; exact hj)]

/-- A slice that is read. -/
def RdT (h : Hp) (p : Option Addr) (n : Nat) (xs : List α) : Prop := xs.length = n ∧ (n = 0 ∨ ∃ a, p = some a ∧ ∀ i, i < n * T.sz → cell h (a.add i) = (T.cells xs)[i]?)
/-- A slice that owns its block. -/
def Sl (p : Option Addr) (n c : Nat) (xs : List α) (A : Bag) : Prop :=
  xs.length = n ∧ ((p = none ∧ n = 0 ∧ c = 0 ∧ A = 0) ∨ ∃ b rest, p = some ⟨b, 0, none⟩ ∧ n ≤ c ∧ rest.length = (c - n) * T.sz ∧ A = cA b (T.cells xs ++ rest) T.e)
/-- A slice type of such elements. -/
structure ElOk (P : Program) (t : TypeId) : Prop where
  el : elemT P t = some (T.e, T.sz)
  ni : notIntT P t = true
  info : ∃ i0 z, P.info? T.e = some i0 ∧ i0.zero = some z ∧ z.cells.size = T.sz ∧ (∀ v ∈ z.cells.toList, scalar v = true) ∧ i0.bytes ≤ 1024
def elB (P : Program) (t : TypeId) : Bool :=
  (match elemT P t with | some (e', s) => Nat.beq T.e e' && Nat.beq s T.sz | none => false) && (notIntT P t &&
  (match P.info? T.e with | some i0 => (match i0.zero with | some z => Nat.beq z.cells.size T.sz && (z.cells.toList.all scalar && Nat.ble i0.bytes 1024) | none => false) | none => false))
end
section
variable {α : Type} {T : Ty α}
theorem elB_spec {P : Program} {t : TypeId} (h : elB T P t = true) : ElOk T P t := by
  unfold elB at h
  simp only [Bool.and_eq_true] at h
  obtain ⟨h1, h2, h3⟩ := h
  refine ⟨?_, h2, ?_⟩
  · split at h1
    · rename_i e' s he
      simp only [Bool.and_eq_true] at h1
      rw [he, Nat.eq_of_beq_eq_true h1.1, Nat.eq_of_beq_eq_true h1.2]
    · cases h1
  · split at h3
    · rename_i i0 hi
      split at h3
      · rename_i z hz
        simp only [Bool.and_eq_true] at h3
        exact ⟨i0, z, hi, hz, Nat.eq_of_beq_eq_true h3.1, fun v hv => List.all_eq_true.1 h3.2.1 v hv, Nat.le_of_ble_eq_true h3.2.2⟩
      · cases h3
    · cases h3
theorem RdT.len {h : Hp} {p : Option Addr} {n : Nat} {xs : List α} (r : RdT T h p n xs) : xs.length = n := r.1
theorem RdT.nil (h : Hp) (p : Option Addr) : RdT T h p 0 [] := ⟨rfl, .inl rfl⟩
theorem RdT.rd {h : Hp} {p : Option Addr} {n : Nat} {xs : List α} (r : RdT T h p n xs) : Rd h p (n * T.sz) (T.cells xs) := by
  refine ⟨by rw [T.cells_len, r.1], ?_⟩
  rcases r.2 with h0 | h0
  · exact .inl (by rw [h0, Nat.zero_mul])
  · exact .inr h0
theorem RdT.of_rd {h : Hp} {p : Option Addr} {n : Nat} {xs : List α} (hl : xs.length = n) (r : Rd h p (n * T.sz) (T.cells xs)) : RdT T h p n xs := by
  refine ⟨hl, ?_⟩
  rcases r.2 with h0 | h0
  · exact .inl (by rcases Nat.mul_eq_zero.1 h0 with h1 | h1; exact h1; exact absurd h1 (Nat.ne_of_gt T.pos))
  · exact .inr h0
theorem RdT.same {h h' : Hp} {p : Option Addr} {n : Nat} {xs : List α} (r : RdT T h p n xs) (e : ∀ a, p = some a → h'[a.block]? = h[a.block]?) : RdT T h' p n xs := .of_rd r.1 (r.rd.same e)
theorem RdT.ext {h h' : Hp} {p : Option Addr} {n : Nat} {xs : List α} (r : RdT T h p n xs) (e : Ext h h') : RdT T h' p n xs := .of_rd r.1 (r.rd.ext e)
theorem RdT.at_ {h : Hp} {p : Option Addr} {n : Nat} {xs : List α} (r : RdT T h p n xs) {i : Nat} (hi : i < n) : ∃ a, p = some a ∧ ∀ j, j < T.sz → cell h ((a.add (i * T.sz)).add j) = (T.enc (xs.getD i T.d))[j]? := by
  rcases r.2 with h0 | ⟨a, hp, hc⟩
  · omega
  · refine ⟨a, hp, fun j hj => ?_⟩
    rw [add_add, hc, T.cells_get xs (by rw [r.1]; exact hi) hj]
    calc i * T.sz + j < i * T.sz + T.sz := by omega
      _ = (i + 1) * T.sz := by rw [Nat.add_mul, Nat.one_mul]
      _ ≤ n * T.sz := Nat.mul_le_mul_right _ hi
theorem RdT.take {h : Hp} {p : Option Addr} {n i : Nat} {xs : List α} (r : RdT T h p n xs) (hi : i ≤ n) : RdT T h p i (xs.take i) := by
  have hl := r.len
  refine .of_rd (by rw [List.length_take]; omega) ?_
  rw [T.cells_take]
  exact r.rd.take (Nat.mul_le_mul_right _ hi)
theorem RdT.sub {h : Hp} {p : Option Addr} {n c i m : Nat} {xs : List α} (r : RdT T h p n xs) (hi : i ≤ n) (hc : n ≤ c) (hm : m = n - i) : RdT T h (subAddr p c i T.sz) m (xs.drop i) := by
  subst hm
  have hl := r.len
  refine ⟨by simp [hl], ?_⟩
  unfold subAddr
  by_cases h1 : c = i
  · exact .inl (by omega)
  · rw [if_neg h1]
    rcases r.2 with h0 | ⟨a, rfl, hc'⟩
    · exact .inl (by omega)
    · refine .inr ⟨_, rfl, fun j hj => ?_⟩
      rw [Nat.sub_mul] at hj
      rw [add_add, hc' _ (by omega), T.cells_drop, List.getElem?_drop]
theorem RdT.readsL {h : Hp} {p : Option Addr} {n : Nat} {xs : List α} (r : RdT T h p n xs) : Sx.readsL h p (T.cells xs) := by
  rcases r.rd.readsL with h1 | h1
  · exact h1
  · have : T.cells xs = [] := List.eq_nil_of_length_eq_zero (by rw [T.cells_len, r.1]; exact h1)
    rw [this]
    cases p with
    | none => rfl
    | some a => intro i hi; cases hi
theorem Sl.len {p : Option Addr} {n c : Nat} {xs : List α} {A : Bag} (a : Sl T p n c xs A) : xs.length = n := a.1
theorem Sl.cap {p : Option Addr} {n c : Nat} {xs : List α} {A : Bag} (a : Sl T p n c xs A) : n ≤ c := by
  rcases a.2 with ⟨_, h1, h2, _⟩ | ⟨_, _, _, h1, _⟩ <;> omega
theorem Sl.nil : Sl T none 0 0 [] 0 := ⟨rfl, .inl ⟨rfl, rfl, rfl, rfl⟩⟩
theorem Sl.rd {p : Option Addr} {n c : Nat} {xs : List α} {A F : Bag} {h0 h : Hp} (a : Sl T p n c xs A) (s : St h0 h (A + F)) : RdT T h p n xs := by
  rcases a with ⟨hl, ⟨rfl, rfl, rfl, rfl⟩ | ⟨b, rest, rfl, hc, hr, rfl⟩⟩
  · exact ⟨hl, .inl rfl⟩
  · refine .of_rd hl ?_
    have := Rd.of_blk s.blk (n := n * T.sz) (by rw [List.length_append, T.cells_len, hl]; omega)
    rwa [List.take_append_of_le_length (by rw [T.cells_len, hl]; omega), List.take_of_length_le (by rw [T.cells_len, hl]; omega)] at this
theorem Sl.of_blk {b : Nat} {xs : List α} {n : Nat} (hl : xs.length = n) {cs : List Value} (hc : cs = T.cells xs) : Sl T (some ⟨b, 0, none⟩) n n xs (cA b cs T.e) :=
  ⟨hl, .inr ⟨b, [], rfl, Nat.le_refl _, by simp, by rw [List.append_nil, hc]⟩⟩
/-- The first elements of a slice, with its whole capacity. -/
theorem Sl.take {p : Option Addr} {n c i : Nat} {xs : List α} {A : Bag} (a : Sl T p n c xs A) (hi : i ≤ n) : Sl T p i c (xs.take i) A := by
  rcases a with ⟨hl, ⟨rfl, rfl, rfl, rfl⟩ | ⟨b, rest, rfl, hc, hr, rfl⟩⟩
  · have : i = 0 := by omega
    subst this
    exact ⟨by simp, .inl ⟨rfl, rfl, rfl, rfl⟩⟩
  · refine ⟨by rw [List.length_take]; omega, .inr ⟨b, T.cells (xs.drop i) ++ rest, rfl, by omega, ?_, ?_⟩⟩
    · rw [List.length_append, T.cells_len, List.length_drop, hr, hl, ← Nat.add_mul]; congr 1; omega
    · rw [← List.append_assoc, ← T.cells_append, List.take_append_drop]
theorem subAddr_z {p : Option Addr} {c sz : Nat} : subAddr p c 0 sz = p := by
  unfold subAddr
  split
  · rfl
  · cases p <;> simp [Addr.add]
theorem subAddr_in' {b o c i sz : Nat} (h : c ≠ i) : subAddr (some ⟨b, o, none⟩) c i sz = some ⟨b, o + i * sz, none⟩ := by
  unfold subAddr
  rw [if_neg h, Option.map_some, add_mk]
theorem nextcap_le (_n c m : Nat) (h : c < m) : Builtin.nextslicecap m c ≤ 2 * m := by
  unfold Builtin.nextslicecap
  split
  · omega
  · split
    · omega
    · simp only [Builtin.growBy]
      split
      · omega
      · split
        · omega
        · split
          · omega
          · split <;> omega
theorem repL_len (n : Nat) (zs : List Value) : (repL n zs).length = n := by simp [repL]
/-- **append(s, x...)**, s with a block of its own. -/
theorem append_sl {P : Program} {t : TypeId} {h0 h : Hp} {p q : Option Addr} {n c m c2 : Nat} {xs ys : List α} {A F : Bag} {k : Option Addr → Nat → Nat → Hp → Prop}
    (ok : ElOk T P t) (s : St h0 h (A + F)) (a : Sl T p n c xs A) (r : RdT T h q m ys) (hn : n + m < 1073741824)
    (hk : ∀ p' c' h' A', Sl T p' (n + m) c' (xs ++ ys) A' → St h0 h' (A' + F) → k p' (n + m) c' h') :
    appendV P t t (.slice p n c) (.slice q m c2) h (slK k) := by
  obtain ⟨i0, z, hi, hz, hzs, hzc, hbt⟩ := ok.info
  have hyl := r.len
  have hcell : (T.cells ys).length = m * T.sz := by rw [T.cells_len, hyl]
  unfold appendV
  rw [ok.el, ok.ni]
  refine ⟨T.cells ys, hcell, r.readsL, fun hle => ?_, fun hlt => ?_⟩
  · rcases a with ⟨hl, ⟨rfl, rfl, rfl, rfl⟩ | ⟨b, rest, rfl, hc, hr, rfl⟩⟩
    · have : m = 0 := by omega
      subst this
      have : ys = [] := List.eq_nil_of_length_eq_zero hyl
      subst this
      exact hk none 0 h 0 ⟨by rw [List.append_nil]; exact hl, .inl ⟨rfl, rfl, rfl, rfl⟩⟩ s
    · have hm2 : m * T.sz ≤ rest.length := by rw [hr]; exact Nat.mul_le_mul_right _ (by omega)
      have hrest : rest = rest.take (m * T.sz) ++ rest.drop (m * T.sz) := (List.take_append_drop _ rest).symm
      rw [hrest, ← List.append_assoc] at s
      simp only [storesO, add_mk, Nat.zero_add]
      refine s.storesV (T.cells ys) (n * T.sz) (T.cells xs) (rest.take (m * T.sz)) (rest.drop (m * T.sz)) (T.cells_sc ys) (by rw [T.cells_len, hl]) (by rw [List.length_take, hcell]; omega) fun h' s' => ?_
      refine hk _ c h' _ ⟨by simp; omega, .inr ⟨b, rest.drop (m * T.sz), rfl, by omega, ?_, rfl⟩⟩ ?_
      · rw [List.length_drop, hr, ← Nat.sub_mul]; congr 1; omega
      · rwa [T.cells_append]
  · have hncap := nextcap_le n c (n + m) hlt
    have hbt' : bytesT P T.e = i0.bytes := by unfold bytesT; rw [hi]
    have hrx := a.rd s
    refine ⟨⟨?_, by omega⟩, T.cells xs, by rw [T.cells_len, a.len], hrx.readsL, ?_⟩
    · rw [hbt']
      have h1 : Builtin.nextslicecap (n + m) c * i0.bytes ≤ (2 * (n + m)) * 1024 := Nat.mul_le_mul hncap hbt
      omega
    · unfold zeroV
      rw [hi]
      simp only [hz]
      intro c' hc'
      refine s.drop.new fun b h' _ s' => ?_
      refine hk _ c' h' _ ⟨by have := a.len; simp; omega, .inr ⟨b, repL ((c' - (n + m)) * z.cells.size) z.cells.toList, rfl, hc', by rw [repL_len, hzs], rfl⟩⟩ ?_
      rw [T.cells_append]
      exact s'
/-- **out = append(out, x)**. -/
theorem push_sl {P : Program} {t : TypeId} {e' : TypeId} {h0 h : Hp} {p : Option Addr} {n c : Nat} {xs : List α} {x : α} {cs : List Value} {A F : Bag} {k : Option Addr → Nat → Nat → Hp → Prop}
    (ok : ElOk T P t) (s : St h0 h (A + F)) (a : Sl T p n c xs A) (hx : cs = T.enc x) (he : e' = T.e) (hn : n + 1 < 1073741824)
    (hk : ∀ p' c' h' A', Sl T p' (n + 1) c' (xs ++ [x]) A' → St h0 h' (A' + F) → k p' (n + 1) c' h') :
    New h (.cells cs.toArray e') fun b h1 => appendV P t t (.slice p n c) (.slice (some ⟨b, 0, none⟩) 1 1) h1 (slK k) := by
  subst he
  refine s.new fun b h1 _ s1 => ?_
  have sx : Sl T (some ⟨b, 0, none⟩) 1 1 [x] (cA b cs T.e) := Sl.of_blk rfl (by rw [hx, T.cells_one])
  have s2 : St h0 h1 (A + (cA b cs T.e + F)) := s1.to
  refine append_sl ok s2 a (sx.rd s1) hn fun p' c' h' A' a' s' => hk p' c' h' A' a' (s'.to (B := cA b cs T.e + (A' + F))).drop
/-- make, with a length and a capacity. -/
theorem Sl.wr {h0 h : Hp} {p : Option Addr} {n c i j : Nat} {xs : List α} {A F : Bag} {v : Value} {x : α} {k : Hp → Prop} (a : Sl T p n c xs A) (s : St h0 h (A + F)) (hi : i < n) (hj : j < T.sz) (hx : T.enc x = (T.enc (xs.getD i T.d)).set j v)
    (hk : ∀ h' A', Sl T p n c (xs.set i x) A' → St h0 h' (A' + F) → k h') : ∃ ad, p = some ad ∧ Wr h ((ad.add (i * T.sz)).add j) v k := by
  rcases a with ⟨hl, ⟨rfl, rfl, rfl, rfl⟩ | ⟨b, rest, rfl, hc, hr, rfl⟩⟩
  · omega
  · refine ⟨_, rfl, ?_⟩
    have hlt : i * T.sz + j < (T.cells xs).length := by
      rw [T.cells_len, hl]
      calc i * T.sz + j < i * T.sz + T.sz := by omega
        _ = (i + 1) * T.sz := by rw [Nat.add_mul, Nat.one_mul]
        _ ≤ n * T.sz := Nat.mul_le_mul_right _ hi
    refine s.wr (o := i * T.sz + j) (by rw [add_mk, add_mk, Nat.zero_add]) (by rw [List.length_append]; omega) fun h' s' => ?_
    refine hk h' _ ⟨by simp [hl], .inr ⟨b, rest, rfl, hc, hr, rfl⟩⟩ ?_
    have e1 : T.cells (xs.set i x) ++ rest = (T.cells xs ++ rest).set (i * T.sz + j) v := by
      rw [List.set_append_left _ _ hlt]
      congr 1
      have hil : i < xs.length := by omega
      have ed : xs.getD i T.d = xs[i] := by simp [List.getD, hil]
      have e2 : xs = xs.take i ++ (xs[i] :: xs.drop (i + 1)) := by rw [← List.drop_eq_getElem_cons hil, List.take_append_drop]
      have hl2 : (T.cells (xs.take i)).length = i * T.sz := by rw [T.cells_len, List.length_take, Nat.min_eq_left (by omega)]
      have e3 : xs.set i x = xs.take i ++ (x :: xs.drop (i + 1)) := by
        rw [List.set_eq_take_append_cons_drop, if_pos hil]
      rw [e3, T.cells_append, T.cells_cons, hx, ed]
      conv => rhs; rw [e2]
      rw [T.cells_append, T.cells_cons, List.set_append_right _ _ (by omega), hl2, Nat.add_sub_cancel_left, List.set_append_left _ _ (by rw [T.len]; exact hj)]
    rw [e1]
    exact s'
end
end Go.Sx
