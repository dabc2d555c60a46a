/- Part I4 I5 I6 I7 I8 P35 I9 I10 I11 I12 U0 U1 MI X0 X1 X2 X3 B33 M3 Y1 X4 X5 Y2 of the proof: contracts of functions of the program, and what follows from them. -/
import Derived.Test.YtllhdhpjgihjfaaGreatDoorSxHR
import Derived.Test.YtllhdhpjgihjfaaGreatDoorSxV
set_option maxRecDepth 100000
namespace Go.Sx
open Go
theorem yakq {h : Hp} {b o : Nat} {s : Option Nat} {xs : List Value} {e : TypeId} (hb : Blk h b xs e) : yadx h ⟨b, o, s⟩ = false := by
  unfold Blk at hb
  unfold yadx
  simp only [hb]
  simp
theorem yanf {h : Hp} {b : Nat} {xs : List Value} {e : TypeId} (hb : Blk h b xs e) : yasm h b = some (e, xs.length) := by
  unfold Blk at hb
  unfold yasm
  simp [hb]
theorem yapa {P : Program} {g : Nat} {ps rs : Array TypeId} {h : Hp} {t e : TypeId} {i0 : TypeInfo} {a b : Addr} {la ca lb cb : Nat} {xs ys : List Value} {e1 e2 : TypeId} {K : Value → Prop}
    (hx : IsExt P g (Extern.SlicesOverlaps.overlaps ps rs)) (hp : ps[0]? = some t) (ht : P.underlying t = some (.slice e)) (hi : P.info? e = some i0)
    (hne : a.block ≠ b.block) (ha : Blk h a.block xs e1) (hb : Blk h b.block ys e2) (hk : K (.bool false)) : yakl P g #[.slice (some a) la ca, .slice (some b) lb cb] h K := by
  refine ⟨_, hx, ?_⟩
  have fa : ∀ o s, yadx h ⟨a.block, o, s⟩ = false := fun o s => yakq ha
  have fb : ∀ o s, yadx h ⟨b.block, o, s⟩ = false := fun o s => yakq hb
  have fa' : yadx h a = false := fa a.off a.spot
  have fb' : yadx h b = false := fb b.off b.spot
  have sa := yanf ha
  have sb := yanf hb
  have e0 : Extern.SlicesOverlaps.overlaps ps rs #[.slice (some a) la ca, .slice (some b) lb cb] = (do
      let some t := ps[0]? | stuck "slices.overlaps: no parameter types"
      let .slice elem ← underlying t | stuck "slices.overlaps: slice type expected"
      let size ← sizeOf elem
      if la = 0 ∨ lb = 0 ∨ size = 0 then pure (.bool false)
      else if a.block != b.block && (← frozen a) && (← frozen b) then unsupported .addressObserved
      else do
        if a.block != b.block then do
          noView a; noView b
          if ← mayBeOne a b then return .bool ((← choose (.extern "sameAddr.stringBytes" 2)) == 1)
        pure (.bool (a.block == b.block && a.off < b.off + lb * size && b.off < a.off + la * size))) := rfl
  rw [e0]
  simp only [hp, yaag, yaai, ht, yabn, hi]
  split
  · exact hk
  · simp only [frozen, yaag, hq, fa', fb', Bool.and_false, Bool.false_eq_true, if_false]
    have hne' : (a.block != b.block) = true := by simpa using hne
    have hne2 : (a.block == b.block) = false := by simpa using hne
    simp only [hne', if_true, noView, viewAt, shape, yaag, hq, sa, sb, yaam, Option.isSome_some, Option.isSome_none, Bool.false_eq_true, if_false, mayBeOne, stringish, frozen, fa', fb', fa, fb]
    simp only [yaam, Bool.false_eq_true, if_false, Bool.false_and, Bool.and_self, Bool.or_self, hne2]
    exact hk
theorem Rd.take {h : Hp} {p : Option Addr} {n i : Nat} {xs : List Value} (r : Rd h p n xs) (hi : i ≤ n) : Rd h p i (xs.take i) := by
  have hl := r.len
  refine ⟨by rw [List.length_take]; omega, ?_⟩
  rcases r.2 with h0 | ⟨a, hp, hc⟩
  · exact .inl (by omega)
  · exact .inr ⟨a, hp, fun j hj => by rw [hc j (by omega), List.getElem?_take, if_pos hj]⟩
open Go
abbrev Atom := Nat × Obj
def Bag : Type := Quotient (List.isSetoid Atom)
namespace Bag
def zero : Bag := Quotient.mk (List.isSetoid Atom) []
def one (a : Atom) : Bag := Quotient.mk (List.isSetoid Atom) [a]
def mk (l : List Atom) : Bag := Quotient.mk (List.isSetoid Atom) l
def add (A B : Bag) : Bag := Quotient.liftOn₂ A B (fun l m => mk (l ++ m)) fun _ _ _ _ h1 h2 => Quotient.sound (List.Perm.append h1 h2)
instance : Add Bag := ⟨add⟩
instance : OfNat Bag 0 := ⟨zero⟩
theorem mk_add (l m : List Atom) : mk l + mk m = mk (l ++ m) := rfl
theorem yazn : (0 : Bag) = mk [] := rfl
theorem one_mk (a : Atom) : one a = mk [a] := rfl
theorem ind {p : Bag → Prop} (h : ∀ l, p (mk l)) (A : Bag) : p A := Quotient.ind h A
theorem mk_eq {l m : List Atom} (h : mk l = mk m) : l.Perm m := Quotient.exact h
theorem eq_mk {l m : List Atom} (h : l.Perm m) : mk l = mk m := Quotient.sound h
theorem assoc (A B C : Bag) : A + B + C = A + (B + C) := by
  induction A using ind; induction B using ind; induction C using ind
  simp only [mk_add, List.append_assoc]
theorem comm (A B : Bag) : A + B = B + A := by
  induction A using ind; induction B using ind
  simp only [mk_add]
  exact eq_mk List.perm_append_comm
theorem add_zero (A : Bag) : A + 0 = A := by
  induction A using ind
  simp only [yazn, mk_add, List.append_nil]
theorem zero_add (A : Bag) : 0 + A = A := by rw [comm, add_zero]
instance : Std.Associative (α := Bag) (· + ·) := ⟨assoc⟩
instance : Std.Commutative (α := Bag) (· + ·) := ⟨comm⟩
instance : Std.LawfulIdentity (α := Bag) (· + ·) 0 where
  left_id := zero_add
  right_id := add_zero
end Bag
abbrev cA (b : Nat) (cs : List Value) (e : TypeId) : Bag := Bag.one (b, .cells cs.toArray e (0, 0))
structure St (h0 h : Hp) (A : Bag) : Prop where
  ext : Ext h0 h
  rep : ∃ l : List Atom, Bag.mk l = A ∧ (l.map Prod.fst).Nodup ∧ ∀ a ∈ l, h0.size ≤ a.1 ∧ h[a.1]? = some a.2
theorem St.of {h0 h : Hp} {l : List Atom} (s : St h0 h (Bag.mk l)) : (l.map Prod.fst).Nodup ∧ ∀ a ∈ l, h0.size ≤ a.1 ∧ h[a.1]? = some a.2 := by
  obtain ⟨m, hm, hn, ha⟩ := s.rep
  have hp := Bag.mk_eq hm
  exact ⟨(hp.map Prod.fst).nodup_iff.1 hn, fun a h => ha a (hp.mem_iff.2 h)⟩
theorem St.mk' {h0 h : Hp} {l : List Atom} (e : Ext h0 h) (hn : (l.map Prod.fst).Nodup) (ha : ∀ a ∈ l, h0.size ≤ a.1 ∧ h[a.1]? = some a.2) : St h0 h (Bag.mk l) := ⟨e, l, rfl, hn, ha⟩
theorem St.to {h0 h : Hp} {A B : Bag} (s : St h0 h A) (e : A = B := by ac_rfl) : St h0 h B := e ▸ s
theorem St.start (h : Hp) : St h h 0 := ⟨Ext.refl h, [], rfl, by simp, by simp⟩
theorem St.head {h0 h : Hp} {b : Nat} {o : Obj} {F : Bag} (s : St h0 h (Bag.one (b, o) + F)) : h0.size ≤ b ∧ h[b]? = some o := by
  induction F using Bag.ind
  rw [Bag.one_mk, Bag.mk_add] at s
  exact s.of.2 (b, o) (by simp)
theorem St.blk {h0 h : Hp} {b : Nat} {cs : List Value} {e : TypeId} {F : Bag} (s : St h0 h (cA b cs e + F)) : Blk h b cs e := s.head.2
theorem St.cell {h0 h : Hp} {b : Nat} {cs : List Value} {e : TypeId} {F : Bag} (s : St h0 h (cA b cs e + F)) (o : Nat) : Sx.cell h ⟨b, o, none⟩ = cs[o]? := s.blk.cell o
theorem St.cellA {h0 h : Hp} {b : Nat} {cs : List Value} {e : TypeId} {F : Bag} (s : St h0 h (cA b cs e + F)) (o : Nat) : Sx.cell h ((⟨b, 0, none⟩ : Addr).add o) = cs[o]? := by rw [yabj, Nat.zero_add]; exact s.cell o
theorem St.drop {h0 h : Hp} {A F : Bag} (s : St h0 h (A + F)) : St h0 h F := by
  induction A using Bag.ind
  induction F using Bag.ind
  rw [Bag.mk_add] at s
  obtain ⟨hn, ha⟩ := s.of
  rw [List.map_append] at hn
  exact St.mk' s.ext (List.nodup_append.1 hn).2.1 fun a h => ha a (by simp [h])
theorem St.left {h0 h : Hp} {A F : Bag} (s : St h0 h (A + F)) : St h0 h A := by rw [Bag.comm] at s; exact s.drop
theorem St.ne {h0 h : Hp} {b b' : Nat} {o o' : Obj} {F : Bag} (s : St h0 h (Bag.one (b, o) + (Bag.one (b', o') + F))) : b ≠ b' := by
  induction F using Bag.ind
  rw [Bag.one_mk, Bag.one_mk, Bag.mk_add, Bag.mk_add] at s
  have := s.of.1
  simp at this
  exact this.1.1
theorem St.grow {h0 h h' : Hp} {F : Bag} (s : St h0 h F) (x : Ext h h') : St h0 h' F := by
  induction F using Bag.ind
  obtain ⟨hn, ha⟩ := s.of
  exact St.mk' (s.ext.trans x) hn fun a h => ⟨(ha a h).1, x.get (ha a h).2⟩
theorem St.base {h0 h1 h : Hp} {A : Bag} (s : St h1 h A) (x : Ext h0 h1) : St h0 h A := by
  induction A using Bag.ind
  obtain ⟨hn, ha⟩ := s.of
  exact St.mk' (x.trans s.ext) hn fun a h => ⟨Nat.le_trans x.size (ha a h).1, (ha a h).2⟩
theorem St.lt {h0 h : Hp} {l : List Atom} (s : St h0 h (Bag.mk l)) : ∀ a ∈ l, a.1 < h.size := fun a ha => yadh (s.of.2 a ha).2
theorem St.join {h0 h h' : Hp} {F B : Bag} (s : St h0 h F) (t : St h h' B) : St h0 h' (B + F) := by
  induction F using Bag.ind
  induction B using Bag.ind
  rename_i F B
  obtain ⟨hn, ha⟩ := s.of
  obtain ⟨hm, hb⟩ := t.of
  rw [Bag.mk_add]
  refine St.mk' (s.ext.trans t.ext) ?_ fun a h => ?_
  · rw [List.map_append, List.nodup_append]
    refine ⟨hm, hn, fun x hx y hy => ?_⟩
    obtain ⟨x, hx1, rfl⟩ := List.mem_map.1 hx
    obtain ⟨y, hy1, rfl⟩ := List.mem_map.1 hy
    have h1 := (hb x hx1).1
    have h2 := s.lt y hy1
    omega
  · rcases List.mem_append.1 h with h | h
    · exact ⟨Nat.le_trans s.ext.size (hb a h).1, (hb a h).2⟩
    · exact ⟨(ha a h).1, t.ext.get (ha a h).2⟩
theorem St.push {h0 h : Hp} {F : Bag} (s : St h0 h F) (o : Obj) : St h0 (h.push o) (Bag.one (h.size, o) + F) := by
  refine s.join (B := Bag.one (h.size, o)) ?_
  rw [Bag.one_mk]
  exact St.mk' (Ext.push h o) (by simp) (by simp)
theorem St.new {h0 h : Hp} {F : Bag} {cs : List Value} {e : TypeId} {k : Nat → Hp → Prop} (s : St h0 h F) (hk : ∀ b h', Ext h h' → St h0 h' (cA b cs e + F) → k b h') : New h (.cells cs.toArray e) k := hk _ _ (Ext.push _ _) (s.push _)
theorem St.set {h0 h h' : Hp} {F : Bag} {b : Nat} {o o' : Obj} (s : St h0 h (Bag.one (b, o) + F)) (hz : h'.size = h.size) (hs : ∀ j, j ≠ b → h'[j]? = h[j]?) (hb : h'[b]? = some o') : St h0 h' (Bag.one (b, o') + F) := by
  induction F using Bag.ind
  rw [Bag.one_mk, Bag.mk_add] at s ⊢
  obtain ⟨hn, ha⟩ := s.of
  refine St.mk' ⟨by rw [hz]; exact s.ext.size, fun i hi => ?_⟩ (by simpa using hn) fun a h => ?_
  · rw [hs i (by have := (ha (b, o) (by simp)).1; omega)]; exact s.ext.same i hi
  · rcases List.mem_append.1 h with h1 | h1
    · simp at h1; subst h1; exact ⟨(ha (b, o) (by simp)).1, hb⟩
    · refine ⟨(ha a (by simp [h1])).1, ?_⟩
      rw [hs]
      · exact (ha a (by simp [h1])).2
      · rintro rfl
        simp at hn
        exact hn.1 _ h1
theorem St.wr {h0 h : Hp} {F : Bag} {a : Addr} {b o : Nat} {cs : List Value} {e : TypeId} {v : Value} {k : Hp → Prop} (s : St h0 h (cA b cs e + F)) (ha : a = ⟨b, o, none⟩) (ho : o < cs.length)
    (hk : ∀ h', St h0 h' (cA b (cs.set o v) e + F) → k h') : Wr h a v k :=
  yaqh ha s.blk ho fun h' hz hs hb => hk h' (s.set hz hs hb)
theorem St.write {h0 h h' : Hp} {F : Bag} {b : Nat} {o o' : Obj} (s : St h0 h (Bag.one (b, o) + F)) (hz : h.size ≤ h'.size) (hs : ∀ j, j < h.size → j ≠ b → h'[j]? = h[j]?) (hb : h'[b]? = some o') : St h0 h' (Bag.one (b, o') + F) := by
  induction F using Bag.ind
  rw [Bag.one_mk, Bag.mk_add] at s ⊢
  obtain ⟨hn, ha⟩ := s.of
  refine St.mk' ⟨Nat.le_trans s.ext.size hz, fun i hi => ?_⟩ (by simpa using hn) fun a h => ?_
  · rw [hs i (Nat.lt_of_lt_of_le hi s.ext.size) (by have := (ha (b, o) (by simp)).1; omega)]; exact s.ext.same i hi
  · rcases List.mem_append.1 h with h1 | h1
    · simp at h1; subst h1; exact ⟨(ha (b, o) (by simp)).1, hb⟩
    · refine ⟨(ha a (by simp [h1])).1, ?_⟩
      rw [hs]
      · exact (ha a (by simp [h1])).2
      · exact s.lt a (by simp [h1])
      · rintro rfl
        simp at hn
        exact hn.1 _ h1
theorem St.storesV {h0 : Hp} {F : Bag} {b : Nat} {e : TypeId} {k : Hp → Prop} {h : Hp} (vs : List Value) (o : Nat) (pre mid rest : List Value) (s : St h0 h (cA b (pre ++ mid ++ rest) e + F)) (hs : ∀ v ∈ vs, yafe v = true) (hp : pre.length = o) (hm : mid.length = vs.length)
    (hk : ∀ h', St h0 h' (cA b (pre ++ vs ++ rest) e + F) → k h') : Sx.storesV ⟨b, o, none⟩ k vs 0 h :=
  yahy vs 0 o h pre mid rest hs s.blk (by omega) hm fun h' hz hs' hb => hk h' (s.set hz hs' hb)
class Bag.Sub (A B : Bag) (C : outParam Bag) : Prop where
  eq : B = A + C
instance Bag.Sub.refl (A : Bag) : Bag.Sub A A 0 := ⟨(Bag.add_zero A).symm⟩
instance Bag.Sub.head (A Y : Bag) : Bag.Sub A (A + Y) Y := ⟨rfl⟩
instance Bag.Sub.left (A X Y C : Bag) [h : Bag.Sub A X C] : Bag.Sub A (X + Y) (C + Y) := ⟨by rw [h.eq, Bag.assoc]⟩
instance Bag.Sub.right (A X Y C : Bag) [h : Bag.Sub A Y C] : Bag.Sub A (X + Y) (X + C) := ⟨by rw [h.eq]; ac_rfl⟩
theorem St.at {h0 h : Hp} {B : Bag} (s : St h0 h B) (A : Bag) {C : Bag} [x : Bag.Sub A B C] : St h0 h (A + C) := x.eq ▸ s
structure Ty (α : Type) where
  e : TypeId
  sz : Nat
  enc : α → List Value
  d : α
  len : ∀ a, (enc a).length = sz
  pos : 0 < sz
  sc : ∀ a, ∀ v ∈ enc a, yafe v = true
section
variable {α : Type} (T : Ty α)
def Ty.cells (xs : List α) : List Value := xs.flatMap T.enc
theorem Ty.cells_len (xs : List α) : (T.cells xs).length = xs.length * T.sz := by
  induction xs with
  | nil => simp [Ty.cells]
  | cons x r ih => simp only [Ty.cells, List.flatMap_cons, List.length_append, T.len, List.length_cons] at ih ⊢; rw [ih, Nat.add_mul]; omega
theorem Ty.cells_append (xs ys : List α) : T.cells (xs ++ ys) = T.cells xs ++ T.cells ys := by simp [Ty.cells]
theorem Ty.cells_one (x : α) : T.cells [x] = T.enc x := by simp [Ty.cells]
theorem Ty.cells_cons (x : α) (xs : List α) : T.cells (x :: xs) = T.enc x ++ T.cells xs := rfl
theorem Ty.cells_take (xs : List α) (i : Nat) : T.cells (xs.take i) = (T.cells xs).take (i * T.sz) := by
  rcases Nat.lt_or_ge i xs.length with h | h
  · have : T.cells xs = T.cells (xs.take i) ++ T.cells (xs.drop i) := by rw [← T.cells_append, List.take_append_drop]
    have hl : (T.cells (xs.take i)).length = i * T.sz := by rw [T.cells_len, List.length_take, Nat.min_eq_left (by omega)]
    conv => rhs; rw [this]
    exact (List.take_left' hl).symm
  · rw [List.take_of_length_le h, List.take_of_length_le (by rw [T.cells_len]; exact Nat.mul_le_mul_right _ h)]
theorem Ty.cells_drop (xs : List α) (i : Nat) : T.cells (xs.drop i) = (T.cells xs).drop (i * T.sz) := by
  rcases Nat.lt_or_ge i xs.length with h | h
  · have : T.cells xs = T.cells (xs.take i) ++ T.cells (xs.drop i) := by rw [← T.cells_append, List.take_append_drop]
    have hl : (T.cells (xs.take i)).length = i * T.sz := by rw [T.cells_len, List.length_take, Nat.min_eq_left (by omega)]
    conv => rhs; rw [this]
    exact (List.drop_left' hl).symm
  · rw [List.drop_of_length_le h, List.drop_of_length_le (by rw [T.cells_len]; exact Nat.mul_le_mul_right _ h)]; rfl
theorem Ty.cells_sc (xs : List α) : ∀ v ∈ T.cells xs, yafe v = true := by
  intro v hv
  obtain ⟨x, _, hv⟩ := List.mem_flatMap.1 hv
  exact T.sc x v hv
theorem Ty.cells_get (xs : List α) {i j : Nat} (hi : i < xs.length) (hj : j < T.sz) : (T.cells xs)[i * T.sz + j]? = (T.enc (xs.getD i T.d))[j]? := by
  have e1 : xs = xs.take i ++ (xs[i] :: xs.drop (i + 1)) := by rw [← List.drop_eq_getElem_cons hi, List.take_append_drop]
  have hd : xs.getD i T.d = xs[i] := by simp [List.getD, hi]
  rw [hd]
  conv => lhs; rw [e1]
  have hl : (T.cells (xs.take i)).length = i * T.sz := by rw [T.cells_len, List.length_take, Nat.min_eq_left (by omega)]
  rw [T.cells_append, T.cells_cons, List.getElem?_append_right (by omega), hl, Nat.add_sub_cancel_left, List.getElem?_append_left (by rw [T.len]; exact hj)]
def RdT (h : Hp) (p : Option Addr) (n : Nat) (xs : List α) : Prop := xs.length = n ∧ (n = 0 ∨ ∃ a, p = some a ∧ ∀ i, i < n * T.sz → cell h (a.add i) = (T.cells xs)[i]?)
def Sl (p : Option Addr) (n c : Nat) (xs : List α) (A : Bag) : Prop :=
  xs.length = n ∧ ((p = none ∧ n = 0 ∧ c = 0 ∧ A = 0) ∨ ∃ b rest, p = some ⟨b, 0, none⟩ ∧ n ≤ c ∧ rest.length = (c - n) * T.sz ∧ A = cA b (T.cells xs ++ rest) T.e)
structure ElOk (P : Program) (t : TypeId) : Prop where
  el : elemT P t = some (T.e, T.sz)
  ni : yahz P t = true
  info : ∃ i0 z, P.info? T.e = some i0 ∧ i0.zero = some z ∧ z.cells.size = T.sz ∧ (∀ v ∈ z.cells.toList, yafe v = true) ∧ i0.bytes ≤ 1024
def elB (P : Program) (t : TypeId) : Bool :=
  (match elemT P t with | some (e', s) => Nat.beq T.e e' && Nat.beq s T.sz | none => false) && (yahz P t &&
  (match P.info? T.e with | some i0 => (match i0.zero with | some z => Nat.beq z.cells.size T.sz && (z.cells.toList.all yafe && Nat.ble i0.bytes 1024) | none => false) | none => false))
end
section
variable {α : Type} {T : Ty α}
theorem yafi {P : Program} {t : TypeId} (h : elB T P t = true) : ElOk T P t := by
  unfold elB at h
  simp only [Bool.and_eq_true] at h
  obtain ⟨h1, h2, h3⟩ := h
  refine ⟨?_, h2, ?_⟩
  · split at h1
    · rename_i e' s he
      simp only [Bool.and_eq_true] at h1
      rw [he, Nat.eq_of_beq_eq_true h1.1, Nat.eq_of_beq_eq_true h1.2]
    · cases h1
  · split at h3
    · rename_i i0 hi
      split at h3
      · rename_i z hz
        simp only [Bool.and_eq_true] at h3
        exact ⟨i0, z, hi, hz, Nat.eq_of_beq_eq_true h3.1, fun v hv => List.all_eq_true.1 h3.2.1 v hv, Nat.le_of_ble_eq_true h3.2.2⟩
      · cases h3
    · cases h3
theorem RdT.len {h : Hp} {p : Option Addr} {n : Nat} {xs : List α} (r : RdT T h p n xs) : xs.length = n := r.1
theorem RdT.nil (h : Hp) (p : Option Addr) : RdT T h p 0 [] := ⟨rfl, .inl rfl⟩
theorem RdT.rd {h : Hp} {p : Option Addr} {n : Nat} {xs : List α} (r : RdT T h p n xs) : Rd h p (n * T.sz) (T.cells xs) := by
  refine ⟨by rw [T.cells_len, r.1], ?_⟩
  rcases r.2 with h0 | h0
  · exact .inl (by rw [h0, Nat.zero_mul])
  · exact .inr h0
theorem RdT.of_rd {h : Hp} {p : Option Addr} {n : Nat} {xs : List α} (hl : xs.length = n) (r : Rd h p (n * T.sz) (T.cells xs)) : RdT T h p n xs := by
  refine ⟨hl, ?_⟩
  rcases r.2 with h0 | h0
  · exact .inl (by rcases Nat.mul_eq_zero.1 h0 with h1 | h1; exact h1; exact absurd h1 (Nat.ne_of_gt T.pos))
  · exact .inr h0
theorem RdT.same {h h' : Hp} {p : Option Addr} {n : Nat} {xs : List α} (r : RdT T h p n xs) (e : ∀ a, p = some a → h'[a.block]? = h[a.block]?) : RdT T h' p n xs := .of_rd r.1 (r.rd.same e)
theorem RdT.ext {h h' : Hp} {p : Option Addr} {n : Nat} {xs : List α} (r : RdT T h p n xs) (e : Ext h h') : RdT T h' p n xs := .of_rd r.1 (r.rd.ext e)
theorem RdT.at_ {h : Hp} {p : Option Addr} {n : Nat} {xs : List α} (r : RdT T h p n xs) {i : Nat} (hi : i < n) : ∃ a, p = some a ∧ ∀ j, j < T.sz → cell h ((a.add (i * T.sz)).add j) = (T.enc (xs.getD i T.d))[j]? := by
  rcases r.2 with h0 | ⟨a, hp, hc⟩
  · omega
  · refine ⟨a, hp, fun j hj => ?_⟩
    rw [yadc, hc, T.cells_get xs (by rw [r.1]; exact hi) hj]
    calc i * T.sz + j < i * T.sz + T.sz := by omega
      _ = (i + 1) * T.sz := by rw [Nat.add_mul, Nat.one_mul]
      _ ≤ n * T.sz := Nat.mul_le_mul_right _ hi
theorem RdT.take {h : Hp} {p : Option Addr} {n i : Nat} {xs : List α} (r : RdT T h p n xs) (hi : i ≤ n) : RdT T h p i (xs.take i) := by
  have hl := r.len
  refine .of_rd (by rw [List.length_take]; omega) ?_
  rw [T.cells_take]
  exact r.rd.take (Nat.mul_le_mul_right _ hi)
theorem RdT.sub {h : Hp} {p : Option Addr} {n c i m : Nat} {xs : List α} (r : RdT T h p n xs) (hi : i ≤ n) (hc : n ≤ c) (hm : m = n - i) : RdT T h (yaao p c i T.sz) m (xs.drop i) := by
  subst hm
  have hl := r.len
  refine ⟨by simp [hl], ?_⟩
  unfold yaao
  by_cases h1 : c = i
  · exact .inl (by omega)
  · rw [if_neg h1]
    rcases r.2 with h0 | ⟨a, rfl, hc'⟩
    · exact .inl (by omega)
    · refine .inr ⟨_, rfl, fun j hj => ?_⟩
      rw [Nat.sub_mul] at hj
      rw [yadc, hc' _ (by omega), T.cells_drop, List.getElem?_drop]
theorem RdT.readsL {h : Hp} {p : Option Addr} {n : Nat} {xs : List α} (r : RdT T h p n xs) : Sx.readsL h p (T.cells xs) := by
  rcases r.rd.readsL with h1 | h1
  · exact h1
  · have : T.cells xs = [] := List.eq_nil_of_length_eq_zero (by rw [T.cells_len, r.1]; exact h1)
    rw [this]
    cases p with
    | none => rfl
    | some a => intro i hi; cases hi
theorem Sl.len {p : Option Addr} {n c : Nat} {xs : List α} {A : Bag} (a : Sl T p n c xs A) : xs.length = n := a.1
theorem Sl.cap {p : Option Addr} {n c : Nat} {xs : List α} {A : Bag} (a : Sl T p n c xs A) : n ≤ c := by
  rcases a.2 with ⟨_, h1, h2, _⟩ | ⟨_, _, _, h1, _⟩ <;> omega
theorem Sl.nil : Sl T none 0 0 [] 0 := ⟨rfl, .inl ⟨rfl, rfl, rfl, rfl⟩⟩
theorem Sl.rd {p : Option Addr} {n c : Nat} {xs : List α} {A F : Bag} {h0 h : Hp} (a : Sl T p n c xs A) (s : St h0 h (A + F)) : RdT T h p n xs := by
  rcases a with ⟨hl, ⟨rfl, rfl, rfl, rfl⟩ | ⟨b, rest, rfl, hc, hr, rfl⟩⟩
  · exact ⟨hl, .inl rfl⟩
  · refine .of_rd hl ?_
    have := Rd.of_blk s.blk (n := n * T.sz) (by rw [List.length_append, T.cells_len, hl]; omega)
    rwa [List.take_append_of_le_length (by rw [T.cells_len, hl]; omega), List.take_of_length_le (by rw [T.cells_len, hl]; omega)] at this
theorem Sl.of_blk {b : Nat} {xs : List α} {n : Nat} (hl : xs.length = n) {cs : List Value} (hc : cs = T.cells xs) : Sl T (some ⟨b, 0, none⟩) n n xs (cA b cs T.e) :=
  ⟨hl, .inr ⟨b, [], rfl, Nat.le_refl _, by simp, by rw [List.append_nil, hc]⟩⟩
theorem Sl.take {p : Option Addr} {n c i : Nat} {xs : List α} {A : Bag} (a : Sl T p n c xs A) (hi : i ≤ n) : Sl T p i c (xs.take i) A := by
  rcases a with ⟨hl, ⟨rfl, rfl, rfl, rfl⟩ | ⟨b, rest, rfl, hc, hr, rfl⟩⟩
  · have : i = 0 := by omega
    subst this
    exact ⟨by simp, .inl ⟨rfl, rfl, rfl, rfl⟩⟩
  · refine ⟨by rw [List.length_take]; omega, .inr ⟨b, T.cells (xs.drop i) ++ rest, rfl, by omega, ?_, ?_⟩⟩
    · rw [List.length_append, T.cells_len, List.length_drop, hr, hl, ← Nat.add_mul]; congr 1; omega
    · rw [← List.append_assoc, ← T.cells_append, List.take_append_drop]
theorem yacu {p : Option Addr} {c sz : Nat} : yaao p c 0 sz = p := by
  unfold yaao
  split
  · rfl
  · cases p <;> simp [Addr.add]
theorem yabw {b o c i sz : Nat} (h : c ≠ i) : yaao (some ⟨b, o, none⟩) c i sz = some ⟨b, o + i * sz, none⟩ := by
  unfold yaao
  rw [if_neg h, Option.map_some, yabj]
theorem yahc (_n c m : Nat) (h : c < m) : Builtin.nextslicecap m c ≤ 2 * m := by
  unfold Builtin.nextslicecap
  split
  · omega
  · split
    · omega
    · simp only [Builtin.growBy]
      split
      · omega
      · split
        · omega
        · split
          · omega
          · split <;> omega
theorem yafb (n : Nat) (zs : List Value) : (repL n zs).length = n := by simp [repL]
theorem yacb {P : Program} {t : TypeId} {h0 h : Hp} {p q : Option Addr} {n c m c2 : Nat} {xs ys : List α} {A F : Bag} {k : Option Addr → Nat → Nat → Hp → Prop}
    (ok : ElOk T P t) (s : St h0 h (A + F)) (a : Sl T p n c xs A) (r : RdT T h q m ys) (hn : n + m < 1073741824)
    (hk : ∀ p' c' h' A', Sl T p' (n + m) c' (xs ++ ys) A' → St h0 h' (A' + F) → k p' (n + m) c' h') :
    yaaz P t t (.slice p n c) (.slice q m c2) h (slK k) := by
  obtain ⟨i0, z, hi, hz, hzs, hzc, hbt⟩ := ok.info
  have hyl := r.len
  have hcell : (T.cells ys).length = m * T.sz := by rw [T.cells_len, hyl]
  unfold yaaz
  rw [ok.el, ok.ni]
  refine ⟨T.cells ys, hcell, r.readsL, fun hle => ?_, fun hlt => ?_⟩
  · rcases a with ⟨hl, ⟨rfl, rfl, rfl, rfl⟩ | ⟨b, rest, rfl, hc, hr, rfl⟩⟩
    · have : m = 0 := by omega
      subst this
      have : ys = [] := List.eq_nil_of_length_eq_zero hyl
      subst this
      exact hk none 0 h 0 ⟨by rw [List.append_nil]; exact hl, .inl ⟨rfl, rfl, rfl, rfl⟩⟩ s
    · have hm2 : m * T.sz ≤ rest.length := by rw [hr]; exact Nat.mul_le_mul_right _ (by omega)
      have hrest : rest = rest.take (m * T.sz) ++ rest.drop (m * T.sz) := (List.take_append_drop _ rest).symm
      rw [hrest, ← List.append_assoc] at s
      simp only [yaeg, yabj, Nat.zero_add]
      refine s.storesV (T.cells ys) (n * T.sz) (T.cells xs) (rest.take (m * T.sz)) (rest.drop (m * T.sz)) (T.cells_sc ys) (by rw [T.cells_len, hl]) (by rw [List.length_take, hcell]; omega) fun h' s' => ?_
      refine hk _ c h' _ ⟨by simp; omega, .inr ⟨b, rest.drop (m * T.sz), rfl, by omega, ?_, rfl⟩⟩ ?_
      · rw [List.length_drop, hr, ← Nat.sub_mul]; congr 1; omega
      · rwa [T.cells_append]
  · have hncap := yahc n c (n + m) hlt
    have hbt' : yaet P T.e = i0.bytes := by unfold yaet; rw [hi]
    have hrx := a.rd s
    refine ⟨⟨?_, by omega⟩, T.cells xs, by rw [T.cells_len, a.len], hrx.readsL, ?_⟩
    · rw [hbt']
      have h1 : Builtin.nextslicecap (n + m) c * i0.bytes ≤ (2 * (n + m)) * 1024 := Nat.mul_le_mul hncap hbt
      omega
    · unfold zeroV
      rw [hi]
      simp only [hz]
      intro c' hc' _
      refine s.drop.new fun b h' _ s' => ?_
      refine hk _ c' h' _ ⟨by have := a.len; simp; omega, .inr ⟨b, repL ((c' - (n + m)) * z.cells.size) z.cells.toList, rfl, hc', by rw [yafb, hzs], rfl⟩⟩ ?_
      rw [T.cells_append]
      exact s'
theorem yank {P : Program} {t : TypeId} {e' : TypeId} {h0 h : Hp} {p : Option Addr} {n c : Nat} {xs : List α} {x : α} {cs : List Value} {A F : Bag} {k : Option Addr → Nat → Nat → Hp → Prop}
    (ok : ElOk T P t) (s : St h0 h (A + F)) (a : Sl T p n c xs A) (hx : cs = T.enc x) (he : e' = T.e) (hn : n + 1 < 1073741824)
    (hk : ∀ p' c' h' A', Sl T p' (n + 1) c' (xs ++ [x]) A' → St h0 h' (A' + F) → k p' (n + 1) c' h') :
    New h (.cells cs.toArray e') fun b h1 => yaaz P t t (.slice p n c) (.slice (some ⟨b, 0, none⟩) 1 1) h1 (slK k) := by
  subst he
  refine s.new fun b h1 _ s1 => ?_
  have sx : Sl T (some ⟨b, 0, none⟩) 1 1 [x] (cA b cs T.e) := Sl.of_blk rfl (by rw [hx, T.cells_one])
  have s2 : St h0 h1 (A + (cA b cs T.e + F)) := s1.to
  refine yacb ok s2 a (sx.rd s1) hn fun p' c' h' A' a' s' => hk p' c' h' A' a' (s'.to (B := cA b cs T.e + (A' + F))).drop
theorem yarf {P : Program} {t : TypeId} {h0 h : Hp} {p q : Option Addr} {n c m c2 : Nat} {xs ys : List α} {A F : Bag} {k : Option Addr → Nat → Nat → Hp → Prop}
    (ok : ElOk T P t) (s : St h0 h (A + F)) (a : Sl T p n c xs A) (r : RdT T h q m ys) (hn : n + m < 1073741824) (hcm : c ≤ 9223372036854775807)
    (hk : ∀ p' c' h' A', c' ≤ 9223372036854775807 → Sl T p' (n + m) c' (xs ++ ys) A' → St h0 h' (A' + F) → k p' (n + m) c' h') :
    yaaz P t t (.slice p n c) (.slice q m c2) h (slK k) := by
  obtain ⟨i0, z, hi, hz, hzs, hzc, hbt⟩ := ok.info
  have hyl := r.len
  have hcell : (T.cells ys).length = m * T.sz := by rw [T.cells_len, hyl]
  unfold yaaz
  rw [ok.el, ok.ni]
  refine ⟨T.cells ys, hcell, r.readsL, fun hle => ?_, fun hlt => ?_⟩
  · rcases a with ⟨hl, ⟨rfl, rfl, rfl, rfl⟩ | ⟨b, rest, rfl, hc, hr, rfl⟩⟩
    · have : m = 0 := by omega
      subst this
      have : ys = [] := List.eq_nil_of_length_eq_zero hyl
      subst this
      exact hk none 0 h 0 (Nat.zero_le _) ⟨by rw [List.append_nil]; exact hl, .inl ⟨rfl, rfl, rfl, rfl⟩⟩ s
    · have hm2 : m * T.sz ≤ rest.length := by rw [hr]; exact Nat.mul_le_mul_right _ (by omega)
      have hrest : rest = rest.take (m * T.sz) ++ rest.drop (m * T.sz) := (List.take_append_drop _ rest).symm
      rw [hrest, ← List.append_assoc] at s
      simp only [yaeg, yabj, Nat.zero_add]
      refine s.storesV (T.cells ys) (n * T.sz) (T.cells xs) (rest.take (m * T.sz)) (rest.drop (m * T.sz)) (T.cells_sc ys) (by rw [T.cells_len, hl]) (by rw [List.length_take, hcell]; omega) fun h' s' => ?_
      refine hk _ c h' _ hcm ⟨by simp; omega, .inr ⟨b, rest.drop (m * T.sz), rfl, by omega, ?_, rfl⟩⟩ ?_
      · rw [List.length_drop, hr, ← Nat.sub_mul]; congr 1; omega
      · rwa [T.cells_append]
  · have hncap := yahc n c (n + m) hlt
    have hbt' : yaet P T.e = i0.bytes := by unfold yaet; rw [hi]
    have hrx := a.rd s
    refine ⟨⟨?_, by omega⟩, T.cells xs, by rw [T.cells_len, a.len], hrx.readsL, ?_⟩
    · rw [hbt']
      have h1 : Builtin.nextslicecap (n + m) c * i0.bytes ≤ (2 * (n + m)) * 1024 := Nat.mul_le_mul hncap hbt
      omega
    · unfold zeroV
      rw [hi]
      simp only [hz]
      intro c' hc' hc2
      refine s.drop.new fun b h' _ s' => ?_
      refine hk _ c' h' _ hc2 ⟨by have := a.len; simp; omega, .inr ⟨b, repL ((c' - (n + m)) * z.cells.size) z.cells.toList, rfl, hc', by rw [yafb, hzs], rfl⟩⟩ ?_
      rw [T.cells_append]
      exact s'
theorem yaru {P : Program} {t : TypeId} {e' : TypeId} {h0 h : Hp} {p : Option Addr} {n c : Nat} {xs : List α} {x : α} {cs : List Value} {A F : Bag} {k : Option Addr → Nat → Nat → Hp → Prop}
    (ok : ElOk T P t) (s : St h0 h (A + F)) (a : Sl T p n c xs A) (hx : cs = T.enc x) (he : e' = T.e) (hn : n + 1 < 1073741824) (hcm : c ≤ 9223372036854775807)
    (hk : ∀ p' c' h' A', c' ≤ 9223372036854775807 → Sl T p' (n + 1) c' (xs ++ [x]) A' → St h0 h' (A' + F) → k p' (n + 1) c' h') :
    New h (.cells cs.toArray e') fun b h1 => yaaz P t t (.slice p n c) (.slice (some ⟨b, 0, none⟩) 1 1) h1 (slK k) := by
  subst he
  refine s.new fun b h1 _ s1 => ?_
  have sx : Sl T (some ⟨b, 0, none⟩) 1 1 [x] (cA b cs T.e) := Sl.of_blk rfl (by rw [hx, T.cells_one])
  have s2 : St h0 h1 (A + (cA b cs T.e + F)) := s1.to
  refine yarf ok s2 a (sx.rd s1) hn hcm fun p' c' h' A' hb a' s' => hk p' c' h' A' hb a' (s'.to (B := cA b cs T.e + (A' + F))).drop
theorem Sl.wr {h0 h : Hp} {p : Option Addr} {n c i j : Nat} {xs : List α} {A F : Bag} {v : Value} {x : α} {k : Hp → Prop} (a : Sl T p n c xs A) (s : St h0 h (A + F)) (hi : i < n) (hj : j < T.sz) (hx : T.enc x = (T.enc (xs.getD i T.d)).set j v)
    (hk : ∀ h' A', Sl T p n c (xs.set i x) A' → St h0 h' (A' + F) → k h') : ∃ ad, p = some ad ∧ Wr h ((ad.add (i * T.sz)).add j) v k := by
  rcases a with ⟨hl, ⟨rfl, rfl, rfl, rfl⟩ | ⟨b, rest, rfl, hc, hr, rfl⟩⟩
  · omega
  · refine ⟨_, rfl, ?_⟩
    have hlt : i * T.sz + j < (T.cells xs).length := by
      rw [T.cells_len, hl]
      calc i * T.sz + j < i * T.sz + T.sz := by omega
        _ = (i + 1) * T.sz := by rw [Nat.add_mul, Nat.one_mul]
        _ ≤ n * T.sz := Nat.mul_le_mul_right _ hi
    refine s.wr (o := i * T.sz + j) (by rw [yabj, yabj, Nat.zero_add]) (by rw [List.length_append]; omega) fun h' s' => ?_
    refine hk h' _ ⟨by simp [hl], .inr ⟨b, rest, rfl, hc, hr, rfl⟩⟩ ?_
    have e1 : T.cells (xs.set i x) ++ rest = (T.cells xs ++ rest).set (i * T.sz + j) v := by
      rw [List.set_append_left _ _ hlt]
      congr 1
      have hil : i < xs.length := by omega
      have ed : xs.getD i T.d = xs[i] := by simp [List.getD, hil]
      have e2 : xs = xs.take i ++ (xs[i] :: xs.drop (i + 1)) := by rw [← List.drop_eq_getElem_cons hil, List.take_append_drop]
      have hl2 : (T.cells (xs.take i)).length = i * T.sz := by rw [T.cells_len, List.length_take, Nat.min_eq_left (by omega)]
      have e3 : xs.set i x = xs.take i ++ (x :: xs.drop (i + 1)) := by
        rw [List.set_eq_take_append_cons_drop, if_pos hil]
      rw [e3, T.cells_append, T.cells_cons, hx, ed]
      conv => rhs; rw [e2]
      rw [T.cells_append, T.cells_cons, List.set_append_right _ _ (by omega), hl2, Nat.add_sub_cancel_left, List.set_append_left _ _ (by rw [T.len]; exact hj)]
    rw [e1]
    exact s'
end
open Go
section
variable {α : Type} {T : Ty α}
theorem yany {P : Program} {t : TypeId} {h0 h : Hp} {b o n c1 m c2 j : Nat} {e : TypeId} {q : Option Addr} {pre mid rest : List Value} {ys : List α} {F : Bag} {K : Int → Hp → Prop}
    (ok : ElOk T P t) (s : St h0 h (cA b (pre ++ mid ++ rest) e + F)) (r : RdT T h q j ys) (ho : pre.length = o) (hj : j = min m n) (hm : mid.length = j * T.sz)
    (hk : ∀ v h', St h0 h' (cA b (pre ++ T.cells ys ++ rest) e + F) → v = (j : Int) → K v h') :
    copyV P t (.slice (some ⟨b, o, none⟩) n c1) (.slice q m c2) h (fun v h => ∃ n : Int, v = .int .i64 n ∧ K n h) := by
  unfold copyV
  rw [ok.el]
  have hc : (T.cells ys).length = j * T.sz := by rw [T.cells_len, r.len]
  refine ⟨T.cells ys, by rw [hc, hj], r.readsL, ?_⟩
  show storesV ((⟨b, o, none⟩ : Addr).add 0) _ _ 0 h
  rw [yabj]
  exact s.storesV _ o pre mid rest (T.cells_sc _) ho (by rw [hm, hc]) fun h' s' => ⟨_, rfl, hk _ h' s' (by rw [hj])⟩
theorem yaov (n : Nat) (zs : List Value) (hz : zs ≠ []) (hs : ∀ v ∈ zs, yafe v = true) : ∀ v ∈ repL n zs, yafe v = true := by
  intro v hv
  unfold repL at hv
  obtain ⟨i, _, rfl⟩ := List.mem_map.1 hv
  have hp : 0 < zs.length := List.length_pos_iff.2 hz
  have h1 : i % zs.length < zs.length := Nat.mod_lt _ hp
  rw [yacq, List.getElem?_eq_getElem h1]
  exact hs _ (List.getElem_mem h1)
theorem yajj {P : Program} {t t2 : TypeId} {h0 h : Hp} {p : Option Addr} {n c : Nat} {l : Int} {xs : List α} {F : Bag} {k : Option Addr → Nat → Nat → Hp → Prop}
    (ok : ElOk T P t) (ht2 : yahz P t2 = false) (hk2 : (yaek P t2).isSome = true) (s : St h0 h F)
    (r : RdT T h p n xs) (hn : n + l.toNat < 1073741824) (hl0 : 0 ≤ l) (hc : c < n + l.toNat)
    (hk : ∀ b c' h' mid rest, n + l.toNat ≤ c' → mid.length = l.toNat * T.sz → rest.length = (c' - (n + l.toNat)) * T.sz → St h0 h' (cA b (T.cells xs ++ mid ++ rest) T.e + F) → k (some ⟨b, 0, none⟩) (n + l.toNat) c' h') :
    yaaz P t t2 (.slice p n c) (.int .i64 l) h (slK k) := by
  obtain ⟨i0, z, hi, hz, hzs, hzc, hbt⟩ := ok.info
  have hbe : yaet P T.e = i0.bytes := by unfold yaet; rw [hi]
  unfold yaaz
  rw [ok.el, ht2]
  have hb1 : l * (i0.bytes : Int) ≤ l * 1024 := Int.mul_le_mul_of_nonneg_left (by omega) hl0
  refine ⟨⟨hl0, by omega, by rw [hbe]; omega, Nat.ne_of_gt T.pos, hk2⟩, ?_⟩
  unfold zeroV
  rw [hi]
  simp only [hz]
  refine ⟨fun hle => by omega, fun _ => ⟨⟨?_, by omega⟩, T.cells xs, by rw [T.cells_len, r.len], r.readsL, fun c' hc' => ?_⟩⟩
  · have h1 : Builtin.nextslicecap (n + l.toNat) c * i0.bytes ≤ 2 * (n + l.toNat) * 1024 := Nat.mul_le_mul (yahc n c _ hc) hbt
    rw [hbe]
    omega
  · refine s.new fun b h' _ s' => hk b c' h' _ _ hc' ?_ ?_ s'
    · rw [yafb, hzs]
    · rw [yafb, hzs]
theorem yakw {P : Program} {t : TypeId} {h0 h : Hp} {b n c m c2 : Nat} {e : TypeId} {q : Option Addr} {pre mid rest : List Value} {ys : List α} {F : Bag} {k : Option Addr → Nat → Nat → Hp → Prop}
    (ok : ElOk T P t) (s : St h0 h (cA b (pre ++ mid ++ rest) e + F)) (hp : pre.length = n * T.sz) (hm : mid.length = m * T.sz) (r : RdT T h q m ys) (hc : n + m ≤ c)
    (hk : ∀ h', St h0 h' (cA b (pre ++ T.cells ys ++ rest) e + F) → k (some ⟨b, 0, none⟩) (n + m) c h') :
    yaaz P t t (.slice (some ⟨b, 0, none⟩) n c) (.slice q m c2) h (slK k) := by
  unfold yaaz
  rw [ok.el, ok.ni]
  have hcl : (T.cells ys).length = m * T.sz := by rw [T.cells_len, r.len]
  refine ⟨T.cells ys, hcl, r.readsL, fun _ => ?_, fun hlt => by omega⟩
  simp only [yaeg, yabj, Nat.zero_add]
  exact s.storesV _ (n * T.sz) pre mid rest (T.cells_sc _) hp (by rw [hm, hcl]) hk
theorem yama {P : Program} {t : TypeId} {h0 h : Hp} {b o n c : Nat} {e : TypeId} {pre mid rest : List Value} {F : Bag} {k : Hp → Prop}
    (ok : ElOk T P t) (s : St h0 h (cA b (pre ++ mid ++ rest) e + F)) (hp : pre.length = o) (hm : mid.length = n * T.sz)
    (hk : ∀ h' zs, zs.length = n * T.sz → St h0 h' (cA b (pre ++ zs ++ rest) e + F) → k h') :
    yait P t (.slice (some ⟨b, o, none⟩) n c) h k := by
  obtain ⟨i0, z, hi, hz, hzs, hzc, hbt⟩ := ok.info
  unfold yait zeroV
  rw [ok.el]
  simp only [hi, hz, yaeg, yabj, Nat.add_zero]
  have hne : z.cells.toList ≠ [] := by
    intro h1
    have h2 : z.cells.size = 0 := by rw [← Array.length_toList, h1]; rfl
    have := T.pos
    omega
  refine s.storesV _ o pre mid rest (yaov _ _ hne hzc) hp (by rw [hm, yafb, hzs]) fun h' s' => hk h' _ (by rw [yafb, hzs]) s'
theorem RdT.idx {h : Hp} {p : Option Addr} {n : Nat} {xs : List α} {i : Int} {Q : Addr → Prop} (r : RdT T h p n xs) (h0 : 0 ≤ i) (h1 : i < n)
    (hq : ∀ a, p = some a → (∀ j, j < T.sz → cell h ((a.add (i.toNat * T.sz)).add j) = (T.enc (xs.getD i.toNat T.d))[j]?) → Q a) : (0 ≤ i ∧ i < (n : Int)) ∧ NN p Q := by
  refine ⟨⟨h0, h1⟩, ?_⟩
  obtain ⟨a, rfl, hc⟩ := r.at_ (i := i.toNat) (by omega)
  exact hq a rfl hc
theorem Sl.wrI {h0 h : Hp} {p : Option Addr} {n c : Nat} {i : Int} {xs : List α} {A F : Bag} {v : Value} {x : α} {k : Hp → Prop} (a : Sl T p n c xs A) (s : St h0 h (A + F)) (h1 : 0 ≤ i) (hi : i < n) (hsz : T.sz = 1) (hx : T.enc x = [v])
    (hk : ∀ h' A', Sl T p n c (xs.set i.toNat x) A' → St h0 h' (A' + F) → k h') : (0 ≤ i ∧ i < (n : Int)) ∧ NN p fun ad => Wr h (ad.add (i.toNat * 1)) v k := by
  refine ⟨⟨h1, hi⟩, ?_⟩
  obtain ⟨w, hw⟩ : ∃ w, T.enc (xs.getD i.toNat T.d) = [w] := List.length_eq_one_iff.1 (by rw [T.len, hsz])
  obtain ⟨ad, rfl, hwr⟩ := a.wr (i := i.toNat) (j := 0) s (by omega) (by omega) (x := x) (v := v) (by rw [hx, hw]; rfl) hk
  rw [hsz] at hwr
  exact hwr
end
abbrev tI (e : TypeId) : Ty Int := ⟨e, 1, fun z => [.int .i64 z], 0, fun _ => rfl, by decide, fun _ v hv => by simp at hv; subst hv; rfl⟩
abbrev tP (e : TypeId) : Ty Nat := ⟨e, 1, fun b => [.pointer (some ⟨b, 0, none⟩)], 0, fun _ => rfl, by decide, fun _ v hv => by simp at hv; subst hv; rfl⟩
theorem yawn (e : TypeId) (zs : List Int) : (tI e).cells zs = zs.map (Value.int .i64) := by
  induction zs with
  | nil => rfl
  | cons z r ih => rw [Ty.cells_cons, ih]; rfl
theorem RdT.ints {e : TypeId} {h : Hp} {p : Option Addr} {n : Nat} {zs : List Int} (r : RdT (tI e) h p n zs) : Rd h p n (zs.map (Value.int .i64)) := by
  have := r.rd
  rw [yawn] at this
  rwa [show n * (tI e).sz = n from Nat.mul_one n] at this
theorem RdT.int {e : TypeId} {h : Hp} {p : Option Addr} {n : Nat} {zs : List Int} {i : Int} {Q : Int → Prop} (r : RdT (tI e) h p n zs) (h0 : 0 ≤ i) (h1 : i < n) (hq : Q (zs.getD i.toNat 0)) :
    (0 ≤ i ∧ i < (n : Int)) ∧ NN p fun a => ∃ x, cell h (a.add (i.toNat * 1)) = some (.int .i64 x) ∧ Q x := yban r.ints h0 h1 hq
theorem RdT.ptr {e : TypeId} {h : Hp} {p : Option Addr} {n : Nat} {zs : List Nat} {i : Int} {Q : Option Addr → Prop} (r : RdT (tP e) h p n zs) (h0 : 0 ≤ i) (h1 : i < n) (hq : Q (some ⟨zs.getD i.toNat 0, 0, none⟩)) :
    (0 ≤ i ∧ i < (n : Int)) ∧ NN p fun a => ∃ x : Option Addr, cell h (a.add (i.toNat * 1)) = some (.pointer x) ∧ Q x :=
  r.idx h0 h1 fun _ _ hc => ⟨_, hc 0 Nat.one_pos, hq⟩
open Go
theorem St.atomBlk {h0 h : Hp} {b b' : Nat} {cs cs' : List Value} {e e' : TypeId} {F : Bag} (s : St h0 h (cA b cs e + (cA b' cs' e' + F))) : Blk h b' cs' e' := (s.to (B := cA b' cs' e' + (cA b cs e + F))).blk
theorem Sl.one {α : Type} {T : Ty α} {b : Nat} {x : α} {cs : List Value} (hx : cs = T.enc x) : Sl T (some ⟨b, 0, none⟩) 1 1 [x] (cA b cs T.e) := Sl.of_blk rfl (by rw [hx, T.cells_one])
theorem yaoa {P : Program} {g : Nat} {ps rs : Array TypeId} {h0 h : Hp} {t e : TypeId} {i0 : TypeInfo} {b1 o1 b2 o2 : Nat} {la ca lb cb : Nat} {xs ys : List Value} {e1 e2 : TypeId} {F : Bag} {K : Value → Prop}
    (hx : IsExt P g (Extern.SlicesOverlaps.overlaps ps rs)) (hp : ps[0]? = some t) (ht : P.underlying t = some (.slice e)) (hi : P.info? e = some i0)
    (s : St h0 h (cA b1 xs e1 + (cA b2 ys e2 + F))) (hk : K (.bool false)) : yakl P g #[.slice (some ⟨b1, o1, none⟩) la ca, .slice (some ⟨b2, o2, none⟩) lb cb] h K :=
  yapa hx hp ht hi s.ne s.blk s.atomBlk hk
open Go
theorem ybbs {P : Program} {t e : TypeId} {sz : Nat} {h : Hp} {p : Option Addr} {n c i j m : Nat} {K : Option Addr → Nat → Nat → Prop} (he : elemT P t = some (e, sz)) (h1 : i ≤ j) (h2 : j ≤ m) (h3 : m ≤ c)
    (hk : ∀ a, K a (j - i) (m - i)) : ∃ (a : Option Addr) (l c' : Nat), slC P t (.slice p n c) (some (.int .i64 i)) (some (.int .i64 j)) (.int .i64 m) h a l c' ∧ K a l c' := by
  obtain ⟨hu, inf, hinf, hsz⟩ := yabq he
  refine ⟨_, _, _, ?_, hk (if m = i then p else p.map (·.add (i * inf.size)))⟩
  unfold slC
  simp only [Instr.sliceAt, yaag, yaai, hu, Instr.slice, Instr.sliceBounds, Option.isSome_some, if_true]
  have b1 : ∀ {y : Nat} {cd : BoundsCode} {x : Nat} {Q : Nat → Prop}, x ≤ y → Q x → hq P (Instr.sliceBound (.int .i64 (x : Int)) y cd) h Q := fun hxy hq => yagi ⟨by omega, by omega⟩ (by rw [Int.toNat_natCast]; exact hq)
  refine b1 h3 ?_
  refine b1 h2 ?_
  refine b1 h1 ?_
  simp only [yaam, yabn, hinf]
open Go
open Go
theorem RdT.again {e : TypeId} {h : Hp} {p : Option Addr} {n : Nat} {zs : List Int} {i : Nat} {a : Addr} {z : Int} (r : RdT (tI e) h p n zs) (ha : p = some a) (hi : i < n) (hz : zs.getD i 0 = z) :
    ∃ m, cell h (a.add (i * 1)) = some (.int .i64 m) ∧ (.int .i64 m : Value) = .int .i64 z := by
  obtain ⟨a', ha', hc⟩ := r.at_ hi
  rw [ha] at ha'
  cases ha'
  exact ⟨_, hc 0 Nat.one_pos, by rw [← hz]⟩
open Go
def AllH {α β : Type} (P : β → α → Bag → Prop) : List β → List α → Bag → Prop
  | [], [], A => A = 0
  | b :: bs, t :: ts, A => ∃ A1 A2, A = A1 + A2 ∧ P b t A1 ∧ AllH P bs ts A2
  | _, _, _ => False
section
variable {α β : Type} {P : β → α → Bag → Prop}
theorem AllH.len : ∀ {bs : List β} {ts : List α} {A : Bag}, AllH P bs ts A → bs.length = ts.length
  | [], [], _, _ => rfl
  | [], _ :: _, _, h => h.elim
  | _ :: _, [], _, h => h.elim
  | _ :: bs, _ :: ts, _, ⟨_, _, _, _, h⟩ => by simp [AllH.len h]
theorem AllH.append : ∀ {bs : List β} {ts : List α} {A : Bag} {bs' : List β} {ts' : List α} {A' : Bag}, AllH P bs ts A → AllH P bs' ts' A' → AllH P (bs ++ bs') (ts ++ ts') (A + A')
  | [], [], _, _, _, A', h, h' => by
    obtain rfl : _ = (0 : Bag) := h
    rw [Bag.zero_add]; exact h'
  | [], _ :: _, _, _, _, _, h, _ => h.elim
  | _ :: _, [], _, _, _, _, h, _ => h.elim
  | _ :: _, _ :: _, _, _, _, _, ⟨A1, A2, e, h1, h2⟩, h' => ⟨A1, _, by rw [e, Bag.assoc], h1, AllH.append h2 h'⟩
theorem AllH.split : ∀ (bs : List β) (ts : List α) {A : Bag} {bs' : List β} {ts' : List α}, bs.length = ts.length → AllH P (bs ++ bs') (ts ++ ts') A → ∃ A1 A2, A = A1 + A2 ∧ AllH P bs ts A1 ∧ AllH P bs' ts' A2
  | [], [], A, _, _, _, h => ⟨0, A, (Bag.zero_add A).symm, rfl, h⟩
  | [], _ :: _, _, _, _, hl, _ => by simp at hl
  | _ :: _, [], _, _, _, hl, _ => by simp at hl
  | _ :: bs, _ :: ts, _, _, _, hl, ⟨A1, A2, e, h1, h2⟩ => by
    obtain ⟨B1, B2, e2, k1, k2⟩ := AllH.split bs ts (by simpa using hl) h2
    exact ⟨A1 + B1, B2, by rw [e, e2, Bag.assoc], ⟨A1, B1, rfl, h1, k1⟩, k2⟩
theorem AllH.one {b : β} {t : α} {A : Bag} (h : P b t A) : AllH P [b] [t] A := ⟨A, 0, (Bag.add_zero A).symm, h, rfl⟩
theorem AllH.mono {Q : β → α → Bag → Prop} (hm : ∀ b t A, P b t A → Q b t A) : ∀ {bs : List β} {ts : List α} {A : Bag}, AllH P bs ts A → AllH Q bs ts A
  | [], [], _, h => h
  | [], _ :: _, _, h => h.elim
  | _ :: _, [], _, h => h.elim
  | _ :: _, _ :: _, _, ⟨A1, A2, e, h1, h2⟩ => ⟨A1, A2, e, hm _ _ _ h1, AllH.mono hm h2⟩
end
section
variable {α β : Type} {P : β → α → Bag → Prop}
theorem AllH.pick {d : α} {d' : β} : ∀ {bs : List β} {ts : List α} {A : Bag} {i : Nat}, AllH P bs ts A → i < bs.length → ∃ Ai B, A = Ai + B ∧ P (bs.getD i d') (ts.getD i d) Ai
  | [], _, _, _, _, h => by simp at h
  | _ :: _, [], _, _, h, _ => h.elim
  | b :: bs, t :: ts, _, 0, ⟨A1, A2, e, h1, _⟩, _ => ⟨A1, A2, e, h1⟩
  | b :: bs, t :: ts, _, i + 1, ⟨A1, A2, e, _, h2⟩, hi => by
    obtain ⟨Ai, B, e2, h3⟩ := AllH.pick (d := d) (d' := d') h2 (i := i) (by simpa using hi)
    exact ⟨Ai, A1 + B, by rw [e, e2]; ac_rfl, by simpa using h3⟩
end
abbrev SH := Option Addr × Nat × Nat
abbrev tS (e : TypeId) : Ty SH := ⟨e, 1, fun s => [.slice s.1 s.2.1 s.2.2], (none, 0, 0), fun _ => rfl, by decide, fun _ v hv => by simp at hv; subst hv; rfl⟩
def Nest {α : Type} (e : TypeId) (P : SH → α → Bag → Prop) (s : SH) (xs : List α) (B : Bag) : Prop :=
  ∃ hs B0 B1, B = B0 + B1 ∧ Sl (tS e) s.1 s.2.1 s.2.2 hs B0 ∧ AllH P hs xs B1
theorem Nest.nil {α : Type} {e : TypeId} {P : SH → α → Bag → Prop} : Nest e P (none, 0, 0) [] 0 := ⟨[], 0, 0, (Bag.add_zero 0).symm, Sl.nil, rfl⟩
theorem Nest.len {α : Type} {e : TypeId} {P : SH → α → Bag → Prop} {s : SH} {xs : List α} {B : Bag} (n : Nest e P s xs B) : xs.length = s.2.1 := by
  obtain ⟨hs, B0, B1, _, h1, h2⟩ := n
  rw [← h2.len, h1.len]
theorem Nest.at_ {α : Type} {e : TypeId} {P : SH → α → Bag → Prop} {s : SH} {xs : List α} {B G : Bag} {h0 h : Hp} {i : Int} {d : α} {Q : Option Addr → Nat → Nat → Prop} (n : Nest e P s xs B) (st : St h0 h (B + G)) (hi0 : 0 ≤ i) (hi : i < s.2.1)
    (hq : ∀ p l c Bi Br, P (p, l, c) (xs.getD i.toNat d) Bi → B = Bi + Br → Q p l c) :
    (0 ≤ i ∧ i < (s.2.1 : Int)) ∧ NN s.1 fun a => ∃ (p : Option Addr) (l c : Nat), cell h (a.add (i.toNat * 1)) = some (.slice p l c) ∧ Q p l c := by
  obtain ⟨hs, B0, B1, rfl, h1, h2⟩ := n
  have r := h1.rd (st.to (B := B0 + (B1 + G)))
  refine r.idx hi0 hi fun a _ hc => ?_
  have hl := h1.len
  obtain ⟨Bi, Br, hB, hp⟩ := h2.pick (d := d) (d' := (none, 0, 0)) (i := i.toNat) (by omega)
  exact ⟨_, _, _, hc 0 Nat.one_pos, hq _ _ _ Bi (B0 + Br) hp (by rw [hB]; ac_rfl)⟩
open Go
section
variable {P : Program}
end
abbrev Ev := Int × Int × Bool
abbrev El := Int × Int
abbrev evD : Ev := (0, 0, false)
theorem yafg {α : Type} {xs X Y : List α} (h : xs = X ++ Y) : xs.take X.length = X ∧ xs.drop X.length = Y := by subst h; exact ⟨List.take_left' rfl, List.drop_left' rfl⟩
def gone (a b : List El) : Nat := (a.filter fun e => decide (e ∉ b)).length
def lowT (t : Int) (l : List Ev) : Nat := (l.takeWhile fun a => decide (a.1 < t)).length
theorem yaaf {α : Type} {l : List α} {i : Nat} {d : α} (h : i < l.length) : l.getD i d = l[i] := by
  rw [List.getD_eq_getElem?_getD, List.getElem?_eq_getElem h]; rfl
def kt (l : List Ev) (t : Int) : El := ((l.getD (lowT t l) evD).2.1, t)
abbrev FromP (l : List Ev) (now : List El) : Prop := ∀ e ∈ now, (0 ≤ e.2 ∧ e.2 < l.length) ∧ (l.getD e.2.toNat evD).2.1 = e.1
open Go
abbrev tEv (e : TypeId) : Ty Ev := ⟨e, 3, fun z => [.int .i64 z.1, .int .i64 z.2.1, .bool z.2.2], (0, 0, false), fun _ => rfl, by decide, fun _ v hv => by simp at hv; rcases hv with rfl | rfl | rfl <;> rfl⟩
open Go
variable {α : Type} {T : Ty α} {P : Program} {t : TypeId}
open Go
class Bag.Has (b : Nat) (B : Bag) (cs : outParam (List Value)) (e : outParam TypeId) (C : outParam Bag) : Prop where
  eq : B = cA b cs e + C
instance Bag.Has.one (b : Nat) (cs : List Value) (e : TypeId) : Bag.Has b (cA b cs e) cs e 0 := ⟨(Bag.add_zero _).symm⟩
instance Bag.Has.head (b : Nat) (cs : List Value) (e : TypeId) (Y : Bag) : Bag.Has b (cA b cs e + Y) cs e Y := ⟨rfl⟩
instance Bag.Has.right (b : Nat) (X Y : Bag) (cs : List Value) (e : TypeId) (C : Bag) [h : Bag.Has b Y cs e C] : Bag.Has b (X + Y) cs e (X + C) := ⟨by rw [h.eq]; ac_rfl⟩
instance (priority := low) Bag.Has.left (b : Nat) (X Y : Bag) (cs : List Value) (e : TypeId) (C : Bag) [h : Bag.Has b X cs e C] : Bag.Has b (X + Y) cs e (C + Y) := ⟨by rw [h.eq, Bag.assoc]⟩
section
variable {h0 h : Hp} {B : Bag} {b k : Nat} {cs : List Value} {e : TypeId} {C : Bag} {v : Value}
theorem St.find (s : St h0 h B) (b : Nat) {cs : List Value} {e : TypeId} {C : Bag} [x : Bag.Has b B cs e C] : St h0 h (cA b cs e + C) := x.eq ▸ s
theorem St.ldB (s : St h0 h B) [x : Bag.Has b B cs e C] (hv : cs[k]? = some v := by with_unfolding_all exact rfl) : Sx.cell h ((⟨b, 0, none⟩ : Addr).add k) = some v := by
  rw [(s.find b).cellA k]; exact hv
theorem St.ld0 (s : St h0 h B) [x : Bag.Has b B cs e C] (hv : cs[0]? = some v := by with_unfolding_all exact rfl) : Sx.cell h ⟨b, 0, none⟩ = some v := by
  rw [(s.find b).cell 0]; exact hv
theorem St.wrB {K : Hp → Prop} (s : St h0 h B) [x : Bag.Has b B cs e C] (hK : ∀ h', St h0 h' (cA b (cs.set k v) e + C) → K h') (hk : Nat.blt k cs.length = true := by with_unfolding_all exact rfl) : Wr h ((⟨b, 0, none⟩ : Addr).add k) v K :=
  (s.find b).wr (o := k) (by rw [yabj, Nat.zero_add]) (Nat.le_of_ble_eq_true hk) hK
theorem St.wr0 {K : Hp → Prop} (s : St h0 h B) [x : Bag.Has b B cs e C] (hK : ∀ h', St h0 h' (cA b (cs.set 0 v) e + C) → K h') (hk : Nat.blt 0 cs.length = true := by with_unfolding_all exact rfl) : Wr h ⟨b, 0, none⟩ v K :=
  (s.find b).wr (o := 0) rfl (Nat.le_of_ble_eq_true hk) hK
theorem St.wr1 {c : Value} {K : Hp → Prop} (s : St h0 h B) [x : Bag.Has b B [c] e C] (hK : ∀ h', St h0 h' (cA b [v] e + C) → K h') : Wr h ⟨b, 0, none⟩ v K := s.wr0 fun _ s => hK _ s
theorem yahq {P : Program} {F : Nat → Bool} {g : Nat} {first cap : Array Value} {args : List Value} {args' : Array Value} {h : Hp} {K : Value → Hp → Prop} (hF : F g = true) (hc : yaah P g args' h K) (ha : (first.toList ++ (args ++ cap.toList)).toArray = args' := by with_unfolding_all exact rfl) :
    funV (.func (.func g) first cap) fun fg fa fc => callX P F fg (fa ++ (args ++ fc)).toArray h K := by
  show callX P F g (first.toList ++ (args ++ cap.toList)).toArray h K
  unfold callX; rw [hF, ha]; exact hc
end
def Held (B : Bag) (Q : Hp → Prop) : Prop := ∀ h0 h F, St h0 h (B + F) → Q h
theorem Held.of (h0 h : Hp) (B F : Bag) {Q : Hp → Prop} (q : Held B Q) (s : St h0 h (B + F)) : Q h := q h0 h F s
theorem Held.mono {B : Bag} {Q Q' : Hp → Prop} (q : Held B Q) (hm : ∀ h, Q h → Q' h) : Held B Q' := fun h0 h F s => hm _ (q h0 h F s)
abbrev lA (rec : LoopState → Option Code → Loop) (l : Nat) (st : LoopState) (pe : Option Code) : Bag := Bag.one (l, .loop (rec st pe))
abbrev dA (d : Nat) : Bag := Bag.one (d, .deferred (some []))
section
variable {h0 h : Hp} {F : Bag} {rec : LoopState → Option Code → Loop} {l d : Nat} {st st' : LoopState} {pe pe' : Option Code}
theorem St.range (s : St h0 h F) (rec : LoopState → Option Code → Loop) : St h0 (yati h rec) (lA rec (h.size + 1) .ready none + (dA h.size + F)) := by
  have s2 := (s.push (.deferred (some []))).push (.loop (rec .ready none))
  rw [Array.size_push] at s2
  exact s2
theorem St.lp (s : St h0 h (lA rec l st pe + F)) : LpS rec l h st pe := s.head.2
theorem St.setLp (s : St h0 h (lA rec l st pe + F)) : St h0 (Sx.setLp rec l h st' pe') (lA rec l st' pe' + F) := by
  have hb := s.head.2
  have hl := yadh hb
  unfold Sx.setLp
  refine s.set (by simp) (fun j hj => by rw [Array.getElem?_setIfInBounds_ne (Ne.symm hj)]) ?_
  rw [Array.getElem?_setIfInBounds_self, if_pos hl]
theorem St.deferred (s : St h0 h (dA d + F)) : h[d]? = some (.deferred (some [])) ∧ St h0 (h.setIfInBounds d (.deferred none)) (Bag.one (d, .deferred none) + F) := by
  have hb := s.head.2
  have hl := yadh hb
  refine ⟨hb, s.set (by simp) (fun j hj => by rw [Array.getElem?_setIfInBounds_ne (Ne.symm hj)]) ?_⟩
  rw [Array.getElem?_setIfInBounds_self, if_pos hl]
end
def Yld (P : Program) (h0 : Hp) (l : Nat) (xs : List Value) (J : Nat → Bag → Prop) (Jx : Bag → Prop) : Prop :=
  ∀ i A F h, i < xs.length → J i A → St h0 h (A + F) → yahl P l #[xs.getD i .nilFunc] h fun v h' => (v = .bool true ∧ ∃ A', J (i + 1) A' ∧ St h0 h' (A' + F)) ∨ (v = .bool false ∧ ∃ A', Jx A' ∧ St h0 h' (A' + F))
open Go
class Bag.HasO (n : Nat) (B : Bag) (o : outParam Obj) (C : outParam Bag) : Prop where
  eq : B = Bag.one (n, o) + C
instance Bag.HasO.one (n : Nat) (o : Obj) : Bag.HasO n (Bag.one (n, o)) o 0 := ⟨(Bag.add_zero _).symm⟩
instance Bag.HasO.head (n : Nat) (o : Obj) (Y : Bag) : Bag.HasO n (Bag.one (n, o) + Y) o Y := ⟨rfl⟩
instance Bag.HasO.right (n : Nat) (X Y : Bag) (o : Obj) (C : Bag) [h : Bag.HasO n Y o C] : Bag.HasO n (X + Y) o (X + C) := ⟨by rw [h.eq]; ac_rfl⟩
instance (priority := low) Bag.HasO.left (n : Nat) (X Y : Bag) (o : Obj) (C : Bag) [h : Bag.HasO n X o C] : Bag.HasO n (X + Y) o (C + Y) := ⟨by rw [h.eq, Bag.assoc]⟩
section
variable {h0 h : Hp} {B C : Bag} {rec : LoopState → Option Code → Loop} {l d : Nat} {st st' : LoopState} {pe pe' : Option Code}
theorem St.lpB (s : St h0 h B) [x : Bag.HasO l B (.loop (rec st pe)) C] : LpS rec l h st pe := (x.eq ▸ s : St h0 h (lA rec l st pe + C)).lp
theorem St.setLpB (s : St h0 h B) [x : Bag.HasO l B (.loop (rec st pe)) C] : St h0 (Sx.setLp rec l h st' pe') (lA rec l st' pe' + C) := (x.eq ▸ s : St h0 h (lA rec l st pe + C)).setLp
theorem St.defB (s : St h0 h B) [x : Bag.HasO d B (.deferred (some [])) C] : h[d]? = some (.deferred (some [])) ∧ St h0 (h.setIfInBounds d (.deferred none)) (Bag.one (d, .deferred none) + C) := (x.eq ▸ s : St h0 h (dA d + C)).deferred
end
open Go
section
variable {κ ν : Type} [DecidableEq κ]
def lkp : List (κ × ν) → κ → Option ν
  | [], _ => none
  | (a, v) :: r, k => if a = k then some v else lkp r k
def setk : List (κ × ν) → κ → ν → List (κ × ν)
  | [], k, v => [(k, v)]
  | (a, w) :: r, k, v => if a = k then (k, v) :: r else (a, w) :: setk r k v
def delk : List (κ × ν) → κ → List (κ × ν)
  | [], _ => []
  | (a, w) :: r, k => if a = k then r else (a, w) :: delk r k
def KD (l : List (κ × ν)) : Prop := (l.map Prod.fst).Nodup
theorem yaxd {l : List (κ × ν)} (hd : KD l) {k : κ} {v : ν} : lkp l k = some v ↔ (k, v) ∈ l := by
  induction l with
  | nil => simp [lkp]
  | cons e l ih =>
    obtain ⟨a, w⟩ := e
    have hd' := hd
    unfold KD at hd
    rw [List.map_cons, List.nodup_cons] at hd
    unfold lkp
    by_cases h : a = k
    · subst h
      rw [if_pos rfl, Option.some.injEq]
      constructor
      · rintro rfl; exact List.mem_cons_self
      · intro hm
        rcases List.mem_cons.1 hm with hm | hm
        · cases hm; rfl
        · exact absurd (List.mem_map.2 ⟨_, hm, rfl⟩) hd.1
    · rw [if_neg h, ih hd.2]
      constructor
      · exact List.mem_cons_of_mem _
      · intro hm
        rcases List.mem_cons.1 hm with hm | hm
        · cases hm; exact absurd rfl h
        · exact hm
theorem yakb {l : List (κ × ν)} {k a : κ} {v : ν} : a ∈ (setk l k v).map Prod.fst ↔ a = k ∨ a ∈ l.map Prod.fst := by
  induction l with
  | nil => simp [setk]
  | cons e l ih =>
    obtain ⟨b, w⟩ := e
    unfold setk
    by_cases h : b = k
    · rw [if_pos h]; subst h; simp
    · rw [if_neg h, List.map_cons, List.mem_cons, ih, List.map_cons, List.mem_cons]
      constructor
      · rintro (h1 | h1 | h1)
        · exact .inr (.inl h1)
        · exact .inl h1
        · exact .inr (.inr h1)
      · rintro (h1 | h1 | h1)
        · exact .inr (.inl h1)
        · exact .inl h1
        · exact .inr (.inr h1)
theorem yauq {l : List (κ × ν)} (hd : KD l) (k : κ) (v : ν) : KD (setk l k v) := by
  induction l with
  | nil => simp [setk, KD]
  | cons e l ih =>
    obtain ⟨b, w⟩ := e
    unfold KD at hd ih ⊢
    rw [List.map_cons, List.nodup_cons] at hd
    unfold setk
    by_cases h : b = k
    · rw [if_pos h]; subst h
      rw [List.map_cons, List.nodup_cons]
      exact hd
    · rw [if_neg h, List.map_cons, List.nodup_cons]
      refine ⟨fun hc => ?_, ih hd.2⟩
      rcases yakb.1 hc with h1 | h1
      · exact h h1
      · exact hd.1 h1
theorem yaxs {l : List (κ × ν)} {k : κ} {v : ν} (h : lkp l k = none) : setk l k v = l ++ [(k, v)] := by
  induction l with
  | nil => rfl
  | cons e l ih =>
    obtain ⟨b, w⟩ := e
    unfold lkp at h
    by_cases hb : b = k
    · rw [if_pos hb] at h; cases h
    · rw [if_neg hb] at h
      unfold setk
      rw [if_neg hb, ih h]; rfl
theorem yaxo {l : List (κ × ν)} {k : κ} : (delk l k).Sublist l := by
  induction l with
  | nil => exact .slnil
  | cons e l ih =>
    obtain ⟨b, w⟩ := e
    unfold delk
    by_cases h : b = k
    · rw [if_pos h]; exact List.sublist_cons_self _ _
    · rw [if_neg h]; exact ih.cons_cons _
theorem yauc {l : List (κ × ν)} (hd : KD l) (k : κ) : KD (delk l k) := hd.sublist (yaxo.map _)
theorem yatu {l : List (κ × ν)} {k : κ} (h : lkp l k = none) : delk l k = l := by
  induction l with
  | nil => rfl
  | cons e l ih =>
    obtain ⟨b, w⟩ := e
    unfold lkp at h
    unfold delk
    by_cases hb : b = k
    · rw [if_pos hb] at h; cases h
    · rw [if_neg hb] at h ⊢
      rw [ih h]
end
structure MTy (κ ν : Type) where
  ken : κ → Value
  ven : ν → Value
  zv : Value
section
variable {κ ν : Type} [DecidableEq κ] (T : MTy κ ν)
abbrev Ent (κ ν : Type) := (κ × ν) × Nat
def entO (e : Ent κ ν) : MapEntry := ⟨T.ken e.1.1, T.ven e.1.2, e.2⟩
def fndE : List (Ent κ ν) → κ → Nat → Option (Nat × Value)
  | [], _, _ => none
  | e :: r, k, i => if e.1.1 = k then some (i, T.ven e.1.2) else fndE r k (i + 1)
structure MapOk (P : Program) (t : TypeId) : Prop where
  ex : ∃ kt et i0, P.underlying t = some (.map kt et) ∧ P.info? et = some i0 ∧ i0.zero = some T.zv ∧
    (∀ k b h (K : Unit → Prop), K () → hq P (Instr.checkKey b 10000 kt (T.ken k)) h K) ∧
    (∀ k (l : List (Ent κ ν)) h (K : Option (Nat × Value) → Prop), K (fndE T l k 0) → hq P (Instr.findKey kt (T.ken k) (l.map (entO T))) h K)
  same : ∀ k, Instr.sameBits 10000 (T.ken k) (T.ken k) = true
def mapO (l : List (Ent κ ν)) (clock : Nat) : Obj := .map (l.map (entO T)).toArray clock
def MapA (m : Nat) (ps : List (κ × ν)) (A : Bag) : Prop :=
  ∃ (l : List (Ent κ ν)) (clock : Nat), ps = l.map Prod.fst ∧ KD ps ∧ (l.map Prod.snd).Nodup ∧ (∀ e ∈ l, e.2 < clock) ∧ A = Bag.one (m, mapO T l clock)
end
section
variable {κ ν : Type} {T : MTy κ ν}
theorem MapA.kd {m : Nat} {ps : List (κ × ν)} {A : Bag} (a : MapA T m ps A) : KD ps := by
  obtain ⟨l, c, _, h, _⟩ := a; exact h
theorem yajn (l : List (Ent κ ν)) (clock : Nat) : ∀ c t f, mapO T l clock ≠ .cells c t f := fun c t f h => by cases h
theorem St.objM {h0 h : Hp} {m : Nat} {o : Obj} {F : Bag} (s : St h0 h (Bag.one (m, o) + F)) (hn : ∀ c t f, o ≠ .cells c t f) : objH h m = some o := ybal s.head.2 hn
theorem St.setObj {h0 h : Hp} {m : Nat} {o o' : Obj} {F : Bag} (s : St h0 h (Bag.one (m, o) + F)) : St h0 (h.setIfInBounds m o') (Bag.one (m, o') + F) := by
  have hb := s.head.2
  have hl := yadh hb
  refine s.set (by simp) (fun j hj => by rw [Array.getElem?_setIfInBounds_ne (Ne.symm hj)]) ?_
  rw [Array.getElem?_setIfInBounds_self, if_pos hl]
theorem St.newMap {h0 h : Hp} {F : Bag} {k : Nat → Hp → Prop} (T : MTy κ ν) (s : St h0 h F) (hk : ∀ m h' A, Ext h h' → MapA T m [] A → St h0 h' (A + F) → k m h') : New h (.map #[] 0) k :=
  hk _ _ _ (Ext.push _ _) ⟨[], 0, rfl, by simp [KD], by simp, by simp, rfl⟩ (s.push _)
end
section
variable {κ ν : Type} [DecidableEq κ] {T : MTy κ ν}
end
section
variable {κ ν : Type} {T : MTy κ ν}
theorem MapA.len {h0 h : Hp} {m : Nat} {ps : List (κ × ν)} {A F : Bag} {k : Int → Prop} (a : MapA T m ps A) (s : St h0 h (A + F)) (hk : k (ps.length : Nat)) : yamr (.map (some m)) h k := by
  obtain ⟨l, c, rfl, _, _, _, rfl⟩ := a
  refine ⟨_, _, s.objM (yajn l c), ?_⟩
  rw [List.size_toArray, List.length_map]
  rw [List.length_map] at hk
  exact hk
end
section
variable {κ ν : Type} [DecidableEq κ] {T : MTy κ ν}
theorem yajc : ∀ (l : List (Ent κ ν)) (k : κ) (i : Nat), (lkp (l.map Prod.fst) k = none ∧ fndE T l k i = none) ∨ ∃ pre e post, l = pre ++ e :: post ∧ e.1.1 = k ∧ lkp (l.map Prod.fst) k = some e.1.2 ∧ fndE T l k i = some (i + pre.length, T.ven e.1.2) ∧ ∀ x ∈ pre, x.1.1 ≠ k
  | [], k, i => .inl ⟨rfl, rfl⟩
  | e :: r, k, i => by
    by_cases h : e.1.1 = k
    · refine .inr ⟨[], e, r, rfl, h, ?_, ?_, by simp⟩
      · obtain ⟨⟨a, v⟩, b⟩ := e
        simp only at h
        simp only [List.map_cons, lkp, if_pos h]
      · unfold fndE; rw [if_pos h]; rfl
    · have e1 : lkp ((e :: r).map Prod.fst) k = lkp (r.map Prod.fst) k := by
        obtain ⟨⟨a, v⟩, b⟩ := e
        simp only at h
        simp only [List.map_cons, lkp, if_neg h]
      have e2 : fndE T (e :: r) k i = fndE T r k (i + 1) := by
        rw [fndE, if_neg h]
      rw [e1, e2]
      rcases yajc r k (i + 1) with ⟨h1, h2⟩ | ⟨pre, x, post, h1, h2, h3, h4, h5⟩
      · exact .inl ⟨h1, h2⟩
      · refine .inr ⟨e :: pre, x, post, by rw [h1]; rfl, h2, h3, by rw [h4, List.length_cons, show i + 1 + pre.length = i + (pre.length + 1) by omega], fun y hy => ?_⟩
        rcases List.mem_cons.1 hy with rfl | hy
        · exact h
        · exact h5 y hy
theorem MapA.look {P : Program} {t : TypeId} {h0 h : Hp} {m : Nat} {ps : List (κ × ν)} {k : κ} {ok : Bool} {A F : Bag} {K : Value → Prop} (mo : MapOk T P t) (a : MapA T m ps A) (s : St h0 h (A + F))
    (hk : ∀ v b, (lkp ps k = none ∧ v = T.zv ∧ b = false) ∨ (∃ x, lkp ps k = some x ∧ v = T.ven x ∧ b = true) → K (if ok then .tuple #[v, .bool b] else v)) : lookV P t (.map (some m)) (T.ken k) ok h K := by
  obtain ⟨⟨kt, et, i0, hu, hi, hz, hck, hfd⟩, _⟩ := mo
  obtain ⟨l, c, rfl, _, _, _, rfl⟩ := a
  unfold lookV Instr.lookup
  simp only [yaag, yaai, hu, getObj, hq]
  refine ⟨_, s.objM (yajn l c), ?_⟩
  unfold mapO
  simp only [yaag, yaam]
  refine hck k _ h _ (hfd k l h _ ?_)
  rcases yajc (T := T) l k 0 with ⟨h1, h2⟩ | ⟨pre, e, post, h1, h2, h3, h4, _⟩
  · rw [h2]
    simp only [yaag, zeroValue, yaec, hi, hz, yaam]
    exact hk _ _ (.inl ⟨h1, rfl, rfl⟩)
  · rw [h4]
    exact hk _ _ (.inr ⟨_, h3, rfl, rfl⟩)
theorem yahg {α : Type} (pre : List α) (x : α) (post : List α) (f : α → α) : (pre ++ x :: post).modify pre.length f = pre ++ f x :: post := by
  induction pre with
  | nil => rfl
  | cons a pre ih => simpa [List.modify_cons] using ih
theorem yawg {pre post : List (κ × ν)} {k : κ} {v w : ν} (h : ∀ x ∈ pre, x.1 ≠ k) : setk (pre ++ (k, w) :: post) k v = pre ++ (k, v) :: post := by
  induction pre with
  | nil => simp [setk]
  | cons a pre ih =>
    obtain ⟨b, x⟩ := a
    rw [List.cons_append, setk, if_neg (h (b, x) List.mem_cons_self), ih fun y hy => h y (List.mem_cons_of_mem _ hy)]
    rfl
theorem yaxt {pre post : List (κ × ν)} {k : κ} {w : ν} (h : ∀ x ∈ pre, x.1 ≠ k) : delk (pre ++ (k, w) :: post) k = pre ++ post := by
  induction pre with
  | nil => simp [delk]
  | cons a pre ih =>
    obtain ⟨b, x⟩ := a
    rw [List.cons_append, delk, if_neg (h (b, x) List.mem_cons_self), ih fun y hy => h y (List.mem_cons_of_mem _ hy)]
    rfl
theorem MapA.set {P : Program} {t : TypeId} {h0 h : Hp} {m : Nat} {ps : List (κ × ν)} {k : κ} {v : ν} {vv : Value} {A F : Bag} {K : Hp → Prop} (mo : MapOk T P t) (a : MapA T m ps A) (s : St h0 h (A + F)) (hv : vv = T.ven v)
    (hk : ∀ h' A', MapA T m (setk ps k v) A' → St h0 h' (A' + F) → K h') : yanq P t (.map (some m)) (T.ken k) vv h K := by
  obtain ⟨⟨kt, et, i0, hu, hi, hz, hck, hfd⟩, hsame⟩ := mo
  obtain ⟨l, c, rfl, hd, hn, hb, rfl⟩ := a
  subst hv
  unfold yanq Instr.mapUpdate
  simp only [yaaj, yaba, hu, getObj, hw]
  have ho := s.objM (yajn l c)
  refine ⟨_, ho, ?_⟩
  unfold mapO at ho ⊢
  simp only [yaaj]
  refine yaco _ _ _ (hck k _ h _ (yaco _ _ _ (hfd k l h _ ?_)))
  rcases yajc (T := T) l k 0 with ⟨h1, h2⟩ | ⟨pre, e, post, h1, h2, h3, h4, h5⟩
  · rw [h2]
    refine ⟨⟨_, ho⟩, hk _ (Bag.one (m, mapO T (l ++ [((k, v), c)]) (c + 1))) ⟨_, _, ?_, yauq hd k v, ?_, ?_, rfl⟩ ?_⟩
    · rw [yaxs h1]; simp
    · rw [List.map_append, List.nodup_append]
      refine ⟨hn, by simp, fun x hx y hy => ?_⟩
      obtain ⟨e, he, rfl⟩ := List.mem_map.1 hx
      have := hb e he
      simp at hy
      omega
    · intro e he
      rcases List.mem_append.1 he with he | he
      · have := hb e he; omega
      · simp at he; subst he; show c < c + 1; omega
    · have e1 : Obj.map ((l.map (entO T)).toArray.push ⟨T.ken k, T.ven v, c⟩) (c + 1) = mapO T (l ++ [((k, v), c)]) (c + 1) := by
        unfold mapO
        rw [List.push_toArray, List.map_append]; rfl
      rw [← e1]
      exact s.setObj
  · rw [h4]
    subst h1
    obtain ⟨⟨k', w⟩, b⟩ := e
    simp only at h2
    subst h2
    have eg : ((pre ++ ((k', w), b) :: post).map (entO T)).toArray[0 + pre.length]? = some (entO T ((k', w), b)) := by
      rw [Nat.zero_add, List.getElem?_toArray, List.map_append, List.map_cons, List.getElem?_append_right (by simp), List.length_map, Nat.sub_self]; rfl
    have ks : Instr.keyThatStays (entO T ((k', w), b)).key (T.ken k') = pure (T.ken k') := by
      unfold Instr.keyThatStays
      rw [show (entO T ((k', w), b)).key = T.ken k' from rfl, hsame k']; rfl
    simp only [eg, Option.map_some, Option.getD_some]
    rw [yaaj, ks, yaav]
    refine ⟨⟨_, ho⟩, hk _ (Bag.one (m, mapO T (pre ++ ((k', v), b) :: post) c)) ⟨_, _, ?_, yauq hd k' v, ?_, ?_, rfl⟩ ?_⟩
    · rw [List.map_append, List.map_cons, List.map_append, List.map_cons]
      refine yawg (pre := pre.map Prod.fst) (post := post.map Prod.fst) (k := k') (v := v) (w := w) fun x hx => ?_
      obtain ⟨y, hy, rfl⟩ := List.mem_map.1 hx
      exact h5 y hy
    · simpa using hn
    · intro e he
      rcases List.mem_append.1 he with he | he
      · exact hb e (List.mem_append.2 (.inl he))
      · rcases List.mem_cons.1 he with rfl | he
        · exact hb ((k', w), b) (by simp)
        · exact hb e (by simp [he])
    · have e1 : Obj.map (((pre ++ ((k', w), b) :: post).map (entO T)).toArray.modify (0 + pre.length) fun e => { e with key := T.ken k', val := T.ven v }) c = mapO T (pre ++ ((k', v), b) :: post) c := by
        unfold mapO
        congr 1
        apply Array.ext'
        rw [Array.toList_modify, Nat.zero_add]
        show List.modify ((pre ++ ((k', w), b) :: post).map (entO T)) pre.length _ = _
        rw [List.map_append, List.map_cons, List.map_append, List.map_cons]
        have := yahg (pre.map (entO T)) (entO T ((k', w), b)) (post.map (entO T)) (fun e => { e with key := T.ken k', val := T.ven v })
        rw [List.length_map] at this
        rw [this]; rfl
      rw [← e1]
      exact s.setObj
theorem MapA.del {P : Program} {t : TypeId} {h0 h : Hp} {m : Nat} {ps : List (κ × ν)} {k : κ} {A F : Bag} {K : Hp → Prop} (mo : MapOk T P t) (a : MapA T m ps A) (s : St h0 h (A + F))
    (hk : ∀ h' A', MapA T m (delk ps k) A' → St h0 h' (A' + F) → K h') : yanu P t (.map (some m)) (T.ken k) h K := by
  obtain ⟨⟨kt, et, i0, hu, hi, hz, hck, hfd⟩, hsame⟩ := mo
  obtain ⟨l, c, rfl, hd, hn, hb, rfl⟩ := a
  unfold yanu Builtin.delete_
  simp only [yaaj, yaba, hu, getObj, hw, List.getElem?_toArray, List.getElem?_cons_zero, List.getElem?_cons_succ]
  have ho := s.objM (yajn l c)
  refine ⟨_, ho, ?_⟩
  unfold mapO at ho ⊢
  simp only [yaaj]
  refine yaco _ _ _ (hck k _ h _ (yaco _ _ _ (hfd k l h _ ?_)))
  rcases yajc (T := T) l k 0 with ⟨h1, h2⟩ | ⟨pre, e, post, h1, h2, h3, h4, h5⟩
  · rw [h2]
    refine ⟨⟨_, ho⟩, rfl, hk _ (Bag.one (m, mapO T l c)) ⟨l, c, ?_, yauc hd k, hn, hb, rfl⟩ s.setObj⟩
    exact yatu h1
  · rw [h4]
    subst h1
    obtain ⟨⟨k', w⟩, b⟩ := e
    simp only at h2
    subst h2
    refine ⟨⟨_, ho⟩, rfl, hk _ (Bag.one (m, mapO T (pre ++ post) c)) ⟨_, _, ?_, yauc hd k', ?_, ?_, rfl⟩ ?_⟩
    · rw [List.map_append, List.map_cons, List.map_append]
      refine yaxt fun x hx => ?_
      obtain ⟨y, hy, rfl⟩ := List.mem_map.1 hx
      exact h5 y hy
    · exact hn.sublist ((List.Sublist.append (List.Sublist.refl _) (List.sublist_cons_self _ _)).map _)
    · intro e he
      refine hb e ?_
      rcases List.mem_append.1 he with he | he
      · exact List.mem_append.2 (.inl he)
      · exact List.mem_append.2 (.inr (List.mem_cons_of_mem _ he))
    · have e1 : Obj.map (((pre ++ ((k', w), b) :: post).map (entO T)).toArray.eraseIdxIfInBounds (0 + pre.length)) c = mapO T (pre ++ post) c := by
        unfold mapO
        congr 1
        apply Array.ext'
        rw [Array.toList_eraseIdxIfInBounds, Nat.zero_add]
        show List.eraseIdx ((pre ++ ((k', w), b) :: post).map (entO T)) pre.length = _
        rw [List.map_append, List.map_cons, List.map_append, List.eraseIdx_append_of_length_le (by simp), List.length_map, Nat.sub_self]
        rfl
      rw [← e1]
      exact s.setObj
def IterA (T : MTy κ ν) (it m : Nat) (ps : List (κ × ν)) (A : Bag) (done left : List (κ × ν)) (I : Bag) : Prop :=
  ∃ (l : List (Ent κ ν)) (clock : Nat) (seen : Array Nat), ps = l.map Prod.fst ∧ (l.map Prod.snd).Nodup ∧ (∀ e ∈ l, e.2 < clock) ∧ A = Bag.one (m, mapO T l clock) ∧ I = Bag.one (it, .mapIter (some m) clock seen clock) ∧
    left = (l.filter fun e => !seen.contains e.2).map Prod.fst ∧ (done ++ left).Perm ps ∧ ∀ d e, done = d ++ [e] → ∃ b, seen.back? = some b ∧ (e, b) ∈ l
end
section
variable {κ ν : Type} {T : MTy κ ν}
end
section
variable {κ ν : Type} [DecidableEq κ] {T : MTy κ ν}
end
section
variable {κ ν : Type} {T : MTy κ ν}
theorem yasg {l : List (Ent κ ν)} {e : κ × ν} {b : Nat} (hn : (l.map Prod.snd).Nodup) (hm : (e, b) ∈ l) : (l.map (entO T)).find? (fun x => x.born == b) = some (entO T (e, b)) := by
  induction l with
  | nil => cases hm
  | cons x l ih =>
    rw [List.map_cons, List.nodup_cons] at hn
    rw [List.map_cons, List.find?_cons]
    rcases List.mem_cons.1 hm with rfl | hm
    · have : ((entO T (e, b)).born == b) = true := by simp [entO]
      rw [this]
    · have hne : x.2 ≠ b := fun h => hn.1 (h ▸ List.mem_map.2 ⟨_, hm, rfl⟩)
      have : ((entO T x).born == b) = false := by simp [entO, hne]
      rw [this]
      exact ih hn.2 hm
end
section
variable {κ ν : Type} [DecidableEq κ] {T : MTy κ ν}
end
section
variable {κ ν : Type} {T : MTy κ ν}
theorem IterA.entry {P : Program} {h0 h : Hp} {it m : Nat} {ps d left : List (κ × ν)} {e : κ × ν} {A I F : Bag} {K : Value → Prop} (a : IterA T it m ps A (d ++ [e]) left I) (s : St h0 h (A + (I + F))) (hk : K (.tuple #[T.ken e.1, T.ven e.2])) :
    yavs P (.pointer (some ⟨it, 0, none⟩)) h K := by
  obtain ⟨l, c, seen, rfl, hn, hb, rfl, rfl, rfl, hp, hc⟩ := a
  obtain ⟨b, hbk, hm⟩ := hc d e rfl
  unfold yavs Instr.entry
  simp only [yaag, getObj, hq]
  have ho1 := (s.to (B := Bag.one (it, .mapIter (some m) c seen c) + (Bag.one (m, mapO T l c) + F))).objM (fun _ _ _ h => by cases h)
  refine ⟨_, ho1, ?_⟩
  simp only [yaag, hbk, hq]
  refine ⟨_, s.objM (yajn l c), ?_⟩
  unfold mapO
  have e1 : (l.map (entO T)).toArray.find? (fun x => x.born == b) = some (entO T (e, b)) := by
    rw [List.find?_toArray]; exact yasg hn hm
  have e2 : (c != c) = false := by simp
  simp only [e1, e2, Bool.false_eq_true, if_false]
  exact hk
end
section
variable {κ ν : Type} [DecidableEq κ] {T : MTy κ ν}
end
def yame (P : Program) (t : TypeId) : Option Value := match P.info? t with | some i => i.zero | none => none
theorem yakx {P : Program} {t : TypeId} {z : Value} (h : yame P t = some z) : ∃ i0, P.info? t = some i0 ∧ i0.zero = some z := by
  unfold yame at h
  split at h
  · rename_i i hi; exact ⟨i, hi, h⟩
  · cases h
section
variable {κ ν : Type} [DecidableEq κ] {T : MTy κ ν}
theorem yajv {d : TypeDesc} (hs : ∀ a b, Instr.sameNow d (T.ken a) (T.ken b) = some (decide (b = a))) (k : κ) : ∀ (l : List (Ent κ ν)) (i : Nat), Instr.findNow d (T.ken k) (l.map (entO T)) i = some (fndE T l k i)
  | [], _ => rfl
  | e :: r, i => by
    rw [List.map_cons]
    unfold Instr.findNow
    rw [show (entO T e).key = T.ken e.1.1 from rfl, hs]
    unfold fndE
    by_cases h : e.1.1 = k
    · rw [decide_eq_true h, if_pos h]; rfl
    · rw [decide_eq_false h, if_neg h]
      exact yajv hs k r (i + 1)
theorem yaoh {P : Program} {kt : TypeId} {d : TypeDesc} (hu : P.underlying kt = some d) (hs : ∀ a b, Instr.sameNow d (T.ken a) (T.ken b) = some (decide (b = a))) (k : κ) (l : List (Ent κ ν)) (h : Hp) (K : Option (Nat × Value) → Prop) (hk : K (fndE T l k 0)) :
    hq P (Instr.findKey kt (T.ken k) (l.map (entO T))) h K := by
  unfold Instr.findKey
  simp only [yaag, yaai, hu, yajv hs k l 0]
  exact hk
end
section
variable {ν : Type} {T : MTy Int ν}
end
theorem yams (a b : ByteArray) : (a == b) = decide (b = a) := by
  cases a with | mk a => cases b with | mk b =>
  have : ((⟨a⟩ : ByteArray) == ⟨b⟩) = (a == b) := rfl
  rw [this]
  by_cases h : a = b
  · subst h; simp
  · have h2 : ¬ (⟨b⟩ : ByteArray) = ⟨a⟩ := fun e => h (by cases e; rfl)
    rw [decide_eq_false h2]
    simpa using h
section
variable {ν : Type} {T : MTy ByteArray ν}
theorem yatc {P : Program} {t kt et : TypeId} (hken : ∀ k, T.ken k = .string k) (hu : P.underlying t = some (.map kt et)) (hk : P.underlying kt = some .string) (hz : yame P et = some T.zv) : MapOk T P t := by
  obtain ⟨i0, hi, hz⟩ := yakx hz
  refine ⟨⟨kt, et, i0, hu, hi, hz, fun k b h K hK => ?_, fun k l h K hK => yaoh hk (fun a b => ?_) k l h K hK⟩, fun k => ?_⟩
  · rw [hken]
    unfold Instr.checkKey
    simp only [yaag, yaai, hk]
    exact hK
  · rw [hken, hken]
    show some (a == b) = _
    rw [yams]
  · rw [hken]
    show (k == k) = true
    rw [yams]; exact decide_eq_true rfl
end
section
variable {P : Program}
end
section
variable {κ ν : Type} [DecidableEq κ] {T : MTy κ ν}
end
theorem yard {α : Type} {T : Ty α} {P : Program} {t : TypeId} {h0 h : Hp} {p : Option Addr} {n c i : Nat} {xs : List α} {A F : Bag} {k : Hp → Prop} (ok : ElOk T P t) (a : Sl T p n c xs A) (s : St h0 h (A + F)) (hi : i ≤ n)
    (hk : ∀ h' A', Sl T p i c (xs.take i) A' → St h0 h' (A' + F) → k h') : yait P t (.slice (yaao p c i T.sz) (n - i) (c - i)) h k := by
  obtain ⟨hl, ⟨rfl, rfl, rfl, rfl⟩ | ⟨b, rest, rfl, hc, hr, rfl⟩⟩ := a
  · obtain rfl : i = 0 := by omega
    rw [yacu]
    obtain ⟨i0, z, hi', hz, hzs, hzc, hbt⟩ := ok.info
    unfold yait zeroV
    rw [ok.el]
    simp only [hi', hz, yaeg]
    have : xs = [] := List.eq_nil_of_length_eq_zero hl
    subst this
    exact hk _ _ Sl.nil s
  · by_cases hci : c = i
    · have hni : n = i := by omega
      subst hci
      subst hni
      have e : yaao (some (⟨b, 0, none⟩ : Addr)) n n T.sz = some ⟨b, 0, none⟩ := by rw [← yapv, if_pos rfl]
      rw [e]
      refine yama (pre := []) (mid := []) (rest := T.cells xs ++ rest) ok s rfl (by simp) fun h' zs hz s' => ?_
      have hz0 : zs = [] := List.eq_nil_of_length_eq_zero (by rw [hz]; simp)
      subst hz0
      refine hk h' _ ⟨by rw [List.take_of_length_le (by omega)]; exact hl, .inr ⟨b, rest, rfl, hc, hr, rfl⟩⟩ ?_
      rw [List.take_of_length_le (by omega)]
      exact s'
    · rw [yabw hci, Nat.zero_add]
      have e : T.cells xs ++ rest = T.cells (xs.take i) ++ T.cells (xs.drop i) ++ rest := by rw [← T.cells_append, List.take_append_drop]
      rw [e] at s
      have hti : (T.cells (xs.take i)).length = i * T.sz := by rw [T.cells_len, List.length_take]; congr 1; omega
      have hdi : (T.cells (xs.drop i)).length = (n - i) * T.sz := by rw [T.cells_len, List.length_drop, hl]
      refine yama ok s hti hdi fun h' zs hz s' => ?_
      rw [List.append_assoc] at s'
      refine hk h' _ ⟨by rw [List.length_take]; omega, .inr ⟨b, zs ++ rest, rfl, by omega, ?_, rfl⟩⟩ s'
      rw [List.length_append, hz, hr, ← Nat.add_mul]; congr 1; omega
end Go.Sx
namespace Go.Proofs.YtllhdhpjgihjfaaGreatDoor
open Go Go.Sx
abbrev TI : Ty Int := tI 3
abbrev ptr (b : Nat) : Value := .pointer (some ⟨b, 0, none⟩)
theorem yaku : ElOk TI Tryz.prog 29 := yafi (by kernel_rfl)
theorem yasx (x : Int) (h : Hp) : yaah Tryz.prog 152 #[.int .i64 x] h (fun v h' => h' = h ∧ v = .bool false) := by
  refine zad_call ?_
  rw [zad_b0]
  exact ⟨rfl, by simp⟩
theorem yact (x y : Int) (h : Hp) : yaah Tryz.prog 159 #[.int .i64 x, .int .i64 y] h (fun v h' => h' = h ∧ v = .bool (decide (x < y))) := by
  refine zac_call ?_
  rw [zac_b0]
  refine (yasx x h).mono fun v h' ⟨hh, hv⟩ => ?_
  subst hh
  exact ⟨_, hv, rfl, rfl⟩
theorem ldI {h : Hp} {p : OA} {n : Nat} {l : List Int} {i : Int} {i' : Nat} {Q : Int → Prop} (r : RdT TI h p n l) (ei : i = (i' : Int)) (h1 : i' < n) (hq : Q (l.getD i' 0)) :
    (0 ≤ i ∧ i < (n : Int)) ∧ NN p fun a => ∃ x, cell h (a.add (Int.toNat i * 1)) = some (.int .i64 x) ∧ Q x := by
  subst ei
  exact r.int (by omega) (by omega) (by rw [Int.toNat_natCast]; exact hq)
theorem yaep {α : Type} {d : α} {l m : List α} (hl : l.length = m.length) (h : ∀ i, i < m.length → l.getD i d = m.getD i d) : l = m := by
  refine List.ext_getElem hl fun i h1 h2 => ?_
  have := h i h2
  simpa [List.getD, h1, h2] using this
theorem yaaf {α : Type} {d : α} {l : List α} {i : Nat} (h : i < l.length) : l.getD i d = l[i] := by simp [List.getD, h]
abbrev ints (zs : List Int) : List Value := zs.map (Value.int .i64)
abbrev at_ (zs : List Int) (i : Nat) : Int := zs.getD i 0
theorem yadl {P : Program} {F : Nat → Bool} {g : Nat} {args : Array Value} {h : Hp} {K : VK} (hF : F g = true) (hc : yaah P g args h K) : callX P F g args h K := by
  unfold callX; rw [hF]; exact hc
abbrev KeyP (z : Int) : Prop := -1048576 ≤ z ∧ z ≤ 1048576
instance (z : Int) : Decidable (KeyP z) := inferInstanceAs (Decidable (_ ∧ _))
theorem yaeq {h : Hp} {p : OA} {n c : Nat} {xs : List Int} (r : RdT (tI 3) h p n xs) (hn : n < 1000000) :
    yaah Tryz.prog 62 #[.slice p n c] h (fun v h' => ∃ q d A, v = .slice q n d ∧ Sl (tI 3) q n d xs A ∧ St h h' A) := by
  refine zck_call ?_
  rw [zck_b0]
  refine yaat (fun h1 => ?_) (fun h1 => ?_)
  · have hp : p = none := by cases p with | none => rfl | some a => cases h1
    subst hp
    obtain rfl : n = 0 := by
      rcases r.2 with h2 | ⟨a, h2, _⟩
      · exact h2
      · cases h2
    have : xs = [] := List.eq_nil_of_length_eq_zero r.1
    subst this
    exact ⟨_, _, 0, rfl, Sl.nil, St.start h⟩
  · refine (St.start h).new (cs := []) fun b h1 x s1 => ?_
    have o : Sl (tI 3) (some ⟨b, 0, none⟩) 0 0 [] (cA b [] (tI 3).e) := Sl.of_blk rfl rfl
    refine yacb yaku s1 o (r.ext x) (by omega) fun p' c' h' A' a' s' => ?_
    rw [List.nil_append, Nat.zero_add] at a'
    rw [Nat.zero_add]
    exact ⟨_, _, A', rfl, a', s'.to⟩
abbrev E := Int × Int
theorem Blk.cellA {h : Hp} {b : Nat} {cs : List Value} {e : TypeId} (hb : Blk h b cs e) (o : Nat) : cell h ((⟨b, 0, none⟩ : Addr).add o) = cs[o]? := by rw [yabj, Nat.zero_add]; exact hb.cell o
abbrev Srt (l : List E) : Prop := l.Pairwise fun a b => a.1 < b.1
theorem Srt.app {a b : List E} : Srt (a ++ b) ↔ Srt a ∧ Srt b ∧ ∀ x ∈ a, ∀ y ∈ b, x.1 < y.1 := List.pairwise_append
theorem Srt.con {a : E} {b : List E} : Srt (a :: b) ↔ (∀ y ∈ b, a.1 < y.1) ∧ Srt b := List.pairwise_cons
def yadk : List E → Int → Bool
  | [], _ => false
  | e :: _, key => decide (e.1 = key)
theorem ybax {es : List E} {key : Int} (hs : Srt es) (hk : ∀ e ∈ es, key ≤ e.1) (hn : yadk es key = false) : ∀ e ∈ es, key < e.1 := by
  cases es with
  | nil => simp
  | cons e es =>
    rw [Srt.con] at hs
    have h1 : e.1 ≠ key := by simpa [yadk] using hn
    have h2 := hk e (by simp)
    intro x hx
    rcases List.mem_cons.1 hx with rfl | h
    · omega
    · have := hs.1 x h; omega
def lowS (xs : List E) (key : Int) : List E := xs.takeWhile fun e => decide (e.1 < key)
def upS (xs : List E) (key : Int) : List E := xs.dropWhile fun e => decide (e.1 < key)
def valOf : List E → Int | [] => 0 | e :: _ => e.2
theorem yagr {xs : List E} {key : Int} : xs = lowS xs key ++ upS xs key := (List.takeWhile_append_dropWhile).symm
def yaog (l : List E) : Int × Int × Bool := match l.getLast? with | none => (0, 0, false) | some e => (e.1, e.2, true)
def yazs (l : List E) : Int × Int × Bool := match l with | [] => (0, 0, false) | e :: _ => (e.1, e.2, true)
theorem yawy {xs : List E} {key : Int} : ∀ e ∈ lowS xs key, e.1 < key := fun e he => of_decide_eq_true (List.all_eq_true.1 List.all_takeWhile e he)
theorem yash {xs : List E} {key : Int} : (lowS xs key).Sublist xs := List.takeWhile_sublist _
theorem yasn {xs : List E} {key : Int} : (upS xs key).Sublist xs := List.dropWhile_sublist _
theorem up_ge {xs : List E} {key : Int} (hs : Srt xs) : ∀ e ∈ upS xs key, key ≤ e.1 := by
  have h1 : Srt (upS xs key) := hs.sublist yasn
  intro e he
  cases h : upS xs key with
  | nil => rw [h] at he; cases he
  | cons y ys =>
    have hy : ¬ y.1 < key := by
      have := List.head?_dropWhile_not (p := fun e : E => decide (e.1 < key)) xs
      rw [show xs.dropWhile (fun e => decide (e.1 < key)) = y :: ys from h] at this
      simpa using this
    rw [h] at he h1
    rcases List.mem_cons.1 he with rfl | he
    · omega
    · have := (Srt.con.1 h1).1 e he; omega
theorem yavo {xs : List E} {key : Int} : (lowS xs key).length ≤ xs.length := yash.length_le
theorem yajy {α : Type} {xs X Y : List α} (h : xs = X ++ Y) : xs.take X.length = X ∧ xs.drop X.length = Y := by subst h; exact ⟨List.take_left' rfl, List.drop_left' rfl⟩
theorem yalx {xs : List E} {key : Int} : xs.take (lowS xs key).length = lowS xs key := (yajy yagr).1
theorem yakj {xs : List E} {key : Int} : xs.drop (lowS xs key).length = upS xs key := (yajy yagr).2
theorem yapm {xs : List E} {key : Int} (h : yadk (upS xs key) key = true) : (lowS xs key).length < xs.length ∧ xs.getD (lowS xs key).length (0, 0) = (key, valOf (upS xs key)) ∧ xs.drop ((lowS xs key).length + 1) = (upS xs key).tail := by
  have hu := yakj (xs := xs) (key := key)
  cases hc : upS xs key with
  | nil => rw [hc] at h; cases h
  | cons e es =>
    rw [hc] at h hu
    have hk : e.1 = key := of_decide_eq_true h
    have hlt : (lowS xs key).length < xs.length := by
      rcases Nat.lt_or_ge (lowS xs key).length xs.length with h | h
      · exact h
      · rw [List.drop_of_length_le h] at hu; cases hu
    rw [List.drop_eq_getElem_cons hlt] at hu
    injection hu with h1 h2
    refine ⟨hlt, ?_, h2⟩
    have : xs.getD (lowS xs key).length (0, 0) = xs[(lowS xs key).length] := by simp [List.getD, hlt]
    rw [this, h1]
    show e = (key, e.2)
    rw [← hk]
theorem yasv {xs : List E} {key : Int} (h : 0 < (lowS xs key).length) : (yaog (lowS xs key)).1 = (xs.getD ((lowS xs key).length - 1) (0, 0)).1 ∧ (yaog (lowS xs key)).2.1 = (xs.getD ((lowS xs key).length - 1) (0, 0)).2 ∧ (yaog (lowS xs key)).2.2 = true := by
  have hl := yavo (xs := xs) (key := key)
  have h1 : xs.getD ((lowS xs key).length - 1) (0, 0) = (lowS xs key).getD ((lowS xs key).length - 1) (0, 0) := by
    have : ∀ {X Y : List E}, xs = X ++ Y → 0 < X.length → xs.getD (X.length - 1) (0, 0) = X.getD (X.length - 1) (0, 0) := by
      rintro X Y rfl hX
      simp [List.getD, List.getElem?_append, Nat.sub_lt hX]
    exact this yagr h
  rw [h1]
  have hlast : (lowS xs key).getLast? = some ((lowS xs key).getD ((lowS xs key).length - 1) (0, 0)) := by
    rw [List.getLast?_eq_getElem?, List.getElem?_eq_getElem (by omega)]
    simp [List.getD, (show (lowS xs key).length - 1 < (lowS xs key).length by omega)]
  simp only [yaog, hlast]
  exact ⟨trivial, trivial, trivial⟩
theorem yaul {X Y : List E} {key v : Int} (hX : Srt X) (hY : Srt Y) (h1 : ∀ e ∈ X, e.1 < key) (h2 : ∀ e ∈ Y, key < e.1) : Srt (X ++ (key, v) :: Y) := by
  rw [Srt.app, Srt.con]
  refine ⟨hX, ⟨h2, hY⟩, fun x hx y hy => ?_⟩
  rcases List.mem_cons.1 hy with rfl | hy
  · exact h1 x hx
  · exact Int.lt_trans (h1 x hx) (h2 y hy)
theorem yaqb {xs : List E} {key : Int} (hs : Srt xs) (hk : yadk (upS xs key) key = true) : ∀ e ∈ (upS xs key).tail, key < e.1 := by
  have h1 : Srt (upS xs key) := hs.sublist yasn
  cases h : upS xs key with
  | nil => simp
  | cons y ys =>
    rw [h] at h1 hk
    have hy : y.1 = key := of_decide_eq_true hk
    intro e he
    have := (Srt.con.1 h1).1 e he
    omega
def RdS {α : Type} (h0 : Hp) (G : Bag) (T : Ty α) (p : OA) (n : Nat) (xs : List α) : Prop := ∀ h' B, St h0 h' (B + G) → RdT T h' p n xs
theorem RdS.own {α : Type} {h0 : Hp} {A G : Bag} {T : Ty α} {p : OA} {n c : Nat} {xs : List α} (a : Sl T p n c xs A) : RdS h0 (A + G) T p n xs := fun _ B s => a.rd (s.to (B := A + (B + G)))
theorem yadi {g : Nat} {q : Int → Bool} (hX : ∀ (z : Int) (h : Hp) (K : VK), K (.bool (q z)) h → callX Tryz.prog F g #[.int .i64 z] h K) {h : Hp} {p : OA} {n c : Nat} {zs : List Int} (r : RdT TI h p n zs) (hn : n ≤ 1000000) :
    yaah Tryz.prog 86 #[.slice p n c, .func (.func g) #[] #[]] h (fun v h' => h' = h ∧ v = .bool (zs.any q)) := by
  have hzl := r.len
  refine zcp_call ?_
  rw [zcp_b0]
  refine zcw_call ?_
  rw [zcw_b0]
  refine ⟨fun s h' => h' = h ∧ ∃ i : Nat, s.1 = i ∧ i ≤ n ∧ (zs.take i).any q = false, fun s _ => n - s.1.toNat, ⟨rfl, 0, rfl, by omega, rfl⟩, ?_⟩
  rintro ⟨_, _⟩ h1 ⟨rfl, i, rfl, hin, hno⟩
  dsimp only
  rw [zcw_b1]
  refine condP (fun hlt => ?_) (fun hge => ?_)
  · refine r.int (by omega) (by omega) ?_
    rw [Int.toNat_natCast]
    refine hX _ _ _ ⟨_, rfl, ?_⟩
    have hil : i < zs.length := by omega
    have hg : zs.getD i 0 = zs[i] := by simp [List.getD, hil]
    refine yaat (fun h3 => ?_) (fun h3 => ?_)
    · refine ⟨_, rfl, rfl, ?_⟩
      rw [decide_eq_true (by omega), List.any_eq_true.2 ⟨_, List.getElem_mem hil, by rw [← hg]; exact h3⟩]
    · rw [zcw_b2]
      refine ⟨⟨by omega, by omega⟩, ⟨rfl, i + 1, by simp only; omega, by omega, ?_⟩, by simp only; omega⟩
      rw [List.take_succ_eq_append_getElem hil, List.any_append, hno, ← hg]
      show (false || (q (zs.getD i 0) || false)) = false
      rw [h3]
      rfl
  · rw [zcw_b3]
    refine ⟨_, rfl, rfl, ?_⟩
    rw [List.take_of_length_le (by omega)] at hno
    rw [hno]
    rfl
abbrev ChP (z : Int) : Prop := 0 ≤ z ∧ z ≤ 255
instance (z : Int) : Decidable (ChP z) := inferInstanceAs (Decidable (_ ∧ _))
abbrev W3 := ByteArray × Int × Bool
abbrev tW : Ty W3 := ⟨120, 3, fun w => [.string w.1, .int .i64 w.2.1, .bool w.2.2], (⟨#[]⟩, 0, false), fun _ => rfl, by decide, fun _ v hv => by simp at hv; rcases hv with rfl | rfl | rfl <;> rfl⟩
def wd1 : List W3 := [(⟨#[112, 117, 116]⟩, 2, true), (⟨#[103, 101, 116]⟩, 1, false), (⟨#[114, 101, 109, 111, 118, 101]⟩, 1, true), (⟨#[102, 108, 111, 111, 114]⟩, 1, false), (⟨#[99, 101, 105, 108, 105, 110, 103]⟩, 1, false), (⟨#[114, 97, 110, 107]⟩, 1, false), (⟨#[115, 101, 108, 101, 99, 116]⟩, 1, false), (⟨#[115, 105, 122, 101]⟩, 0, false)]
def wd2 : List W3 := [(⟨#[105, 110, 115, 101, 114, 116]⟩, 1, true), (⟨#[109, 105, 110]⟩, 0, false), (⟨#[100, 101, 108, 101, 116, 101, 109, 105, 110]⟩, 0, true), (⟨#[115, 105, 122, 101]⟩, 0, false)]
def wd3 : List W3 := [(⟨#[105, 110, 115, 101, 114, 116]⟩, 2, true), (⟨#[114, 101, 109, 111, 118, 101]⟩, 1, true), (⟨#[103, 101, 116]⟩, 1, false), (⟨#[115, 101, 116]⟩, 2, true), (⟨#[115, 117, 109]⟩, 2, false), (⟨#[114, 101, 118, 101, 114, 115, 101]⟩, 2, true), (⟨#[115, 105, 122, 101]⟩, 0, false)]
def wd4 : List W3 := [(⟨#[109, 97, 107, 101]⟩, 0, true), (⟨#[117, 110, 105, 111, 110]⟩, 2, true), (⟨#[115, 97, 109, 101]⟩, 2, false), (⟨#[115, 105, 122, 101]⟩, 1, false), (⟨#[99, 111, 117, 110, 116]⟩, 0, false)]
def wd5 : List W3 := [(⟨#[97, 100, 100]⟩, 3, true), (⟨#[114, 101, 109, 111, 118, 101]⟩, 2, true), (⟨#[99, 111, 117, 110, 116]⟩, 4, false), (⟨#[115, 117, 109]⟩, 4, false), (⟨#[115, 105, 122, 101]⟩, 0, false)]
def wd6 : List W3 := [(⟨#[97, 112, 112, 101, 110, 100]⟩, (-1), true), (⟨#[99, 111, 117, 110, 116]⟩, (-1), false), (⟨#[102, 105, 110, 100]⟩, (-1), false), (⟨#[115, 105, 122, 101]⟩, 0, false)]
def ar1 : List Int := [2, 1, 1, 1, 1, 1, 1, 0]
def ar2 : List Int := [1, 0, 0, 0]
def ar3 : List Int := [2, 1, 1, 2, 2, 2, 0]
def ar4 : List Int := [0, 2, 2, 1, 0]
def ar5 : List Int := [3, 2, 4, 4, 0]
def ar6 : List Int := [(-1), (-1), (-1), 0]
def arT (k : Int) : List Int := if k = 1 then ar1 else if k = 2 then ar2 else if k = 3 then ar3 else if k = 4 then ar4 else if k = 5 then ar5 else if k = 6 then ar6 else []
def wdT (k : Int) : List W3 := if k = 1 then wd1 else if k = 2 then wd2 else if k = 3 then wd3 else if k = 4 then wd4 else if k = 5 then wd5 else if k = 6 then wd6 else []
theorem wd_ar (k : Int) : (wdT k).map (fun w => w.2.1) = arT k := by
  unfold wdT arT
  repeat' split
  all_goals rfl
theorem yarp (k : Int) (h : Hp) : yaah Tryz.prog 54 #[.int .i64 k] h (fun v h' => ∃ p c, v = .slice p (wdT k).length c ∧ RdT tW h' p (wdT k).length (wdT k) ∧ Ext h h') := by
  refine zcg_call ?_
  rw [zcg_b0]
  unfold wdT
  refine condP (fun hk => ?_) (fun hk1 => ?_)
  · rw [if_pos hk]
    refine (St.start h).new (cs := tW.cells wd1) fun b1 h1 x1 s1 => ?_
    exact ⟨_, _, rfl, (Sl.of_blk (T := tW) (xs := wd1) rfl rfl).rd s1, x1⟩
  rw [if_neg hk1]
  refine condP (fun hk => ?_) (fun hk2 => ?_)
  · rw [if_pos hk]
    refine (St.start h).new (cs := tW.cells wd2) fun b1 h1 x1 s1 => ?_
    exact ⟨_, _, rfl, (Sl.of_blk (T := tW) (xs := wd2) rfl rfl).rd s1, x1⟩
  rw [if_neg hk2]
  refine condP (fun hk => ?_) (fun hk3 => ?_)
  · rw [if_pos hk]
    refine (St.start h).new (cs := tW.cells wd3) fun b1 h1 x1 s1 => ?_
    exact ⟨_, _, rfl, (Sl.of_blk (T := tW) (xs := wd3) rfl rfl).rd s1, x1⟩
  rw [if_neg hk3]
  refine condP (fun hk => ?_) (fun hk4 => ?_)
  · rw [if_pos hk]
    refine (St.start h).new (cs := tW.cells wd4) fun b1 h1 x1 s1 => ?_
    exact ⟨_, _, rfl, (Sl.of_blk (T := tW) (xs := wd4) rfl rfl).rd s1, x1⟩
  rw [if_neg hk4]
  refine condP (fun hk => ?_) (fun hk5 => ?_)
  · rw [if_pos hk]
    refine (St.start h).new (cs := tW.cells wd5) fun b1 h1 x1 s1 => ?_
    exact ⟨_, _, rfl, (Sl.of_blk (T := tW) (xs := wd5) rfl rfl).rd s1, x1⟩
  rw [if_neg hk5]
  refine condP (fun hk => ?_) (fun hk6 => ?_)
  · rw [if_pos hk]
    refine (St.start h).new (cs := tW.cells wd6) fun b1 h1 x1 s1 => ?_
    exact ⟨_, _, rfl, (Sl.of_blk (T := tW) (xs := wd6) rfl rfl).rd s1, x1⟩
  rw [if_neg hk6]
  rw [zcg_b1]
  exact ⟨_, _, rfl, RdT.nil _ _, Ext.refl h⟩
def OpV (k c : Int) (zs : List Int) : Prop := (1 ≤ c ∧ c ≤ (arT k).length) ∧ (if (arT k).getD (c - 1).toNat 0 < 0 then (1 ≤ zs.length ∧ zs.length ≤ 64) ∧ ∀ z ∈ zs, ChP z else (zs.length : Int) = (arT k).getD (c - 1).toNat 0 ∧ ∀ z ∈ zs, KeyP z)
instance (k c : Int) (zs : List Int) : Decidable (OpV k c zs) := by unfold OpV; infer_instance
theorem yauf (z : Int) (h : Hp) : yaah Tryz.prog 88 #[.int .i64 z] h (fun v h' => v = .bool (decide (ChP z)) ∧ h' = h) := by
  refine zbm_call ?_
  rw [zbm_b0]
  refine condP (fun h1 => ⟨?_, rfl⟩) (fun h1 => ⟨?_, rfl⟩)
  · congr 1; exact decide_eq_decide.2 ⟨fun h2 => ⟨h1, h2⟩, fun h2 => h2.2⟩
  · rw [decide_eq_false (fun h2 => h1 h2.1)]
theorem yavm (z : Int) (h : Hp) : yaah Tryz.prog 91 #[.int .i64 z] h (fun v h' => v = .bool (decide (KeyP z)) ∧ h' = h) := by
  refine zbv_call ?_
  rw [zbv_b0]
  refine condP (fun h1 => ⟨?_, rfl⟩) (fun h1 => ⟨?_, rfl⟩)
  · congr 1; exact decide_eq_decide.2 ⟨fun h2 => ⟨h1, h2⟩, fun h2 => h2.2⟩
  · rw [decide_eq_false (fun h2 => h1 h2.1)]
theorem ybbf (z : Int) (h : Hp) (K : VK) (hk : K (.bool (!decide (ChP z))) h) : callX Tryz.prog F 89 #[.int .i64 z] h K := by
  refine yadl (by kernel_rfl) (zbi_call ?_)
  rw [zbi_b0]
  exact (yauf z h).mono fun v h' ⟨hv, hh⟩ => ⟨_, hv, by rw [hh]; exact hk⟩
theorem ybbh (z : Int) (h : Hp) (K : VK) (hk : K (.bool (!decide (KeyP z))) h) : callX Tryz.prog F 90 #[.int .i64 z] h K := by
  refine yadl (by kernel_rfl) (zbj_call ?_)
  rw [zbj_b0]
  exact (yavm z h).mono fun v h' ⟨hv, hh⟩ => ⟨_, hv, by rw [hh]; exact hk⟩
theorem yare {P : Int → Prop} [DecidablePred P] {zs : List Int} : (!zs.any fun z => !decide (P z)) = decide (∀ z ∈ zs, P z) := by
  induction zs with
  | nil => rfl
  | cons z zs ih =>
    rw [List.any_cons, Bool.not_or, ih, Bool.not_not]
    by_cases h1 : P z <;> by_cases h2 : ∀ z ∈ zs, P z <;> simp [h1, h2]
theorem yane {h : Hp} {p : OA} {n : Nat} {l : List W3} {i : Int} {Q : ByteArray → Int → Bool → Prop} (r : RdT tW h p n l) (h0 : 0 ≤ i) (h1 : i < n) (hq : Q (l.getD i.toNat tW.d).1 (l.getD i.toNat tW.d).2.1 (l.getD i.toNat tW.d).2.2) :
    (0 ≤ i ∧ i < (n : Int)) ∧ NN p fun a => ∃ x : ByteArray, ∃ y : Int, ∃ z : Bool, cell h (a.add (Int.toNat i * 3)) = some (.string x) ∧ cell h ((a.add (Int.toNat i * 3)).add 1) = some (.int .i64 y) ∧ cell h ((a.add (Int.toNat i * 3)).add 2) = some (.bool z) ∧ Q x y z :=
  r.idx h0 h1 fun _ _ hc => ⟨_, _, _, hc 0 (show 0 < 3 by decide), hc 1 (show 1 < 3 by decide), hc 2 (show 2 < 3 by decide), hq⟩
theorem ybbi (k : Int) : (wdT k).length = (arT k).length := by rw [← wd_ar, List.length_map]
theorem ybbn (k : Int) (i : Nat) : ((wdT k).getD i tW.d).2.1 = (arT k).getD i 0 := by
  rw [← wd_ar]
  simp only [List.getD, List.getElem?_map]
  cases (wdT k)[i]? <;> rfl
theorem yazg (k : Int) (j : Nat) : (arT k).getD j 0 ≤ 4 := by
  have h : ∀ x ∈ arT k, x ≤ 4 := by
    unfold arT
    repeat' split
    all_goals decide
  rw [List.getD_eq_getElem?_getD]
  cases hj : (arT k)[j]? with
  | none => simp
  | some x => exact h x (List.mem_of_getElem? hj)
theorem yasd {k c : Int} {zs : List Int} {h : Hp} {p : OA} {n cc : Nat} (r : RdT TI h p n zs) :
    yaah Tryz.prog 57 #[.int .i64 k, .agg #[.int .i64 c, .slice p n cc]] h (fun v h' => v = .bool (decide (OpV k c zs)) ∧ Ext h h') := by
  have hzl := r.len
  refine zbh_call ?_
  rw [zbh_b0]
  refine (St.start h).new (cs := [.int .i64 c, .slice p n cc]) fun b1 h1 x1 s1 => ?_
  refine (yarp k h1).mono fun v1 h2 ⟨q, d, hv1, rw1, x2⟩ => ⟨_, _, _, hv1, ?_⟩
  have s2 := s1.grow x2
  have kb := s2.blk
  have hx2 : Ext h h2 := x1.trans x2
  have hwl := ybbi k
  refine ⟨_, kb.cell 0, condP (fun hc => ?_) (fun hc => ⟨_, kb.cell 0, condP (fun hc2 => ?_) (fun hc2 => ?_)⟩)⟩
  · exact ⟨by rw [decide_eq_false (fun h => by have := h.1; omega)], hx2⟩
  · exact ⟨by rw [decide_eq_false (fun h => by have := h.1; omega)], hx2⟩
  have hlen8 : (arT k).length ≤ 8 := by unfold arT; repeat' split
                                        all_goals decide
  rw [zbh_b1]
  refine ⟨_, kb.cell 0, ⟨by omega, by omega⟩, yane rw1 (by omega) (by omega) ?_⟩
  rw [ybbn]
  generalize ha : (arT k).getD (c - 1).toNat 0 = a
  refine s2.new (cs := [.string ⟨#[]⟩, .int .i64 0, .bool false]) fun b3 h3 _ s3 => ?_
  refine s3.wr rfl (by simp) fun h4 s4 => ?_
  refine s4.wr (o := 1) (yabj _ _ _) (by simp) fun h5 s5 => ?_
  refine s5.wr (o := 2) (yabj _ _ _) (by simp) fun h6 s6 => ?_
  have x6 : Ext h h6 := s6.ext
  have kb6 := s6.drop.blk
  have r6 := r.ext x6
  refine ⟨_, Blk.cellA s6.blk 1, condP (fun hneg => ?_) (fun hneg => ?_)⟩
  · have hiff : OpV k c zs ↔ (1 ≤ zs.length ∧ zs.length ≤ 64) ∧ ∀ z ∈ zs, ChP z := by
      unfold OpV
      rw [ha, if_pos hneg]
      exact ⟨fun h => h.2, fun h => ⟨⟨by omega, by omega⟩, h⟩⟩
    refine ⟨_, _, _, Blk.cellA kb6 1, condP (fun h1 => ?_) (fun h1 => ?_)⟩
    · refine ⟨_, _, _, Blk.cellA kb6 1, condP (fun h2 => ?_) (fun h2 => ?_)⟩
      · refine ⟨_, _, _, Blk.cellA kb6 1, (yadi ybbf r6 (by omega)).mono fun v2 h7 ⟨hh7, hv2⟩ => ⟨_, hv2, ?_, ?_⟩⟩
        · rw [yare]
          congr 1
          exact decide_eq_decide.2 (by rw [hiff]; exact ⟨fun h => ⟨⟨by omega, by omega⟩, h⟩, fun h => h.2⟩)
        · rw [hh7]; exact x6
      · exact ⟨by rw [decide_eq_false (fun h => by have := (hiff.1 h).1; omega)], x6⟩
    · exact ⟨by rw [decide_eq_false (fun h => by have := (hiff.1 h).1; omega)], x6⟩
  · have hiff : OpV k c zs ↔ (zs.length : Int) = a ∧ ∀ z ∈ zs, KeyP z := by
      unfold OpV
      rw [ha, if_neg hneg]
      exact ⟨fun h => h.2, fun h => ⟨⟨by omega, by omega⟩, h⟩⟩
    refine ⟨_, _, _, Blk.cellA kb6 1, _, Blk.cellA s6.blk 1, condP (fun h1 => ?_) (fun h1 => ?_)⟩
    · refine ⟨_, _, _, Blk.cellA kb6 1, (yadi ybbh r6 (by have := yazg k (c - 1).toNat; omega)).mono fun v2 h7 ⟨hh7, hv2⟩ => ⟨_, hv2, ?_, ?_⟩⟩
      · rw [yare]
        congr 1
        exact decide_eq_decide.2 (by rw [hiff]; exact ⟨fun h => ⟨by omega, h⟩, fun h => h.2⟩)
      · rw [hh7]; exact x6
    · exact ⟨by rw [decide_eq_false (fun h => by have := (hiff.1 h).1; omega)], x6⟩
theorem yaya {k c : Int} (hk : 1 ≤ k ∧ k ≤ 6) (hc : 1 ≤ c ∧ c ≤ (arT k).length) : (k = 6 → (arT k).getD (c - 1).toNat 0 ≤ 0) ∧ (k ≠ 6 → 0 ≤ (arT k).getD (c - 1).toNat 0) ∧ (arT k).getD (c - 1).toNat 0 ≤ 4 := by
  have hlen8 : (arT k).length ≤ 8 := by unfold arT; repeat' split
                                        all_goals decide
  generalize hj : (c - 1).toNat = j
  have hj8 : j < 8 := by omega
  have hk' : k = 1 ∨ k = 2 ∨ k = 3 ∨ k = 4 ∨ k = 5 ∨ k = 6 := by omega
  rcases hk' with rfl | rfl | rfl | rfl | rfl | rfl
  · exact ⟨fun h => by omega, fun _ => (by decide : ∀ j < 8, 0 ≤ (arT 1).getD j 0) j hj8, (by decide : ∀ j < 8, (arT 1).getD j 0 ≤ 4) j hj8⟩
  · exact ⟨fun h => by omega, fun _ => (by decide : ∀ j < 8, 0 ≤ (arT 2).getD j 0) j hj8, (by decide : ∀ j < 8, (arT 2).getD j 0 ≤ 4) j hj8⟩
  · exact ⟨fun h => by omega, fun _ => (by decide : ∀ j < 8, 0 ≤ (arT 3).getD j 0) j hj8, (by decide : ∀ j < 8, (arT 3).getD j 0 ≤ 4) j hj8⟩
  · exact ⟨fun h => by omega, fun _ => (by decide : ∀ j < 8, 0 ≤ (arT 4).getD j 0) j hj8, (by decide : ∀ j < 8, (arT 4).getD j 0 ≤ 4) j hj8⟩
  · exact ⟨fun h => by omega, fun _ => (by decide : ∀ j < 8, 0 ≤ (arT 5).getD j 0) j hj8, (by decide : ∀ j < 8, (arT 5).getD j 0 ≤ 4) j hj8⟩
  · exact ⟨fun _ => (by decide : ∀ j < 8, (arT 6).getD j 0 ≤ 0) j hj8, fun h => absurd rfl h, (by decide : ∀ j < 8, (arT 6).getD j 0 ≤ 4) j hj8⟩
abbrev RowP (s : SH) (l : List Int) (A : Bag) : Prop := Sl TI s.1 s.2.1 s.2.2 l A
abbrev RowsA : SH → List (List Int) → Bag → Prop := Nest 29 RowP
abbrev TR : Ty SH := tS 29
theorem ybaz : ElOk TR Tryz.prog 22 := yafi (by kernel_rfl)
theorem yabh {s : SH} {xs : List (List Int)} {B : Bag} (n : RowsA s xs B) : xs.length = s.2.1 := Nest.len n
theorem yajg {h0 h : Hp} {p : OA} {n c : Nat} {rows : List (List Int)} {B G : Bag} {i j : Int} {Q : Int → Prop} (na : RowsA (p, n, c) rows B) (st : St h0 h (B + G)) (hi0 : 0 ≤ i) (hi : i < n) (hj0 : 0 ≤ j) (hj : j < (rows.getD i.toNat []).length)
    (hq : Q ((rows.getD i.toNat []).getD j.toNat 0)) : (0 ≤ i ∧ i < (n : Int)) ∧ NN p fun a => ∃ a8 L5 C5, cell h (a.add (i.toNat * 1)) = some (.slice a8 L5 C5) ∧ (0 ≤ j ∧ j < (L5 : Int)) ∧ NN a8 fun a9 => ∃ n4, cell h (a9.add (j.toNat * 1)) = some (.int .i64 n4) ∧ Q n4 := by
  refine Nest.at_ (d := []) na st hi0 hi fun q l d Bi Br o hB => ?_
  have o : Sl TI q l d (rows.getD i.toNat []) Bi := o
  have hl := o.len
  have st2 : St h0 h (Bi + (Br + G)) := by rw [hB] at st; exact st.to
  exact (o.rd st2).int hj0 (by omega) hq
theorem AllH.cut {hs : List SH} {rows : List (List Int)} {A : Bag} (h : AllH RowP hs rows A) (i : Nat) : ∃ A1 A2, A = A1 + A2 ∧ AllH RowP (hs.take i) (rows.take i) A1 ∧ AllH RowP (hs.drop i) (rows.drop i) A2 := by
  have hl := h.len
  refine AllH.split (hs.take i) (rows.take i) (by rw [List.length_take, List.length_take, hl]) ?_
  rw [List.take_append_drop, List.take_append_drop]
  exact h
theorem opv1 {code : Int} {zs : List Int} (h : OpV 1 code zs) : (1 ≤ code ∧ code ≤ 8) ∧ (code ≠ 8 → 1 ≤ zs.length) ∧ (code = 1 → 2 ≤ zs.length) ∧ ∀ z ∈ zs, KeyP z := by
  obtain ⟨h1, h2⟩ := h
  have e8 : (arT 1).length = 8 := rfl
  rw [e8] at h1
  obtain ⟨f1, f2, f3⟩ := yaya (k := 1) (c := code) (by omega) (by rw [e8]; exact h1)
  have f2 := f2 (by decide)
  rw [if_neg (by omega)] at h2
  have hc : code = 1 ∨ code = 2 ∨ code = 3 ∨ code = 4 ∨ code = 5 ∨ code = 6 ∨ code = 7 ∨ code = 8 := by omega
  have e : (arT 1).getD (code - 1).toNat 0 = if code = 1 then 2 else if code = 8 then 0 else 1 := by
    rcases hc with rfl | rfl | rfl | rfl | rfl | rfl | rfl | rfl <;> rfl
  rw [e] at h2
  refine ⟨⟨by omega, by omega⟩, fun h8 => ?_, fun h1' => ?_, h2.2⟩
  · have := h2.1
    rw [if_neg h8] at this
    split at this <;> omega
  · have := h2.1
    rw [if_pos h1'] at this; omega
theorem ybar : IsExt Tryz.prog 146 (Extern.SlicesOverlaps.overlaps Tryz.f146.params Tryz.f146.resultTypes) :=
  ⟨Tryz.f146, Tryz.func146, by kernel_rfl, by kernel_rfl, by kernel_rfl, by kernel_rfl⟩
theorem yaei : ElOk (tS 29) Tryz.prog 22 := yafi (by kernel_rfl)
theorem yaqq {h0 h : Hp} {p : OA} {n c i bv : Nat} {xs : List SH} {x : SH} {cs : List Value} {A F : Bag} (s : St h0 h (A + (cA bv cs (tS 29).e + F))) (a : Sl (tS 29) p n c xs A)
    (hcs : cs = (tS 29).enc x) (hi : i ≤ n) (hn : n < 1000000) :
    yaah Tryz.prog 129 #[.slice p n c, .int .i64 (i : Int), .slice (some ⟨bv, 0, none⟩) 1 1] h (fun v h' => ∃ p' c' A', v = .slice p' (n + 1) c' ∧ Sl (tS 29) p' (n + 1) c' (xs.take i ++ x :: xs.drop i) A' ∧ St h0 h' (A' + (cA bv cs (tS 29).e + F))) := by
  have hcap := a.cap
  have hlen := a.len
  have one : Sl (tS 29) (some ⟨bv, 0, none⟩) 1 1 [x] (cA bv cs (tS 29).e) := Sl.one hcs
  have rv : RdT (tS 29) h (some ⟨bv, 0, none⟩) 1 [x] := one.rd (s.to (B := cA bv cs (tS 29).e + (A + F)))
  refine zcy_call ?_
  rw [zcy_b0]
  refine ⟨⟨by omega, by omega, by omega⟩, yaau (by decide) ?_⟩
  have e1 : Int.toNat (i : Int) = i := Int.toNat_natCast i
  have e0 : Int.toNat (0 : Int) = 0 := rfl
  refine condP (fun h1 => ?_) (fun h1 => ?_)
  · have : i = n := by omega
    subst this
    refine yacb yaei s a rv (by omega) fun p' c' h' A' a' s' => ?_
    refine ⟨p', c', A', rfl, ?_, s'⟩
    rw [List.take_of_length_le (by omega), List.drop_eq_nil_of_le (by omega)]
    exact a'
  have hin : i < n := by omega
  have hti : ((tS 29).cells (xs.take i)).length = i * (tS 29).sz := by rw [(tS 29).cells_len, List.length_take]; congr 1; omega
  refine ⟨⟨by omega, by omega⟩, condP (fun h2 => ?_) (fun h2 => ?_)⟩
  · -- a new block
    have hcn : c < n + 1 := by omega
    refine ⟨⟨by omega, by omega, by omega⟩, ⟨by omega, by omega⟩, ⟨by omega, by omega⟩, ?_⟩
    rw [e0, e1, yacu, Nat.sub_zero, Nat.sub_zero]
    have rt : RdT (tS 29) h p i (xs.take i) := (a.rd s).take (by omega)
    have el : (((n : Int) + ((1 : Nat) : Int)) - (i : Int)).toNat = n + 1 - i := by omega
    refine yajj yaei (by kernel_rfl) (by kernel_rfl) s rt (by omega) (by omega) (by omega) fun b c' h' mid rest hc' hm hr s1 => ?_
    rw [el] at hm hr hc' ⊢
    have hl2 : i + (n + 1 - i) = n + 1 := by omega
    rw [hl2] at hr hc' ⊢
    refine ⟨⟨by omega, by omega, by omega⟩, ?_⟩
    have e2 : Int.toNat (((n + 1 : Nat) : Nat) : Int) = n + 1 := Int.toNat_natCast _
    have e3 : Int.toNat ((i : Int) + ((1 : Nat) : Int)) = i + 1 := by omega
    have e4 : Int.toNat (n : Int) = n := Int.toNat_natCast _
    rw [e2, e3, e4]
    have es1 : yaao (some ⟨b, 0, none⟩) c' i (tS 29).sz = some ⟨b, i * (tS 29).sz, none⟩ := by rw [yabw (by omega), Nat.zero_add]
    have es2 : yaao (some ⟨b, 0, none⟩) c' (i + 1) (tS 29).sz = some ⟨b, (i + 1) * (tS 29).sz, none⟩ := by rw [yabw (by omega), Nat.zero_add]
    rw [show yaao (some ⟨b, 0, none⟩) c' i 1 = some ⟨b, i * (tS 29).sz, none⟩ from es1, show yaao (some ⟨b, 0, none⟩) c' (i + 1) 1 = some ⟨b, (i + 1) * (tS 29).sz, none⟩ from es2]
    have hm1 : mid.length = (tS 29).sz + (n - i) * (tS 29).sz := by rw [hm, show n + 1 - i = 1 + (n - i) by omega, Nat.add_mul, Nat.one_mul]
    have em : mid = mid.take (tS 29).sz ++ mid.drop (tS 29).sz := (List.take_append_drop _ _).symm
    have s2 : St h0 h' (cA b ((tS 29).cells (xs.take i) ++ mid.take (tS 29).sz ++ (mid.drop (tS 29).sz ++ rest)) (tS 29).e + (A + (cA bv cs (tS 29).e + F))) := by
      have e : (tS 29).cells (xs.take i) ++ mid.take (tS 29).sz ++ (mid.drop (tS 29).sz ++ rest) = (tS 29).cells (xs.take i) ++ mid ++ rest := by
        conv => rhs; rw [em]
        simp only [List.append_assoc]
      rw [e]; exact s1
    have rv2 : RdT (tS 29) h' (some ⟨bv, 0, none⟩) 1 [x] := one.rd (s2.to (B := cA bv cs (tS 29).e + (cA b _ _ + (A + F))))
    refine yany (j := 1) yaei s2 rv2 hti (by omega) (by rw [List.length_take]; omega) fun v1 h3 s3 _ => ?_
    refine ⟨⟨by omega, by omega⟩, ⟨by omega, by omega, by omega⟩, ⟨by omega, by omega, by omega⟩, ?_⟩
    rw [(tS 29).cells_one] at s3
    have s4 : St h0 h3 (cA b (((tS 29).cells (xs.take i) ++ (tS 29).enc x) ++ mid.drop (tS 29).sz ++ rest) (tS 29).e + (A + (cA bv cs (tS 29).e + F))) := by
      have e : ((tS 29).cells (xs.take i) ++ (tS 29).enc x) ++ mid.drop (tS 29).sz ++ rest = (tS 29).cells (xs.take i) ++ (tS 29).enc x ++ (mid.drop (tS 29).sz ++ rest) := by simp only [List.append_assoc]
      rw [e]; exact s3
    have ra : RdT (tS 29) h3 p n xs := a.rd (s4.to (B := A + (cA b _ _ + (cA bv cs (tS 29).e + F))))
    have rs := ra.sub hi hcap rfl
    refine yany (j := n - i) yaei s4 rs (by rw [List.length_append, hti, (tS 29).len, Nat.add_mul, Nat.one_mul]) (by omega) (by rw [List.length_drop, hm1, Nat.add_sub_cancel_left]) fun v2 h4 s5 _ => ?_
    refine ⟨_, _, _, rfl, ⟨by simp; omega, .inr ⟨b, rest, rfl, hc', hr, rfl⟩⟩, ?_⟩
    rw [(tS 29).cells_append, (tS 29).cells_cons]
    have e : (tS 29).cells (xs.take i) ++ ((tS 29).enc x ++ (tS 29).cells (xs.drop i)) ++ rest = (tS 29).cells (xs.take i) ++ (tS 29).enc x ++ (tS 29).cells (xs.drop i) ++ rest := by simp only [List.append_assoc]
    rw [e]
    exact (s5.to (B := A + (cA b _ _ + (cA bv cs (tS 29).e + F)))).drop
  · -- in place
    have hcn : n + 1 ≤ c := by omega
    rcases a with ⟨hl, ⟨rfl, h3, _, _⟩ | ⟨b, rest, rfl, hc, hr, rfl⟩⟩
    · omega
    have a : Sl (tS 29) (some ⟨b, 0, none⟩) n c xs (cA b ((tS 29).cells xs ++ rest) (tS 29).e) := ⟨hl, .inr ⟨b, rest, rfl, hc, hr, rfl⟩⟩
    have e3 : Int.toNat ((i : Int) + ((1 : Nat) : Int)) = i + 1 := by omega
    have e4 : Int.toNat (n : Int) = n := Int.toNat_natCast _
    have e5 : Int.toNat ((n : Int) + ((1 : Nat) : Int)) = n + 1 := by omega
    have e6 : Int.toNat (((n + 1 : Nat) : Nat) : Int) = n + 1 := Int.toNat_natCast _
    simp only [e0, e1, e3, e4, e5, e6, yacu, Nat.sub_zero]
    refine ⟨⟨by omega, by omega⟩, ⟨by omega, by omega, by omega⟩, ⟨by omega, by omega⟩, ⟨by omega, by omega, by omega⟩, ?_⟩
    have es1 : yaao (some ⟨b, 0, none⟩) c (i + 1) (tS 29).sz = some ⟨b, (i + 1) * (tS 29).sz, none⟩ := by rw [yabw (by omega), Nat.zero_add]
    rw [show yaao (some ⟨b, 0, none⟩) c (i + 1) 1 = some ⟨b, (i + 1) * (tS 29).sz, none⟩ from es1]
    obtain ⟨i0, z, hi0, hz, hzs, hzc, hbt⟩ := (yaei).info
    have hrl : (tS 29).sz ≤ rest.length := by rw [hr]; calc (tS 29).sz = 1 * (tS 29).sz := (Nat.one_mul _).symm
                                              _ ≤ (c - n) * (tS 29).sz := Nat.mul_le_mul_right _ (by omega)
    have er : rest = rest.take (tS 29).sz ++ rest.drop (tS 29).sz := (List.take_append_drop _ _).symm
    refine yaoa ybar (t := 22) (e := 29) (by kernel_rfl) (by kernel_rfl) hi0 (s.to (B := cA bv cs (tS 29).e + (cA b _ _ + F))) ⟨_, rfl, ?_⟩
    refine ⟨⟨by omega, by omega⟩, ⟨by omega, by omega, by omega⟩, ⟨by omega, by omega, by omega⟩, ?_⟩
    -- the elements from i on move by one
    have hdl : ((tS 29).cells (xs.drop i)).length = (n - i) * (tS 29).sz := by rw [(tS 29).cells_len, List.length_drop, hl]
    have hd1l : ((tS 29).cells (xs.drop (i + 1))).length = (n - (i + 1)) * (tS 29).sz := by rw [(tS 29).cells_len, List.length_drop, hl]
    have ht1 : ((tS 29).cells (xs.take (i + 1))).length = (i + 1) * (tS 29).sz := by rw [(tS 29).cells_len, List.length_take]; congr 1; omega
    have s1 : St h0 h (cA b ((tS 29).cells (xs.take (i + 1)) ++ ((tS 29).cells (xs.drop (i + 1)) ++ rest.take (tS 29).sz) ++ rest.drop (tS 29).sz) (tS 29).e + (cA bv cs (tS 29).e + F)) := by
      have e : (tS 29).cells (xs.take (i + 1)) ++ ((tS 29).cells (xs.drop (i + 1)) ++ rest.take (tS 29).sz) ++ rest.drop (tS 29).sz = (tS 29).cells xs ++ rest := by
        rw [List.append_assoc, List.append_assoc, ← er, ← List.append_assoc, ← (tS 29).cells_append, List.take_append_drop]
      rw [e]; exact s
    have rx : RdT (tS 29) h (some ⟨b, 0, none⟩) n xs := a.rd s
    have rs : RdT (tS 29) h (yaao (some ⟨b, 0, none⟩) c i (tS 29).sz) (n - i) (xs.drop i) := rx.sub hi hcap rfl
    refine yany (j := n - i) yaei s1 rs ht1 (by omega) (by rw [List.length_append, hd1l, List.length_take, Nat.min_eq_left hrl, show n - i = (n - (i + 1)) + 1 by omega, Nat.add_mul, Nat.one_mul]) fun v4 h5 s5 _ => ?_
    refine ⟨⟨by omega, by omega, by omega⟩, ?_⟩
    have es2 : yaao (some ⟨b, 0, none⟩) c i (tS 29).sz = some ⟨b, i * (tS 29).sz, none⟩ := by rw [yabw (by omega), Nat.zero_add]
    rw [show yaao (some ⟨b, 0, none⟩) c i 1 = some ⟨b, i * (tS 29).sz, none⟩ from es2]
    have s6 : St h0 h5 (cA b ((tS 29).cells (xs.take i) ++ (tS 29).enc xs[i] ++ ((tS 29).cells (xs.drop i) ++ rest.drop (tS 29).sz)) (tS 29).e + (cA bv cs (tS 29).e + F)) := by
      have e : (tS 29).cells (xs.take i) ++ (tS 29).enc xs[i] ++ ((tS 29).cells (xs.drop i) ++ rest.drop (tS 29).sz) = (tS 29).cells (xs.take (i + 1)) ++ (tS 29).cells (xs.drop i) ++ rest.drop (tS 29).sz := by
        rw [List.take_succ_eq_append_getElem (by omega), (tS 29).cells_append, (tS 29).cells_one]; simp only [List.append_assoc]
      rw [e]; exact s5
    have rv5 : RdT (tS 29) h5 (some ⟨bv, 0, none⟩) 1 [x] := one.rd (s6.to (B := cA bv cs (tS 29).e + (cA b _ _ + F)))
    refine yany (j := 1) yaei s6 rv5 hti (by omega) (by rw [(tS 29).len, Nat.one_mul]) fun v5 h6 s7 _ => ?_
    refine ⟨_, _, _, rfl, ⟨by simp; omega, .inr ⟨b, rest.drop (tS 29).sz, rfl, hcn, ?_, rfl⟩⟩, ?_⟩
    · rw [List.length_drop, hr, show c - n = (c - (n + 1)) + 1 by omega, Nat.add_mul, Nat.one_mul]; omega
    · rw [(tS 29).cells_one] at s7
      rw [(tS 29).cells_append, (tS 29).cells_cons]
      have e : (tS 29).cells (xs.take i) ++ ((tS 29).enc x ++ (tS 29).cells (xs.drop i)) ++ rest.drop (tS 29).sz = (tS 29).cells (xs.take i) ++ (tS 29).enc x ++ ((tS 29).cells (xs.drop i) ++ rest.drop (tS 29).sz) := by simp only [List.append_assoc]
      rw [e]
      exact s7
theorem yape {h0 h : Hp} {p : OA} {n c i : Nat} {j : Int} {xs : List SH} {A F : Bag} (s : St h0 h (A + F)) (a : Sl (tS 29) p n c xs A) (hi : i < n) (hj : j = (i : Int) + 1) (hn : n < 1000000) :
    yaah Tryz.prog 130 #[.slice p n c, .int .i64 (i : Int), .int .i64 j] h (fun v h' => ∃ A', v = .slice p (n - 1) c ∧ Sl (tS 29) p (n - 1) c (xs.take i ++ xs.drop (i + 1)) A' ∧ St h0 h' (A' + F)) := by
  obtain rfl : j = ((i + 1 : Nat) : Int) := by omega
  have hcap := a.cap
  have hlen := a.len
  have rd := a.rd s
  refine zcs_call ?_
  rw [zcs_b0]
  refine ybbs (yaei).el (by omega) (by omega) hcap fun _ => condP (fun h1 => by omega) (fun _ => ?_)
  have e1 : Int.toNat (i : Int) = i := Int.toNat_natCast i
  have e2 : Int.toNat ((i + 1 : Nat) : Int) = i + 1 := Int.toNat_natCast _
  have e3 : Int.toNat (n : Int) = n := Int.toNat_natCast _
  have e0 : Int.toNat (0 : Int) = 0 := rfl
  refine ⟨⟨by omega, by omega, by omega⟩, ⟨by omega, by omega, by omega⟩, ?_⟩
  rw [e0, e1, e2, e3, yacu, Nat.sub_zero, Nat.sub_zero]
  rcases a with ⟨hl, ⟨rfl, h3, _, _⟩ | ⟨b, rest, rfl, hc, hr, rfl⟩⟩
  · omega
  have hti : ((tS 29).cells (xs.take i)).length = i * (tS 29).sz := by rw [(tS 29).cells_len, List.length_take]; congr 1; omega
  have hdl : ((tS 29).cells (xs.drop i)).length = (n - i) * (tS 29).sz := by rw [(tS 29).cells_len, List.length_drop, hl]
  have hd1l : ((tS 29).cells (xs.drop (i + 1))).length = (n - (i + 1)) * (tS 29).sz := by rw [(tS 29).cells_len, List.length_drop, hl]
  have s1 : St h0 h (cA b ((tS 29).cells (xs.take i) ++ ((tS 29).cells (xs.drop i)).take ((n - (i + 1)) * (tS 29).sz) ++ (((tS 29).cells (xs.drop i)).drop ((n - (i + 1)) * (tS 29).sz) ++ rest)) (tS 29).e + F) := by
    have e : (tS 29).cells (xs.take i) ++ ((tS 29).cells (xs.drop i)).take ((n - (i + 1)) * (tS 29).sz) ++ (((tS 29).cells (xs.drop i)).drop ((n - (i + 1)) * (tS 29).sz) ++ rest) = (tS 29).cells xs ++ rest := by
      rw [List.append_assoc, ← List.append_assoc _ _ rest, List.take_append_drop, ← List.append_assoc, ← (tS 29).cells_append, List.take_append_drop]
    rw [e]; exact s
  have hle : (n - (i + 1)) * (tS 29).sz ≤ (n - i) * (tS 29).sz := Nat.mul_le_mul_right _ (by omega)
  refine yakw yaei s1 hti (by rw [List.length_take, hdl]; omega) (rd.sub (by omega) hcap rfl) (by omega) fun h' s2 => ?_
  refine ⟨⟨by omega, by omega, by omega⟩, ?_⟩
  have e4 : Int.toNat ((i + (n - (i + 1)) : Nat) : Int) = n - 1 := by omega
  have e5 : i + (n - (i + 1)) = n - 1 := by omega
  rw [e4, show yaao (some ⟨b, 0, none⟩) c (n - 1) 1 = some ⟨b, (n - 1) * (tS 29).sz, none⟩ by rw [show yaao (some ⟨b, 0, none⟩) c (n - 1) 1 = yaao (some ⟨b, 0, none⟩) c (n - 1) (tS 29).sz from rfl, yabw (by omega), Nat.zero_add]]
  rw [← (tS 29).cells_append, ← List.append_assoc] at s2
  have hl1 : (xs.take i ++ xs.drop (i + 1)).length = n - 1 := by rw [List.length_append, List.length_take, List.length_drop]; omega
  have hn1 : n - (n - 1) = 1 := by omega
  refine yama yaei s2 (by rw [(tS 29).cells_len, hl1]) (by
    rw [List.length_drop, hdl, ← Nat.sub_mul]; congr 1; omega) fun h2 zs hzl s3 => ?_
  rw [e5]
  refine ⟨_, rfl, ⟨hl1, .inr ⟨b, zs ++ rest, rfl, by omega, ?_, rfl⟩⟩, ?_⟩
  · rw [List.length_append, hzl, hr, ← Nat.add_mul]; congr 1; omega
  · rw [← List.append_assoc]; exact s3
def cmpS (x y : Int) : Int := if x < y then -1 else if y < x then 1 else 0
def cmpL : List Int → List Int → Int
  | [], [] => 0
  | [], _ :: _ => -1
  | _ :: _, [] => 1
  | x :: xs, y :: ys => if x < y then -1 else if y < x then 1 else cmpL xs ys
theorem ybbz (x y : Int) (h : Hp) : yaah Tryz.prog 142 #[.int .i64 x, .int .i64 y] h (fun v h' => v = .int .i64 (cmpS x y) ∧ h' = h) := by
  refine zab_call ?_
  rw [zab_b0]
  have nan : ∀ (z : Int) {K : VK}, K (.bool false) h → yaah Tryz.prog 152 #[.int .i64 z] h K := fun z K hK => by
    refine zad_call ?_
    rw [zad_b0, decide_eq_true rfl]
    exact hK
  refine nan x ⟨_, rfl, nan y ⟨_, rfl, yaau rfl (yaau rfl ?_)⟩⟩
  refine condP (fun h1 => ?_) (fun h1 => condP (fun h2 => ?_) (fun h2 => ?_))
  · exact ⟨by rw [cmpS, if_pos h1], rfl⟩
  · exact ⟨by rw [cmpS, if_neg h1, if_pos h2], rfl⟩
  · exact ⟨by rw [cmpS, if_neg h1, if_neg h2], rfl⟩
theorem yaut {h : Hp} {p q : OA} {n m c d : Nat} {xs ys : List Int} (r1 : RdT TI h p n xs) (r2 : RdT TI h q m ys) (hn : n ≤ 1000000) :
    yaah Tryz.prog 124 #[.slice p n c, .slice q m d] h (fun v h' => v = .int .i64 (cmpL xs ys) ∧ h' = h) := by
  have hx := r1.len
  have hy := r2.len
  refine zcm_call ?_
  rw [zcm_b0]
  refine ⟨fun s h' => h' = h ∧ ∃ i : Nat, s.1 = i ∧ i ≤ n ∧ i ≤ m ∧ cmpL xs ys = cmpL (xs.drop i) (ys.drop i), fun s _ => n - s.1.toNat, ⟨rfl, 0, rfl, by omega, by omega, rfl⟩, ?_⟩
  rintro ⟨_, _⟩ h1 ⟨rfl, i, rfl, hin, him, heq⟩
  dsimp only
  rw [zcm_b1]
  refine condP (fun hlt => ?_) (fun hge => ?_)
  · refine r1.int (by omega) (by omega) ?_
    rw [Int.toNat_natCast]
    have hil : i < xs.length := by omega
    have hg : xs.getD i 0 = xs[i] := by simp [List.getD, hil]
    have hd : xs.drop i = xs.getD i 0 :: xs.drop (i + 1) := by rw [hg, ← List.drop_eq_getElem_cons hil]
    refine condP (fun hm => ?_) (fun hm => ?_)
    · refine ⟨?_, rfl⟩
      rw [heq, hd, List.drop_of_length_le (show ys.length ≤ i by omega)]
      rfl
    · refine r2.int (by omega) (by omega) ?_
      rw [Int.toNat_natCast]
      have hjl : i < ys.length := by omega
      have hg2 : ys.getD i 0 = ys[i] := by simp [List.getD, hjl]
      have hd2 : ys.drop i = ys.getD i 0 :: ys.drop (i + 1) := by rw [hg2, ← List.drop_eq_getElem_cons hjl]
      refine (ybbz _ _ h1).mono fun v h2 ⟨hv, hh⟩ => ⟨_, hv, ?_⟩
      subst hh
      rw [hd, hd2] at heq
      have hc : cmpL (xs.getD i 0 :: xs.drop (i + 1)) (ys.getD i 0 :: ys.drop (i + 1)) = if xs.getD i 0 < ys.getD i 0 then -1 else if ys.getD i 0 < xs.getD i 0 then 1 else cmpL (xs.drop (i + 1)) (ys.drop (i + 1)) := rfl
      rw [hc] at heq
      refine condN (fun hne => ?_) (fun h0 => ?_)
      · refine ⟨?_, rfl⟩
        rw [heq]
        unfold cmpS at hne ⊢
        split
        · rfl
        · split
          · rfl
          · rename_i a b; rw [if_neg a, if_neg b] at hne; exact absurd rfl hne
      · rw [zcm_b2]
        refine ⟨⟨by omega, by omega⟩, ⟨rfl, i + 1, by simp only; omega, by omega, by omega, ?_⟩, by simp only; omega⟩
        rw [heq]
        unfold cmpS at h0
        split
        · rename_i a; rw [if_pos a] at h0; omega
        · split
          · rename_i a b; rw [if_neg a, if_pos b] at h0; omega
          · rfl
  · rw [zcm_b3]
    have hxd : xs.drop i = [] := List.drop_of_length_le (by omega)
    rw [hxd] at heq
    refine condP (fun hlt => ⟨?_, rfl⟩) (fun hlt => ⟨?_, rfl⟩)
    · have hjl : i < ys.length := by omega
      rw [heq, List.drop_eq_getElem_cons hjl]; rfl
    · have : ys.drop i = [] := List.drop_of_length_le (by omega)
      rw [heq, this]; rfl
def cmpK (rows : List (List Int)) (ks : List Int) (j : Nat) : Int := cmpL ((rows.getD j []).take ks.length) ks
theorem yapj {h0 h : Hp} {p q : OA} {n c m d t : Nat} {rows : List (List Int)} {ks : List Int} {B G : Bag} (na : RowsA (p, n, c) rows B) (s : St h0 h (B + G)) (rk : RdT TI h q m ks) (hn : n ≤ 1000000) (hm : ∀ r ∈ rows, m ≤ r.length ∧ r.length ≤ 1000000)
    (ht : t ≤ n ∧ (∀ j, j < t → cmpK rows ks j < 0) ∧ ∀ j, t ≤ j → j < n → 0 ≤ cmpK rows ks j) :
    yaah Tryz.prog 128 #[.slice p n c, .slice q m d] h (fun v h' => v = .tuple #[.int .i64 (t : Int), .bool (decide (t < n ∧ cmpK rows ks t = 0))] ∧ h' = h) := by
  have hrl : rows.length = n := yabh na
  have hkl := rk.len
  obtain ⟨htn, hlo, hhi⟩ := ht
  -- a row is compared
  have one : ∀ {i : Int} {Q : OA → Nat → Nat → Prop}, 0 ≤ i → i < n → (∀ a l e, (∀ K : VK, K (.int .i64 (cmpK rows ks i.toNat)) h → callX Tryz.prog F 145 #[.slice a l e, .slice q m d] h K) → Q a l e) →
      (0 ≤ i ∧ i < (n : Int)) ∧ NN p fun a1 => ∃ a2 L1 C1, cell h (a1.add (Int.toNat i * 1)) = some (.slice a2 L1 C1) ∧ Q a2 L1 C1 := by
    intro i Q hi0 hi hq
    refine Nest.at_ (d := []) na s hi0 hi fun a l e Bi Br o hB => hq a l e fun K hK => ?_
    have o : Sl TI a l e (rows.getD i.toNat []) Bi := o
    have hl1 := o.len
    have hcap := o.cap
    have st2 : St h0 h (Bi + (Br + G)) := by rw [hB] at s; exact s.to
    have hil : i.toNat < rows.length := by omega
    have hg : rows.getD i.toNat [] = rows[i.toNat] := by simp [List.getD, hil]
    have hmi := hm _ (List.getElem_mem hil)
    rw [← hg] at hmi
    refine yadl (by kernel_rfl) (zbt_call ?_)
    rw [zbt_b0]
    have e0 : Int.toNat (0 : Int) = 0 := rfl
    refine ⟨⟨by omega, by omega, by omega⟩, ?_⟩
    rw [e0, yacu, Int.toNat_natCast, Nat.sub_zero, Nat.sub_zero]
    refine (yaut ((o.rd st2).take (i := m) (by omega)) rk (by omega)).mono fun v h2 ⟨hv, hh⟩ => ⟨_, hv, ?_⟩
    subst hh
    have : cmpK rows ks i.toNat = cmpL ((rows.getD i.toNat []).take m) ks := by rw [cmpK, hkl]
    rw [← this]
    exact hK
  refine zbs_call ?_
  rw [zbs_b0]
  refine yaah.mono (K := fun v h' => v = .tuple #[.int .i64 (t : Int), .bool (decide (t < n ∧ cmpK rows ks t = 0))] ∧ h' = h) ?_ (fun v h' ⟨hv, hh⟩ => ⟨_, _, hv, rfl, hh⟩)
  refine zci_call ?_
  rw [zci_b0]
  refine ⟨fun x h' => h' = h ∧ ∃ i j : Nat, x.1 = i ∧ x.2.1 = j ∧ i ≤ t ∧ t ≤ j ∧ j ≤ n, fun x _ => (x.2.1 - x.1).toNat, ⟨rfl, 0, n, rfl, rfl, by omega, htn, by omega⟩, ?_⟩
  rintro ⟨_, _, _⟩ h1 ⟨rfl, i, j, rfl, rfl, hit, htj, hjn⟩
  dsimp only
  rw [zci_b1]
  refine condP (fun hlt => ?_) (fun hge => ?_)
  · have e1 : IntKind.u64.wrap ((i : Int) + (j : Int)) = ((i + j : Nat) : Int) := by
      show ((i : Int) + (j : Int)) % 18446744073709551616 = _
      rw [Int.emod_eq_of_lt (by omega) (by omega)]; push_cast; rfl
    refine ⟨⟨by omega, by omega⟩, (((i + j) / 2 : Nat) : Int), ⟨by omega, ?_⟩, ⟨by omega, by omega⟩, ?_⟩
    · rw [e1]
      have : (2 : Int) ^ (min (Int.toNat 1) IntKind.u64.bits) = 2 := by decide
      rw [this]
      rw [Int.fdiv_eq_ediv_of_nonneg _ (by omega)]
      omega
    refine one (by omega) (by omega) fun a l e hX => ?_
    refine hX _ ⟨_, rfl, condP (fun h3 => ?_) (fun h3 => ?_)⟩
    · rw [Int.toNat_natCast] at h3
      have : (i + j) / 2 < t := by
        rcases Nat.lt_or_ge ((i + j) / 2) t with h | h
        · exact h
        · have := hhi _ h (by omega); omega
      exact ⟨⟨by omega, by omega⟩, ⟨rfl, (i + j) / 2 + 1, j, by simp only; omega, rfl, by omega, htj, hjn⟩, by simp only; omega⟩
    · rw [Int.toNat_natCast] at h3
      have : t ≤ (i + j) / 2 := by
        rcases Nat.lt_or_ge ((i + j) / 2) t with h | h
        · have := hlo _ h; omega
        · exact h
      exact ⟨⟨rfl, i, (i + j) / 2, rfl, rfl, hit, this, by omega⟩, by simp only; omega⟩
  · obtain rfl : i = t := by omega
    rw [zci_b2]
    refine condP (fun hin => ?_) (fun hin => ?_)
    · refine one (by omega) (by omega) fun a l e hX => ?_
      refine hX _ ⟨_, rfl, ?_, rfl⟩
      rw [Int.toNat_natCast]
      rw [show decide (cmpK rows ks i = 0) = decide (i < n ∧ cmpK rows ks i = 0) from decide_eq_decide.2 ⟨fun h => ⟨by omega, h⟩, fun h => h.2⟩]
    · refine ⟨?_, rfl⟩
      rw [decide_eq_false (fun h => hin (by omega))]
theorem yaal (z : Int) (h : Hp) : yaah Tryz.prog 126 #[.int .i64 z] h (fun v h' => v = .agg #[.int .i64 0, .int .i64 z, .slice none 0 0] ∧ Ext h h') := by
  refine zbx_call ?_
  rw [zbx_b0]
  refine (St.start h).new (cs := [.int .i64 0, .int .i64 0, .slice none 0 0]) fun b1 h1 _ s1 => ?_
  refine s1.wr rfl (by simp) fun h2 s2 => ?_
  refine s2.wr (o := 1) (yabj _ _ _) (by simp) fun h3 s3 => ?_
  refine s3.wr (o := 2) (yabj _ _ _) (by simp) fun h4 s4 => ?_
  exact ⟨_, _, _, _, _, s4.blk.cell 0, Blk.cellA s4.blk 1, Blk.cellA s4.blk 2, rfl, s4.ext⟩
theorem yaar (z : Int) (h : Hp) : yaah Tryz.prog 127 #[.int .i64 z] h (fun v h' => v = .agg #[.int .i64 z, .int .i64 0, .slice none 0 0] ∧ Ext h h') := by
  refine zbr_call ?_
  rw [zbr_b0]
  refine (St.start h).new (cs := [.int .i64 0, .int .i64 0, .slice none 0 0]) fun b1 h1 _ s1 => ?_
  refine s1.wr rfl (by simp) fun h2 s2 => ?_
  refine s2.wr (o := 1) (yabj _ _ _) (by simp) fun h3 s3 => ?_
  refine s3.wr (o := 2) (yabj _ _ _) (by simp) fun h4 s4 => ?_
  exact ⟨_, _, _, _, _, s4.blk.cell 0, Blk.cellA s4.blk 1, Blk.cellA s4.blk 2, rfl, s4.ext⟩
abbrev row2 (e : E) : List Int := [e.1, e.2]
theorem AllH.edit : ∀ {hs : List SH} {xs : List (List Int)} {A : Bag} {i : Nat}, AllH RowP hs xs A → i < hs.length → ∃ Ai Br, A = Ai + Br ∧ RowP (hs.getD i (none, 0, 0)) (xs.getD i []) Ai ∧ ∀ y A', RowP (hs.getD i (none, 0, 0)) y A' → AllH RowP hs (xs.set i y) (A' + Br)
  | [], _, _, _, _, h => by simp at h
  | _ :: _, [], _, _, h, _ => h.elim
  | b :: bs, t :: ts, _, 0, ⟨A1, A2, e, h1, h2⟩, _ => ⟨A1, A2, e, h1, fun y A' hy => ⟨A', A2, rfl, hy, h2⟩⟩
  | b :: bs, t :: ts, _, i + 1, ⟨A1, A2, e, h1, h2⟩, hi => by
    obtain ⟨Ai, Br, e2, h3, h4⟩ := AllH.edit h2 (i := i) (by simpa using hi)
    refine ⟨Ai, A1 + Br, by rw [e, e2]; ac_rfl, by simpa using h3, fun y A' hy => ?_⟩
    exact ⟨A1, A' + Br, by ac_rfl, h1, h4 y A' (by simpa using hy)⟩
theorem yaev {h0 h : Hp} {p : OA} {n c : Nat} {rows : List (List Int)} {B G : Bag} {i : Int} {Q : OA → Nat → Nat → Prop} (na : RowsA (p, n, c) rows B) (st : St h0 h (B + G)) (hi0 : 0 ≤ i) (hi : i < n)
    (hq : ∀ q l d Bi Br, Sl TI q l d (rows.getD i.toNat []) Bi → B = Bi + Br → (∀ y Bi', Sl TI q l d y Bi' → RowsA (p, n, c) (rows.set i.toNat y) (Bi' + Br)) → Q q l d) :
    (0 ≤ i ∧ i < (n : Int)) ∧ NN p fun a => ∃ q l d, cell h (a.add (i.toNat * 1)) = some (.slice q l d) ∧ Q q l d := by
  obtain ⟨hs, B0, B1, rfl, h1, h2⟩ := na
  have r := h1.rd (st.to (B := B0 + (B1 + G)))
  refine r.idx hi0 hi fun a _ hc => ?_
  have hl : hs.length = n := h1.len
  obtain ⟨Bi, Br, hB, hp, hset⟩ := AllH.edit h2 (i := i.toNat) (by omega)
  refine ⟨_, _, _, hc 0 Nat.one_pos, hq _ _ _ Bi (B0 + Br) hp (by rw [hB]; ac_rfl) fun y Bi' hy => ?_⟩
  exact ⟨hs, B0, Bi' + Br, by ac_rfl, h1, hset y Bi' hy⟩
theorem yaia {l : List E} {i : Nat} (h : i < l.length) : (l.map row2).getD i [] = row2 (l.getD i (0, 0)) := by
  simp [List.getD, h]
theorem e_key {h0 h : Hp} {p : OA} {n c : Nat} {l : List E} {B G : Bag} {i : Int} {Q : Int → Prop} (na : RowsA (p, n, c) (l.map row2) B) (st : St h0 h (B + G)) (hi0 : 0 ≤ i) (hi : i < n) (hq : Q (l.getD i.toNat (0, 0)).1) :
    (0 ≤ i ∧ i < (n : Int)) ∧ NN p fun a => ∃ a8 L5 C5, cell h (a.add (i.toNat * 1)) = some (.slice a8 L5 C5) ∧ (0 ≤ (0 : Int) ∧ (0 : Int) < (L5 : Int)) ∧ NN a8 fun a9 => ∃ n4, cell h (a9.add (Int.toNat (0 : Int) * 1)) = some (.int .i64 n4) ∧ Q n4 := by
  have hl : (l.map row2).length = n := yabh na
  rw [List.length_map] at hl
  have hg := yaia (l := l) (i := i.toNat) (by omega)
  exact yajg na st hi0 hi (by omega) (by rw [hg]; simp) (by rw [hg]; exact hq)
theorem e_val {h0 h : Hp} {p : OA} {n c : Nat} {l : List E} {B G : Bag} {i : Int} {Q : Int → Prop} (na : RowsA (p, n, c) (l.map row2) B) (st : St h0 h (B + G)) (hi0 : 0 ≤ i) (hi : i < n) (hq : Q (l.getD i.toNat (0, 0)).2) :
    (0 ≤ i ∧ i < (n : Int)) ∧ NN p fun a => ∃ a8 L5 C5, cell h (a.add (i.toNat * 1)) = some (.slice a8 L5 C5) ∧ (0 ≤ (1 : Int) ∧ (1 : Int) < (L5 : Int)) ∧ NN a8 fun a9 => ∃ n4, cell h (a9.add (Int.toNat (1 : Int) * 1)) = some (.int .i64 n4) ∧ Q n4 := by
  have hl : (l.map row2).length = n := yabh na
  rw [List.length_map] at hl
  have hg := yaia (l := l) (i := i.toNat) (by omega)
  exact yajg na st hi0 hi (by omega) (by rw [hg]; simp) (by rw [hg]; exact hq)
def dictS (l : List E) (c : Int) (zs : List Int) : List E × Int × Int :=
  if c = 8 then (l, 0, l.length)
  else if c = 1 then (if yadk (upS l (zs.getD 0 0)) (zs.getD 0 0) = true then (lowS l (zs.getD 0 0) ++ (zs.getD 0 0, zs.getD 1 0) :: (upS l (zs.getD 0 0)).tail, 0, 1) else if l.length = 500 then (l, 4, 0) else (lowS l (zs.getD 0 0) ++ (zs.getD 0 0, zs.getD 1 0) :: upS l (zs.getD 0 0), 0, 0))
  else if c = 2 then (if yadk (upS l (zs.getD 0 0)) (zs.getD 0 0) = true then (l, 0, valOf (upS l (zs.getD 0 0))) else (l, 12, 0))
  else if c = 3 then (if yadk (upS l (zs.getD 0 0)) (zs.getD 0 0) = true then (lowS l (zs.getD 0 0) ++ (upS l (zs.getD 0 0)).tail, 0, valOf (upS l (zs.getD 0 0))) else (l, 12, 0))
  else if c = 4 then (if yadk (upS l (zs.getD 0 0)) (zs.getD 0 0) = true then (l, 0, zs.getD 0 0) else if (lowS l (zs.getD 0 0)).length = 0 then (l, 12, 0) else (l, 0, (yaog (lowS l (zs.getD 0 0))).1))
  else if c = 5 then (if (lowS l (zs.getD 0 0)).length = l.length then (l, 12, 0) else (l, 0, (yazs (upS l (zs.getD 0 0))).1))
  else if c = 6 then (l, 0, (lowS l (zs.getD 0 0)).length)
  else (if zs.getD 0 0 < 0 ∨ (l.length : Int) ≤ zs.getD 0 0 then (l, 2, 0) else (l, 0, (l.getD (zs.getD 0 0).toNat (0, 0)).1))
theorem yafw {h0 h : Hp} {p : OA} {n c i b : Nat} {rows : List (List Int)} {x : List Int} {q : OA} {m d : Nat} {B Bx G : Bag} (na : RowsA (p, n, c) rows B) (o : Sl TI q m d x Bx) (s : St h0 h (cA b [.slice q m d] 29 + (B + (Bx + G)))) (hi : i ≤ n) (hn : n < 1000000) :
    yaah Tryz.prog 129 #[.slice p n c, .int .i64 (i : Int), .slice (some ⟨b, 0, none⟩) 1 1] h (fun v h' => ∃ q' d' B', v = .slice q' (n + 1) d' ∧ RowsA (q', n + 1, d') (rows.take i ++ x :: rows.drop i) B' ∧ St h0 h' (B' + G)) := by
  obtain ⟨hs, B0, B1, rfl, h1, h2⟩ := na
  obtain ⟨C1, C2, rfl, c1, c2⟩ := AllH.cut h2 i
  have s1 : St h0 h (B0 + (cA b [.slice q m d] (tS 29).e + (C1 + C2 + (Bx + G)))) := s.to (B := B0 + (cA b [.slice q m d] 29 + (C1 + C2 + (Bx + G))))
  refine (yaqq (x := (q, m, d)) s1 h1 rfl hi hn).mono fun v h' ⟨q', d', B', hv, o', s'⟩ => ⟨q', d', B' + (C1 + (Bx + C2)), hv, ⟨_, B', C1 + (Bx + C2), rfl, o', c1.append ⟨Bx, C2, rfl, o, c2⟩⟩, ?_⟩
  have s' : St h0 h' (B' + (cA b [.slice q m d] 29 + (C1 + C2 + (Bx + G)))) := s'
  exact (s'.to (B := cA b [.slice q m d] 29 + (B' + (C1 + (Bx + C2)) + G))).drop
theorem yaer {h0 h : Hp} {p : OA} {n c i : Nat} {j : Int} {rows : List (List Int)} {B G : Bag} (na : RowsA (p, n, c) rows B) (s : St h0 h (B + G)) (hi : i < n) (hj : j = (i : Int) + 1) (hn : n < 1000000) :
    yaah Tryz.prog 130 #[.slice p n c, .int .i64 (i : Int), .int .i64 j] h (fun v h' => ∃ B', v = .slice p (n - 1) c ∧ RowsA (p, n - 1, c) (rows.take i ++ rows.drop (i + 1)) B' ∧ St h0 h' (B' + G)) := by
  obtain ⟨hs, B0, B1, rfl, h1, h2⟩ := na
  obtain ⟨C1, C2, rfl, c1, c2⟩ := AllH.cut h2 i
  obtain ⟨C3, C4, rfl, _, c4⟩ := AllH.cut c2 1
  rw [List.drop_drop, List.drop_drop] at c4
  refine (yape (s.to (B := B0 + (C1 + (C3 + C4) + G))) h1 hi hj hn).mono fun v h' ⟨B', hv, o, s'⟩ => ⟨B' + (C1 + C4), hv, ⟨_, B', C1 + C4, rfl, o, c1.append c4⟩, (s'.to (B := C3 + (B' + (C1 + C4) + G))).drop⟩
def yafm (h0 : Hp) (G : Bag) (rows : List (List Int)) (e z : Int) (v : Value) (h' : Hp) : Prop :=
  ∃ q m d B', v = .tuple #[.slice q m d, .agg #[.int .i64 e, .int .i64 z, .slice none 0 0]] ∧ RowsA (q, m, d) rows B' ∧ St h0 h' (B' + G)
theorem mboxW {h0 h : Hp} {b2 : Nat} {y0 y1 y2 : Value} {D B G : Bag} {p : OA} {n c : Nat} {e z : Int} {rows : List (List Int)} (na : RowsA (p, n, c) rows B)
    (s : St h0 h (cA b2 [y0, y1, y2] 58 + (D + (B + G)))) :
    Wr h ⟨b2, 0, none⟩ (.int .i64 e) fun h4 => Wr h4 ((⟨b2, 0, none⟩ : Addr).add 1) (.int .i64 z) fun h5 => Wr h5 ((⟨b2, 0, none⟩ : Addr).add 2) (.slice none 0 0) fun h6 =>
      ∃ r4 : Int, ∃ r5 : Int, ∃ r6 rL2 rC2, cell h6 ⟨b2, 0, none⟩ = some (.int .i64 r4) ∧ cell h6 ((⟨b2, 0, none⟩ : Addr).add 1) = some (.int .i64 r5) ∧ cell h6 ((⟨b2, 0, none⟩ : Addr).add 2) = some (.slice r6 rL2 rC2) ∧
      yafm h0 G rows e z (.tuple #[.slice p n c, .agg #[.int .i64 r4, .int .i64 r5, .slice r6 rL2 rC2]]) h6 := by
  refine s.wr rfl (by simp) fun h8 s8 => ?_
  refine s8.wr (o := 1) (yabj _ _ _) (by simp) fun h9 s9 => ?_
  refine s9.wr (o := 2) (yabj _ _ _) (by simp) fun h10 s10 => ?_
  refine ⟨_, _, _, _, _, s10.blk.cell 0, Blk.cellA s10.blk 1, Blk.cellA s10.blk 2, p, n, c, B, rfl, na, ?_⟩
  exact (s10.drop).drop
theorem mboxT {g : Nat} {args : Array Value} {h0 h : Hp} {b2 : Nat} {y0 y1 y2 : Value} {D B G : Bag} {p : OA} {n c : Nat} {e z : Int} {rows : List (List Int)} (na : RowsA (p, n, c) rows B)
    (s : St h0 h (cA b2 [y0, y1, y2] 58 + (D + (B + G))))
    (hc : yaah Tryz.prog g args h (fun v h' => v = .agg #[.int .i64 e, .int .i64 z, .slice none 0 0] ∧ Ext h h')) :
    yaah Tryz.prog g args h fun v1 h3 => ∃ r1 : Int, ∃ r2 : Int, ∃ (r3 : OA) (rL1 rC1 : Nat), v1 = .agg #[.int .i64 r1, .int .i64 r2, .slice r3 rL1 rC1] ∧
      Wr h3 ⟨b2, 0, none⟩ (.int .i64 r1) fun h4 => Wr h4 ((⟨b2, 0, none⟩ : Addr).add 1) (.int .i64 r2) fun h5 => Wr h5 ((⟨b2, 0, none⟩ : Addr).add 2) (.slice r3 rL1 rC1) fun h6 =>
      ∃ r4 : Int, ∃ r5 : Int, ∃ r6 rL2 rC2, cell h6 ⟨b2, 0, none⟩ = some (.int .i64 r4) ∧ cell h6 ((⟨b2, 0, none⟩ : Addr).add 1) = some (.int .i64 r5) ∧ cell h6 ((⟨b2, 0, none⟩ : Addr).add 2) = some (.slice r6 rL2 rC2) ∧
      yafm h0 G rows e z (.tuple #[.slice p n c, .agg #[.int .i64 r4, .int .i64 r5, .slice r6 rL2 rC2]]) h6 :=
  hc.mono fun _ _ ⟨hv, x⟩ => ⟨_, _, _, _, _, hv, mboxW na (s.grow x)⟩
theorem cmpK2 {l : List E} {k : Int} {j : Nat} (hj : j < l.length) : cmpK (l.map row2) [k] j = cmpS (l.getD j (0, 0)).1 k := by
  rw [cmpK, yaia hj]
  show cmpL [(l.getD j (0, 0)).1] [k] = _
  show (if (l.getD j (0, 0)).1 < k then (-1 : Int) else if k < (l.getD j (0, 0)).1 then 1 else cmpL [] []) = _
  rfl
theorem yaxz {l : List E} {k : Int} (so : Srt l) : (lowS l k).length ≤ l.length ∧ (∀ j, j < (lowS l k).length → cmpK (l.map row2) [k] j < 0) ∧ (∀ j, (lowS l k).length ≤ j → j < l.length → 0 ≤ cmpK (l.map row2) [k] j) ∧
    decide ((lowS l k).length < l.length ∧ cmpK (l.map row2) [k] (lowS l k).length = 0) = yadk (upS l k) k := by
  have hll := yavo (xs := l) (key := k)
  have hu := yagr (xs := l) (key := k)
  refine ⟨hll, fun j hj => ?_, fun j hj hjl => ?_, ?_⟩
  · rw [cmpK2 (by omega)]
    have hm : l.getD j (0, 0) ∈ lowS l k := by
      have : l.getD j (0, 0) = (lowS l k)[j] := by
        conv => lhs; rw [hu]
        simp [List.getD, List.getElem?_append_left hj, hj]
      rw [this]; exact List.getElem_mem hj
    have := yawy _ hm
    rw [cmpS, if_pos this]; decide
  · rw [cmpK2 hjl]
    have hm : l.getD j (0, 0) ∈ upS l k := by
      have hd := yakj (xs := l) (key := k)
      have : l.getD j (0, 0) = l[j] := by simp [List.getD, hjl]
      rw [this, ← hd]
      exact List.mem_drop_iff_getElem.2 ⟨j - (lowS l k).length, by omega, by simp only [show (lowS l k).length + (j - (lowS l k).length) = j by omega]⟩
    have := up_ge so _ hm
    unfold cmpS
    split
    · omega
    · split <;> omega
  · by_cases hf : yadk (upS l k) k = true
    · obtain ⟨u1, u2, _⟩ := yapm hf
      rw [hf]
      refine decide_eq_true ⟨u1, ?_⟩
      rw [cmpK2 u1, u2, cmpS, if_neg (by omega), if_neg (by omega)]
    · have hf' : yadk (upS l k) k = false := by simpa using hf
      rw [hf']
      refine decide_eq_false fun ⟨h1, h2⟩ => hf ?_
      have hd := yakj (xs := l) (key := k)
      rw [List.drop_eq_getElem_cons h1] at hd
      rw [cmpK2 h1] at h2
      have hg : l.getD (lowS l k).length (0, 0) = l[(lowS l k).length] := by simp [List.getD, h1]
      rw [hg] at h2
      rw [← hd]
      refine decide_eq_true ?_
      unfold cmpS at h2
      split at h2
      · cases h2
      · split at h2
        · cases h2
        · omega
section
variable {h0 h : Hp} {b1 b2 : Nat} {l : List E} {p q : OA} {n c m cc : Nat} {code : Int} {zs : List Int} {B G : Bag}
abbrev yaix (h0 : Hp) (G : Bag) (l : List E) (c : Int) (zs : List Int) : VK := yafm h0 G ((dictS l c zs).1.map row2) (dictS l c zs).2.1 (dictS l c zs).2.2
theorem yaos (na : RowsA (p, n, c) (l.map row2) B) (s : St h0 h (cA b2 [.int .i64 0, .int .i64 0, .slice none 0 0] 58 + (cA b1 [.int .i64 code, .slice q m cc] 50 + (B + G)))) (hn : n ≤ 1000) (hc : code = 2 ∨ code = 3) :
    zbq_b2 p n c (some ⟨b1, 0, none⟩) (some ⟨b2, 0, none⟩) ((lowS l (zs.getD 0 0)).length : Int) (yadk (upS l (zs.getD 0 0)) (zs.getD 0 0)) h (yaix h0 G l code zs) := by
  have hl : (l.map row2).length = n := yabh na
  rw [List.length_map] at hl
  have kb1 := s.atomBlk
  have e : dictS l code zs = (if yadk (upS l (zs.getD 0 0)) (zs.getD 0 0) = true then (if code = 3 then lowS l (zs.getD 0 0) ++ (upS l (zs.getD 0 0)).tail else l, 0, valOf (upS l (zs.getD 0 0))) else (l, 12, 0)) := by
    rcases hc with rfl | rfl <;> rfl
  rw [yaix, e, zbq_b2]
  generalize zs.getD 0 0 = k
  by_cases hf : yadk (upS l k) k = true
  · obtain ⟨u1, u2, u3⟩ := yapm hf
    rw [if_pos hf, hf]
    refine yaau rfl (e_val na (s.at B) (by omega) (by omega) ?_)
    rw [Int.toNat_natCast, u2]
    refine ⟨_, kb1.cell 0, condP (fun h3 => ?_) (fun h3 => ?_)⟩
    · rw [if_pos h3]
      refine ⟨⟨by omega, by omega⟩, ?_⟩
      refine (yaer na (s.to (B := B + (cA b2 [.int .i64 0, .int .i64 0, .slice none 0 0] 58 + (cA b1 [.int .i64 code, .slice q m cc] 50 + G)))) (by omega) rfl (by omega)).mono fun v h' ⟨B', hv, na', s'⟩ => ⟨_, _, _, hv, ?_⟩
      have hrow : (l.map row2).take (lowS l k).length ++ (l.map row2).drop ((lowS l k).length + 1) = (lowS l k ++ (upS l k).tail).map row2 := by
        rw [← List.map_take, ← List.map_drop, u3, yalx, ← List.map_append]
      rw [hrow] at na'
      rw [zbq_b3]
      exact mboxT na' (s'.to (B := cA b2 [.int .i64 0, .int .i64 0, .slice none 0 0] 58 + (cA b1 [.int .i64 code, .slice q m cc] 50 + (B' + G)))) (yaal _ _)
    · rw [if_neg h3, zbq_b3]
      exact mboxT na s (yaal _ _)
  · have hf' : yadk (upS l k) k = false := by simpa using hf
    rw [if_neg hf, hf']
    exact yaax rfl (mboxT na s (yaar _ _))
theorem yayf (so : Srt l) (na : RowsA (p, n, c) (l.map row2) B) (rz : RdS h0 G TI q m zs) (hmc : m ≤ cc) (s : St h0 h (B + G)) (hn : n ≤ 1000) (hc : 1 ≤ code ∧ code ≤ 8) (h1 : code ≠ 8 → 1 ≤ zs.length) (h2 : code = 1 → zs.length = 2) :
    yaah Tryz.prog 92 #[.slice p n c, .agg #[.int .i64 code, .slice q m cc]] h (yaix h0 G l code zs) := by
  have hl : (l.map row2).length = n := yabh na
  rw [List.length_map] at hl
  refine zbq_call ?_
  rw [zbq_b0]
  refine s.new (cs := [.int .i64 code, .slice q m cc]) fun b1 h3 _ s1 => ?_
  refine s1.new (cs := [.int .i64 0, .int .i64 0, .slice none 0 0]) fun b2 h4 _ s2 => ?_
  have s2 : St h0 h4 (cA b2 [.int .i64 0, .int .i64 0, .slice none 0 0] 58 + (cA b1 [.int .i64 code, .slice q m cc] 50 + (B + G))) := s2
  have kb1 := s2.atomBlk
  refine ⟨_, kb1.cell 0, condP (fun h8 => ?_) (fun h8 => ?_)⟩
  · have e : dictS l code zs = (l, 0, (l.length : Int)) := by subst h8; rfl
    rw [yaix, e, hl]
    exact mboxT na s2 (yaal _ _)
  have hrz : RdT TI h4 q m zs := rz h4 (cA b2 [.int .i64 0, .int .i64 0, .slice none 0 0] 58 + (cA b1 [.int .i64 code, .slice q m cc] 50 + B)) s2.to
  have hzl := hrz.len
  have h1 := h1 h8
  have e0 : Int.toNat (0 : Int) = 0 := rfl
  have e1 : Int.toNat (1 : Int) = 1 := rfl
  refine ⟨_, kb1.cell 0, condP (fun h7 => ?_) (fun h7 => ?_)⟩
  · have e : dictS l code zs = (if zs.getD 0 0 < 0 ∨ (l.length : Int) ≤ zs.getD 0 0 then (l, 2, 0) else (l, 0, (l.getD (zs.getD 0 0).toNat (0, 0)).1)) := by
      subst h7; rfl
    refine ⟨_, _, _, Blk.cellA kb1 1, hrz.int (by omega) (by omega) ?_⟩
    rw [yaix, e, e0]
    generalize zs.getD 0 0 = k
    refine condP (fun h5 => condP (fun h6 => ?_) (fun h6 => ?_)) (fun h5 => ?_)
    · rw [if_neg (by omega)]
      refine e_key na (s2.at B) (by omega) (by omega) ?_
      exact mboxT na s2 (yaal _ _)
    · rw [if_pos (.inr (by omega)), zbq_b1]
      exact mboxT na s2 (yaar _ _)
    · rw [if_pos (.inl (by omega)), zbq_b1]
      exact mboxT na s2 (yaar _ _)
  refine ⟨_, _, _, Blk.cellA kb1 1, ⟨by omega, by omega, by omega⟩, ?_⟩
  rw [e0, e1, yacu, Nat.sub_zero]
  have hz1 : zs.take 1 = [zs.getD 0 0] := by
    cases zs with
    | nil => simp at h1
    | cons z zs => simp
  have rk : RdT TI h4 q 1 [zs.getD 0 0] := by rw [← hz1]; exact hrz.take (by omega)
  obtain ⟨f1, f2, f3, f4⟩ := yaxz (k := zs.getD 0 0) so
  refine (yapj (t := (lowS l (zs.getD 0 0)).length) na (s2.to (B := B + (cA b2 [.int .i64 0, .int .i64 0, .slice none 0 0] 58 + (cA b1 [.int .i64 code, .slice q m cc] 50 + G)))) rk (by omega) (fun r hr => by obtain ⟨e, _, rfl⟩ := List.mem_map.1 hr; simp) ⟨by omega, f2, fun j h1 h2 => f3 j h1 (by omega)⟩).mono fun v h5 ⟨hv, hh⟩ => ⟨_, _, hv, ?_⟩
  subst hh
  rw [← hl, f4, hl]
  refine ⟨_, kb1.cell 0, condP (fun hp => ?_) (fun hp => ?_)⟩
  · have h2 := h2 hp
    have e : dictS l code zs = (if yadk (upS l (zs.getD 0 0)) (zs.getD 0 0) = true then (lowS l (zs.getD 0 0) ++ (zs.getD 0 0, zs.getD 1 0) :: (upS l (zs.getD 0 0)).tail, 0, 1) else if l.length = 500 then (l, 4, 0) else (lowS l (zs.getD 0 0) ++ (zs.getD 0 0, zs.getD 1 0) :: upS l (zs.getD 0 0), 0, 0)) := by subst hp; rfl
    have hz2 : zs = [zs.getD 0 0, zs.getD 1 0] := by
      match zs, h2 with
      | [a, b], _ => rfl
    rw [yaix, e]
    refine yaat (fun hf => ?_) (fun hf => ?_)
    · obtain ⟨u1, u2, u3⟩ := yapm hf
      rw [if_pos hf]
      refine yaev na (s2.at B) (by omega) (by omega) fun q1 l1 d1 Bi Br o hB hset => ⟨_, _, _, Blk.cellA kb1 1, hrz.int (by omega) (by omega) ?_⟩
      rw [Int.toNat_natCast] at o hset
      rw [yaia (by omega)] at o
      have hl1 : 2 = l1 := o.len
      have s3 : St h0 h5 (Bi + (cA b2 [.int .i64 0, .int .i64 0, .slice none 0 0] 58 + (cA b1 [.int .i64 code, .slice q m cc] 50 + (Br + G)))) := by rw [hB] at s2; exact s2.to
      refine o.wrI s3 (by omega) (by omega) rfl rfl fun h' A' o' s' => ?_
      have na' := hset _ A' o'
      have hrow : (l.map row2).set (lowS l (zs.getD 0 0)).length ((row2 (l.getD (lowS l (zs.getD 0 0)).length (0, 0))).set (Int.toNat (1 : Int)) (zs.getD (Int.toNat (1 : Int)) 0)) = (lowS l (zs.getD 0 0) ++ (zs.getD 0 0, zs.getD 1 0) :: (upS l (zs.getD 0 0)).tail).map row2 := by
        have e1 : (row2 (l.getD (lowS l (zs.getD 0 0)).length (0, 0))).set (Int.toNat (1 : Int)) (zs.getD (Int.toNat (1 : Int)) 0) = row2 (zs.getD 0 0, zs.getD 1 0) := by rw [u2]; rfl
        rw [e1, List.set_eq_take_append_cons_drop, if_pos (by rw [List.length_map]; omega), ← List.map_take, ← List.map_drop, u3, yalx, List.map_append, List.map_cons]
      rw [hrow] at na'
      exact mboxT na' (s'.to (B := cA b2 [.int .i64 0, .int .i64 0, .slice none 0 0] 58 + (cA b1 [.int .i64 code, .slice q m cc] 50 + (A' + Br + G)))) (yaal _ _)
    · rw [if_neg (by rw [hf]; simp)]
      refine condP (fun h5 => ?_) (fun h5 => ?_)
      · rw [if_pos (by omega)]
        exact mboxT na s2 (yaar _ _)
      · rw [if_neg (by omega)]
        refine ⟨_, _, _, Blk.cellA kb1 1, (yaeq hrz (by omega)).mono fun v6 h6 ⟨q6, d6, A6, hv6, o6, t6⟩ => ⟨_, _, _, hv6, ?_⟩⟩
        have s6 := s2.join t6
        refine s6.new (cs := [.slice q6 m d6]) fun b3 h7 x7 s7 => ?_
        have s7 := s7.to (B := cA b3 [.slice q6 m d6] 29 + (B + (A6 + (cA b2 [.int .i64 0, .int .i64 0, .slice none 0 0] 58 + (cA b1 [.int .i64 code, .slice q m cc] 50 + G)))))
        refine (yafw na o6 s7 (by omega) (by omega)).mono fun v8 h8 ⟨q', d', B', hv8, na', s8⟩ => ⟨_, _, _, hv8, ?_⟩
        have hrow : (l.map row2).take (lowS l (zs.getD 0 0)).length ++ zs :: (l.map row2).drop (lowS l (zs.getD 0 0)).length = (lowS l (zs.getD 0 0) ++ (zs.getD 0 0, zs.getD 1 0) :: upS l (zs.getD 0 0)).map row2 := by
          rw [← List.map_take, ← List.map_drop, yakj, yalx, List.map_append, List.map_cons]
          show _ ++ zs :: _ = _ ++ [zs.getD 0 0, zs.getD 1 0] :: _
          rw [← hz2]
        rw [hrow] at na'
        exact mboxT na' (s8.to (B := cA b2 [.int .i64 0, .int .i64 0, .slice none 0 0] 58 + (cA b1 [.int .i64 code, .slice q m cc] 50 + (B' + G)))) (yaal _ _)
  refine condP (fun h6 => ?_) (fun h6 => condP (fun h4 => ?_) (fun h4 => condP (fun h5 => ?_) (fun h5 => ?_)))
  · have e : dictS l code zs = (l, 0, ((lowS l (zs.getD 0 0)).length : Int)) := by subst h6; rfl
    rw [yaix, e]
    exact mboxT na s2 (yaal _ _)
  · have e : dictS l code zs = (if yadk (upS l (zs.getD 0 0)) (zs.getD 0 0) = true then (l, 0, zs.getD 0 0) else if (lowS l (zs.getD 0 0)).length = 0 then (l, 12, 0) else (l, 0, (yaog (lowS l (zs.getD 0 0))).1)) := by subst h4; rfl
    rw [yaix, e]
    refine yaat (fun hf => ?_) (fun hf => ?_)
    · rw [if_pos hf]
      refine ⟨_, _, _, Blk.cellA kb1 1, hrz.int (by omega) (by omega) ?_⟩
      exact mboxT na s2 (yaal _ _)
    · rw [if_neg (by rw [hf]; simp)]
      refine condP (fun h0 => ?_) (fun h0 => ?_)
      · rw [if_pos (by omega)]
        exact mboxT na s2 (yaar _ _)
      · rw [if_neg (by omega)]
        obtain ⟨w1, _, _⟩ := yasv (xs := l) (key := zs.getD 0 0) (by omega)
        have ei : Int.toNat (((lowS l (zs.getD 0 0)).length : Int) - 1) = (lowS l (zs.getD 0 0)).length - 1 := by omega
        refine ⟨⟨by omega, by omega⟩, e_key na (s2.at B) (by omega) (by omega) ?_⟩
        rw [ei, ← w1]
        exact mboxT na s2 (yaal _ _)
  · have e : dictS l code zs = (if (lowS l (zs.getD 0 0)).length = l.length then (l, 12, 0) else (l, 0, (yazs (upS l (zs.getD 0 0))).1)) := by subst h5; rfl
    rw [yaix, e]
    refine condP (fun h0 => ?_) (fun h0 => ?_)
    · rw [if_pos (by omega)]
      exact mboxT na s2 (yaar _ _)
    · rw [if_neg (by omega)]
      refine e_key na (s2.at B) (by omega) (by omega) ?_
      rw [Int.toNat_natCast]
      have hud := yakj (xs := l) (key := zs.getD 0 0)
      rw [List.drop_eq_getElem_cons (by omega)] at hud
      have hg : l.getD (lowS l (zs.getD 0 0)).length (0, 0) = l[(lowS l (zs.getD 0 0)).length]'(by omega) := by rw [List.getD_eq_getElem?_getD, List.getElem?_eq_getElem (by omega)]; rfl
      rw [hg, ← hud]
      exact mboxT na s2 (yaal _ _)
  · exact yaos na s2 hn (by omega)
end
end Go.Proofs.YtllhdhpjgihjfaaGreatDoor
