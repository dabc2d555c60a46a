/- Part I4 U0 I5 I6 I7 I8 P35 I9 U1 M2 X0 X1 X2 X3 of the proof: contracts of functions of the program, and what follows from them. -/
import Derived.Test.YtdlkohenamlnaaaGreatSxHR
import Derived.Test.YtdlkohenamlnaaaGreatSxV
set_option maxRecDepth 100000
/- copy, and slices that do not overlap. -/
namespace Go.Sx
open Go
theorem yajt {h : Hp} {b o : Nat} {s : Option Nat} {xs : List Value} {e : TypeId} (hb : Blk h b xs e) : yadv h ⟨b, o, s⟩ = false := by
  unfold Blk at hb
  unfold yadv
  simp only [hb]
  simp
theorem yamz {h : Hp} {b : Nat} {xs : List Value} {e : TypeId} (hb : Blk h b xs e) : yapa h b = some (e, xs.length) := by
  unfold Blk at hb
  unfold yapa
  simp [hb]
theorem yanq {P : Program} {g : Nat} {ps rs : Array TypeId} {h : Hp} {t e : TypeId} {i0 : TypeInfo} {a b : Addr} {la ca lb cb : Nat} {xs ys : List Value} {e1 e2 : TypeId} {K : Value → Prop}
    (hx : IsExt P g (Extern.SlicesOverlaps.overlaps ps rs)) (hp : ps[0]? = some t) (ht : P.underlying t = some (.slice e)) (hi : P.info? e = some i0)
    (hne : a.block ≠ b.block) (ha : Blk h a.block xs e1) (hb : Blk h b.block ys e2) (hk : K (.bool false)) : yaeq P g #[.slice (some a) la ca, .slice (some b) lb cb] h K := by
  refine ⟨_, hx, ?_⟩
  have fa : ∀ o s, yadv h ⟨a.block, o, s⟩ = false := fun o s => yajt ha
  have fb : ∀ o s, yadv h ⟨b.block, o, s⟩ = false := fun o s => yajt hb
  have fa' : yadv h a = false := fa a.off a.spot
  have fb' : yadv h b = false := fb b.off b.spot
  have sa := yamz ha
  have sb := yamz hb
  have e0 : Extern.SlicesOverlaps.overlaps ps rs #[.slice (some a) la ca, .slice (some b) lb cb] = (do
      let some t := ps[0]? | stuck "slices.overlaps: no parameter types"
      let .slice elem ← underlying t | stuck "slices.overlaps: slice type expected"
      let size ← sizeOf elem
      if la = 0 ∨ lb = 0 ∨ size = 0 then pure (.bool false)
      else if a.block != b.block && (← frozen a) && (← frozen b) then unsupported .addressObserved
      else do
        if a.block != b.block then do
          noView a; noView b
          if ← mayBeOne a b then return .bool ((← choose (.extern "sameAddr.stringBytes" 2)) == 1)
        pure (.bool (a.block == b.block && a.off < b.off + lb * size && b.off < a.off + la * size))) := rfl
  rw [e0]
  simp only [hp, yaai, yaao, ht, yabn, hi]
  split
  · exact hk
  · simp only [frozen, yaai, hq, fa', fb', Bool.and_false, Bool.false_eq_true, if_false]
    have hne' : (a.block != b.block) = true := by simpa using hne
    have hne2 : (a.block == b.block) = false := by simpa using hne
    simp only [hne', if_true, noView, viewAt, shape, yaai, hq, sa, sb, yaaq, Option.isSome_some, Option.isSome_none, Bool.false_eq_true, if_false, mayBeOne, stringish, frozen, fa', fb', fa, fb]
    simp only [yaaq, Bool.false_eq_true, if_false, Bool.false_and, Bool.and_self, Bool.or_self, hne2]
    exact hk
theorem Rd.take {h : Hp} {p : Option Addr} {n i : Nat} {xs : List Value} (r : Rd h p n xs) (hi : i ≤ n) : Rd h p i (xs.take i) := by
  have hl := r.len
  refine ⟨by rw [List.length_take]; omega, ?_⟩
  rcases r.2 with h0 | ⟨a, hp, hc⟩
  · exact .inl (by omega)
  · exact .inr ⟨a, hp, fun j hj => by rw [hc j (by omega), List.getElem?_take, if_pos hj]⟩
end Go.Sx
/- Searching in ascending numbers. -/
namespace Go.Proofs.YtdlkohenamlnaaaGreat
open Go Go.Sx
theorem yayp : IsExt Tryz.prog 63 (Extern.SlicesOverlaps.overlaps Tryz.f63.params Tryz.f63.resultTypes) :=
  ⟨Tryz.f63, Tryz.func63, by kernel_rfl, by kernel_rfl, by kernel_rfl, by kernel_rfl⟩
abbrev ints (zs : List Int) : List Value := zs.map (Value.int .i64)
abbrev at_ (zs : List Int) (i : Nat) : Int := zs.getD i 0
theorem yayf (x : Int) (h : Hp) : yaae Tryz.prog 62 #[.int .i64 x] h (fun v h' => h' = h ∧ v = .bool false) := by
  refine zex_call ?_
  rw [zex_b0]
  exact ⟨rfl, by simp⟩
theorem yasp (x : Int) (h : Hp) : yaae Tryz.prog 99 #[.int .i64 x] h (fun v h' => h' = h ∧ v = .bool false) := by
  refine zae_call ?_
  rw [zae_b0]
  exact ⟨rfl, by simp⟩
theorem yaco (x y : Int) (h : Hp) : yaae Tryz.prog 61 #[.int .i64 x, .int .i64 y] h (fun v h' => h' = h ∧ v = .bool (decide (x < y))) := by
  refine zac_call ?_
  rw [zac_b0]
  refine (yasp x h).mono fun v h' ⟨hh, hv⟩ => ?_
  subst hh
  exact ⟨_, hv, rfl, rfl⟩
def IsLb (zs : List Int) (key : Int) (i : Nat) : Prop := i ≤ zs.length ∧ (∀ j, j < i → at_ zs j < key) ∧ ∀ j, i ≤ j → j < zs.length → key ≤ at_ zs j
def Inc (zs : List Int) : Prop := ∀ i j, i < j → j < zs.length → at_ zs i < at_ zs j
theorem yahv {h : Hp} {p : OA} {n c : Nat} {zs : List Int} {key : Int} (r : Rd h p n (ints zs)) (hn : n ≤ 1000000) (inc : Inc zs) :
    yaae Tryz.prog 21 #[.slice p n c, .int .i64 key] h (fun v h' => h' = h ∧ ∃ i : Nat, IsLb zs key i ∧ v = .tuple #[.int .i64 (i : Int), .bool (decide (i < n ∧ at_ zs i = key))]) := by
  have hzl : zs.length = n := by have := r.len; simpa using this
  refine zdu_call ?_
  rw [zdu_b0]
  refine ⟨fun s h' => h' = h ∧ ∃ i j : Nat, s.1 = i ∧ s.2.1 = j ∧ i ≤ j ∧ j ≤ n ∧ (∀ k, k < i → at_ zs k < key) ∧ (∀ k, j ≤ k → k < n → key ≤ at_ zs k), fun s _ => (s.2.1 - s.1).toNat,
    ⟨rfl, 0, n, rfl, rfl, by omega, by omega, fun k hk => by omega, fun k h1 h2 => by omega⟩, ?_⟩
  rintro ⟨si, sj, _⟩ h1 ⟨hh, i, j, hi, hj, hij, hjn, lo, hi'⟩
  subst hh
  simp only at hi hj
  subst hi hj
  dsimp only
  rw [zdu_b1]
  refine condP (fun hlt => ?_) (fun hge => ?_)
  · have hlt' : i < j := by omega
    have e1 : IntKind.u64.wrap ((i : Int) + (j : Int)) = ((i + j : Nat) : Int) := by
      show ((i : Int) + (j : Int)) % 18446744073709551616 = _
      rw [Int.emod_eq_of_lt (by omega) (by omega)]; push_cast; rfl
    refine ⟨⟨by omega, by omega⟩, (((i + j) / 2 : Nat) : Int), ⟨by omega, ?_⟩, ⟨by omega, by omega⟩, ?_⟩
    · rw [e1]
      have : (2 : Int) ^ (min (Int.toNat 1) IntKind.u64.bits) = 2 := by decide
      rw [this]
      rw [Int.fdiv_eq_ediv_of_nonneg _ (by omega)]
      omega
    refine yamq r (by omega) (by omega) ?_
    have e2 : (((i + j) / 2 : Nat) : Int).toNat = (i + j) / 2 := Int.toNat_natCast _
    rw [e2]
    refine (yaco _ _ _).mono fun v h2 ⟨hh, hv⟩ => ?_
    subst hh
    refine ⟨_, hv, condP (fun h3 => ?_) (fun h3 => ?_)⟩
    · refine ⟨⟨by omega, by omega⟩, ⟨rfl, (i + j) / 2 + 1, j, by simp only; omega, rfl, by omega, hjn, fun k hk => ?_, hi'⟩, by simp only; omega⟩
      rcases Nat.lt_or_ge k ((i + j) / 2) with h4 | h4
      · exact Int.lt_trans (inc k ((i + j) / 2) h4 (by omega)) h3
      · have : k = (i + j) / 2 := by omega
        subst this; exact h3
    · refine ⟨⟨rfl, i, (i + j) / 2, rfl, rfl, by omega, by omega, lo, fun k hk hkn => ?_⟩, by simp only; omega⟩
      have h3' : key ≤ at_ zs ((i + j) / 2) := Int.not_lt.1 h3
      rcases Nat.lt_or_ge ((i + j) / 2) k with h4 | h4
      · exact Int.le_trans h3' (Int.le_of_lt (inc _ k h4 (by omega)))
      · have : k = (i + j) / 2 := by omega
        subst this; exact h3'
  · have hij' : i = j := by omega
    subst hij'
    have lb : IsLb zs key i := ⟨by omega, lo, fun k h1 h2 => hi' k h1 (by omega)⟩
    have e : ((i : Nat) : Int).toNat = i := by simp
    rw [zdu_b2]
    refine condP (fun hl => ?_) (fun hl => ?_)
    · refine yamq r (by omega) (by omega) ?_
      rw [e]
      refine condP (fun he => ?_) (fun he => ?_)
      · have he' : at_ zs i = key := he
        exact ⟨rfl, i, lb, by rw [decide_eq_true (p := i < n ∧ at_ zs i = key) ⟨by omega, he'⟩]⟩
      · have he' : ¬ at_ zs i = key := he
        refine yamq r (by omega) (by omega) ?_
        refine (yayf _ _).mono fun v h2 ⟨hh, hv⟩ => ?_
        subst hh
        refine ⟨_, hv, rfl, i, lb, ?_⟩
        rw [decide_eq_false (p := i < n ∧ at_ zs i = key) (fun h4 => he' h4.2)]
    · exact ⟨rfl, i, lb, by rw [decide_eq_false (p := i < n ∧ at_ zs i = key) (fun h4 => by omega)]⟩
end Go.Proofs.YtdlkohenamlnaaaGreat
/- Separation: what a heap holds beyond a first heap, as a bag of blocks; slices of elements of any size. -/
namespace Go.Sx
open Go
abbrev Atom := Nat × Obj
def Bag : Type := Quotient (List.isSetoid Atom)
namespace Bag
def zero : Bag := Quotient.mk (List.isSetoid Atom) []
def one (a : Atom) : Bag := Quotient.mk (List.isSetoid Atom) [a]
def mk (l : List Atom) : Bag := Quotient.mk (List.isSetoid Atom) l
def add (A B : Bag) : Bag := Quotient.liftOn₂ A B (fun l m => mk (l ++ m)) fun _ _ _ _ h1 h2 => Quotient.sound (List.Perm.append h1 h2)
instance : Add Bag := ⟨add⟩
instance : OfNat Bag 0 := ⟨zero⟩
theorem yawk (l m : List Atom) : mk l + mk m = mk (l ++ m) := rfl
theorem yayw : (0 : Bag) = mk [] := rfl
theorem ybby (a : Atom) : one a = mk [a] := rfl
theorem ind {p : Bag → Prop} (h : ∀ l, p (mk l)) (A : Bag) : p A := Quotient.ind h A
theorem mk_eq {l m : List Atom} (h : mk l = mk m) : l.Perm m := Quotient.exact h
theorem eq_mk {l m : List Atom} (h : l.Perm m) : mk l = mk m := Quotient.sound h
theorem assoc (A B C : Bag) : A + B + C = A + (B + C) := by
  induction A using ind; induction B using ind; induction C using ind
  simp only [yawk, List.append_assoc]
theorem comm (A B : Bag) : A + B = B + A := by
  induction A using ind; induction B using ind
  simp only [yawk]
  exact eq_mk List.perm_append_comm
theorem yaqx (A : Bag) : A + 0 = A := by
  induction A using ind
  simp only [yayw, yawk, List.append_nil]
theorem yaxj (A : Bag) : 0 + A = A := by rw [comm, yaqx]
instance : Std.Associative (α := Bag) (· + ·) := ⟨assoc⟩
instance : Std.Commutative (α := Bag) (· + ·) := ⟨comm⟩
instance : Std.LawfulIdentity (α := Bag) (· + ·) 0 where
  left_id := yaxj
  right_id := yaqx
end Bag
abbrev cA (b : Nat) (cs : List Value) (e : TypeId) : Bag := Bag.one (b, .cells cs.toArray e (0, 0))
structure St (h0 h : Hp) (A : Bag) : Prop where
  ext : Ext h0 h
  rep : ∃ l : List Atom, Bag.mk l = A ∧ (l.map Prod.fst).Nodup ∧ ∀ a ∈ l, h0.size ≤ a.1 ∧ h[a.1]? = some a.2
theorem St.of {h0 h : Hp} {l : List Atom} (s : St h0 h (Bag.mk l)) : (l.map Prod.fst).Nodup ∧ ∀ a ∈ l, h0.size ≤ a.1 ∧ h[a.1]? = some a.2 := by
  obtain ⟨m, hm, hn, ha⟩ := s.rep
  have hp := Bag.mk_eq hm
  exact ⟨(hp.map Prod.fst).nodup_iff.1 hn, fun a h => ha a (hp.mem_iff.2 h)⟩
theorem St.mk' {h0 h : Hp} {l : List Atom} (e : Ext h0 h) (hn : (l.map Prod.fst).Nodup) (ha : ∀ a ∈ l, h0.size ≤ a.1 ∧ h[a.1]? = some a.2) : St h0 h (Bag.mk l) := ⟨e, l, rfl, hn, ha⟩
theorem St.to {h0 h : Hp} {A B : Bag} (s : St h0 h A) (e : A = B := by ac_rfl) : St h0 h B := e ▸ s
theorem St.start (h : Hp) : St h h 0 := ⟨Ext.refl h, [], rfl, by simp, by simp⟩
theorem St.head {h0 h : Hp} {b : Nat} {o : Obj} {F : Bag} (s : St h0 h (Bag.one (b, o) + F)) : h0.size ≤ b ∧ h[b]? = some o := by
  induction F using Bag.ind
  rw [Bag.ybby, Bag.yawk] at s
  exact s.of.2 (b, o) (by simp)
theorem St.blk {h0 h : Hp} {b : Nat} {cs : List Value} {e : TypeId} {F : Bag} (s : St h0 h (cA b cs e + F)) : Blk h b cs e := s.head.2
theorem St.cell {h0 h : Hp} {b : Nat} {cs : List Value} {e : TypeId} {F : Bag} (s : St h0 h (cA b cs e + F)) (o : Nat) : Sx.cell h ⟨b, o, none⟩ = cs[o]? := s.blk.cell o
theorem St.cellA {h0 h : Hp} {b : Nat} {cs : List Value} {e : TypeId} {F : Bag} (s : St h0 h (cA b cs e + F)) (o : Nat) : Sx.cell h ((⟨b, 0, none⟩ : Addr).add o) = cs[o]? := by rw [yaaj, Nat.zero_add]; exact s.cell o
theorem St.drop {h0 h : Hp} {A F : Bag} (s : St h0 h (A + F)) : St h0 h F := by
  induction A using Bag.ind
  induction F using Bag.ind
  rw [Bag.yawk] at s
  obtain ⟨hn, ha⟩ := s.of
  rw [List.map_append] at hn
  exact St.mk' s.ext (List.nodup_append.1 hn).2.1 fun a h => ha a (by simp [h])
theorem St.left {h0 h : Hp} {A F : Bag} (s : St h0 h (A + F)) : St h0 h A := by rw [Bag.comm] at s; exact s.drop
theorem St.ne {h0 h : Hp} {b b' : Nat} {o o' : Obj} {F : Bag} (s : St h0 h (Bag.one (b, o) + (Bag.one (b', o') + F))) : b ≠ b' := by
  induction F using Bag.ind
  rw [Bag.ybby, Bag.ybby, Bag.yawk, Bag.yawk] at s
  have := s.of.1
  simp at this
  exact this.1.1
theorem St.grow {h0 h h' : Hp} {F : Bag} (s : St h0 h F) (x : Ext h h') : St h0 h' F := by
  induction F using Bag.ind
  obtain ⟨hn, ha⟩ := s.of
  exact St.mk' (s.ext.trans x) hn fun a h => ⟨(ha a h).1, x.get (ha a h).2⟩
theorem St.base {h0 h1 h : Hp} {A : Bag} (s : St h1 h A) (x : Ext h0 h1) : St h0 h A := by
  induction A using Bag.ind
  obtain ⟨hn, ha⟩ := s.of
  exact St.mk' (x.trans s.ext) hn fun a h => ⟨Nat.le_trans x.size (ha a h).1, (ha a h).2⟩
theorem St.lt {h0 h : Hp} {l : List Atom} (s : St h0 h (Bag.mk l)) : ∀ a ∈ l, a.1 < h.size := fun a ha => yaev (s.of.2 a ha).2
theorem St.join {h0 h h' : Hp} {F B : Bag} (s : St h0 h F) (t : St h h' B) : St h0 h' (B + F) := by
  induction F using Bag.ind
  induction B using Bag.ind
  rename_i F B
  obtain ⟨hn, ha⟩ := s.of
  obtain ⟨hm, hb⟩ := t.of
  rw [Bag.yawk]
  refine St.mk' (s.ext.trans t.ext) ?_ fun a h => ?_
  · rw [List.map_append, List.nodup_append]
    refine ⟨hm, hn, fun x hx y hy => ?_⟩
    obtain ⟨x, hx1, rfl⟩ := List.mem_map.1 hx
    obtain ⟨y, hy1, rfl⟩ := List.mem_map.1 hy
    have h1 := (hb x hx1).1
    have h2 := s.lt y hy1
    omega
  · rcases List.mem_append.1 h with h | h
    · exact ⟨Nat.le_trans s.ext.size (hb a h).1, (hb a h).2⟩
    · exact ⟨(ha a h).1, t.ext.get (ha a h).2⟩
theorem St.push {h0 h : Hp} {F : Bag} (s : St h0 h F) (o : Obj) : St h0 (h.push o) (Bag.one (h.size, o) + F) := by
  refine s.join (B := Bag.one (h.size, o)) ?_
  rw [Bag.ybby]
  exact St.mk' (Ext.push h o) (by simp) (by simp)
theorem St.new {h0 h : Hp} {F : Bag} {cs : List Value} {e : TypeId} {k : Nat → Hp → Prop} (s : St h0 h F) (hk : ∀ b h', Ext h h' → St h0 h' (cA b cs e + F) → k b h') : New h (.cells cs.toArray e) k := hk _ _ (Ext.push _ _) (s.push _)
theorem St.set {h0 h h' : Hp} {F : Bag} {b : Nat} {o o' : Obj} (s : St h0 h (Bag.one (b, o) + F)) (hz : h'.size = h.size) (hs : ∀ j, j ≠ b → h'[j]? = h[j]?) (hb : h'[b]? = some o') : St h0 h' (Bag.one (b, o') + F) := by
  induction F using Bag.ind
  rw [Bag.ybby, Bag.yawk] at s ⊢
  obtain ⟨hn, ha⟩ := s.of
  refine St.mk' ⟨by rw [hz]; exact s.ext.size, fun i hi => ?_⟩ (by simpa using hn) fun a h => ?_
  · rw [hs i (by have := (ha (b, o) (by simp)).1; omega)]; exact s.ext.same i hi
  · rcases List.mem_append.1 h with h1 | h1
    · simp at h1; subst h1; exact ⟨(ha (b, o) (by simp)).1, hb⟩
    · refine ⟨(ha a (by simp [h1])).1, ?_⟩
      rw [hs]
      · exact (ha a (by simp [h1])).2
      · rintro rfl
        simp at hn
        exact hn.1 _ h1
theorem St.wr {h0 h : Hp} {F : Bag} {a : Addr} {b o : Nat} {cs : List Value} {e : TypeId} {v : Value} {k : Hp → Prop} (s : St h0 h (cA b cs e + F)) (ha : a = ⟨b, o, none⟩) (ho : o < cs.length)
    (hk : ∀ h', St h0 h' (cA b (cs.set o v) e + F) → k h') : Wr h a v k :=
  yaol ha s.blk ho fun h' hz hs hb => hk h' (s.set hz hs hb)
theorem St.write {h0 h h' : Hp} {F : Bag} {b : Nat} {o o' : Obj} (s : St h0 h (Bag.one (b, o) + F)) (hz : h.size ≤ h'.size) (hs : ∀ j, j < h.size → j ≠ b → h'[j]? = h[j]?) (hb : h'[b]? = some o') : St h0 h' (Bag.one (b, o') + F) := by
  induction F using Bag.ind
  rw [Bag.ybby, Bag.yawk] at s ⊢
  obtain ⟨hn, ha⟩ := s.of
  refine St.mk' ⟨Nat.le_trans s.ext.size hz, fun i hi => ?_⟩ (by simpa using hn) fun a h => ?_
  · rw [hs i (Nat.lt_of_lt_of_le hi s.ext.size) (by have := (ha (b, o) (by simp)).1; omega)]; exact s.ext.same i hi
  · rcases List.mem_append.1 h with h1 | h1
    · simp at h1; subst h1; exact ⟨(ha (b, o) (by simp)).1, hb⟩
    · refine ⟨(ha a (by simp [h1])).1, ?_⟩
      rw [hs]
      · exact (ha a (by simp [h1])).2
      · exact s.lt a (by simp [h1])
      · rintro rfl
        simp at hn
        exact hn.1 _ h1
theorem St.storesV {h0 : Hp} {F : Bag} {b : Nat} {e : TypeId} {k : Hp → Prop} {h : Hp} (vs : List Value) (o : Nat) (pre mid rest : List Value) (s : St h0 h (cA b (pre ++ mid ++ rest) e + F)) (hs : ∀ v ∈ vs, yafo v = true) (hp : pre.length = o) (hm : mid.length = vs.length)
    (hk : ∀ h', St h0 h' (cA b (pre ++ vs ++ rest) e + F) → k h') : Sx.yadr ⟨b, o, none⟩ k vs 0 h :=
  yahi vs 0 o h pre mid rest hs s.blk (by omega) hm fun h' hz hs' hb => hk h' (s.set hz hs' hb)
class Bag.Sub (A B : Bag) (C : outParam Bag) : Prop where
  eq : B = A + C
instance Bag.Sub.refl (A : Bag) : Bag.Sub A A 0 := ⟨(Bag.yaqx A).symm⟩
instance Bag.Sub.head (A Y : Bag) : Bag.Sub A (A + Y) Y := ⟨rfl⟩
instance Bag.Sub.left (A X Y C : Bag) [h : Bag.Sub A X C] : Bag.Sub A (X + Y) (C + Y) := ⟨by rw [h.eq, Bag.assoc]⟩
instance Bag.Sub.right (A X Y C : Bag) [h : Bag.Sub A Y C] : Bag.Sub A (X + Y) (X + C) := ⟨by rw [h.eq]; ac_rfl⟩
theorem St.at {h0 h : Hp} {B : Bag} (s : St h0 h B) (A : Bag) {C : Bag} [x : Bag.Sub A B C] : St h0 h (A + C) := x.eq ▸ s
structure Ty (α : Type) where
  e : TypeId
  sz : Nat
  enc : α → List Value
  d : α
  len : ∀ a, (enc a).length = sz
  pos : 0 < sz
  sc : ∀ a, ∀ v ∈ enc a, yafo v = true
section
variable {α : Type} (T : Ty α)
def Ty.cells (xs : List α) : List Value := xs.flatMap T.enc
theorem Ty.cells_len (xs : List α) : (T.cells xs).length = xs.length * T.sz := by
  induction xs with
  | nil => simp [Ty.cells]
  | cons x r ih => simp only [Ty.cells, List.flatMap_cons, List.length_append, T.len, List.length_cons] at ih ⊢; rw [ih, Nat.add_mul]; omega
theorem Ty.cells_append (xs ys : List α) : T.cells (xs ++ ys) = T.cells xs ++ T.cells ys := by simp [Ty.cells]
theorem Ty.cells_one (x : α) : T.cells [x] = T.enc x := by simp [Ty.cells]
theorem Ty.cells_cons (x : α) (xs : List α) : T.cells (x :: xs) = T.enc x ++ T.cells xs := rfl
theorem Ty.cells_take (xs : List α) (i : Nat) : T.cells (xs.take i) = (T.cells xs).take (i * T.sz) := by
  rcases Nat.lt_or_ge i xs.length with h | h
  · have : T.cells xs = T.cells (xs.take i) ++ T.cells (xs.drop i) := by rw [← T.cells_append, List.take_append_drop]
    have hl : (T.cells (xs.take i)).length = i * T.sz := by rw [T.cells_len, List.length_take, Nat.min_eq_left (by omega)]
    conv => rhs; rw [this]
    exact (List.take_left' hl).symm
  · rw [List.take_of_length_le h, List.take_of_length_le (by rw [T.cells_len]; exact Nat.mul_le_mul_right _ h)]
theorem Ty.cells_drop (xs : List α) (i : Nat) : T.cells (xs.drop i) = (T.cells xs).drop (i * T.sz) := by
  rcases Nat.lt_or_ge i xs.length with h | h
  · have : T.cells xs = T.cells (xs.take i) ++ T.cells (xs.drop i) := by rw [← T.cells_append, List.take_append_drop]
    have hl : (T.cells (xs.take i)).length = i * T.sz := by rw [T.cells_len, List.length_take, Nat.min_eq_left (by omega)]
    conv => rhs; rw [this]
    exact (List.drop_left' hl).symm
  · rw [List.drop_of_length_le h, List.drop_of_length_le (by rw [T.cells_len]; exact Nat.mul_le_mul_right _ h)]; rfl
theorem Ty.cells_sc (xs : List α) : ∀ v ∈ T.cells xs, yafo v = true := by
  intro v hv
  obtain ⟨x, _, hv⟩ := List.mem_flatMap.1 hv
  exact T.sc x v hv
theorem Ty.cells_get (xs : List α) {i j : Nat} (hi : i < xs.length) (hj : j < T.sz) : (T.cells xs)[i * T.sz + j]? = (T.enc (xs.getD i T.d))[j]? := by
  have e1 : xs = xs.take i ++ (xs[i] :: xs.drop (i + 1)) := by rw [← List.drop_eq_getElem_cons hi, List.take_append_drop]
  have hd : xs.getD i T.d = xs[i] := by simp [List.getD, hi]
  rw [hd]
  conv => lhs; rw [e1]
  have hl : (T.cells (xs.take i)).length = i * T.sz := by rw [T.cells_len, List.length_take, Nat.min_eq_left (by omega)]
  rw [T.cells_append, T.cells_cons, List.getElem?_append_right (by omega), hl, Nat.add_sub_cancel_left, List.getElem?_append_left (by rw [T.len]; exact hj)]
def RdT (h : Hp) (p : Option Addr) (n : Nat) (xs : List α) : Prop := xs.length = n ∧ (n = 0 ∨ ∃ a, p = some a ∧ ∀ i, i < n * T.sz → cell h (a.add i) = (T.cells xs)[i]?)
def Sl (p : Option Addr) (n c : Nat) (xs : List α) (A : Bag) : Prop :=
  xs.length = n ∧ ((p = none ∧ n = 0 ∧ c = 0 ∧ A = 0) ∨ ∃ b rest, p = some ⟨b, 0, none⟩ ∧ n ≤ c ∧ rest.length = (c - n) * T.sz ∧ A = cA b (T.cells xs ++ rest) T.e)
structure ElOk (P : Program) (t : TypeId) : Prop where
  el : elemT P t = some (T.e, T.sz)
  ni : yahd P t = true
  info : ∃ i0 z, P.info? T.e = some i0 ∧ i0.zero = some z ∧ z.cells.size = T.sz ∧ (∀ v ∈ z.cells.toList, yafo v = true) ∧ i0.bytes ≤ 1024
def elB (P : Program) (t : TypeId) : Bool :=
  (match elemT P t with | some (e', s) => Nat.beq T.e e' && Nat.beq s T.sz | none => false) && (yahd P t &&
  (match P.info? T.e with | some i0 => (match i0.zero with | some z => Nat.beq z.cells.size T.sz && (z.cells.toList.all yafo && Nat.ble i0.bytes 1024) | none => false) | none => false))
end
section
variable {α : Type} {T : Ty α}
theorem yadl {P : Program} {t : TypeId} (h : elB T P t = true) : ElOk T P t := by
  unfold elB at h
  simp only [Bool.and_eq_true] at h
  obtain ⟨h1, h2, h3⟩ := h
  refine ⟨?_, h2, ?_⟩
  · split at h1
    · rename_i e' s he
      simp only [Bool.and_eq_true] at h1
      rw [he, Nat.eq_of_beq_eq_true h1.1, Nat.eq_of_beq_eq_true h1.2]
    · cases h1
  · split at h3
    · rename_i i0 hi
      split at h3
      · rename_i z hz
        simp only [Bool.and_eq_true] at h3
        exact ⟨i0, z, hi, hz, Nat.eq_of_beq_eq_true h3.1, fun v hv => List.all_eq_true.1 h3.2.1 v hv, Nat.le_of_ble_eq_true h3.2.2⟩
      · cases h3
    · cases h3
theorem RdT.len {h : Hp} {p : Option Addr} {n : Nat} {xs : List α} (r : RdT T h p n xs) : xs.length = n := r.1
theorem RdT.nil (h : Hp) (p : Option Addr) : RdT T h p 0 [] := ⟨rfl, .inl rfl⟩
theorem RdT.rd {h : Hp} {p : Option Addr} {n : Nat} {xs : List α} (r : RdT T h p n xs) : Rd h p (n * T.sz) (T.cells xs) := by
  refine ⟨by rw [T.cells_len, r.1], ?_⟩
  rcases r.2 with h0 | h0
  · exact .inl (by rw [h0, Nat.zero_mul])
  · exact .inr h0
theorem RdT.of_rd {h : Hp} {p : Option Addr} {n : Nat} {xs : List α} (hl : xs.length = n) (r : Rd h p (n * T.sz) (T.cells xs)) : RdT T h p n xs := by
  refine ⟨hl, ?_⟩
  rcases r.2 with h0 | h0
  · exact .inl (by rcases Nat.mul_eq_zero.1 h0 with h1 | h1; exact h1; exact absurd h1 (Nat.ne_of_gt T.pos))
  · exact .inr h0
theorem RdT.same {h h' : Hp} {p : Option Addr} {n : Nat} {xs : List α} (r : RdT T h p n xs) (e : ∀ a, p = some a → h'[a.block]? = h[a.block]?) : RdT T h' p n xs := .of_rd r.1 (r.rd.same e)
theorem RdT.ext {h h' : Hp} {p : Option Addr} {n : Nat} {xs : List α} (r : RdT T h p n xs) (e : Ext h h') : RdT T h' p n xs := .of_rd r.1 (r.rd.ext e)
theorem RdT.at_ {h : Hp} {p : Option Addr} {n : Nat} {xs : List α} (r : RdT T h p n xs) {i : Nat} (hi : i < n) : ∃ a, p = some a ∧ ∀ j, j < T.sz → cell h ((a.add (i * T.sz)).add j) = (T.enc (xs.getD i T.d))[j]? := by
  rcases r.2 with h0 | ⟨a, hp, hc⟩
  · omega
  · refine ⟨a, hp, fun j hj => ?_⟩
    rw [yacj, hc, T.cells_get xs (by rw [r.1]; exact hi) hj]
    calc i * T.sz + j < i * T.sz + T.sz := by omega
      _ = (i + 1) * T.sz := by rw [Nat.add_mul, Nat.one_mul]
      _ ≤ n * T.sz := Nat.mul_le_mul_right _ hi
theorem RdT.take {h : Hp} {p : Option Addr} {n i : Nat} {xs : List α} (r : RdT T h p n xs) (hi : i ≤ n) : RdT T h p i (xs.take i) := by
  have hl := r.len
  refine .of_rd (by rw [List.length_take]; omega) ?_
  rw [T.cells_take]
  exact r.rd.take (Nat.mul_le_mul_right _ hi)
theorem RdT.sub {h : Hp} {p : Option Addr} {n c i m : Nat} {xs : List α} (r : RdT T h p n xs) (hi : i ≤ n) (hc : n ≤ c) (hm : m = n - i) : RdT T h (yaab p c i T.sz) m (xs.drop i) := by
  subst hm
  have hl := r.len
  refine ⟨by simp [hl], ?_⟩
  unfold yaab
  by_cases h1 : c = i
  · exact .inl (by omega)
  · rw [if_neg h1]
    rcases r.2 with h0 | ⟨a, rfl, hc'⟩
    · exact .inl (by omega)
    · refine .inr ⟨_, rfl, fun j hj => ?_⟩
      rw [Nat.sub_mul] at hj
      rw [yacj, hc' _ (by omega), T.cells_drop, List.getElem?_drop]
theorem RdT.readsL {h : Hp} {p : Option Addr} {n : Nat} {xs : List α} (r : RdT T h p n xs) : Sx.yaje h p (T.cells xs) := by
  rcases r.rd.readsL with h1 | h1
  · exact h1
  · have : T.cells xs = [] := List.eq_nil_of_length_eq_zero (by rw [T.cells_len, r.1]; exact h1)
    rw [this]
    cases p with
    | none => rfl
    | some a => intro i hi; cases hi
theorem Sl.len {p : Option Addr} {n c : Nat} {xs : List α} {A : Bag} (a : Sl T p n c xs A) : xs.length = n := a.1
theorem Sl.cap {p : Option Addr} {n c : Nat} {xs : List α} {A : Bag} (a : Sl T p n c xs A) : n ≤ c := by
  rcases a.2 with ⟨_, h1, h2, _⟩ | ⟨_, _, _, h1, _⟩ <;> omega
theorem Sl.nil : Sl T none 0 0 [] 0 := ⟨rfl, .inl ⟨rfl, rfl, rfl, rfl⟩⟩
theorem Sl.rd {p : Option Addr} {n c : Nat} {xs : List α} {A F : Bag} {h0 h : Hp} (a : Sl T p n c xs A) (s : St h0 h (A + F)) : RdT T h p n xs := by
  rcases a with ⟨hl, ⟨rfl, rfl, rfl, rfl⟩ | ⟨b, rest, rfl, hc, hr, rfl⟩⟩
  · exact ⟨hl, .inl rfl⟩
  · refine .of_rd hl ?_
    have := Rd.of_blk s.blk (n := n * T.sz) (by rw [List.length_append, T.cells_len, hl]; omega)
    rwa [List.take_append_of_le_length (by rw [T.cells_len, hl]; omega), List.take_of_length_le (by rw [T.cells_len, hl]; omega)] at this
theorem Sl.of_blk {b : Nat} {xs : List α} {n : Nat} (hl : xs.length = n) {cs : List Value} (hc : cs = T.cells xs) : Sl T (some ⟨b, 0, none⟩) n n xs (cA b cs T.e) :=
  ⟨hl, .inr ⟨b, [], rfl, Nat.le_refl _, by simp, by rw [List.append_nil, hc]⟩⟩
theorem Sl.take {p : Option Addr} {n c i : Nat} {xs : List α} {A : Bag} (a : Sl T p n c xs A) (hi : i ≤ n) : Sl T p i c (xs.take i) A := by
  rcases a with ⟨hl, ⟨rfl, rfl, rfl, rfl⟩ | ⟨b, rest, rfl, hc, hr, rfl⟩⟩
  · have : i = 0 := by omega
    subst this
    exact ⟨by simp, .inl ⟨rfl, rfl, rfl, rfl⟩⟩
  · refine ⟨by rw [List.length_take]; omega, .inr ⟨b, T.cells (xs.drop i) ++ rest, rfl, by omega, ?_, ?_⟩⟩
    · rw [List.length_append, T.cells_len, List.length_drop, hr, hl, ← Nat.add_mul]; congr 1; omega
    · rw [← List.append_assoc, ← T.cells_append, List.take_append_drop]
theorem yaaz {p : Option Addr} {c sz : Nat} : yaab p c 0 sz = p := by
  unfold yaab
  split
  · rfl
  · cases p <;> simp [Addr.add]
theorem yaar {b o c i sz : Nat} (h : c ≠ i) : yaab (some ⟨b, o, none⟩) c i sz = some ⟨b, o + i * sz, none⟩ := by
  unfold yaab
  rw [if_neg h, Option.map_some, yaaj]
theorem yajs (_n c m : Nat) (h : c < m) : Builtin.nextslicecap m c ≤ 2 * m := by
  unfold Builtin.nextslicecap
  split
  · omega
  · split
    · omega
    · simp only [Builtin.growBy]
      split
      · omega
      · split
        · omega
        · split
          · omega
          · split <;> omega
theorem yagc (n : Nat) (zs : List Value) : (repL n zs).length = n := by simp [repL]
theorem yaat {P : Program} {t : TypeId} {h0 h : Hp} {p q : Option Addr} {n c m c2 : Nat} {xs ys : List α} {A F : Bag} {k : Option Addr → Nat → Nat → Hp → Prop}
    (ok : ElOk T P t) (s : St h0 h (A + F)) (a : Sl T p n c xs A) (r : RdT T h q m ys) (hn : n + m < 1073741824)
    (hk : ∀ p' c' h' A', Sl T p' (n + m) c' (xs ++ ys) A' → St h0 h' (A' + F) → k p' (n + m) c' h') :
    yaan P t t (.slice p n c) (.slice q m c2) h (slK k) := by
  obtain ⟨i0, z, hi, hz, hzs, hzc, hbt⟩ := ok.info
  have hyl := r.len
  have hcell : (T.cells ys).length = m * T.sz := by rw [T.cells_len, hyl]
  unfold yaan
  rw [ok.el, ok.ni]
  refine ⟨T.cells ys, hcell, r.readsL, fun hle => ?_, fun hlt => ?_⟩
  · rcases a with ⟨hl, ⟨rfl, rfl, rfl, rfl⟩ | ⟨b, rest, rfl, hc, hr, rfl⟩⟩
    · have : m = 0 := by omega
      subst this
      have : ys = [] := List.eq_nil_of_length_eq_zero hyl
      subst this
      exact hk none 0 h 0 ⟨by rw [List.append_nil]; exact hl, .inl ⟨rfl, rfl, rfl, rfl⟩⟩ s
    · have hm2 : m * T.sz ≤ rest.length := by rw [hr]; exact Nat.mul_le_mul_right _ (by omega)
      have hrest : rest = rest.take (m * T.sz) ++ rest.drop (m * T.sz) := (List.take_append_drop _ rest).symm
      rw [hrest, ← List.append_assoc] at s
      simp only [yafj, yaaj, Nat.zero_add]
      refine s.storesV (T.cells ys) (n * T.sz) (T.cells xs) (rest.take (m * T.sz)) (rest.drop (m * T.sz)) (T.cells_sc ys) (by rw [T.cells_len, hl]) (by rw [List.length_take, hcell]; omega) fun h' s' => ?_
      refine hk _ c h' _ ⟨by simp; omega, .inr ⟨b, rest.drop (m * T.sz), rfl, by omega, ?_, rfl⟩⟩ ?_
      · rw [List.length_drop, hr, ← Nat.sub_mul]; congr 1; omega
      · rwa [T.cells_append]
  · have hncap := yajs n c (n + m) hlt
    have hbt' : yafl P T.e = i0.bytes := by unfold yafl; rw [hi]
    have hrx := a.rd s
    refine ⟨⟨?_, by omega⟩, T.cells xs, by rw [T.cells_len, a.len], hrx.readsL, ?_⟩
    · rw [hbt']
      have h1 : Builtin.nextslicecap (n + m) c * i0.bytes ≤ (2 * (n + m)) * 1024 := Nat.mul_le_mul hncap hbt
      omega
    · unfold zeroV
      rw [hi]
      simp only [hz]
      intro c' hc'
      refine s.drop.new fun b h' _ s' => ?_
      refine hk _ c' h' _ ⟨by have := a.len; simp; omega, .inr ⟨b, repL ((c' - (n + m)) * z.cells.size) z.cells.toList, rfl, hc', by rw [yagc, hzs], rfl⟩⟩ ?_
      rw [T.cells_append]
      exact s'
theorem yauz {P : Program} {t : TypeId} {e' : TypeId} {h0 h : Hp} {p : Option Addr} {n c : Nat} {xs : List α} {x : α} {cs : List Value} {A F : Bag} {k : Option Addr → Nat → Nat → Hp → Prop}
    (ok : ElOk T P t) (s : St h0 h (A + F)) (a : Sl T p n c xs A) (hx : cs = T.enc x) (he : e' = T.e) (hn : n + 1 < 1073741824)
    (hk : ∀ p' c' h' A', Sl T p' (n + 1) c' (xs ++ [x]) A' → St h0 h' (A' + F) → k p' (n + 1) c' h') :
    New h (.cells cs.toArray e') fun b h1 => yaan P t t (.slice p n c) (.slice (some ⟨b, 0, none⟩) 1 1) h1 (slK k) := by
  subst he
  refine s.new fun b h1 _ s1 => ?_
  have sx : Sl T (some ⟨b, 0, none⟩) 1 1 [x] (cA b cs T.e) := Sl.of_blk rfl (by rw [hx, T.cells_one])
  have s2 : St h0 h1 (A + (cA b cs T.e + F)) := s1.to
  refine yaat ok s2 a (sx.rd s1) hn fun p' c' h' A' a' s' => hk p' c' h' A' a' (s'.to (B := cA b cs T.e + (A' + F))).drop
theorem Sl.wr {h0 h : Hp} {p : Option Addr} {n c i j : Nat} {xs : List α} {A F : Bag} {v : Value} {x : α} {k : Hp → Prop} (a : Sl T p n c xs A) (s : St h0 h (A + F)) (hi : i < n) (hj : j < T.sz) (hx : T.enc x = (T.enc (xs.getD i T.d)).set j v)
    (hk : ∀ h' A', Sl T p n c (xs.set i x) A' → St h0 h' (A' + F) → k h') : ∃ ad, p = some ad ∧ Wr h ((ad.add (i * T.sz)).add j) v k := by
  rcases a with ⟨hl, ⟨rfl, rfl, rfl, rfl⟩ | ⟨b, rest, rfl, hc, hr, rfl⟩⟩
  · omega
  · refine ⟨_, rfl, ?_⟩
    have hlt : i * T.sz + j < (T.cells xs).length := by
      rw [T.cells_len, hl]
      calc i * T.sz + j < i * T.sz + T.sz := by omega
        _ = (i + 1) * T.sz := by rw [Nat.add_mul, Nat.one_mul]
        _ ≤ n * T.sz := Nat.mul_le_mul_right _ hi
    refine s.wr (o := i * T.sz + j) (by rw [yaaj, yaaj, Nat.zero_add]) (by rw [List.length_append]; omega) fun h' s' => ?_
    refine hk h' _ ⟨by simp [hl], .inr ⟨b, rest, rfl, hc, hr, rfl⟩⟩ ?_
    have e1 : T.cells (xs.set i x) ++ rest = (T.cells xs ++ rest).set (i * T.sz + j) v := by
      rw [List.set_append_left _ _ hlt]
      congr 1
      have hil : i < xs.length := by omega
      have ed : xs.getD i T.d = xs[i] := by simp [List.getD, hil]
      have e2 : xs = xs.take i ++ (xs[i] :: xs.drop (i + 1)) := by rw [← List.drop_eq_getElem_cons hil, List.take_append_drop]
      have hl2 : (T.cells (xs.take i)).length = i * T.sz := by rw [T.cells_len, List.length_take, Nat.min_eq_left (by omega)]
      have e3 : xs.set i x = xs.take i ++ (x :: xs.drop (i + 1)) := by
        rw [List.set_eq_take_append_cons_drop, if_pos hil]
      rw [e3, T.cells_append, T.cells_cons, hx, ed]
      conv => rhs; rw [e2]
      rw [T.cells_append, T.cells_cons, List.set_append_right _ _ (by omega), hl2, Nat.add_sub_cancel_left, List.set_append_left _ _ (by rw [T.len]; exact hj)]
    rw [e1]
    exact s'
end
end Go.Sx
/- Separation, second part: copy, clear, make, append that fits; slices of one-cell elements. -/
namespace Go.Sx
open Go
section
variable {α : Type} {T : Ty α}
theorem yabr {P : Program} {t : TypeId} {h0 h : Hp} {b o n c1 m c2 j : Nat} {e : TypeId} {q : Option Addr} {pre mid rest : List Value} {ys : List α} {F : Bag} {K : Value → Hp → Prop}
    (ok : ElOk T P t) (s : St h0 h (cA b (pre ++ mid ++ rest) e + F)) (r : RdT T h q j ys) (ho : pre.length = o) (hj : j = min m n) (hm : mid.length = j * T.sz)
    (hk : ∀ v h', St h0 h' (cA b (pre ++ T.cells ys ++ rest) e + F) → K v h') :
    copyV P t (.slice (some ⟨b, o, none⟩) n c1) (.slice q m c2) h K := by
  unfold copyV
  rw [ok.el]
  have hc : (T.cells ys).length = j * T.sz := by rw [T.cells_len, r.len]
  refine ⟨T.cells ys, by rw [hc, hj], r.readsL, ?_⟩
  show yadr ((⟨b, o, none⟩ : Addr).add 0) _ _ 0 h
  rw [yaaj]
  exact s.storesV _ o pre mid rest (T.cells_sc _) ho (by rw [hm, hc]) fun h' s' => hk _ h' s'
theorem yaoc (n : Nat) (zs : List Value) (hz : zs ≠ []) (hs : ∀ v ∈ zs, yafo v = true) : ∀ v ∈ repL n zs, yafo v = true := by
  intro v hv
  unfold repL at hv
  obtain ⟨i, _, rfl⟩ := List.mem_map.1 hv
  have hp : 0 < zs.length := List.length_pos_iff.2 hz
  have h1 : i % zs.length < zs.length := Nat.mod_lt _ hp
  rw [yacp, List.getElem?_eq_getElem h1]
  exact hs _ (List.getElem_mem h1)
theorem yabv {P : Program} {t t2 : TypeId} {h0 h : Hp} {p : Option Addr} {n c : Nat} {l : Int} {xs : List α} {F : Bag} {k : Option Addr → Nat → Nat → Hp → Prop}
    (ok : ElOk T P t) (ht2 : yahd P t2 = false) (hk2 : (yaek P t2).isSome = true) (s : St h0 h F)
    (r : RdT T h p n xs) (hn : n + l.toNat < 1073741824) (hl0 : 0 ≤ l) (hc : c < n + l.toNat)
    (hk : ∀ b c' h' mid rest, n + l.toNat ≤ c' → mid.length = l.toNat * T.sz → rest.length = (c' - (n + l.toNat)) * T.sz → St h0 h' (cA b (T.cells xs ++ mid ++ rest) T.e + F) → k (some ⟨b, 0, none⟩) (n + l.toNat) c' h') :
    yaan P t t2 (.slice p n c) (.int .i64 l) h (slK k) := by
  obtain ⟨i0, z, hi, hz, hzs, hzc, hbt⟩ := ok.info
  have hbe : yafl P T.e = i0.bytes := by unfold yafl; rw [hi]
  unfold yaan
  rw [ok.el, ht2]
  have hb1 : l * (i0.bytes : Int) ≤ l * 1024 := Int.mul_le_mul_of_nonneg_left (by omega) hl0
  refine ⟨⟨hl0, by omega, by rw [hbe]; omega, Nat.ne_of_gt T.pos, hk2⟩, ?_⟩
  unfold zeroV
  rw [hi]
  simp only [hz]
  refine ⟨fun hle => by omega, fun _ => ⟨⟨?_, by omega⟩, T.cells xs, by rw [T.cells_len, r.len], r.readsL, fun c' hc' => ?_⟩⟩
  · have h1 : Builtin.nextslicecap (n + l.toNat) c * i0.bytes ≤ 2 * (n + l.toNat) * 1024 := Nat.mul_le_mul (yajs n c _ hc) hbt
    rw [hbe]
    omega
  · refine s.new fun b h' _ s' => hk b c' h' _ _ hc' ?_ ?_ s'
    · rw [yagc, hzs]
    · rw [yagc, hzs]
theorem yacr {P : Program} {t : TypeId} {h0 h : Hp} {b n c m c2 : Nat} {e : TypeId} {q : Option Addr} {pre mid rest : List Value} {ys : List α} {F : Bag} {k : Option Addr → Nat → Nat → Hp → Prop}
    (ok : ElOk T P t) (s : St h0 h (cA b (pre ++ mid ++ rest) e + F)) (hp : pre.length = n * T.sz) (hm : mid.length = m * T.sz) (r : RdT T h q m ys) (hc : n + m ≤ c)
    (hk : ∀ h', St h0 h' (cA b (pre ++ T.cells ys ++ rest) e + F) → k (some ⟨b, 0, none⟩) (n + m) c h') :
    yaan P t t (.slice (some ⟨b, 0, none⟩) n c) (.slice q m c2) h (slK k) := by
  unfold yaan
  rw [ok.el, ok.ni]
  have hcl : (T.cells ys).length = m * T.sz := by rw [T.cells_len, r.len]
  refine ⟨T.cells ys, hcl, r.readsL, fun _ => ?_, fun hlt => by omega⟩
  simp only [yafj, yaaj, Nat.zero_add]
  exact s.storesV _ (n * T.sz) pre mid rest (T.cells_sc _) hp (by rw [hm, hcl]) hk
theorem yaie {P : Program} {t : TypeId} {h0 h : Hp} {b o n c : Nat} {e : TypeId} {pre mid rest : List Value} {F : Bag} {k : Hp → Prop}
    (ok : ElOk T P t) (s : St h0 h (cA b (pre ++ mid ++ rest) e + F)) (hp : pre.length = o) (hm : mid.length = n * T.sz)
    (hk : ∀ h' zs, zs.length = n * T.sz → St h0 h' (cA b (pre ++ zs ++ rest) e + F) → k h') :
    yahr P t (.slice (some ⟨b, o, none⟩) n c) h k := by
  obtain ⟨i0, z, hi, hz, hzs, hzc, hbt⟩ := ok.info
  unfold yahr zeroV
  rw [ok.el]
  simp only [hi, hz, yafj, yaaj, Nat.add_zero]
  have hne : z.cells.toList ≠ [] := by
    intro h1
    have h2 : z.cells.size = 0 := by rw [← Array.length_toList, h1]; rfl
    have := T.pos
    omega
  refine s.storesV _ o pre mid rest (yaoc _ _ hne hzc) hp (by rw [hm, yagc, hzs]) fun h' s' => hk h' _ (by rw [yagc, hzs]) s'
theorem RdT.idx {h : Hp} {p : Option Addr} {n : Nat} {xs : List α} {i : Int} {Q : Addr → Prop} (r : RdT T h p n xs) (h0 : 0 ≤ i) (h1 : i < n)
    (hq : ∀ a, p = some a → (∀ j, j < T.sz → cell h ((a.add (i.toNat * T.sz)).add j) = (T.enc (xs.getD i.toNat T.d))[j]?) → Q a) : (0 ≤ i ∧ i < (n : Int)) ∧ NN p Q := by
  refine ⟨⟨h0, h1⟩, ?_⟩
  obtain ⟨a, rfl, hc⟩ := r.at_ (i := i.toNat) (by omega)
  exact hq a rfl hc
theorem Sl.wrI {h0 h : Hp} {p : Option Addr} {n c : Nat} {i : Int} {xs : List α} {A F : Bag} {v : Value} {x : α} {k : Hp → Prop} (a : Sl T p n c xs A) (s : St h0 h (A + F)) (h1 : 0 ≤ i) (hi : i < n) (hsz : T.sz = 1) (hx : T.enc x = [v])
    (hk : ∀ h' A', Sl T p n c (xs.set i.toNat x) A' → St h0 h' (A' + F) → k h') : (0 ≤ i ∧ i < (n : Int)) ∧ NN p fun ad => Wr h (ad.add (i.toNat * 1)) v k := by
  refine ⟨⟨h1, hi⟩, ?_⟩
  obtain ⟨w, hw⟩ : ∃ w, T.enc (xs.getD i.toNat T.d) = [w] := List.length_eq_one_iff.1 (by rw [T.len, hsz])
  obtain ⟨ad, rfl, hwr⟩ := a.wr (i := i.toNat) (j := 0) s (by omega) (by omega) (x := x) (v := v) (by rw [hx, hw]; rfl) hk
  rw [hsz] at hwr
  exact hwr
end
abbrev tI (e : TypeId) : Ty Int := ⟨e, 1, fun z => [.int .i64 z], 0, fun _ => rfl, by decide, fun _ v hv => by simp at hv; subst hv; rfl⟩
abbrev tP (e : TypeId) : Ty Nat := ⟨e, 1, fun b => [.pointer (some ⟨b, 0, none⟩)], 0, fun _ => rfl, by decide, fun _ v hv => by simp at hv; subst hv; rfl⟩
abbrev tPP (e : TypeId) : Ty (Int × Int) := ⟨e, 2, fun z => [.int .i64 z.1, .int .i64 z.2], (0, 0), fun _ => rfl, by decide, fun _ v hv => by simp at hv; rcases hv with rfl | rfl <;> rfl⟩
theorem yapk (e : TypeId) (zs : List Int) : (tI e).cells zs = zs.map (Value.int .i64) := by
  induction zs with
  | nil => rfl
  | cons z r ih => rw [Ty.cells_cons, ih]; rfl
theorem RdT.ints {e : TypeId} {h : Hp} {p : Option Addr} {n : Nat} {zs : List Int} (r : RdT (tI e) h p n zs) : Rd h p n (zs.map (Value.int .i64)) := by
  have := r.rd
  rw [yapk] at this
  rwa [show n * (tI e).sz = n from Nat.mul_one n] at this
theorem RdT.int {e : TypeId} {h : Hp} {p : Option Addr} {n : Nat} {zs : List Int} {i : Int} {Q : Int → Prop} (r : RdT (tI e) h p n zs) (h0 : 0 ≤ i) (h1 : i < n) (hq : Q (zs.getD i.toNat 0)) :
    (0 ≤ i ∧ i < (n : Int)) ∧ NN p fun a => ∃ x, cell h (a.add (i.toNat * 1)) = some (.int .i64 x) ∧ Q x := yamq r.ints h0 h1 hq
theorem RdT.ptr {e : TypeId} {h : Hp} {p : Option Addr} {n : Nat} {zs : List Nat} {i : Int} {Q : Option Addr → Prop} (r : RdT (tP e) h p n zs) (h0 : 0 ≤ i) (h1 : i < n) (hq : Q (some ⟨zs.getD i.toNat 0, 0, none⟩)) :
    (0 ≤ i ∧ i < (n : Int)) ∧ NN p fun a => ∃ x : Option Addr, cell h (a.add (i.toNat * 1)) = some (.pointer x) ∧ Q x :=
  r.idx h0 h1 fun _ _ hc => ⟨_, hc 0 Nat.one_pos, hq⟩
open Go
theorem St.atomBlk {h0 h : Hp} {b b' : Nat} {cs cs' : List Value} {e e' : TypeId} {F : Bag} (s : St h0 h (cA b cs e + (cA b' cs' e' + F))) : Blk h b' cs' e' := (s.to (B := cA b' cs' e' + (cA b cs e + F))).blk
theorem Sl.one {α : Type} {T : Ty α} {b : Nat} {x : α} {cs : List Value} (hx : cs = T.enc x) : Sl T (some ⟨b, 0, none⟩) 1 1 [x] (cA b cs T.e) := Sl.of_blk rfl (by rw [hx, T.cells_one])
theorem yadf {P : Program} {g : Nat} {ps rs : Array TypeId} {h0 h : Hp} {t e : TypeId} {i0 : TypeInfo} {b1 o1 b2 o2 : Nat} {la ca lb cb : Nat} {xs ys : List Value} {e1 e2 : TypeId} {F : Bag} {K : Value → Prop}
    (hx : IsExt P g (Extern.SlicesOverlaps.overlaps ps rs)) (hp : ps[0]? = some t) (ht : P.underlying t = some (.slice e)) (hi : P.info? e = some i0)
    (s : St h0 h (cA b1 xs e1 + (cA b2 ys e2 + F))) (hk : K (.bool false)) : yaeq P g #[.slice (some ⟨b1, o1, none⟩) la ca, .slice (some ⟨b2, o2, none⟩) lb cb] h K :=
  yanq hx hp ht hi s.ne s.blk s.atomBlk hk
open Go
theorem yaty {P : Program} {t e : TypeId} {sz : Nat} {h : Hp} {p : Option Addr} {n c i j m : Nat} {K : Option Addr → Nat → Nat → Prop} (he : elemT P t = some (e, sz)) (h1 : i ≤ j) (h2 : j ≤ m) (h3 : m ≤ c)
    (hk : ∀ a, K a (j - i) (m - i)) : ∃ (a : Option Addr) (l c' : Nat), slC P t (.slice p n c) (some (.int .i64 i)) (some (.int .i64 j)) (.int .i64 m) h a l c' ∧ K a l c' := by
  obtain ⟨hu, inf, hinf, hsz⟩ := yabt he
  refine ⟨_, _, _, ?_, hk (if m = i then p else p.map (·.add (i * inf.size)))⟩
  unfold slC
  simp only [Instr.sliceAt, yaai, yaao, hu, Instr.slice, Instr.sliceBounds, Option.isSome_some, if_true]
  have b1 : ∀ {y : Nat} {cd : BoundsCode} {x : Nat} {Q : Nat → Prop}, x ≤ y → Q x → hq P (Instr.sliceBound (.int .i64 (x : Int)) y cd) h Q := fun hxy hq => yafy ⟨by omega, by omega⟩ (by rw [Int.toNat_natCast]; exact hq)
  refine b1 h3 ?_
  refine b1 h2 ?_
  refine b1 h1 ?_
  simp only [yaaq, yabn, hinf]
open Go
open Go
theorem RdT.again {e : TypeId} {h : Hp} {p : Option Addr} {n : Nat} {zs : List Int} {i : Nat} {a : Addr} {z : Int} (r : RdT (tI e) h p n zs) (ha : p = some a) (hi : i < n) (hz : zs.getD i 0 = z) :
    ∃ m, cell h (a.add (i * 1)) = some (.int .i64 m) ∧ (.int .i64 m : Value) = .int .i64 z := by
  obtain ⟨a', ha', hc⟩ := r.at_ hi
  rw [ha] at ha'
  cases ha'
  exact ⟨_, hc 0 Nat.one_pos, by rw [← hz]⟩
end Go.Sx
/- Lists of things that own blocks. -/
namespace Go.Sx
open Go
def AllH {α β : Type} (P : β → α → Bag → Prop) : List β → List α → Bag → Prop
  | [], [], A => A = 0
  | b :: bs, t :: ts, A => ∃ A1 A2, A = A1 + A2 ∧ P b t A1 ∧ AllH P bs ts A2
  | _, _, _ => False
section
variable {α β : Type} {P : β → α → Bag → Prop}
theorem AllH.len : ∀ {bs : List β} {ts : List α} {A : Bag}, AllH P bs ts A → bs.length = ts.length
  | [], [], _, _ => rfl
  | [], _ :: _, _, h => h.elim
  | _ :: _, [], _, h => h.elim
  | _ :: bs, _ :: ts, _, ⟨_, _, _, _, h⟩ => by simp [AllH.len h]
theorem AllH.append : ∀ {bs : List β} {ts : List α} {A : Bag} {bs' : List β} {ts' : List α} {A' : Bag}, AllH P bs ts A → AllH P bs' ts' A' → AllH P (bs ++ bs') (ts ++ ts') (A + A')
  | [], [], _, _, _, A', h, h' => by
    obtain rfl : _ = (0 : Bag) := h
    rw [Bag.yaxj]; exact h'
  | [], _ :: _, _, _, _, _, h, _ => h.elim
  | _ :: _, [], _, _, _, _, h, _ => h.elim
  | _ :: _, _ :: _, _, _, _, _, ⟨A1, A2, e, h1, h2⟩, h' => ⟨A1, _, by rw [e, Bag.assoc], h1, AllH.append h2 h'⟩
theorem AllH.split : ∀ (bs : List β) (ts : List α) {A : Bag} {bs' : List β} {ts' : List α}, bs.length = ts.length → AllH P (bs ++ bs') (ts ++ ts') A → ∃ A1 A2, A = A1 + A2 ∧ AllH P bs ts A1 ∧ AllH P bs' ts' A2
  | [], [], A, _, _, _, h => ⟨0, A, (Bag.yaxj A).symm, rfl, h⟩
  | [], _ :: _, _, _, _, hl, _ => by simp at hl
  | _ :: _, [], _, _, _, hl, _ => by simp at hl
  | _ :: bs, _ :: ts, _, _, _, hl, ⟨A1, A2, e, h1, h2⟩ => by
    obtain ⟨B1, B2, e2, k1, k2⟩ := AllH.split bs ts (by simpa using hl) h2
    exact ⟨A1 + B1, B2, by rw [e, e2, Bag.assoc], ⟨A1, B1, rfl, h1, k1⟩, k2⟩
theorem AllH.one {b : β} {t : α} {A : Bag} (h : P b t A) : AllH P [b] [t] A := ⟨A, 0, (Bag.yaqx A).symm, h, rfl⟩
theorem AllH.mono {Q : β → α → Bag → Prop} (hm : ∀ b t A, P b t A → Q b t A) : ∀ {bs : List β} {ts : List α} {A : Bag}, AllH P bs ts A → AllH Q bs ts A
  | [], [], _, h => h
  | [], _ :: _, _, h => h.elim
  | _ :: _, [], _, h => h.elim
  | _ :: _, _ :: _, _, ⟨A1, A2, e, h1, h2⟩ => ⟨A1, A2, e, hm _ _ _ h1, AllH.mono hm h2⟩
end
section
variable {α β : Type} {P : β → α → Bag → Prop}
theorem AllH.pick {d : α} {d' : β} : ∀ {bs : List β} {ts : List α} {A : Bag} {i : Nat}, AllH P bs ts A → i < bs.length → ∃ Ai B, A = Ai + B ∧ P (bs.getD i d') (ts.getD i d) Ai
  | [], _, _, _, _, h => by simp at h
  | _ :: _, [], _, _, h, _ => h.elim
  | b :: bs, t :: ts, _, 0, ⟨A1, A2, e, h1, _⟩, _ => ⟨A1, A2, e, h1⟩
  | b :: bs, t :: ts, _, i + 1, ⟨A1, A2, e, _, h2⟩, hi => by
    obtain ⟨Ai, B, e2, h3⟩ := AllH.pick (d := d) (d' := d') h2 (i := i) (by simpa using hi)
    exact ⟨Ai, A1 + B, by rw [e, e2]; ac_rfl, by simpa using h3⟩
end
abbrev SH := Option Addr × Nat × Nat
abbrev tS (e : TypeId) : Ty SH := ⟨e, 1, fun s => [.slice s.1 s.2.1 s.2.2], (none, 0, 0), fun _ => rfl, by decide, fun _ v hv => by simp at hv; subst hv; rfl⟩
def Nest {α : Type} (e : TypeId) (P : SH → α → Bag → Prop) (s : SH) (xs : List α) (B : Bag) : Prop :=
  ∃ hs B0 B1, B = B0 + B1 ∧ Sl (tS e) s.1 s.2.1 s.2.2 hs B0 ∧ AllH P hs xs B1
theorem Nest.nil {α : Type} {e : TypeId} {P : SH → α → Bag → Prop} : Nest e P (none, 0, 0) [] 0 := ⟨[], 0, 0, (Bag.yaqx 0).symm, Sl.nil, rfl⟩
theorem Nest.len {α : Type} {e : TypeId} {P : SH → α → Bag → Prop} {s : SH} {xs : List α} {B : Bag} (n : Nest e P s xs B) : xs.length = s.2.1 := by
  obtain ⟨hs, B0, B1, _, h1, h2⟩ := n
  rw [← h2.len, h1.len]
theorem Nest.at_ {α : Type} {e : TypeId} {P : SH → α → Bag → Prop} {s : SH} {xs : List α} {B G : Bag} {h0 h : Hp} {i : Int} {d : α} {Q : Option Addr → Nat → Nat → Prop} (n : Nest e P s xs B) (st : St h0 h (B + G)) (hi0 : 0 ≤ i) (hi : i < s.2.1)
    (hq : ∀ p l c Bi Br, P (p, l, c) (xs.getD i.toNat d) Bi → B = Bi + Br → Q p l c) :
    (0 ≤ i ∧ i < (s.2.1 : Int)) ∧ NN s.1 fun a => ∃ (p : Option Addr) (l c : Nat), cell h (a.add (i.toNat * 1)) = some (.slice p l c) ∧ Q p l c := by
  obtain ⟨hs, B0, B1, rfl, h1, h2⟩ := n
  have r := h1.rd (st.to (B := B0 + (B1 + G)))
  refine r.idx hi0 hi fun a _ hc => ?_
  have hl := h1.len
  obtain ⟨Bi, Br, hB, hp⟩ := h2.pick (d := d) (d' := (none, 0, 0)) (i := i.toNat) (by omega)
  exact ⟨_, _, _, hc 0 Nat.one_pos, hq _ _ _ Bi (B0 + Br) hp (by rw [hB]; ac_rfl)⟩
end Go.Sx
/- Equality of structs and arrays whose parts are numbers, bools or strings. -/
namespace Go.Sx
open Go
section
variable {P : Program}
end
end Go.Sx
/- Plain lists: a queue of priorities whose operations stand at times. -/
namespace Go.Sx
abbrev Ev := Int × Int × Bool
abbrev El := Int × Int
abbrev evD : Ev := (0, 0, false)
abbrev LtE (a b : El) : Prop := a.1 < b.1 ∨ (a.1 = b.1 ∧ a.2 < b.2)
def lowE (x : El) (l : List El) : List El := l.takeWhile fun e => decide (LtE e x)
def upE (x : El) (l : List El) : List El := l.dropWhile fun e => decide (LtE e x)
def insE (x : El) (l : List El) : List El := lowE x l ++ x :: upE x l
def stepN (now : List El) (i : Nat) (a : Ev) : Option (List El) :=
  if a.2.2 = true then (match now with | [] => none | _ :: t => some t) else some (insE (a.2.1, (i : Int)) now)
def nowAt (l : List Ev) : Nat → Option (List El)
  | 0 => some []
  | i + 1 => (nowAt l i).bind fun now => stepN now i (l.getD i evD)
def nowD (l : List Ev) (i : Nat) : List El := (nowAt l i).getD []
abbrev SrtE (l : List El) : Prop := l.Pairwise LtE
theorem yanc {a b c : El} (h1 : LtE a b) (h2 : LtE b c) : LtE a c := by unfold LtE at *; omega
theorem ybag {a : El} : ¬ LtE a a := by unfold LtE; omega
theorem yban {a b : El} (h : ¬ LtE a b) (hne : a ≠ b) : LtE b a := by
  unfold LtE at *
  have : ¬ (a.1 = b.1 ∧ a.2 = b.2) := fun ⟨h1, h2⟩ => hne (Prod.ext h1 h2)
  omega
theorem yaqk {x : El} {l : List El} : ∀ e ∈ lowE x l, LtE e x := fun e he => of_decide_eq_true (List.all_eq_true.1 List.all_takeWhile e he)
theorem yaju {x : El} {l : List El} : l = lowE x l ++ upE x l := (List.takeWhile_append_dropWhile).symm
theorem yaxw {x : El} {l : List El} : (lowE x l).length ≤ l.length := by
  have := congrArg List.length (yaju (x := x) (l := l)); rw [List.length_append] at this; omega
theorem yabq {α : Type} {xs X Y : List α} (h : xs = X ++ Y) : xs.take X.length = X ∧ xs.drop X.length = Y := by subst h; exact ⟨List.take_left' rfl, List.drop_left' rfl⟩
theorem yaso {x : El} {l : List El} : l.take (lowE x l).length = lowE x l := (yabq yaju).1
theorem yaqw {x : El} {l : List El} : l.drop (lowE x l).length = upE x l := (yabq yaju).2
theorem yazv {x : El} {l : List El} (hs : SrtE l) : ∀ e ∈ upE x l, ¬ LtE e x := by
  have hu : SrtE (upE x l) := hs.sublist (List.dropWhile_sublist _)
  intro e he
  cases hc : upE x l with
  | nil => rw [hc] at he; cases he
  | cons y ys =>
    have hy : ¬ LtE y x := by
      have := List.head?_dropWhile_not (fun e => decide (LtE e x)) l
      rw [show l.dropWhile (fun e => decide (LtE e x)) = y :: ys from hc] at this
      simpa using this
    rw [hc] at he hu
    rcases List.mem_cons.1 he with rfl | h
    · exact hy
    · exact fun h1 => hy (yanc ((List.pairwise_cons.1 hu).1 e h) h1)
theorem yand {x : El} {l : List El} : (insE x l).Perm (x :: l) := by
  unfold insE
  refine List.perm_middle.trans (.cons _ ?_)
  rw [← yaju]
theorem yall {x e : El} {l : List El} : e ∈ insE x l ↔ e = x ∨ e ∈ l := by rw [yand.mem_iff, List.mem_cons]
theorem yawq {x : El} {l : List El} (hs : SrtE l) (hx : x ∉ l) : SrtE (insE x l) := by
  have hl : SrtE (lowE x l) := hs.sublist (List.takeWhile_sublist _)
  have hu : SrtE (upE x l) := hs.sublist (List.dropWhile_sublist _)
  have hxu : ∀ e ∈ upE x l, LtE x e := fun e he => yban (yazv hs e he) (fun h => hx (by rw [← h]; exact (List.dropWhile_sublist _).mem he))
  refine List.pairwise_append.2 ⟨hl, List.pairwise_cons.2 ⟨hxu, hu⟩, fun a ha b hb => ?_⟩
  rcases List.mem_cons.1 hb with rfl | hb
  · exact yaqk a ha
  · exact yanc (yaqk a ha) (hxu b hb)
theorem yasd {x : El} {l : List El} : (insE x l).length = l.length + 1 := yand.length_eq
theorem yacs {l : List Ev} : ∀ {i : Nat} {now : List El}, nowAt l i = some now → SrtE now ∧ now.length ≤ i ∧ ∀ e ∈ now, (0 ≤ e.2 ∧ e.2 < i) ∧ (l.getD e.2.toNat evD).2.1 = e.1
  | 0, now, h => by cases h; exact ⟨.nil, Nat.le_refl 0, fun e he => nomatch he⟩
  | i + 1, now, h => by
    unfold nowAt at h
    cases h1 : nowAt l i with
    | none => rw [h1] at h; cases h
    | some prev =>
      rw [h1] at h
      obtain ⟨s1, s2, s3⟩ := yacs h1
      change stepN prev i (l.getD i evD) = some now at h
      unfold stepN at h
      split at h
      · cases prev with
        | nil => cases h
        | cons p ps =>
          cases h
          refine ⟨(List.pairwise_cons.1 s1).2, by simp at s2; omega, fun e he => ?_⟩
          have := s3 e (List.mem_cons_of_mem _ he)
          exact ⟨⟨this.1.1, by omega⟩, this.2⟩
      · cases h
        refine ⟨yawq s1 (fun hm => by have := (s3 _ hm).1.2; simp at this), by rw [yasd]; omega, fun e he => ?_⟩
        rcases yall.1 he with rfl | he
        · exact ⟨⟨by simp only; omega, by simp only; omega⟩, by simp only [Int.toNat_natCast]⟩
        · have := s3 e he
          exact ⟨⟨this.1.1, by omega⟩, this.2⟩
theorem yajg {l : List El} (h : SrtE l) : l.Nodup := List.Pairwise.imp (fun {a b} (h1 : LtE a b) (he : a = b) => ybag (a := b) (by rw [he] at h1; exact h1)) h
theorem yahy {l : List Ev} {i j : Nat} (h : i ≤ j) {now : List El} (hn : nowAt l j = some now) : ∃ prev, nowAt l i = some prev := by
  induction j generalizing now with
  | zero => obtain rfl : i = 0 := by omega
            exact ⟨_, hn⟩
  | succ j ih =>
    rcases Nat.lt_or_ge i (j + 1) with h1 | h1
    · unfold nowAt at hn
      cases h2 : nowAt l j with
      | none => rw [h2] at hn; cases hn
      | some prev => exact ih (by omega) h2
    · obtain rfl : i = j + 1 := by omega
      exact ⟨_, hn⟩
theorem yaul {l : List Ev} {i j : Nat} (h : i ≤ j) {prev now : List El} (hp : nowAt l i = some prev) (hn : nowAt l j = some now) {e : El} (he : e ∈ now) (hi : e.2 < i) : e ∈ prev := by
  induction j generalizing now with
  | zero =>
    obtain rfl : i = 0 := by omega
    rw [hp] at hn; cases hn; exact he
  | succ j ih =>
    rcases Nat.lt_or_ge i (j + 1) with h1 | h1
    · unfold nowAt at hn
      cases h2 : nowAt l j with
      | none => rw [h2] at hn; cases hn
      | some mid =>
        rw [h2] at hn
        change stepN mid j (l.getD j evD) = some now at hn
        unfold stepN at hn
        split at hn
        · cases mid with
          | nil => cases hn
          | cons p ps => cases hn; exact ih (by omega) h2 (List.mem_cons_of_mem _ he)
        · cases hn
          rcases yall.1 he with rfl | he
          · simp at hi; omega
          · exact ih (by omega) h2 he
    · obtain rfl : i = j + 1 := by omega
      rw [hp] at hn; cases hn; exact he
def psum (o : List Int) (i : Nat) : Int := (o.take (i + 1)).sum
theorem yauo : ∀ {o : List Int} {a n : Nat} {v : Int}, a < o.length → ((o.set a v).take n).sum = (o.take n).sum + (if a < n then v - o.getD a 0 else 0)
  | [], _, _, _, h => by simp at h
  | x :: xs, 0, 0, v, _ => by simp
  | x :: xs, 0, n + 1, v, _ => by simp; omega
  | x :: xs, a + 1, 0, v, _ => by simp
  | x :: xs, a + 1, n + 1, v, h => by
    have ih := yauo (o := xs) (a := a) (n := n) (v := v) (by simpa using h)
    simp only [List.set_cons_succ, List.take_succ_cons, List.sum_cons, ih, List.getD_cons_succ]
    split <;> split <;> omega
theorem yapu {o : List Int} {a i : Nat} {v : Int} (ha : a < o.length) : psum (o.set a v) i = psum o i + (if a ≤ i then v - o.getD a 0 else 0) := by
  unfold psum
  rw [yauo ha]
  congr 1
  split <;> split <;> first | rfl | omega
def gone (a b : List El) : Nat := (a.filter fun e => decide (e ∉ b)).length
theorem yaex {a : List El} : gone a a = 0 := by
  unfold gone
  rw [List.length_eq_zero_iff, List.filter_eq_nil_iff]
  intro e he; simpa using he
theorem yami {a b : List El} : gone a b = 0 ↔ ∀ e ∈ a, e ∈ b := by
  unfold gone
  rw [List.length_eq_zero_iff, List.filter_eq_nil_iff]
  simp
theorem yayk {a b : List El} : gone a b ≤ a.length := List.length_filter_le _ _
theorem yama : ∀ {a : List El} {e : El} {es : List El}, a.Nodup → (e :: es).Nodup → gone a es = gone a (e :: es) + (if e ∈ a then 1 else 0)
  | [], e, es, _, _ => by simp [gone]
  | x :: a, e, es, ha, he => by
    have ih := yama (a := a) (e := e) (es := es) (List.nodup_cons.1 ha).2 he
    have hx := (List.nodup_cons.1 ha).1
    have hes := (List.nodup_cons.1 he).1
    unfold gone at ih ⊢
    rw [List.filter_cons, List.filter_cons]
    by_cases hxe : x = e
    · subst hxe
      rw [if_pos (by simpa using hes), if_neg (by simp), if_pos List.mem_cons_self, List.length_cons, ih, if_neg hx]
    · by_cases hxs : x ∈ es
      · rw [if_neg (by simpa using hxs), if_neg (by simp [hxs]), ih]
        congr 1
        simp [List.mem_cons, Ne.symm hxe]
      · rw [if_pos (by simpa using hxs), if_pos (by simp [hxs, hxe]), List.length_cons, List.length_cons, ih]
        have : (e ∈ x :: a) ↔ e ∈ a := by simp [List.mem_cons, Ne.symm hxe]
        simp only [this]
        omega
theorem yawh {a b : List El} {x : El} (hx : x ∉ a) : gone a (insE x b) = gone a b := by
  unfold gone
  congr 1
  refine List.filter_congr fun e he => decide_eq_decide.2 ?_
  rw [yall]
  exact ⟨fun h h1 => h (.inr h1), fun h h1 => h1.elim (fun h2 => hx (h2 ▸ he)) h⟩
structure OpenP (l : List Ev) (m : Nat) (o : List Int) : Prop where
  len : o.length = l.length + 1
  bnd : ∀ x ∈ o, -(2 * m : Int) ≤ x ∧ x ≤ 2 * m
  ps : ∀ i, i ≤ l.length → psum o i = gone (nowD l (min (i + 1) m)) (nowD l m)
theorem yarl {l : List Ev} : OpenP l 0 (List.replicate (l.length + 1) 0) := by
  refine ⟨List.length_replicate, fun x hx => by obtain ⟨_, rfl⟩ := List.mem_replicate.1 hx; simp, fun i hi => ?_⟩
  rw [Nat.min_zero, yaex]
  unfold psum
  rw [List.take_replicate]
  induction (min (i + 1) (l.length + 1)) with
  | zero => rfl
  | succ k ih => rw [List.replicate_succ, List.sum_cons, ih]; rfl
theorem yabl {l : List Ev} {i : Nat} {now : List El} (h : nowAt l i = some now) : nowD l i = now := by rw [nowD, h]; rfl
theorem yaua {l : List Ev} {m : Nat} {o : List Int} {now : List El} (_ : m < l.length) (hn : nowAt l m = some now) (hd : (l.getD m evD).2.2 = false) (h : OpenP l m o) : OpenP l (m + 1) o := by
  obtain ⟨h1, h2, h3⟩ := h
  have hs : nowAt l (m + 1) = some (insE ((l.getD m evD).2.1, (m : Int)) now) := by
    unfold nowAt; rw [hn]; change stepN now m _ = _; unfold stepN; rw [hd]; rfl
  refine ⟨h1, fun x hx => by have := h2 x hx; omega, fun i hi => ?_⟩
  rw [h3 i hi]
  rw [yabl hn, yabl hs]
  rcases Nat.lt_or_ge i m with hlt | hge
  · rw [Nat.min_eq_left (by omega), Nat.min_eq_left (by omega)]
    obtain ⟨prev, hp⟩ := yahy (i := i + 1) (by omega) hn
    rw [yabl hp, yawh]
    intro hx
    have := ((yacs hp).2.2 _ hx).1.2
    simp at this; omega
  · rw [Nat.min_eq_right (by omega), Nat.min_eq_right (by omega), yabl hn, yabl hs, yaex, yaex]
theorem yaue {l : List Ev} {m : Nat} {o : List Int} {e : El} {es : List El} (hm : m < l.length) (hn : nowAt l m = some (e :: es)) (hd : (l.getD m evD).2.2 = true) (h : OpenP l m o) :
    OpenP l (m + 1) ((o.set e.2.toNat (o.getD e.2.toNat 0 + 1)).set m ((o.set e.2.toNat (o.getD e.2.toNat 0 + 1)).getD m 0 - 1)) := by
  obtain ⟨h1, h2, h3⟩ := h
  obtain ⟨s1, s2, s3⟩ := yacs hn
  obtain ⟨⟨e0, e1⟩, _⟩ := s3 e List.mem_cons_self
  have hs : nowAt l (m + 1) = some es := by
    unfold nowAt; rw [hn]; change stepN (e :: es) m _ = _; unfold stepN; rw [hd]; rfl
  have ha : e.2.toNat < o.length := by omega
  have hml : m < (o.set e.2.toNat (o.getD e.2.toNat 0 + 1)).length := by rw [List.length_set]; omega
  have mem_getD : ∀ {q : List Int} {j : Nat}, j < q.length → q.getD j 0 ∈ q := fun {q j} hj => by
    rw [List.getD_eq_getElem?_getD, List.getElem?_eq_getElem hj]; exact List.getElem_mem hj
  have b1 : ∀ x ∈ o.set e.2.toNat (o.getD e.2.toNat 0 + 1), -(2 * m : Int) - 1 ≤ x ∧ x ≤ 2 * m + 1 := fun x hx => by
    rcases List.mem_or_eq_of_mem_set hx with h | rfl
    · have := h2 x h; omega
    · have := h2 _ (mem_getD ha); omega
  refine ⟨by rw [List.length_set, List.length_set, h1], fun x hx => ?_, fun i hi => ?_⟩
  · rcases List.mem_or_eq_of_mem_set hx with h | rfl
    · have := b1 x h; omega
    · have := b1 _ (mem_getD hml); omega
  rw [yapu hml, yapu ha, h3 i hi, yabl hn, yabl hs]
  have hnd := yajg s1
  rcases Nat.lt_or_ge i m with hlt | hge
  · rw [Nat.min_eq_left (by omega), Nat.min_eq_left (by omega), if_neg (show ¬ m ≤ i by omega)]
    obtain ⟨prev, hp⟩ := yahy (i := i + 1) (by omega) hn
    rw [yabl hp, yama (yajg (yacs hp).1) hnd]
    by_cases hai : e.2.toNat ≤ i
    · rw [if_pos hai, if_pos (yaul (by omega) hp hn List.mem_cons_self (by omega))]
      push_cast; omega
    · rw [if_neg hai, if_neg (fun hx => by have := ((yacs hp).2.2 _ hx).1.2; omega)]
      push_cast; omega
  · rw [Nat.min_eq_right (by omega), Nat.min_eq_right (by omega), yabl hn, yabl hs, yaex, yaex, if_pos hge, if_pos (show e.2.toNat ≤ i by omega)]
    omega
def brP (l : List Ev) (i : Nat) : List Int := ((List.range i).filter fun j => (nowD l (j + 1)).all fun e => decide (e ∈ nowD l l.length)).map fun j => (l.getD j evD).1
def brS (l : List Ev) : List Int := brP l l.length
theorem yaww {l : List Ev} {i : Nat} : brP l (i + 1) = brP l i ++ (if gone (nowD l (i + 1)) (nowD l l.length) = 0 then [(l.getD i evD).1] else []) := by
  unfold brP
  rw [List.range_succ, List.filter_append, List.map_append]
  congr 1
  rw [List.filter_cons]
  split
  · rename_i h
    rw [List.all_eq_true] at h
    rw [if_pos (yami.2 fun e he => of_decide_eq_true (h e he))]; rfl
  · rename_i h
    rw [List.all_eq_true] at h
    rw [if_neg (fun h1 => h fun e he => decide_eq_true (yami.1 h1 e he))]; rfl
theorem yaur {l : List Ev} {i : Nat} : (brP l i).length ≤ i := by
  unfold brP
  rw [List.length_map]
  exact Nat.le_trans (List.length_filter_le _ _) (by rw [List.length_range]; exact Nat.le_refl _)
abbrev yajn (l : List Ev) : Prop := l.Pairwise fun a b => a.1 < b.1
def lowT (t : Int) (l : List Ev) : Nat := (l.takeWhile fun a => decide (a.1 < t)).length
def hasT (t : Int) (l : List Ev) : Bool := decide (lowT t l < l.length ∧ (l.getD (lowT t l) evD).1 = t)
theorem yatc {α : Type} {l : List α} {i : Nat} {d : α} (h : i < l.length) : l.getD i d ∈ l := by
  rw [List.getD_eq_getElem?_getD, List.getElem?_eq_getElem h]
  exact List.getElem_mem h
theorem yaaf {α : Type} {l : List α} {i : Nat} {d : α} (h : i < l.length) : l.getD i d = l[i] := by
  rw [List.getD_eq_getElem?_getD, List.getElem?_eq_getElem h]; rfl
theorem yatf {l : List Ev} (h : yajn l) {i j : Nat} (hij : i < j) (hj : j < l.length) : (l.getD i evD).1 < (l.getD j evD).1 := by
  rw [yaaf (by omega), yaaf hj]
  exact List.pairwise_iff_getElem.1 h i j (by omega) hj hij
theorem yajx {t : Int} {l : List Ev} (hs : yajn l) : lowT t l ≤ l.length ∧ (∀ j, j < lowT t l → (l.getD j evD).1 < t) ∧ ∀ j, lowT t l ≤ j → j < l.length → t ≤ (l.getD j evD).1 := by
  have e : l.takeWhile (fun a => decide (a.1 < t)) ++ l.dropWhile (fun a => decide (a.1 < t)) = l := List.takeWhile_append_dropWhile
  have hlen := congrArg List.length e
  rw [List.length_append] at hlen
  have hle : lowT t l ≤ l.length := by unfold lowT; omega
  have hlow : ∀ j, j < lowT t l → (l.getD j evD).1 < t := by
    intro j hj
    have hm : l.getD j evD ∈ l.takeWhile (fun a => decide (a.1 < t)) := by
      have : l.getD j evD = (l.takeWhile (fun a => decide (a.1 < t)))[j]'hj := by
        rw [yaaf (by omega)]
        conv => lhs; arg 1; rw [← e]
        rw [List.getElem_append_left hj]
      rw [this]; exact List.getElem_mem hj
    exact of_decide_eq_true (List.all_eq_true.1 (List.all_takeWhile (p := fun a : Ev => decide (a.1 < t)) (l := l)) _ hm)
  refine ⟨hle, hlow, fun j hj hjl => ?_⟩
  have hd : l.drop (lowT t l) = l.dropWhile (fun a => decide (a.1 < t)) := (yabq e.symm).2
  have h0 : t ≤ (l.getD (lowT t l) evD).1 := by
    have h1 := List.head?_dropWhile_not (fun a : Ev => decide (a.1 < t)) l
    rw [← hd, List.drop_eq_getElem_cons (by omega), List.head?_cons] at h1
    rw [yaaf (by omega)]
    simpa using h1
  rcases Nat.lt_or_ge (lowT t l) j with h | h
  · have := yatf hs h hjl; omega
  · obtain rfl : j = lowT t l := by omega
    exact h0
def chgP (l l' : List Ev) : List Ev × Int := if (nowAt l' l'.length).isSome = true then (l', 0) else (l, 14)
abbrev putT (x : Ev) (l : List Ev) : List Ev := l.take (lowT x.1 l) ++ x :: l.drop (lowT x.1 l)
abbrev timeP (t : Int) : Prop := 0 ≤ t ∧ t ≤ 1073741824
abbrev keyQ (k : Int) : Prop := -1048576 ≤ k ∧ k ≤ 1048576
def addP (l : List Ev) (x : Ev) : List Ev × Int := if timeP x.1 then (if hasT x.1 l = true then (l, 15) else if 2000 ≤ l.length then (l, 4) else chgP l (putT x l)) else (l, 2)
def insP (l : List Ev) (t k : Int) : List Ev × Int := if keyQ k then addP l (t, k, false) else (l, 1)
def delP (l : List Ev) (t : Int) : List Ev × Int := addP l (t, 0, true)
structure GoodQ (l : List Ev) : Prop where
  times : yajn l
  len : l.length ≤ 2000
  each : ∀ a ∈ l, timeP a.1 ∧ keyQ a.2.1
  ok : nowAt l l.length = some (nowD l l.length)
theorem yaxi {x : Ev} {l : List Ev} : (putT x l).length = l.length + 1 := by
  simp only [List.length_append, List.length_cons, List.length_take, List.length_drop]; omega
def kt (l : List Ev) (t : Int) : El := ((l.getD (lowT t l) evD).2.1, t)
end Go.Sx
/- Elements of three cells: operations of a queue. -/
namespace Go.Sx
open Go
abbrev tEv (e : TypeId) : Ty Ev := ⟨e, 3, fun z => [.int .i64 z.1, .int .i64 z.2.1, .bool z.2.2], (0, 0, false), fun _ => rfl, by decide, fun _ v hv => by simp at hv; rcases hv with rfl | rfl | rfl <;> rfl⟩
end Go.Sx
/- Calls of a function value; keys. -/
namespace Go.Proofs.YtdlkohenamlnaaaGreat
open Go Go.Sx
theorem yacw {P : Program} {F : Nat → Bool} {g : Nat} {args : Array Value} {h : Hp} {K : VK} (hF : F g = true) (hc : yaae P g args h K) : callX P F g args h K := by
  unfold callX; rw [hF]; exact hc
abbrev KeyP (z : Int) : Prop := -1048576 ≤ z ∧ z ≤ 1048576
instance (z : Int) : Decidable (KeyP z) := inferInstanceAs (Decidable (_ ∧ _))
theorem ybae : IsExt Tryz.prog 143 (Extern.SlicesOverlaps.overlaps Tryz.f143.params Tryz.f143.resultTypes) :=
  ⟨Tryz.f143, Tryz.func143, by kernel_rfl, by kernel_rfl, by kernel_rfl, by kernel_rfl⟩
theorem ybbo : IsExt Tryz.prog 173 (Extern.SlicesOverlaps.overlaps Tryz.f173.params Tryz.f173.resultTypes) :=
  ⟨Tryz.f173, Tryz.func173, by kernel_rfl, by kernel_rfl, by kernel_rfl, by kernel_rfl⟩
theorem ybbp : IsExt Tryz.prog 122 (Extern.SlicesOverlaps.overlaps Tryz.f122.params Tryz.f122.resultTypes) :=
  ⟨Tryz.f122, Tryz.func122, by kernel_rfl, by kernel_rfl, by kernel_rfl, by kernel_rfl⟩
end Go.Proofs.YtdlkohenamlnaaaGreat
/- slices.Clone, Insert of one element, Delete of one element. -/
namespace Go.Proofs.YtdlkohenamlnaaaGreat
open Go Go.Sx
theorem yade : ElOk (tI 3) Tryz.prog 23 := yadl (by kernel_rfl)
theorem yaca {h : Hp} {p : OA} {n c : Nat} {xs : List Int} (r : RdT (tI 3) h p n xs) (hn : n < 1000000) :
    yaae Tryz.prog 24 #[.slice p n c] h (fun v h' => ∃ q d A, v = .slice q n d ∧ Sl (tI 3) q n d xs A ∧ St h h' A) := by
  refine zdw_call ?_
  rw [zdw_b0]
  refine yaay (fun h1 => ?_) (fun h1 => ?_)
  · have hp : p = none := by cases p with | none => rfl | some a => cases h1
    subst hp
    obtain rfl : n = 0 := by
      rcases r.2 with h2 | ⟨a, h2, _⟩
      · exact h2
      · cases h2
    have : xs = [] := List.eq_nil_of_length_eq_zero r.1
    subst this
    exact ⟨_, _, 0, rfl, Sl.nil, St.start h⟩
  · refine (St.start h).new (cs := []) fun b h1 x s1 => ?_
    have o : Sl (tI 3) (some ⟨b, 0, none⟩) 0 0 [] (cA b [] (tI 3).e) := Sl.of_blk rfl rfl
    refine yaat yade s1 o (r.ext x) (by omega) fun p' c' h' A' a' s' => ?_
    rw [List.nil_append, Nat.zero_add] at a'
    rw [Nat.zero_add]
    exact ⟨_, _, A', rfl, a', s'.to⟩
theorem yara {h0 h : Hp} {p : OA} {n c i bv : Nat} {xs : List Int} {x : Int} {cs : List Value} {A F : Bag} (s : St h0 h (A + (cA bv cs (tI 3).e + F))) (a : Sl (tI 3) p n c xs A)
    (hcs : cs = (tI 3).enc x) (hi : i ≤ n) (hn : n < 1000000) :
    yaae Tryz.prog 23 #[.slice p n c, .int .i64 (i : Int), .slice (some ⟨bv, 0, none⟩) 1 1] h (fun v h' => ∃ p' c' A', v = .slice p' (n + 1) c' ∧ Sl (tI 3) p' (n + 1) c' (xs.take i ++ x :: xs.drop i) A' ∧ St h0 h' (A' + (cA bv cs (tI 3).e + F))) := by
  have hcap := a.cap
  have hlen := a.len
  have one : Sl (tI 3) (some ⟨bv, 0, none⟩) 1 1 [x] (cA bv cs (tI 3).e) := Sl.one hcs
  have rv : RdT (tI 3) h (some ⟨bv, 0, none⟩) 1 [x] := one.rd (s.to (B := cA bv cs (tI 3).e + (A + F)))
  refine zeo_call ?_
  rw [zeo_b0]
  refine ⟨⟨by omega, by omega, by omega⟩, yaam (by decide) ?_⟩
  have e1 : Int.toNat (i : Int) = i := Int.toNat_natCast i
  have e0 : Int.toNat (0 : Int) = 0 := rfl
  refine condP (fun h1 => ?_) (fun h1 => ?_)
  · have : i = n := by omega
    subst this
    refine yaat yade s a rv (by omega) fun p' c' h' A' a' s' => ?_
    refine ⟨p', c', A', rfl, ?_, s'⟩
    rw [List.take_of_length_le (by omega), List.drop_eq_nil_of_le (by omega)]
    exact a'
  have hin : i < n := by omega
  have hti : ((tI 3).cells (xs.take i)).length = i * (tI 3).sz := by rw [(tI 3).cells_len, List.length_take]; congr 1; omega
  refine ⟨⟨by omega, by omega⟩, condP (fun h2 => ?_) (fun h2 => ?_)⟩
  · -- a new block
    have hcn : c < n + 1 := by omega
    refine ⟨⟨by omega, by omega, by omega⟩, ⟨by omega, by omega⟩, ⟨by omega, by omega⟩, ?_⟩
    rw [e0, e1, yaaz, Nat.sub_zero, Nat.sub_zero]
    have rt : RdT (tI 3) h p i (xs.take i) := (a.rd s).take (by omega)
    have el : (((n : Int) + ((1 : Nat) : Int)) - (i : Int)).toNat = n + 1 - i := by omega
    refine yabv yade (by kernel_rfl) (by kernel_rfl) s rt (by omega) (by omega) (by omega) fun b c' h' mid rest hc' hm hr s1 => ?_
    rw [el] at hm hr hc' ⊢
    have hl2 : i + (n + 1 - i) = n + 1 := by omega
    rw [hl2] at hr hc' ⊢
    refine ⟨⟨by omega, by omega, by omega⟩, ?_⟩
    have e2 : Int.toNat (((n + 1 : Nat) : Nat) : Int) = n + 1 := Int.toNat_natCast _
    have e3 : Int.toNat ((i : Int) + ((1 : Nat) : Int)) = i + 1 := by omega
    have e4 : Int.toNat (n : Int) = n := Int.toNat_natCast _
    rw [e2, e3, e4]
    have es1 : yaab (some ⟨b, 0, none⟩) c' i (tI 3).sz = some ⟨b, i * (tI 3).sz, none⟩ := by rw [yaar (by omega), Nat.zero_add]
    have es2 : yaab (some ⟨b, 0, none⟩) c' (i + 1) (tI 3).sz = some ⟨b, (i + 1) * (tI 3).sz, none⟩ := by rw [yaar (by omega), Nat.zero_add]
    rw [show yaab (some ⟨b, 0, none⟩) c' i 1 = some ⟨b, i * (tI 3).sz, none⟩ from es1, show yaab (some ⟨b, 0, none⟩) c' (i + 1) 1 = some ⟨b, (i + 1) * (tI 3).sz, none⟩ from es2]
    have hm1 : mid.length = (tI 3).sz + (n - i) * (tI 3).sz := by rw [hm, show n + 1 - i = 1 + (n - i) by omega, Nat.add_mul, Nat.one_mul]
    have em : mid = mid.take (tI 3).sz ++ mid.drop (tI 3).sz := (List.take_append_drop _ _).symm
    have s2 : St h0 h' (cA b ((tI 3).cells (xs.take i) ++ mid.take (tI 3).sz ++ (mid.drop (tI 3).sz ++ rest)) (tI 3).e + (A + (cA bv cs (tI 3).e + F))) := by
      have e : (tI 3).cells (xs.take i) ++ mid.take (tI 3).sz ++ (mid.drop (tI 3).sz ++ rest) = (tI 3).cells (xs.take i) ++ mid ++ rest := by
        conv => rhs; rw [em]
        simp only [List.append_assoc]
      rw [e]; exact s1
    have rv2 : RdT (tI 3) h' (some ⟨bv, 0, none⟩) 1 [x] := one.rd (s2.to (B := cA bv cs (tI 3).e + (cA b _ _ + (A + F))))
    refine yabr (j := 1) yade s2 rv2 hti (by omega) (by rw [List.length_take]; omega) fun v1 h3 s3 => ?_
    refine ⟨⟨by omega, by omega⟩, ⟨by omega, by omega, by omega⟩, ⟨by omega, by omega, by omega⟩, ?_⟩
    rw [(tI 3).cells_one] at s3
    have s4 : St h0 h3 (cA b (((tI 3).cells (xs.take i) ++ (tI 3).enc x) ++ mid.drop (tI 3).sz ++ rest) (tI 3).e + (A + (cA bv cs (tI 3).e + F))) := by
      have e : ((tI 3).cells (xs.take i) ++ (tI 3).enc x) ++ mid.drop (tI 3).sz ++ rest = (tI 3).cells (xs.take i) ++ (tI 3).enc x ++ (mid.drop (tI 3).sz ++ rest) := by simp only [List.append_assoc]
      rw [e]; exact s3
    have ra : RdT (tI 3) h3 p n xs := a.rd (s4.to (B := A + (cA b _ _ + (cA bv cs (tI 3).e + F))))
    have rs := ra.sub hi hcap rfl
    refine yabr (j := n - i) yade s4 rs (by rw [List.length_append, hti, (tI 3).len, Nat.add_mul, Nat.one_mul]) (by omega) (by rw [List.length_drop, hm1, Nat.add_sub_cancel_left]) fun v2 h4 s5 => ?_
    refine ⟨_, _, _, rfl, ⟨by simp; omega, .inr ⟨b, rest, rfl, hc', hr, rfl⟩⟩, ?_⟩
    rw [(tI 3).cells_append, (tI 3).cells_cons]
    have e : (tI 3).cells (xs.take i) ++ ((tI 3).enc x ++ (tI 3).cells (xs.drop i)) ++ rest = (tI 3).cells (xs.take i) ++ (tI 3).enc x ++ (tI 3).cells (xs.drop i) ++ rest := by simp only [List.append_assoc]
    rw [e]
    exact (s5.to (B := A + (cA b _ _ + (cA bv cs (tI 3).e + F)))).drop
  · -- in place
    have hcn : n + 1 ≤ c := by omega
    rcases a with ⟨hl, ⟨rfl, h3, _, _⟩ | ⟨b, rest, rfl, hc, hr, rfl⟩⟩
    · omega
    have a : Sl (tI 3) (some ⟨b, 0, none⟩) n c xs (cA b ((tI 3).cells xs ++ rest) (tI 3).e) := ⟨hl, .inr ⟨b, rest, rfl, hc, hr, rfl⟩⟩
    have e3 : Int.toNat ((i : Int) + ((1 : Nat) : Int)) = i + 1 := by omega
    have e4 : Int.toNat (n : Int) = n := Int.toNat_natCast _
    have e5 : Int.toNat ((n : Int) + ((1 : Nat) : Int)) = n + 1 := by omega
    have e6 : Int.toNat (((n + 1 : Nat) : Nat) : Int) = n + 1 := Int.toNat_natCast _
    simp only [e0, e1, e3, e4, e5, e6, yaaz, Nat.sub_zero]
    refine ⟨⟨by omega, by omega⟩, ⟨by omega, by omega, by omega⟩, ⟨by omega, by omega⟩, ⟨by omega, by omega, by omega⟩, ?_⟩
    have es1 : yaab (some ⟨b, 0, none⟩) c (i + 1) (tI 3).sz = some ⟨b, (i + 1) * (tI 3).sz, none⟩ := by rw [yaar (by omega), Nat.zero_add]
    rw [show yaab (some ⟨b, 0, none⟩) c (i + 1) 1 = some ⟨b, (i + 1) * (tI 3).sz, none⟩ from es1]
    obtain ⟨i0, z, hi0, hz, hzs, hzc, hbt⟩ := (yade).info
    have hrl : (tI 3).sz ≤ rest.length := by rw [hr]; calc (tI 3).sz = 1 * (tI 3).sz := (Nat.one_mul _).symm
                                              _ ≤ (c - n) * (tI 3).sz := Nat.mul_le_mul_right _ (by omega)
    have er : rest = rest.take (tI 3).sz ++ rest.drop (tI 3).sz := (List.take_append_drop _ _).symm
    refine yadf yayp (t := 23) (e := 3) (by kernel_rfl) (by kernel_rfl) hi0 (s.to (B := cA bv cs (tI 3).e + (cA b _ _ + F))) ⟨_, rfl, ?_⟩
    refine ⟨⟨by omega, by omega⟩, ⟨by omega, by omega, by omega⟩, ⟨by omega, by omega, by omega⟩, ?_⟩
    -- the elements from i on move by one
    have hdl : ((tI 3).cells (xs.drop i)).length = (n - i) * (tI 3).sz := by rw [(tI 3).cells_len, List.length_drop, hl]
    have hd1l : ((tI 3).cells (xs.drop (i + 1))).length = (n - (i + 1)) * (tI 3).sz := by rw [(tI 3).cells_len, List.length_drop, hl]
    have ht1 : ((tI 3).cells (xs.take (i + 1))).length = (i + 1) * (tI 3).sz := by rw [(tI 3).cells_len, List.length_take]; congr 1; omega
    have s1 : St h0 h (cA b ((tI 3).cells (xs.take (i + 1)) ++ ((tI 3).cells (xs.drop (i + 1)) ++ rest.take (tI 3).sz) ++ rest.drop (tI 3).sz) (tI 3).e + (cA bv cs (tI 3).e + F)) := by
      have e : (tI 3).cells (xs.take (i + 1)) ++ ((tI 3).cells (xs.drop (i + 1)) ++ rest.take (tI 3).sz) ++ rest.drop (tI 3).sz = (tI 3).cells xs ++ rest := by
        rw [List.append_assoc, List.append_assoc, ← er, ← List.append_assoc, ← (tI 3).cells_append, List.take_append_drop]
      rw [e]; exact s
    have rx : RdT (tI 3) h (some ⟨b, 0, none⟩) n xs := a.rd s
    have rs : RdT (tI 3) h (yaab (some ⟨b, 0, none⟩) c i (tI 3).sz) (n - i) (xs.drop i) := rx.sub hi hcap rfl
    refine yabr (j := n - i) yade s1 rs ht1 (by omega) (by rw [List.length_append, hd1l, List.length_take, Nat.min_eq_left hrl, show n - i = (n - (i + 1)) + 1 by omega, Nat.add_mul, Nat.one_mul]) fun v4 h5 s5 => ?_
    refine ⟨⟨by omega, by omega, by omega⟩, ?_⟩
    have es2 : yaab (some ⟨b, 0, none⟩) c i (tI 3).sz = some ⟨b, i * (tI 3).sz, none⟩ := by rw [yaar (by omega), Nat.zero_add]
    rw [show yaab (some ⟨b, 0, none⟩) c i 1 = some ⟨b, i * (tI 3).sz, none⟩ from es2]
    have s6 : St h0 h5 (cA b ((tI 3).cells (xs.take i) ++ (tI 3).enc xs[i] ++ ((tI 3).cells (xs.drop i) ++ rest.drop (tI 3).sz)) (tI 3).e + (cA bv cs (tI 3).e + F)) := by
      have e : (tI 3).cells (xs.take i) ++ (tI 3).enc xs[i] ++ ((tI 3).cells (xs.drop i) ++ rest.drop (tI 3).sz) = (tI 3).cells (xs.take (i + 1)) ++ (tI 3).cells (xs.drop i) ++ rest.drop (tI 3).sz := by
        rw [List.take_succ_eq_append_getElem (by omega), (tI 3).cells_append, (tI 3).cells_one]; simp only [List.append_assoc]
      rw [e]; exact s5
    have rv5 : RdT (tI 3) h5 (some ⟨bv, 0, none⟩) 1 [x] := one.rd (s6.to (B := cA bv cs (tI 3).e + (cA b _ _ + F)))
    refine yabr (j := 1) yade s6 rv5 hti (by omega) (by rw [(tI 3).len, Nat.one_mul]) fun v5 h6 s7 => ?_
    refine ⟨_, _, _, rfl, ⟨by simp; omega, .inr ⟨b, rest.drop (tI 3).sz, rfl, hcn, ?_, rfl⟩⟩, ?_⟩
    · rw [List.length_drop, hr, show c - n = (c - (n + 1)) + 1 by omega, Nat.add_mul, Nat.one_mul]; omega
    · rw [(tI 3).cells_one] at s7
      rw [(tI 3).cells_append, (tI 3).cells_cons]
      have e : (tI 3).cells (xs.take i) ++ ((tI 3).enc x ++ (tI 3).cells (xs.drop i)) ++ rest.drop (tI 3).sz = (tI 3).cells (xs.take i) ++ (tI 3).enc x ++ ((tI 3).cells (xs.drop i) ++ rest.drop (tI 3).sz) := by simp only [List.append_assoc]
      rw [e]
      exact s7
theorem yaok {h0 h : Hp} {p : OA} {n c i : Nat} {j : Int} {xs : List Int} {A F : Bag} (s : St h0 h (A + F)) (a : Sl (tI 3) p n c xs A) (hi : i < n) (hj : j = (i : Int) + 1) (hn : n < 1000000) :
    yaae Tryz.prog 26 #[.slice p n c, .int .i64 (i : Int), .int .i64 j] h (fun v h' => ∃ A', v = .slice p (n - 1) c ∧ Sl (tI 3) p (n - 1) c (xs.take i ++ xs.drop (i + 1)) A' ∧ St h0 h' (A' + F)) := by
  obtain rfl : j = ((i + 1 : Nat) : Int) := by omega
  have hcap := a.cap
  have hlen := a.len
  have rd := a.rd s
  refine zef_call ?_
  rw [zef_b0]
  refine yaty (yade).el (by omega) (by omega) hcap fun _ => condP (fun h1 => by omega) (fun _ => ?_)
  have e1 : Int.toNat (i : Int) = i := Int.toNat_natCast i
  have e2 : Int.toNat ((i + 1 : Nat) : Int) = i + 1 := Int.toNat_natCast _
  have e3 : Int.toNat (n : Int) = n := Int.toNat_natCast _
  have e0 : Int.toNat (0 : Int) = 0 := rfl
  refine ⟨⟨by omega, by omega, by omega⟩, ⟨by omega, by omega, by omega⟩, ?_⟩
  rw [e0, e1, e2, e3, yaaz, Nat.sub_zero, Nat.sub_zero]
  rcases a with ⟨hl, ⟨rfl, h3, _, _⟩ | ⟨b, rest, rfl, hc, hr, rfl⟩⟩
  · omega
  have hti : ((tI 3).cells (xs.take i)).length = i * (tI 3).sz := by rw [(tI 3).cells_len, List.length_take]; congr 1; omega
  have hdl : ((tI 3).cells (xs.drop i)).length = (n - i) * (tI 3).sz := by rw [(tI 3).cells_len, List.length_drop, hl]
  have hd1l : ((tI 3).cells (xs.drop (i + 1))).length = (n - (i + 1)) * (tI 3).sz := by rw [(tI 3).cells_len, List.length_drop, hl]
  have s1 : St h0 h (cA b ((tI 3).cells (xs.take i) ++ ((tI 3).cells (xs.drop i)).take ((n - (i + 1)) * (tI 3).sz) ++ (((tI 3).cells (xs.drop i)).drop ((n - (i + 1)) * (tI 3).sz) ++ rest)) (tI 3).e + F) := by
    have e : (tI 3).cells (xs.take i) ++ ((tI 3).cells (xs.drop i)).take ((n - (i + 1)) * (tI 3).sz) ++ (((tI 3).cells (xs.drop i)).drop ((n - (i + 1)) * (tI 3).sz) ++ rest) = (tI 3).cells xs ++ rest := by
      rw [List.append_assoc, ← List.append_assoc _ _ rest, List.take_append_drop, ← List.append_assoc, ← (tI 3).cells_append, List.take_append_drop]
    rw [e]; exact s
  have hle : (n - (i + 1)) * (tI 3).sz ≤ (n - i) * (tI 3).sz := Nat.mul_le_mul_right _ (by omega)
  refine yacr yade s1 hti (by rw [List.length_take, hdl]; omega) (rd.sub (by omega) hcap rfl) (by omega) fun h' s2 => ?_
  refine ⟨⟨by omega, by omega, by omega⟩, ?_⟩
  have e4 : Int.toNat ((i + (n - (i + 1)) : Nat) : Int) = n - 1 := by omega
  have e5 : i + (n - (i + 1)) = n - 1 := by omega
  rw [e4, show yaab (some ⟨b, 0, none⟩) c (n - 1) 1 = some ⟨b, (n - 1) * (tI 3).sz, none⟩ by rw [show yaab (some ⟨b, 0, none⟩) c (n - 1) 1 = yaab (some ⟨b, 0, none⟩) c (n - 1) (tI 3).sz from rfl, yaar (by omega), Nat.zero_add]]
  rw [← (tI 3).cells_append, ← List.append_assoc] at s2
  have hl1 : (xs.take i ++ xs.drop (i + 1)).length = n - 1 := by rw [List.length_append, List.length_take, List.length_drop]; omega
  have hn1 : n - (n - 1) = 1 := by omega
  refine yaie yade s2 (by rw [(tI 3).cells_len, hl1]) (by
    rw [List.length_drop, hdl, ← Nat.sub_mul]; congr 1; omega) fun h2 zs hzl s3 => ?_
  rw [e5]
  refine ⟨_, rfl, ⟨hl1, .inr ⟨b, zs ++ rest, rfl, by omega, ?_, rfl⟩⟩, ?_⟩
  · rw [List.length_append, hzl, hr, ← Nat.add_mul]; congr 1; omega
  · rw [← List.append_assoc]; exact s3
theorem yake : ElOk (tEv 106) Tryz.prog 93 := yadl (by kernel_rfl)
theorem yalp {h : Hp} {p : OA} {n c : Nat} {xs : List Ev} (r : RdT (tEv 106) h p n xs) (hn : n < 1000000) :
    yaae Tryz.prog 69 #[.slice p n c] h (fun v h' => ∃ q d A, v = .slice q n d ∧ Sl (tEv 106) q n d xs A ∧ St h h' A) := by
  refine zdx_call ?_
  rw [zdx_b0]
  refine yaay (fun h1 => ?_) (fun h1 => ?_)
  · have hp : p = none := by cases p with | none => rfl | some a => cases h1
    subst hp
    obtain rfl : n = 0 := by
      rcases r.2 with h2 | ⟨a, h2, _⟩
      · exact h2
      · cases h2
    have : xs = [] := List.eq_nil_of_length_eq_zero r.1
    subst this
    exact ⟨_, _, 0, rfl, Sl.nil, St.start h⟩
  · refine (St.start h).new (cs := []) fun b h1 x s1 => ?_
    have o : Sl (tEv 106) (some ⟨b, 0, none⟩) 0 0 [] (cA b [] (tEv 106).e) := Sl.of_blk rfl rfl
    refine yaat yake s1 o (r.ext x) (by omega) fun p' c' h' A' a' s' => ?_
    rw [List.nil_append, Nat.zero_add] at a'
    rw [Nat.zero_add]
    exact ⟨_, _, A', rfl, a', s'.to⟩
theorem yarm {h0 h : Hp} {p : OA} {n c i bv : Nat} {xs : List Ev} {x : Ev} {cs : List Value} {A F : Bag} (s : St h0 h (A + (cA bv cs (tEv 106).e + F))) (a : Sl (tEv 106) p n c xs A)
    (hcs : cs = (tEv 106).enc x) (hi : i ≤ n) (hn : n < 1000000) :
    yaae Tryz.prog 98 #[.slice p n c, .int .i64 (i : Int), .slice (some ⟨bv, 0, none⟩) 1 1] h (fun v h' => ∃ p' c' A', v = .slice p' (n + 1) c' ∧ Sl (tEv 106) p' (n + 1) c' (xs.take i ++ x :: xs.drop i) A' ∧ St h0 h' (A' + (cA bv cs (tEv 106).e + F))) := by
  have hcap := a.cap
  have hlen := a.len
  have one : Sl (tEv 106) (some ⟨bv, 0, none⟩) 1 1 [x] (cA bv cs (tEv 106).e) := Sl.one hcs
  have rv : RdT (tEv 106) h (some ⟨bv, 0, none⟩) 1 [x] := one.rd (s.to (B := cA bv cs (tEv 106).e + (A + F)))
  refine zep_call ?_
  rw [zep_b0]
  refine ⟨⟨by omega, by omega, by omega⟩, yaam (by decide) ?_⟩
  have e1 : Int.toNat (i : Int) = i := Int.toNat_natCast i
  have e0 : Int.toNat (0 : Int) = 0 := rfl
  refine condP (fun h1 => ?_) (fun h1 => ?_)
  · have : i = n := by omega
    subst this
    refine yaat yake s a rv (by omega) fun p' c' h' A' a' s' => ?_
    refine ⟨p', c', A', rfl, ?_, s'⟩
    rw [List.take_of_length_le (by omega), List.drop_eq_nil_of_le (by omega)]
    exact a'
  have hin : i < n := by omega
  have hti : ((tEv 106).cells (xs.take i)).length = i * (tEv 106).sz := by rw [(tEv 106).cells_len, List.length_take]; congr 1; omega
  refine ⟨⟨by omega, by omega⟩, condP (fun h2 => ?_) (fun h2 => ?_)⟩
  · -- a new block
    have hcn : c < n + 1 := by omega
    refine ⟨⟨by omega, by omega, by omega⟩, ⟨by omega, by omega⟩, ⟨by omega, by omega⟩, ?_⟩
    rw [e0, e1, yaaz, Nat.sub_zero, Nat.sub_zero]
    have rt : RdT (tEv 106) h p i (xs.take i) := (a.rd s).take (by omega)
    have el : (((n : Int) + ((1 : Nat) : Int)) - (i : Int)).toNat = n + 1 - i := by omega
    refine yabv yake (by kernel_rfl) (by kernel_rfl) s rt (by omega) (by omega) (by omega) fun b c' h' mid rest hc' hm hr s1 => ?_
    rw [el] at hm hr hc' ⊢
    have hl2 : i + (n + 1 - i) = n + 1 := by omega
    rw [hl2] at hr hc' ⊢
    refine ⟨⟨by omega, by omega, by omega⟩, ?_⟩
    have e2 : Int.toNat (((n + 1 : Nat) : Nat) : Int) = n + 1 := Int.toNat_natCast _
    have e3 : Int.toNat ((i : Int) + ((1 : Nat) : Int)) = i + 1 := by omega
    have e4 : Int.toNat (n : Int) = n := Int.toNat_natCast _
    rw [e2, e3, e4]
    have es1 : yaab (some ⟨b, 0, none⟩) c' i (tEv 106).sz = some ⟨b, i * (tEv 106).sz, none⟩ := by rw [yaar (by omega), Nat.zero_add]
    have es2 : yaab (some ⟨b, 0, none⟩) c' (i + 1) (tEv 106).sz = some ⟨b, (i + 1) * (tEv 106).sz, none⟩ := by rw [yaar (by omega), Nat.zero_add]
    rw [show yaab (some ⟨b, 0, none⟩) c' i 3 = some ⟨b, i * (tEv 106).sz, none⟩ from es1, show yaab (some ⟨b, 0, none⟩) c' (i + 1) 3 = some ⟨b, (i + 1) * (tEv 106).sz, none⟩ from es2]
    have hm1 : mid.length = (tEv 106).sz + (n - i) * (tEv 106).sz := by rw [hm, show n + 1 - i = 1 + (n - i) by omega, Nat.add_mul, Nat.one_mul]
    have em : mid = mid.take (tEv 106).sz ++ mid.drop (tEv 106).sz := (List.take_append_drop _ _).symm
    have s2 : St h0 h' (cA b ((tEv 106).cells (xs.take i) ++ mid.take (tEv 106).sz ++ (mid.drop (tEv 106).sz ++ rest)) (tEv 106).e + (A + (cA bv cs (tEv 106).e + F))) := by
      have e : (tEv 106).cells (xs.take i) ++ mid.take (tEv 106).sz ++ (mid.drop (tEv 106).sz ++ rest) = (tEv 106).cells (xs.take i) ++ mid ++ rest := by
        conv => rhs; rw [em]
        simp only [List.append_assoc]
      rw [e]; exact s1
    have rv2 : RdT (tEv 106) h' (some ⟨bv, 0, none⟩) 1 [x] := one.rd (s2.to (B := cA bv cs (tEv 106).e + (cA b _ _ + (A + F))))
    refine yabr (j := 1) yake s2 rv2 hti (by omega) (by rw [List.length_take]; omega) fun v1 h3 s3 => ?_
    refine ⟨⟨by omega, by omega⟩, ⟨by omega, by omega, by omega⟩, ⟨by omega, by omega, by omega⟩, ?_⟩
    rw [(tEv 106).cells_one] at s3
    have s4 : St h0 h3 (cA b (((tEv 106).cells (xs.take i) ++ (tEv 106).enc x) ++ mid.drop (tEv 106).sz ++ rest) (tEv 106).e + (A + (cA bv cs (tEv 106).e + F))) := by
      have e : ((tEv 106).cells (xs.take i) ++ (tEv 106).enc x) ++ mid.drop (tEv 106).sz ++ rest = (tEv 106).cells (xs.take i) ++ (tEv 106).enc x ++ (mid.drop (tEv 106).sz ++ rest) := by simp only [List.append_assoc]
      rw [e]; exact s3
    have ra : RdT (tEv 106) h3 p n xs := a.rd (s4.to (B := A + (cA b _ _ + (cA bv cs (tEv 106).e + F))))
    have rs := ra.sub hi hcap rfl
    refine yabr (j := n - i) yake s4 rs (by rw [List.length_append, hti, (tEv 106).len, Nat.add_mul, Nat.one_mul]) (by omega) (by rw [List.length_drop, hm1, Nat.add_sub_cancel_left]) fun v2 h4 s5 => ?_
    refine ⟨_, _, _, rfl, ⟨by simp; omega, .inr ⟨b, rest, rfl, hc', hr, rfl⟩⟩, ?_⟩
    rw [(tEv 106).cells_append, (tEv 106).cells_cons]
    have e : (tEv 106).cells (xs.take i) ++ ((tEv 106).enc x ++ (tEv 106).cells (xs.drop i)) ++ rest = (tEv 106).cells (xs.take i) ++ (tEv 106).enc x ++ (tEv 106).cells (xs.drop i) ++ rest := by simp only [List.append_assoc]
    rw [e]
    exact (s5.to (B := A + (cA b _ _ + (cA bv cs (tEv 106).e + F)))).drop
  · -- in place
    have hcn : n + 1 ≤ c := by omega
    rcases a with ⟨hl, ⟨rfl, h3, _, _⟩ | ⟨b, rest, rfl, hc, hr, rfl⟩⟩
    · omega
    have a : Sl (tEv 106) (some ⟨b, 0, none⟩) n c xs (cA b ((tEv 106).cells xs ++ rest) (tEv 106).e) := ⟨hl, .inr ⟨b, rest, rfl, hc, hr, rfl⟩⟩
    have e3 : Int.toNat ((i : Int) + ((1 : Nat) : Int)) = i + 1 := by omega
    have e4 : Int.toNat (n : Int) = n := Int.toNat_natCast _
    have e5 : Int.toNat ((n : Int) + ((1 : Nat) : Int)) = n + 1 := by omega
    have e6 : Int.toNat (((n + 1 : Nat) : Nat) : Int) = n + 1 := Int.toNat_natCast _
    simp only [e0, e1, e3, e4, e5, e6, yaaz, Nat.sub_zero]
    refine ⟨⟨by omega, by omega⟩, ⟨by omega, by omega, by omega⟩, ⟨by omega, by omega⟩, ⟨by omega, by omega, by omega⟩, ?_⟩
    have es1 : yaab (some ⟨b, 0, none⟩) c (i + 1) (tEv 106).sz = some ⟨b, (i + 1) * (tEv 106).sz, none⟩ := by rw [yaar (by omega), Nat.zero_add]
    rw [show yaab (some ⟨b, 0, none⟩) c (i + 1) 3 = some ⟨b, (i + 1) * (tEv 106).sz, none⟩ from es1]
    obtain ⟨i0, z, hi0, hz, hzs, hzc, hbt⟩ := (yake).info
    have hrl : (tEv 106).sz ≤ rest.length := by rw [hr]; calc (tEv 106).sz = 1 * (tEv 106).sz := (Nat.one_mul _).symm
                                              _ ≤ (c - n) * (tEv 106).sz := Nat.mul_le_mul_right _ (by omega)
    have er : rest = rest.take (tEv 106).sz ++ rest.drop (tEv 106).sz := (List.take_append_drop _ _).symm
    refine yadf ybae (t := 93) (e := 106) (by kernel_rfl) (by kernel_rfl) hi0 (s.to (B := cA bv cs (tEv 106).e + (cA b _ _ + F))) ⟨_, rfl, ?_⟩
    refine ⟨⟨by omega, by omega⟩, ⟨by omega, by omega, by omega⟩, ⟨by omega, by omega, by omega⟩, ?_⟩
    -- the elements from i on move by one
    have hdl : ((tEv 106).cells (xs.drop i)).length = (n - i) * (tEv 106).sz := by rw [(tEv 106).cells_len, List.length_drop, hl]
    have hd1l : ((tEv 106).cells (xs.drop (i + 1))).length = (n - (i + 1)) * (tEv 106).sz := by rw [(tEv 106).cells_len, List.length_drop, hl]
    have ht1 : ((tEv 106).cells (xs.take (i + 1))).length = (i + 1) * (tEv 106).sz := by rw [(tEv 106).cells_len, List.length_take]; congr 1; omega
    have s1 : St h0 h (cA b ((tEv 106).cells (xs.take (i + 1)) ++ ((tEv 106).cells (xs.drop (i + 1)) ++ rest.take (tEv 106).sz) ++ rest.drop (tEv 106).sz) (tEv 106).e + (cA bv cs (tEv 106).e + F)) := by
      have e : (tEv 106).cells (xs.take (i + 1)) ++ ((tEv 106).cells (xs.drop (i + 1)) ++ rest.take (tEv 106).sz) ++ rest.drop (tEv 106).sz = (tEv 106).cells xs ++ rest := by
        rw [List.append_assoc, List.append_assoc, ← er, ← List.append_assoc, ← (tEv 106).cells_append, List.take_append_drop]
      rw [e]; exact s
    have rx : RdT (tEv 106) h (some ⟨b, 0, none⟩) n xs := a.rd s
    have rs : RdT (tEv 106) h (yaab (some ⟨b, 0, none⟩) c i (tEv 106).sz) (n - i) (xs.drop i) := rx.sub hi hcap rfl
    refine yabr (j := n - i) yake s1 rs ht1 (by omega) (by rw [List.length_append, hd1l, List.length_take, Nat.min_eq_left hrl, show n - i = (n - (i + 1)) + 1 by omega, Nat.add_mul, Nat.one_mul]) fun v4 h5 s5 => ?_
    refine ⟨⟨by omega, by omega, by omega⟩, ?_⟩
    have es2 : yaab (some ⟨b, 0, none⟩) c i (tEv 106).sz = some ⟨b, i * (tEv 106).sz, none⟩ := by rw [yaar (by omega), Nat.zero_add]
    rw [show yaab (some ⟨b, 0, none⟩) c i 3 = some ⟨b, i * (tEv 106).sz, none⟩ from es2]
    have s6 : St h0 h5 (cA b ((tEv 106).cells (xs.take i) ++ (tEv 106).enc xs[i] ++ ((tEv 106).cells (xs.drop i) ++ rest.drop (tEv 106).sz)) (tEv 106).e + (cA bv cs (tEv 106).e + F)) := by
      have e : (tEv 106).cells (xs.take i) ++ (tEv 106).enc xs[i] ++ ((tEv 106).cells (xs.drop i) ++ rest.drop (tEv 106).sz) = (tEv 106).cells (xs.take (i + 1)) ++ (tEv 106).cells (xs.drop i) ++ rest.drop (tEv 106).sz := by
        rw [List.take_succ_eq_append_getElem (by omega), (tEv 106).cells_append, (tEv 106).cells_one]; simp only [List.append_assoc]
      rw [e]; exact s5
    have rv5 : RdT (tEv 106) h5 (some ⟨bv, 0, none⟩) 1 [x] := one.rd (s6.to (B := cA bv cs (tEv 106).e + (cA b _ _ + F)))
    refine yabr (j := 1) yake s6 rv5 hti (by omega) (by rw [(tEv 106).len, Nat.one_mul]) fun v5 h6 s7 => ?_
    refine ⟨_, _, _, rfl, ⟨by simp; omega, .inr ⟨b, rest.drop (tEv 106).sz, rfl, hcn, ?_, rfl⟩⟩, ?_⟩
    · rw [List.length_drop, hr, show c - n = (c - (n + 1)) + 1 by omega, Nat.add_mul, Nat.one_mul]; omega
    · rw [(tEv 106).cells_one] at s7
      rw [(tEv 106).cells_append, (tEv 106).cells_cons]
      have e : (tEv 106).cells (xs.take i) ++ ((tEv 106).enc x ++ (tEv 106).cells (xs.drop i)) ++ rest.drop (tEv 106).sz = (tEv 106).cells (xs.take i) ++ (tEv 106).enc x ++ ((tEv 106).cells (xs.drop i) ++ rest.drop (tEv 106).sz) := by simp only [List.append_assoc]
      rw [e]
      exact s7
theorem ok_el : ElOk (tPP 101) Tryz.prog 94 := yadl (by kernel_rfl)
theorem yaqz {h0 h : Hp} {p : OA} {n c i bv : Nat} {xs : List El} {x : El} {cs : List Value} {A F : Bag} (s : St h0 h (A + (cA bv cs (tPP 101).e + F))) (a : Sl (tPP 101) p n c xs A)
    (hcs : cs = (tPP 101).enc x) (hi : i ≤ n) (hn : n < 1000000) :
    yaae Tryz.prog 149 #[.slice p n c, .int .i64 (i : Int), .slice (some ⟨bv, 0, none⟩) 1 1] h (fun v h' => ∃ p' c' A', v = .slice p' (n + 1) c' ∧ Sl (tPP 101) p' (n + 1) c' (xs.take i ++ x :: xs.drop i) A' ∧ St h0 h' (A' + (cA bv cs (tPP 101).e + F))) := by
  have hcap := a.cap
  have hlen := a.len
  have one : Sl (tPP 101) (some ⟨bv, 0, none⟩) 1 1 [x] (cA bv cs (tPP 101).e) := Sl.one hcs
  have rv : RdT (tPP 101) h (some ⟨bv, 0, none⟩) 1 [x] := one.rd (s.to (B := cA bv cs (tPP 101).e + (A + F)))
  refine zeq_call ?_
  rw [zeq_b0]
  refine ⟨⟨by omega, by omega, by omega⟩, yaam (by decide) ?_⟩
  have e1 : Int.toNat (i : Int) = i := Int.toNat_natCast i
  have e0 : Int.toNat (0 : Int) = 0 := rfl
  refine condP (fun h1 => ?_) (fun h1 => ?_)
  · have : i = n := by omega
    subst this
    refine yaat ok_el s a rv (by omega) fun p' c' h' A' a' s' => ?_
    refine ⟨p', c', A', rfl, ?_, s'⟩
    rw [List.take_of_length_le (by omega), List.drop_eq_nil_of_le (by omega)]
    exact a'
  have hin : i < n := by omega
  have hti : ((tPP 101).cells (xs.take i)).length = i * (tPP 101).sz := by rw [(tPP 101).cells_len, List.length_take]; congr 1; omega
  refine ⟨⟨by omega, by omega⟩, condP (fun h2 => ?_) (fun h2 => ?_)⟩
  · -- a new block
    have hcn : c < n + 1 := by omega
    refine ⟨⟨by omega, by omega, by omega⟩, ⟨by omega, by omega⟩, ⟨by omega, by omega⟩, ?_⟩
    rw [e0, e1, yaaz, Nat.sub_zero, Nat.sub_zero]
    have rt : RdT (tPP 101) h p i (xs.take i) := (a.rd s).take (by omega)
    have el : (((n : Int) + ((1 : Nat) : Int)) - (i : Int)).toNat = n + 1 - i := by omega
    refine yabv ok_el (by kernel_rfl) (by kernel_rfl) s rt (by omega) (by omega) (by omega) fun b c' h' mid rest hc' hm hr s1 => ?_
    rw [el] at hm hr hc' ⊢
    have hl2 : i + (n + 1 - i) = n + 1 := by omega
    rw [hl2] at hr hc' ⊢
    refine ⟨⟨by omega, by omega, by omega⟩, ?_⟩
    have e2 : Int.toNat (((n + 1 : Nat) : Nat) : Int) = n + 1 := Int.toNat_natCast _
    have e3 : Int.toNat ((i : Int) + ((1 : Nat) : Int)) = i + 1 := by omega
    have e4 : Int.toNat (n : Int) = n := Int.toNat_natCast _
    rw [e2, e3, e4]
    have es1 : yaab (some ⟨b, 0, none⟩) c' i (tPP 101).sz = some ⟨b, i * (tPP 101).sz, none⟩ := by rw [yaar (by omega), Nat.zero_add]
    have es2 : yaab (some ⟨b, 0, none⟩) c' (i + 1) (tPP 101).sz = some ⟨b, (i + 1) * (tPP 101).sz, none⟩ := by rw [yaar (by omega), Nat.zero_add]
    rw [show yaab (some ⟨b, 0, none⟩) c' i 2 = some ⟨b, i * (tPP 101).sz, none⟩ from es1, show yaab (some ⟨b, 0, none⟩) c' (i + 1) 2 = some ⟨b, (i + 1) * (tPP 101).sz, none⟩ from es2]
    have hm1 : mid.length = (tPP 101).sz + (n - i) * (tPP 101).sz := by rw [hm, show n + 1 - i = 1 + (n - i) by omega, Nat.add_mul, Nat.one_mul]
    have em : mid = mid.take (tPP 101).sz ++ mid.drop (tPP 101).sz := (List.take_append_drop _ _).symm
    have s2 : St h0 h' (cA b ((tPP 101).cells (xs.take i) ++ mid.take (tPP 101).sz ++ (mid.drop (tPP 101).sz ++ rest)) (tPP 101).e + (A + (cA bv cs (tPP 101).e + F))) := by
      have e : (tPP 101).cells (xs.take i) ++ mid.take (tPP 101).sz ++ (mid.drop (tPP 101).sz ++ rest) = (tPP 101).cells (xs.take i) ++ mid ++ rest := by
        conv => rhs; rw [em]
        simp only [List.append_assoc]
      rw [e]; exact s1
    have rv2 : RdT (tPP 101) h' (some ⟨bv, 0, none⟩) 1 [x] := one.rd (s2.to (B := cA bv cs (tPP 101).e + (cA b _ _ + (A + F))))
    refine yabr (j := 1) ok_el s2 rv2 hti (by omega) (by rw [List.length_take]; omega) fun v1 h3 s3 => ?_
    refine ⟨⟨by omega, by omega⟩, ⟨by omega, by omega, by omega⟩, ⟨by omega, by omega, by omega⟩, ?_⟩
    rw [(tPP 101).cells_one] at s3
    have s4 : St h0 h3 (cA b (((tPP 101).cells (xs.take i) ++ (tPP 101).enc x) ++ mid.drop (tPP 101).sz ++ rest) (tPP 101).e + (A + (cA bv cs (tPP 101).e + F))) := by
      have e : ((tPP 101).cells (xs.take i) ++ (tPP 101).enc x) ++ mid.drop (tPP 101).sz ++ rest = (tPP 101).cells (xs.take i) ++ (tPP 101).enc x ++ (mid.drop (tPP 101).sz ++ rest) := by simp only [List.append_assoc]
      rw [e]; exact s3
    have ra : RdT (tPP 101) h3 p n xs := a.rd (s4.to (B := A + (cA b _ _ + (cA bv cs (tPP 101).e + F))))
    have rs := ra.sub hi hcap rfl
    refine yabr (j := n - i) ok_el s4 rs (by rw [List.length_append, hti, (tPP 101).len, Nat.add_mul, Nat.one_mul]) (by omega) (by rw [List.length_drop, hm1, Nat.add_sub_cancel_left]) fun v2 h4 s5 => ?_
    refine ⟨_, _, _, rfl, ⟨by simp; omega, .inr ⟨b, rest, rfl, hc', hr, rfl⟩⟩, ?_⟩
    rw [(tPP 101).cells_append, (tPP 101).cells_cons]
    have e : (tPP 101).cells (xs.take i) ++ ((tPP 101).enc x ++ (tPP 101).cells (xs.drop i)) ++ rest = (tPP 101).cells (xs.take i) ++ (tPP 101).enc x ++ (tPP 101).cells (xs.drop i) ++ rest := by simp only [List.append_assoc]
    rw [e]
    exact (s5.to (B := A + (cA b _ _ + (cA bv cs (tPP 101).e + F)))).drop
  · -- in place
    have hcn : n + 1 ≤ c := by omega
    rcases a with ⟨hl, ⟨rfl, h3, _, _⟩ | ⟨b, rest, rfl, hc, hr, rfl⟩⟩
    · omega
    have a : Sl (tPP 101) (some ⟨b, 0, none⟩) n c xs (cA b ((tPP 101).cells xs ++ rest) (tPP 101).e) := ⟨hl, .inr ⟨b, rest, rfl, hc, hr, rfl⟩⟩
    have e3 : Int.toNat ((i : Int) + ((1 : Nat) : Int)) = i + 1 := by omega
    have e4 : Int.toNat (n : Int) = n := Int.toNat_natCast _
    have e5 : Int.toNat ((n : Int) + ((1 : Nat) : Int)) = n + 1 := by omega
    have e6 : Int.toNat (((n + 1 : Nat) : Nat) : Int) = n + 1 := Int.toNat_natCast _
    simp only [e0, e1, e3, e4, e5, e6, yaaz, Nat.sub_zero]
    refine ⟨⟨by omega, by omega⟩, ⟨by omega, by omega, by omega⟩, ⟨by omega, by omega⟩, ⟨by omega, by omega, by omega⟩, ?_⟩
    have es1 : yaab (some ⟨b, 0, none⟩) c (i + 1) (tPP 101).sz = some ⟨b, (i + 1) * (tPP 101).sz, none⟩ := by rw [yaar (by omega), Nat.zero_add]
    rw [show yaab (some ⟨b, 0, none⟩) c (i + 1) 2 = some ⟨b, (i + 1) * (tPP 101).sz, none⟩ from es1]
    obtain ⟨i0, z, hi0, hz, hzs, hzc, hbt⟩ := (ok_el).info
    have hrl : (tPP 101).sz ≤ rest.length := by rw [hr]; calc (tPP 101).sz = 1 * (tPP 101).sz := (Nat.one_mul _).symm
                                              _ ≤ (c - n) * (tPP 101).sz := Nat.mul_le_mul_right _ (by omega)
    have er : rest = rest.take (tPP 101).sz ++ rest.drop (tPP 101).sz := (List.take_append_drop _ _).symm
    refine yadf ybbo (t := 94) (e := 101) (by kernel_rfl) (by kernel_rfl) hi0 (s.to (B := cA bv cs (tPP 101).e + (cA b _ _ + F))) ⟨_, rfl, ?_⟩
    refine ⟨⟨by omega, by omega⟩, ⟨by omega, by omega, by omega⟩, ⟨by omega, by omega, by omega⟩, ?_⟩
    -- the elements from i on move by one
    have hdl : ((tPP 101).cells (xs.drop i)).length = (n - i) * (tPP 101).sz := by rw [(tPP 101).cells_len, List.length_drop, hl]
    have hd1l : ((tPP 101).cells (xs.drop (i + 1))).length = (n - (i + 1)) * (tPP 101).sz := by rw [(tPP 101).cells_len, List.length_drop, hl]
    have ht1 : ((tPP 101).cells (xs.take (i + 1))).length = (i + 1) * (tPP 101).sz := by rw [(tPP 101).cells_len, List.length_take]; congr 1; omega
    have s1 : St h0 h (cA b ((tPP 101).cells (xs.take (i + 1)) ++ ((tPP 101).cells (xs.drop (i + 1)) ++ rest.take (tPP 101).sz) ++ rest.drop (tPP 101).sz) (tPP 101).e + (cA bv cs (tPP 101).e + F)) := by
      have e : (tPP 101).cells (xs.take (i + 1)) ++ ((tPP 101).cells (xs.drop (i + 1)) ++ rest.take (tPP 101).sz) ++ rest.drop (tPP 101).sz = (tPP 101).cells xs ++ rest := by
        rw [List.append_assoc, List.append_assoc, ← er, ← List.append_assoc, ← (tPP 101).cells_append, List.take_append_drop]
      rw [e]; exact s
    have rx : RdT (tPP 101) h (some ⟨b, 0, none⟩) n xs := a.rd s
    have rs : RdT (tPP 101) h (yaab (some ⟨b, 0, none⟩) c i (tPP 101).sz) (n - i) (xs.drop i) := rx.sub hi hcap rfl
    refine yabr (j := n - i) ok_el s1 rs ht1 (by omega) (by rw [List.length_append, hd1l, List.length_take, Nat.min_eq_left hrl, show n - i = (n - (i + 1)) + 1 by omega, Nat.add_mul, Nat.one_mul]) fun v4 h5 s5 => ?_
    refine ⟨⟨by omega, by omega, by omega⟩, ?_⟩
    have es2 : yaab (some ⟨b, 0, none⟩) c i (tPP 101).sz = some ⟨b, i * (tPP 101).sz, none⟩ := by rw [yaar (by omega), Nat.zero_add]
    rw [show yaab (some ⟨b, 0, none⟩) c i 2 = some ⟨b, i * (tPP 101).sz, none⟩ from es2]
    have s6 : St h0 h5 (cA b ((tPP 101).cells (xs.take i) ++ (tPP 101).enc xs[i] ++ ((tPP 101).cells (xs.drop i) ++ rest.drop (tPP 101).sz)) (tPP 101).e + (cA bv cs (tPP 101).e + F)) := by
      have e : (tPP 101).cells (xs.take i) ++ (tPP 101).enc xs[i] ++ ((tPP 101).cells (xs.drop i) ++ rest.drop (tPP 101).sz) = (tPP 101).cells (xs.take (i + 1)) ++ (tPP 101).cells (xs.drop i) ++ rest.drop (tPP 101).sz := by
        rw [List.take_succ_eq_append_getElem (by omega), (tPP 101).cells_append, (tPP 101).cells_one]; simp only [List.append_assoc]
      rw [e]; exact s5
    have rv5 : RdT (tPP 101) h5 (some ⟨bv, 0, none⟩) 1 [x] := one.rd (s6.to (B := cA bv cs (tPP 101).e + (cA b _ _ + F)))
    refine yabr (j := 1) ok_el s6 rv5 hti (by omega) (by rw [(tPP 101).len, Nat.one_mul]) fun v5 h6 s7 => ?_
    refine ⟨_, _, _, rfl, ⟨by simp; omega, .inr ⟨b, rest.drop (tPP 101).sz, rfl, hcn, ?_, rfl⟩⟩, ?_⟩
    · rw [List.length_drop, hr, show c - n = (c - (n + 1)) + 1 by omega, Nat.add_mul, Nat.one_mul]; omega
    · rw [(tPP 101).cells_one] at s7
      rw [(tPP 101).cells_append, (tPP 101).cells_cons]
      have e : (tPP 101).cells (xs.take i) ++ ((tPP 101).enc x ++ (tPP 101).cells (xs.drop i)) ++ rest.drop (tPP 101).sz = (tPP 101).cells (xs.take i) ++ (tPP 101).enc x ++ ((tPP 101).cells (xs.drop i) ++ rest.drop (tPP 101).sz) := by simp only [List.append_assoc]
      rw [e]
      exact s7
theorem yaqt {h0 h : Hp} {p : OA} {n c i : Nat} {j : Int} {xs : List El} {A F : Bag} (s : St h0 h (A + F)) (a : Sl (tPP 101) p n c xs A) (hi : i < n) (hj : j = (i : Int) + 1) (hn : n < 1000000) :
    yaae Tryz.prog 146 #[.slice p n c, .int .i64 (i : Int), .int .i64 j] h (fun v h' => ∃ A', v = .slice p (n - 1) c ∧ Sl (tPP 101) p (n - 1) c (xs.take i ++ xs.drop (i + 1)) A' ∧ St h0 h' (A' + F)) := by
  obtain rfl : j = ((i + 1 : Nat) : Int) := by omega
  have hcap := a.cap
  have hlen := a.len
  have rd := a.rd s
  refine zeg_call ?_
  rw [zeg_b0]
  refine yaty (ok_el).el (by omega) (by omega) hcap fun _ => condP (fun h1 => by omega) (fun _ => ?_)
  have e1 : Int.toNat (i : Int) = i := Int.toNat_natCast i
  have e2 : Int.toNat ((i + 1 : Nat) : Int) = i + 1 := Int.toNat_natCast _
  have e3 : Int.toNat (n : Int) = n := Int.toNat_natCast _
  have e0 : Int.toNat (0 : Int) = 0 := rfl
  refine ⟨⟨by omega, by omega, by omega⟩, ⟨by omega, by omega, by omega⟩, ?_⟩
  rw [e0, e1, e2, e3, yaaz, Nat.sub_zero, Nat.sub_zero]
  rcases a with ⟨hl, ⟨rfl, h3, _, _⟩ | ⟨b, rest, rfl, hc, hr, rfl⟩⟩
  · omega
  have hti : ((tPP 101).cells (xs.take i)).length = i * (tPP 101).sz := by rw [(tPP 101).cells_len, List.length_take]; congr 1; omega
  have hdl : ((tPP 101).cells (xs.drop i)).length = (n - i) * (tPP 101).sz := by rw [(tPP 101).cells_len, List.length_drop, hl]
  have hd1l : ((tPP 101).cells (xs.drop (i + 1))).length = (n - (i + 1)) * (tPP 101).sz := by rw [(tPP 101).cells_len, List.length_drop, hl]
  have s1 : St h0 h (cA b ((tPP 101).cells (xs.take i) ++ ((tPP 101).cells (xs.drop i)).take ((n - (i + 1)) * (tPP 101).sz) ++ (((tPP 101).cells (xs.drop i)).drop ((n - (i + 1)) * (tPP 101).sz) ++ rest)) (tPP 101).e + F) := by
    have e : (tPP 101).cells (xs.take i) ++ ((tPP 101).cells (xs.drop i)).take ((n - (i + 1)) * (tPP 101).sz) ++ (((tPP 101).cells (xs.drop i)).drop ((n - (i + 1)) * (tPP 101).sz) ++ rest) = (tPP 101).cells xs ++ rest := by
      rw [List.append_assoc, ← List.append_assoc _ _ rest, List.take_append_drop, ← List.append_assoc, ← (tPP 101).cells_append, List.take_append_drop]
    rw [e]; exact s
  have hle : (n - (i + 1)) * (tPP 101).sz ≤ (n - i) * (tPP 101).sz := Nat.mul_le_mul_right _ (by omega)
  refine yacr ok_el s1 hti (by rw [List.length_take, hdl]; omega) (rd.sub (by omega) hcap rfl) (by omega) fun h' s2 => ?_
  refine ⟨⟨by omega, by omega, by omega⟩, ?_⟩
  have e4 : Int.toNat ((i + (n - (i + 1)) : Nat) : Int) = n - 1 := by omega
  have e5 : i + (n - (i + 1)) = n - 1 := by omega
  rw [e4, show yaab (some ⟨b, 0, none⟩) c (n - 1) 2 = some ⟨b, (n - 1) * (tPP 101).sz, none⟩ by rw [show yaab (some ⟨b, 0, none⟩) c (n - 1) 2 = yaab (some ⟨b, 0, none⟩) c (n - 1) (tPP 101).sz from rfl, yaar (by omega), Nat.zero_add]]
  rw [← (tPP 101).cells_append, ← List.append_assoc] at s2
  have hl1 : (xs.take i ++ xs.drop (i + 1)).length = n - 1 := by rw [List.length_append, List.length_take, List.length_drop]; omega
  have hn1 : n - (n - 1) = 1 := by omega
  refine yaie ok_el s2 (by rw [(tPP 101).cells_len, hl1]) (by
    rw [List.length_drop, hdl, ← Nat.sub_mul]; congr 1; omega) fun h2 zs hzl s3 => ?_
  rw [e5]
  refine ⟨_, rfl, ⟨hl1, .inr ⟨b, zs ++ rest, rfl, by omega, ?_, rfl⟩⟩, ?_⟩
  · rw [List.length_append, hzl, hr, ← Nat.add_mul]; congr 1; omega
  · rw [← List.append_assoc]; exact s3
end Go.Proofs.YtdlkohenamlnaaaGreat
/- Sorted lists of pairs, in plain lists; what layer 3 needs. -/
namespace Go.Proofs.YtdlkohenamlnaaaGreat
open Go Go.Sx
abbrev TI : Ty Int := tI 3
abbrev E := Int × Int
abbrev ptr (b : Nat) : Value := .pointer (some ⟨b, 0, none⟩)
theorem Blk.cellA {h : Hp} {b : Nat} {cs : List Value} {e : TypeId} (hb : Blk h b cs e) (o : Nat) : cell h ((⟨b, 0, none⟩ : Addr).add o) = cs[o]? := by rw [yaaj, Nat.zero_add]; exact hb.cell o
abbrev Srt (l : List E) : Prop := l.Pairwise fun a b => a.1 < b.1
theorem Srt.app {a b : List E} : Srt (a ++ b) ↔ Srt a ∧ Srt b ∧ ∀ x ∈ a, ∀ y ∈ b, x.1 < y.1 := List.pairwise_append
theorem Srt.con {a : E} {b : List E} : Srt (a :: b) ↔ (∀ y ∈ b, a.1 < y.1) ∧ Srt b := List.pairwise_cons
def yabw : List E → Int → Bool
  | [], _ => false
  | e :: _, key => decide (e.1 = key)
theorem ybar {es : List E} {key : Int} (hs : Srt es) (hk : ∀ e ∈ es, key ≤ e.1) (hn : yabw es key = false) : ∀ e ∈ es, key < e.1 := by
  cases es with
  | nil => simp
  | cons e es =>
    rw [Srt.con] at hs
    have h1 : e.1 ≠ key := by simpa [yabw] using hn
    have h2 := hk e (by simp)
    intro x hx
    rcases List.mem_cons.1 hx with rfl | h
    · omega
    · have := hs.1 x h; omega
def lowS (xs : List E) (key : Int) : List E := xs.takeWhile fun e => decide (e.1 < key)
def upS (xs : List E) (key : Int) : List E := xs.dropWhile fun e => decide (e.1 < key)
def valOf : List E → Int | [] => 0 | e :: _ => e.2
theorem yaeh {xs : List E} {key : Int} : xs = lowS xs key ++ upS xs key := (List.takeWhile_append_dropWhile).symm
def yalh (l : List E) : Int × Int × Bool := match l.getLast? with | none => (0, 0, false) | some e => (e.1, e.2, true)
def yawl (l : List E) : Int × Int × Bool := match l with | [] => (0, 0, false) | e :: _ => (e.1, e.2, true)
theorem yapl {xs : List E} {key : Int} : ∀ e ∈ lowS xs key, e.1 < key := fun e he => of_decide_eq_true (List.all_eq_true.1 List.all_takeWhile e he)
theorem yaqf {xs : List E} {key : Int} : (lowS xs key).Sublist xs := List.takeWhile_sublist _
theorem yanz {xs : List E} {key : Int} : (upS xs key).Sublist xs := List.dropWhile_sublist _
theorem up_ge {xs : List E} {key : Int} (hs : Srt xs) : ∀ e ∈ upS xs key, key ≤ e.1 := by
  have h1 : Srt (upS xs key) := hs.sublist yanz
  intro e he
  cases h : upS xs key with
  | nil => rw [h] at he; cases he
  | cons y ys =>
    have hy : ¬ y.1 < key := by
      have := List.head?_dropWhile_not (p := fun e : E => decide (e.1 < key)) xs
      rw [show xs.dropWhile (fun e => decide (e.1 < key)) = y :: ys from h] at this
      simpa using this
    rw [h] at he h1
    rcases List.mem_cons.1 he with rfl | he
    · omega
    · have := (Srt.con.1 h1).1 e he; omega
theorem yalq {xs : List E} {key : Int} : (lowS xs key).length ≤ xs.length := yaqf.length_le
theorem yajc {α : Type} {xs X Y : List α} (h : xs = X ++ Y) : xs.take X.length = X ∧ xs.drop X.length = Y := by subst h; exact ⟨List.take_left' rfl, List.drop_left' rfl⟩
theorem yaff {xs : List E} {key : Int} : xs.take (lowS xs key).length = lowS xs key := (yajc yaeh).1
theorem yagq {xs : List E} {key : Int} : xs.drop (lowS xs key).length = upS xs key := (yajc yaeh).2
theorem yajm {xs : List E} {key : Int} (h : yabw (upS xs key) key = true) : (lowS xs key).length < xs.length ∧ xs.getD (lowS xs key).length (0, 0) = (key, valOf (upS xs key)) ∧ xs.drop ((lowS xs key).length + 1) = (upS xs key).tail := by
  have hu := yagq (xs := xs) (key := key)
  cases hc : upS xs key with
  | nil => rw [hc] at h; cases h
  | cons e es =>
    rw [hc] at h hu
    have hk : e.1 = key := of_decide_eq_true h
    have hlt : (lowS xs key).length < xs.length := by
      rcases Nat.lt_or_ge (lowS xs key).length xs.length with h | h
      · exact h
      · rw [List.drop_of_length_le h] at hu; cases hu
    rw [List.drop_eq_getElem_cons hlt] at hu
    injection hu with h1 h2
    refine ⟨hlt, ?_, h2⟩
    have : xs.getD (lowS xs key).length (0, 0) = xs[(lowS xs key).length] := by simp [List.getD, hlt]
    rw [this, h1]
    show e = (key, e.2)
    rw [← hk]
theorem yamj {xs : List E} {key : Int} (h : 0 < (lowS xs key).length) : (yalh (lowS xs key)).1 = (xs.getD ((lowS xs key).length - 1) (0, 0)).1 ∧ (yalh (lowS xs key)).2.1 = (xs.getD ((lowS xs key).length - 1) (0, 0)).2 ∧ (yalh (lowS xs key)).2.2 = true := by
  have hl := yalq (xs := xs) (key := key)
  have h1 : xs.getD ((lowS xs key).length - 1) (0, 0) = (lowS xs key).getD ((lowS xs key).length - 1) (0, 0) := by
    have : ∀ {X Y : List E}, xs = X ++ Y → 0 < X.length → xs.getD (X.length - 1) (0, 0) = X.getD (X.length - 1) (0, 0) := by
      rintro X Y rfl hX
      simp [List.getD, List.getElem?_append, Nat.sub_lt hX]
    exact this yaeh h
  rw [h1]
  have hlast : (lowS xs key).getLast? = some ((lowS xs key).getD ((lowS xs key).length - 1) (0, 0)) := by
    rw [List.getLast?_eq_getElem?, List.getElem?_eq_getElem (by omega)]
    simp [List.getD, (show (lowS xs key).length - 1 < (lowS xs key).length by omega)]
  simp only [yalh, hlast]
  exact ⟨trivial, trivial, trivial⟩
theorem yaoz {l : List E} {i : Nat} (h : i < l.length) : l.take (i + 1) = l.take i ++ [l.getD i (0, 0)] := by
  rw [List.take_succ_eq_append_getElem h]; simp [List.getD, h]
theorem yavf {X Y : List E} {key v : Int} (hX : Srt X) (hY : Srt Y) (h1 : ∀ e ∈ X, e.1 < key) (h2 : ∀ e ∈ Y, key < e.1) : Srt (X ++ (key, v) :: Y) := by
  rw [Srt.app, Srt.con]
  refine ⟨hX, ⟨h2, hY⟩, fun x hx y hy => ?_⟩
  rcases List.mem_cons.1 hy with rfl | hy
  · exact h1 x hx
  · exact Int.lt_trans (h1 x hx) (h2 y hy)
theorem yars {xs : List E} {key : Int} (hs : Srt xs) (hk : yabw (upS xs key) key = true) : ∀ e ∈ (upS xs key).tail, key < e.1 := by
  have h1 : Srt (upS xs key) := hs.sublist yanz
  cases h : upS xs key with
  | nil => simp
  | cons y ys =>
    rw [h] at h1 hk
    have hy : y.1 = key := of_decide_eq_true hk
    intro e he
    have := (Srt.con.1 h1).1 e he
    omega
theorem yahg {h : Hp} {p q : OA} {n m c d : Nat} {xs ys : List Int} (r1 : RdT TI h p n xs) (r2 : RdT TI h q m ys) (hn : n ≤ 1000000000) :
    yaae Tryz.prog 83 #[.slice p n c, .slice q m d] h (fun v h' => h' = h ∧ v = .bool (decide (xs = ys))) := by
  have l1 := r1.len
  have l2 := r2.len
  refine zcp_call ?_
  rw [zcp_b0]
  refine condN (fun hl => ?_) (fun hl => ?_)
  · exact ⟨rfl, by rw [decide_eq_false (fun h => hl (by subst h; omega))]⟩
  refine ⟨fun x h' => h' = h ∧ ∃ i : Nat, x.1 = i ∧ i ≤ n ∧ ∀ j, j < i → xs.getD j 0 = ys.getD j 0, fun x _ => n - x.1.toNat, ⟨rfl, 0, rfl, by omega, fun j hj => by omega⟩, ?_⟩
  rintro ⟨_, _⟩ h1 ⟨rfl, i, rfl, hin, heq⟩
  dsimp only
  rw [zcp_b1]
  refine condP (fun hlt => ?_) (fun hge => ?_)
  · refine r1.int (by omega) (by omega) (r2.int (by omega) (by omega) ?_)
    rw [Int.toNat_natCast]
    refine condN (fun hne => ?_) (fun he => ?_)
    · exact ⟨rfl, by rw [decide_eq_false (fun h => hne (by rw [h]))]⟩
    · rw [zcp_b2]
      refine ⟨⟨by omega, by omega⟩, ⟨rfl, i + 1, by simp only; omega, by omega, fun j hj => ?_⟩, by simp only; omega⟩
      rcases Nat.lt_or_ge j i with h1 | h1
      · exact heq j h1
      · obtain rfl : j = i := by omega
        exact he
  · rw [zcp_b3]
    exact ⟨rfl, by rw [decide_eq_true (yadm (d := 0) (by omega) (fun t ht => heq t (by omega)))]⟩
def RdS {α : Type} (h0 : Hp) (G : Bag) (T : Ty α) (p : OA) (n : Nat) (xs : List α) : Prop := ∀ h' B, St h0 h' (B + G) → RdT T h' p n xs
theorem RdS.own {α : Type} {h0 : Hp} {A G : Bag} {T : Ty α} {p : OA} {n c : Nat} {xs : List α} (a : Sl T p n c xs A) : RdS h0 (A + G) T p n xs := fun _ B s => a.rd (s.to (B := A + (B + G)))
end Go.Proofs.YtdlkohenamlnaaaGreat
/- Layer 3: which operations are valid. -/
namespace Go.Proofs.YtdlkohenamlnaaaGreat
open Go Go.Sx
theorem yadh {g : Nat} {q : Int → Bool} (hX : ∀ (z : Int) (h : Hp) (K : VK), K (.bool (q z)) h → callX Tryz.prog F g #[.int .i64 z] h K) {h : Hp} {p : OA} {n c : Nat} {zs : List Int} (r : RdT TI h p n zs) (hn : n ≤ 1000000) :
    yaae Tryz.prog 105 #[.slice p n c, .func (.func g) #[] #[]] h (fun v h' => h' = h ∧ v = .bool (zs.any q)) := by
  have hzl := r.len
  refine zea_call ?_
  rw [zea_b0]
  refine zej_call ?_
  rw [zej_b0]
  refine ⟨fun s h' => h' = h ∧ ∃ i : Nat, s.1 = i ∧ i ≤ n ∧ (zs.take i).any q = false, fun s _ => n - s.1.toNat, ⟨rfl, 0, rfl, by omega, rfl⟩, ?_⟩
  rintro ⟨_, _⟩ h1 ⟨rfl, i, rfl, hin, hno⟩
  dsimp only
  rw [zej_b1]
  refine condP (fun hlt => ?_) (fun hge => ?_)
  · refine r.int (by omega) (by omega) ?_
    rw [Int.toNat_natCast]
    refine hX _ _ _ ⟨_, rfl, ?_⟩
    have hil : i < zs.length := by omega
    have hg : zs.getD i 0 = zs[i] := by simp [List.getD, hil]
    refine yaay (fun h3 => ?_) (fun h3 => ?_)
    · refine ⟨_, rfl, rfl, ?_⟩
      rw [decide_eq_true (by omega), List.any_eq_true.2 ⟨_, List.getElem_mem hil, by rw [← hg]; exact h3⟩]
    · rw [zej_b2]
      refine ⟨⟨by omega, by omega⟩, ⟨rfl, i + 1, by simp only; omega, by omega, ?_⟩, by simp only; omega⟩
      rw [List.take_succ_eq_append_getElem hil, List.any_append, hno, ← hg]
      show (false || (q (zs.getD i 0) || false)) = false
      rw [h3]
      rfl
  · rw [zej_b3]
    refine ⟨_, rfl, rfl, ?_⟩
    rw [List.take_of_length_le (by omega)] at hno
    rw [hno]
    rfl
abbrev ChP (z : Int) : Prop := 0 ≤ z ∧ z ≤ 255
instance (z : Int) : Decidable (ChP z) := inferInstanceAs (Decidable (_ ∧ _))
abbrev W3 := ByteArray × Int × Bool
abbrev tW : Ty W3 := ⟨143, 3, fun w => [.string w.1, .int .i64 w.2.1, .bool w.2.2], (⟨#[]⟩, 0, false), fun _ => rfl, by decide, fun _ v hv => by simp at hv; rcases hv with rfl | rfl | rfl <;> rfl⟩
def wd1 : List W3 := [(⟨#[112, 117, 116]⟩, 2, true), (⟨#[103, 101, 116]⟩, 1, false), (⟨#[114, 101, 109, 111, 118, 101]⟩, 1, true), (⟨#[102, 108, 111, 111, 114]⟩, 1, false), (⟨#[99, 101, 105, 108, 105, 110, 103]⟩, 1, false), (⟨#[114, 97, 110, 107]⟩, 1, false), (⟨#[115, 101, 108, 101, 99, 116]⟩, 1, false), (⟨#[115, 105, 122, 101]⟩, 0, false)]
def wd2 : List W3 := [(⟨#[105, 110, 115, 101, 114, 116]⟩, 1, true), (⟨#[109, 105, 110]⟩, 0, false), (⟨#[100, 101, 108, 101, 116, 101, 109, 105, 110]⟩, 0, true), (⟨#[115, 105, 122, 101]⟩, 0, false)]
def wd3 : List W3 := [(⟨#[105, 110, 115, 101, 114, 116]⟩, 2, true), (⟨#[114, 101, 109, 111, 118, 101]⟩, 1, true), (⟨#[103, 101, 116]⟩, 1, false), (⟨#[115, 101, 116]⟩, 2, true), (⟨#[115, 117, 109]⟩, 2, false), (⟨#[114, 101, 118, 101, 114, 115, 101]⟩, 2, true), (⟨#[115, 105, 122, 101]⟩, 0, false)]
def wd4 : List W3 := [(⟨#[109, 97, 107, 101]⟩, 0, true), (⟨#[117, 110, 105, 111, 110]⟩, 2, true), (⟨#[115, 97, 109, 101]⟩, 2, false), (⟨#[115, 105, 122, 101]⟩, 1, false), (⟨#[99, 111, 117, 110, 116]⟩, 0, false)]
def wd5 : List W3 := [(⟨#[97, 100, 100]⟩, 3, true), (⟨#[114, 101, 109, 111, 118, 101]⟩, 2, true), (⟨#[99, 111, 117, 110, 116]⟩, 4, false), (⟨#[115, 117, 109]⟩, 4, false), (⟨#[115, 105, 122, 101]⟩, 0, false)]
def wd6 : List W3 := [(⟨#[97, 112, 112, 101, 110, 100]⟩, (-1), true), (⟨#[99, 111, 117, 110, 116]⟩, (-1), false), (⟨#[102, 105, 110, 100]⟩, (-1), false), (⟨#[115, 105, 122, 101]⟩, 0, false)]
def ar1 : List Int := [2, 1, 1, 1, 1, 1, 1, 0]
def ar2 : List Int := [1, 0, 0, 0]
def ar3 : List Int := [2, 1, 1, 2, 2, 2, 0]
def ar4 : List Int := [0, 2, 2, 1, 0]
def ar5 : List Int := [3, 2, 4, 4, 0]
def ar6 : List Int := [(-1), (-1), (-1), 0]
def arT (k : Int) : List Int := if k = 1 then ar1 else if k = 2 then ar2 else if k = 3 then ar3 else if k = 4 then ar4 else if k = 5 then ar5 else if k = 6 then ar6 else []
def wdT (k : Int) : List W3 := if k = 1 then wd1 else if k = 2 then wd2 else if k = 3 then wd3 else if k = 4 then wd4 else if k = 5 then wd5 else if k = 6 then wd6 else []
theorem wd_ar (k : Int) : (wdT k).map (fun w => w.2.1) = arT k := by
  unfold wdT arT
  repeat' split
  all_goals rfl
theorem yald (k : Int) (h : Hp) : yaae Tryz.prog 90 #[.int .i64 k] h (fun v h' => ∃ p c, v = .slice p (wdT k).length c ∧ RdT tW h' p (wdT k).length (wdT k) ∧ Ext h h') := by
  refine zbq_call ?_
  rw [zbq_b0]
  unfold wdT
  refine condP (fun hk => ?_) (fun hk1 => ?_)
  · rw [if_pos hk]
    refine (St.start h).new (cs := tW.cells wd1) fun b1 h1 x1 s1 => ?_
    exact ⟨_, _, rfl, (Sl.of_blk (T := tW) (xs := wd1) rfl rfl).rd s1, x1⟩
  rw [if_neg hk1]
  refine condP (fun hk => ?_) (fun hk2 => ?_)
  · rw [if_pos hk]
    refine (St.start h).new (cs := tW.cells wd2) fun b1 h1 x1 s1 => ?_
    exact ⟨_, _, rfl, (Sl.of_blk (T := tW) (xs := wd2) rfl rfl).rd s1, x1⟩
  rw [if_neg hk2]
  refine condP (fun hk => ?_) (fun hk3 => ?_)
  · rw [if_pos hk]
    refine (St.start h).new (cs := tW.cells wd3) fun b1 h1 x1 s1 => ?_
    exact ⟨_, _, rfl, (Sl.of_blk (T := tW) (xs := wd3) rfl rfl).rd s1, x1⟩
  rw [if_neg hk3]
  refine condP (fun hk => ?_) (fun hk4 => ?_)
  · rw [if_pos hk]
    refine (St.start h).new (cs := tW.cells wd4) fun b1 h1 x1 s1 => ?_
    exact ⟨_, _, rfl, (Sl.of_blk (T := tW) (xs := wd4) rfl rfl).rd s1, x1⟩
  rw [if_neg hk4]
  refine condP (fun hk => ?_) (fun hk5 => ?_)
  · rw [if_pos hk]
    refine (St.start h).new (cs := tW.cells wd5) fun b1 h1 x1 s1 => ?_
    exact ⟨_, _, rfl, (Sl.of_blk (T := tW) (xs := wd5) rfl rfl).rd s1, x1⟩
  rw [if_neg hk5]
  refine condP (fun hk => ?_) (fun hk6 => ?_)
  · rw [if_pos hk]
    refine (St.start h).new (cs := tW.cells wd6) fun b1 h1 x1 s1 => ?_
    exact ⟨_, _, rfl, (Sl.of_blk (T := tW) (xs := wd6) rfl rfl).rd s1, x1⟩
  rw [if_neg hk6]
  rw [zbq_b1]
  exact ⟨_, _, rfl, RdT.nil _ _, Ext.refl h⟩
theorem yasi (k : Int) (h : Hp) : yaae Tryz.prog 73 #[.int .i64 k] h (fun v h' => ∃ p c, v = .slice p (arT k).length c ∧ Ext h h') := by
  refine zcu_call ?_
  rw [zcu_b0]
  unfold arT
  refine condP (fun hk => ?_) (fun hk1 => ?_)
  · rw [if_pos hk]
    exact yaed fun b1 h1 _ x1 _ _ => ⟨_, _, rfl, x1⟩
  rw [if_neg hk1]
  refine condP (fun hk => ?_) (fun hk2 => ?_)
  · rw [if_pos hk]
    exact yaed fun b1 h1 _ x1 _ _ => ⟨_, _, rfl, x1⟩
  rw [if_neg hk2]
  refine condP (fun hk => ?_) (fun hk3 => ?_)
  · rw [if_pos hk]
    exact yaed fun b1 h1 _ x1 _ _ => ⟨_, _, rfl, x1⟩
  rw [if_neg hk3]
  refine condP (fun hk => ?_) (fun hk4 => ?_)
  · rw [if_pos hk]
    exact yaed fun b1 h1 _ x1 _ _ => ⟨_, _, rfl, x1⟩
  rw [if_neg hk4]
  refine condP (fun hk => ?_) (fun hk5 => ?_)
  · rw [if_pos hk]
    exact yaed fun b1 h1 _ x1 _ _ => ⟨_, _, rfl, x1⟩
  rw [if_neg hk5]
  refine condP (fun hk => ?_) (fun hk6 => ?_)
  · rw [if_pos hk]
    exact yaed fun b1 h1 _ x1 _ _ => ⟨_, _, rfl, x1⟩
  rw [if_neg hk6]
  rw [zcu_b1]
  exact ⟨_, _, rfl, Ext.refl h⟩
theorem yavx {k c : Int} (h : Hp) (hk : 1 ≤ k ∧ k ≤ 6) (hc : 1 ≤ c ∧ c ≤ (arT k).length) : yaae Tryz.prog 74 #[.int .i64 k, .int .i64 c] h (fun v h' => v = .int .i64 ((arT k).getD (c - 1).toNat 0) ∧ Ext h h') := by
  refine zcl_call ?_
  rw [zcl_b0]
  have rd : ∀ {xs : List Int} {b : Nat} {h' : Hp}, St h h' (cA b (TI.cells xs) 3 + 0) → (xs.length ≤ 100 ∧ 1 ≤ c ∧ c ≤ (xs.length : Int)) → InR (c - 1) ∧ (0 ≤ c - 1 ∧ c - 1 < ((xs.length : Nat) : Int)) ∧ ∃ n1, cell h' ((⟨b, 0, none⟩ : Addr).add (Int.toNat (c - 1) * 1)) = some (.int .i64 n1) ∧ (Value.int .i64 n1 = .int .i64 (xs.getD (c - 1).toNat 0) ∧ Ext h h') := by
    intro xs b h' s hc
    have := s.ext
    refine ⟨⟨by omega, by omega⟩, ⟨by omega, by omega⟩, ?_⟩
    obtain ⟨a, ha, hcell⟩ := ((Sl.of_blk (T := TI) (xs := xs) rfl rfl).rd s).at_ (i := (c - 1).toNat) (by omega)
    cases ha
    exact ⟨_, hcell 0 Nat.one_pos, rfl, s.ext⟩
  refine condP (fun e => ?_) (fun hk1 => ?_)
  · subst e
    exact (St.start h).new (cs := TI.cells ar1) fun b1 h1 _ s1 => rd (xs := ar1) s1 ⟨by decide, hc⟩
  refine condP (fun e => ?_) (fun hk2 => ?_)
  · subst e
    exact (St.start h).new (cs := TI.cells ar2) fun b1 h1 _ s1 => rd (xs := ar2) s1 ⟨by decide, hc⟩
  refine condP (fun e => ?_) (fun hk3 => ?_)
  · subst e
    exact (St.start h).new (cs := TI.cells ar3) fun b1 h1 _ s1 => rd (xs := ar3) s1 ⟨by decide, hc⟩
  refine condP (fun e => ?_) (fun hk4 => ?_)
  · subst e
    exact (St.start h).new (cs := TI.cells ar4) fun b1 h1 _ s1 => rd (xs := ar4) s1 ⟨by decide, hc⟩
  refine condP (fun e => ?_) (fun hk5 => ?_)
  · subst e
    exact (St.start h).new (cs := TI.cells ar5) fun b1 h1 _ s1 => rd (xs := ar5) s1 ⟨by decide, hc⟩
  obtain rfl : k = 6 := by omega
  rw [zcl_b1]
  exact (St.start h).new (cs := TI.cells ar6) fun b1 h1 _ s1 => rd (xs := ar6) s1 ⟨by decide, hc⟩
def OpV (k c : Int) (zs : List Int) : Prop := (1 ≤ c ∧ c ≤ (arT k).length) ∧ (if (arT k).getD (c - 1).toNat 0 < 0 then (1 ≤ zs.length ∧ zs.length ≤ 64) ∧ ∀ z ∈ zs, ChP z else (zs.length : Int) = (arT k).getD (c - 1).toNat 0 ∧ ∀ z ∈ zs, KeyP z)
instance (k c : Int) (zs : List Int) : Decidable (OpV k c zs) := by unfold OpV; infer_instance
end Go.Proofs.YtdlkohenamlnaaaGreat
/- Layer 3: the two judges of an operation. -/
namespace Go.Proofs.YtdlkohenamlnaaaGreat
open Go Go.Sx
theorem yauq (z : Int) (h : Hp) : yaae Tryz.prog 107 #[.int .i64 z] h (fun v h' => v = .bool (decide (ChP z)) ∧ h' = h) := by
  refine zaw_call ?_
  rw [zaw_b0]
  refine condP (fun h1 => ⟨?_, rfl⟩) (fun h1 => ⟨?_, rfl⟩)
  · congr 1; exact decide_eq_decide.2 ⟨fun h2 => ⟨h1, h2⟩, fun h2 => h2.2⟩
  · rw [decide_eq_false (fun h2 => h1 h2.1)]
theorem yavk (z : Int) (h : Hp) : yaae Tryz.prog 109 #[.int .i64 z] h (fun v h' => v = .bool (decide (KeyP z)) ∧ h' = h) := by
  refine zbf_call ?_
  rw [zbf_b0]
  refine condP (fun h1 => ⟨?_, rfl⟩) (fun h1 => ⟨?_, rfl⟩)
  · congr 1; exact decide_eq_decide.2 ⟨fun h2 => ⟨h1, h2⟩, fun h2 => h2.2⟩
  · rw [decide_eq_false (fun h2 => h1 h2.1)]
theorem yazx (z : Int) (h : Hp) : yaae Tryz.prog 75 #[.int .i64 z] h (fun v h' => v = .bool (decide (KeyP z)) ∧ h' = h) := by
  refine zdb_call ?_
  rw [zdb_b0]
  refine condP (fun h1 => ⟨?_, rfl⟩) (fun h1 => ⟨?_, rfl⟩)
  · congr 1; exact decide_eq_decide.2 ⟨fun h2 => ⟨h1, h2⟩, fun h2 => h2.2⟩
  · rw [decide_eq_false (fun h2 => h1 h2.1)]
theorem ybbk (z : Int) (h : Hp) (K : VK) (hk : K (.bool (!decide (ChP z))) h) : callX Tryz.prog F 106 #[.int .i64 z] h K := by
  refine yacw (by kernel_rfl) (zas_call ?_)
  rw [zas_b0]
  exact (yauq z h).mono fun v h' ⟨hv, hh⟩ => ⟨_, hv, by rw [hh]; exact hk⟩
theorem ybbd (z : Int) (h : Hp) (K : VK) (hk : K (.bool (!decide (KeyP z))) h) : callX Tryz.prog F 108 #[.int .i64 z] h K := by
  refine yacw (by kernel_rfl) (zat_call ?_)
  rw [zat_b0]
  exact (yavk z h).mono fun v h' ⟨hv, hh⟩ => ⟨_, hv, by rw [hh]; exact hk⟩
theorem yaqh {P : Int → Prop} [DecidablePred P] {zs : List Int} : (!zs.any fun z => !decide (P z)) = decide (∀ z ∈ zs, P z) := by
  induction zs with
  | nil => rfl
  | cons z zs ih =>
    rw [List.any_cons, Bool.not_or, ih, Bool.not_not]
    by_cases h1 : P z <;> by_cases h2 : ∀ z ∈ zs, P z <;> simp [h1, h2]
theorem yamo {h : Hp} {p : OA} {n : Nat} {l : List W3} {i : Int} {Q : ByteArray → Int → Bool → Prop} (r : RdT tW h p n l) (h0 : 0 ≤ i) (h1 : i < n) (hq : Q (l.getD i.toNat tW.d).1 (l.getD i.toNat tW.d).2.1 (l.getD i.toNat tW.d).2.2) :
    (0 ≤ i ∧ i < (n : Int)) ∧ NN p fun a => ∃ x : ByteArray, ∃ y : Int, ∃ z : Bool, cell h (a.add (Int.toNat i * 3)) = some (.string x) ∧ cell h ((a.add (Int.toNat i * 3)).add 1) = some (.int .i64 y) ∧ cell h ((a.add (Int.toNat i * 3)).add 2) = some (.bool z) ∧ Q x y z :=
  r.idx h0 h1 fun _ _ hc => ⟨_, _, _, hc 0 (show 0 < 3 by decide), hc 1 (show 1 < 3 by decide), hc 2 (show 2 < 3 by decide), hq⟩
theorem ybax (k : Int) : (wdT k).length = (arT k).length := by rw [← wd_ar, List.length_map]
theorem ybbs (k : Int) (i : Nat) : ((wdT k).getD i tW.d).2.1 = (arT k).getD i 0 := by
  rw [← wd_ar]
  simp only [List.getD, List.getElem?_map]
  cases (wdT k)[i]? <;> rfl
theorem yaxl (k : Int) (j : Nat) : (arT k).getD j 0 ≤ 4 := by
  have h : ∀ x ∈ arT k, x ≤ 4 := by
    unfold arT
    repeat' split
    all_goals decide
  rw [List.getD_eq_getElem?_getD]
  cases hj : (arT k)[j]? with
  | none => simp
  | some x => exact h x (List.mem_of_getElem? hj)
theorem yajw {k c : Int} {zs : List Int} {h : Hp} {p : OA} {n cc : Nat} (r : RdT TI h p n zs) :
    yaae Tryz.prog 71 #[.int .i64 k, .agg #[.int .i64 c, .slice p n cc]] h (fun v h' => v = .bool (decide (OpV k c zs)) ∧ Ext h h') := by
  have hzl := r.len
  refine zar_call ?_
  rw [zar_b0]
  refine (St.start h).new (cs := [.int .i64 c, .slice p n cc]) fun b1 h1 x1 s1 => ?_
  refine (yald k h1).mono fun v1 h2 ⟨q, d, hv1, rw1, x2⟩ => ⟨_, _, _, hv1, ?_⟩
  have s2 := s1.grow x2
  have kb := s2.blk
  have hx2 : Ext h h2 := x1.trans x2
  have hwl := ybax k
  refine ⟨_, kb.cell 0, condP (fun hc => ?_) (fun hc => ⟨_, kb.cell 0, condP (fun hc2 => ?_) (fun hc2 => ?_)⟩)⟩
  · exact ⟨by rw [decide_eq_false (fun h => by have := h.1; omega)], hx2⟩
  · exact ⟨by rw [decide_eq_false (fun h => by have := h.1; omega)], hx2⟩
  have hlen8 : (arT k).length ≤ 8 := by unfold arT; repeat' split
                                        all_goals decide
  rw [zar_b1]
  refine ⟨_, kb.cell 0, ⟨by omega, by omega⟩, yamo rw1 (by omega) (by omega) ?_⟩
  rw [ybbs]
  generalize ha : (arT k).getD (c - 1).toNat 0 = a
  refine s2.new (cs := [.string ⟨#[]⟩, .int .i64 0, .bool false]) fun b3 h3 _ s3 => ?_
  refine s3.wr rfl (by simp) fun h4 s4 => ?_
  refine s4.wr (o := 1) (yaaj _ _ _) (by simp) fun h5 s5 => ?_
  refine s5.wr (o := 2) (yaaj _ _ _) (by simp) fun h6 s6 => ?_
  have x6 : Ext h h6 := s6.ext
  have kb6 := s6.drop.blk
  have r6 := r.ext x6
  refine ⟨_, Blk.cellA s6.blk 1, condP (fun hneg => ?_) (fun hneg => ?_)⟩
  · have hiff : OpV k c zs ↔ (1 ≤ zs.length ∧ zs.length ≤ 64) ∧ ∀ z ∈ zs, ChP z := by
      unfold OpV
      rw [ha, if_pos hneg]
      exact ⟨fun h => h.2, fun h => ⟨⟨by omega, by omega⟩, h⟩⟩
    refine ⟨_, _, _, Blk.cellA kb6 1, condP (fun h1 => ?_) (fun h1 => ?_)⟩
    · refine ⟨_, _, _, Blk.cellA kb6 1, condP (fun h2 => ?_) (fun h2 => ?_)⟩
      · refine ⟨_, _, _, Blk.cellA kb6 1, (yadh ybbk r6 (by omega)).mono fun v2 h7 ⟨hh7, hv2⟩ => ⟨_, hv2, ?_, ?_⟩⟩
        · rw [yaqh]
          congr 1
          exact decide_eq_decide.2 (by rw [hiff]; exact ⟨fun h => ⟨⟨by omega, by omega⟩, h⟩, fun h => h.2⟩)
        · rw [hh7]; exact x6
      · exact ⟨by rw [decide_eq_false (fun h => by have := (hiff.1 h).1; omega)], x6⟩
    · exact ⟨by rw [decide_eq_false (fun h => by have := (hiff.1 h).1; omega)], x6⟩
  · have hiff : OpV k c zs ↔ (zs.length : Int) = a ∧ ∀ z ∈ zs, KeyP z := by
      unfold OpV
      rw [ha, if_neg hneg]
      exact ⟨fun h => h.2, fun h => ⟨⟨by omega, by omega⟩, h⟩⟩
    refine ⟨_, _, _, Blk.cellA kb6 1, _, Blk.cellA s6.blk 1, condP (fun h1 => ?_) (fun h1 => ?_)⟩
    · refine ⟨_, _, _, Blk.cellA kb6 1, (yadh ybbd r6 (by have := yaxl k (c - 1).toNat; omega)).mono fun v2 h7 ⟨hh7, hv2⟩ => ⟨_, hv2, ?_, ?_⟩⟩
      · rw [yaqh]
        congr 1
        exact decide_eq_decide.2 (by rw [hiff]; exact ⟨fun h => ⟨by omega, h⟩, fun h => h.2⟩)
      · rw [hh7]; exact x6
    · exact ⟨by rw [decide_eq_false (fun h => by have := (hiff.1 h).1; omega)], x6⟩
theorem yaqg {k c : Int} (hk : 1 ≤ k ∧ k ≤ 6) (hc : 1 ≤ c ∧ c ≤ (arT k).length) : (k = 6 → (arT k).getD (c - 1).toNat 0 ≤ 0) ∧ (k ≠ 6 → 0 ≤ (arT k).getD (c - 1).toNat 0) ∧ (arT k).getD (c - 1).toNat 0 ≤ 4 := by
  have hlen8 : (arT k).length ≤ 8 := by unfold arT; repeat' split
                                        all_goals decide
  generalize hj : (c - 1).toNat = j
  have hj8 : j < 8 := by omega
  have hk' : k = 1 ∨ k = 2 ∨ k = 3 ∨ k = 4 ∨ k = 5 ∨ k = 6 := by omega
  rcases hk' with rfl | rfl | rfl | rfl | rfl | rfl
  · exact ⟨fun h => by omega, fun _ => (by decide : ∀ j < 8, 0 ≤ (arT 1).getD j 0) j hj8, (by decide : ∀ j < 8, (arT 1).getD j 0 ≤ 4) j hj8⟩
  · exact ⟨fun h => by omega, fun _ => (by decide : ∀ j < 8, 0 ≤ (arT 2).getD j 0) j hj8, (by decide : ∀ j < 8, (arT 2).getD j 0 ≤ 4) j hj8⟩
  · exact ⟨fun h => by omega, fun _ => (by decide : ∀ j < 8, 0 ≤ (arT 3).getD j 0) j hj8, (by decide : ∀ j < 8, (arT 3).getD j 0 ≤ 4) j hj8⟩
  · exact ⟨fun h => by omega, fun _ => (by decide : ∀ j < 8, 0 ≤ (arT 4).getD j 0) j hj8, (by decide : ∀ j < 8, (arT 4).getD j 0 ≤ 4) j hj8⟩
  · exact ⟨fun h => by omega, fun _ => (by decide : ∀ j < 8, 0 ≤ (arT 5).getD j 0) j hj8, (by decide : ∀ j < 8, (arT 5).getD j 0 ≤ 4) j hj8⟩
  · exact ⟨fun _ => (by decide : ∀ j < 8, (arT 6).getD j 0 ≤ 0) j hj8, fun h => absurd rfl h, (by decide : ∀ j < 8, (arT 6).getD j 0 ≤ 4) j hj8⟩
theorem yaup {k c : Int} {zs : List Int} {h : Hp} {p : OA} {n cc : Nat} (r : RdT TI h p n zs) :
    yaae Tryz.prog 37 #[.int .i64 k, .agg #[.int .i64 c, .slice p n cc]] h (fun v h' => v = .bool (decide (OpV k c zs)) ∧ Ext h h') := by
  have hzl := r.len
  refine zct_call ?_
  rw [zct_b0]
  refine (St.start h).new (cs := [.int .i64 c, .slice p n cc]) fun b1 h1 x1 s1 => ?_
  have kb := s1.blk
  have out : ¬ (1 ≤ k ∧ k ≤ 6) → ¬ OpV k c zs := by
    intro hk ⟨h, _⟩
    have : arT k = [] := by unfold arT; rw [if_neg (by omega), if_neg (by omega), if_neg (by omega), if_neg (by omega), if_neg (by omega), if_neg (by omega)]
    rw [this] at h
    simp at h
    omega
  refine condP (fun h2 => ?_) (fun h2 => condP (fun h3 => ?_) (fun h3 => ?_))
  · exact ⟨by rw [decide_eq_false (out (by omega))], x1⟩
  · exact ⟨by rw [decide_eq_false (out (by omega))], x1⟩
  clear out
  refine ⟨_, kb.cell 0, condP (fun hc => ?_) (fun hc => ⟨_, kb.cell 0, ?_⟩)⟩
  · exact ⟨by rw [decide_eq_false (fun h => by have := h.1; omega)], x1⟩
  refine (yasi k h1).mono fun v1 h4 ⟨q, d, hv1, x4⟩ => ⟨_, _, _, hv1, ?_⟩
  have s4 := s1.grow x4
  have kb := s4.blk
  have hx4 : Ext h h4 := x1.trans x4
  refine ⟨⟨_, kb.cell 0, rfl⟩, condP (fun hc2 => ?_) (fun hc2 => ?_)⟩
  · exact ⟨by rw [decide_eq_false (fun h => by have := h.1; omega)], hx4⟩
  obtain ⟨f1, f2, f3⟩ := yaqg (k := k) (c := c) (by omega) (by omega)
  have f4 : ∀ z ∈ zs, ChP z → KeyP z := fun z _ hz => ⟨by omega, by omega⟩
  have hiff : OpV k c zs ↔ zs.length ≤ 64 ∧ (0 ≤ (arT k).getD (c - 1).toNat 0 → (zs.length : Int) = (arT k).getD (c - 1).toNat 0) ∧ ((arT k).getD (c - 1).toNat 0 < 0 → zs.length ≠ 0) ∧ ∀ z ∈ zs, KeyP z ∧ (k = 6 → ChP z) := by
    unfold OpV
    by_cases hneg : (arT k).getD (c - 1).toNat 0 < 0
    · rw [if_pos hneg]
      have hk6 : k = 6 := by
        rcases Decidable.em (k = 6) with h | h
        · exact h
        · have := f2 h; omega
      refine ⟨fun h => ⟨h.2.1.2, fun h' => by omega, fun _ h' => by have := h.2.1.1; omega, fun z hz => ⟨f4 z hz (h.2.2 z hz), fun _ => h.2.2 z hz⟩⟩, fun h => ⟨⟨by omega, by omega⟩, ⟨by have := h.2.2.1 hneg; omega, h.1⟩, fun z hz => (h.2.2.2 z hz).2 hk6⟩⟩
    · rw [if_neg hneg]
      refine ⟨fun h => ⟨by have := h.2.1; omega, fun _ => h.2.1, fun h' => absurd h' hneg, fun z hz => ⟨h.2.2 z hz, fun hk6 => ?_⟩⟩, fun h => ⟨⟨by omega, by omega⟩, h.2.1 (by omega), fun z hz => (h.2.2.2 z hz).1⟩⟩
      have h1 := f1 hk6
      have h2 := h.2.1
      have : zs = [] := List.eq_nil_of_length_eq_zero (by omega)
      subst this
      cases hz
  refine ⟨_, _, _, Blk.cellA kb 1, condP (fun hl => ?_) (fun hl => ?_)⟩
  · exact ⟨by rw [decide_eq_false (fun h => by have := (hiff.1 h).1; omega)], hx4⟩
  rw [zct_b1]
  refine ⟨_, kb.cell 0, ?_⟩
  refine (yavx h4 (by omega) (by omega)).mono fun v2 h5 ⟨hv2, x5⟩ => ⟨_, hv2, ?_⟩
  have s5 := s4.grow x5
  have kb := s5.blk
  have x5 : Ext h h5 := hx4.trans x5
  generalize (arT k).getD (c - 1).toNat 0 = a at f1 f2 f3 hiff
  have loop : (0 ≤ a → (zs.length : Int) = a) → (a < 0 → zs.length ≠ 0) → zct_b2 k (some ⟨b1, 0, none⟩) h5 fun v h' => v = .bool (decide (OpV k c zs)) ∧ Ext h h' := by
    intro g1 g2
    rw [zct_b2]
    refine ⟨fun s h' => h' = h5 ∧ ∃ i : Nat, s.1 = i ∧ i ≤ n ∧ ∀ z ∈ zs.take i, KeyP z ∧ (k = 6 → ChP z), fun s _ => n - s.1.toNat, ⟨rfl, 0, rfl, by omega, by simp⟩, ?_⟩
    rintro ⟨_, _⟩ h6 ⟨rfl, i, rfl, hin, hall⟩
    dsimp only
    rw [zct_b3]
    have r6 := r.ext x5
    refine ⟨_, _, _, Blk.cellA kb 1, condP (fun hlt => ?_) (fun hge => ?_)⟩
    · have hil : i < zs.length := by omega
      have hg : zs.getD i 0 = zs[i] := by simp [List.getD, hil]
      have hm : zs.getD i 0 ∈ zs := by rw [hg]; exact List.getElem_mem hil
      refine ⟨_, _, _, Blk.cellA kb 1, r6.int (by omega) (by omega) ?_⟩
      rw [Int.toNat_natCast]
      refine (yazx _ h6).mono fun v3 h7 ⟨hv3, hh7⟩ => ⟨_, hv3, ?_⟩
      subst hh7
      refine condN (fun hno => ?_) (fun hyes => ?_)
      · exact ⟨by rw [decide_eq_false (fun h => hno ((hiff.1 h).2.2.2 _ hm).1)], x5⟩
      have next : (k = 6 → ChP (zs.getD i 0)) → zct_b4 k (some ⟨b1, 0, none⟩) (i : Int) h7 (fun s' h' => (h' = h7 ∧ ∃ i : Nat, s'.1 = i ∧ i ≤ n ∧ ∀ z ∈ zs.take i, KeyP z ∧ (k = 6 → ChP z)) ∧ n - s'.1.toNat < n - Int.toNat (i : Int)) (fun v h' => v = .bool (decide (OpV k c zs)) ∧ Ext h h') := by
        intro hch
        rw [zct_b4]
        refine ⟨⟨by omega, by omega⟩, ⟨rfl, i + 1, by simp only; omega, by omega, fun z hz => ?_⟩, by simp only; omega⟩
        rw [List.take_succ_eq_append_getElem hil, List.mem_append, List.mem_singleton, ← hg] at hz
        rcases hz with hz | rfl
        · exact hall z hz
        · exact ⟨hyes, hch⟩
      refine condP (fun hk6 => ?_) (fun hk6 => next fun h => absurd h hk6)
      refine ⟨_, _, _, Blk.cellA kb 1, r6.int (by omega) (by omega) ?_⟩
      rw [Int.toNat_natCast]
      refine condP (fun hlow => ?_) (fun hlow => ?_)
      · exact ⟨by rw [decide_eq_false (fun h => by have := ((hiff.1 h).2.2.2 _ hm).2 hk6; omega)], x5⟩
      refine ⟨_, _, _, Blk.cellA kb 1, r6.int (by omega) (by omega) ?_⟩
      rw [Int.toNat_natCast]
      refine condP (fun hhi => ?_) (fun hhi => next fun _ => ⟨by omega, by omega⟩)
      exact ⟨by rw [decide_eq_false (fun h => by have := ((hiff.1 h).2.2.2 _ hm).2 hk6; omega)], x5⟩
    · rw [zct_b5]
      rw [List.take_of_length_le (by omega)] at hall
      exact ⟨by rw [decide_eq_true (hiff.2 ⟨by omega, g1, g2, hall⟩)], x5⟩
  refine condP (fun ha => ?_) (fun ha => ?_)
  · refine ⟨_, _, _, Blk.cellA kb 1, condN (fun hne => ?_) (fun he => ?_)⟩
    · exact ⟨by rw [decide_eq_false (fun h => by have := (hiff.1 h).2.1; omega)], x5⟩
    · exact yaam (decide_eq_false (by omega)) (loop (fun _ => by omega) (fun h => by omega))
  · refine condP (fun hneg => ?_) (fun hneg => by omega)
    refine ⟨_, _, _, Blk.cellA kb 1, condP (fun h0 => ?_) (fun h0 => ?_)⟩
    · exact ⟨by rw [decide_eq_false (fun h => by have := (hiff.1 h).2.2.1 hneg; omega)], x5⟩
    · exact loop (fun h => by omega) (fun _ => by omega)
end Go.Proofs.YtdlkohenamlnaaaGreat
/- Layer 3: states, rows, the reference's small functions. -/
namespace Go.Proofs.YtdlkohenamlnaaaGreat
open Go Go.Sx
abbrev RowP (s : SH) (l : List Int) (A : Bag) : Prop := Sl TI s.1 s.2.1 s.2.2 l A
abbrev RowsA : SH → List (List Int) → Bag → Prop := Nest 23 RowP
abbrev TR : Ty SH := tS 23
theorem yalk : ElOk TR Tryz.prog 64 := yadl (by kernel_rfl)
theorem yajo {h0 h : Hp} {p : OA} {n c : Nat} {q : OA} {m d : Nat} {xs : List (List Int)} {x : List Int} {A B G : Bag} {R : Hp → Prop} {e' : TypeId} {k : OA → Nat → Nat → Hp → Prop}
    (s : St h0 h (A + (B + G))) (a : RowsA (p, n, c) xs A) (b : RowP (q, m, d) x B) (he : e' = 23) (hn : n + 1 < 1073741824) (hR : ∀ h1, Ext h h1 → R h1)
    (hk : ∀ p' c' h' A', RowsA (p', n + 1, c') (xs ++ [x]) A' → St h0 h' (A' + G) → k p' (n + 1) c' h') :
    New h (.cells #[.slice q m d] e') fun b h1 => R h1 ∧ yaan Tryz.prog 64 64 (.slice p n c) (.slice (some ⟨b, 0, none⟩) 1 1) h1 (slK k) := by
  subst he
  obtain ⟨hs, B0, B1, rfl, h1, h2⟩ := a
  refine s.new (cs := [.slice q m d]) fun b h3 x3 s3 => ⟨hR h3 x3, ?_⟩
  have sx : Sl TR (some ⟨b, 0, none⟩) 1 1 [(q, m, d)] (cA b [.slice q m d] 23) := Sl.of_blk (T := TR) (xs := [(q, m, d)]) rfl rfl
  refine yaat yalk (s3.to (B := B0 + (cA b [.slice q m d] 23 + (B1 + (B + G))))) h1 (sx.rd s3) hn fun p' c' h' A' a' s' => ?_
  have s5 := (s'.to (B := cA b [.slice q m d] 23 + (A' + (B1 + B) + G))).drop
  exact hk p' c' h' (A' + (B1 + B)) ⟨hs ++ [(q, m, d)], A', B1 + B, rfl, a', h2.append (AllH.one ‹RowP (q, m, d) x B›)⟩ s5
theorem yaaw {s : SH} {xs : List (List Int)} {B : Bag} (n : RowsA s xs B) : xs.length = s.2.1 := Nest.len n
theorem yaiu {h0 h : Hp} {p : OA} {n c : Nat} {rows : List (List Int)} {B G : Bag} {i j : Int} {Q : Int → Prop} (na : RowsA (p, n, c) rows B) (st : St h0 h (B + G)) (hi0 : 0 ≤ i) (hi : i < n) (hj0 : 0 ≤ j) (hj : j < (rows.getD i.toNat []).length)
    (hq : Q ((rows.getD i.toNat []).getD j.toNat 0)) : (0 ≤ i ∧ i < (n : Int)) ∧ NN p fun a => ∃ a8 L5 C5, cell h (a.add (i.toNat * 1)) = some (.slice a8 L5 C5) ∧ (0 ≤ j ∧ j < (L5 : Int)) ∧ NN a8 fun a9 => ∃ n4, cell h (a9.add (j.toNat * 1)) = some (.int .i64 n4) ∧ Q n4 := by
  refine Nest.at_ (d := []) na st hi0 hi fun q l d Bi Br o hB => ?_
  have o : Sl TI q l d (rows.getD i.toNat []) Bi := o
  have hl := o.len
  have st2 : St h0 h (Bi + (Br + G)) := by rw [hB] at st; exact st.to
  exact (o.rd st2).int hj0 (by omega) hq
theorem yaxd {h : Hp} {p : OA} {n c : Nat} {xs : List Int} (r : RdT TI h p n xs) (hn : n ≤ 1000000) : yaae Tryz.prog 111 #[.slice p n c] h (fun v h' => ∃ q d A, v = .slice q n d ∧ Sl TI q n d xs A ∧ St h h' A) := by
  refine zdg_call ?_
  rw [zdg_b0]
  refine (St.start h).new (cs := []) fun b1 h1 x1 s1 => ?_
  refine yaat yade s1 (Sl.of_blk (T := TI) (xs := []) rfl rfl) (r.ext x1) (by omega) fun a1 c1 h2 A o s2 => ?_
  rw [Nat.zero_add, List.nil_append] at o
  rw [Nat.zero_add]
  exact ⟨_, _, A, rfl, o, s2.to⟩
theorem yacz {k z : Int} {h : Hp} {p : OA} {n c : Nat} : yaae Tryz.prog 112 #[.agg #[.int .i64 k, .slice p n c], .int .i64 z] h (fun v h' => v = .tuple #[.agg #[.int .i64 k, .slice p n c], .agg #[.int .i64 0, .int .i64 z, .slice none 0 0]] ∧ Ext h h') := by
  refine zdk_call ?_
  rw [zdk_b0]
  refine (St.start h).new (cs := [.int .i64 k, .slice p n c]) fun b1 h1 _ s1 => ?_
  refine s1.new (cs := [.int .i64 0, .slice none 0 0]) fun b2 h2 _ s2 => ?_
  refine s2.new (cs := [.int .i64 0, .int .i64 0, .slice none 0 0]) fun b3 h3 _ s3 => ?_
  have kb1 := (s3.at (cA b1 [.int .i64 k, .slice p n c] 66)).blk
  refine ⟨_, _, _, _, kb1.cell 0, Blk.cellA kb1 1, ?_⟩
  have s3 := s3.to (B := cA b2 [.int .i64 0, .slice none 0 0] 66 + (cA b3 [.int .i64 0, .int .i64 0, .slice none 0 0] 61 + (cA b1 [.int .i64 k, .slice p n c] 66 + 0)))
  refine s3.wr rfl (by simp) fun h4 s4 => ?_
  refine s4.wr (o := 1) (yaaj _ _ _) (by simp) fun h5 s5 => ?_
  have s5 : St h h5 (cA b2 [.int .i64 k, .slice p n c] 66 + (cA b3 [.int .i64 0, .int .i64 0, .slice none 0 0] 61 + (cA b1 [.int .i64 k, .slice p n c] 66 + 0))) := s5
  have s5 := s5.to (B := cA b3 [.int .i64 0, .int .i64 0, .slice none 0 0] 61 + (cA b2 [.int .i64 k, .slice p n c] 66 + (cA b1 [.int .i64 k, .slice p n c] 66 + 0)))
  refine s5.wr rfl (by simp) fun h6 s6 => ?_
  refine s6.wr (o := 1) (yaaj _ _ _) (by simp) fun h7 s7 => ?_
  refine s7.wr (o := 2) (yaaj _ _ _) (by simp) fun h8 s8 => ?_
  have kb2 := s8.atomBlk
  exact ⟨_, _, _, _, kb2.cell 0, Blk.cellA kb2 1, _, _, _, _, _, s8.blk.cell 0, Blk.cellA s8.blk 1, Blk.cellA s8.blk 2, rfl, s8.ext⟩
theorem yage {k z : Int} {h : Hp} {p : OA} {n c : Nat} : yaae Tryz.prog 113 #[.agg #[.int .i64 k, .slice p n c], .int .i64 z] h (fun v h' => v = .tuple #[.agg #[.int .i64 k, .slice p n c], .agg #[.int .i64 z, .int .i64 0, .slice none 0 0]] ∧ Ext h h') := by
  refine zcz_call ?_
  rw [zcz_b0]
  refine (St.start h).new (cs := [.int .i64 k, .slice p n c]) fun b1 h1 _ s1 => ?_
  refine s1.new (cs := [.int .i64 0, .slice none 0 0]) fun b2 h2 _ s2 => ?_
  refine s2.new (cs := [.int .i64 0, .int .i64 0, .slice none 0 0]) fun b3 h3 _ s3 => ?_
  have kb1 := (s3.at (cA b1 [.int .i64 k, .slice p n c] 66)).blk
  refine ⟨_, _, _, _, kb1.cell 0, Blk.cellA kb1 1, ?_⟩
  have s3 := s3.to (B := cA b2 [.int .i64 0, .slice none 0 0] 66 + (cA b3 [.int .i64 0, .int .i64 0, .slice none 0 0] 61 + (cA b1 [.int .i64 k, .slice p n c] 66 + 0)))
  refine s3.wr rfl (by simp) fun h4 s4 => ?_
  refine s4.wr (o := 1) (yaaj _ _ _) (by simp) fun h5 s5 => ?_
  have s5 : St h h5 (cA b2 [.int .i64 k, .slice p n c] 66 + (cA b3 [.int .i64 0, .int .i64 0, .slice none 0 0] 61 + (cA b1 [.int .i64 k, .slice p n c] 66 + 0))) := s5
  have s5 := s5.to (B := cA b3 [.int .i64 0, .int .i64 0, .slice none 0 0] 61 + (cA b2 [.int .i64 k, .slice p n c] 66 + (cA b1 [.int .i64 k, .slice p n c] 66 + 0)))
  refine s5.wr rfl (by simp) fun h6 s6 => ?_
  refine s6.wr (o := 1) (yaaj _ _ _) (by simp) fun h7 s7 => ?_
  refine s7.wr (o := 2) (yaaj _ _ _) (by simp) fun h8 s8 => ?_
  have kb2 := s8.atomBlk
  exact ⟨_, _, _, _, kb2.cell 0, Blk.cellA kb2 1, _, _, _, _, _, s8.blk.cell 0, Blk.cellA s8.blk 1, Blk.cellA s8.blk 2, rfl, s8.ext⟩
theorem yauu {h0 h : Hp} {p : OA} {n c i : Nat} {hs : List SH} {x : SH} {B0 G : Bag} (s : St h0 h (B0 + G)) (a : Sl TR p n c hs B0) (hi : i ≤ n) (hn : n ≤ 1000000) :
    yaae Tryz.prog 114 #[.slice p n c, .int .i64 (i : Int), .slice x.1 x.2.1 x.2.2] h (fun v h' => ∃ q d B', v = .slice q (n + 1) d ∧ Sl TR q (n + 1) d (hs.take i ++ x :: hs.drop i) B' ∧ St h0 h' (B' + G)) := by
  have hlen := a.len
  have hcap := a.cap
  refine zdf_call ?_
  rw [zdf_b0]
  refine s.new (cs := []) fun b1 h1 _ s1 => ⟨⟨by omega, by omega, by omega⟩, ?_⟩
  have e0 : Int.toNat (0 : Int) = 0 := rfl
  rw [e0, Int.toNat_natCast, yaaz, Nat.sub_zero, Nat.sub_zero, Int.toNat_natCast]
  refine yaat yalk s1 (Sl.of_blk (T := TR) (xs := []) rfl rfl) ((a.rd (s1.at B0)).take (i := i) (by omega)) (by omega) fun a1 c1 h2 B1 o1 s2 => ?_
  rw [Nat.zero_add, List.nil_append] at o1
  rw [Nat.zero_add]
  refine ⟨⟨by omega, by omega, by omega⟩, ?_⟩
  refine s2.new (cs := [.slice x.1 x.2.1 x.2.2]) fun b2 h3 _ s3 => ⟨⟨⟨by omega, by omega, by omega⟩, rfl⟩, ?_⟩
  have sx : Sl TR (some ⟨b2, 0, none⟩) 1 1 [x] (cA b2 [.slice x.1 x.2.1 x.2.2] 23) := Sl.of_blk (T := TR) (xs := [x]) rfl rfl
  refine yaat yalk (s3.to (B := B1 + (cA b2 [.slice x.1 x.2.1 x.2.2] 23 + (B0 + G)))) o1 (sx.rd s3) (by omega) fun a2 c2 h4 B2 o2 s4 => ?_
  refine ⟨⟨⟨by omega, by omega, by omega⟩, rfl⟩, ?_⟩
  have rs := (a.rd (s4.at B0)).sub (i := i) (m := n - i) (by omega) hcap rfl
  refine yaat yalk s4 o2 rs (by omega) fun a3 c3 h5 B3 o3 s5 => ?_
  have e : i + 1 + (n - i) = n + 1 := by omega
  rw [e] at o3 ⊢
  refine ⟨_, _, B3, rfl, ?_, (s5.to (B := (cA b2 [.slice x.1 x.2.1 x.2.2] 23 + B0) + (B3 + G))).drop⟩
  simpa using o3
theorem yauv {h0 h : Hp} {p : OA} {n c i : Nat} {hs : List SH} {B0 G : Bag} (s : St h0 h (B0 + G)) (a : Sl TR p n c hs B0) (hi : i < n) (hn : n ≤ 1000000) :
    yaae Tryz.prog 115 #[.slice p n c, .int .i64 (i : Int)] h (fun v h' => ∃ q d B', v = .slice q (n - 1) d ∧ Sl TR q (n - 1) d (hs.take i ++ hs.drop (i + 1)) B' ∧ St h0 h' (B' + G)) := by
  have hlen := a.len
  have hcap := a.cap
  refine zcx_call ?_
  rw [zcx_b0]
  refine ⟨⟨by omega, by omega, by omega⟩, ⟨by omega, by omega⟩, ⟨by omega, by omega, by omega⟩, ?_⟩
  refine s.new (cs := []) fun b1 h1 _ s1 => ⟨⟨⟨by omega, by omega, by omega⟩, rfl⟩, ⟨⟨by omega, by omega, by omega⟩, rfl⟩, ?_⟩
  have e0 : Int.toNat (0 : Int) = 0 := rfl
  have e1 : Int.toNat ((i : Int) + 1) = i + 1 := by omega
  rw [e0, e1, Int.toNat_natCast, yaaz, Nat.sub_zero, Nat.sub_zero, Int.toNat_natCast]
  refine yaat yalk s1 (Sl.of_blk (T := TR) (xs := []) rfl rfl) ((a.rd (s1.at B0)).take (i := i) (by omega)) (by omega) fun a1 c1 h2 B1 o1 s2 => ?_
  rw [Nat.zero_add, List.nil_append] at o1
  rw [Nat.zero_add]
  refine ⟨⟨⟨by omega, by omega, by omega⟩, rfl⟩, ?_⟩
  have rs := (a.rd (s2.at B0)).sub (i := i + 1) (m := n - (i + 1)) (by omega) hcap rfl
  refine yaat yalk s2 o1 rs (by omega) fun a3 c3 h5 B3 o3 s5 => ?_
  have e : i + (n - (i + 1)) = n - 1 := by omega
  rw [e] at o3 ⊢
  exact ⟨_, _, B3, rfl, o3, (s5.to (B := B0 + (B3 + G))).drop⟩
theorem AllH.cut {hs : List SH} {rows : List (List Int)} {A : Bag} (h : AllH RowP hs rows A) (i : Nat) : ∃ A1 A2, A = A1 + A2 ∧ AllH RowP (hs.take i) (rows.take i) A1 ∧ AllH RowP (hs.drop i) (rows.drop i) A2 := by
  have hl := h.len
  refine AllH.split (hs.take i) (rows.take i) (by rw [List.length_take, List.length_take, hl]) ?_
  rw [List.take_append_drop, List.take_append_drop]
  exact h
theorem ybaf {a b c d : Int} {p q : OA} {n m k l : Nat} {xs ys : List Int} {h : Hp} (r1 : RdT TI h p n xs) (r2 : RdT TI h q m ys) (hn : n ≤ 1000000) :
    yaae Tryz.prog 40 #[.agg #[.int .i64 a, .int .i64 b, .slice p n k], .agg #[.int .i64 c, .int .i64 d, .slice q m l]] h (fun v h' => Ext h h' ∧ v = .bool (decide ((a, b, xs) = (c, d, ys)))) := by
  refine zcq_call ?_
  rw [zcq_b0]
  refine (St.start h).new (cs := [.int .i64 a, .int .i64 b, .slice p n k]) fun b1 h1 _ s1 => ?_
  refine s1.new (cs := [.int .i64 c, .int .i64 d, .slice q m l]) fun b2 h2 _ s2 => ?_
  have k2 := s2.blk
  have k1 := s2.atomBlk
  refine ⟨_, k1.cell 0, _, k2.cell 0, condP (fun e1 => ?_) (fun e1 => ⟨s2.ext, ?_⟩)⟩
  · refine ⟨_, Blk.cellA k1 1, _, Blk.cellA k2 1, condP (fun e2 => ?_) (fun e2 => ⟨s2.ext, ?_⟩)⟩
    · refine ⟨_, _, _, Blk.cellA k1 2, _, _, _, Blk.cellA k2 2, ?_⟩
      refine (yahg (r1.ext s2.ext) (r2.ext s2.ext) (by omega)).mono fun v h3 ⟨hh, hv⟩ => ⟨_, hv, by rw [hh]; exact s2.ext, ?_⟩
      congr 1
      exact decide_eq_decide.2 ⟨fun h => by rw [e1, e2, h], fun h => by simpa using (Prod.mk.inj (Prod.mk.inj h).2).2⟩
    · rw [decide_eq_false (fun h => e2 (Prod.mk.inj (Prod.mk.inj h).2).1)]
  · rw [decide_eq_false (fun h => e1 (Prod.mk.inj h).1)]
end Go.Proofs.YtdlkohenamlnaaaGreat
