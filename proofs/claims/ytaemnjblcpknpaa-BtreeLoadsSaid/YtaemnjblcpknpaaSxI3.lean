/- Further steps: lists and slices of the call's own. -/
import Derived.Test.YtaemnjblcpknpaaSxI2
import Derived.Test.YtaemnjblcpknpaaSxJ
namespace Go.Sx
open Go
theorem ext_grow {h h1 h2 : Hp} {E : TypeId} {p : Option Addr} {n c : Nat} {xs : List Value} (x : Ext h h1) (o : Own h1 h.size E p n c xs) (g : Grow h1 h2 p) : Ext h h2 :=
  ⟨Nat.le_trans x.size g.size, fun k hk => (g.same k (Nat.lt_of_lt_of_le hk x.size) fun a ha => by have := (o.lt a ha).1; omega).trans (x.same k hk)⟩
theorem list_eq_of {α : Type} {xs ys : List α} {d : α} (hl : xs.length = ys.length) (h : ∀ t, t < xs.length → xs.getD t d = ys.getD t d) : xs = ys := by
  apply List.ext_getElem hl
  intro i h1 h2
  have := h i h1
  simpa [List.getD, h1, h2] using this
/-- A store into a slice of the call's own. -/
theorem wr_own {h : Hp} {base : Nat} {E : TypeId} {p : Option Addr} {n c : Nat} {xs : List Value} {i : Int} {v : Value} {k : Hp → Prop} (o : Own h base E p n c xs) (h0 : 0 ≤ i) (h1 : i < n)
    (hk : ∀ h', h'.size = h.size → Own h' base E p n c (xs.set i.toNat v) → Grow h h' p → k h') : (0 ≤ i ∧ i < (n : Int)) ∧ NN p fun a => Wr h (a.add (i.toNat * 1)) v k := by
  refine ⟨⟨h0, h1⟩, ?_⟩
  rcases o with ⟨rfl, rfl, rfl, rfl⟩ | ⟨b, rest, hbs, rfl, hb, hl, hc⟩
  · omega
  · show Wr _ _ _ _
    refine Wr_intro (add_mk b 0 _) hb (by simp; omega) fun h' hz hs hb' => hk h' hz (.inr ⟨b, rest, hbs, rfl, ?_, by simpa using hl, by simpa using hc⟩) ⟨by omega, fun j _ hj => hs j (hj _ rfl)⟩
    rw [List.set_append_left _ _ (by omega)] at hb'
    rw [show 0 + i.toNat * 1 = i.toNat by omega] at hb'
    exact hb'
theorem own_of_blk {h : Hp} {base b : Nat} {E : TypeId} {xs : List Value} (hb : Blk h b xs E) (hbs : base ≤ b) {n : Nat} (hn : xs.length = n) : Own h base E (some ⟨b, 0, none⟩) n n xs :=
  .inr ⟨b, [], hbs, rfl, by simpa using hb, hn, by simpa using hn⟩
end Go.Sx
namespace Go.Sx
open Go
/-- 'out = append(out, x)', where something is read once more in between. -/
theorem push_own2 {P : Program} {t e e' : TypeId} {base : Nat} {h : Hp} {p : Option Addr} {n c : Nat} {xs : List Value} {x : Value} {R : Hp → Prop} {k : Option Addr → Nat → Nat → Hp → Prop}
    (ok : ElemOk P t e) (o : Own h base e p n c xs) (hb : base ≤ h.size) (hx : scalar x = true) (hn : n < 1099511627776) (hR : ∀ h1, Ext h h1 → R h1)
    (hk : ∀ p' c' h', Own h' base e p' (n + 1) c' (xs ++ [x]) → Grow h h' p → k p' (n + 1) c' h') :
    New h (.cells #[x] e') fun b h1 => R h1 ∧ appendV P t t (.slice p n c) (.slice (some ⟨b, 0, none⟩) 1 1) h1 (slK k) :=
  ⟨hR _ (Ext.push _ _), push_own (e' := e') ok o hb hx hn hk⟩
end Go.Sx
namespace Go.Sx
open Go
/-- What holds of every heap that has these blocks from base on. -/
def LocH (base : Nat) (h : Hp) (Q : Hp → Prop) : Prop := ∀ h', (∀ k, base ≤ k → k < h.size → h'[k]? = h[k]?) → Q h'
theorem LocH.self {base : Nat} {h : Hp} {Q : Hp → Prop} (l : LocH base h Q) : Q h := l h fun _ _ _ => rfl
theorem LocH.step {base : Nat} {h h1 : Hp} {Q : Hp → Prop} (l : LocH base h Q) (hz : h.size ≤ h1.size) (hs : ∀ k, base ≤ k → k < h.size → h1[k]? = h[k]?) : LocH base h1 Q :=
  fun h' hh => l h' fun k hk hl => (hh k hk (Nat.lt_of_lt_of_le hl hz)).trans (hs k hk hl)
theorem LocH.ext {base : Nat} {h h1 : Hp} {Q : Hp → Prop} (l : LocH base h Q) (x : Ext h h1) : LocH base h1 Q := l.step x.size fun k _ hl => x.same k hl
theorem LocH.base {base base' : Nat} {h : Hp} {Q : Hp → Prop} (l : LocH base h Q) (hb : base' ≤ base) : LocH base' h Q := fun h' hh => l h' fun k hk hl => hh k (Nat.le_trans hb hk) hl
theorem LocH.mono {base : Nat} {h : Hp} {Q Q' : Hp → Prop} (l : LocH base h Q) (hq : ∀ h, Q h → Q' h) : LocH base h Q' := fun h' hh => hq _ (l h' hh)
theorem LocH.and {base : Nat} {h : Hp} {Q Q' : Hp → Prop} (l : LocH base h Q) (l' : LocH base h Q') : LocH base h (fun h => Q h ∧ Q' h) := fun h' hh => ⟨l h' hh, l' h' hh⟩
theorem LocH.blk {base b : Nat} {h : Hp} {cs : List Value} {e : TypeId} (hb : Blk h b cs e) (hbs : base ≤ b) : LocH base h (fun h => Blk h b cs e) := fun _ hh => hb.same (hh b hbs hb.lt)
theorem LocH.own {base base' : Nat} {h : Hp} {E : TypeId} {p : Option Addr} {n c : Nat} {xs : List Value} (o : Own h base' E p n c xs) (hbs : base ≤ base') : LocH base h (fun h => Own h base' E p n c xs) :=
  fun _ hh => o.same fun a ha => hh _ (Nat.le_trans hbs (o.lt a ha).1) (o.lt a ha).2
end Go.Sx
namespace Go.Sx
open Go
/-- **append to a slice of the call's own.** -/
theorem append_ownF {P : Program} {t t2 e : TypeId} {i0 : TypeInfo} {z : Value} {base : Nat} {h : Hp} {p q : Option Addr} {n c m c2 : Nat} {xs ys : List Value} {k : Option Addr → Nat → Nat → Hp → Prop}
    (ht : elemT P t = some (e, 1)) (ht2 : notIntT P t2 = true) (hi : P.info? e = some i0) (hz : i0.zero = some z) (hzs : scalar z = true)
    (o : Own h base e p n c xs) (hb : base ≤ h.size) (r : readsL h q ys) (hm : ys.length = m) (hys : ∀ v ∈ ys, scalar v = true)
    (hc : 2 * (n + m) * i0.bytes ≤ 281474976710656) (hc2 : n + m < 4611686018427387904)
    (hk : ∀ p' c' h', Own h' base e p' (n + m) c' (xs ++ ys) → Grow h h' p → (∀ a', p' = some a' → p = some a' ∨ h.size ≤ a'.block) → k p' (n + m) c' h') :
    appendV P t t2 (.slice p n c) (.slice q m c2) h (slK k) := by
  unfold appendV
  rw [ht, ht2]
  refine ⟨ys, by omega, r, fun hle => ?_, fun hlt => ?_⟩
  · rcases o with ⟨rfl, rfl, rfl, rfl⟩ | ⟨b, rest, hbs, rfl, hb, hl, hcl⟩
    · have : m = 0 := by omega
      subst this
      have : ys = [] := List.eq_nil_of_length_eq_zero hm
      subst this
      exact hk none 0 h (.inl ⟨rfl, rfl, rfl, rfl⟩) ⟨Nat.le_refl _, fun _ _ _ => rfl⟩ (fun a' ha => by cases ha)
    · rw [List.length_append] at hcl
      have hrest : rest = rest.take m ++ rest.drop m := (List.take_append_drop m rest).symm
      rw [hrest, ← List.append_assoc] at hb
      simp only [storesO, add_mk, Nat.mul_one, Nat.zero_add]
      refine storesV_blk ys 0 n h xs (rest.take m) (rest.drop m) hys hb (by omega) (by simp; omega) fun h' hsz hot hb' => ?_
      refine hk _ c h' (.inr ⟨b, rest.drop m, hbs, rfl, hb', by simp; omega, by simp; omega⟩) ⟨by omega, fun j hj hn => hot j (hn _ rfl)⟩ (fun a' ha => .inl ha)
  · have hnc : n ≤ c := o.cap
    have hncap : Builtin.nextslicecap (n + m) c ≤ 2 * (n + m) := by
      unfold Builtin.nextslicecap
      split
      · omega
      · split
        · omega
        · rename_i h1 h2
          simp only [Builtin.growBy]
          split
          · omega
          · split
            · omega
            · split
              · omega
              · split <;> omega
    have hbt : bytesT P e = i0.bytes := by unfold bytesT; rw [hi]
    refine ⟨⟨?_, by omega⟩, xs, by have := o.len; omega, ?_, ?_⟩
    · rw [hbt]
      exact Nat.le_trans (Nat.mul_le_mul_right _ hncap) hc
    · rcases o.rd.readsL with hr | h0
      · exact hr
      · subst h0
        have : xs = [] := List.eq_nil_of_length_eq_zero o.len
        subst this
        cases p with
        | none => rfl
        | some a => intro i hi; cases hi
    · unfold zeroV
      rw [hi]
      simp only [hz]
      intro c' hc'
      refine New_intro fun b h' hbe hext hblk hsz => ?_
      have hzc : z.cells = #[z] := by cases z <;> first | rfl | cases hzs
      refine hk _ c' h' (.inr ⟨b, _, by omega, rfl, hblk, by have := o.len; simp; omega, ?_⟩) ⟨hext.size, fun j hj _ => hext.same j hj⟩ (fun a' ha => .inr (by cases ha; show h.size ≤ b; omega))
      have := o.len
      rw [List.length_append, List.length_append, hzc]
      simp [repL]
      omega


/-- 'out = append(out, x)'. -/
theorem push_own2F {P : Program} {t e e' : TypeId} {base : Nat} {h : Hp} {p : Option Addr} {n c : Nat} {xs : List Value} {x : Value} {R : Hp → Prop} {k : Option Addr → Nat → Nat → Hp → Prop}
    (ok : ElemOk P t e) (o : Own h base e p n c xs) (hb : base ≤ h.size) (hx : scalar x = true) (hn : n < 1099511627776)
    (hR : ∀ h1, Ext h h1 → R h1)
    (hk : ∀ p' c' h', Own h' base e p' (n + 1) c' (xs ++ [x]) → Grow h h' p → (∀ a', p' = some a' → p = some a' ∨ h.size ≤ a'.block) → k p' (n + 1) c' h') :
    New h (.cells #[x] e') fun b h1 => R h1 ∧ appendV P t t (.slice p n c) (.slice (some ⟨b, 0, none⟩) 1 1) h1 (slK k) := by
  refine New_intro (cs := [x]) fun b h1 hbe x1 k1 z1 => ?_
  obtain ⟨i0, z, hi, hz, hzs, hbt⟩ := ok.info
  refine ⟨hR h1 x1, ?_⟩
  refine append_ownF (ys := [x]) ok.el ok.ni hi hz hzs (o.ext x1) (by omega) ?_ rfl (by simpa using hx) ?_ (by omega) fun p' c' h' o' g fr => hk p' c' h' o' (g.trans_ext x1) (fun a' ha => (fr a' ha).imp id (fun hle => Nat.le_trans x1.size hle))
  · intro i hi
    rw [add_mk, k1.cell, Nat.zero_add]
  · have : 2 * (n + 1) * i0.bytes ≤ 2 * (n + 1) * 32 := Nat.mul_le_mul_left _ hbt
    omega

end Go.Sx
namespace Go.Sx
open Go
/-- 'out = append(out, x)', whatever is looked at in between. -/
theorem push_pre {P : Program} {t e e' : TypeId} {base : Nat} {h : Hp} {p : Option Addr} {n c : Nat} {xs : List Value} {x : Value} {k : Option Addr → Nat → Nat → Hp → Prop} {G : Nat → Hp → Prop}
    (ok : ElemOk P t e) (o : Own h base e p n c xs) (hb : base ≤ h.size) (hx : scalar x = true) (hn : n < 1099511627776)
    (hG : ∀ b h1, Ext h h1 → appendV P t t (.slice p n c) (.slice (some ⟨b, 0, none⟩) 1 1) h1 (slK k) → G b h1)
    (hk : ∀ p' c' h', Own h' base e p' (n + 1) c' (xs ++ [x]) → Grow h h' p → (∀ a', p' = some a' → p = some a' ∨ h.size ≤ a'.block) → k p' (n + 1) c' h') :
    New h (.cells #[x] e') G :=
  hG _ _ (Ext.push _ _) (push_own2F (e' := e') (R := fun _ => True) ok o hb hx hn (fun _ _ => trivial) hk).2
theorem range_map_set {α : Type} (n v : Nat) (f : Nat → α) (x : α) : ((List.range n).map f).set v x = (List.range n).map (fun w => if w = v then x else f w) := by
  apply List.ext_getElem
  · simp
  · intro i h1 h2
    simp only [List.getElem_set, List.getElem_map, List.getElem_range]
    by_cases h : v = i
    · rw [if_pos h, if_pos h.symm]
    · rw [if_neg h, if_neg (Ne.symm h)]
end Go.Sx
namespace Go.Sx
open Go
/-- A part of a slice. -/
theorem Rd.sub {h : Hp} {p : Option Addr} {n c i m : Nat} {xs : List Value} (r : Rd h p n xs) (hi : i ≤ n) (hc : n ≤ c) (hm : m = n - i) : Rd h (subAddr p c i 1) m (xs.drop i) := by
  subst hm
  refine ⟨by simp [r.1], ?_⟩
  unfold subAddr
  by_cases h1 : c = i
  · exact .inl (by omega)
  · rw [if_neg h1]
    rcases r.2 with h0 | ⟨a, ha, hcell⟩
    · exact .inl (by omega)
    · subst ha
      refine .inr ⟨a.add (i * 1), rfl, fun j hj => ?_⟩
      rw [Nat.mul_one, add_add, List.getElem?_drop]
      exact hcell (i + j) (by omega)
end Go.Sx
namespace Go.Sx
open Go
theorem zcells {z : Value} (h : scalar z = true) : z.cells = #[z] := by cases z <;> first | rfl | cases h
/-- 'clear(s)' of a slice of the call's own. -/
theorem clear_own {P : Program} {t e : TypeId} {base : Nat} {h : Hp} {p : Option Addr} {n c : Nat} {xs : List Value} {k : Hp → Prop} (ok : ElemOk P t e) (o : Own h base e p n c xs)
    (hk : ∀ h', h'.size = h.size → (∀ j, (∀ a, p = some a → j ≠ a.block) → h'[j]? = h[j]?) → k h') : clearV P t (.slice p n c) h k := by
  obtain ⟨i0, z, hi, hz, hzs, hbt⟩ := ok.info
  unfold clearV zeroV
  rw [ok.el]
  simp only [hi, hz]
  rcases o with ⟨rfl, rfl, rfl, rfl⟩ | ⟨b, rest, hbs, rfl, hb, hl, hc⟩
  · exact hk h rfl fun _ _ => rfl
  · show storesV ((⟨b, 0, none⟩ : Addr).add 0) k _ 0 h
    rw [add_mk, zcells hzs]
    refine storesV_blk _ 0 0 h [] xs rest ?_ (by simpa using hb) rfl ?_ fun h' hz hs hb' => hk h' hz fun j hj => hs j (hj _ rfl)
    · intro v hv
      simp only [repL, List.mem_map] at hv
      obtain ⟨i, hi, rfl⟩ := hv
      have hi := List.mem_range.1 hi
      simp [nth, Nat.mod_one, hzs]
    · simp [repL]; exact hl
/-- 'append(s, x...)'. -/
theorem append_all {P : Program} {t e : TypeId} {base : Nat} {h : Hp} {p q : Option Addr} {n c m c2 : Nat} {xs ys : List Value} {k : Option Addr → Nat → Nat → Hp → Prop}
    (ok : ElemOk P t e) (o : Own h base e p n c xs) (hb : base ≤ h.size) (r : Rd h q m ys) (hys : ∀ v ∈ ys, scalar v = true) (hn : n + m < 1099511627776)
    (hk : ∀ p' c' h', Own h' base e p' (n + m) c' (xs ++ ys) → Grow h h' p → (∀ a', p' = some a' → p = some a' ∨ h.size ≤ a'.block) → k p' (n + m) c' h') :
    appendV P t t (.slice p n c) (.slice q m c2) h (slK k) := by
  obtain ⟨i0, z, hi, hz, hzs, hbt⟩ := ok.info
  refine append_ownF ok.el ok.ni hi hz hzs o hb ?_ r.len hys ?_ (by omega) hk
  · rcases r.readsL with h1 | h1
    · exact h1
    · subst h1
      have : ys = [] := List.eq_nil_of_length_eq_zero r.len
      subst this
      cases q with
      | none => rfl
      | some a => intro i hi; cases hi
  · have : 2 * (n + m) * i0.bytes ≤ 2 * (n + m) * 32 := Nat.mul_le_mul_left _ hbt
    omega
end Go.Sx
namespace Go.Sx
open Go
/-- A slice of the call's own without its last element. -/
theorem Own.pop {h : Hp} {base : Nat} {E : TypeId} {p : Option Addr} {n c : Nat} {xs : List Value} {x : Value} (o : Own h base E p (n + 1) c (xs ++ [x])) : Own h base E (subAddr p c 0 1) n c xs := by
  rcases o with ⟨_, h0, _, _⟩ | ⟨b, rest, hbs, rfl, hb, hl, hc⟩
  · omega
  · refine .inr ⟨b, x :: rest, hbs, ?_, by simpa using hb, by simpa using hl, by simpa using hc⟩
    unfold subAddr
    split
    · rfl
    · simp [add_mk]
theorem subAddr_zero {p : Option Addr} {c : Nat} : subAddr p c 0 1 = p := by
  unfold subAddr
  split
  · rfl
  · cases p <;> simp [Addr.add]
/-- Two slices of the call's own lie apart. -/
def Apart (p q : Option Addr) : Prop := ∀ a b, p = some a → q = some b → a.block ≠ b.block
theorem Apart.symm {p q : Option Addr} (h : Apart p q) : Apart q p := fun a b ha hb e => h b a hb ha e.symm
theorem Apart.fresh {p p' q : Option Addr} {h : Hp} (h0 : Apart p q) (hf : ∀ a', p' = some a' → p = some a' ∨ h.size ≤ a'.block) (hq : ∀ b, q = some b → b.block < h.size) : Apart p' q := by
  intro a b ha hb e
  rcases hf a ha with h1 | h1
  · exact h0 a b h1 hb e
  · have := hq b hb; omega
end Go.Sx
namespace Go.Sx
open Go
theorem Own.keep {h h' : Hp} {base : Nat} {E : TypeId} {p q : Option Addr} {n c : Nat} {ys : List Value} (o : Own h base E q n c ys) (g : Grow h h' p) (ap : Apart q p) : Own h' base E q n c ys :=
  o.same fun a ha => g.same _ (o.lt a ha).2 fun a' ha' => ap a a' ha ha'
end Go.Sx
