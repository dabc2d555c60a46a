/- Part A B C D E G of the proof: contracts of functions of the program, and what follows from them. -/
import Derived.Calls
import Derived.Deep.Quiet
import Derived.StillTail
import Derived.Below
import Derived.Laws.Sem
namespace Go.Sx
open Go
abbrev Hp := Array Obj
def cell (h : Hp) (a : Addr) : Option Value :=
  match h[a.block]? with
  | some (.cells c _ _) => if a.spot.isSome then none else c[a.off]?
  | _ => none
def yadq (h : Hp) (a : Addr) : Bool :=
  match h[a.block]? with
  | some (.cells _ _ (lo, hi)) => lo ≤ a.off && a.off < hi
  | _ => false
def yags (h : Hp) (r : Nat) : Option (TypeId × Nat) :=
  match h[r]? with
  | some (.cells c elem _) => some (elem, c.size)
  | _ => none
def setH (h : Hp) (a : Addr) (v : Value) : Hp :=
  h.modify a.block fun
    | .cells c elem frozen => .cells (if a.spot.isSome then c else c.setIfInBounds a.off v) elem frozen
    | o => o
def yafw (h : Hp) (a : Addr) (n : Nat) : Hp :=
  if n = 0 then h else
  h.modify a.block fun
    | .cells c elem (lo, hi) => .cells c elem (if lo == hi then (a.off, a.off + n) else (min lo a.off, max hi (a.off + n)))
    | o => o
theorem yaom (w : World) (a : Addr) : w.cell? a = cell w.heap a := rfl
theorem yajn (w : World) (a : Addr) : w.frozen? a = yadq w.heap a := rfl
theorem yarc (w : World) (r : Nat) : w.shape? r = yags w.heap r := rfl
theorem yann (w : World) (a : Addr) (v : Value) : (w.setCell a v).heap = setH w.heap a v := rfl
theorem yapt (w : World) (a : Addr) (n : Nat) : (w.freeze a n).heap = yafw w.heap a n := by
  unfold World.freeze yafw; split <;> rfl
structure Same (w w' : World) : Prop where
  os : w'.os = w.os
  tape : w'.tape = w.tape
  output : w'.output = w.output
theorem Same.refl (w : World) : Same w w := ⟨rfl, rfl, rfl⟩
theorem Same.trans {a b c : World} (h : Same a b) (k : Same b c) : Same a c :=
  ⟨k.os.trans h.os, k.tape.trans h.tape, k.output.trans h.output⟩
def yajx (h : Hp) (a : Addr) : Prop := (cell h a).isSome = true ∧ yadq h a = false
def scalar : Value → Bool
  | .agg _ | .tuple _ => false
  | _ => true
section
variable (P : Program)
def objH (h : Hp) (r : Nat) : Option Obj := match h[r]? with | some (.cells ..) => none | x => x
theorem yams {h : Hp} {r : Nat} {o : Obj} (e : objH h r = some o) : h[r]? = some o ∧ ∀ c t f, o ≠ .cells c t f := by
  unfold objH at e
  split at e
  · cases e
  · rename_i x hx
    refine ⟨e, fun c t f ho => ?_⟩
    subst ho
    exact hx _ _ _ e
theorem yaof {h : Hp} {r : Nat} {o : Obj} (e : h[r]? = some o) (hn : ∀ c t f, o ≠ .cells c t f) : objH h r = some o := by
  unfold objH
  rw [e]
  split
  · rename_i heq; exact absurd (Option.some.inj heq) (hn _ _ _)
  · rfl
def hq {α : Type} : Sem α → Hp → (α → Prop) → Prop
  | .pure a, _, K => K a
  | .load _ a k, h, K => ∃ v, cell h a = some v ∧ hq (k v) h K
  | .shape r k, h, K => hq (k (yags h r)) h K
  | .frozen a k, h, K => hq (k (yadq h a)) h K
  | .program k, h, K => hq (k P) h K
  | .mark _ k, h, K => hq k h K
  | .getObj r k, h, K => ∃ o, objH h r = some o ∧ hq (k o) h K
  | .store _ _ _ _, _, _ | .new _ _, _, _ | .freeze _ _ _, _, _ | .setObj _ _ _, _, _ | .choose _ _, _, _ | .sys _ _, _, _ | .halt _, _, _ => False
def hw {α : Type} : Sem α → Hp → (α → Hp → Prop) → Prop
  | .pure a, h, K => K a h
  | .load _ a k, h, K => ∃ v, cell h a = some v ∧ hw (k v) h K
  | .store _ a v k, h, K => scalar v = true ∧ yajx h a ∧ hw k (setH h a v) K
  | .new o k, h, K => hw (k h.size) (h.push o) K
  | .shape r k, h, K => hw (k (yags h r)) h K
  | .freeze a n k, h, K => hw k (yafw h a n) K
  | .frozen a k, h, K => hw (k (yadq h a)) h K
  | .choose q k, h, K => ∀ t, hw (k (if q.forced then 0 else q.cut t)) h K
  | .program k, h, K => hw (k P) h K
  | .mark _ k, h, K => hw k h K
  | .getObj r k, h, K => ∃ o, objH h r = some o ∧ hw (k o) h K
  | .setObj r o k, h, K => (∃ o0, objH h r = some o0) ∧ hw k (h.setIfInBounds r o) K
  | .sys _ _, _, _ | .halt _, _, _ => False
variable {P}
theorem yake {α : Type} : ∀ (s : Sem α) (h : Hp) (K : α → Prop), hq P s h K → ∃ a, K a ∧ ∀ w : World, w.heap = h → s.run P w = .ok a w := by
  intro s
  induction s with
  | pure a => intro h K hk; exact ⟨a, hk, fun w _ => rfl⟩
  | load m a k ih =>
    intro h K hk
    obtain ⟨v, hv, hk⟩ := hk
    obtain ⟨b, hb, hr⟩ := ih v h K hk
    refine ⟨b, hb, fun w hw => ?_⟩
    have : w.cell? a = some v := by rw [yaom, hw]; exact hv
    simp only [Sem.run, this]
    exact hr w hw
  | shape r k ih =>
    intro h K hk
    obtain ⟨b, hb, hr⟩ := ih _ h K hk
    refine ⟨b, hb, fun w hw => ?_⟩
    simp only [Sem.run, yarc, hw]
    exact hr w hw
  | frozen a k ih =>
    intro h K hk
    obtain ⟨b, hb, hr⟩ := ih _ h K hk
    refine ⟨b, hb, fun w hw => ?_⟩
    simp only [Sem.run, yajn, hw]
    exact hr w hw
  | program k ih => intro h K hk; exact ih P h K hk
  | mark m k ih => intro h K hk; exact ih h K hk
  | getObj r k ih =>
    intro h K hk
    obtain ⟨o, ho, hk⟩ := hk
    obtain ⟨b, hb, hr⟩ := ih o h K hk
    refine ⟨b, hb, fun w hw => ?_⟩
    obtain ⟨e1, e2⟩ := yams ho
    rw [← hw] at e1
    simp only [Sem.run, e1]
    cases o <;> first | exact absurd rfl (e2 _ _ _) | exact hr w hw
  | _ => intro h K hk; exact hk.elim
theorem yacf {α : Type} : ∀ (s : Sem α) (h : Hp) (K K' : α → Prop), (∀ a, K a → K' a) → hq P s h K → hq P s h K' := by
  intro s
  induction s with
  | pure a => intro h K K' hm hk; exact hm _ hk
  | load m a k ih => intro h K K' hm hk; obtain ⟨v, hv, hk⟩ := hk; exact ⟨v, hv, ih v h K K' hm hk⟩
  | shape r k ih => intro h K K' hm hk; exact ih _ h K K' hm hk
  | frozen a k ih => intro h K K' hm hk; exact ih _ h K K' hm hk
  | program k ih => intro h K K' hm hk; exact ih P h K K' hm hk
  | mark m k ih => intro h K K' hm hk; exact ih h K K' hm hk
  | getObj r k ih => intro h K K' hm hk; obtain ⟨o, ho, hk⟩ := hk; exact ⟨o, ho, ih o h K K' hm hk⟩
  | _ => intro h K K' hm hk; exact hk.elim
theorem yacc {α : Type} : ∀ (s : Sem α) (h : Hp) (K : α → Hp → Prop), hq P s h (fun a => K a h) → hw P s h K := by
  intro s
  induction s with
  | pure a => intro h K hk; exact hk
  | load m a k ih => intro h K hk; obtain ⟨v, hv, hk⟩ := hk; exact ⟨v, hv, ih v h K hk⟩
  | shape r k ih => intro h K hk; exact ih _ h K hk
  | frozen a k ih => intro h K hk; exact ih _ h K hk
  | program k ih => intro h K hk; exact ih P h K hk
  | mark m k ih => intro h K hk; exact ih h K hk
  | getObj r k ih => intro h K hk; obtain ⟨o, ho, hk⟩ := hk; exact ⟨o, ho, ih o h K hk⟩
  | _ => intro h K hk; exact hk.elim
theorem yavg {α : Type} : ∀ (s : Sem α) (h : Hp) (K : α → Hp → Prop), hw P s h K → ∀ w : World, w.heap = h → ∃ a w', s.run P w = .ok a w' ∧ Same w w' ∧ K a w'.heap := by
  intro s
  induction s with
  | pure a => intro h K hk w hw; exact ⟨a, w, rfl, Same.refl w, by rw [hw]; exact hk⟩
  | load m a k ih =>
    intro h K hk w hw
    obtain ⟨v, hv, hk⟩ := hk
    obtain ⟨b, w', hr, hs, hb⟩ := ih v h K hk w hw
    have : w.cell? a = some v := by rw [yaom, hw]; exact hv
    refine ⟨b, w', ?_, hs, hb⟩
    simp only [Sem.run, this]
    exact hr
  | store m a v k ih =>
    intro h K hk w hw
    obtain ⟨hsc, ⟨hc, hf⟩, hk⟩ := hk
    obtain ⟨b, w', hr, hs, hb⟩ := ih (setH h a v) K hk (w.setCell a v) (by rw [yann, hw])
    refine ⟨b, w', ?_, ⟨hs.os, hs.tape, hs.output⟩, hb⟩
    obtain ⟨u, hu⟩ := Option.isSome_iff_exists.1 hc
    have h1 : w.cell? a = some u := by rw [yaom, hw]; exact hu
    have h2 : w.frozen? a = false := by rw [yajn, hw]; exact hf
    cases v <;> first | (cases hsc; done) | (simp only [Sem.run, h1, h2]; exact hr)
  | new o k ih =>
    intro h K hk w hw
    obtain ⟨b, w', hr, hs, hb⟩ := ih h.size (h.push o) K hk { w with heap := w.heap.push o } (by simp [hw])
    exact ⟨b, w', by simp only [Sem.run, hw]; rw [hw] at hr; exact hr, ⟨hs.os, hs.tape, hs.output⟩, hb⟩
  | shape r k ih =>
    intro h K hk w hw
    obtain ⟨b, w', hr, hs, hb⟩ := ih _ h K hk w hw
    exact ⟨b, w', by simp only [Sem.run, yarc, hw]; exact hr, hs, hb⟩
  | freeze a n k ih =>
    intro h K hk w hw
    obtain ⟨b, w', hr, hs, hb⟩ := ih (yafw h a n) K hk (w.freeze a n) (by rw [yapt, hw])
    refine ⟨b, w', hr, ?_, hb⟩
    refine Same.trans ?_ hs
    unfold World.freeze; split
    · exact Same.refl w
    · exact ⟨rfl, rfl, rfl⟩
  | frozen a k ih =>
    intro h K hk w hw
    obtain ⟨b, w', hr, hs, hb⟩ := ih _ h K hk w hw
    exact ⟨b, w', by simp only [Sem.run, yajn, hw]; exact hr, hs, hb⟩
  | choose q k ih =>
    intro h K hk w hw
    simp only [Sem.run]
    by_cases hq : q.forced = true
    · have h0 := hk 0
      rw [if_pos hq] at h0 ⊢
      exact ih 0 h K h0 w hw
    · have h0 := hk (w.tape w.drawn q)
      rw [if_neg hq] at h0 ⊢
      obtain ⟨b, w', hr, hs, hb⟩ := ih _ h K h0 { w with drawn := w.drawn + 1 } hw
      exact ⟨b, w', hr, ⟨hs.os, hs.tape, hs.output⟩, hb⟩
  | program k ih => intro h K hk w hw; exact ih P h K hk w hw
  | mark m k ih => intro h K hk w hw; exact ih h K hk w hw
  | getObj r k ih =>
    intro h K hk w hw
    obtain ⟨o, ho, hk⟩ := hk
    obtain ⟨b, w', hr, hs, hb⟩ := ih o h K hk w hw
    obtain ⟨e1, e2⟩ := yams ho
    rw [← hw] at e1
    refine ⟨b, w', ?_, hs, hb⟩
    simp only [Sem.run, e1]
    cases o <;> first | exact absurd rfl (e2 _ _ _) | exact hr
  | setObj r o k ih =>
    intro h K hk w hw
    obtain ⟨⟨o0, ho⟩, hk⟩ := hk
    obtain ⟨b, w', hr, hs, hb⟩ := ih _ K hk { w with heap := w.heap.setIfInBounds r o } (by simp [hw])
    obtain ⟨e1, e2⟩ := yams ho
    rw [← hw] at e1
    refine ⟨b, w', ?_, ⟨hs.os, hs.tape, hs.output⟩, hb⟩
    simp only [Sem.run, e1]
    cases o0 <;> first | exact absurd rfl (e2 _ _ _) | exact hr
  | _ => intro h K hk; exact hk.elim
theorem yabq {α : Type} : ∀ (s : Sem α) (h : Hp) (K K' : α → Hp → Prop), (∀ a h, K a h → K' a h) → hw P s h K → hw P s h K' := by
  intro s
  induction s with
  | pure a => intro h K K' hm hk; exact hm _ _ hk
  | load m a k ih => intro h K K' hm hk; obtain ⟨v, hv, hk⟩ := hk; exact ⟨v, hv, ih v h K K' hm hk⟩
  | store m a v k ih => intro h K K' hm hk; exact ⟨hk.1, hk.2.1, ih _ K K' hm hk.2.2⟩
  | new o k ih => intro h K K' hm hk; exact ih _ _ K K' hm hk
  | shape r k ih => intro h K K' hm hk; exact ih _ h K K' hm hk
  | freeze a n k ih => intro h K K' hm hk; exact ih _ K K' hm hk
  | frozen a k ih => intro h K K' hm hk; exact ih _ h K K' hm hk
  | choose q k ih => intro h K K' hm hk t; exact ih _ h K K' hm (hk t)
  | program k ih => intro h K K' hm hk; exact ih P h K K' hm hk
  | mark m k ih => intro h K K' hm hk; exact ih h K K' hm hk
  | getObj r k ih => intro h K K' hm hk; obtain ⟨o, ho, hk⟩ := hk; exact ⟨o, ho, ih o h K K' hm hk⟩
  | setObj r o k ih => intro h K K' hm hk; exact ⟨hk.1, ih _ K K' hm hk.2⟩
  | _ => intro h K K' hm hk; exact hk.elim
theorem ybcu {α β : Type} (s : Sem α) (f : α → Sem β) : ∀ (h : Hp) (K : β → Prop), hq P (s.bind f) h K = hq P s h (fun a => hq P (f a) h K) := by
  induction s with
  | pure a => intro h K; rfl
  | load m a k ih => intro h K; simp only [Sem.bind, hq, ih]
  | shape r k ih => intro h K; simp only [Sem.bind, hq, ih]
  | frozen a k ih => intro h K; simp only [Sem.bind, hq, ih]
  | program k ih => intro h K; simp only [Sem.bind, hq, ih]
  | mark m k ih => intro h K; simp only [Sem.bind, hq, ih]
  | getObj r k ih => intro h K; simp only [Sem.bind, hq, ih]
  | _ => intro h K; simp only [Sem.bind, hq]
theorem ybbr {α β : Type} (s : Sem α) (f : α → Sem β) : ∀ (h : Hp) (K : β → Hp → Prop), hw P (s.bind f) h K = hw P s h (fun a h => hw P (f a) h K) := by
  induction s with
  | pure a => intro h K; rfl
  | load m a k ih => intro h K; simp only [Sem.bind, hw, ih]
  | store m a v k ih => intro h K; simp only [Sem.bind, hw, ih]
  | new o k ih => intro h K; simp only [Sem.bind, hw, ih]
  | shape r k ih => intro h K; simp only [Sem.bind, hw, ih]
  | freeze a n k ih => intro h K; simp only [Sem.bind, hw, ih]
  | frozen a k ih => intro h K; simp only [Sem.bind, hw, ih]
  | choose q k ih => intro h K; simp only [Sem.bind, hw, ih]
  | program k ih => intro h K; simp only [Sem.bind, hw, ih]
  | mark m k ih => intro h K; simp only [Sem.bind, hw, ih]
  | getObj r k ih => intro h K; simp only [Sem.bind, hw, ih]
  | setObj r o k ih => intro h K; simp only [Sem.bind, hw, ih]
  | _ => intro h K; simp only [Sem.bind, hw]
theorem yaab {α β : Type} (s : Sem α) (f : α → Sem β) (h : Hp) (K : β → Prop) : hq P (s >>= f) h K = hq P s h (fun a => hq P (f a) h K) := ybcu s f h K
theorem yaac {α β : Type} (s : Sem α) (f : α → Sem β) (h : Hp) (K : β → Hp → Prop) : hw P (s >>= f) h K = hw P s h (fun a h => hw P (f a) h K) := ybbr s f h K
theorem yaah {α : Type} (a : α) (h : Hp) (K : α → Prop) : hq P (pure a : Sem α) h K = K a := rfl
theorem yaam {α : Type} (a : α) (h : Hp) (K : α → Hp → Prop) : hw P (pure a : Sem α) h K = K a h := rfl
theorem yaaf (t : TypeId) (h : Hp) (K : TypeDesc → Prop) : hq P (underlying t) h K = (match P.underlying t with | some d => K d | none => False) := by
  unfold underlying program
  rw [yaab]
  simp only [hq]
  cases P.underlying t <;> rfl
theorem yaao (t : TypeId) (h : Hp) (K : TypeDesc → Hp → Prop) : hw P (underlying t) h K = (match P.underlying t with | some d => K d h | none => False) := by
  unfold underlying program
  rw [yaac]
  simp only [hw]
  cases P.underlying t <;> rfl
theorem yabf (t : TypeId) (h : Hp) (K : TypeInfo → Prop) : hq P (typeInfo t) h K = (match P.info? t with | some d => K d | none => False) := by
  unfold typeInfo program
  rw [yaab]
  simp only [hq]
  cases P.info? t <;> rfl
theorem yaay (t : TypeId) (h : Hp) (K : TypeInfo → Hp → Prop) : hw P (typeInfo t) h K = (match P.info? t with | some d => K d h | none => False) := by
  unfold typeInfo program
  rw [yaac]
  simp only [hw]
  cases P.info? t <;> rfl
def yaak (P : Program) (f : FuncId) (args : Array Value) (h : Hp) (K : Value → Hp → Prop) : Prop :=
  ∀ w : World, w.heap = h → Calls P f args w fun e w' => ∃ v, e = .returned v ∧ Same w w' ∧ K v w'.heap
theorem yaak.mono {f : FuncId} {args : Array Value} {h : Hp} {K K' : Value → Hp → Prop} (hc : yaak P f args h K) (hm : ∀ v h, K v h → K' v h) : yaak P f args h K' :=
  fun w hw => (hc w hw).mono fun _ _ ⟨v, he, hs, hk⟩ => ⟨v, he, hs, hm _ _ hk⟩
end
open Go
abbrev Ex0 (z : Value) (B : Value → Prop) : Prop :=
  match z with
  | .int k _ => ∃ n : Int, B (.int k n)
  | .bool _ => ∃ b : Bool, B (.bool b)
  | .string _ => ∃ s : ByteArray, B (.string s)
  | .pointer _ => ∃ p : Option Addr, B (.pointer p)
  | .slice _ _ _ => ∃ (a : Option Addr) (l c : Nat), B (.slice a l c)
  | _ => ∃ v, B v
abbrev ExL : List Value → (List Value → Prop) → Prop
  | [], B => B []
  | z :: zs, B => Ex0 z fun v => ExL zs fun vs => B (v :: vs)
abbrev ExA (zs : List Value) (B : Value → Prop) : Prop :=
  match Nat.ble 33 zs.length with
  | true => ∃ cs : List Value, B (.agg cs.toArray)
  | false => ExL zs fun vs => B (.agg vs.toArray)
abbrev Ex1 (z : Value) (B : Value → Prop) : Prop :=
  match z with
  | .agg zs => ExA zs.toList B
  | z => Ex0 z B
abbrev Ex1L : List Value → (List Value → Prop) → Prop
  | [], B => B []
  | z :: zs, B => Ex1 z fun v => Ex1L zs fun vs => B (v :: vs)
abbrev Ex2 (z : Value) (B : Value → Prop) : Prop :=
  match z with
  | .tuple zs => Ex1L zs.toList fun vs => B (.tuple vs.toArray)
  | z => Ex1 z B
abbrev yadx (P : Program) (t : TypeId) : Value := match P.info? t with | some i => (match i.zero with | some z => z | none => .nilFunc) | none => .nilFunc
abbrev yaan (P : Program) (t : TypeId) : Nat := match P.info? t with | some i => i.size | none => 0
abbrev ExT (P : Program) (t : TypeId) (B : Value → Prop) : Prop := Ex2 (yadx P t) B
theorem Ex0.out {z : Value} {B : Value → Prop} (h : Ex0 z B) : ∃ v, B v := by
  cases z <;> simp only [Ex0] at h <;> first | (obtain ⟨n, h⟩ := h; exact ⟨_, h⟩) | (obtain ⟨a, l, c, h⟩ := h; exact ⟨_, h⟩)
theorem ExL.out : ∀ {zs : List Value} {B : List Value → Prop}, ExL zs B → ∃ vs, vs.length = zs.length ∧ B vs
  | [], _, h => ⟨[], rfl, h⟩
  | z :: zs, B, h => by
    obtain ⟨v, h⟩ := Ex0.out h
    obtain ⟨vs, hl, h⟩ := ExL.out h
    exact ⟨v :: vs, by simp [hl], h⟩
theorem ExA.out {zs : List Value} {B : Value → Prop} (h : ExA zs B) : ∃ v, B v := by
  unfold ExA at h
  split at h
  · obtain ⟨cs, h⟩ := h; exact ⟨_, h⟩
  · obtain ⟨vs, _, h⟩ := ExL.out h; exact ⟨_, h⟩
theorem Ex1.out {z : Value} {B : Value → Prop} (h : Ex1 z B) : ∃ v, B v := by
  cases z <;> simp only [Ex1] at h <;> first | exact Ex0.out h | exact ExA.out h
theorem Ex1L.out : ∀ {zs : List Value} {B : List Value → Prop}, Ex1L zs B → ∃ vs, B vs
  | [], _, h => ⟨[], h⟩
  | z :: zs, B, h => by
    obtain ⟨v, h⟩ := Ex1.out h
    obtain ⟨vs, h⟩ := Ex1L.out h
    exact ⟨v :: vs, h⟩
theorem Ex2.out {z : Value} {B : Value → Prop} (h : Ex2 z B) : ∃ v, B v := by
  cases z <;> simp only [Ex2] at h <;> first | exact Ex1.out h | (obtain ⟨vs, h⟩ := Ex1L.out h; exact ⟨_, h⟩)
abbrev InR (n : Int) : Prop := -9223372036854775808 ≤ n ∧ n ≤ 9223372036854775807
abbrev chk (b : Bool) (X : Prop) : Prop := match b with | true => X | false => False
abbrev arith (k : IntKind) (n : Int) (K : Value → Prop) : Prop :=
  match k with
  | .i64 => InR n ∧ K (.int .i64 n)
  | k => K (.int k (k.wrap n))
def Quo (k : IntKind) (a b q : Int) : Prop := b ≠ 0 ∧ q = k.wrap (a.tdiv b)
def Rem (a b q : Int) : Prop := b ≠ 0 ∧ q = a.tmod b
def Shl (k : IntKind) (a b r : Int) : Prop := 0 ≤ b ∧ r = k.wrap (a * 2 ^ (min b.toNat k.bits))
def Shr (k : IntKind) (a b r : Int) : Prop := 0 ≤ b ∧ r = a.fdiv (2 ^ (min b.toNat k.bits))
def And (k : IntKind) (a b r : Int) : Prop := r = k.wrap ((BitVec.ofInt k.bits a) &&& (BitVec.ofInt k.bits b)).toNat
def Or (k : IntKind) (a b r : Int) : Prop := r = k.wrap ((BitVec.ofInt k.bits a) ||| (BitVec.ofInt k.bits b)).toNat
def Xor (k : IntKind) (a b r : Int) : Prop := r = k.wrap ((BitVec.ofInt k.bits a) ^^^ (BitVec.ofInt k.bits b)).toNat
def ybif (k : IntKind) (a b r : Int) : Prop := r = k.wrap ((BitVec.ofInt k.bits a) &&& ~~~(BitVec.ofInt k.bits b)).toNat
def kNum : IntKind → Nat
  | .i8 => 0 | .i16 => 1 | .i32 => 2 | .i64 => 3 | .u8 => 4 | .u16 => 5 | .u32 => 6 | .u64 => 7
theorem yans {a b : IntKind} (h : Nat.beq (kNum a) (kNum b) = true) : a = b := by cases a <;> cases b <;> first | rfl | (exact absurd h (by decide))
abbrev intV (op : BinOp) (k k' : IntKind) (a b : Int) (K : Value → Prop) : Prop :=
  match op with
  | .shl => ∃ r, Shl k a b r ∧ K (.int k r)
  | .shr => ∃ r, Shr k a b r ∧ K (.int k r)
  | op => chk (Nat.beq (kNum k) (kNum k')) (match op with
    | .add => arith k (a + b) K
    | .sub => arith k (a - b) K
    | .mul => arith k (a * b) K
    | .quo => ∃ r, Quo k a b r ∧ K (.int k r)
    | .rem => ∃ r, Rem a b r ∧ K (.int k r)
    | .and => ∃ r, And k a b r ∧ K (.int k r)
    | .or => ∃ r, Or k a b r ∧ K (.int k r)
    | .xor => ∃ r, Xor k a b r ∧ K (.int k r)
    | .andNot => ∃ r, ybif k a b r ∧ K (.int k r)
    | .eql => K (.bool (decide (a = b)))
    | .neq => K (.bool (!decide (a = b)))
    | .lss => K (.bool (decide (a < b)))
    | .leq => K (.bool (decide (a ≤ b)))
    | .gtr => K (.bool (decide (b < a)))
    | .geq => K (.bool (decide (b ≤ a)))
    | _ => False)
def strEq (a b : ByteArray) : Bool := a.toList == b.toList
def strLt (a b : ByteArray) : Bool := Op.bytesLess a.toList b.toList
abbrev strV (op : BinOp) (a b : ByteArray) (K : Value → Prop) : Prop :=
  match op with
  | .add => InR (a.size + b.size) ∧ K (.string (a ++ b))
  | .eql => K (.bool (strEq a b))
  | .neq => K (.bool (!strEq a b))
  | .lss => K (.bool (strLt a b))
  | .leq => K (.bool (strLt a b || strEq a b))
  | .gtr => K (.bool (!(strLt a b || strEq a b)))
  | .geq => K (.bool (!strLt a b))
  | _ => False
abbrev eqlV (op : BinOp) (b : Bool) (K : Value → Prop) : Prop :=
  match op with
  | .eql => K (.bool b)
  | .neq => K (.bool (!b))
  | _ => False
abbrev yaih (P : Program) (t : TypeId) : Bool := match P.underlying t with | some .bool => true | _ => false
abbrev yank (P : Program) (t : TypeId) : Bool := match P.underlying t with | some (.pointer _) => true | _ => false
abbrev yacp (P : Program) (t : TypeId) : Bool := match P.underlying t with | some (.slice _) => true | _ => false
abbrev yaap (P : Program) (t : TypeId) : Bool := match P.underlying t with | some .string => true | _ => false
def eqC (P : Program) (op : BinOp) (t : TypeId) (xo yo : Operand) (x y : Value) (h : Hp) (b : Bool) : Prop := hq P (do eqGuard op t xo yo x y; binOp op t x y) h fun v => v = .bool b
def slC (P : Program) (t : TypeId) (x : Value) (lo hi : Option Value) (m : Value) (h : Hp) (a : Option Addr) (l c : Nat) : Prop := hq P (Instr.sliceAt t x lo hi (some m)) h fun v => v = .slice a l c
abbrev binV (P : Program) (op : BinOp) (t : TypeId) (xo yo : Operand) (x y : Value) (h : Hp) (K : Value → Prop) : Prop :=
  match y with
  | .nilIface => ∃ b : Bool, eqC P op t xo yo x .nilIface h b ∧ K (.bool b)
  | y => match x, y with
  | .int k a, .int k' b => intV op k k' a b K
  | .string a, .string b => strV op a b K
  | .bool a, .bool b => chk (yaih P t) (eqlV op (a == b) K)
  | .pointer p, .pointer none => chk (yank P t) (eqlV op p.isNone K)
  | .slice a _ _, .slice none _ _ => chk (yacp P t) (eqlV op a.isNone K)
  | .agg xs, .agg ys => ∃ b : Bool, eqC P op t xo yo (.agg xs) (.agg ys) h b ∧ K (.bool b)
  | x, y => hq P (do eqGuard op t xo yo x y; binOp op t x y) h K
abbrev pickV (c a b : Value) (K : Value → Prop) : Prop :=
  match c with
  | .bool t => (match a, b with
    | .bool x, .bool y => K (.bool (cond t x y))
    | a, b => (match t with | true => K a | false => K b))
  | _ => False
abbrev NN (p : Option Addr) (k : Addr → Prop) : Prop := match p with | some a => k a | none => False
abbrev nilV (v : Value) (K : Value → Prop) : Prop :=
  match v with
  | .pointer p => NN p fun a => K (.pointer (some a))
  | .func (.func f) x c => K (.func (.func f) x c)
  | _ => False
abbrev addrV (v : Value) (k : Addr → Prop) : Prop := match v with | .pointer p => NN p k | _ => False
abbrev unV (op : UnOp) (v : Value) (K : Value → Prop) : Prop :=
  match op, v with
  | .neg, .int k n => arith k (0 - n) K
  | .not, .bool b => K (.bool (!b))
  | .xor, .int k n => ∃ r, Xor k (if k.signed then -1 else k.max) n r ∧ K (.int k r)
  | _, _ => False
abbrev yabu (P : Program) (t : TypeId) : Option IntKind := match P.underlying t with | some (.int k) => some k | _ => none
abbrev convV (P : Program) (src dst : TypeId) (v : Value) (K : Value → Prop) : Prop :=
  match yabu P src, yabu P dst, v with
  | some _, some k, .int _ n => arith k n K
  | none, none, .string s => chk (yaap P src && yaap P dst) (K (.string s))
  | _, _, _ => False
abbrev yacx (P : Program) (t : TypeId) : Option Bool :=
  match P.underlying t with
  | some (.struct _) | some (.array _ _) => some true
  | some _ => some false
  | none => none
abbrev yalx (h : Hp) (a : Addr) : Nat → List Value → Prop → Prop
  | _, [], K => K
  | i, v :: vs, K => cell h (a.add i) = some v ∧ yalx h a (i + 1) vs K
abbrev yach : Value → List Value | .agg zs => zs.toList | _ => []
def readsL (h : Hp) (p : Option Addr) (vs : List Value) : Prop :=
  match p with
  | none => vs = []
  | some a => ∀ i, i < vs.length → cell h (a.add i) = vs[i]?
abbrev loadV (P : Program) (t : TypeId) (a : Addr) (h : Hp) (K : Value → Prop) : Prop :=
  match yacx P t with
  | some true => match Nat.ble 33 (yaan P t) with
    | true => ∃ cs : List Value, cs.length = yaan P t ∧ readsL h (some a) cs ∧ K (.agg cs.toArray)
    | false => chk (Nat.beq (yach (yadx P t)).length (yaan P t)) (ExL (yach (yadx P t)) fun vs => yalx h a 0 vs (K (.agg vs.toArray)))
  | some false => Ex0 (yadx P t) fun v => cell h a = some v ∧ K v
  | none => False
abbrev nth {α : Type} : List α → Nat → Option α
  | [], _ => none
  | x :: _, 0 => some x
  | _ :: r, n + 1 => nth r n
abbrev yaed (P : Program) (s : TypeId) (f : Nat) : Option Field := match P.underlying s with | some (.struct fs) => nth fs.toList f | _ => none
abbrev partV (P : Program) (t : TypeId) (cs : List Value) (off : Nat) (K : Value → Prop) : Prop :=
  match yacx P t with
  | some true => K (.agg ((cs.drop off).take (yaan P t)).toArray)
  | some false => (match nth cs off with | some v => K v | none => False)
  | none => False
abbrev yaki (P : Program) (e : TypeId) : Option (TypeId × Nat) := match P.info? e with | some i => some (e, i.size) | none => none
abbrev elemT (P : Program) (t : TypeId) : Option (TypeId × Nat) := match P.underlying t with | some (.slice e) => yaki P e | _ => none
abbrev arrT (P : Program) (t : TypeId) : Option (Nat × TypeId × Nat) := match P.underlying t with | some (.array n e) => (match yaki P e with | some r => some (n, r) | none => none) | _ => none
abbrev yacb (P : Program) (t : TypeId) (x i : Value) (K : Value → Prop) : Prop :=
  match i with
  | .int _ i => (match x with
    | .slice p len _ => (match elemT P t with
      | some (_, sz) => (0 ≤ i ∧ i < len) ∧ NN p fun a => K (.pointer (some (a.add (i.toNat * sz))))
      | none => False)
    | .pointer p => (match arrT P t with
      | some (n, _, sz) => (0 ≤ i ∧ i < n) ∧ NN p fun a => K (.pointer (some (a.add (i.toNat * sz))))
      | none => False)
    | _ => False)
  | _ => False
abbrev yaqk (P : Program) (t : TypeId) (x i : Value) (K : Value → Prop) : Prop :=
  match i with
  | .int _ i => (match x with
    | .string s => chk (yaap P t) ((0 ≤ i ∧ i < s.size) ∧ K (.int .u8 (s.data.toList.getD i.toNat 0).toNat))
    | .agg cs => (match arrT P t with
      | some (n, e, sz) => (0 ≤ i ∧ i < n) ∧ partV P e cs.toList (i.toNat * sz) K
      | none => False)
    | _ => False)
  | _ => False
def yaai (p : Option Addr) (cap a sz : Nat) : Option Addr := if cap = a then p else p.map (·.add (a * sz))
abbrev yafu (v : Option Value) (d : Int) (k : Int → Prop) : Prop := match v with | none => k d | some (.int _ n) => k n | _ => False
abbrev yaqx (P : Program) (t : TypeId) (x : Value) (lo hi : Option Value) (K : Value → Prop) : Prop :=
  match x with
  | .string s => chk (yaap P t) (yafu hi s.size fun b => yafu lo 0 fun a => (0 ≤ a ∧ a ≤ b ∧ b ≤ s.size) ∧ K (.string (s.extract a.toNat b.toNat)))
  | .slice p len cap => (match elemT P t with
    | some (_, sz) => yafu hi len fun b => yafu lo 0 fun a => (0 ≤ a ∧ a ≤ b ∧ b ≤ cap) ∧
        K (.slice (yaai p cap a.toNat sz) (b.toNat - a.toNat) (cap - a.toNat))
    | none => False)
  | .pointer p => (match arrT P t with
    | some (n, _, sz) => NN p fun ad => yafu hi n fun b => yafu lo 0 fun a => (0 ≤ a ∧ a ≤ b ∧ b ≤ n) ∧
        K (.slice (yaai (some ad) n a.toNat sz) (b.toNat - a.toNat) (n - a.toNat))
    | none => False)
  | _ => False
abbrev lenV (P : Program) (t : TypeId) (x : Value) (K : Value → Prop) : Prop :=
  match x with
  | .string s => chk (yaap P t) (K (.int .i64 s.size))
  | .slice _ n _ => chk (yacp P t) (K (.int .i64 n))
  | .agg _ => (match arrT P t with | some (n, _, _) => K (.int .i64 n) | none => False)
  | _ => False
abbrev capV (P : Program) (t : TypeId) (x : Value) (K : Value → Prop) : Prop :=
  match x with
  | .slice _ _ n => chk (yacp P t) (K (.int .i64 n))
  | _ => False
abbrev max2V (a b : Value) (K : Value → Prop) : Prop := match a, b with | .int k x, .int _ y => K (.int k (if x < y then y else x)) | _, _ => False
abbrev min2V (a b : Value) (K : Value → Prop) : Prop := match a, b with | .int k x, .int _ y => K (.int k (if y < x then y else x)) | _, _ => False
abbrev yacd (P : Program) (b : Builtin) (tys : List TypeId) (args : List Value) (K : Value → Prop) : Prop :=
  match b, tys, args with
  | .len, t :: _, x :: _ => lenV P t x K
  | .cap, t :: _, x :: _ => capV P t x K
  | .max, _, [x, y] => max2V x y K
  | .min, _, [x, y] => min2V x y K
  | .max, _, [x, y, z] => max2V x y fun a => max2V a z K
  | .min, _, [x, y, z] => min2V x y fun a => min2V a z K
  | _, _, _ => False
abbrev setL (cells : List Value) (off : Nat) : List Value → List Value
  | [] => cells
  | v :: vs => setL (cells.set off v) (off + 1) vs
abbrev yaft (v : Value) (k : List Value → Prop) : Prop := match scalar v with | true => k [v] | false => (match v with | .agg cs => k cs.toList | _ => False)
abbrev fillV (place : Nat → Option (Nat × Nat)) (cells : List Value) (K : List Value → Prop) : List (Nat × Value) → Prop
  | [] => K cells
  | (i, v) :: rest =>
    match place i with
    | none => False
    | some (off, size) => yaft v fun vs => chk (Nat.beq vs.length size && Nat.ble (off + vs.length) cells.length) (fillV place (setL cells off vs) K rest)
def setB (cells : List Value) (off : Nat) (vs : List Value) : List Value := cells.take off ++ vs ++ cells.drop (off + vs.length)
abbrev fillB (place : Nat → Option (Nat × Nat)) (N : Nat) (cells : List Value) (K : List Value → Prop) : List (Nat × Value) → Prop
  | [] => K cells
  | (i, v) :: rest =>
    match place i with
    | none => False
    | some (off, size) => match Nat.ble 33 size with
      | true => yaft v fun vs => vs.length = size ∧ chk (Nat.ble (off + size) N) (fillB place N (setB cells off vs) K rest)
      | false => yaft v fun vs => chk (Nat.beq vs.length size && Nat.ble (off + vs.length) N) (fillB place N (setL cells off vs) K rest)
abbrev yajk (P : Program) (t : TypeId) : Bool := match P.info? t with | some i => (match i.zero with | some (.agg _) => true | _ => false) | none => false
abbrev yazc (P : Program) (t : TypeId) (parts : List (Nat × Value)) (K : Value → Prop) : Prop :=
  match P.underlying t with
  | some (.struct fs) => chk (fs.toList.all (fun f => (P.info? f.type).isSome) && yajk P t)
      (match Nat.ble 33 (yaan P t) with
        | true => chk (Nat.beq (yach (yadx P t)).length (yaan P t)) (fillB (fun i => match nth fs.toList i with | some f => some (f.offset, yaan P f.type) | none => none) (yaan P t) (yach (yadx P t)) (fun cs => K (.agg cs.toArray)) parts)
        | false => fillV (fun i => match nth fs.toList i with | some f => some (f.offset, yaan P f.type) | none => none) (yach (yadx P t)) (fun cs => K (.agg cs.toArray)) parts)
  | some (.array _ e) => chk ((P.info? e).isSome && yajk P t) (fillV (fun i => some (i * yaan P e, yaan P e)) (yach (yadx P t)) (fun cs => K (.agg cs.toArray)) parts)
  | _ => False
abbrev oq (P : Program) (op : Op) (ρ : Operand → Value) (h : Hp) (K : Value → Prop) : Prop :=
  match op with
  | .move x | .assign x => K (ρ x)
  | .pick c a b => pickV (ρ c) (ρ a) (ρ b) K
  | .nilCheck x => nilV (ρ x) K
  | .binOp op t x y _ => binV P op t x y (ρ x) (ρ y) h K
  | .unOp op _ x => unV op (ρ x) K
  | .convert s d x => convV P s d (ρ x) K
  | .load t a => addrV (ρ a) fun a => loadV P t a h K
  | .fieldAddr s x f => (match yaed P s f with | some fd => chk (!Nat.beq (yaan P fd.type) 0) (addrV (ρ x) fun a => K (.pointer (some (a.add fd.offset)))) | none => False)
  | .field s x f => (match yaed P s f with | some fd => (match ρ x with | .agg cs => partV P fd.type cs.toList fd.offset K | _ => False) | none => False)
  | .indexAddr t x i => yacb P t (ρ x) (ρ i) K
  | .index t x i => yaqk P t (ρ x) (ρ i) K
  | .slice t x lo hi none => yaqx P t (ρ x) (lo.map ρ) (hi.map ρ) K
  | .slice t x lo hi (some m) => ∃ (a : Option Addr) (l c : Nat), slC P t (ρ x) (lo.map ρ) (hi.map ρ) (ρ m) h a l c ∧ K (.slice a l c)
  | .extract x i => (match ρ x with | .tuple vs => (match nth vs.toList i with | some v => K v | none => False) | _ => False)
  | .makeFunc fn first cap => K (.func fn (first.toList.map ρ).toArray (cap.toList.map ρ).toArray)
  | .build t parts => yazc P t (parts.toList.map fun p => (p.1, ρ p.2)) K
  | .call { callee := .builtin b, args, argTypes } => yacd P b argTypes.toList (args.toList.map ρ) K
  | _ => False
open Go
section
variable {P : Program}
def valK (K : Value → Prop) : Next → Prop := fun n => ∃ v, n = .value v ∧ K v
theorem yaaq (s : Sem Value) (h : Hp) (K : Value → Prop) (hs : hq P s h K) : hq P (do pure (.value (← s)) : Sem Next) h (valK K) := by
  rw [yaab]
  exact yacf s h _ _ (fun a ha => ⟨a, rfl, ha⟩) hs
theorem yakj (v : Value) (h : Hp) (K : Value → Prop) (hk : K v) : hq P (pure (.value v) : Sem Next) h (valK K) := ⟨v, rfl, hk⟩
theorem yafi {k : IntKind} {n : Int} {K : Value → Prop} (h : arith k n K) : K (.int k (k.wrap n)) := by
  cases k <;> simp only [arith] at h <;> first | exact h | skip
  obtain ⟨⟨h1, h2⟩, h3⟩ := h
  have : IntKind.i64.wrap n = n := by rw [IntKind.wrap_i64]; omega
  rwa [this]
theorem yaae {b : Bool} {X : Prop} (h : chk b X) : b = true ∧ X := by
  cases b
  · exact h.elim
  · exact ⟨rfl, h⟩
theorem yakk {op : BinOp} {t : TypeId} {xo yo : Operand} {k k' : IntKind} {a b : Int} {h : Hp} {K : Value → Prop} (hk : intV op k k' a b K) :
    hq P (do eqGuard op t xo yo (.int k a) (.int k' b); binOp op t (.int k a) (.int k' b)) h K := by
  rw [yaab]
  have hg : eqGuard op t xo yo (.int k a) (.int k' b) = pure () := by unfold eqGuard; split <;> rfl
  rw [hg]
  show hq P (binOp op t (.int k a) (.int k' b)) h K
  cases op
  case shl =>
    obtain ⟨r, ⟨h0, rfl⟩, hr⟩ := hk
    simp only [binOp, Op.shift]
    rw [if_neg (by omega)]
    exact hr
  case shr =>
    obtain ⟨r, ⟨h0, rfl⟩, hr⟩ := hk
    simp only [binOp, Op.shift]
    rw [if_neg (by omega)]
    exact hr
  all_goals
    simp only [intV] at hk
    replace hk := yaae hk
    have hkk := hk.1
    replace hk := hk.2
    replace hkk := yans hkk
    subst hkk
    simp only [binOp, ne_eq, not_true_eq_false, if_false]
  case add => exact yafi hk
  case sub => exact yafi hk
  case mul => exact yafi hk
  case quo => obtain ⟨r, ⟨h0, rfl⟩, hr⟩ := hk; simp only [Op.intDiv]; rw [if_neg h0]; exact hr
  case rem => obtain ⟨r, ⟨h0, rfl⟩, hr⟩ := hk; simp only [Op.intDiv]; rw [if_neg h0]; exact hr
  case and => obtain ⟨r, rfl, hr⟩ := hk; exact hr
  case or => obtain ⟨r, rfl, hr⟩ := hk; exact hr
  case xor => obtain ⟨r, rfl, hr⟩ := hk; exact hr
  case andNot => obtain ⟨r, rfl, hr⟩ := hk; exact hr
  case eql => exact hk
  case neq => exact hk
  case lss => exact hk
  case leq => exact hk
  case gtr => exact hk
  case geq => exact hk
theorem yagx {op : BinOp} {t : TypeId} {xo yo : Operand} {a b : ByteArray} {h : Hp} {K : Value → Prop} (hk : strV op a b K) :
    hq P (do eqGuard op t xo yo (.string a) (.string b); binOp op t (.string a) (.string b)) h K := by
  rw [yaab]
  have hg : eqGuard op t xo yo (.string a) (.string b) = pure () := by unfold eqGuard; split <;> rfl
  rw [hg]
  show hq P (binOp op t (.string a) (.string b)) h K
  cases op <;> simp only [strV] at hk <;> first | exact hk.elim | skip
  case add =>
    obtain ⟨⟨_, h2⟩, hk⟩ := hk
    have h3 : IntKind.i64.max = 9223372036854775807 := by decide
    simp only [binOp, Op.stringOp]
    rw [if_neg (by rw [h3]; omega)]
    exact hk
  all_goals exact hk
theorem yaug {t : TypeId} (h : yank P t = true) : ∃ e, P.underlying t = some (.pointer e) := by
  unfold yank at h; split at h <;> first | exact ⟨_, ‹_›⟩ | cases h
theorem yaes {t : TypeId} (h : yacp P t = true) : ∃ e, P.underlying t = some (.slice e) := by
  unfold yacp at h; split at h <;> first | exact ⟨_, ‹_›⟩ | cases h
theorem yaqh {t : TypeId} (h : yaih P t = true) : P.underlying t = some .bool := by
  unfold yaih at h; split at h <;> first | assumption | cases h
theorem yabg {t : TypeId} (h : yaap P t = true) : P.underlying t = some .string := by
  unfold yaap at h; split at h <;> first | assumption | cases h
theorem yawf {op : BinOp} {t : TypeId} {xo yo : Operand} {x y : Value} {b : Bool} {h : Hp} {K : Value → Prop}
    (hg : eqGuard op t xo yo x y = pure ())
    (hb : ∀ op, (op = .eql ∨ op = .neq) → binOp op t x y = (match op with | .eql => do pure (.bool (← Op.equal t x y)) | _ => do pure (.bool (!(← Op.equal t x y)))))
    (he : ∀ K : Bool → Prop, K b → hq P (Op.equal t x y) h K) (hk : eqlV op b K) :
    hq P (do eqGuard op t xo yo x y; binOp op t x y) h K := by
  rw [yaab, hg]
  show hq P (binOp op t x y) h K
  cases op <;> simp only [eqlV] at hk <;> first | exact hk.elim | skip
  · rw [hb .eql (.inl rfl)]; simp only []; rw [yaab]; exact he _ hk
  · rw [hb .neq (.inr rfl)]; simp only []; rw [yaab]; exact he _ hk
theorem yahb {op : BinOp} {t : TypeId} {xo yo : Operand} {x y : Value} {h : Hp} {K : Value → Prop} (hk : binV P op t xo yo x y h K) :
    hq P (do eqGuard op t xo yo x y; binOp op t x y) h K := by
  unfold binV at hk
  split at hk
  · obtain ⟨b, hb, hk⟩ := hk
    exact yacf _ _ _ _ (fun v hv => by rw [hv]; exact hk) hb
  split at hk
  · exact yakk hk
  · exact yagx hk
  · obtain ⟨ht, hk⟩ := yaae hk
    have ht := yaqh ht
    refine yawf (by unfold eqGuard; split <;> rfl) (fun op ho => by rcases ho with rfl | rfl <;> rfl) (fun K hK => ?_) hk
    unfold Op.equal Op.maxDepth Op.equalIn
    rw [yaab, yaaf, ht]
    exact hK
  · rename_i p _
    obtain ⟨ht, hk⟩ := yaae hk
    obtain ⟨e, ht⟩ := yaug ht
    refine yawf (by unfold eqGuard; split <;> rfl) (fun op ho => by rcases ho with rfl | rfl <;> rfl) (fun K hK => ?_) hk
    unfold Op.equal Op.maxDepth Op.equalIn
    rw [yaab, yaaf, ht]
    cases p <;> exact hK
  · rename_i p _ _ _ _ _
    obtain ⟨ht, hk⟩ := yaae hk
    obtain ⟨e, ht⟩ := yaes ht
    refine yawf (by unfold eqGuard; split <;> rfl) (fun op ho => by rcases ho with rfl | rfl <;> rfl) (fun K hK => ?_) hk
    unfold Op.equal Op.maxDepth Op.equalIn
    rw [yaab, yaaf, ht]
    cases p <;> exact hK
  · obtain ⟨b, hb, hk⟩ := hk
    exact yacf _ _ _ _ (fun v hv => by rw [hv]; exact hk) hb
  · exact hk
theorem yacg {α : Type} : ∀ (l : List α) (n : Nat), nth l n = l[n]?
  | [], _ => rfl
  | x :: _, 0 => rfl
  | _ :: r, n + 1 => by simp [nth, yacg r n]
theorem yaij (t : TypeId) (h : Hp) (K : Bool → Prop) : hq P (isAgg t) h K = (match yacx P t with | some b => K b | none => False) := by
  unfold isAgg yacx
  rw [yaab, yaaf]
  cases hu : P.underlying t with
  | none => rfl
  | some d => cases d <;> rfl
theorem yabp (t : TypeId) (h : Hp) (K : Nat → Prop) : hq P (sizeOf t) h K = (match P.info? t with | some i => K i.size | none => False) := by
  unfold sizeOf
  rw [yaab, yabf]
  cases P.info? t <;> rfl
theorem yagf {t : TypeId} {d : TypeDesc} (h : P.underlying t = some d) : ∃ i, P.info? t = some i := by
  unfold Program.underlying at h
  cases hi : P.info? t with
  | none => simp [hi] at h
  | some i => exact ⟨i, rfl⟩
theorem yada {t : TypeId} {b : Bool} (h : yacx P t = some b) : ∃ i, P.info? t = some i := by
  unfold yacx at h
  cases hu : P.underlying t with
  | none => simp [hu] at h
  | some d => exact yagf hu
theorem yaet (a : Addr) (h : Hp) (K : Array Value → Prop) : ∀ (vs : List Value) (i : Nat) (acc : Array Value), yalx h a i vs (K (acc ++ vs.toArray)) → hq P (loadCellsFrom a i vs.length acc) h K
  | [], i, acc, hk => by
    have : acc ++ ([] : List Value).toArray = acc := by simp
    rw [this] at hk
    exact hk
  | v :: vs, i, acc, hk => by
    obtain ⟨hv, hk⟩ := hk
    simp only [List.length_cons, loadCellsFrom]
    rw [yaab]
    refine ⟨v, hv, ?_⟩
    refine yaet a h K vs (i + 1) (acc.push v) ?_
    have : acc.push v ++ vs.toArray = acc ++ (v :: vs).toArray := by apply Array.ext'; simp
    rwa [this]
theorem yaic {a : Addr} {h : Hp} {K : Prop} : ∀ (vs : List Value) (i : Nat), (∀ j, j < vs.length → cell h (a.add (i + j)) = vs[j]?) → K → yalx h a i vs K
  | [], _, _, hk => hk
  | v :: vs, i, hr, hk => ⟨hr 0 (by simp), yaic vs (i + 1) (fun j hj => by
      have := hr (j + 1) (by simpa using hj)
      rw [show i + 1 + j = i + (j + 1) by omega]
      simpa using this) hk⟩
theorem yaly {t : TypeId} {a : Addr} {h : Hp} {K : Value → Prop} (hk : loadV P t a h K) : hq P (loadVar t a) h K := by
  unfold loadV at hk
  unfold loadVar
  rw [yaab, yaij]
  split at hk
  · rename_i ha
    rw [ha]
    simp only [if_true]
    obtain ⟨i, hi⟩ := yada ha
    obtain ⟨vs, hl, hk⟩ : ∃ vs : List Value, vs.length = yaan P t ∧ yalx h a 0 vs (K (.agg vs.toArray)) := by
      split at hk
      · obtain ⟨cs, hl, hr, hk⟩ := hk
        exact ⟨cs, hl, yaic (a := a) cs 0 (fun i hi => by rw [Nat.zero_add]; exact hr i hi) hk⟩
      · obtain ⟨hsz, hk⟩ := yaae hk
        obtain ⟨vs, hl, hk⟩ := ExL.out hk
        exact ⟨vs, by rw [hl]; exact Nat.eq_of_beq_eq_true hsz, hk⟩
    rw [yaab, yabp, hi]
    simp only []
    rw [yaab]
    unfold loadCells
    have hs : i.size = vs.length := by rw [hl]; simp only [yaan, hi]
    rw [hs]
    exact yaet a h _ vs 0 #[] (by simp only [yaah, Array.empty_append]; exact hk)
  · rename_i ha
    rw [ha]
    simp only []
    obtain ⟨v, hv, hk⟩ := Ex0.out hk
    exact ⟨v, hv, hk⟩
  · exact hk.elim
theorem yaio {s : TypeId} {f : Nat} {fd : Field} (h : yaed P s f = some fd) : ∃ fs, P.underlying s = some (.struct fs) ∧ fs[f]? = some fd := by
  unfold yaed at h
  split at h
  · rename_i fs hu; exact ⟨fs, hu, by rw [yacg] at h; simpa using h⟩
  · cases h
theorem yals {t : TypeId} {cs : Array Value} {off : Nat} {h : Hp} {K : Value → Prop} (hk : partV P t cs.toList off K) : hq P (part t cs off) h K := by
  unfold partV at hk
  unfold part
  rw [yaab, yaij]
  split at hk
  · rename_i ha
    rw [ha]
    obtain ⟨i, hi⟩ := yada ha
    simp only [if_true]
    rw [yaab, yabp, hi]
    simp only [yaan, hi] at hk
    have : cs.extract off (off + i.size) = ((cs.toList.drop off).take i.size).toArray := by apply Array.ext'; simp
    show K (.agg (cs.extract off (off + i.size)))
    rwa [this]
  · rename_i ha
    rw [ha]
    simp only [yacg] at hk
    simp only [Bool.false_eq_true, if_false]
    have : cs.toList[off]? = cs[off]? := by simp
    rw [this] at hk
    cases hc : cs[off]? with
    | none => rw [hc] at hk; exact hk.elim
    | some v => rw [hc] at hk; exact hk
  · exact hk.elim
theorem yale {p : Option Addr} {k : Addr → Prop} (h : NN p k) : ∃ a, p = some a ∧ k a := by
  cases p with
  | none => exact h.elim
  | some a => exact ⟨a, rfl, h⟩
theorem yagk {e e' : TypeId} {sz : Nat} (h : yaki P e = some (e', sz)) : e' = e ∧ ∃ i, P.info? e = some i ∧ i.size = sz := by
  unfold yaki at h; split at h
  · rename_i i hi; simp only [Option.some.injEq, Prod.mk.injEq] at h; obtain ⟨rfl, rfl⟩ := h; exact ⟨rfl, i, hi, rfl⟩
  · cases h
theorem yabk {t e : TypeId} {sz : Nat} (h : elemT P t = some (e, sz)) : P.underlying t = some (.slice e) ∧ ∃ i, P.info? e = some i ∧ i.size = sz := by
  unfold elemT at h; split at h
  · obtain ⟨rfl, hi⟩ := yagk h; exact ⟨by assumption, hi⟩
  · cases h
theorem yafl {t e : TypeId} {n sz : Nat} (h : arrT P t = some (n, e, sz)) : P.underlying t = some (.array n e) ∧ ∃ i, P.info? e = some i ∧ i.size = sz := by
  unfold arrT at h; split at h
  · split at h
    · rename_i r hr
      simp only [Option.some.injEq, Prod.mk.injEq] at h; obtain ⟨rfl, rfl⟩ := h; obtain ⟨rfl, hi⟩ := yagk hr; exact ⟨by assumption, hi⟩
    · cases h
  · cases h
theorem yadl {t : TypeId} {x i : Value} {h : Hp} {K : Value → Prop} (hk : yacb P t x i K) : hq P (Instr.indexAt t x i) h K := by
  unfold yacb at hk
  split at hk
  · split at hk
    · split at hk
      · rename_i e sz he
        obtain ⟨hr, hk⟩ := hk
        obtain ⟨a, rfl, hk⟩ := yale hk
        obtain ⟨hu, inf, hinf, rfl⟩ := yabk he
        simp only [Instr.indexAt, asIntOf, yaab, yaah, yaaf, hu, yabp, hinf, if_pos hr]
        exact hk
      · exact hk.elim
    · split at hk
      · rename_i n e sz he
        obtain ⟨hr, hk⟩ := hk
        obtain ⟨a, rfl, hk⟩ := yale hk
        obtain ⟨hu, inf, hinf, rfl⟩ := yafl he
        simp only [Instr.indexAt, Instr.sureAddr, asIntOf, yaab, yaah, yaaf, hu, yabp, hinf, if_pos hr]
        exact hk
      · exact hk.elim
    · exact hk.elim
  · exact hk.elim
theorem yaqi {t : TypeId} {x i : Value} {h : Hp} {K : Value → Prop} (hk : yaqk P t x i K) : hq P (Instr.index t x i) h K := by
  unfold yaqk at hk
  split at hk
  · rename_i k i
    split at hk
    · rename_i s
      obtain ⟨ht, ⟨h0, h1⟩, hk⟩ := yaae hk
      have hu := yabg ht
      have hb : i.toNat < s.size := by omega
      have hs : s[i.toNat]? = some s[i.toNat] := by simp [hb]
      have hg : s.data.toList.getD i.toNat 0 = s[i.toNat] := by
        have hb' : i.toNat < s.data.size := hb
        simp only [List.getD, Array.getElem?_toList]
        rw [Array.getElem?_eq_getElem hb']
        rfl
      simp only [Instr.index, asIntOf, yaab, yaah, yaaf, hu, if_pos h0, hs]
      rwa [hg] at hk
    · split at hk
      · rename_i n e sz he
        obtain ⟨hr, hk⟩ := hk
        obtain ⟨hu, inf, hinf, rfl⟩ := yafl he
        simp only [Instr.index, asIntOf, yaab, yaah, yaaf, hu, yabp, hinf, if_pos hr]
        exact yals hk
      · exact hk.elim
    · exact hk.elim
  · exact hk.elim
theorem yaks {i : Int} {k : IntKind} {y : Nat} {cd : BoundsCode} {h : Hp} {K : Nat → Prop} (h0 : 0 ≤ i ∧ i ≤ y) (hk : K i.toNat) : hq P (Instr.sliceBound (.int k i) y cd) h K := by
  simp only [Instr.sliceBound, asIntOf, yaab, yaah, if_pos h0]
  exact hk
theorem yadb {v : Option Value} {d : Int} {k : Int → Prop} (h : yafu v d k) : ∃ i, k i ∧ ((v = none ∧ i = d) ∨ ∃ kd, v = some (.int kd i)) := by
  unfold yafu at h
  split at h
  · exact ⟨d, h, .inl ⟨rfl, rfl⟩⟩
  · rename_i kd i; exact ⟨i, h, .inr ⟨kd, rfl⟩⟩
  · exact h.elim
theorem yajr {isSlice : Bool} {len cap : Nat} {lo hi : Option Value} {a b : Int} {h : Hp} {K : Nat × Nat × Nat → Prop}
    (hb : (hi = none ∧ b = len) ∨ ∃ kd, hi = some (.int kd b)) (ha : (lo = none ∧ a = 0) ∨ ∃ kd, lo = some (.int kd a))
    (h0 : 0 ≤ a) (h1 : a ≤ b) (h2 : b ≤ cap) (hk : K (a.toNat, b.toNat, cap)) : hq P (Instr.sliceBounds isSlice len cap lo hi none) h K := by
  simp only [Instr.sliceBounds, yaab, yaah]
  rcases hb with ⟨rfl, rfl⟩ | ⟨kd, rfl⟩
  · rcases ha with ⟨rfl, rfl⟩ | ⟨kd', rfl⟩
    · simp only [yaah, yaab]; exact hk
    · simp only [yaah, yaab]
      refine yaks ⟨h0, h1⟩ ?_
      exact hk
  · rcases ha with ⟨rfl, rfl⟩ | ⟨kd', rfl⟩
    · simp only [yaah, yaab]
      exact yaks ⟨by omega, h2⟩ hk
    · simp only [yaah, yaab]
      refine yaks ⟨by omega, h2⟩ ?_
      exact yaks ⟨h0, by omega⟩ hk
theorem yagc {t : TypeId} {x : Value} {lo hi : Option Value} {h : Hp} {K : Value → Prop} (hk : yaqx P t x lo hi K) : hq P (Instr.sliceAt t x lo hi none) h K := by
  unfold yaqx at hk
  split at hk
  · rename_i s
    obtain ⟨ht, hk⟩ := yaae hk
    obtain ⟨b, hk, hb⟩ := yadb hk
    obtain ⟨a, ⟨⟨h0, h1, h2⟩, hk⟩, ha⟩ := yadb hk
    have hu := yabg ht
    simp only [Instr.sliceAt, yaab, yaaf, hu, Instr.slice, Option.isSome_none, Bool.false_eq_true, if_false, yaah]
    exact yajr hb ha h0 h1 h2 hk
  · rename_i p len cap
    split at hk
    · rename_i e sz he
      obtain ⟨hu, inf, hinf, rfl⟩ := yabk he
      obtain ⟨b, hk, hb⟩ := yadb hk
      obtain ⟨a, ⟨⟨h0, h1, h2⟩, hk⟩, ha⟩ := yadb hk
      simp only [Instr.sliceAt, yaab, yaaf, hu, Instr.slice]
      refine yajr hb ha h0 h1 h2 ?_
      simp only [yabp, hinf, yaah]
      exact hk
    · exact hk.elim
  · rename_i p
    split at hk
    · rename_i n e sz he
      obtain ⟨hu, inf, hinf, rfl⟩ := yafl he
      replace hk := yale hk
      obtain ⟨ad, rfl, hk⟩ := hk
      obtain ⟨b, hk, hb⟩ := yadb hk
      obtain ⟨a, ⟨⟨h0, h1, h2⟩, hk⟩, ha⟩ := yadb hk
      simp only [Instr.sliceAt, yaab, yaaf, hu, Instr.sureAddr, yaah]
      refine yajr hb ha h0 h1 h2 ?_
      simp only [yabp, hinf]
      unfold yaai at hk
      split at hk <;> simp_all
    · exact hk.elim
  · exact hk.elim
theorem yawj {t : TypeId} {x : Value} {h : Hp} {K : Value → Prop} (tys : Array TypeId) (ty : TypeId) (args : Array Value) (ht : tys[0]? = some t) (hx : args[0]? = some x) (hk : lenV P t x K) :
    hq P (Builtin.len_ tys ty args) h K := by
  unfold lenV at hk
  simp only [Builtin.len_, ht, hx]
  split at hk
  · obtain ⟨hc, hk⟩ := yaae hk
    simp only [yaab, yaaf, yabg hc, yaah]
    exact hk
  · obtain ⟨hc, hk⟩ := yaae hk
    obtain ⟨e, hu⟩ := yaes hc
    simp only [yaab, yaaf, hu, yaah]
    exact hk
  · split at hk
    · rename_i n e sz he
      obtain ⟨hu, _⟩ := yafl he
      simp only [yaab, yaaf, hu, yaah]
      exact hk
    · exact hk.elim
  · exact hk.elim
theorem yawd {t : TypeId} {x : Value} {h : Hp} {K : Value → Prop} (tys : Array TypeId) (ty : TypeId) (args : Array Value) (ht : tys[0]? = some t) (hx : args[0]? = some x) (hk : capV P t x K) :
    hq P (Builtin.cap_ tys ty args) h K := by
  unfold capV at hk
  simp only [Builtin.cap_, ht, hx]
  split at hk
  · obtain ⟨hc, hk⟩ := yaae hk
    obtain ⟨e, hu⟩ := yaes hc
    simp only [yaab, yaaf, hu, yaah]
    exact hk
  · exact hk.elim
theorem yail {op : UnOp} {v : Value} {h : Hp} {K : Value → Prop} (hk : unV op v K) : hq P (Op.unary op v) h K := by
  unfold unV at hk
  split at hk
  · exact yafi hk
  · exact hk
  · obtain ⟨r, rfl, hk⟩ := hk; exact hk
  · exact hk.elim
theorem yaeg {t : TypeId} {k : IntKind} (h : yabu P t = some k) : P.underlying t = some (.int k) := by
  unfold yabu at h; split at h
  · simp only [Option.some.injEq] at h; subst h; assumption
  · cases h
theorem yaip {s d : TypeId} {v : Value} {h : Hp} {K : Value → Prop} (hk : convV P s d v K) : hq P (convert s d v) h K := by
  unfold convV at hk
  split at hk
  · rename_i ks k kv n h1 h2
    simp only [convert, yaab, yaaf, yaeg h1, yaeg h2]
    exact yafi hk
  · rename_i h1 h2
    obtain ⟨hc, hk⟩ := yaae hk
    simp only [Bool.and_eq_true] at hc
    simp only [convert, yaab, yaaf, yabg hc.1, yabg hc.2]
    exact hk
  · exact hk.elim
theorem yafh (off : Nat) : ∀ (vs : List Value) (k : Nat) (cells : Array Value),
    ((vs.zipIdx k).foldl (fun cs (c, j) => cs.setIfInBounds (off + j) c) cells).toList = setL cells.toList (off + k) vs
  | [], _, _ => rfl
  | v :: vs, k, cells => by
    simp only [List.zipIdx_cons, List.foldl_cons, setL]
    rw [yafh off vs (k + 1)]
    simp only [Array.toList_setIfInBounds, Nat.add_assoc]
theorem yadc {v : Value} {k : List Value → Prop} (h : yaft v k) : k v.cells.toList := by
  unfold yaft at h
  cases v <;> first | exact h | exact False.elim h
theorem yafv {place place' : Nat → Option (Nat × Nat)} (hp : ∀ i, place i = place' i) {K : List Value → Prop} :
    ∀ (parts : List (Nat × Value)) (cells : Array Value), fillV place cells.toList K parts → ∃ cs, Instr.fill place' cells parts = some cs ∧ K cs.toList
  | [], cells, h => ⟨cells, rfl, h⟩
  | (i, v) :: rest, cells, h => by
    unfold fillV at h
    unfold Instr.fill
    rw [← hp i]
    split at h
    · exact h.elim
    · rename_i off size hpl
      rw [hpl]
      simp only []
      have h2 := yadc h
      obtain ⟨hc, h3⟩ := yaae h2
      simp only [Bool.and_eq_true] at hc
      have e1 := Nat.eq_of_beq_eq_true hc.1
      have e2 := Nat.le_of_ble_eq_true hc.2
      simp only [Array.length_toList] at e1 e2
      rw [if_neg (by simp; omega)]
      have e3 : (v.cells.zipIdx.foldl (fun cs (c, j) => cs.setIfInBounds (off + j) c) cells).toList = setL cells.toList off v.cells.toList := by
        have := yafh off v.cells.toList 0 cells
        rw [← Array.foldl_toList, Array.toList_zipIdx]
        exact this
      rw [← e3] at h3
      exact yafv hp rest _ h3
theorem yapj : ∀ (vs cells : List Value) (off : Nat), off + vs.length ≤ cells.length → setL cells off vs = setB cells off vs
  | [], cells, off, _ => by simp [setL, setB]
  | v :: vs, cells, off, h => by
    rw [List.length_cons] at h
    have ih := yapj vs (cells.set off v) (off + 1) (by rw [List.length_set]; omega)
    unfold setL
    rw [ih]
    unfold setB
    rw [List.take_set, List.drop_set, if_pos (by omega)]
    have e1 : (cells.take (off + 1)).set off v = cells.take off ++ [v] := by
      rw [List.take_succ_eq_append_getElem (by omega), List.set_append, if_neg (by rw [List.length_take]; omega)]
      have : (cells.take off).length = off := by rw [List.length_take]; omega
      rw [this, Nat.sub_self]; rfl
    rw [e1, List.length_cons]
    simp [Nat.add_assoc, Nat.add_comm 1]
theorem yanp : ∀ (vs cells : List Value) (off : Nat), (setL cells off vs).length = cells.length
  | [], _, _ => rfl
  | v :: vs, cells, off => by unfold setL; rw [yanp vs]; exact List.length_set
theorem yajm {place place' : Nat → Option (Nat × Nat)} (hp : ∀ i, place i = place' i) {N : Nat} {K : List Value → Prop} :
    ∀ (parts : List (Nat × Value)) (cells : Array Value), cells.size = N → fillB place N cells.toList K parts → ∃ cs, Instr.fill place' cells parts = some cs ∧ K cs.toList
  | [], cells, _, h => ⟨cells, rfl, h⟩
  | (i, v) :: rest, cells, hN, h => by
    unfold fillB at h
    unfold Instr.fill
    rw [← hp i]
    split at h
    · exact h.elim
    · rename_i off size hpl
      rw [hpl]
      simp only []
      obtain ⟨e1, e2, h3⟩ : v.cells.size = size ∧ off + v.cells.size ≤ N ∧ fillB place N (setL cells.toList off v.cells.toList) K rest := by
        split at h
        · obtain ⟨e1, h2⟩ := yadc h
          obtain ⟨e2, h3⟩ := yaae h2
          have e2 := Nat.le_of_ble_eq_true e2
          rw [Array.length_toList] at e1
          refine ⟨e1, by omega, ?_⟩
          rw [yapj _ _ _ (by simp; omega)]
          exact h3
        · have h2 := yadc h
          obtain ⟨hc, h3⟩ := yaae h2
          simp only [Bool.and_eq_true] at hc
          have e1 := Nat.eq_of_beq_eq_true hc.1
          have e2 := Nat.le_of_ble_eq_true hc.2
          simp only [Array.length_toList] at e1 e2
          exact ⟨e1, e2, h3⟩
      rw [if_neg (by simp; omega)]
      have e3 : (v.cells.zipIdx.foldl (fun cs (c, j) => cs.setIfInBounds (off + j) c) cells).toList = setL cells.toList off v.cells.toList := by
        have := yafh off v.cells.toList 0 cells
        rw [← Array.foldl_toList, Array.toList_zipIdx]
        exact this
      have e4 : (v.cells.zipIdx.foldl (fun cs (c, j) => cs.setIfInBounds (off + j) c) cells).size = N := by
        rw [← Array.length_toList, e3, yanp, Array.length_toList]; exact hN
      rw [← e3] at h3
      exact yajm hp rest _ e4 h3
theorem yauf {α β : Type} (g : α → Sem β) (g' : α → β) (h : Hp) : ∀ (l : List α) (K : List β → Prop), (∀ x ∈ l, ∀ K, K (g' x) → hq P (g x) h K) → K (l.map g') → hq P (l.mapM g) h K
  | [], K, _, hk => by simpa [yaah] using hk
  | x :: l, K, hg, hk => by
    simp only [List.mapM_cons, yaab]
    refine hg x (by simp) _ ?_
    refine yauf g g' h l _ (fun y hy => hg y (by simp [hy])) ?_
    simpa [yaah] using hk
theorem yaeu {t : TypeId} (h : yajk P t = true) : ∃ i zs, P.info? t = some i ∧ i.zero = some (.agg zs) ∧ yach (yadx P t) = zs.toList := by
  unfold yajk at h
  split at h
  · rename_i i hi
    split at h
    · rename_i zs hz; exact ⟨i, zs, hi, hz, by simp [yadx, hi, hz, yach]⟩
    · cases h
  · cases h
theorem yaqf {t : TypeId} {parts : Array (Nat × Value)} {h : Hp} {K : Value → Prop} (hk : yazc P t parts.toList K) : hq P (Instr.build t parts) h K := by
  unfold yazc at hk
  split at hk
  · rename_i fs hu
    obtain ⟨hc, hk⟩ := yaae hk
    simp only [Bool.and_eq_true] at hc
    obtain ⟨hc1, hc2⟩ := hc
    obtain ⟨i, zs, hi, hz, he⟩ := yaeu hc2
    rw [he] at hk
    simp only [Instr.build, zeroValue, yaab, yabf, hi, hz, yaah, yaaf, hu]
    rw [Array.mapM_eq_mapM_toList, map_eq_pure_bind, yaab]
    refine yauf _ (fun f => (f.offset, yaan P f.type)) h fs.toList _ (fun f hf K hK => ?_) ?_
    · have := List.all_eq_true.1 hc1 f hf
      obtain ⟨inf, hinf⟩ := Option.isSome_iff_exists.1 this
      simp only [yaab, yabp, hinf, yaah]
      simpa [yaan, hinf] using hK
    · rw [yaah]
      have hpl : ∀ i, (match nth fs.toList i with | some f => some (f.offset, yaan P f.type) | none => none) = (fs.toList.map (fun f => (f.offset, yaan P f.type))).toArray[i]? := fun i => by
        rw [yacg]; simp; cases fs[i]? <;> rfl
      obtain ⟨cs, hf, hk⟩ : ∃ cs, Instr.fill (fun i => (fs.toList.map (fun f => (f.offset, yaan P f.type))).toArray[i]?) zs parts.toList = some cs ∧ K (.agg cs.toList.toArray) := by
        split at hk
        · obtain ⟨hl, hk⟩ := yaae hk
          exact yajm hpl parts.toList zs (by rw [← Array.length_toList]; exact Nat.eq_of_beq_eq_true hl) hk
        · exact yafv hpl parts.toList zs hk
      simp only [Value.cells]
      rw [hf]
      simpa [yaah] using hk
  · rename_i n e hu
    obtain ⟨hc, hk⟩ := yaae hk
    simp only [Bool.and_eq_true] at hc
    obtain ⟨hc1, hc2⟩ := hc
    obtain ⟨i, zs, hi, hz, he⟩ := yaeu hc2
    obtain ⟨inf, hinf⟩ := Option.isSome_iff_exists.1 hc1
    rw [he] at hk
    simp only [Instr.build, zeroValue, yaab, yabf, hi, hz, yaah, yaaf, hu, yabp, hinf]
    obtain ⟨cs, hf, hk⟩ := yafv (place' := fun i => some (i * inf.size, inf.size)) (fun i => by simp [yaan, hinf]) parts.toList zs hk
    simp only [Value.cells]
    rw [hf]
    simpa [yaah] using hk
  · exact hk.elim
theorem yafo {v : Value} {k : Addr → Prop} (h : addrV v k) : ∃ a, v = .pointer (some a) ∧ k a := by
  unfold addrV at h
  split at h
  · obtain ⟨a, rfl, h⟩ := yale h; exact ⟨a, rfl, h⟩
  · exact h.elim
theorem yakx {o : Oper} {op : Op} (ho : o.op = op) {ρ : Operand → Value} {h : Hp} {K : Value → Prop} (hk : oq P op ρ h K) : hq P (execOp ρ o) h (valK K) := by
  unfold execOp
  rw [ho]
  unfold oq at hk
  split at hk
  · exact yakj _ h K hk
  · exact yakj _ h K hk
  · rename_i c a b
    simp only []
    unfold pickV at hk
    split at hk
    · rename_i t ht
      simp only [ht, asBool, yaab, yaah]
      refine ⟨_, rfl, ?_⟩
      split at hk
      · rename_i x y hx hy
        rw [hx, hy]
        cases t <;> exact hk
      · cases t <;> exact hk
    · exact hk.elim
  · rename_i x
    simp only []
    unfold nilV at hk
    split at hk
    · rename_i p hp
      obtain ⟨a, rfl, hk⟩ := yale hk
      rw [hp]
      exact yakj _ h K hk
    · rename_i f x c hp
      rw [hp]
      exact yakj _ h K hk
    · exact hk.elim
  · exact yaaq _ h K (yahb hk)
  · exact yaaq _ h K (yail hk)
  · exact yaaq _ h K (yaip hk)
  · obtain ⟨a, ha, hk⟩ := yafo hk
    refine yaaq _ h K ?_
    simp only [ha, Instr.loadAt, Instr.sureAddr, yaab, yaah]
    exact yaly hk
  · rename_i s x f
    split at hk
    · rename_i fd hfd
      obtain ⟨fs, hu, hf⟩ := yaio hfd
      obtain ⟨hz, hk⟩ := yaae hk
      have hz : Nat.beq (yaan P fd.type) 0 = false := by
        cases hb : Nat.beq (yaan P fd.type) 0 with
        | false => rfl
        | true => rw [hb] at hz; cases hz
      obtain ⟨a, ha, hk⟩ := yafo hk
      refine yaaq _ h K ?_
      have hne : yaan P fd.type ≠ 0 := by intro e; rw [e] at hz; cases hz
      have hinf : ∃ i, P.info? fd.type = some i := by
        cases hi : P.info? fd.type with
        | none => simp [yaan, hi] at hne
        | some i => exact ⟨i, rfl⟩
      obtain ⟨inf, hinf⟩ := hinf
      have hne2 : inf.size ≠ 0 := by simpa [yaan, hinf] using hne
      simp only [ha, Instr.fieldAt, Instr.sureAddr, yaab, yaah, yaaf, hu, hf, fieldPlace, yabp, hinf, if_neg hne2]
      exact hk
    · exact hk.elim
  · rename_i s x f
    split at hk
    · rename_i fd hfd
      obtain ⟨fs, hu, hf⟩ := yaio hfd
      split at hk
      · rename_i cs hcs
        refine yaaq _ h K ?_
        simp only [hcs, Instr.field, yaab, yaaf, hu, hf, asAgg, yaah]
        exact yals hk
      · exact hk.elim
    · exact hk.elim
  · exact yaaq _ h K (yadl hk)
  · exact yaaq _ h K (yaqi hk)
  · exact yaaq _ h K (yagc hk)
  · refine yaaq _ h K ?_
    obtain ⟨a, l, c, hs, hk⟩ := hk
    exact yacf _ _ _ _ (fun v hv => by rw [hv]; exact hk) hs
  · rename_i x i
    refine yaaq _ h K ?_
    split at hk
    · rename_i vs hvs
      rw [yacg] at hk
      simp only [Array.getElem?_toList] at hk
      simp only [hvs, Instr.extract]
      split at hk
      · rename_i v hv; rw [hv]; exact hk
      · exact hk.elim
    · exact hk.elim
  · rename_i fn first cap
    refine yaaq _ h K ?_
    simp only [Instr.makeFunc, yaah]
    have e : ∀ l : Array Operand, (l.toList.map ρ).toArray = l.map ρ := fun l => by apply Array.ext'; simp
    rw [e, e] at hk
    exact hk
  · rename_i t parts
    refine yaaq _ h K (yaqf ?_)
    simpa using hk
  · rename_i b args tys
    simp only [resolve, invoke, yaab, yaah]
    unfold yacd at hk
    split at hk
    · rename_i t _ x _ ht hx
      refine yaaq _ h K (yawj (t := t) (x := x) _ _ _ ?_ ?_ hk)
      · have := congrArg (fun l => l[0]?) ht; simpa using this
      · have := congrArg (fun l => l[0]?) hx; simpa using this
    · rename_i t _ x _ ht hx
      refine yaaq _ h K (yawd (t := t) (x := x) _ _ _ ?_ ?_ hk)
      · have := congrArg (fun l => l[0]?) ht; simpa using this
      · have := congrArg (fun l => l[0]?) hx; simpa using this
    · rename_i x y hxy
      refine yaaq _ h K ?_
      have : (args.map ρ).toList = [x, y] := by rw [← hxy]; simp
      unfold max2V at hk
      split at hk
      · simp only [Builtin.max_, this, List.foldlM_cons, List.foldlM_nil, Builtin.max2, yaab, yaah]; exact hk
      · exact hk.elim
    · rename_i x y hxy
      refine yaaq _ h K ?_
      have : (args.map ρ).toList = [x, y] := by rw [← hxy]; simp
      unfold min2V at hk
      split at hk
      · simp only [Builtin.min_, this, List.foldlM_cons, List.foldlM_nil, Builtin.min2, yaab, yaah]; exact hk
      · exact hk.elim
    · rename_i x y z hxy
      refine yaaq _ h K ?_
      have : (args.map ρ).toList = [x, y, z] := by rw [← hxy]; simp
      unfold max2V at hk
      split at hk
      · cases z with
        | int kz z =>
          simp only [Builtin.max_, this, List.foldlM_cons, List.foldlM_nil, Builtin.max2, yaab, yaah]; exact hk
        | _ => exact hk.elim
      · exact hk.elim
    · rename_i x y z hxy
      refine yaaq _ h K ?_
      have : (args.map ρ).toList = [x, y, z] := by rw [← hxy]; simp
      unfold min2V at hk
      split at hk
      · cases z with
        | int kz z =>
          simp only [Builtin.min_, this, List.foldlM_cons, List.foldlM_nil, Builtin.min2, yaab, yaah]; exact hk
        | _ => exact hk.elim
      · exact hk.elim
    · exact hk.elim
  · exact hk.elim
end
open Go
def New (h : Hp) (o : Obj) (k : Nat → Hp → Prop) : Prop := k h.size (h.push o)
def Wr (h : Hp) (a : Addr) (v : Value) (k : Hp → Prop) : Prop := yajx h a ∧ k (setH h a v)
abbrev storesV (a : Addr) (k : Hp → Prop) : List Value → Nat → Hp → Prop
  | [], _, h => k h
  | v :: vs, i, h => chk (scalar v) (Wr h (a.add i) v fun h => storesV a k vs (i + 1) h)
def StL (h : Hp) (a : Addr) (cs : List Value) (k : Hp → Prop) : Prop := storesV a k cs 0 h
abbrev yavb (P : Program) (t : TypeId) (a : Addr) (v : Value) (h : Hp) (k : Hp → Prop) : Prop :=
  match yacx P t with
  | some true => (match v with | .agg cs => (match Nat.ble 33 (yaan P t) with | true => cs.toList.length = yaan P t ∧ StL h a cs.toList k | false => chk (Nat.beq cs.toList.length (yaan P t)) (storesV a k cs.toList 0 h)) | _ => False)
  | some false => chk (Nat.beq (yaan P t) 1) (chk (scalar v) (Wr h a v k))
  | none => False
abbrev boxV (e : TypeId) (v : Value) (h : Hp) (K : Value → Hp → Prop) : Prop :=
  yaft v fun cs => New h (.cells cs.toArray e) fun b h => K (.pointer (some ⟨b, 0, none⟩)) h
abbrev zeroV (P : Program) (t : TypeId) (k : Value → Prop) : Prop := match P.info? t with | some i => (match i.zero with | some z => k z | none => False) | none => False
def repL (n : Nat) (zs : List Value) : List Value := (List.range n).map fun i => (nth zs (i % zs.length)).getD default
abbrev yagi (P : Program) (t : TypeId) (len : Nat) (parts : List (Nat × Value)) (h : Hp) (K : Value → Hp → Prop) : Prop :=
  match elemT P t with
  | some (e, sz) => chk (Nat.ble (len * sz) 16777216) (zeroV P e fun z => yaft z fun zs =>
      fillV (fun i => some (i * sz, sz)) (repL (len * sz) zs) (fun cs => New h (.cells cs.toArray e) fun b h => K (.slice (some ⟨b, 0, none⟩) len len) h) parts)
  | none => False
abbrev yacs (P : Program) (t : TypeId) : Nat := match P.info? t with | some i => i.bytes | none => 0
abbrev yafb (P : Program) (t : TypeId) (l c : Value) (h : Hp) (K : Value → Hp → Prop) : Prop :=
  match elemT P t, l, c with
  | some (e, sz), .int _ l, .int _ c => (0 ≤ l ∧ l ≤ c ∧ c ≤ 281474976710656 ∧ c * yacs P e ≤ 281474976710656) ∧
      zeroV P e fun z => yaft z fun zs => New h (.cells (repL (c.toNat * sz) zs).toArray e) fun b h => K (.slice (some ⟨b, 0, none⟩) l.toNat c.toNat) h
  | _, _, _ => False
def yagj (p : Option Addr) (off : Nat) (k : Hp → Prop) (vs : List Value) (h : Hp) : Prop :=
  match p with
  | none => k h
  | some a => storesV (a.add off) k vs 0 h
def yadk (P : Program) (t : TypeId) : Bool := match P.underlying t with | some (.int _) => false | some _ => true | none => false
def yaba (P : Program) (t t2 : TypeId) (s x : Value) (h : Hp) (K : Value → Hp → Prop) : Prop :=
  match elemT P t, yadk P t2, s, x with
  | some (e, sz), true, .slice p n c, .slice q m _ => ∃ xs : List Value, xs.length = m * sz ∧ readsL h q xs ∧
      (n + m ≤ c → yagj p (n * sz) (fun h => K (.slice p (n + m) c) h) xs h) ∧
      (c < n + m → (Builtin.nextslicecap (n + m) c * yacs P e ≤ 281474976710656 ∧ n + m ≤ 9223372036854775807) ∧ ∃ os : List Value, os.length = n * sz ∧ readsL h p os ∧ zeroV P e fun z =>
        ∀ c' : Nat, n + m ≤ c' → c' ≤ 9223372036854775807 → New h (.cells (os ++ xs ++ repL ((c' - (n + m)) * z.cells.size) z.cells.toList).toArray e) fun b h => K (.slice (some ⟨b, 0, none⟩) (n + m) c') h)
  | some (e, sz), false, .slice p n c, .int .i64 l => (0 ≤ l ∧ l ≤ 9223372036854775807 ∧ l * yacs P e ≤ 281474976710656 ∧ sz ≠ 0 ∧ (yabu P t2).isSome = true) ∧ zeroV P e fun z =>
      (n + l.toNat ≤ c → yagj p (n * sz) (fun h => K (.slice p (n + l.toNat) c) h) (repL (l.toNat * z.cells.size) z.cells.toList) h) ∧
      (c < n + l.toNat → (Builtin.nextslicecap (n + l.toNat) c * yacs P e ≤ 281474976710656 ∧ n + l.toNat ≤ 9223372036854775807) ∧ ∃ os : List Value, os.length = n * sz ∧ readsL h p os ∧
        ∀ c' : Nat, n + l.toNat ≤ c' → New h (.cells (os ++ repL (l.toNat * z.cells.size) z.cells.toList ++ repL ((c' - (n + l.toNat)) * z.cells.size) z.cells.toList).toArray e) fun b h => K (.slice (some ⟨b, 0, none⟩) (n + l.toNat) c') h)
  | _, _, _, _ => False
def copyV (P : Program) (t : TypeId) (d s : Value) (h : Hp) (K : Value → Hp → Prop) : Prop :=
  match elemT P t, d, s with
  | some (_, sz), .slice p n _, .slice q m _ => ∃ xs : List Value, xs.length = (min m n) * sz ∧ readsL h q xs ∧
      yagj p 0 (fun h => K (.int .i64 (min m n : Nat)) h) xs h
  | _, _, _ => False
abbrev funV (v : Value) (k : Nat → List Value → List Value → Prop) : Prop :=
  match v with
  | .func (.func g) first cap => k g first.toList cap.toList
  | _ => False
def IsExt (P : Program) (g : Nat) (e : Array Value → Sem Value) : Prop := ∃ fn, P.funcs[g]? = some fn ∧ (fn.name == "runtime.NumGoroutine") = false ∧ fn.body.isNone = true ∧ (Extern.findNext fn).isNone = true ∧ Extern.find fn = some e
def yahx (P : Program) (g : Nat) (args : Array Value) (h : Hp) (K : Value → Prop) : Prop := ∃ e, IsExt P g e ∧ hq P (e args) h K
abbrev callX (P : Program) (F : Nat → Bool) (g : Nat) (args : Array Value) (h : Hp) (K : Value → Hp → Prop) : Prop :=
  match F g with
  | true => yaak P g args h K
  | false => yahx P g args h fun v => K v h
abbrev callV (P : Program) (F : Nat → Bool) (ty : TypeId) (f : Value) (args : List Value) (h : Hp) (K : Value → Hp → Prop) : Prop :=
  funV f fun g first cap => callX P F g (first ++ (args ++ cap)).toArray h fun v h' => ExT P ty fun v' => v = v' ∧ K v' h'
def strK (k : ByteArray → Hp → Prop) : Value → Hp → Prop := fun v h => match v with | .string s => k s h | _ => False
def slK (k : Option Addr → Nat → Nat → Hp → Prop) : Value → Hp → Prop := fun v h => match v with | .slice a l c => k a l c h | _ => False
abbrev ybdw (P : Program) (s d : TypeId) (v : Value) (h : Hp) (K : Value → Hp → Prop) : Prop :=
  match yabu P s, yaap P s, yaap P d with
  | some _, _, _ => convV P s d v fun v => K v h
  | none, true, true => convV P s d v fun v => K v h
  | _, _, true => hw P (convert s d v) h (strK fun s h => K (.string s) h)
  | _, _, false => hw P (convert s d v) h (slK fun a l c h => K (.slice a l c) h)
def yayw (P : Program) (t : TypeId) (s : Value) (h : Hp) (k : Hp → Prop) : Prop :=
  match elemT P t, s with
  | some (e, _), .slice p n _ => zeroV P e fun z => yagj p 0 k (repL (n * z.cells.size) z.cells.toList) h
  | _, _ => False
def ybaa (P : Program) (t : TypeId) : Bool := match P.underlying t with | some (.map _ _) => true | _ => false
def yatx (x : Value) (h : Hp) (k : Int → Prop) : Prop :=
  match x with
  | .map none => k 0
  | .map (some r) => ∃ es clock, objH h r = some (.map es clock) ∧ k ((es.size : Nat) : Int)
  | _ => False
def lookV (P : Program) (t : TypeId) (m i : Value) (ok : Bool) (h : Hp) (K : Value → Prop) : Prop := hq P (Instr.lookup t m i ok) h K
def ybcn (P : Program) (t : TypeId) (m i v : Value) (h : Hp) (K : Hp → Prop) : Prop := hw P (Instr.mapUpdate t m i v) h fun _ h => K h
def yaxw (P : Program) (t : TypeId) (m i : Value) (h : Hp) (K : Hp → Prop) : Prop := hw P (Builtin.delete_ #[t] t #[m, i]) h fun v h => v = .tuple #[] ∧ K h
def ybfz (P : Program) (t : TypeId) (x : Value) (h : Hp) (K : Nat → Hp → Prop) : Prop := hw P (Instr.range t x) h fun v h => ∃ r, v = .pointer (some ⟨r, 0, none⟩) ∧ K r h
def nextV (P : Program) (it : Value) (s : Bool) (h : Hp) (K0 : Hp → Prop) (K1 : Value → Value → Hp → Prop) : Prop :=
  hw P (Instr.next it s 0) h fun v h => (v = .tuple #[.bool false] ∧ K0 h) ∨ ∃ x y, v = .tuple #[.bool true, x, y] ∧ K1 x y h
def ybia (P : Program) (it : Value) (h : Hp) (K : Value → Prop) : Prop := hq P (Instr.entry it) h K
abbrev extT : List Oper → Nat → Nat → Nat
  | [], _, _ => 65535
  | o :: r, d, i => match o.op with
    | .extract (.tmp e) j => (match Nat.beq e d, Nat.beq j i with | true, true => o.type | _, _ => extT r d i)
    | _ => extT r d i
abbrev tyOf (all : List Oper) (o : Oper) : TypeId :=
  match o.op with
  | .entry _ => (match o.dst with | some d => extT all d 0 * 65536 + extT all d 1 | none => o.type)
  | _ => o.type
abbrev yatm (P : Program) (b : Builtin) (tys : List TypeId) (args : List Value) (h : Hp) (K : Value → Hp → Prop) : Prop :=
  match b, tys, args with
  | .append, t :: t2 :: _, s :: x :: _ => yaba P t t2 s x h (slK fun a l c h => K (.slice a l c) h)
  | .copy, t :: _, d :: s :: _ => copyV P t d s h fun v h => ∃ n : Int, v = .int .i64 n ∧ K (.int .i64 n) h
  | .clear, t :: _, s :: _ => yayw P t s h fun h => K (.tuple #[]) h
  | .delete, t :: _, m :: i :: _ => yaxw P t m i h fun h => K (.tuple #[]) h
  | .len, t :: ts, x :: xs => match ybaa P t with | true => yatx x h fun n => K (.int .i64 n) h | false => lenV P t x fun v => K v h
  | b, tys, args => yacd P b tys args fun v => K v h
def nextK (P : Program) (K : Value → Hp → Prop) : Next → Hp → Prop
  | .value v, h => K v h
  | .skip, h => K undef h
  | .enter f args, h => yaak P f args h K
  | _, _ => False
def invC (P : Program) (recv : Value) (name : String) (args : List Value) (h : Hp) (K : Value → Hp → Prop) : Prop := hw P (callMethod recv name args.toArray) h (nextK P K)
abbrev ot (P : Program) (F : Nat → Bool) (op : Op) (ty : TypeId) (ρ : Operand → Value) (h : Hp) (K : Value → Hp → Prop) : Prop :=
  match op with
  | .store t a x => addrV (ρ a) fun a => yavb P t a (ρ x) h (K undef)
  | .box e x => boxV e (ρ x) h K
  | .alloc e => zeroV P e fun z => boxV e z h K
  | .buildSlice t n parts => yagi P t n (parts.toList.map fun p => (p.1, ρ p.2)) h K
  | .makeSlice t l c => yafb P t (ρ l) (ρ c) h K
  | .convert s d x => ybdw P s d (ρ x) h K
  | .makeInterface t x => hw P (Instr.makeInterface t (ρ x)) h K
  | .typeAssert x xt t c => hq P (Instr.typeAssert (ρ x) xt t c) h fun v => ExT P ty fun v' => v = v' ∧ K v' h
  | .makeMap t r => match r with | none => New h (.map #[] 0) fun b h => K (.map (some b)) h | some _ => False
  | .lookup t m i ok => lookV P t (ρ m) (ρ i) ok h fun v => ExT P ty fun v' => v = v' ∧ K v' h
  | .mapUpdate t m i v => ybcn P t (ρ m) (ρ i) (ρ v) h fun h => K undef h
  | .range t x => ybfz P t (ρ x) h fun r h => K (.pointer (some ⟨r, 0, none⟩)) h
  | .next it s => nextV P (ρ it) s h (fun h => K (.tuple #[.bool false]) h) fun x y h => K (.tuple #[.bool true, x, y]) h
  | .entry it => ybia P (ρ it) h fun v => Ex2 (.tuple #[yadx P (ty / 65536), yadx P (ty % 65536)]) fun v' => v = v' ∧ K v' h
  | .call { callee := .value f, args, .. } => callV P F ty (ρ f) (args.toList.map ρ) h K
  | .call { callee := .invoke r name, args, .. } => invC P (ρ r) name (args.toList.map ρ) h fun v h' => ExT P ty fun v' => v = v' ∧ K v' h'
  | .call { callee := .builtin b, args, argTypes } => yatm P b argTypes.toList (args.toList.map ρ) h K
  | op => oq P op ρ h fun v => K v h
def yaau (P : Program) (g : Nat) : Prop := ∃ fn, P.funcs[g]? = some fn ∧ (fn.name == "runtime.NumGoroutine") = false ∧ fn.body.isNone = false
section
variable {P : Program}
theorem yabj (s : Sem Value) (h : Hp) (K : Value → Hp → Prop) (hs : hw P s h K) : hw P (do pure (.value (← s)) : Sem Next) h (nextK P K) := by
  rw [yaac]
  exact yabq s h _ _ (fun a h ha => ha) hs
theorem yabh (a : Addr) : ∀ (vs : List Value) (i : Nat) (h : Hp) (k : Hp → Prop), storesV a k vs i h → hw P (storeCells a vs i) h (fun _ h => k h)
  | [], i, h, k, hk => hk
  | v :: vs, i, h, k, hk => by
    obtain ⟨hs, hw', hk⟩ := yaae hk
    unfold storeCells
    rw [yaac]
    exact ⟨hs, hw', yabh a vs (i + 1) _ k hk⟩
theorem yacj (t : TypeId) (h : Hp) (K : Nat → Hp → Prop) : hw P (sizeOf t) h K = (match P.info? t with | some i => K i.size h | none => False) := by
  unfold sizeOf
  rw [yaac, yaay]
  cases P.info? t <;> rfl
theorem yajb {t : TypeId} {a : Addr} {v : Value} {h : Hp} {k : Hp → Prop} (hk : yavb P t a v h k) : hw P (storeVar t a v) h (fun _ h => k h) := by
  unfold yavb at hk
  split at hk
  · rename_i ha
    obtain ⟨i, hi⟩ := yada ha
    split at hk
    · rename_i cs
      obtain ⟨hsz, hk⟩ : cs.toList.length = yaan P t ∧ storesV a k cs.toList 0 h := by
        split at hk
        · exact hk
        · obtain ⟨hsz, hk⟩ := yaae hk
          exact ⟨Nat.eq_of_beq_eq_true hsz, hk⟩
      simp only [yaan, hi] at hsz
      unfold storeVar
      have hn : ¬ ((Value.agg cs).cells.size ≠ i.size) := by simpa [Value.cells] using hsz
      simp only [yaac, yacj, hi, if_neg hn]
      exact yabh a _ 0 h k hk
    · exact hk.elim
  · rename_i ha
    obtain ⟨i, hi⟩ := yada ha
    obtain ⟨hsz, hk⟩ := yaae hk
    obtain ⟨hsc, hk⟩ := yaae hk
    have hsz := Nat.eq_of_beq_eq_true hsz
    simp only [yaan, hi] at hsz
    have hc : v.cells = #[v] := by cases v <;> first | rfl | cases hsc
    unfold storeVar
    simp only [yaac, yacj, hi, hc]
    rw [if_neg (by simpa using hsz.symm)]
    refine yabh a [v] 0 h k ?_
    simp only [storesV, hsc, chk]
    exact hk
  · exact hk.elim
theorem yael {e : TypeId} {v : Value} {h : Hp} {K : Value → Hp → Prop} (hk : boxV e v h K) : hw P (do pure (.pointer (some (← newVar e v))) : Sem Value) h K := by
  have := yadc hk
  rw [yaac]
  unfold newVar newRow newObj
  rw [yaac]
  have e1 : v.cells.toList.toArray = v.cells := by simp
  rw [e1] at this
  exact this
theorem yadd {t : TypeId} {k : Value → Prop} (h : zeroV P t k) : ∃ i z, P.info? t = some i ∧ i.zero = some z ∧ k z := by
  unfold zeroV at h
  split at h
  · rename_i i hi
    split at h
    · rename_i z hz; exact ⟨i, z, hi, hz, h⟩
    · exact h.elim
  · exact h.elim
theorem yaaw {t : TypeId} {i : TypeInfo} {z : Value} (hi : P.info? t = some i) (hz : i.zero = some z) (h : Hp) (K : Value → Hp → Prop) : hw P (zeroValue t) h K = K z h := by
  simp only [zeroValue, yaac, yaay, hi, hz, yaam]
theorem yalf (n : Nat) (zs : Array Value) : (Array.range n).map (zs[· % zs.size]!) = (repL n zs.toList).toArray := by
  apply Array.ext'
  simp only [Array.toList_map, Array.toList_range, repL, Array.length_toList]
  refine List.map_congr_left fun i _ => ?_
  rw [yacg, Array.getElem?_toList]
  rw [getElem!_def]
  cases zs[i % zs.size]? <;> rfl
theorem yahu {t : TypeId} {len : Nat} {parts : Array (Nat × Value)} {h : Hp} {K : Value → Hp → Prop} (hk : yagi P t len parts.toList h K) : hw P (Instr.buildSlice t len parts) h K := by
  unfold yagi at hk
  split at hk
  · rename_i e sz he
    obtain ⟨hu, inf, hinf, rfl⟩ := yabk he
    obtain ⟨hle, hk⟩ := yaae hk
    have hle := Nat.le_of_ble_eq_true hle
    obtain ⟨i, z, hi, hz, hk⟩ := yadd hk
    replace hk := yadc hk
    have hr : repL (len * inf.size) z.cells.toList = ((Array.range (len * inf.size)).map (z.cells[· % z.cells.size]!)).toList := by rw [yalf]
    rw [hr] at hk
    obtain ⟨cs, hf, hk⟩ := yafv (place' := fun i => some (i * inf.size, inf.size)) (fun _ => rfl) _ _ hk
    simp only [Instr.buildSlice, yaac, yaao, hu, yacj, hinf]
    rw [if_neg (by omega)]
    by_cases h0 : len * inf.size = 0
    · have e0 : ∀ zs : Array Value, (Array.range (len * inf.size)).map (zs[· % zs.size]!) = #[] := by rw [h0]; simp
      simp only [if_pos h0, yaam, yaac]
      rw [e0] at hf ⊢
      rw [hf]
      simp only [yaac, newRow, newObj, yaam]
      have e1 : cs.toList.toArray = cs := by simp
      rw [e1] at hk
      exact hk
    · simp only [if_neg h0, yaac, yaaw hi hz, yaam]
      rw [hf]
      simp only [yaac, newRow, newObj, yaam]
      have e1 : cs.toList.toArray = cs := by simp
      rw [e1] at hk
      exact hk
  · exact hk.elim
theorem yafj (n : Nat) (h : Hp) (K : Unit → Hp → Prop) : hw P (askRoom n) h K = K () h := by
  unfold askRoom; split <;> rfl
theorem yabn (n : Int) (h : InR n) : IntKind.i64.wrap n = n := by
  obtain ⟨h1, h2⟩ := h
  rw [IntKind.wrap_i64]; omega
theorem yaer {t : TypeId} {l c : Value} {h : Hp} {K : Value → Hp → Prop} (hk : yafb P t l c h K) : hw P (Instr.makeSlice t l c) h K := by
  unfold yafb at hk
  split at hk
  · rename_i e sz kl l kc c he
    obtain ⟨hu, inf, hinf, rfl⟩ := yabk he
    obtain ⟨⟨h0, h1, h2, h3⟩, hk⟩ := hk
    obtain ⟨i, z, hi, hz, hk⟩ := yadd hk
    obtain rfl : inf = i := by rw [hinf] at hi; exact Option.some.inj hi
    replace hk := yadc hk
    simp only [yacs, hinf] at h3
    have wl : IntKind.i64.wrap l = l := yabn l ⟨by omega, by omega⟩
    have wc : IntKind.i64.wrap c = c := yabn c ⟨by omega, by omega⟩
    simp only [Instr.makeSlice, asInt, asIntOf, yaac, yaao, hu, yaam, yaay, hinf, wl, wc]
    have hnl : (decide (c < 0) || decide ((inf.bytes : Int) * c > 2 ^ 48)) = false := by
      have : (inf.bytes : Int) * c = c * inf.bytes := Int.mul_comm _ _
      simp; omega
    rw [if_neg (by rw [hnl]; simp; omega)]
    simp only [yaac, yafj, yacj, hinf]
    by_cases hn : c.toNat * inf.size = 0
    · simp only [if_pos hn, yaam, yaac, newRow, newObj]
      have e1 : repL (c.toNat * inf.size) z.cells.toList = [] := by rw [hn]; rfl
      have e0 : ∀ zs : Array Value, (Array.range (c.toNat * inf.size)).map (zs[· % zs.size]!) = #[] := by rw [hn]; simp
      rw [e1] at hk
      rw [e0]
      exact hk
    · simp only [if_neg hn, yaac, yaaw hi hz, yaam, newRow, newObj]
      rw [yalf]
      exact hk
  · exact hk.elim
theorem yahn {h : Hp} {a : Addr} {vs : List Value} (hr : readsL h (some a) vs) : ∀ (n i : Nat) (acc : Array Value) (K : Array Value → Hp → Prop), i + n = vs.length →
    K (acc ++ (vs.drop i).toArray) h → hw P (loadCellsFrom a i n acc) h K
  | 0, i, acc, K, hn, hk => by
    have : vs.drop i = [] := List.drop_eq_nil_of_le (by omega)
    rw [this] at hk
    have e : acc ++ ([] : List Value).toArray = acc := by simp
    rw [e] at hk
    exact hk
  | n + 1, i, acc, K, hn, hk => by
    have hi : i < vs.length := by omega
    have h1 := hr i hi
    rw [List.getElem?_eq_getElem hi] at h1
    simp only [loadCellsFrom]
    rw [yaac]
    refine ⟨vs[i], h1, ?_⟩
    refine yahn hr n (i + 1) _ K (by omega) ?_
    have e : acc.push vs[i] ++ (vs.drop (i + 1)).toArray = acc ++ (vs.drop i).toArray := by
      apply Array.ext'; rw [List.drop_eq_getElem_cons hi]; simp
    rwa [e]
theorem yacm {h : Hp} {p : Option Addr} {vs : List Value} (hr : readsL h p vs) (sz n l c : Nat) (K : Array Value → Hp → Prop) (hn : vs.length = n * sz) (hk : K vs.toArray h) :
    hw P (Builtin.firstCells sz n (.slice p l c)) h K := by
  cases p with
  | none =>
    have : vs = [] := hr
    subst this
    simpa [Builtin.firstCells, yaam] using hk
  | some a =>
    simp only [Builtin.firstCells, loadCells]
    refine yahn hr (n * sz) 0 #[] K (by omega) ?_
    simpa using hk
theorem yade (zs : Array Value) (n : Nat) : Builtin.zeroCells zs n = (repL (n * zs.size) zs.toList).toArray := yalf _ _
theorem yahh {t t2 ty : TypeId} {s x : Value} {h : Hp} {K : Value → Hp → Prop} (tys : Array TypeId) (args : Array Value) (h0 : tys[0]? = some t) (h1 : tys[1]? = some t2) (g0 : args[0]? = some s) (g1 : args[1]? = some x)
    (hk : yaba P t t2 s x h K) : hw P (Builtin.append_ tys ty args) h K := by
  unfold yaba at hk
  split at hk
  · rename_i e sz p n c q m mc he hi2
    obtain ⟨hu, inf, hinf, rfl⟩ := yabk he
    obtain ⟨xs, hxl, hxr, hin, hout⟩ := hk
    have hsome : (P.underlying t2).isSome = true := by unfold yadk at hi2; cases hd : P.underlying t2 <;> simp_all
    obtain ⟨d2, hd2⟩ := Option.isSome_iff_exists.1 hsome
    cases d2 with
    | int k => unfold yadk at hi2; rw [hd2] at hi2; cases hi2
    | _ =>
      simp only [Builtin.append_, h0, g0, g1, h1, yaac, yaao, hu, yacj, hinf, hd2, yaam, Bool.false_eq_true, if_false, Bool.not_false, if_true, Builtin.lenOf]
      by_cases hle : n + m ≤ c
      · rw [if_pos hle, yaac]
        refine yacm hxr _ m m mc _ hxl ?_
        have hs := hin hle
        cases p with
        | none => exact hs
        | some a =>
          simp only [yaac, yaam]
          exact yabh _ xs 0 h _ hs
      · rw [if_neg hle]
        obtain ⟨⟨hb, hmx⟩, os, hol, hor, hz0⟩ := hout (by omega)
        obtain ⟨i, z, hi, hzz, hk⟩ := yadd hz0
        obtain rfl : inf = i := by rw [hinf] at hi; exact Option.some.inj hi
        simp only [yacs, hinf] at hb
        have h3 : IntKind.i64.max = 9223372036854775807 := by decide
        simp only [yaac, yaay, hinf]
        rw [if_neg (by rw [h3]; omega)]
        simp only [yaac, yaay, hinf]
        rw [if_neg (by omega)]
        simp only [yaac, choose, hw]
        intro tp
        simp only [Question.forced, Question.cut, Bool.false_eq_true, if_false, yaay, hinf, yafj]
        refine yacm hor _ n n c _ hol ?_
        refine yacm hxr _ m m mc _ hxl ?_
        simp only [yaaw hi hzz, newRow, newObj, yaac, yaam, yade]
        have := hk (n + m + tp % (2 ^ 63 - (n + m))) (by omega) (by have := Nat.mod_lt tp (show 2 ^ 63 - (n + m) > 0 by omega); omega)
        have e1 : os.toArray ++ xs.toArray ++ (repL ((n + m + tp % (2 ^ 63 - (n + m)) - (n + m)) * z.cells.size) z.cells.toList).toArray = (os ++ xs ++ repL ((n + m + tp % (2 ^ 63 - (n + m)) - (n + m)) * z.cells.size) z.cells.toList).toArray := by
          apply Array.ext'; simp
        rw [e1]
        exact this
  · rename_i e sz p n c l he hi2
    obtain ⟨hu, inf, hinf, rfl⟩ := yabk he
    obtain ⟨⟨h0l, hml, hbl, hsz, hik⟩, hz0⟩ := hk
    obtain ⟨i, z, hi, hzz, hin, hout⟩ := yadd hz0
    obtain rfl : inf = i := by rw [hinf] at hi; exact Option.some.inj hi
    obtain ⟨k, hd2⟩ : ∃ k, P.underlying t2 = some (.int k) := by
      obtain ⟨k, hk⟩ := Option.isSome_iff_exists.1 hik
      exact ⟨k, yaeg hk⟩
    have hw1 : IntKind.i64.wrap l = l := yabn l ⟨by omega, hml⟩
    simp only [yacs, hinf] at hbl
    have h48 : ((2 : Int) ^ 48) = 281474976710656 := by decide
    simp only [Builtin.append_, h0, g0, g1, h1, yaac, yaao, hu, yacj, hinf, hd2, yaam, if_true, asInt, asIntOf, hw1]
    rw [if_neg (by omega)]
    simp only [yaac, yaay, hinf]
    rw [if_neg (by rw [h48]; omega)]
    rw [yaac, yaam]
    have app : ∀ {Q : Array Value → Hp → Prop} {h : Hp}, Q (repL (l.toNat * z.cells.size) z.cells.toList).toArray h →
        hw P (if l.toNat * inf.size = 0 then pure #[] else do pure (Builtin.zeroCells (← zeroValue e).cells l.toNat)) h Q := by
      intro Q h hq
      split
      · rename_i h3
        have h4 : l.toNat = 0 := by
          rcases Nat.mul_eq_zero.1 h3 with h3 | h3
          · exact h3
          · exact absurd h3 hsz
        rw [h4] at hq
        have e5 : (repL (0 * z.cells.size) z.cells.toList).toArray = #[] := by simp [repL]
        rw [e5] at hq
        exact hq
      · rw [yaac, yaaw hi hzz, yaam, yade]
        exact hq
    by_cases hle : n + l.toNat ≤ c
    · rw [if_pos hle, yaac]
      simp only [Bool.not_true, Bool.false_eq_true, if_false]
      refine app ?_
      have hs := hin hle
      cases p with
      | none => exact hs
      | some a =>
        simp only [yaac, yaam]
        exact yabh _ _ 0 h _ hs
    · rw [if_neg hle]
      obtain ⟨⟨hb, hmx⟩, os, hol, hor, hk⟩ := hout (by omega)
      simp only [yacs, hinf] at hb
      have h3 : IntKind.i64.max = 9223372036854775807 := by decide
      simp only [yaac, yaay, hinf]
      rw [if_neg (by rw [h3]; omega)]
      simp only [yaac, yaay, hinf]
      rw [if_neg (by omega)]
      simp only [yaac, choose, hw]
      intro tp
      simp only [Question.forced, Question.cut, Bool.false_eq_true, if_false, yaay, hinf, yafj]
      refine yacm hor _ n n c _ hol ?_
      simp only [Bool.not_true, Bool.false_eq_true, if_false]
      refine app ?_
      simp only [yaaw hi hzz, newRow, newObj, yaac, yaam, yade]
      have := hk (n + l.toNat + tp % (2 ^ 63 - (n + l.toNat))) (by omega)
      have e1 : os.toArray ++ (repL (l.toNat * z.cells.size) z.cells.toList).toArray ++ (repL ((n + l.toNat + tp % (2 ^ 63 - (n + l.toNat)) - (n + l.toNat)) * z.cells.size) z.cells.toList).toArray = (os ++ repL (l.toNat * z.cells.size) z.cells.toList ++ repL ((n + l.toNat + tp % (2 ^ 63 - (n + l.toNat)) - (n + l.toNat)) * z.cells.size) z.cells.toList).toArray := by
        apply Array.ext'; simp
      rw [e1]
      exact this
  · exact hk.elim
theorem yaqp {t ty : TypeId} {d s : Value} {h : Hp} {K : Value → Hp → Prop} (tys : Array TypeId) (args : Array Value) (h0 : tys[0]? = some t) (g0 : args[0]? = some d) (g1 : args[1]? = some s)
    (hk : copyV P t d s h K) : hw P (Builtin.copy_ tys ty args) h K := by
  unfold copyV at hk
  split at hk
  · rename_i e sz p n c q m mc he
    obtain ⟨hu, inf, hinf, rfl⟩ := yabk he
    obtain ⟨xs, hxl, hxr, hk⟩ := hk
    simp only [Builtin.copy_, h0, g0, g1, yaac, yaao, hu, yacj, hinf, yaam, Builtin.lenOf]
    refine yacm hxr _ (min m n) m mc _ hxl ?_
    cases p with
    | none => exact hk
    | some a =>
      simp only [yaac, yaam]
      exact yabh _ xs 0 h _ hk
  · exact hk.elim
theorem yapy {t ty : TypeId} {s : Value} {h : Hp} {k : Hp → Prop} (tys : Array TypeId) (args : Array Value) (h0 : tys[0]? = some t) (g0 : args[0]? = some s)
    (hk : yayw P t s h k) : hw P (Builtin.clear_ tys ty args) h (fun v h => v = .tuple #[] ∧ k h) := by
  unfold yayw at hk
  split at hk
  · rename_i e sz p n c he
    obtain ⟨hu, inf, hinf, rfl⟩ := yabk he
    obtain ⟨i, z, hi, hz, hk⟩ := yadd hk
    simp only [Builtin.clear_, h0, g0, yaac, yaao, hu]
    cases p with
    | none => exact ⟨rfl, hk⟩
    | some a =>
      cases n with
      | zero =>
        simp only [Nat.zero_mul, yagj, repL, List.range_zero, List.map_nil, storesV] at hk
        exact ⟨rfl, hk⟩
      | succ n =>
        simp only [yaac, yaaw hi hz, yade, yaam]
        refine yabq _ _ _ _ (fun _ h hv => ?_) (yabh a _ 0 h _ hk)
        exact ⟨trivial, hv⟩
  · exact hk.elim
theorem yapi {v : Value} {k : Nat → List Value → List Value → Prop} (h : funV v k) : ∃ g first cap, v = .func (.func g) first cap ∧ k g first.toList cap.toList := by
  unfold funV at h
  split at h
  · exact ⟨_, _, _, rfl, h⟩
  · exact h.elim
theorem yadp {g : Nat} (hg : yaau P g) (args : Array Value) (h : Hp) (K : Next → Hp → Prop) (hk : K (.enter g args) h) : hw P (callFunc g args) h K := by
  obtain ⟨fn, hf, hn, hb⟩ := hg
  simp only [callFunc, program, yaac, hw, hf]
  rw [if_neg (by rw [hn]; simp), if_neg (by rw [hb]; simp)]
  exact hk
theorem yalb {g : Nat} {args : Array Value} {h : Hp} {K : Next → Hp → Prop} {Q : Value → Prop} (hc : yahx P g args h Q) (hk : ∀ v, Q v → K (.value v) h) : hw P (callFunc g args) h K := by
  obtain ⟨e, ⟨fn, hf, hn, hb, hx, he⟩, hc⟩ := hc
  have hx' : Extern.findNext fn = none := by simpa using hx
  simp only [callFunc, program, yaac, hw, hf]
  rw [if_neg (by rw [hn]; simp), if_pos hb]
  simp only [mark, yaac, hw, hx', he]
  exact yacc _ _ _ (yacf _ _ _ _ (fun v hv => hk v hv) hc)
theorem hw_oq {o : Oper} {ρ : Operand → Value} {h : Hp} {K : Value → Hp → Prop} {op : Op} (ho : o.op = op) (hk : oq P op ρ h fun v => K v h) : hw P (execOp ρ o) h (nextK P K) :=
  yacc _ _ _ (yacf _ _ _ _ (fun n hn => by obtain ⟨v, rfl, hv⟩ := hn; exact hv) (yakx ho hk))
theorem yanj {t ty : TypeId} {x : Value} {h : Hp} {k : Int → Prop} (tys : Array TypeId) (args : Array Value) (h0 : tys[0]? = some t) (g0 : args[0]? = some x) (hm : ybaa P t = true) (hk : yatx x h k) :
    hw P (Builtin.len_ tys ty args) h (fun v h' => ∃ n, v = .int .i64 n ∧ h' = h ∧ k n) := by
  unfold ybaa at hm
  split at hm
  · rename_i kt et hu
    unfold yatx at hk
    split at hk
    · simp only [Builtin.len_, h0, g0, yaac, yaao, hu]
      exact ⟨_, rfl, rfl, hk⟩
    · obtain ⟨es, clock, ho, hk⟩ := hk
      simp only [Builtin.len_, h0, g0, yaac, yaao, hu, getObj, hw]
      exact ⟨_, ho, _, rfl, rfl, hk⟩
    · exact hk.elim
  · cases hm
theorem yamm {t ty : TypeId} {m i : Value} {h : Hp} {k : Hp → Prop} (tys : Array TypeId) (args : Array Value) (h0 : tys[0]? = some t) (g0 : args[0]? = some m) (g1 : args[1]? = some i) (hk : yaxw P t m i h k) :
    hw P (Builtin.delete_ tys ty args) h (fun v h => v = .tuple #[] ∧ k h) := by
  have e : Builtin.delete_ tys ty args = Builtin.delete_ #[t] t #[m, i] := by
    unfold Builtin.delete_
    simp only [h0, g0, g1]
    rfl
  rw [e]
  exact hk
theorem yack (l : Array Operand) (ρ : Operand → Value) (i : Nat) : (l.map ρ)[i]? = (l.toList.map ρ)[i]? := by simp
theorem yamz {F : Nat → Bool} (hF : ∀ g, F g = true → yaau P g) {o : Oper} {ρ : Operand → Value} {h : Hp} {K : Value → Hp → Prop} {op : Op} {ty : TypeId} (ho : o.op = op) (hk : ot P F op ty ρ h K) :
    hw P (execOp ρ o) h (nextK P K) := by
  unfold ot at hk
  split at hk
  · rename_i t a x
    obtain ⟨a', ha, hk⟩ := yafo hk
    simp only [execOp, ho, yaac, Instr.storeAt, ha, Instr.sureAddr, yaam]
    refine yabq _ _ _ _ (fun _ _ hk => ?_) (yajb hk)
    exact hk
  · rename_i e x
    simp only [execOp, ho]
    exact yabj _ _ _ (yael hk)
  · rename_i e
    obtain ⟨i, z, hi, hz, hk⟩ := yadd hk
    simp only [execOp, ho]
    refine yabj _ _ _ ?_
    simp only [Instr.alloc, yaac, yaaw hi hz]
    have := yael (P := P) hk
    rwa [yaac] at this
  · rename_i t n parts
    simp only [execOp, ho]
    refine yabj _ _ _ (yahu ?_)
    simpa using hk
  · rename_i t l c
    simp only [execOp, ho]
    exact yabj _ _ _ (yaer hk)
  · rename_i s d x
    simp only [execOp, ho]
    refine yabj _ _ _ ?_
    unfold ybdw at hk
    split at hk
    · exact yacc _ _ _ (yaip hk)
    · exact yacc _ _ _ (yaip hk)
    · refine yabq _ _ _ _ (fun v h hv => ?_) hk
      cases v <;> first | exact hv | exact hv.elim
    · refine yabq _ _ _ _ (fun v h hv => ?_) hk
      cases v <;> first | exact hv | exact hv.elim
  · rename_i t x
    simp only [execOp, ho]
    exact yabj _ _ _ hk
  · rename_i x xt t c
    simp only [execOp, ho]
    refine yabj _ _ _ (yacc _ _ _ (yacf _ _ _ _ (fun v hv => ?_) hk))
    obtain ⟨v', rfl, hv⟩ := Ex2.out hv
    exact hv
  · rename_i t r
    cases r with
    | some r => exact hk.elim
    | none =>
      simp only [execOp, ho]
      refine yabj _ _ _ ?_
      exact hk
  · rename_i t m i ok
    simp only [execOp, ho]
    refine yabj _ _ _ (yacc _ _ _ (yacf _ _ _ _ (fun v hv => ?_) hk))
    obtain ⟨v', rfl, hv⟩ := Ex2.out hv
    exact hv
  · rename_i t m i v
    simp only [execOp, ho, yaac]
    refine yabq _ _ _ _ (fun _ _ hk => ?_) hk
    exact hk
  · rename_i t x
    simp only [execOp, ho]
    refine yabj _ _ _ (yabq _ _ _ _ (fun v h hv => ?_) hk)
    obtain ⟨r, rfl, hv⟩ := hv
    exact hv
  · rename_i it s
    simp only [execOp, ho]
    refine yabj _ _ _ (yabq _ _ _ _ (fun v h hv => ?_) hk)
    rcases hv with ⟨rfl, hv⟩ | ⟨x, y, rfl, hv⟩
    · exact hv
    · exact hv
  · rename_i it
    simp only [execOp, ho]
    refine yabj _ _ _ (yacc _ _ _ (yacf _ _ _ _ (fun v hv => ?_) hk))
    obtain ⟨v', rfl, hv⟩ := Ex2.out hv
    exact hv
  · rename_i f args tys
    unfold callV at hk
    obtain ⟨g, first, cap, hf, hk⟩ := yapi hk
    simp only [execOp, ho, resolve, yaac, hf, Deferred.ofValue, yaam, invoke]
    unfold callX at hk
    split at hk
    rotate_left
    · have e : (first.toList ++ (args.toList.map ρ ++ cap.toList)).toArray = first ++ args.map ρ ++ cap := by apply Array.ext'; simp
      rw [e] at hk
      refine yalb hk fun v hv => ?_
      obtain ⟨v', rfl, hv⟩ := Ex2.out hv
      exact hv
    rename_i hg
    refine yadp (hF g hg) _ _ _ ?_
    have e : (first.toList ++ (args.toList.map ρ ++ cap.toList)).toArray = first ++ args.map ρ ++ cap := by apply Array.ext'; simp
    rw [e] at hk
    refine hk.mono fun v h' hv => ?_
    obtain ⟨v', rfl, hv⟩ := Ex2.out hv
    exact hv
  · rename_i r name args tys
    simp only [execOp, ho, resolve, yaac, yaam, invoke]
    have e0 : (#[ρ r] ++ args.map ρ)[0]? = some (ρ r) := by rw [← Array.getElem?_toList]; simp
    have e1 : (#[ρ r] ++ args.map ρ).extract 1 (#[ρ r] ++ args.map ρ).size = (args.toList.map ρ).toArray := by apply Array.ext'; simp [List.take_of_length_le]
    rw [e0]
    show hw P (callMethod (ρ r) name ((#[ρ r] ++ args.map ρ).extract 1 (#[ρ r] ++ args.map ρ).size)) h (nextK P K)
    rw [e1]
    refine yabq _ _ _ _ (fun nx h' hn => ?_) hk
    cases nx with
    | value v =>
      have hn : ExT P ty fun v' => v = v' ∧ K v' h' := hn
      obtain ⟨v', hv', hv⟩ := Ex2.out hn
      rw [hv']; exact hv
    | skip =>
      have hn : ExT P ty fun v' => undef = v' ∧ K v' h' := hn
      obtain ⟨v', hv', hv⟩ := Ex2.out hn
      show K undef h'
      rw [hv']; exact hv
    | enter f as =>
      have hn : yaak P f as h' fun v h' => ExT P ty fun v' => v = v' ∧ K v' h' := hn
      refine yaak.mono hn fun v h hv => ?_
      obtain ⟨v', hv', hv⟩ := Ex2.out hv
      rw [hv']; exact hv
    | _ => exact (show False from hn).elim
  · rename_i b args tys
    unfold yatm at hk
    split at hk
    · rename_i t t2 _ s x _ ht hx
      simp only [execOp, ho, resolve, yaac, yaam, invoke, builtin]
      have e1 := congrArg (fun l => l[0]?) ht
      have e2 := congrArg (fun l => l[1]?) ht
      have e3 := congrArg (fun l => l[0]?) hx
      have e4 := congrArg (fun l => l[1]?) hx
      simp only [Array.getElem?_toList, List.getElem?_cons_zero, List.getElem?_cons_succ] at e1 e2
      rw [← yack] at e3 e4
      simp only [List.getElem?_cons_zero, List.getElem?_cons_succ] at e3 e4
      refine yabq _ _ _ _ (fun v h hv => ?_) (yahh (t := t) (t2 := t2) (s := s) (x := x) _ _ e1 e2 e3 e4 hk)
      cases v <;> first | exact hv | exact hv.elim
    · rename_i t _ d s _ ht hx
      simp only [execOp, ho, resolve, yaac, yaam, invoke, builtin]
      have e1 := congrArg (fun l => l[0]?) ht
      have e3 := congrArg (fun l => l[0]?) hx
      have e4 := congrArg (fun l => l[1]?) hx
      simp only [Array.getElem?_toList, List.getElem?_cons_zero] at e1
      rw [← yack] at e3 e4
      simp only [List.getElem?_cons_zero, List.getElem?_cons_succ] at e3 e4
      exact yabq _ _ _ _ (fun v h ⟨n, hv, hk⟩ => hv ▸ hk) (yaqp (t := t) (d := d) (s := s) _ _ e1 e3 e4 hk)
    · rename_i t _ s _ ht hx
      simp only [execOp, ho, resolve, yaac, yaam, invoke, builtin]
      have e1 := congrArg (fun l => l[0]?) ht
      have e3 := congrArg (fun l => l[0]?) hx
      simp only [Array.getElem?_toList, List.getElem?_cons_zero] at e1
      rw [← yack] at e3
      simp only [List.getElem?_cons_zero] at e3
      refine yabq _ _ _ _ (fun v h hv => ?_) (yapy (t := t) (s := s) _ _ e1 e3 hk)
      obtain ⟨rfl, hv⟩ := hv
      exact hv
    · rename_i t _ m i _ ht hx
      simp only [execOp, ho, resolve, yaac, yaam, invoke, builtin]
      have e1 := congrArg (fun l => l[0]?) ht
      have e3 := congrArg (fun l => l[0]?) hx
      have e4 := congrArg (fun l => l[1]?) hx
      simp only [Array.getElem?_toList, List.getElem?_cons_zero] at e1
      rw [← yack] at e3 e4
      simp only [List.getElem?_cons_zero, List.getElem?_cons_succ] at e3 e4
      refine yabq _ _ _ _ (fun v h hv => ?_) (yamm (t := t) (m := m) (i := i) _ _ e1 e3 e4 hk)
      obtain ⟨rfl, hv⟩ := hv
      exact hv
    · rename_i t _ x _ ht hx
      split at hk
      · rename_i hm
        simp only [execOp, ho, resolve, yaac, yaam, invoke, builtin]
        have e1 := congrArg (fun l => l[0]?) ht
        have e3 := congrArg (fun l => l[0]?) hx
        simp only [Array.getElem?_toList, List.getElem?_cons_zero] at e1
        rw [← yack] at e3
        simp only [List.getElem?_cons_zero] at e3
        refine yabq _ _ _ _ (fun v h hv => ?_) (yanj (t := t) (x := x) _ _ e1 e3 hm hk)
        obtain ⟨n, rfl, rfl, hv⟩ := hv
        exact hv
      · refine hw_oq (K := K) ho ?_
        show yacd P .len _ _ _
        rw [ht, hx]
        exact hk
    · exact hw_oq ho hk
  · exact hw_oq ho hk
end
open Go
abbrev Env := List (Nat × Value)
abbrev look : Env → Nat → Option Value
  | [], _ => none
  | (j, v) :: r, i => cond (Nat.beq j i) (some v) (look r i)
abbrev ev (env : Env) : Operand → Value
  | .tmp t => (match look env t with | some v => v | none => undef)
  | .const v => v
  | .global g => .pointer (some ⟨g, 0, none⟩)
  | .func f => .func (.func f) #[] #[]
abbrev optL {α : Type} : Option α → List α | some x => [x] | none => []
abbrev yadv (c : Call) : List Operand := (match c.callee with | .value f => [f] | .invoke r _ => [r] | .builtin _ => []) ++ c.args.toList
abbrev opds : Op → List Operand
  | .alloc _ | .ready _ | .waits _ => []
  | .move x | .assign x | .box _ x | .load _ x | .nilCheck x | .unOp _ _ x | .convert _ _ x | .sliceToArrayPointer _ x | .makeInterface _ x
  | .makeChan _ x | .fieldAddr _ x _ | .field _ x _ | .range _ x | .next x _ | .entry x | .typeAssert x _ _ _ | .extract x _ | .panic x | .recv _ x _ => [x]
  | .pick c a b => [c, a, b]
  | .build _ ps | .buildSlice _ _ ps => ps.toList.map (·.2)
  | .store _ a v | .binOp _ _ a v _ | .makeSlice _ a v | .indexAddr _ a v | .index _ a v | .lookup _ a v _ | .mapEntry _ a v | .send a v => [a, v]
  | .makeFunc _ first captured => first.toList ++ captured.toList
  | .makeMap _ r => optL r
  | .slice _ x l h m => x :: (optL l ++ (optL h ++ optL m))
  | .mapUpdate _ m k v | .entryStore _ m k v | .insert _ m k v => [m, k, v]
  | .call c | .go c | .defer c => yadv c
  | .select _ _ => []
abbrev yajs (env : Env) : Operand → Bool
  | .tmp t => (match look env t with | some _ => true | none => false)
  | _ => true
abbrev yacq : Op → Bool | .select _ _ => true | _ => false
abbrev allL {α : Type} (p : α → Bool) : List α → Bool
  | [] => true
  | x :: r => cond (p x) (allL p r) false
abbrev known (env : Env) (op : Op) : Bool := cond (yacq op) false (allL (yajs env) (opds op))
theorem yaat {α : Type} {p : α → Bool} : ∀ {l : List α}, allL p l = true → ∀ x ∈ l, p x = true
  | [], _, x, hx => by cases hx
  | y :: r, h, x, hx => by
    unfold allL at h
    cases hp : p y with
    | false => rw [hp] at h; cases h
    | true =>
      rw [hp] at h
      cases hx with
      | head => exact hp
      | tail _ hx => exact yaat h x hx
theorem ybas (op : Op) (hs : yacq op = false) (x : Operand) (h : x ∈ op.operands) : x ∈ opds op := by
  cases op <;> simp only [Op.operands, opds] at h ⊢ <;> first | (simp at h; done) | (simpa using h; done) | skip
  case select => cases hs
  case makeMap t r => cases r <;> simp_all [optL]
  case slice t x lo hi m => cases lo <;> cases hi <;> cases m <;> simp_all [optL]
  all_goals
    rename_i c
    simp only [Call.operands, yadv] at h ⊢
    cases hc : c.callee <;> simp_all
structure Mdl (n : Nat) (env : Env) (a : Act) : Prop where
  size : a.tmps.size = n
  get : ∀ i v, look env i = some v → a.tmps[i]? = some v
theorem yacy (d : Nat) (v : Value) (env : Env) (i : Nat) : look ((d, v) :: env) i = if d = i then some v else look env i := by
  show (cond (Nat.beq d i) (some v) (look env i)) = _
  by_cases h : d = i
  · subst h; simp
  · have : Nat.beq d i = false := by cases hb : Nat.beq d i with | false => rfl | true => exact absurd (Nat.eq_of_beq_eq_true hb) h
    rw [this, if_neg h]; rfl
theorem Mdl.put {n : Nat} {env : Env} {a : Act} (m : Mdl n env a) {d : Nat} (hd : d < n) (v : Value) : Mdl n ((d, v) :: env) (a.put (some d) v) where
  size := by simp [Act.put, m.size]
  get := fun i u hu => by
    rw [yacy] at hu
    simp only [Act.put]
    split at hu
    · rename_i h
      subst h
      obtain rfl : v = u := Option.some.inj hu
      rw [Array.getElem?_setIfInBounds_self]
      rw [if_pos (by rw [m.size]; exact hd)]
    · rename_i h
      rw [Array.getElem?_setIfInBounds_ne h]
      exact m.get i u hu
theorem Mdl.ev {n : Nat} {env : Env} {a : Act} (m : Mdl n env a) {x : Operand} (hx : yajs env x = true) : a.eval x = Sx.ev env x := by
  cases x with
  | tmp t =>
    simp only [yajs] at hx
    simp only [Act.eval, Sx.ev]
    cases hl : look env t with
    | none => rw [hl] at hx; cases hx
    | some v => simp [Array.getD_eq_getD_getElem?, m.get t v hl]
  | _ => rfl
theorem Mdl.execOp {n : Nat} {env : Env} {a : Act} (m : Mdl n env a) {o : Oper} (hk : known env o.op = true) : Go.execOp a.eval o = Go.execOp (Sx.ev env) o := by
  unfold known at hk
  have hs : yacq o.op = false := by cases h : yacq o.op with | false => rfl | true => rw [h] at hk; cases hk
  rw [hs] at hk
  refine execOp_congr o (fun cs b he => by rw [he] at hs; cases hs) fun x hx => m.ev (yaat hk x (ybas _ hs x hx))
structure Keeps (ws : List Nat) (a a' : Act) : Prop where
  defers : a'.defers = a.defers
  get : ∀ i, i ∉ ws → a'.tmps[i]? = a.tmps[i]?
theorem Keeps.refl (ws : List Nat) (a : Act) : Keeps ws a a := ⟨rfl, fun _ _ => rfl⟩
theorem Keeps.trans {ws : List Nat} {a b c : Act} (h : Keeps ws a b) (k : Keeps ws b c) : Keeps ws a c := ⟨k.defers.trans h.defers, fun i hi => (k.get i hi).trans (h.get i hi)⟩
theorem Keeps.mono {ws ws' : List Nat} {a b : Act} (h : Keeps ws a b) (hs : ∀ i, i ∈ ws → i ∈ ws') : Keeps ws' a b := ⟨h.defers, fun i hi => h.get i fun hm => hi (hs i hm)⟩
theorem Keeps.put {ws : List Nat} {dst : Option Nat} (a : Act) (v : Value) (h : ∀ d, dst = some d → d ∈ ws) : Keeps ws a (a.put dst v) := ⟨by cases dst <;> rfl, fun i hi => by
  cases dst with
  | none => rfl
  | some d =>
    have hne : d ≠ i := fun e => hi (e ▸ h d rfl)
    simp only [Act.put]
    exact Array.getElem?_setIfInBounds_ne hne⟩
abbrev putE (n : Nat) (dst : Option Nat) (v : Value) (env : Env) (k : Env → Prop) : Prop :=
  match dst with
  | none => k env
  | some d => chk (Nat.blt d n) (k ((d, v) :: env))
theorem yacr {n : Nat} {dst : Option Nat} {v : Value} {env : Env} {k : Env → Prop} {a : Act} (m : Mdl n env a) (h : putE n dst v env k) : ∃ env', Mdl n env' (a.put dst v) ∧ k env' := by
  cases dst with
  | none => exact ⟨env, m, h⟩
  | some d =>
    obtain ⟨hd, h⟩ := yaae h
    have hd : d < n := Nat.le_of_ble_eq_true hd
    exact ⟨_, m.put hd v, h⟩
abbrev yalh (all : List Oper) (env : Env) (g : Option (Nat × Bool)) (yes no : Env → Prop) : Prop :=
  match g with
  | none => yes env
  | some (j, want) => (match nth all j with
    | some o => (match o.dst with
      | some d => (match look env d with
        | some (.bool b) => (match want with | true => (match b with | true => yes ((d, .bool true) :: env) | false => no ((d, .bool false) :: env)) | false => (match b with | true => no ((d, .bool true) :: env) | false => yes ((d, .bool false) :: env)))
        | some (.tuple _) => no env
        | _ => False)
      | none => no env)
    | none => no env)
theorem Mdl.same {n : Nat} {env : Env} {a : Act} (m : Mdl n env a) {d : Nat} {v : Value} (h : a.tmps[d]? = some v) : Mdl n ((d, v) :: env) a where
  size := m.size
  get := fun i u hu => by
    rw [yacy] at hu
    split at hu
    · rename_i hd; subst hd; obtain rfl : v = u := Option.some.inj hu; exact h
    · exact m.get i u hu
theorem yadt {n : Nat} {all : List Oper} {env : Env} {o : Oper} {yes no : Env → Prop} {a : Act} (m : Mdl n env a) (h : yalh all env o.guard yes no) :
    (Region.wanted o (yielded all.toArray a.tmps) = true ∧ ∃ env', Mdl n env' a ∧ yes env') ∨ (Region.wanted o (yielded all.toArray a.tmps) = false ∧ ∃ env', Mdl n env' a ∧ no env') := by
  unfold yalh at h
  unfold Region.wanted
  split at h
  · rename_i hg; rw [hg]; exact .inl ⟨rfl, env, m, h⟩
  · rename_i j want hg
    simp only [hg]
    have hy : ∀ d, (nth all j).bind (·.dst) = some d → yielded all.toArray a.tmps j = (match a.tmps[d]? with | some (.bool b) => some b | _ => none) := by
      intro d hd
      rw [yacg] at hd
      unfold yielded
      have : (all.toArray[j]?).bind (·.dst) = some d := by simpa using hd
      rw [this]
      rfl
    have hy0 : (nth all j).bind (·.dst) = none → yielded all.toArray a.tmps j = none := by
      intro hd
      rw [yacg] at hd
      unfold yielded
      have : (all.toArray[j]?).bind (·.dst) = none := by simpa using hd
      rw [this]
      rfl
    split at h
    · rename_i oj hoj
      split at h
      · rename_i d hd
        have hyd := hy d (by rw [hoj]; exact hd)
        split at h
        · rename_i b hb
          have hget := m.get d _ hb
          rw [hget] at hyd
          simp only [] at hyd
          rw [hyd]
          cases want <;> cases b <;> simp only [] at h
          · exact .inl ⟨rfl, _, m.same hget, h⟩
          · exact .inr ⟨rfl, _, m.same hget, h⟩
          · exact .inr ⟨rfl, _, m.same hget, h⟩
          · exact .inl ⟨rfl, _, m.same hget, h⟩
        · rename_i vs hb
          have hget := m.get d _ hb
          rw [hget] at hyd
          simp only [] at hyd
          rw [hyd]
          exact .inr ⟨rfl, env, m, h⟩
        · exact h.elim
      · rename_i hd
        rw [hy0 (by rw [hoj]; exact hd)]
        exact .inr ⟨rfl, env, m, h⟩
    · rename_i hoj
      rw [hy0 (by rw [hoj]; rfl)]
      exact .inr ⟨rfl, env, m, h⟩
abbrev sxOps (P : Program) (F : Nat → Bool) (n : Nat) (all : List Oper) : List Oper → Env → Hp → (Env → Hp → Prop) → Prop
  | [], env, h, K => K env h
  | o :: r, env, h, K => yalh all env o.guard
      (fun env => chk (known env o.op) (ot P F o.op (tyOf all o) (ev env) h fun v h => putE n o.dst v env fun env => sxOps P F n all r env h K))
      (fun env => putE n o.dst undef env fun env => sxOps P F n all r env h K)
def yaal : List Oper → List Nat
  | [] => []
  | o :: r => optL o.dst ++ yaal r
def Post (n : Nat) (ws : List Nat) (a : Act) (w : World) (K : Exit → Env → Hp → Prop) : Exit → Act → World → Prop := fun e a' w' =>
  ∃ env', Mdl n env' a' ∧ Same w w' ∧ Keeps ws a a' ∧ K e env' w'.heap
theorem Post.step {n : Nat} {ws : List Nat} {a b : Act} {w u : World} {K : Exit → Env → Hp → Prop} {e : Exit} {a' : Act} {w' : World} (hs : Same w u) (hk : Keeps ws a b) (h : Post n ws b u K e a' w') : Post n ws a w K e a' w' := by
  obtain ⟨env', m, s, k, h⟩ := h
  exact ⟨env', m, hs.trans s, hk.trans k, h⟩
section
variable {P : Program} {F : Nat → Bool}
theorem yado {ops : Array Oper} {Q Q' : Exit → Act → World → Prop} (hq : ∀ e a w, Q e a w → Q' e a w) : ∀ (l : List Oper) (a : Act) (w : World), wpList P ops Q l a w → wpList P ops Q' l a w := by
  intro l
  induction l with
  | nil => intro a w h; exact hq _ _ _ h
  | cons o r ih =>
    intro a w h
    unfold wpList at h ⊢
    split
    · rename_i hw
      rw [if_pos hw] at h
      rcases h with h | ⟨h, a0, w0, h1⟩
      · refine .inl ?_
        unfold Oper.wp at h ⊢
        generalize (execOp a.eval o).run P w = res at h ⊢
        cases res with
        | ok nx w' =>
          cases nx <;> simp only [Oper.upon] at h ⊢ <;> first
            | exact ih _ _ h
            | exact Calls.mono h (fun e w'' he => by
                cases e with
                | returned v => exact ih _ _ he
                | panicked c => exact hq _ _ _ he
                | outgrown => obtain ⟨a0, w0, h0⟩ := he; exact ⟨a0, w0, hq _ _ _ h0⟩)
            | exact Rows.mono h (fun _ _ he => ih _ _ he)
            | exact h.elim
        | halt x w' => cases x <;> simp only [Oper.upon] at h ⊢ <;> first | exact hq _ _ _ h | exact h.elim
      · exact .inr ⟨h, a0, w0, hq _ _ _ h1⟩
    · rename_i hw
      rw [if_neg hw] at h
      exact ih _ _ h
theorem yagh {o : Oper} {a : Act} {w : World} {K : Value → Hp → Prop} {next : Act → World → Prop} {Q : Exit → Act → World → Prop} (h : hw P (execOp a.eval o) w.heap (nextK P K))
    (hn : ∀ v w', Same w w' → K v w'.heap → next (a.put o.dst v) w') : o.wp P a w next Q := by
  obtain ⟨nx, w', hr, hs, hk⟩ := yavg _ _ _ h w rfl
  unfold Oper.wp
  rw [hr]
  cases nx <;> simp only [nextK] at hk <;> first | exact hk.elim | skip
  · exact hn _ _ hs hk
  · exact hn _ _ hs hk
  · rename_i f args
    simp only [Oper.upon]
    refine (hk w' rfl).mono fun e w'' ⟨v, he, hs', hv⟩ => ?_
    subst he
    exact hn _ _ (hs.trans hs') hv
theorem yapd (hF : ∀ g, F g = true → yaau P g) {n : Nat} {all : List Oper} : ∀ (l : List Oper) (env : Env) (h : Hp) (K : Env → Hp → Prop), sxOps P F n all l env h K → ∀ (a : Act) (w : World), Mdl n env a → w.heap = h →
    wpList P all.toArray (Post n (yaal l) a w fun e env h => e = .normal ∧ K env h) l a w := by
  intro l
  induction l with
  | nil =>
    intro env h K hk a w m hw
    exact ⟨env, m, Same.refl w, Keeps.refl _ _, rfl, by rw [hw]; exact hk⟩
  | cons o r ih =>
    intro env h K hk a w m hw
    subst hw
    simp only [sxOps] at hk
    have hin : ∀ d, o.dst = some d → d ∈ yaal (o :: r) := fun d hd => by simp [yaal, hd, optL]
    have hsub : ∀ i, i ∈ yaal r → i ∈ yaal (o :: r) := fun i hi => by simp [yaal, hi]
    have post : ∀ {b : Act} {u : World} {e : Exit} {a' : Act} {w' : World} {K' : Exit → Env → Hp → Prop}, Same w u → Keeps (yaal (o :: r)) a b → Post n (yaal r) b u K' e a' w' → Post n (yaal (o :: r)) a w K' e a' w' := by
      intro b u e a' w' K' hs hk ⟨env', m', s, k, h⟩
      exact ⟨env', m', hs.trans s, hk.trans (k.mono hsub), h⟩
    rcases yadt m hk with ⟨hwt, env1, m1, hk⟩ | ⟨hwt, env1, m1, hk⟩
    · obtain ⟨hkn, hk⟩ := yaae hk
      unfold wpList
      rw [if_pos hwt]
      refine .inl ?_
      have h1 := yamz hF (o := o) rfl hk
      rw [← m1.execOp hkn] at h1
      refine yagh h1 fun v w' hs hv => ?_
      obtain ⟨env2, m2, hv⟩ := yacr m1 hv
      exact yado (fun e a' w'' hp => post hs (Keeps.put a v hin) hp) _ _ _ (ih env2 _ K hv _ w' m2 rfl)
    · unfold wpList
      rw [if_neg (by rw [hwt]; simp)]
      obtain ⟨env2, m2, hv⟩ := yacr m1 hk
      exact yado (fun e a' w'' hp => post (Same.refl w) (Keeps.put a undef hin) hp) _ _ _ (ih env2 _ K hv _ w m2 rfl)
end
open Go
abbrev oqc (P : Program) (F : Nat → Bool) (op : Op) (ty : TypeId) (ρ : Operand → Value) (h : Hp) (K : Value → Prop) : Prop :=
  match op with
  | .call { callee := .value f, args, .. } => funV (ρ f) fun g first cap => chk (F g) (ExT P ty fun v0 => yaak P g (first ++ (args.toList.map ρ ++ cap)).toArray h (fun v h' => v = v0 ∧ h' = h) ∧ K v0)
  | op => oq P op ρ h K
abbrev sxQ (P : Program) (F : Nat → Bool) (n : Nat) (all : List Oper) : List Oper → Env → Hp → (Env → Prop) → Prop
  | [], env, _, K => K env
  | o :: r, env, h, K => yalh all env o.guard
      (fun env => chk (known env o.op) (oqc P F o.op o.type (ev env) h fun v => putE n o.dst v env fun env => sxQ P F n all r env h K))
      (fun env => putE n o.dst undef env fun env => sxQ P F n all r env h K)
def Cls (w : World) (h : Hp) : World → Prop := fun w' => w'.heap = h ∧ Same w w'
section
variable {P : Program} {F : Nat → Bool}
theorem yauj (hF : ∀ g, F g = true → yaau P g) {o : Oper} {op : Op} (ho : o.op = op) {ρ : Operand → Value} {h : Hp} {K : Value → Prop} {w0 : World} (hk : oqc P F op o.type ρ h K) :
    ∃ v, (∀ w, Cls w0 h w → Oper.quietUpon P (Cls w0 h) w v ((execOp ρ o).run P w)) ∧ K v := by
  unfold oqc at hk
  split at hk
  · rename_i f args tys
    obtain ⟨g, first, cap, hf, hk⟩ := yapi hk
    obtain ⟨hg, hk⟩ := yaae hk
    obtain ⟨v0, hc, hk⟩ := Ex2.out hk
    refine ⟨v0, fun w hw => ?_, hk⟩
    have h2 : hq P (execOp ρ o) w.heap (fun n => n = .enter g (first ++ args.map ρ ++ cap)) := by
      obtain ⟨fn, hfn, hn, hb⟩ := hF g hg
      simp only [execOp, ho, resolve, yaab, hf, Deferred.ofValue, yaah, invoke]
      simp only [callFunc, program, yaab, hq, hfn]
      rw [if_neg (by rw [hn]; simp), if_neg (by rw [hb]; simp)]
      rfl
    obtain ⟨n, rfl, hr⟩ := yake _ _ _ h2
    rw [hr w rfl]
    refine ⟨rfl, ?_⟩
    have e : (first.toList ++ (args.toList.map ρ ++ cap.toList)).toArray = first ++ args.map ρ ++ cap := by apply Array.ext'; simp
    rw [e] at hc
    refine (hc w hw.1).mono fun e w'' ⟨v, he, hs, hv, hh⟩ => ?_
    subst hv
    exact ⟨he, hh, hw.2.trans hs⟩
  · obtain ⟨n, ⟨v, rfl, hv⟩, hr⟩ := yake _ _ _ (yakx ho hk)
    refine ⟨v, fun w hw => ?_, hv⟩
    rw [hr w hw.1]
    exact ⟨rfl, rfl⟩
theorem yacn {ops : Array Oper} {C : World → Prop} {Q Q' : Act → Prop} (hq : ∀ a, Q a → Q' a) : ∀ (l : List Oper) (a : Act), wpQuiet P ops C Q l a → wpQuiet P ops C Q' l a
  | [], _, h => hq _ h
  | o :: r, a, h => by
    unfold wpQuiet at h ⊢
    split
    · rename_i hw
      rw [if_pos hw] at h
      obtain ⟨v, h1, h2⟩ := h
      exact ⟨v, h1, yacn hq r _ h2⟩
    · rename_i hw
      rw [if_neg hw] at h
      exact yacn hq r _ h
theorem yaos (hF : ∀ g, F g = true → yaau P g) {n : Nat} {all : List Oper} {w0 : World} {h : Hp} : ∀ (l : List Oper) (env : Env) (K : Env → Prop), sxQ P F n all l env h K → ∀ (a : Act), Mdl n env a →
    wpQuiet P all.toArray (Cls w0 h) (fun a' => ∃ env', Mdl n env' a' ∧ Keeps (yaal l) a a' ∧ K env') l a := by
  intro l
  induction l with
  | nil => intro env K hk a m; exact ⟨env, m, Keeps.refl _ _, hk⟩
  | cons o r ih =>
    intro env K hk a m
    simp only [sxQ] at hk
    have hin : ∀ d, o.dst = some d → d ∈ yaal (o :: r) := fun d hd => by simp [yaal, hd, optL]
    have hsub : ∀ i, i ∈ yaal r → i ∈ yaal (o :: r) := fun i hi => by simp [yaal, hi]
    rcases yadt m hk with ⟨hwt, env1, m1, hk⟩ | ⟨hwt, env1, m1, hk⟩
    · obtain ⟨hkn, hk⟩ := yaae hk
      unfold wpQuiet
      rw [if_pos hwt]
      obtain ⟨v, hv, hk⟩ := yauj hF (o := o) (w0 := w0) rfl hk
      refine ⟨v, fun w hw => ?_, ?_⟩
      · unfold Oper.quietAt; rw [m1.execOp hkn]; exact hv w hw
      · obtain ⟨env2, m2, hk⟩ := yacr m1 hk
        exact yacn (fun a' ⟨env', m', k, hk⟩ => ⟨env', m', (Keeps.put a v hin).trans (k.mono hsub), hk⟩) _ _ (ih env2 K hk _ m2)
    · unfold wpQuiet
      rw [if_neg (by rw [hwt]; simp)]
      obtain ⟨env2, m2, hk⟩ := yacr m1 hk
      exact yacn (fun a' ⟨env', m', k, hk⟩ => ⟨env', m', (Keeps.put a undef hin).trans (k.mono hsub), hk⟩) _ _ (ih env2 K hk _ m2)
end
def headB (ops : List Oper) (k : Nat) : Bool := allL (fun j =>
    match nth ops j with
    | some o => cond (match o.guard with | some (g, _) => Nat.blt g k | none => true) (allL (fun e => cond (Region.binds .any e) (Nat.blt e.on j) true) o.after.toList) false
    | none => false) (List.range k)
def yaqb (ops : List Oper) : Nat → Nat → Nat → Bool
  | 0, _, _ => false
  | f + 1, j, i => match nth ops j with
    | some o => o.after.toList.any fun e => cond (Region.binds .any e) (cond (Nat.beq e.on i) true (cond (Nat.blt i e.on) (yaqb ops f e.on i) false)) false
    | none => false
def ybgn (o : Oper) (i : Nat) : Bool := o.after.toList.any fun e => cond (Region.binds .any e) (Nat.beq e.on i) false
def tailB (ops : List Oper) (k : Nat) : Bool := cond (allL (fun i => yaqb ops k k i) (List.range k))
  (allL (fun j => cond (Nat.blt j k) true (match nth ops j with | some o => cond (allL (fun e => cond (Region.binds .any e) (Nat.blt e.on j) true) o.after.toList) (cond (Nat.beq j k) true (ybgn o (j - 1))) false | none => false)) (List.range ops.length)) false
section
variable {P : Program} {ops : List Oper} {k : Nat}
theorem yaag {b x : Bool} (h : cond b x false = true) : b = true ∧ x = true := by cases b <;> simp_all
theorem yaiq (h : headB ops k = true) {j : Nat} (hj : j < k) : ∃ o, ops[j]? = some o ∧ (∀ g b, o.guard = some (g, b) → g < k) ∧ ∀ e ∈ o.after, Region.binds .any e = true → e.on < j := by
  have h1 := yaat h j (List.mem_range.2 hj)
  rw [yacg] at h1
  cases ho : ops[j]? with
  | none => rw [ho] at h1; cases h1
  | some o =>
    rw [ho] at h1
    simp only [] at h1
    refine ⟨o, rfl, ?_, ?_⟩
    · intro g b hg
      simp only [hg] at h1
      cases hb : Nat.blt g k with
      | false => rw [hb] at h1; cases h1
      | true => exact Nat.le_of_ble_eq_true hb
    · intro e he hb
      cases hc : (match o.guard with | some (g, _) => Nat.blt g k | none => true) with
      | false => rw [hc] at h1; cases h1
      | true =>
        rw [hc] at h1
        have h2 := yaat h1 e (by simpa using he)
        rw [hb] at h2
        exact Nat.le_of_ble_eq_true h2
theorem yahy (h : tailB ops k = true) {j : Nat} (hj : j < ops.length) (hk : k ≤ j) : ∃ o, ops[j]? = some o ∧ (k < j → ∃ e ∈ o.after, Region.binds .any e = true ∧ e.on = j - 1) ∧ ∀ e ∈ o.after, Region.binds .any e = true → e.on < j := by
  obtain ⟨_, h⟩ := yaag h
  have h1 := yaat h j (List.mem_range.2 hj)
  have hb : Nat.blt j k = false := by
    cases hb : Nat.blt j k with
    | false => rfl
    | true => have := Nat.le_of_ble_eq_true hb; omega
  rw [hb, yacg] at h1
  simp only [cond] at h1
  cases ho : ops[j]? with
  | none => rw [ho] at h1; cases h1
  | some o =>
    rw [ho] at h1
    obtain ⟨h0, h1⟩ := yaag h1
    refine ⟨o, rfl, fun hlt => ?_, fun e he hb => ?_⟩
    · have hne : Nat.beq j k = false := by cases hb : Nat.beq j k with | false => rfl | true => have := Nat.eq_of_beq_eq_true hb; omega
      rw [hne] at h1
      obtain ⟨e, he, h3⟩ := List.any_eq_true.1 h1
      cases hbe : Region.binds .any e with
      | false => rw [hbe] at h3; cases h3
      | true => rw [hbe] at h3; exact ⟨e, by simpa using he, hbe, Nat.eq_of_beq_eq_true h3⟩
    · have h2 := yaat h0 e (by simpa using he)
      rw [hb] at h2
      exact Nat.le_of_ble_eq_true h2
def yalj (ops : List Oper) (L : Array Bool) : Prop := ∀ i o, L.getD i false = true → ops[i]? = some o → ∀ e ∈ o.after, Region.binds .any e = true → L.getD e.on false = true
theorem yajd {L : Array Bool} (hc : yalj ops L) : ∀ (f j i : Nat), yaqb ops f j i = true → ∀ o, ops[j]? = some o → (∀ e ∈ o.after, Region.binds .any e = true → L.getD e.on false = true) → L.getD i false = true
  | 0, _, _, h, _, _, _ => by cases h
  | f + 1, j, i, h, o, ho, hall => by
    unfold yaqb at h
    rw [yacg, ho] at h
    obtain ⟨e, he, h3⟩ := List.any_eq_true.1 h
    have he' : e ∈ o.after := by simpa using he
    cases hbe : Region.binds .any e with
    | false => rw [hbe] at h3; cases h3
    | true =>
      rw [hbe] at h3
      have hl := hall e he' hbe
      cases hq : Nat.beq e.on i with
      | true => rw [Nat.eq_of_beq_eq_true hq] at hl; exact hl
      | false =>
        rw [hq] at h3
        simp only [cond] at h3
        cases hlt : Nat.blt i e.on with
        | false => rw [hlt] at h3; cases h3
        | true =>
          rw [hlt] at h3
          cases ho2 : ops[e.on]? with
          | none =>
            cases f with
            | zero => cases h3
            | succ f => unfold yaqb at h3; rw [yacg, ho2] at h3; cases h3
          | some o2 => exact yajd hc f e.on i h3 o2 ho2 (fun e2 he2 hb2 => hc e.on o2 hl ho2 e2 he2 hb2)
theorem yaqg (h : tailB ops k = true) {i : Nat} (hi : i < k) : yaqb ops k k i = true := by
  obtain ⟨h, _⟩ := yaag h
  exact yaat h i (List.mem_range.2 hi)
theorem yaaz {ops : Array Oper} {listed : Array Bool} {i : Nat} : i ∈ Region.ready .any ops listed ↔ listed.getD i true = false ∧ ∃ o, ops[i]? = some o ∧ ∀ e ∈ o.after, Region.binds .any e = true → listed.getD e.on false = true := mem_ready
def UpTo (ops : List Oper) (m : Nat) (L : Array Bool) : Prop := L.size = ops.length ∧ ∀ i, i < ops.length → L[i]? = some (decide (i < m))
theorem UpTo.getD {m i : Nat} {L : Array Bool} (h : UpTo ops m L) (hi : i < ops.length) (b : Bool) : L.getD i b = decide (i < m) := by
  rw [Array.getD_eq_getD_getElem?, h.2 i hi]; rfl
theorem UpTo.ready {m : Nat} {L : Array Bool} (h : UpTo ops m L) (ht : tailB ops k = true) (hk : k ≤ m) (hm : m ≤ ops.length) : ∀ j ∈ Region.ready .any ops.toArray L, j = m ∧ m < ops.length := by
  intro j hj
  obtain ⟨h1, o, ho, h2⟩ := yaaz.1 hj
  have ho' : ops[j]? = some o := by simpa using ho
  have hjl : j < ops.length := by
    rcases Nat.lt_or_ge j ops.length with h | h
    · exact h
    · rw [List.getElem?_eq_none h] at ho'; cases ho'
  rw [h.getD hjl] at h1
  have hmj : m ≤ j := by simpa using h1
  rcases Nat.lt_or_ge m j with hlt | hge
  · obtain ⟨o2, ho2, hw, _⟩ := yahy ht hjl (Nat.le_trans hk hmj)
    obtain rfl : o = o2 := by rw [ho'] at ho2; exact Option.some.inj ho2
    obtain ⟨e, he, hb, hon⟩ := hw (by omega)
    have := h2 e he hb
    rw [hon, h.getD (by omega)] at this
    simp at this
    omega
  · exact ⟨by omega, by omega⟩
theorem UpTo.succ {m : Nat} {L : Array Bool} (h : UpTo ops m L) (hm : m < ops.length) : UpTo ops (m + 1) (L.setIfInBounds m true) := by
  refine ⟨by simp [h.1], fun i hi => ?_⟩
  by_cases e : m = i
  · subst e
    rw [Array.getElem?_setIfInBounds_self, if_pos (by rw [h.1]; exact hm)]
    simp
  · rw [Array.getElem?_setIfInBounds_ne e, h.2 i hi]
    congr 1
    simp
    omega
theorem yalu {Q : Exit → Act → World → Prop} (ht : tailB ops k = true) : ∀ (d m : Nat) (fuel : Nat) (L : Array Bool) (a : Act) (w : World), ops.length - m = d → m ≤ ops.length → k ≤ m → d ≤ fuel → UpTo ops m L →
    wpList P ops.toArray Q (ops.drop m) a w → wpAny P .any ops.toArray Q fuel L a w := by
  intro d
  induction d with
  | zero =>
    intro m fuel L a w hd hm hk hf hL hwp
    have e : ops.drop m = [] := List.drop_eq_nil_of_le (by omega)
    rw [e] at hwp
    have hr : Region.ready .any ops.toArray L = [] := by
      refine List.eq_nil_iff_forall_not_mem.2 fun j hj => ?_
      have := (hL.ready ht hk hm j hj).2
      omega
    cases fuel with
    | zero => exact ⟨hr, hwp⟩
    | succ fuel => exact ⟨fun _ => hwp, fun i hi => by rw [hr] at hi; cases hi⟩
  | succ d ih =>
    intro m fuel L a w hd hm hk hf hL hwp
    obtain ⟨fuel, rfl⟩ : ∃ f, fuel = f + 1 := ⟨fuel - 1, by omega⟩
    have hml : m < ops.length := by omega
    have hdrop : ops.drop m = ops[m] :: ops.drop (m + 1) := List.drop_eq_getElem_cons hml
    rw [hdrop] at hwp
    have hop : ops.toArray[m]? = some ops[m] := by simp [hml]
    have step : wpOp P ops.toArray Q m (wpAny P .any ops.toArray Q fuel (L.setIfInBounds m true)) a w := by
      unfold wpOp
      rw [hop]
      simp only []
      unfold wpList at hwp
      split
      · rename_i hw
        rw [if_pos hw] at hwp
        rcases hwp with hwp | hwp
        · exact .inl (Oper.wp_mono (fun a w h => ih (m + 1) fuel _ a w (by omega) (by omega) (by omega) (by omega) (hL.succ hml) h) hwp)
        · exact .inr hwp
      · rename_i hw
        rw [if_neg hw] at hwp
        exact ih (m + 1) fuel _ _ w (by omega) (by omega) (by omega) (by omega) (hL.succ hml) hwp
    refine ⟨fun h => ?_, fun j hj => ?_⟩
    · exfalso
      have : m ∈ Region.ready .any ops.toArray L := by
        refine yaaz.2 ⟨by rw [hL.getD hml]; simp, ops[m], hop, fun e he hb => ?_⟩
        obtain ⟨o2, ho2, _, hlt⟩ := yahy ht hml hk
        obtain rfl : o2 = ops[m] := by rw [List.getElem?_eq_getElem hml] at ho2; exact (Option.some.inj ho2).symm
        have := hlt e he hb
        rw [hL.getD (by omega)]
        simpa using this
      rw [h] at this
      cases this
    · obtain ⟨rfl, _⟩ := hL.ready ht hk hm j hj
      exact step
structure Both (ops : List Oper) (k : Nat) (L LH : Array Bool) : Prop where
  size : L.size = ops.length
  sizeH : LH.size = k
  same : ∀ i, i < k → L[i]? = LH[i]?
  tail : ∀ i, k ≤ i → i < ops.length → L[i]? = some false
  closed : yalj ops L
theorem Both.getD {L LH : Array Bool} (b : Both ops k L LH) {i : Nat} (hi : i < k) (d : Bool) : L.getD i d = LH.getD i d := by
  rw [Array.getD_eq_getD_getElem?, Array.getD_eq_getD_getElem?, b.same i hi]
theorem Both.set {L LH : Array Bool} (b : Both ops k L LH) {i : Nat} (hi : i < k) (hr : i ∈ Region.ready .any ops.toArray L) : Both ops k (L.setIfInBounds i true) (LH.setIfInBounds i true) where
  size := by simp [b.size]
  sizeH := by simp [b.sizeH]
  same := fun j hj => by
    by_cases e : i = j
    · subst e
      have hk : i < L.size := by
        rcases Nat.lt_or_ge i L.size with h | h
        · exact h
        · have := b.same i hi
          rw [Array.getElem?_eq_none h] at this
          have h2 : i < LH.size := by rw [b.sizeH]; exact hi
          rw [Array.getElem?_eq_getElem h2] at this
          cases this
      rw [Array.getElem?_setIfInBounds_self, Array.getElem?_setIfInBounds_self, if_pos hk, if_pos (by rw [b.sizeH]; exact hi)]
    · rw [Array.getElem?_setIfInBounds_ne e, Array.getElem?_setIfInBounds_ne e]; exact b.same j hj
  tail := fun j hj hl => by rw [Array.getElem?_setIfInBounds_ne (by omega)]; exact b.tail j hj hl
  closed := fun j o hj ho e he hb => by
    have mono : ∀ x, L.getD x false = true → (L.setIfInBounds i true).getD x false = true := by
      intro x hx
      rw [Array.getD_eq_getD_getElem?] at hx ⊢
      by_cases hxi : i = x
      · subst hxi
        rw [Array.getElem?_setIfInBounds_self]
        split
        · rfl
        · rename_i hn
          rw [Array.getElem?_eq_none (by omega)] at hx
          cases hx
      · rw [Array.getElem?_setIfInBounds_ne hxi]; exact hx
    by_cases hji : i = j
    · subst hji
      obtain ⟨_, o2, ho2, h2⟩ := yaaz.1 hr
      have ho' : ops.toArray[i]? = some o := by simpa using ho
      obtain rfl : o = o2 := by rw [ho'] at ho2; exact Option.some.inj ho2
      exact mono _ (h2 e he hb)
    · have : L.getD j false = true := by
        rw [Array.getD_eq_getD_getElem?] at hj ⊢
        rwa [Array.getElem?_setIfInBounds_ne hji] at hj
      exact mono _ (b.closed j o this ho e he hb)
theorem yamp {i : Nat} (hi : i < k) : (ops.take k).toArray[i]? = ops.toArray[i]? := by
  simp [hi]
theorem Both.ready {L LH : Array Bool} (b : Both ops k L LH) (hh : headB ops k = true) (_hk : k ≤ ops.length) {i : Nat} (hi : i < k) :
    i ∈ Region.ready .any ops.toArray L ↔ i ∈ Region.ready .any (ops.take k).toArray LH := by
  rw [yaaz, yaaz, yamp hi, b.getD hi]
  obtain ⟨o, ho, _, he⟩ := yaiq hh hi
  have ho' : ops.toArray[i]? = some o := by simpa using ho
  rw [ho']
  constructor
  · rintro ⟨h1, o', h2, h3⟩
    obtain rfl := Option.some.inj h2
    exact ⟨h1, o, rfl, fun e hm hb => by rw [← b.getD (by have := he e hm hb; omega)]; exact h3 e hm hb⟩
  · rintro ⟨h1, o', h2, h3⟩
    obtain rfl := Option.some.inj h2
    exact ⟨h1, o, rfl, fun e hm hb => by rw [b.getD (by have := he e hm hb; omega)]; exact h3 e hm hb⟩
theorem Both.some_ready {L LH : Array Bool} (b : Both ops k L LH) (hh : headB ops k = true) (_hk : k ≤ ops.length) : ∀ (i : Nat), i < k → L.getD i true = false → ∃ j, j < k ∧ j ∈ Region.ready .any ops.toArray L := by
  intro i
  induction i using Nat.strongRecOn with
  | _ i ih =>
    intro hi hl
    obtain ⟨o, ho, _, he⟩ := yaiq hh hi
    have ho' : ops.toArray[i]? = some o := by simpa using ho
    by_cases hall : ∀ e ∈ o.after, Region.binds .any e = true → L.getD e.on false = true
    · exact ⟨i, hi, yaaz.2 ⟨hl, o, ho', hall⟩⟩
    · have : ∃ e ∈ o.after, Region.binds .any e = true ∧ L.getD e.on false = false := by
        apply Classical.byContradiction
        intro hno
        refine hall fun e hm hb => ?_
        cases hc : L.getD e.on false with
        | true => rfl
        | false => exact absurd ⟨e, hm, hb, hc⟩ hno
      obtain ⟨e, hm, hb, hc⟩ := this
      have hlt := he e hm hb
      refine ih e.on hlt (by omega) ?_
      have hsz : e.on < L.size := by rw [b.size]; omega
      rw [Array.getD_eq_getD_getElem?, Array.getElem?_eq_getElem hsz] at hc ⊢
      exact hc
theorem Both.no_tail {L LH : Array Bool} (b : Both ops k L LH) (ht : tailB ops k = true) {i j : Nat} (hi : i < k) (hl : L.getD i true = false) (hj : j ∈ Region.ready .any ops.toArray L) : j < k := by
  rcases Nat.lt_or_ge j k with h | h
  · exact h
  · exfalso
    obtain ⟨_, o, ho, h2⟩ := yaaz.1 hj
    have ho' : ops[j]? = some o := by simpa using ho
    have hjl : j < ops.length := by
      rcases Nat.lt_or_ge j ops.length with h | h
      · exact h
      · rw [List.getElem?_eq_none h] at ho'; cases ho'
    obtain ⟨o2, ho2, hw, _⟩ := yahy ht hjl h
    obtain rfl : o = o2 := by rw [ho'] at ho2; exact Option.some.inj ho2
    rcases Nat.lt_or_ge k j with hlt | hge
    · obtain ⟨e, he, hb, hon⟩ := hw hlt
      have h3 := h2 e he hb
      rw [hon, Array.getD_eq_getD_getElem?, b.tail (j - 1) (by omega) (by omega)] at h3
      cases h3
    · have hjk : j = k := by omega
      subst hjk
      have h3 := yajd b.closed _ _ _ (yaqg ht hi) o ho' h2
      have hsz : i < L.size := by rw [b.size]; omega
      rw [Array.getD_eq_getD_getElem?, Array.getElem?_eq_getElem hsz] at h3 hl
      simp at h3 hl
      rw [h3] at hl
      cases hl
theorem Both.upTo {L LH : Array Bool} (b : Both ops k L LH) (hall : ∀ i, i < k → L.getD i true = true) : UpTo ops k L := by
  refine ⟨b.size, fun i hi => ?_⟩
  rcases Nat.lt_or_ge i k with h | h
  · have hsz : i < L.size := by rw [b.size]; omega
    have := hall i h
    rw [Array.getD_eq_getD_getElem?, Array.getElem?_eq_getElem hsz] at this
    rw [Array.getElem?_eq_getElem hsz]
    simp at this
    rw [this]
    simp [h]
  · rw [b.tail i h hi]
    congr 1
    simp
    omega
theorem yazm {C : World → Prop} (hh : headB ops k = true) (_hk : k ≤ ops.length) {i : Nat} (hi : i < k) {K : Act → Prop} {a : Act} (h : qOp P (ops.take k).toArray C i K a) : qOp P ops.toArray C i K a := by
  obtain ⟨o, ho, hg, _⟩ := yaiq hh hi
  have ho' : ops.toArray[i]? = some o := by simpa using ho
  unfold qOp at h ⊢
  rw [yamp hi, ho'] at h
  rw [ho']
  simp only [] at h ⊢
  have hw : Region.wanted o (yielded (ops.take k).toArray a.tmps) = Region.wanted o (yielded ops.toArray a.tmps) := by
    unfold Region.wanted
    cases hgd : o.guard with
    | none => rfl
    | some gb =>
      obtain ⟨g, bb⟩ := gb
      simp only [yielded, yamp (hg g bb hgd)]
  rw [hw] at h
  exact h
theorem yars {C : World → Prop} {Q' : Exit → Act → World → Prop} {Q : Act → Prop} (hh : headB ops k = true) (ht : tailB ops k = true) (hk : k ≤ ops.length)
    (hQ : ∀ a w, C w → Q a → wpList P ops.toArray Q' (ops.drop k) a w) : ∀ (f : Nat) (g : Nat) (L LH : Array Bool) (a : Act) (w : World), ops.length - k ≤ g → C w → Both ops k L LH →
    wpAnyQ P .any (ops.take k).toArray C Q f LH a → wpAny P .any ops.toArray Q' (f + g) L a w := by
  intro f
  induction f with
  | zero =>
    intro g L LH a w hg hw b h
    obtain ⟨hr, hq⟩ := h
    have hall : ∀ i, i < k → L.getD i true = true := by
      intro i hi
      cases hc : L.getD i true with
      | true => rfl
      | false =>
        obtain ⟨j, hj, hjr⟩ := b.some_ready hh hk i hi hc
        rw [b.ready hh hk hj, hr] at hjr
        cases hjr
    rw [Nat.zero_add]
    exact yalu ht _ k g L a w rfl hk (Nat.le_refl _) hg (b.upTo hall) (hQ a w hw hq)
  | succ f ih =>
    intro g L LH a w hg hw b h
    obtain ⟨h0, h1⟩ := h
    by_cases hall : ∀ i, i < k → L.getD i true = true
    · have hr : Region.ready .any (ops.take k).toArray LH = [] := by
        refine List.eq_nil_iff_forall_not_mem.2 fun j hj => ?_
        have hjk : j < k := by
          obtain ⟨_, o, ho, _⟩ := yaaz.1 hj
          rcases Nat.lt_or_ge j k with h | h
          · exact h
          · rw [Array.getElem?_eq_none (by simp; omega)] at ho; cases ho
        have h2 := (yaaz.1 hj).1
        rw [← b.getD hjk, hall j hjk] at h2
        cases h2
      exact yalu ht _ k _ L a w rfl hk (Nat.le_refl _) (by omega) (b.upTo hall) (hQ a w hw (h0 hr))
    · have hex : ∃ i, i < k ∧ L.getD i true = false := by
        apply Classical.byContradiction
        intro hno
        refine hall fun i hi => ?_
        cases hc : L.getD i true with
        | true => rfl
        | false => exact absurd ⟨i, hi, hc⟩ hno
      obtain ⟨i, hi, hl⟩ := hex
      rw [show f + 1 + g = (f + g) + 1 by omega]
      refine ⟨fun hr => ?_, fun j hj => ?_⟩
      · obtain ⟨j, _, hjr⟩ := b.some_ready hh hk i hi hl
        rw [hr] at hjr
        cases hjr
      · have hjk := b.no_tail ht hi hl hj
        have hq := h1 j ((b.ready hh hk hjk).1 hj)
        exact wpOp_of_qOp hw (fun a' w' hw' hK => ih g _ _ a' w' hg hw' (b.set hjk hj) hK) (yazm hh hk hjk hq)
theorem yaex {id : Nat} {C : World → Prop} {Q : Exit → Act → World → Prop} {a : Act} {w : World} (hm : P.follows .mixedOrders = true) (hC : C { w with drawn := w.drawn + 1 })
    (hh : headB ops k = true) (ht : tailB ops k = true) (hk : k ≤ ops.length) (hB : Region.lexB .any (ops.take k).toArray = true)
    (h : wpQuiet P (ops.take k).toArray C (fun a' => ∀ w', C w' → wpList P ops.toArray Q (ops.drop k) a' w') (ops.take k) a) : (Code.region id ops.toArray true).wp P Q a w := by
  simp only [Region.lexB, Bool.and_eq_true] at hB
  have h1 := wpAnyQ_lex (C := C) (md := .any) hB.1 (ops.take k) 0 (Array.replicate (ops.take k).toArray.size false) a (by simp) (by simpa using hB.2) h
  refine wp_region_any hm ?_
  have h2 := yars (Q := fun a' => ∀ w', C w' → wpList P ops.toArray Q (ops.drop k) a' w') hh ht hk (fun a w hw hq => hq w hw) _ (ops.length - k) (Array.replicate ops.toArray.size false) _ a
    { w with drawn := w.drawn + 1 } (Nat.le_refl _) hC ?_ h1
  · have e : (ops.take k).length + (ops.length - k) = ops.toArray.size := by simp; omega
    rw [e] at h2
    exact h2
  · refine ⟨by simp, by simp; omega, fun i hi => ?_, fun i hi hl => ?_, fun i o hi => ?_⟩
    · rw [Array.getElem?_eq_getElem (by simp; omega), Array.getElem?_eq_getElem (by simp; omega)]; simp
    · rw [Array.getElem?_eq_getElem (by simpa using hl)]; simp
    · rw [Array.getD_eq_getD_getElem?] at hi
      cases hg : (Array.replicate ops.toArray.size false)[i]? with
      | none => rw [hg] at hi; cases hi
      | some b =>
        rw [Array.getElem?_replicate] at hg
        split at hg
        · obtain rfl := Option.some.inj hg
          rw [Array.getElem?_replicate] at hi
          simp_all
        · cases hg
end
end Go.Sx
