/- The heap's predicate transformer: what a tree of the model's operations asks of a heap. -/
import Derived.Calls
import Derived.Deep.Quiet
import Derived.StillTail
import Derived.Below
namespace Go.Sx
open Go

abbrev Hp := Array Obj

def cell (h : Hp) (a : Addr) : Option Value :=
  match h[a.block]? with
  | some (.cells c _ _) => if a.spot.isSome then none else c[a.off]?
  | _ => none

def frozenH (h : Hp) (a : Addr) : Bool :=
  match h[a.block]? with
  | some (.cells _ _ (lo, hi)) => lo ≤ a.off && a.off < hi
  | _ => false

def shapeH (h : Hp) (r : Nat) : Option (TypeId × Nat) :=
  match h[r]? with
  | some (.cells c elem _) => some (elem, c.size)
  | _ => none

def setH (h : Hp) (a : Addr) (v : Value) : Hp :=
  h.modify a.block fun
    | .cells c elem frozen => .cells (if a.spot.isSome then c else c.setIfInBounds a.off v) elem frozen
    | o => o

def freezeH (h : Hp) (a : Addr) (n : Nat) : Hp :=
  if n = 0 then h else
  h.modify a.block fun
    | .cells c elem (lo, hi) => .cells c elem (if lo == hi then (a.off, a.off + n) else (min lo a.off, max hi (a.off + n)))
    | o => o

theorem cell_eq (w : World) (a : Addr) : w.cell? a = cell w.heap a := rfl
theorem frozen_eq (w : World) (a : Addr) : w.frozen? a = frozenH w.heap a := rfl
theorem shape_eq (w : World) (r : Nat) : w.shape? r = shapeH w.heap r := rfl
theorem setCell_heap (w : World) (a : Addr) (v : Value) : (w.setCell a v).heap = setH w.heap a v := rfl
theorem freeze_heap (w : World) (a : Addr) (n : Nat) : (w.freeze a n).heap = freezeH w.heap a n := by
  unfold World.freeze freezeH; split <;> rfl

/-- The streams and the tape are as they were. -/
structure Same (w w' : World) : Prop where
  os : w'.os = w.os
  tape : w'.tape = w.tape
  output : w'.output = w.output

theorem Same.refl (w : World) : Same w w := ⟨rfl, rfl, rfl⟩
theorem Same.trans {a b c : World} (h : Same a b) (k : Same b c) : Same a c :=
  ⟨k.os.trans h.os, k.tape.trans h.tape, k.output.trans h.output⟩

/-- A cell may be written. -/
def Writable (h : Hp) (a : Addr) : Prop := (cell h a).isSome = true ∧ frozenH h a = false

def scalar : Value → Bool
  | .agg _ | .tuple _ => false
  | _ => true

section
variable (P : Program)

/-- Quiet: reads alone. -/
def hq {α : Type} : Sem α → Hp → (α → Prop) → Prop
  | .pure a, _, K => K a
  | .load _ a k, h, K => ∃ v, cell h a = some v ∧ hq (k v) h K
  | .shape r k, h, K => hq (k (shapeH h r)) h K
  | .frozen a k, h, K => hq (k (frozenH h a)) h K
  | .program k, h, K => hq (k P) h K
  | .mark _ k, h, K => hq k h K
  | .store _ _ _ _, _, _ | .new _ _, _, _ | .freeze _ _ _, _, _ | .getObj _ _, _, _ | .setObj _ _ _, _, _ | .choose _ _, _, _ | .sys _ _, _, _ | .halt _, _, _ => False

def hw {α : Type} : Sem α → Hp → (α → Hp → Prop) → Prop
  | .pure a, h, K => K a h
  | .load _ a k, h, K => ∃ v, cell h a = some v ∧ hw (k v) h K
  | .store _ a v k, h, K => scalar v = true ∧ Writable h a ∧ hw k (setH h a v) K
  | .new o k, h, K => hw (k h.size) (h.push o) K
  | .shape r k, h, K => hw (k (shapeH h r)) h K
  | .freeze a n k, h, K => hw k (freezeH h a n) K
  | .frozen a k, h, K => hw (k (frozenH h a)) h K
  | .choose q k, h, K => ∀ t, hw (k (if q.forced then 0 else q.cut t)) h K
  | .program k, h, K => hw (k P) h K
  | .mark _ k, h, K => hw k h K
  | .getObj _ _, _, _ | .setObj _ _ _, _, _ | .sys _ _, _, _ | .halt _, _, _ => False

variable {P}

theorem hq_run {α : Type} : ∀ (s : Sem α) (h : Hp) (K : α → Prop), hq P s h K → ∃ a, K a ∧ ∀ w : World, w.heap = h → s.run P w = .ok a w := by
  intro s
  induction s with
  | pure a => intro h K hk; exact ⟨a, hk, fun w _ => rfl⟩
  | load m a k ih =>
    intro h K hk
    obtain ⟨v, hv, hk⟩ := hk
    obtain ⟨b, hb, hr⟩ := ih v h K hk
    refine ⟨b, hb, fun w hw => ?_⟩
    have : w.cell? a = some v := by rw [cell_eq, hw]; exact hv
    simp only [Sem.run, this]
    exact hr w hw
  | shape r k ih =>
    intro h K hk
    obtain ⟨b, hb, hr⟩ := ih _ h K hk
    refine ⟨b, hb, fun w hw => ?_⟩
    simp only [Sem.run, shape_eq, hw]
    exact hr w hw
  | frozen a k ih =>
    intro h K hk
    obtain ⟨b, hb, hr⟩ := ih _ h K hk
    refine ⟨b, hb, fun w hw => ?_⟩
    simp only [Sem.run, frozen_eq, hw]
    exact hr w hw
  | program k ih => intro h K hk; exact ih P h K hk
  | mark m k ih => intro h K hk; exact ih h K hk
  | _ => intro h K hk; exact hk.elim

theorem hq_mono {α : Type} : ∀ (s : Sem α) (h : Hp) (K K' : α → Prop), (∀ a, K a → K' a) → hq P s h K → hq P s h K' := by
  intro s
  induction s with
  | pure a => intro h K K' hm hk; exact hm _ hk
  | load m a k ih => intro h K K' hm hk; obtain ⟨v, hv, hk⟩ := hk; exact ⟨v, hv, ih v h K K' hm hk⟩
  | shape r k ih => intro h K K' hm hk; exact ih _ h K K' hm hk
  | frozen a k ih => intro h K K' hm hk; exact ih _ h K K' hm hk
  | program k ih => intro h K K' hm hk; exact ih P h K K' hm hk
  | mark m k ih => intro h K K' hm hk; exact ih h K K' hm hk
  | _ => intro h K K' hm hk; exact hk.elim

theorem hw_of_hq {α : Type} : ∀ (s : Sem α) (h : Hp) (K : α → Hp → Prop), hq P s h (fun a => K a h) → hw P s h K := by
  intro s
  induction s with
  | pure a => intro h K hk; exact hk
  | load m a k ih => intro h K hk; obtain ⟨v, hv, hk⟩ := hk; exact ⟨v, hv, ih v h K hk⟩
  | shape r k ih => intro h K hk; exact ih _ h K hk
  | frozen a k ih => intro h K hk; exact ih _ h K hk
  | program k ih => intro h K hk; exact ih P h K hk
  | mark m k ih => intro h K hk; exact ih h K hk
  | _ => intro h K hk; exact hk.elim

theorem hw_run {α : Type} : ∀ (s : Sem α) (h : Hp) (K : α → Hp → Prop), hw P s h K → ∀ w : World, w.heap = h → ∃ a w', s.run P w = .ok a w' ∧ Same w w' ∧ K a w'.heap := by
  intro s
  induction s with
  | pure a => intro h K hk w hw; exact ⟨a, w, rfl, Same.refl w, by rw [hw]; exact hk⟩
  | load m a k ih =>
    intro h K hk w hw
    obtain ⟨v, hv, hk⟩ := hk
    obtain ⟨b, w', hr, hs, hb⟩ := ih v h K hk w hw
    have : w.cell? a = some v := by rw [cell_eq, hw]; exact hv
    refine ⟨b, w', ?_, hs, hb⟩
    simp only [Sem.run, this]
    exact hr
  | store m a v k ih =>
    intro h K hk w hw
    obtain ⟨hsc, ⟨hc, hf⟩, hk⟩ := hk
    obtain ⟨b, w', hr, hs, hb⟩ := ih (setH h a v) K hk (w.setCell a v) (by rw [setCell_heap, hw])
    refine ⟨b, w', ?_, ⟨hs.os, hs.tape, hs.output⟩, hb⟩
    obtain ⟨u, hu⟩ := Option.isSome_iff_exists.1 hc
    have h1 : w.cell? a = some u := by rw [cell_eq, hw]; exact hu
    have h2 : w.frozen? a = false := by rw [frozen_eq, hw]; exact hf
    cases v <;> first | (cases hsc; done) | (simp only [Sem.run, h1, h2]; exact hr)
  | new o k ih =>
    intro h K hk w hw
    obtain ⟨b, w', hr, hs, hb⟩ := ih h.size (h.push o) K hk { w with heap := w.heap.push o } (by simp [hw])
    exact ⟨b, w', by simp only [Sem.run, hw]; rw [hw] at hr; exact hr, ⟨hs.os, hs.tape, hs.output⟩, hb⟩
  | shape r k ih =>
    intro h K hk w hw
    obtain ⟨b, w', hr, hs, hb⟩ := ih _ h K hk w hw
    exact ⟨b, w', by simp only [Sem.run, shape_eq, hw]; exact hr, hs, hb⟩
  | freeze a n k ih =>
    intro h K hk w hw
    obtain ⟨b, w', hr, hs, hb⟩ := ih (freezeH h a n) K hk (w.freeze a n) (by rw [freeze_heap, hw])
    refine ⟨b, w', hr, ?_, hb⟩
    refine Same.trans ?_ hs
    unfold World.freeze; split
    · exact Same.refl w
    · exact ⟨rfl, rfl, rfl⟩
  | frozen a k ih =>
    intro h K hk w hw
    obtain ⟨b, w', hr, hs, hb⟩ := ih _ h K hk w hw
    exact ⟨b, w', by simp only [Sem.run, frozen_eq, hw]; exact hr, hs, hb⟩
  | choose q k ih =>
    intro h K hk w hw
    simp only [Sem.run]
    by_cases hq : q.forced = true
    · have h0 := hk 0
      rw [if_pos hq] at h0 ⊢
      exact ih 0 h K h0 w hw
    · have h0 := hk (w.tape w.drawn q)
      rw [if_neg hq] at h0 ⊢
      obtain ⟨b, w', hr, hs, hb⟩ := ih _ h K h0 { w with drawn := w.drawn + 1 } hw
      exact ⟨b, w', hr, ⟨hs.os, hs.tape, hs.output⟩, hb⟩
  | program k ih => intro h K hk w hw; exact ih P h K hk w hw
  | mark m k ih => intro h K hk w hw; exact ih h K hk w hw
  | _ => intro h K hk; exact hk.elim

theorem hw_mono {α : Type} : ∀ (s : Sem α) (h : Hp) (K K' : α → Hp → Prop), (∀ a h, K a h → K' a h) → hw P s h K → hw P s h K' := by
  intro s
  induction s with
  | pure a => intro h K K' hm hk; exact hm _ _ hk
  | load m a k ih => intro h K K' hm hk; obtain ⟨v, hv, hk⟩ := hk; exact ⟨v, hv, ih v h K K' hm hk⟩
  | store m a v k ih => intro h K K' hm hk; exact ⟨hk.1, hk.2.1, ih _ K K' hm hk.2.2⟩
  | new o k ih => intro h K K' hm hk; exact ih _ _ K K' hm hk
  | shape r k ih => intro h K K' hm hk; exact ih _ h K K' hm hk
  | freeze a n k ih => intro h K K' hm hk; exact ih _ K K' hm hk
  | frozen a k ih => intro h K K' hm hk; exact ih _ h K K' hm hk
  | choose q k ih => intro h K K' hm hk t; exact ih _ h K K' hm (hk t)
  | program k ih => intro h K K' hm hk; exact ih P h K K' hm hk
  | mark m k ih => intro h K K' hm hk; exact ih h K K' hm hk
  | _ => intro h K K' hm hk; exact hk.elim

theorem hq_bind {α β : Type} (s : Sem α) (f : α → Sem β) : ∀ (h : Hp) (K : β → Prop), hq P (s.bind f) h K = hq P s h (fun a => hq P (f a) h K) := by
  induction s with
  | pure a => intro h K; rfl
  | load m a k ih => intro h K; simp only [Sem.bind, hq, ih]
  | shape r k ih => intro h K; simp only [Sem.bind, hq, ih]
  | frozen a k ih => intro h K; simp only [Sem.bind, hq, ih]
  | program k ih => intro h K; simp only [Sem.bind, hq, ih]
  | mark m k ih => intro h K; simp only [Sem.bind, hq, ih]
  | _ => intro h K; simp only [Sem.bind, hq]

theorem hw_bind {α β : Type} (s : Sem α) (f : α → Sem β) : ∀ (h : Hp) (K : β → Hp → Prop), hw P (s.bind f) h K = hw P s h (fun a h => hw P (f a) h K) := by
  induction s with
  | pure a => intro h K; rfl
  | load m a k ih => intro h K; simp only [Sem.bind, hw, ih]
  | store m a v k ih => intro h K; simp only [Sem.bind, hw, ih]
  | new o k ih => intro h K; simp only [Sem.bind, hw, ih]
  | shape r k ih => intro h K; simp only [Sem.bind, hw, ih]
  | freeze a n k ih => intro h K; simp only [Sem.bind, hw, ih]
  | frozen a k ih => intro h K; simp only [Sem.bind, hw, ih]
  | choose q k ih => intro h K; simp only [Sem.bind, hw, ih]
  | program k ih => intro h K; simp only [Sem.bind, hw, ih]
  | mark m k ih => intro h K; simp only [Sem.bind, hw, ih]
  | _ => intro h K; simp only [Sem.bind, hw]

theorem hq_bind' {α β : Type} (s : Sem α) (f : α → Sem β) (h : Hp) (K : β → Prop) : hq P (s >>= f) h K = hq P s h (fun a => hq P (f a) h K) := hq_bind s f h K
theorem hw_bind' {α β : Type} (s : Sem α) (f : α → Sem β) (h : Hp) (K : β → Hp → Prop) : hw P (s >>= f) h K = hw P s h (fun a h => hw P (f a) h K) := hw_bind s f h K
theorem hq_pure' {α : Type} (a : α) (h : Hp) (K : α → Prop) : hq P (pure a : Sem α) h K = K a := rfl
theorem hw_pure' {α : Type} (a : α) (h : Hp) (K : α → Hp → Prop) : hw P (pure a : Sem α) h K = K a h := rfl
theorem hq_underlying (t : TypeId) (h : Hp) (K : TypeDesc → Prop) : hq P (underlying t) h K = (match P.underlying t with | some d => K d | none => False) := by
  unfold underlying program
  rw [hq_bind']
  simp only [hq]
  cases P.underlying t <;> rfl
theorem hw_underlying (t : TypeId) (h : Hp) (K : TypeDesc → Hp → Prop) : hw P (underlying t) h K = (match P.underlying t with | some d => K d h | none => False) := by
  unfold underlying program
  rw [hw_bind']
  simp only [hw]
  cases P.underlying t <;> rfl
theorem hq_typeInfo (t : TypeId) (h : Hp) (K : TypeInfo → Prop) : hq P (typeInfo t) h K = (match P.info? t with | some d => K d | none => False) := by
  unfold typeInfo program
  rw [hq_bind']
  simp only [hq]
  cases P.info? t <;> rfl
theorem hw_typeInfo (t : TypeId) (h : Hp) (K : TypeInfo → Hp → Prop) : hw P (typeInfo t) h K = (match P.info? t with | some d => K d h | none => False) := by
  unfold typeInfo program
  rw [hw_bind']
  simp only [hw]
  cases P.info? t <;> rfl

/-- A call: it returns, in whatever world has this heap. -/
def HCalls (P : Program) (f : FuncId) (args : Array Value) (h : Hp) (K : Value → Hp → Prop) : Prop :=
  ∀ w : World, w.heap = h → Calls P f args w fun e w' => ∃ v, e = .returned v ∧ Same w w' ∧ K v w'.heap

theorem HCalls.mono {f : FuncId} {args : Array Value} {h : Hp} {K K' : Value → Hp → Prop} (hc : HCalls P f args h K) (hm : ∀ v h, K v h → K' v h) : HCalls P f args h K' :=
  fun w hw => (hc w hw).mono fun _ _ ⟨v, he, hs, hk⟩ => ⟨v, he, hs, hm _ _ hk⟩
end
end Go.Sx
