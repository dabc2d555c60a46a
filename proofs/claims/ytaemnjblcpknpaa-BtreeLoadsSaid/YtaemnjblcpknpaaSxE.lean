/- Environments, regions. -/
import Derived.Test.YtaemnjblcpknpaaSxD
namespace Go.Sx
open Go

abbrev Env := List (Nat × Value)
abbrev look : Env → Nat → Option Value
  | [], _ => none
  | (j, v) :: r, i => cond (Nat.beq j i) (some v) (look r i)
abbrev ev (env : Env) : Operand → Value
  | .tmp t => (match look env t with | some v => v | none => undef)
  | .const v => v
  | .global g => .pointer (some ⟨g, 0, none⟩)
  | .func f => .func (.func f) #[] #[]
abbrev optL {α : Type} : Option α → List α | some x => [x] | none => []
abbrev opdsCall (c : Call) : List Operand := (match c.callee with | .value f => [f] | .invoke r _ => [r] | .builtin _ => []) ++ c.args.toList
abbrev opds : Op → List Operand
  | .alloc _ | .ready _ | .waits _ => []
  | .move x | .assign x | .box _ x | .load _ x | .nilCheck x | .unOp _ _ x | .convert _ _ x | .sliceToArrayPointer _ x | .makeInterface _ x
  | .makeChan _ x | .fieldAddr _ x _ | .field _ x _ | .range _ x | .next x _ | .entry x | .typeAssert x _ _ _ | .extract x _ | .panic x | .recv _ x _ => [x]
  | .pick c a b => [c, a, b]
  | .build _ ps | .buildSlice _ _ ps => ps.toList.map (·.2)
  | .store _ a v | .binOp _ _ a v _ | .makeSlice _ a v | .indexAddr _ a v | .index _ a v | .lookup _ a v _ | .mapEntry _ a v | .send a v => [a, v]
  | .makeFunc _ first captured => first.toList ++ captured.toList
  | .makeMap _ r => optL r
  | .slice _ x l h m => x :: (optL l ++ (optL h ++ optL m))
  | .mapUpdate _ m k v | .entryStore _ m k v | .insert _ m k v => [m, k, v]
  | .call c | .go c | .defer c => opdsCall c
  | .select _ _ => []
abbrev knownX (env : Env) : Operand → Bool
  | .tmp t => (match look env t with | some _ => true | none => false)
  | _ => true
abbrev isSelect : Op → Bool | .select _ _ => true | _ => false
abbrev allL {α : Type} (p : α → Bool) : List α → Bool
  | [] => true
  | x :: r => cond (p x) (allL p r) false
abbrev known (env : Env) (op : Op) : Bool := cond (isSelect op) false (allL (knownX env) (opds op))

theorem allL_spec {α : Type} {p : α → Bool} : ∀ {l : List α}, allL p l = true → ∀ x ∈ l, p x = true
  | [], _, x, hx => by cases hx
  | y :: r, h, x, hx => by
    unfold allL at h
    cases hp : p y with
    | false => rw [hp] at h; cases h
    | true =>
      rw [hp] at h
      cases hx with
      | head => exact hp
      | tail _ hx => exact allL_spec h x hx

theorem opds_mem (op : Op) (hs : isSelect op = false) (x : Operand) (h : x ∈ op.operands) : x ∈ opds op := by
  cases op <;> simp only [Op.operands, opds] at h ⊢ <;> first | (simp at h; done) | (simpa using h; done) | skip
  case select => cases hs
  case makeMap t r => cases r <;> simp_all [optL]
  case slice t x lo hi m => cases lo <;> cases hi <;> cases m <;> simp_all [optL]
  all_goals
    rename_i c
    simp only [Call.operands, opdsCall] at h ⊢
    cases hc : c.callee <;> simp_all

/-- What is known of a frame. -/
structure Mdl (n : Nat) (env : Env) (a : Act) : Prop where
  size : a.tmps.size = n
  defers : a.defers = []
  get : ∀ i v, look env i = some v → a.tmps[i]? = some v

theorem look_cons (d : Nat) (v : Value) (env : Env) (i : Nat) : look ((d, v) :: env) i = if d = i then some v else look env i := by
  show (cond (Nat.beq d i) (some v) (look env i)) = _
  by_cases h : d = i
  · subst h; simp
  · have : Nat.beq d i = false := by cases hb : Nat.beq d i with | false => rfl | true => exact absurd (Nat.eq_of_beq_eq_true hb) h
    rw [this, if_neg h]; rfl

theorem Mdl.put {n : Nat} {env : Env} {a : Act} (m : Mdl n env a) {d : Nat} (hd : d < n) (v : Value) : Mdl n ((d, v) :: env) (a.put (some d) v) where
  size := by simp [Act.put, m.size]
  defers := m.defers
  get := fun i u hu => by
    rw [look_cons] at hu
    simp only [Act.put]
    split at hu
    · rename_i h
      subst h
      obtain rfl : v = u := Option.some.inj hu
      rw [Array.getElem?_setIfInBounds_self]
      rw [if_pos (by rw [m.size]; exact hd)]
    · rename_i h
      rw [Array.getElem?_setIfInBounds_ne h]
      exact m.get i u hu

theorem Mdl.ev {n : Nat} {env : Env} {a : Act} (m : Mdl n env a) {x : Operand} (hx : knownX env x = true) : a.eval x = Sx.ev env x := by
  cases x with
  | tmp t =>
    simp only [knownX] at hx
    simp only [Act.eval, Sx.ev]
    cases hl : look env t with
    | none => rw [hl] at hx; cases hx
    | some v => simp [Array.getD_eq_getD_getElem?, m.get t v hl]
  | _ => rfl

theorem Mdl.execOp {n : Nat} {env : Env} {a : Act} (m : Mdl n env a) {o : Oper} (hk : known env o.op = true) : Go.execOp a.eval o = Go.execOp (Sx.ev env) o := by
  unfold known at hk
  have hs : isSelect o.op = false := by cases h : isSelect o.op with | false => rfl | true => rw [h] at hk; cases hk
  rw [hs] at hk
  refine execOp_congr o (fun cs b he => by rw [he] at hs; cases hs) fun x hx => m.ev (allL_spec hk x (opds_mem _ hs x hx))

/-- Slots outside a list are as they were. -/
def Keeps (ws : List Nat) (a a' : Act) : Prop := ∀ i, i ∉ ws → a'.tmps[i]? = a.tmps[i]?
theorem Keeps.refl (ws : List Nat) (a : Act) : Keeps ws a a := fun _ _ => rfl
theorem Keeps.trans {ws : List Nat} {a b c : Act} (h : Keeps ws a b) (k : Keeps ws b c) : Keeps ws a c := fun i hi => (k i hi).trans (h i hi)
theorem Keeps.mono {ws ws' : List Nat} {a b : Act} (h : Keeps ws a b) (hs : ∀ i, i ∈ ws → i ∈ ws') : Keeps ws' a b := fun i hi => h i fun hm => hi (hs i hm)
theorem Keeps.put {ws : List Nat} {dst : Option Nat} (a : Act) (v : Value) (h : ∀ d, dst = some d → d ∈ ws) : Keeps ws a (a.put dst v) := fun i hi => by
  cases dst with
  | none => rfl
  | some d =>
    have hne : d ≠ i := fun e => hi (e ▸ h d rfl)
    simp only [Act.put]
    exact Array.getElem?_setIfInBounds_ne hne

abbrev putE (n : Nat) (dst : Option Nat) (v : Value) (env : Env) (k : Env → Prop) : Prop :=
  match dst with
  | none => k env
  | some d => chk (Nat.blt d n) (k ((d, v) :: env))

theorem putE_spec {n : Nat} {dst : Option Nat} {v : Value} {env : Env} {k : Env → Prop} {a : Act} (m : Mdl n env a) (h : putE n dst v env k) : ∃ env', Mdl n env' (a.put dst v) ∧ k env' := by
  cases dst with
  | none => exact ⟨env, m, h⟩
  | some d =>
    obtain ⟨hd, h⟩ := cond_true_of h
    have hd : d < n := Nat.le_of_ble_eq_true hd
    exact ⟨_, m.put hd v, h⟩

abbrev dstOf : Oper → Option Nat | o => o.dst
/-- A guarded operation: whether it runs. -/
abbrev guardV (all : List Oper) (env : Env) (g : Option (Nat × Bool)) (yes no : Env → Prop) : Prop :=
  match g with
  | none => yes env
  | some (j, want) => (match nth all j with
    | some o => (match o.dst with
      | some d => (match look env d with
        | some (.bool b) => (match want with | true => (match b with | true => yes ((d, .bool true) :: env) | false => no ((d, .bool false) :: env)) | false => (match b with | true => no ((d, .bool true) :: env) | false => yes ((d, .bool false) :: env)))
        | some (.tuple _) => no env
        | _ => False)
      | none => no env)
    | none => no env)

theorem Mdl.same {n : Nat} {env : Env} {a : Act} (m : Mdl n env a) {d : Nat} {v : Value} (h : a.tmps[d]? = some v) : Mdl n ((d, v) :: env) a where
  size := m.size
  defers := m.defers
  get := fun i u hu => by
    rw [look_cons] at hu
    split at hu
    · rename_i hd; subst hd; obtain rfl : v = u := Option.some.inj hu; exact h
    · exact m.get i u hu

theorem guardV_spec {n : Nat} {all : List Oper} {env : Env} {o : Oper} {yes no : Env → Prop} {a : Act} (m : Mdl n env a) (h : guardV all env o.guard yes no) :
    (Region.wanted o (yielded all.toArray a.tmps) = true ∧ ∃ env', Mdl n env' a ∧ yes env') ∨ (Region.wanted o (yielded all.toArray a.tmps) = false ∧ ∃ env', Mdl n env' a ∧ no env') := by
  unfold guardV at h
  unfold Region.wanted
  split at h
  · rename_i hg; rw [hg]; exact .inl ⟨rfl, env, m, h⟩
  · rename_i j want hg
    simp only [hg]
    have hy : ∀ d, (nth all j).bind (·.dst) = some d → yielded all.toArray a.tmps j = (match a.tmps[d]? with | some (.bool b) => some b | _ => none) := by
      intro d hd
      rw [nth_eq] at hd
      unfold yielded
      have : (all.toArray[j]?).bind (·.dst) = some d := by simpa using hd
      rw [this]
      rfl
    have hy0 : (nth all j).bind (·.dst) = none → yielded all.toArray a.tmps j = none := by
      intro hd
      rw [nth_eq] at hd
      unfold yielded
      have : (all.toArray[j]?).bind (·.dst) = none := by simpa using hd
      rw [this]
      rfl
    split at h
    · rename_i oj hoj
      split at h
      · rename_i d hd
        have hyd := hy d (by rw [hoj]; exact hd)
        split at h
        · rename_i b hb
          have hget := m.get d _ hb
          rw [hget] at hyd
          simp only [] at hyd
          rw [hyd]
          cases want <;> cases b <;> simp only [] at h
          · exact .inl ⟨rfl, _, m.same hget, h⟩
          · exact .inr ⟨rfl, _, m.same hget, h⟩
          · exact .inr ⟨rfl, _, m.same hget, h⟩
          · exact .inl ⟨rfl, _, m.same hget, h⟩
        · rename_i vs hb
          have hget := m.get d _ hb
          rw [hget] at hyd
          simp only [] at hyd
          rw [hyd]
          exact .inr ⟨rfl, env, m, h⟩
        · exact h.elim
      · rename_i hd
        rw [hy0 (by rw [hoj]; exact hd)]
        exact .inr ⟨rfl, env, m, h⟩
    · rename_i hoj
      rw [hy0 (by rw [hoj]; rfl)]
      exact .inr ⟨rfl, env, m, h⟩

abbrev sxOps (P : Program) (F : Nat → Bool) (n : Nat) (all : List Oper) : List Oper → Env → Hp → (Env → Hp → Prop) → Prop
  | [], env, h, K => K env h
  | o :: r, env, h, K => guardV all env o.guard
      (fun env => chk (known env o.op) (ot P F o.op o.type (ev env) h fun v h => putE n o.dst v env fun env => sxOps P F n all r env h K))
      (fun env => putE n o.dst undef env fun env => sxOps P F n all r env h K)

def writesOps : List Oper → List Nat
  | [] => []
  | o :: r => optL o.dst ++ writesOps r

/-- The exits, the environment at each. -/
def Post (n : Nat) (ws : List Nat) (a : Act) (w : World) (K : Exit → Env → Hp → Prop) : Exit → Act → World → Prop := fun e a' w' =>
  ∃ env', Mdl n env' a' ∧ Same w w' ∧ Keeps ws a a' ∧ K e env' w'.heap

theorem Post.step {n : Nat} {ws : List Nat} {a b : Act} {w u : World} {K : Exit → Env → Hp → Prop} {e : Exit} {a' : Act} {w' : World} (hs : Same w u) (hk : Keeps ws a b) (h : Post n ws b u K e a' w') : Post n ws a w K e a' w' := by
  obtain ⟨env', m, s, k, h⟩ := h
  exact ⟨env', m, hs.trans s, hk.trans k, h⟩

section
variable {P : Program} {F : Nat → Bool}

theorem wpList_mono {ops : Array Oper} {Q Q' : Exit → Act → World → Prop} (hq : ∀ e a w, Q e a w → Q' e a w) : ∀ (l : List Oper) (a : Act) (w : World), wpList P ops Q l a w → wpList P ops Q' l a w := by
  intro l
  induction l with
  | nil => intro a w h; exact hq _ _ _ h
  | cons o r ih =>
    intro a w h
    unfold wpList at h ⊢
    split
    · rename_i hw
      rw [if_pos hw] at h
      rcases h with h | ⟨h, a0, w0, h1⟩
      · refine .inl ?_
        unfold Oper.wp at h ⊢
        generalize (execOp a.eval o).run P w = res at h ⊢
        cases res with
        | ok nx w' =>
          cases nx <;> simp only [Oper.upon] at h ⊢ <;> first
            | exact ih _ _ h
            | exact Calls.mono h (fun e w'' he => by
                cases e with
                | returned v => exact ih _ _ he
                | panicked c => exact hq _ _ _ he
                | outgrown => obtain ⟨a0, w0, h0⟩ := he; exact ⟨a0, w0, hq _ _ _ h0⟩)
            | exact Rows.mono h (fun _ _ he => ih _ _ he)
            | exact h.elim
        | halt x w' => cases x <;> simp only [Oper.upon] at h ⊢ <;> first | exact hq _ _ _ h | exact h.elim
      · exact .inr ⟨h, a0, w0, hq _ _ _ h1⟩
    · rename_i hw
      rw [if_neg hw] at h
      exact ih _ _ h

theorem wp_of_hw {o : Oper} {a : Act} {w : World} {K : Value → Hp → Prop} {next : Act → World → Prop} {Q : Exit → Act → World → Prop} (h : hw P (execOp a.eval o) w.heap (nextK P K))
    (hn : ∀ v w', Same w w' → K v w'.heap → next (a.put o.dst v) w') : o.wp P a w next Q := by
  obtain ⟨nx, w', hr, hs, hk⟩ := hw_run _ _ _ h w rfl
  unfold Oper.wp
  rw [hr]
  cases nx <;> simp only [nextK] at hk <;> first | exact hk.elim | skip
  · exact hn _ _ hs hk
  · exact hn _ _ hs hk
  · rename_i f args
    simp only [Oper.upon]
    refine (hk w' rfl).mono fun e w'' ⟨v, he, hs', hv⟩ => ?_
    subst he
    exact hn _ _ (hs.trans hs') hv

theorem sound_ops (hF : ∀ g, F g = true → Callable P g) {n : Nat} {all : List Oper} : ∀ (l : List Oper) (env : Env) (h : Hp) (K : Env → Hp → Prop), sxOps P F n all l env h K → ∀ (a : Act) (w : World), Mdl n env a → w.heap = h →
    wpList P all.toArray (Post n (writesOps l) a w fun e env h => e = .normal ∧ K env h) l a w := by
  intro l
  induction l with
  | nil =>
    intro env h K hk a w m hw
    exact ⟨env, m, Same.refl w, Keeps.refl _ _, rfl, by rw [hw]; exact hk⟩
  | cons o r ih =>
    intro env h K hk a w m hw
    subst hw
    simp only [sxOps] at hk
    have hin : ∀ d, o.dst = some d → d ∈ writesOps (o :: r) := fun d hd => by simp [writesOps, hd, optL]
    have hsub : ∀ i, i ∈ writesOps r → i ∈ writesOps (o :: r) := fun i hi => by simp [writesOps, hi]
    have post : ∀ {b : Act} {u : World} {e : Exit} {a' : Act} {w' : World} {K' : Exit → Env → Hp → Prop}, Same w u → Keeps (writesOps (o :: r)) a b → Post n (writesOps r) b u K' e a' w' → Post n (writesOps (o :: r)) a w K' e a' w' := by
      intro b u e a' w' K' hs hk ⟨env', m', s, k, h⟩
      exact ⟨env', m', hs.trans s, hk.trans (k.mono hsub), h⟩
    rcases guardV_spec m hk with ⟨hwt, env1, m1, hk⟩ | ⟨hwt, env1, m1, hk⟩
    · obtain ⟨hkn, hk⟩ := cond_true_of hk
      unfold wpList
      rw [if_pos hwt]
      refine .inl ?_
      have h1 := sound_ot hF (o := o) rfl hk
      rw [← m1.execOp hkn] at h1
      refine wp_of_hw h1 fun v w' hs hv => ?_
      obtain ⟨env2, m2, hv⟩ := putE_spec m1 hv
      exact wpList_mono (fun e a' w'' hp => post hs (Keeps.put a v hin) hp) _ _ _ (ih env2 _ K hv _ w' m2 rfl)
    · unfold wpList
      rw [if_neg (by rw [hwt]; simp)]
      obtain ⟨env2, m2, hv⟩ := putE_spec m1 hk
      exact wpList_mono (fun e a' w'' hp => post (Same.refl w) (Keeps.put a undef hin) hp) _ _ _ (ih env2 _ K hv _ w m2 rfl)
end
end Go.Sx
