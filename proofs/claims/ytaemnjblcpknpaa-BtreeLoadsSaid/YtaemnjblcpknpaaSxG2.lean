/- Regions that draw their order, in general: reads may come late, what writes comes in one of some orders. -/
import Derived.Test.YtaemnjblcpknpaaSxG
namespace Go.Sx
open Go

/-- A plan of a region: what is done first; 'wo' has alternatives. -/
inductive Plan where
  | fin
  | no
  | qu (i : Nat) (r : Plan)
  | wo (i : Nat) (r b : Plan)

abbrev pureOp : Op → Bool
  | .move _ | .assign _ | .pick _ _ _ | .nilCheck _ | .binOp _ _ _ _ _ | .unOp _ _ _ | .convert _ _ _ | .fieldAddr _ _ _ | .field _ _ _ | .indexAddr _ _ _
  | .index _ _ _ | .slice _ _ _ _ _ | .extract _ _ | .makeFunc _ _ _ | .build _ _ => true
  | .call { callee := .builtin b, .. } => (match b with | .len | .cap | .max | .min => true | _ => false)
  | _ => false
abbrev quietOp : Op → Bool
  | .load _ _ => true
  | op => pureOp op

abbrev edgeMask (ms : List Nat) : List Edge → Nat
  | [] => 0
  | e :: r => cond (Region.binds .any e) (Nat.lor (Nat.lor (Nat.shiftLeft 1 e.on) ((nth ms e.on).getD 0)) (edgeMask ms r)) (edgeMask ms r)
abbrev masks : List Oper → List Nat → List Nat
  | [], acc => acc
  | o :: r, acc => masks r (acc ++ [edgeMask acc o.after.toList])
abbrev reachM (ms : List Nat) (j i : Nat) : Bool := match nth ms j with | some m => Nat.testBit m i | none => false
abbrev memN (i : Nat) : List Nat → Bool
  | [] => false
  | j :: r => cond (Nat.beq i j) true (memN i r)
abbrev delN (i : Nat) : List Nat → List Nat
  | [] => []
  | j :: r => cond (Nat.beq i j) (delN i r) (j :: delN i r)
abbrev anyL {α : Type} (p : α → Bool) : List α → Bool
  | [] => false
  | x :: r => cond (p x) true (anyL p r)
/-- Done in its turn alone. -/
abbrev hardOp : Op → Bool
  | .assign _ => true
  | _ => false
/-- 'y' comes after 'x' in the plan. -/
abbrev pairO (all : List Oper) (ms : List Nat) (i j : Nat) (x y : Oper) : Bool :=
  cond (match y.dst with | some d => cond (cond ((x.looksAt all.toArray).contains d) (!(cond (hardOp y.op) (reachM ms j i) false)) false) false (match x.dst with | some d' => !(Nat.beq d d') | none => true) | none => true)
    (cond (match x.dst with | some d => cond ((y.looksAt all.toArray).contains d) (reachM ms j i) true | none => true)
      (allL (fun e => cond (Region.binds .any e) (!(Nat.beq e.on j)) true) x.after.toList) false) false
abbrev pairB (all : List Oper) (ms : List Nat) (i j : Nat) : Bool :=
  match nth all i with | some x => (match nth all j with | some y => pairO all ms i j x y | none => false) | none => false
abbrev firsts : Plan → List Nat
  | .wo i _ b => i :: firsts b
  | _ => []
abbrev selfOk (all : List Oper) (i : Nat) : Bool := match nth all i with
  | some x => cond (allL (fun e => cond (Region.binds .any e) (Nat.blt e.on i) true) x.after.toList) (cond (match x.dst with | some d => !(x.looksAt all.toArray).contains d | none => true) (!isSelect x.op) false) false
  | none => false
abbrev quietAt (all : List Oper) (i : Nat) : Bool := match nth all i with | some x => cond (quietOp x.op) (!hardOp x.op) false | none => false
abbrev planB (all : List Oper) (ms : List Nat) : Plan → Bool → List Nat → Bool
  | .fin, top, rem => cond top (match rem with | [] => true | _ => false) false
  | .no, top, _ => !top
  | .qu i r, top, rem => cond top (cond (memN i rem) (cond (quietAt all i) (cond (selfOk all i) (cond (allL (pairB all ms i) (delN i rem)) (planB all ms r true (delN i rem)) false) false) false) false) false
  | .wo i r b, top, rem => cond (cond top (allL (fun j => cond (memN j (i :: firsts b)) true (anyL (reachM ms j) (i :: firsts b))) rem) true)
      (cond (memN i rem) (cond (selfOk all i) (cond (allL (pairB all ms i) (delN i rem)) (cond (planB all ms r true (delN i rem)) (planB all ms b false rem) false) false) false) false) false

abbrev eqD (env : Env) (d : Option Nat) (v : Value) : Prop := match d with | some d => (match look env d with | some u => v = u | none => False) | none => False
abbrev rechk (P : Program) (all : List Oper) (env : Env) (h : Hp) (X : Prop) : List Nat → Prop
  | [] => X
  | i :: r => (match nth all i with | some o => chk (known env o.op) (oq P o.op (ev env) h (eqD env o.dst)) | none => False) ∧ rechk P all env h X r
abbrev keepL (ms : List Nat) (j : Nat) : List Nat → List Nat
  | [] => []
  | i :: r => cond (reachM ms j i) (keepL ms j r) (i :: keepL ms j r)
/-- Whatever the heap, the operation yields the same. -/
abbrev pureV (op : Op) (ρ : Operand → Value) : Bool :=
  match op with
  | .binOp _ _ x y _ => (match ρ x, ρ y with
    | .int _ _, .int _ _ => true
    | .bool _, .bool _ => true
    | .pointer _, .pointer none => true
    | .slice _ _ _, .slice none _ _ => true
    | _, _ => false)
  | .move _ | .assign _ | .nilCheck _ | .fieldAddr _ _ _ | .indexAddr _ _ _ | .extract _ _ | .makeFunc _ _ _ => true
  | .unOp _ _ x => (match ρ x with | .bool _ => true | .int _ _ => true | _ => false)
  | .call { callee := .builtin b, .. } => (match b with | .len | .cap => true | _ => false)
  | _ => false
abbrev floatL (i : Nat) (b : Bool) (fl : List Nat) : List Nat := cond b fl (i :: fl)
abbrev alsoB (b : Plan) (X Y : Prop) : Prop := match b with | .no => X | _ => X ∧ Y
abbrev sxP (P : Program) (F : Nat → Bool) (n : Nat) (all : List Oper) (ms : List Nat) (K : Env → Hp → Prop) : Plan → List Nat → Env → Hp → Prop
  | .fin, _, env, h => K env h
  | .no, _, _, _ => True
  | .qu i r, fl, env, h => (match nth all i with
    | some o => guardV all env o.guard
      (fun env0 => chk (known env0 o.op) (oq P o.op (ev env0) h fun v => putE n o.dst v env0 fun env => sxP P F n all ms K r (floatL i (pureV o.op (ev env0)) fl) env h))
      (fun env => putE n o.dst undef env fun env => sxP P F n all ms K r fl env h)
    | none => False)
  | .wo i r b, fl, env, h => alsoB b (match nth all i with
    | some o => guardV all env o.guard
      (fun env => chk (known env o.op) (ot P F o.op o.type (ev env) h fun v h => putE n o.dst v env fun env =>
        rechk P all env h (sxP P F n all ms K r (keepL ms i fl) env h) (keepL ms i fl)))
      (fun env => putE n o.dst undef env fun env => sxP P F n all ms K r fl env h)
    | none => False) (sxP P F n all ms K b fl env h)

/-! ### soundness -/
theorem memN_spec {i : Nat} : ∀ {l : List Nat}, memN i l = true → i ∈ l
  | [], h => by cases h
  | j :: r, h => by
    unfold memN at h
    cases hb : Nat.beq i j with
    | true => rw [Nat.eq_of_beq_eq_true hb]; exact List.mem_cons_self
    | false => rw [hb] at h; exact List.mem_cons_of_mem _ (memN_spec h)
theorem mem_delN {i j : Nat} : ∀ {l : List Nat}, j ∈ delN i l ↔ j ∈ l ∧ j ≠ i
  | [] => by simp [delN]
  | k :: r => by
    unfold delN
    cases hb : Nat.beq i k with
    | true =>
      have := Nat.eq_of_beq_eq_true hb
      subst this
      simp only [cond, mem_delN (l := r), List.mem_cons]
      constructor
      · rintro ⟨h1, h2⟩; exact ⟨.inr h1, h2⟩
      · rintro ⟨h1 | h1, h2⟩
        · exact absurd h1 h2
        · exact ⟨h1, h2⟩
    | false =>
      have hne : i ≠ k := by intro e; subst e; simp at hb
      simp only [cond, mem_delN (l := r), List.mem_cons]
      constructor
      · rintro (h1 | ⟨h1, h2⟩)
        · exact ⟨.inl h1, by rw [h1]; exact Ne.symm hne⟩
        · exact ⟨.inr h1, h2⟩
      · rintro ⟨h1 | h1, h2⟩
        · exact .inl h1
        · exact .inr ⟨h1, h2⟩
theorem anyL_spec {α : Type} {p : α → Bool} : ∀ {l : List α}, anyL p l = true → ∃ x ∈ l, p x = true
  | [], h => by cases h
  | y :: r, h => by
    unfold anyL at h
    cases hp : p y with
    | true => exact ⟨y, List.mem_cons_self, hp⟩
    | false =>
      rw [hp] at h
      obtain ⟨x, hx, hpx⟩ := anyL_spec h
      exact ⟨x, List.mem_cons_of_mem _ hx, hpx⟩
theorem mem_keepL {ms : List Nat} {j i : Nat} : ∀ {l : List Nat}, i ∈ keepL ms j l ↔ i ∈ l ∧ reachM ms j i = false
  | [] => by simp [keepL]
  | k :: r => by
    unfold keepL
    cases hb : reachM ms j k with
    | true =>
      simp only [cond, mem_keepL (l := r), List.mem_cons]
      constructor
      · rintro ⟨h1, h2⟩; exact ⟨.inr h1, h2⟩
      · rintro ⟨h1 | h1, h2⟩
        · subst h1; rw [hb] at h2; cases h2
        · exact ⟨h1, h2⟩
    | false =>
      simp only [cond, mem_keepL (l := r), List.mem_cons]
      constructor
      · rintro (h1 | ⟨h1, h2⟩)
        · subst h1; exact ⟨.inl rfl, hb⟩
        · exact ⟨.inr h1, h2⟩
      · rintro ⟨h1 | h1, h2⟩
        · exact .inl h1
        · exact .inr ⟨h1, h2⟩

theorem binV_det {P : Program} {o : BinOp} {t : TypeId} {xo yo : Operand} {x y : Value} {h : Hp} {K : Value → Prop}
    (hp : (match x, y with | .int _ _, .int _ _ => true | .bool _, .bool _ => true | .pointer _, .pointer none => true | .slice _ _ _, .slice none _ _ => true | _, _ => false) = true)
    (hk : binV P o t xo yo x y h K) : ∃ v, K v ∧ ∀ (h' : Hp) (K2 : Value → Prop), K2 v → binV P o t xo yo x y h' K2 := by
  split at hp
  · rename_i k a k' b
    have hk : intV o k k' a b K := hk
    show ∃ v, K v ∧ ∀ (h' : Hp) (K2 : Value → Prop), K2 v → intV o k k' a b K2
    unfold intV at hk ⊢
    cases o <;> simp only [] at hk ⊢ <;> first
      | (obtain ⟨r, h1, h2⟩ := hk; exact ⟨_, h2, fun _ _ h3 => ⟨r, h1, h3⟩⟩)
      | (generalize Nat.beq (kNum k) (kNum k') = bb at hk ⊢
         cases bb <;> first
           | exact hk.elim
           | (simp only [chk, arith] at hk ⊢; split at hk <;> first | exact ⟨_, hk.2, fun _ _ h3 => ⟨hk.1, h3⟩⟩ | exact ⟨_, hk, fun _ _ h3 => h3⟩)
           | (simp only [chk] at hk ⊢; obtain ⟨r, h1, h2⟩ := hk; exact ⟨_, h2, fun _ _ h3 => ⟨r, h1, h3⟩⟩)
           | exact ⟨_, hk, fun _ _ h3 => h3⟩)
  · rename_i a b
    have hk : chk (isBoolT P t) (eqlV o (a == b) K) := hk
    show ∃ v, K v ∧ ∀ (h' : Hp) (K2 : Value → Prop), K2 v → chk (isBoolT P t) (eqlV o (a == b) K2)
    generalize isBoolT P t = bb at hk ⊢
    cases bb
    · exact hk.elim
    · cases o <;> first | exact ⟨_, hk, fun _ _ h3 => h3⟩ | exact hk.elim
  · rename_i p
    have hk : chk (isPtrT P t) (eqlV o p.isNone K) := hk
    show ∃ v, K v ∧ ∀ (h' : Hp) (K2 : Value → Prop), K2 v → chk (isPtrT P t) (eqlV o p.isNone K2)
    generalize isPtrT P t = bb at hk ⊢
    cases bb
    · exact hk.elim
    · cases o <;> first | exact ⟨_, hk, fun _ _ h3 => h3⟩ | exact hk.elim
  · rename_i p _ _ _ _
    have hk : chk (isSliceT P t) (eqlV o p.isNone K) := hk
    show ∃ v, K v ∧ ∀ (h' : Hp) (K2 : Value → Prop), K2 v → chk (isSliceT P t) (eqlV o p.isNone K2)
    generalize isSliceT P t = bb at hk ⊢
    cases bb
    · exact hk.elim
    · cases o <;> first | exact ⟨_, hk, fun _ _ h3 => h3⟩ | exact hk.elim
  · cases hp
theorem NN_det {p : Option Addr} {f : Addr → Value} {K : Value → Prop} (hk : NN p fun a => K (f a)) : ∃ v, K v ∧ ∀ K2 : Value → Prop, K2 v → NN p fun a => K2 (f a) := by
  cases p with
  | none => exact hk.elim
  | some a => exact ⟨_, hk, fun _ h => h⟩
/-- A pure operation's value is one, whatever the heap. -/
theorem oq_det {P : Program} {op : Op} {ρ : Operand → Value} {h : Hp} {K : Value → Prop} (hp : pureV op ρ = true) (hk : oq P op ρ h K) :
    ∃ v, K v ∧ ∀ (h' : Hp) (K2 : Value → Prop), K2 v → oq P op ρ h' K2 := by
  cases op
  case move x => exact ⟨_, hk, fun _ _ h => h⟩
  case assign x => exact ⟨_, hk, fun _ _ h => h⟩
  case makeFunc fn first cap => exact ⟨_, hk, fun _ _ h => h⟩
  case binOp o t x y z => exact binV_det hp hk
  case unOp o t x =>
    have hk : unV o (ρ x) K := hk
    show ∃ v, K v ∧ ∀ (h' : Hp) (K2 : Value → Prop), K2 v → unV o (ρ x) K2
    generalize ρ x = u at hk ⊢
    cases o <;> cases u <;> first
      | exact ⟨_, hk, fun _ _ h3 => h3⟩
      | (obtain ⟨r, h1, h2⟩ := hk; exact ⟨_, h2, fun _ _ h3 => ⟨r, h1, h3⟩⟩)
      | (simp only [unV, arith] at hk ⊢; split at hk <;> first | exact ⟨_, hk.2, fun _ _ h3 => ⟨hk.1, h3⟩⟩ | exact ⟨_, hk, fun _ _ h3 => h3⟩)
      | exact hk.elim
  case nilCheck x =>
    have hk : nilV (ρ x) K := hk
    show ∃ v, K v ∧ ∀ (h' : Hp) (K2 : Value → Prop), K2 v → nilV (ρ x) K2
    generalize ρ x = u at hk ⊢
    cases u with
    | pointer p => obtain ⟨v, h1, h2⟩ := NN_det (f := fun a => .pointer (some a)) hk; exact ⟨v, h1, fun _ K2 h => h2 K2 h⟩
    | func f x c => cases f <;> first | exact ⟨_, hk, fun _ _ h3 => h3⟩ | exact hk.elim
    | _ => exact hk.elim
  case fieldAddr s x f =>
    have hk : (match fieldOf P s f with | some fd => chk (!Nat.beq (sizeOfT P fd.type) 0) (addrV (ρ x) fun a => K (.pointer (some (a.add fd.offset)))) | none => False) := hk
    show ∃ v, K v ∧ ∀ (h' : Hp) (K2 : Value → Prop), K2 v → (match fieldOf P s f with | some fd => chk (!Nat.beq (sizeOfT P fd.type) 0) (addrV (ρ x) fun a => K2 (.pointer (some (a.add fd.offset)))) | none => False)
    cases hf : fieldOf P s f with
    | none => rw [hf] at hk; exact hk.elim
    | some fd =>
      rw [hf] at hk
      simp only [] at hk ⊢
      generalize (!Nat.beq (sizeOfT P fd.type) 0) = bb at hk ⊢
      cases bb with
      | false => exact hk.elim
      | true =>
        generalize ρ x = u at hk ⊢
        cases u with
        | pointer p => obtain ⟨v, h1, h2⟩ := NN_det (f := fun a => .pointer (some (a.add fd.offset))) hk; exact ⟨v, h1, fun _ K2 h => h2 K2 h⟩
        | _ => exact hk.elim
  case indexAddr t x i =>
    have hk : indexAddrV P t (ρ x) (ρ i) K := hk
    show ∃ v, K v ∧ ∀ (h' : Hp) (K2 : Value → Prop), K2 v → indexAddrV P t (ρ x) (ρ i) K2
    generalize ρ x = u at hk ⊢
    generalize ρ i = j at hk ⊢
    cases j with
    | int k j =>
      cases u with
      | slice p l c =>
        simp only [indexAddrV] at hk ⊢
        cases he : elemT P t with
        | none => rw [he] at hk; exact hk.elim
        | some es =>
          rw [he] at hk
          obtain ⟨e, sz⟩ := es
          simp only [] at hk ⊢
          obtain ⟨v, h1, h2⟩ := NN_det (f := fun a => .pointer (some (a.add (j.toNat * sz)))) hk.2
          exact ⟨v, h1, fun _ K2 h => ⟨hk.1, h2 K2 h⟩⟩
      | pointer p =>
        simp only [indexAddrV] at hk ⊢
        cases he : arrT P t with
        | none => rw [he] at hk; exact hk.elim
        | some es =>
          rw [he] at hk
          obtain ⟨m, e, sz⟩ := es
          simp only [] at hk ⊢
          obtain ⟨v, h1, h2⟩ := NN_det (f := fun a => .pointer (some (a.add (j.toNat * sz)))) hk.2
          exact ⟨v, h1, fun _ K2 h => ⟨hk.1, h2 K2 h⟩⟩
      | _ => exact hk.elim
    | _ => exact hk.elim
  case extract x i =>
    have hk : (match ρ x with | .tuple vs => (match nth vs.toList i with | some v => K v | none => False) | _ => False) := hk
    show ∃ v, K v ∧ ∀ (h' : Hp) (K2 : Value → Prop), K2 v → (match ρ x with | .tuple vs => (match nth vs.toList i with | some v => K2 v | none => False) | _ => False)
    generalize ρ x = u at hk ⊢
    cases u with
    | tuple vs =>
      simp only [] at hk ⊢
      cases hn : nth vs.toList i with
      | none => rw [hn] at hk; exact hk.elim
      | some v => rw [hn] at hk; exact ⟨v, hk, fun _ _ h => h⟩
    | _ => exact hk.elim
  case call c =>
    obtain ⟨cal, args, tys⟩ := c
    cases cal with
    | builtin b =>
      have hk : quietBuiltin P b tys.toList (args.toList.map ρ) K := hk
      show ∃ v, K v ∧ ∀ (h' : Hp) (K2 : Value → Prop), K2 v → quietBuiltin P b tys.toList (args.toList.map ρ) K2
      generalize tys.toList = ts at hk ⊢
      generalize args.toList.map ρ = xs at hk ⊢
      cases b <;> first | (cases hp; done) | skip
      case len =>
        cases ts with
        | nil => exact hk.elim
        | cons t ts => cases xs with
          | nil => exact hk.elim
          | cons x xs =>
            have hk : lenV P t x K := hk
            show ∃ v, K v ∧ ∀ (h' : Hp) (K2 : Value → Prop), K2 v → lenV P t x K2
            cases x with
            | string s => simp only [lenV] at hk ⊢; generalize isStringT P t = bb at hk ⊢; cases bb; exact hk.elim; exact ⟨_, hk, fun _ _ h3 => h3⟩
            | slice p l c => simp only [lenV] at hk ⊢; generalize isSliceT P t = bb at hk ⊢; cases bb; exact hk.elim; exact ⟨_, hk, fun _ _ h3 => h3⟩
            | agg cs =>
              simp only [lenV] at hk ⊢
              cases ha : arrT P t with
              | none => rw [ha] at hk; exact hk.elim
              | some r => rw [ha] at hk; exact ⟨_, hk, fun _ _ h3 => h3⟩
            | _ => exact hk.elim
      case cap =>
        cases ts with
        | nil => exact hk.elim
        | cons t ts => cases xs with
          | nil => exact hk.elim
          | cons x xs =>
            have hk : capV P t x K := hk
            show ∃ v, K v ∧ ∀ (h' : Hp) (K2 : Value → Prop), K2 v → capV P t x K2
            cases x with
            | slice p l c => simp only [capV] at hk ⊢; generalize isSliceT P t = bb at hk ⊢; cases bb; exact hk.elim; exact ⟨_, hk, fun _ _ h3 => h3⟩
            | _ => exact hk.elim
    | _ => cases hp
  all_goals cases hp
theorem edgeMask_spec {ms : List Nat} {i : Nat} : ∀ {es : List Edge}, (edgeMask ms es).testBit i = true → ∃ e ∈ es, Region.binds .any e = true ∧ (e.on = i ∨ ((nth ms e.on).getD 0).testBit i = true)
  | [], h => by simp [edgeMask] at h
  | e :: r, h => by
    unfold edgeMask at h
    cases hb : Region.binds .any e with
    | true =>
      rw [hb] at h
      simp only [cond] at h
      have h1 : ((1 <<< e.on ||| (nth ms e.on).getD 0) ||| edgeMask ms r).testBit i = true := h
      rw [Nat.testBit_or, Nat.testBit_or, Bool.or_eq_true, Bool.or_eq_true] at h1
      rcases h1 with (h1 | h1) | h1
      · refine ⟨e, List.mem_cons_self, hb, .inl ?_⟩
        rw [Nat.one_shiftLeft, Nat.testBit_two_pow, decide_eq_true_eq] at h1
        exact h1
      · exact ⟨e, List.mem_cons_self, hb, .inr h1⟩
      · obtain ⟨e', he, h2⟩ := edgeMask_spec h1
        exact ⟨e', List.mem_cons_of_mem _ he, h2⟩
    | false =>
      rw [hb] at h
      obtain ⟨e', he, h2⟩ := edgeMask_spec h
      exact ⟨e', List.mem_cons_of_mem _ he, h2⟩

/-- What the masks say of closed marks. -/
def MaskOk (all : List Oper) (L : Array Bool) (ms : List Nat) : Prop :=
  ∀ (j m i : Nat) (o : Oper), ms[j]? = some m → all[j]? = some o → m.testBit i = true → (∀ e ∈ o.after, Region.binds .any e = true → L.getD e.on false = true) → L.getD i false = true
theorem masks_ok {all : List Oper} {L : Array Bool} (hc : Closed all L) : ∀ (l pre : List Oper) (acc : List Nat), all = pre ++ l → acc.length = pre.length → MaskOk all L acc → MaskOk all L (masks l acc)
  | [], _, _, _, _, h => h
  | o :: r, pre, acc, ha, hl, h => by
    unfold masks
    refine masks_ok hc r (pre ++ [o]) _ (by simp [ha]) (by simp [hl]) ?_
    intro j m i oj hm ho hbit hall
    rcases Nat.lt_or_ge j acc.length with hj | hj
    · rw [List.getElem?_append_left hj] at hm
      exact h j m i oj hm ho hbit hall
    · rw [List.getElem?_append_right hj] at hm
      have hj0 : j - acc.length = 0 := by
        rcases Nat.eq_zero_or_pos (j - acc.length) with h0 | h0
        · exact h0
        · rw [List.getElem?_eq_none (by simp; omega)] at hm; cases hm
      rw [hj0] at hm
      simp only [List.getElem?_cons_zero, Option.some.injEq] at hm
      subst hm
      have hjp : j = pre.length := by omega
      subst hjp
      have : oj = o := by rw [ha, List.getElem?_append_right (Nat.le_refl _)] at ho; simpa using ho.symm
      subst this
      obtain ⟨e, he, hb, hor⟩ := edgeMask_spec hbit
      have hle := hall e (by simpa using he) hb
      rcases hor with hor | hor
      · rw [← hor]; exact hle
      · rw [nth_eq] at hor
        cases hme : acc[e.on]? with
        | none => rw [hme] at hor; simp at hor
        | some m =>
          rw [hme] at hor
          simp only [Option.getD_some] at hor
          have hlt : e.on < all.length := by
            have : e.on < acc.length := by
              rcases Nat.lt_or_ge e.on acc.length with h1 | h1
              · exact h1
              · rw [List.getElem?_eq_none h1] at hme; cases hme
            rw [ha]; simp; omega
          exact h e.on m i all[e.on] hme (List.getElem?_eq_getElem hlt) hor (hc e.on _ hle (List.getElem?_eq_getElem hlt))
theorem reachM_spec {all : List Oper} {L : Array Bool} (hc : Closed all L) {j i : Nat} {o : Oper} (ho : all[j]? = some o) (hr : reachM (masks all []) j i = true)
    (hall : ∀ e ∈ o.after, Region.binds .any e = true → L.getD e.on false = true) : L.getD i false = true := by
  unfold reachM at hr
  rw [nth_eq] at hr
  split at hr
  · rename_i m hm
    exact masks_ok hc all [] [] rfl rfl (fun j m i o hm => by simp at hm) j m i o hm ho hr hall
  · cases hr

structure PairOk (all : List Oper) (i j : Nat) : Prop where
  out : ∃ x y, all[i]? = some x ∧ all[j]? = some y ∧ (∀ d, y.dst = some d → (d ∉ x.looksAt all.toArray ∨ (hardOp y.op = true ∧ reachM (masks all []) j i = true)) ∧ x.dst ≠ some d) ∧
    (∀ d, x.dst = some d → d ∈ y.looksAt all.toArray → reachM (masks all []) j i = true) ∧ (∀ e ∈ x.after, Region.binds .any e = true → e.on ≠ j)
theorem pairB_spec {all : List Oper} {i j : Nat} (h : pairB all (masks all []) i j = true) : PairOk all i j := by
  unfold pairB at h
  rw [nth_eq, nth_eq] at h
  split at h
  · rename_i x hx
    split at h
    · rename_i y hy
      unfold pairO at h
      obtain ⟨h1, h⟩ := cond_true_of' h
      obtain ⟨h2, h3⟩ := cond_true_of' h
      refine ⟨x, y, hx, hy, fun d hd => ?_, fun d hd hm => ?_, fun e he hb heq => ?_⟩
      · rw [hd] at h1
        simp only [] at h1
        have hx' : ∀ b, cond b false (match x.dst with | some d' => !(Nat.beq d d') | none => true) = true → b = false ∧ x.dst ≠ some d := by
          intro b hb
          cases b with
          | true => cases hb
          | false =>
            refine ⟨rfl, fun hx' => ?_⟩
            rw [hx'] at hb
            simp at hb
        obtain ⟨h4, h5⟩ := hx' _ h1
        refine ⟨?_, h5⟩
        cases hc : (x.looksAt all.toArray).contains d with
        | false =>
          rw [List.contains_eq_mem, decide_eq_false_iff_not] at hc
          exact .inl hc
        | true =>
          rw [hc] at h4
          cases hh : hardOp y.op with
          | false => rw [hh] at h4; cases h4
          | true =>
            rw [hh] at h4
            refine .inr ⟨rfl, ?_⟩
            simpa using h4
      · rw [hd] at h2
        have hc : (y.looksAt all.toArray).contains d = true := by rw [List.contains_eq_mem, decide_eq_true_eq]; exact hm
        simp only [hc] at h2
        exact h2
      · have := allL_spec h3 e (by simpa using he)
        rw [hb, heq] at this
        simp at this
    · cases h
  · cases h
end Go.Sx
