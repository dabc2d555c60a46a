/- Part G2 G3 E2 H I I2 J I3 of the proof: contracts of functions of the program, and what follows from them. -/
import Derived.Test.YtbhofnaipkkbeaaGreatDoorSxG
import Derived.RangeFuncRecord
import Derived.TacticsIn
namespace Go.Sx
open Go
inductive Plan where
  | fin
  | no
  | qu (i : Nat) (r : Plan)
  | wo (i : Nat) (r b : Plan)
abbrev ybfr : Op → Bool
  | .move _ | .assign _ | .pick _ _ _ | .nilCheck _ | .binOp _ _ _ _ _ | .unOp _ _ _ | .convert _ _ _ | .fieldAddr _ _ _ | .field _ _ _ | .indexAddr _ _ _
  | .index _ _ _ | .slice _ _ _ _ _ | .extract _ _ | .makeFunc _ _ _ | .build _ _ => true
  | .call { callee := .builtin b, .. } => (match b with | .len | .cap | .max | .min => true | _ => false)
  | _ => false
abbrev ybbs : Op → Bool
  | .load _ _ => true
  | op => ybfr op
abbrev yaew (ms : List Nat) : List Edge → Nat
  | [] => 0
  | e :: r => cond (Region.binds .any e) (Nat.lor (Nat.lor (Nat.shiftLeft 1 e.on) ((nth ms e.on).getD 0)) (yaew ms r)) (yaew ms r)
abbrev masks : List Oper → List Nat → List Nat
  | [], acc => acc
  | o :: r, acc => masks r (acc ++ [yaew acc o.after.toList])
abbrev yafe (ms : List Nat) (j i : Nat) : Bool := match nth ms j with | some m => Nat.testBit m i | none => false
abbrev memN (i : Nat) : List Nat → Bool
  | [] => false
  | j :: r => cond (Nat.beq i j) true (memN i r)
abbrev delN (i : Nat) : List Nat → List Nat
  | [] => []
  | j :: r => cond (Nat.beq i j) (delN i r) (j :: delN i r)
abbrev anyL {α : Type} (p : α → Bool) : List α → Bool
  | [] => false
  | x :: r => cond (p x) true (anyL p r)
abbrev yaiy : Op → Bool
  | .assign _ => true
  | _ => false
abbrev pairO (all : List Oper) (ms : List Nat) (i j : Nat) (x y : Oper) : Bool :=
  cond (match y.dst with | some d => cond (cond ((x.looksAt all.toArray).contains d) (!(cond (yaiy y.op) (yafe ms j i) false)) false) false (match x.dst with | some d' => !(Nat.beq d d') | none => true) | none => true)
    (cond (match x.dst with | some d => cond ((y.looksAt all.toArray).contains d) (yafe ms j i) true | none => true)
      (allL (fun e => cond (Region.binds .any e) (!(Nat.beq e.on j)) true) x.after.toList) false) false
abbrev pairB (all : List Oper) (ms : List Nat) (i j : Nat) : Bool :=
  match nth all i with | some x => (match nth all j with | some y => pairO all ms i j x y | none => false) | none => false
abbrev yalv : Plan → List Nat
  | .wo i _ b => i :: yalv b
  | _ => []
abbrev yagr (all : List Oper) (i : Nat) : Bool := match nth all i with
  | some x => cond (allL (fun e => cond (Region.binds .any e) (Nat.blt e.on i) true) x.after.toList) (cond (match x.dst with | some d => !(x.looksAt all.toArray).contains d | none => true) (!yacq x.op) false) false
  | none => false
abbrev quietAt (all : List Oper) (i : Nat) : Bool := match nth all i with | some x => cond (ybbs x.op) (!yaiy x.op) false | none => false
abbrev planB (all : List Oper) (ms : List Nat) : Plan → Bool → List Nat → Bool
  | .fin, top, rem => cond top (match rem with | [] => true | _ => false) false
  | .no, top, _ => !top
  | .qu i r, top, rem => cond top (cond (memN i rem) (cond (quietAt all i) (cond (yagr all i) (cond (allL (pairB all ms i) (delN i rem)) (planB all ms r true (delN i rem)) false) false) false) false) false
  | .wo i r b, top, rem => cond (cond top (allL (fun j => cond (memN j (i :: yalv b)) true (anyL (yafe ms j) (i :: yalv b))) rem) true)
      (cond (memN i rem) (cond (yagr all i) (cond (allL (pairB all ms i) (delN i rem)) (cond (planB all ms r true (delN i rem)) (planB all ms b false rem) false) false) false) false) false
abbrev eqD (env : Env) (d : Option Nat) (v : Value) : Prop := match d with | some d => (match look env d with | some u => v = u | none => False) | none => False
abbrev rechk (P : Program) (all : List Oper) (env : Env) (h : Hp) (X : Prop) : List Nat → Prop
  | [] => X
  | i :: r => (match nth all i with | some o => chk (known env o.op) (oq P o.op (ev env) h (eqD env o.dst)) | none => False) ∧ rechk P all env h X r
abbrev keepL (ms : List Nat) (j : Nat) : List Nat → List Nat
  | [] => []
  | i :: r => cond (yafe ms j i) (keepL ms j r) (i :: keepL ms j r)
abbrev pureV (op : Op) (ρ : Operand → Value) : Bool :=
  match op with
  | .binOp _ _ x y _ => (match ρ x, ρ y with
    | .int _ _, .int _ _ => true
    | .bool _, .bool _ => true
    | .pointer _, .pointer none => true
    | .slice _ _ _, .slice none _ _ => true
    | _, _ => false)
  | .move _ | .assign _ | .nilCheck _ | .fieldAddr _ _ _ | .indexAddr _ _ _ | .extract _ _ | .makeFunc _ _ _ => true
  | .unOp _ _ x => (match ρ x with | .bool _ => true | .int _ _ => true | _ => false)
  | .call { callee := .builtin b, .. } => (match b with | .len | .cap => true | _ => false)
  | _ => false
abbrev ybdd (i : Nat) (b : Bool) (fl : List Nat) : List Nat := cond b fl (i :: fl)
abbrev alsoB (b : Plan) (X Y : Prop) : Prop := match b with | .no => X | _ => X ∧ Y
abbrev sxP (P : Program) (F : Nat → Bool) (n : Nat) (all : List Oper) (ms : List Nat) (K : Env → Hp → Prop) : Plan → List Nat → Env → Hp → Prop
  | .fin, _, env, h => K env h
  | .no, _, _, _ => True
  | .qu i r, fl, env, h => (match nth all i with
    | some o => yalh all env o.guard
      (fun env0 => chk (known env0 o.op) (oq P o.op (ev env0) h fun v => putE n o.dst v env0 fun env => sxP P F n all ms K r (ybdd i (pureV o.op (ev env0)) fl) env h))
      (fun env => putE n o.dst undef env fun env => sxP P F n all ms K r fl env h)
    | none => False)
  | .wo i r b, fl, env, h => alsoB b (match nth all i with
    | some o => yalh all env o.guard
      (fun env => chk (known env o.op) (ot P F o.op (tyOf all o) (ev env) h fun v h => putE n o.dst v env fun env =>
        rechk P all env h (sxP P F n all ms K r (keepL ms i fl) env h) (keepL ms i fl)))
      (fun env => putE n o.dst undef env fun env => sxP P F n all ms K r fl env h)
    | none => False) (sxP P F n all ms K b fl env h)
theorem yafs {i : Nat} : ∀ {l : List Nat}, memN i l = true → i ∈ l
  | [], h => by cases h
  | j :: r, h => by
    unfold memN at h
    cases hb : Nat.beq i j with
    | true => rw [Nat.eq_of_beq_eq_true hb]; exact List.mem_cons_self
    | false => rw [hb] at h; exact List.mem_cons_of_mem _ (yafs h)
theorem yaav {i j : Nat} : ∀ {l : List Nat}, j ∈ delN i l ↔ j ∈ l ∧ j ≠ i
  | [] => by simp [delN]
  | k :: r => by
    unfold delN
    cases hb : Nat.beq i k with
    | true =>
      have := Nat.eq_of_beq_eq_true hb
      subst this
      simp only [cond, yaav (l := r), List.mem_cons]
      constructor
      · rintro ⟨h1, h2⟩; exact ⟨.inr h1, h2⟩
      · rintro ⟨h1 | h1, h2⟩
        · exact absurd h1 h2
        · exact ⟨h1, h2⟩
    | false =>
      have hne : i ≠ k := by intro e; subst e; simp at hb
      simp only [cond, yaav (l := r), List.mem_cons]
      constructor
      · rintro (h1 | ⟨h1, h2⟩)
        · exact ⟨.inl h1, by rw [h1]; exact Ne.symm hne⟩
        · exact ⟨.inr h1, h2⟩
      · rintro ⟨h1 | h1, h2⟩
        · exact .inl h1
        · exact .inr ⟨h1, h2⟩
theorem yaoy {α : Type} {p : α → Bool} : ∀ {l : List α}, anyL p l = true → ∃ x ∈ l, p x = true
  | [], h => by cases h
  | y :: r, h => by
    unfold anyL at h
    cases hp : p y with
    | true => exact ⟨y, List.mem_cons_self, hp⟩
    | false =>
      rw [hp] at h
      obtain ⟨x, hx, hpx⟩ := yaoy h
      exact ⟨x, List.mem_cons_of_mem _ hx, hpx⟩
theorem yajo {ms : List Nat} {j i : Nat} : ∀ {l : List Nat}, i ∈ keepL ms j l ↔ i ∈ l ∧ yafe ms j i = false
  | [] => by simp [keepL]
  | k :: r => by
    unfold keepL
    cases hb : yafe ms j k with
    | true =>
      simp only [cond, yajo (l := r), List.mem_cons]
      constructor
      · rintro ⟨h1, h2⟩; exact ⟨.inr h1, h2⟩
      · rintro ⟨h1 | h1, h2⟩
        · subst h1; rw [hb] at h2; cases h2
        · exact ⟨h1, h2⟩
    | false =>
      simp only [cond, yajo (l := r), List.mem_cons]
      constructor
      · rintro (h1 | ⟨h1, h2⟩)
        · subst h1; exact ⟨.inl rfl, hb⟩
        · exact ⟨.inr h1, h2⟩
      · rintro ⟨h1 | h1, h2⟩
        · exact .inl h1
        · exact .inr ⟨h1, h2⟩
theorem yazf {P : Program} {o : BinOp} {t : TypeId} {xo yo : Operand} {x y : Value} {h : Hp} {K : Value → Prop}
    (hp : (match x, y with | .int _ _, .int _ _ => true | .bool _, .bool _ => true | .pointer _, .pointer none => true | .slice _ _ _, .slice none _ _ => true | _, _ => false) = true)
    (hk : binV P o t xo yo x y h K) : ∃ v, K v ∧ ∀ (h' : Hp) (K2 : Value → Prop), K2 v → binV P o t xo yo x y h' K2 := by
  split at hp
  · rename_i k a k' b
    have hk : intV o k k' a b K := hk
    show ∃ v, K v ∧ ∀ (h' : Hp) (K2 : Value → Prop), K2 v → intV o k k' a b K2
    unfold intV at hk ⊢
    cases o <;> simp only [] at hk ⊢ <;> first
      | (obtain ⟨r, h1, h2⟩ := hk; exact ⟨_, h2, fun _ _ h3 => ⟨r, h1, h3⟩⟩)
      | (generalize Nat.beq (kNum k) (kNum k') = bb at hk ⊢
         cases bb <;> first
           | exact hk.elim
           | (simp only [chk, arith] at hk ⊢; split at hk <;> first | exact ⟨_, hk.2, fun _ _ h3 => ⟨hk.1, h3⟩⟩ | exact ⟨_, hk, fun _ _ h3 => h3⟩)
           | (simp only [chk] at hk ⊢; obtain ⟨r, h1, h2⟩ := hk; exact ⟨_, h2, fun _ _ h3 => ⟨r, h1, h3⟩⟩)
           | exact ⟨_, hk, fun _ _ h3 => h3⟩)
  · rename_i a b
    have hk : chk (yaih P t) (eqlV o (a == b) K) := hk
    show ∃ v, K v ∧ ∀ (h' : Hp) (K2 : Value → Prop), K2 v → chk (yaih P t) (eqlV o (a == b) K2)
    generalize yaih P t = bb at hk ⊢
    cases bb
    · exact hk.elim
    · cases o <;> first | exact ⟨_, hk, fun _ _ h3 => h3⟩ | exact hk.elim
  · rename_i p
    have hk : chk (yank P t) (eqlV o p.isNone K) := hk
    show ∃ v, K v ∧ ∀ (h' : Hp) (K2 : Value → Prop), K2 v → chk (yank P t) (eqlV o p.isNone K2)
    generalize yank P t = bb at hk ⊢
    cases bb
    · exact hk.elim
    · cases o <;> first | exact ⟨_, hk, fun _ _ h3 => h3⟩ | exact hk.elim
  · rename_i p _ _ _ _
    have hk : chk (yacp P t) (eqlV o p.isNone K) := hk
    show ∃ v, K v ∧ ∀ (h' : Hp) (K2 : Value → Prop), K2 v → chk (yacp P t) (eqlV o p.isNone K2)
    generalize yacp P t = bb at hk ⊢
    cases bb
    · exact hk.elim
    · cases o <;> first | exact ⟨_, hk, fun _ _ h3 => h3⟩ | exact hk.elim
  · cases hp
theorem yavv {p : Option Addr} {f : Addr → Value} {K : Value → Prop} (hk : NN p fun a => K (f a)) : ∃ v, K v ∧ ∀ K2 : Value → Prop, K2 v → NN p fun a => K2 (f a) := by
  cases p with
  | none => exact hk.elim
  | some a => exact ⟨_, hk, fun _ h => h⟩
theorem ybgc {P : Program} {op : Op} {ρ : Operand → Value} {h : Hp} {K : Value → Prop} (hp : pureV op ρ = true) (hk : oq P op ρ h K) :
    ∃ v, K v ∧ ∀ (h' : Hp) (K2 : Value → Prop), K2 v → oq P op ρ h' K2 := by
  cases op
  case move x => exact ⟨_, hk, fun _ _ h => h⟩
  case assign x => exact ⟨_, hk, fun _ _ h => h⟩
  case makeFunc fn first cap => exact ⟨_, hk, fun _ _ h => h⟩
  case binOp o t x y z => exact yazf hp hk
  case unOp o t x =>
    have hk : unV o (ρ x) K := hk
    show ∃ v, K v ∧ ∀ (h' : Hp) (K2 : Value → Prop), K2 v → unV o (ρ x) K2
    generalize ρ x = u at hk ⊢
    cases o <;> cases u <;> first
      | exact ⟨_, hk, fun _ _ h3 => h3⟩
      | (obtain ⟨r, h1, h2⟩ := hk; exact ⟨_, h2, fun _ _ h3 => ⟨r, h1, h3⟩⟩)
      | (simp only [unV, arith] at hk ⊢; split at hk <;> first | exact ⟨_, hk.2, fun _ _ h3 => ⟨hk.1, h3⟩⟩ | exact ⟨_, hk, fun _ _ h3 => h3⟩)
      | exact hk.elim
  case nilCheck x =>
    have hk : nilV (ρ x) K := hk
    show ∃ v, K v ∧ ∀ (h' : Hp) (K2 : Value → Prop), K2 v → nilV (ρ x) K2
    generalize ρ x = u at hk ⊢
    cases u with
    | pointer p => obtain ⟨v, h1, h2⟩ := yavv (f := fun a => .pointer (some a)) hk; exact ⟨v, h1, fun _ K2 h => h2 K2 h⟩
    | func f x c => cases f <;> first | exact ⟨_, hk, fun _ _ h3 => h3⟩ | exact hk.elim
    | _ => exact hk.elim
  case fieldAddr s x f =>
    have hk : (match yaed P s f with | some fd => chk (!Nat.beq (yaan P fd.type) 0) (addrV (ρ x) fun a => K (.pointer (some (a.add fd.offset)))) | none => False) := hk
    show ∃ v, K v ∧ ∀ (h' : Hp) (K2 : Value → Prop), K2 v → (match yaed P s f with | some fd => chk (!Nat.beq (yaan P fd.type) 0) (addrV (ρ x) fun a => K2 (.pointer (some (a.add fd.offset)))) | none => False)
    cases hf : yaed P s f with
    | none => rw [hf] at hk; exact hk.elim
    | some fd =>
      rw [hf] at hk
      simp only [] at hk ⊢
      generalize (!Nat.beq (yaan P fd.type) 0) = bb at hk ⊢
      cases bb with
      | false => exact hk.elim
      | true =>
        generalize ρ x = u at hk ⊢
        cases u with
        | pointer p => obtain ⟨v, h1, h2⟩ := yavv (f := fun a => .pointer (some (a.add fd.offset))) hk; exact ⟨v, h1, fun _ K2 h => h2 K2 h⟩
        | _ => exact hk.elim
  case indexAddr t x i =>
    have hk : yacb P t (ρ x) (ρ i) K := hk
    show ∃ v, K v ∧ ∀ (h' : Hp) (K2 : Value → Prop), K2 v → yacb P t (ρ x) (ρ i) K2
    generalize ρ x = u at hk ⊢
    generalize ρ i = j at hk ⊢
    cases j with
    | int k j =>
      cases u with
      | slice p l c =>
        simp only [yacb] at hk ⊢
        cases he : elemT P t with
        | none => rw [he] at hk; exact hk.elim
        | some es =>
          rw [he] at hk
          obtain ⟨e, sz⟩ := es
          simp only [] at hk ⊢
          obtain ⟨v, h1, h2⟩ := yavv (f := fun a => .pointer (some (a.add (j.toNat * sz)))) hk.2
          exact ⟨v, h1, fun _ K2 h => ⟨hk.1, h2 K2 h⟩⟩
      | pointer p =>
        simp only [yacb] at hk ⊢
        cases he : arrT P t with
        | none => rw [he] at hk; exact hk.elim
        | some es =>
          rw [he] at hk
          obtain ⟨m, e, sz⟩ := es
          simp only [] at hk ⊢
          obtain ⟨v, h1, h2⟩ := yavv (f := fun a => .pointer (some (a.add (j.toNat * sz)))) hk.2
          exact ⟨v, h1, fun _ K2 h => ⟨hk.1, h2 K2 h⟩⟩
      | _ => exact hk.elim
    | _ => exact hk.elim
  case extract x i =>
    have hk : (match ρ x with | .tuple vs => (match nth vs.toList i with | some v => K v | none => False) | _ => False) := hk
    show ∃ v, K v ∧ ∀ (h' : Hp) (K2 : Value → Prop), K2 v → (match ρ x with | .tuple vs => (match nth vs.toList i with | some v => K2 v | none => False) | _ => False)
    generalize ρ x = u at hk ⊢
    cases u with
    | tuple vs =>
      simp only [] at hk ⊢
      cases hn : nth vs.toList i with
      | none => rw [hn] at hk; exact hk.elim
      | some v => rw [hn] at hk; exact ⟨v, hk, fun _ _ h => h⟩
    | _ => exact hk.elim
  case call c =>
    obtain ⟨cal, args, tys⟩ := c
    cases cal with
    | builtin b =>
      have hk : yacd P b tys.toList (args.toList.map ρ) K := hk
      show ∃ v, K v ∧ ∀ (h' : Hp) (K2 : Value → Prop), K2 v → yacd P b tys.toList (args.toList.map ρ) K2
      generalize tys.toList = ts at hk ⊢
      generalize args.toList.map ρ = xs at hk ⊢
      cases b <;> first | (cases hp; done) | skip
      case len =>
        cases ts with
        | nil => exact hk.elim
        | cons t ts => cases xs with
          | nil => exact hk.elim
          | cons x xs =>
            have hk : lenV P t x K := hk
            show ∃ v, K v ∧ ∀ (h' : Hp) (K2 : Value → Prop), K2 v → lenV P t x K2
            cases x with
            | string s => simp only [lenV] at hk ⊢; generalize yaap P t = bb at hk ⊢; cases bb; exact hk.elim; exact ⟨_, hk, fun _ _ h3 => h3⟩
            | slice p l c => simp only [lenV] at hk ⊢; generalize yacp P t = bb at hk ⊢; cases bb; exact hk.elim; exact ⟨_, hk, fun _ _ h3 => h3⟩
            | agg cs =>
              simp only [lenV] at hk ⊢
              cases ha : arrT P t with
              | none => rw [ha] at hk; exact hk.elim
              | some r => rw [ha] at hk; exact ⟨_, hk, fun _ _ h3 => h3⟩
            | _ => exact hk.elim
      case cap =>
        cases ts with
        | nil => exact hk.elim
        | cons t ts => cases xs with
          | nil => exact hk.elim
          | cons x xs =>
            have hk : capV P t x K := hk
            show ∃ v, K v ∧ ∀ (h' : Hp) (K2 : Value → Prop), K2 v → capV P t x K2
            cases x with
            | slice p l c => simp only [capV] at hk ⊢; generalize yacp P t = bb at hk ⊢; cases bb; exact hk.elim; exact ⟨_, hk, fun _ _ h3 => h3⟩
            | _ => exact hk.elim
    | _ => cases hp
  all_goals cases hp
theorem yaee {ms : List Nat} {i : Nat} : ∀ {es : List Edge}, (yaew ms es).testBit i = true → ∃ e ∈ es, Region.binds .any e = true ∧ (e.on = i ∨ ((nth ms e.on).getD 0).testBit i = true)
  | [], h => by simp [yaew] at h
  | e :: r, h => by
    unfold yaew at h
    cases hb : Region.binds .any e with
    | true =>
      rw [hb] at h
      simp only [cond] at h
      have h1 : ((1 <<< e.on ||| (nth ms e.on).getD 0) ||| yaew ms r).testBit i = true := h
      rw [Nat.testBit_or, Nat.testBit_or, Bool.or_eq_true, Bool.or_eq_true] at h1
      rcases h1 with (h1 | h1) | h1
      · refine ⟨e, List.mem_cons_self, hb, .inl ?_⟩
        rw [Nat.one_shiftLeft, Nat.testBit_two_pow, decide_eq_true_eq] at h1
        exact h1
      · exact ⟨e, List.mem_cons_self, hb, .inr h1⟩
      · obtain ⟨e', he, h2⟩ := yaee h1
        exact ⟨e', List.mem_cons_of_mem _ he, h2⟩
    | false =>
      rw [hb] at h
      obtain ⟨e', he, h2⟩ := yaee h
      exact ⟨e', List.mem_cons_of_mem _ he, h2⟩
def ybeo (all : List Oper) (L : Array Bool) (ms : List Nat) : Prop :=
  ∀ (j m i : Nat) (o : Oper), ms[j]? = some m → all[j]? = some o → m.testBit i = true → (∀ e ∈ o.after, Region.binds .any e = true → L.getD e.on false = true) → L.getD i false = true
theorem yaqw {all : List Oper} {L : Array Bool} (hc : yalj all L) : ∀ (l pre : List Oper) (acc : List Nat), all = pre ++ l → acc.length = pre.length → ybeo all L acc → ybeo all L (masks l acc)
  | [], _, _, _, _, h => h
  | o :: r, pre, acc, ha, hl, h => by
    unfold masks
    refine yaqw hc r (pre ++ [o]) _ (by simp [ha]) (by simp [hl]) ?_
    intro j m i oj hm ho hbit hall
    rcases Nat.lt_or_ge j acc.length with hj | hj
    · rw [List.getElem?_append_left hj] at hm
      exact h j m i oj hm ho hbit hall
    · rw [List.getElem?_append_right hj] at hm
      have hj0 : j - acc.length = 0 := by
        rcases Nat.eq_zero_or_pos (j - acc.length) with h0 | h0
        · exact h0
        · rw [List.getElem?_eq_none (by simp; omega)] at hm; cases hm
      rw [hj0] at hm
      simp only [List.getElem?_cons_zero, Option.some.injEq] at hm
      subst hm
      have hjp : j = pre.length := by omega
      subst hjp
      have : oj = o := by rw [ha, List.getElem?_append_right (Nat.le_refl _)] at ho; simpa using ho.symm
      subst this
      obtain ⟨e, he, hb, hor⟩ := yaee hbit
      have hle := hall e (by simpa using he) hb
      rcases hor with hor | hor
      · rw [← hor]; exact hle
      · rw [yacg] at hor
        cases hme : acc[e.on]? with
        | none => rw [hme] at hor; simp at hor
        | some m =>
          rw [hme] at hor
          simp only [Option.getD_some] at hor
          have hlt : e.on < all.length := by
            have : e.on < acc.length := by
              rcases Nat.lt_or_ge e.on acc.length with h1 | h1
              · exact h1
              · rw [List.getElem?_eq_none h1] at hme; cases hme
            rw [ha]; simp; omega
          exact h e.on m i all[e.on] hme (List.getElem?_eq_getElem hlt) hor (hc e.on _ hle (List.getElem?_eq_getElem hlt))
theorem yads {all : List Oper} {L : Array Bool} (hc : yalj all L) {j i : Nat} {o : Oper} (ho : all[j]? = some o) (hr : yafe (masks all []) j i = true)
    (hall : ∀ e ∈ o.after, Region.binds .any e = true → L.getD e.on false = true) : L.getD i false = true := by
  unfold yafe at hr
  rw [yacg] at hr
  split at hr
  · rename_i m hm
    exact yaqw hc all [] [] rfl rfl (fun j m i o hm => by simp at hm) j m i o hm ho hr hall
  · cases hr
structure PairOk (all : List Oper) (i j : Nat) : Prop where
  out : ∃ x y, all[i]? = some x ∧ all[j]? = some y ∧ (∀ d, y.dst = some d → (d ∉ x.looksAt all.toArray ∨ (yaiy y.op = true ∧ yafe (masks all []) j i = true)) ∧ x.dst ≠ some d) ∧
    (∀ d, x.dst = some d → d ∈ y.looksAt all.toArray → yafe (masks all []) j i = true) ∧ (∀ e ∈ x.after, Region.binds .any e = true → e.on ≠ j)
theorem yadf {all : List Oper} {i j : Nat} (h : pairB all (masks all []) i j = true) : PairOk all i j := by
  unfold pairB at h
  rw [yacg, yacg] at h
  split at h
  · rename_i x hx
    split at h
    · rename_i y hy
      unfold pairO at h
      obtain ⟨h1, h⟩ := yaag h
      obtain ⟨h2, h3⟩ := yaag h
      refine ⟨x, y, hx, hy, fun d hd => ?_, fun d hd hm => ?_, fun e he hb heq => ?_⟩
      · rw [hd] at h1
        simp only [] at h1
        have hx' : ∀ b, cond b false (match x.dst with | some d' => !(Nat.beq d d') | none => true) = true → b = false ∧ x.dst ≠ some d := by
          intro b hb
          cases b with
          | true => cases hb
          | false =>
            refine ⟨rfl, fun hx' => ?_⟩
            rw [hx'] at hb
            simp at hb
        obtain ⟨h4, h5⟩ := hx' _ h1
        refine ⟨?_, h5⟩
        cases hc : (x.looksAt all.toArray).contains d with
        | false =>
          rw [List.contains_eq_mem, decide_eq_false_iff_not] at hc
          exact .inl hc
        | true =>
          rw [hc] at h4
          cases hh : yaiy y.op with
          | false => rw [hh] at h4; cases h4
          | true =>
            rw [hh] at h4
            refine .inr ⟨rfl, ?_⟩
            simpa using h4
      · rw [hd] at h2
        have hc : (y.looksAt all.toArray).contains d = true := by rw [List.contains_eq_mem, decide_eq_true_eq]; exact hm
        simp only [hc] at h2
        exact h2
      · have := yaat h3 e (by simpa using he)
        rw [hb, heq] at this
        simp at this
    · cases h
  · cases h
open Go
section
variable {P : Program} {F : Nat → Bool}
variable {n : Nat} {all : List Oper} {K : Env → Hp → Prop} {a0 : Act} {w0 : World}
def yaea (P : Program) (A : Act) (o : Oper) (h : Hp) (v : Value) : Prop := ∀ w : World, w.heap = h → (execOp A.eval o).run P w = .ok (.value v) w
def Pend (P : Program) (all : List Oper) (A : Act) (h : Hp) (fl : List Nat) (i : Nat) : Prop :=
  ∃ o v, all[i]? = some o ∧ yacq o.op = false ∧ (∀ d, o.dst = some d → A.tmps[d]? = some v) ∧
    ((Region.wanted o (yielded all.toArray A.tmps) = true ∧ yaea P A o h v ∧ ((∀ h', yaea P A o h' v) ∨ i ∈ fl)) ∨ (Region.wanted o (yielded all.toArray A.tmps) = false ∧ v = undef))
structure Inv (P : Program) (n : Nat) (all : List Oper) (a0 : Act) (w0 : World) (L : Array Bool) (a A : Act) (w : World) (rem fl : List Nat) (env : Env) : Prop where
  size : L.size = all.length
  closed : yalj all L
  remU : ∀ i ∈ rem, i < all.length ∧ L.getD i false = false
  gone : ∀ i, i < all.length → i ∉ rem → L.getD i false = true ∨ Pend P all A w.heap fl i
  pairs : ∀ i, i < all.length → i ∉ rem → ∀ j ∈ rem, PairOk all i j
  self : ∀ i, i < all.length → i ∉ rem → yagr all i = true
  gg : ∀ i j, i < all.length → j < all.length → i ∉ rem → j ∉ rem → i ≠ j → PairOk all i j ∨ PairOk all j i
  agree : ∀ t, (∀ i o, all[i]? = some o → i ∉ rem → L.getD i false = false → o.dst ≠ some t) → a.tmps[t]? = A.tmps[t]?
  asize : a.tmps.size = n
  mdl : Mdl n env A
  same : Same w0 w
  keeps : Keeps (yaal all) a0 a
  hard : ∀ i o, all[i]? = some o → i ∉ rem → yaiy o.op = true → L.getD i false = true
theorem yabc {o : Oper} {a A : Act} (hs : yacq o.op = false) (h : ∀ t ∈ o.looksAt all.toArray, a.tmps[t]? = A.tmps[t]?) :
    execOp a.eval o = execOp A.eval o ∧ Region.wanted o (yielded all.toArray a.tmps) = Region.wanted o (yielded all.toArray A.tmps) := by
  constructor
  · refine execOp_congr o (fun cs b he => by rw [he] at hs; cases hs) fun x hx => ?_
    cases x with
    | tmp t =>
      have := h t (List.mem_append_left _ (List.mem_filterMap.2 ⟨.tmp t, by simpa using hx, rfl⟩))
      simp only [Act.eval, Array.getD_eq_getD_getElem?, this]
    | _ => rfl
  · unfold Region.wanted
    cases hg : o.guard with
    | none => rfl
    | some gw =>
      obtain ⟨g, want⟩ := gw
      have hy : yielded all.toArray a.tmps g = yielded all.toArray A.tmps g := by
        unfold yielded
        cases ht : (all.toArray[g]?).bind (·.dst) with
        | none => rfl
        | some t =>
          have := h t (by simp only [Oper.looksAt, hg, ht]; simp)
          show (match a.tmps[t]? with | some (.bool b) => some b | _ => none) = (match A.tmps[t]? with | some (.bool b) => some b | _ => none)
          rw [this]
      simp only [hy]
theorem yahe {o : Oper} {A : Act} {d : Option Nat} {v : Value} (h : ∀ t, d = some t → t ∉ o.looksAt all.toArray) : ∀ t ∈ o.looksAt all.toArray, (A.put d v).tmps[t]? = A.tmps[t]? := by
  intro t ht
  cases d with
  | none => rfl
  | some d =>
    have hne : d ≠ t := fun e => h d rfl (e ▸ ht)
    simp only [Act.put]
    exact Array.getElem?_setIfInBounds_ne hne
theorem yaea.put {o : Oper} {A : Act} {h : Hp} {u v : Value} {d : Option Nat} (hs : yacq o.op = false) (hd : ∀ t, d = some t → t ∉ o.looksAt all.toArray) (hr : yaea P A o h v) : yaea P (A.put d u) o h v := by
  intro w hw
  rw [(yabc (all := all) hs (yahe hd)).1]
  exact hr w hw
theorem Pend.step {A : Act} {h h' : Hp} {fl fl' : List Nat} {i j : Nat} {oj : Oper} {u : Value} (hp : Pend P all A h fl i) (hj : all[j]? = some oj) (hpo : PairOk all i j) (hno : yaiy oj.op = true → yafe (masks all []) j i = true → False)
    (hh : (h' = h ∧ ∀ x ∈ fl, x ∈ fl') ∨ ∀ o v, all[i]? = some o → i ∈ fl → (∀ d, o.dst = some d → (A.put oj.dst u).tmps[d]? = some v) → Region.wanted o (yielded all.toArray (A.put oj.dst u).tmps) = true → yaea P (A.put oj.dst u) o h v → i ∈ fl' ∧ yaea P (A.put oj.dst u) o h' v) :
    Pend P all (A.put oj.dst u) h' fl' i := by
  obtain ⟨o, v, ho, hs, hd, hv⟩ := hp
  obtain ⟨x, y, hx, hy, h1, h2, h3⟩ := hpo.out
  obtain rfl : x = o := by rw [hx] at ho; exact Option.some.inj ho
  obtain rfl : y = oj := by rw [hy] at hj; exact Option.some.inj hj
  have hlook : ∀ t, y.dst = some t → t ∉ x.looksAt all.toArray := fun t ht => (h1 t ht).1.elim id fun hc => (hno hc.1 hc.2).elim
  have hd' : ∀ d, x.dst = some d → (A.put y.dst u).tmps[d]? = some v := by
    intro d hxd
    cases hyd : y.dst with
    | none => exact hd d hxd
    | some t =>
      have hne : t ≠ d := fun e => (h1 t hyd).2 (e ▸ hxd)
      simp only [Act.put]
      rw [Array.getElem?_setIfInBounds_ne hne]
      exact hd d hxd
  have hw := (yabc (all := all) (a := A.put y.dst u) (A := A) hs (yahe hlook)).2
  refine ⟨x, v, hx, hs, hd', ?_⟩
  rw [hw]
  rcases hv with ⟨hv1, hv2, hv3⟩ | hv
  · refine .inl ⟨hv1, ?_, ?_⟩
    · rcases hv3 with hv3 | hv3
      · exact (hv3 h').put hs hlook
      · rcases hh with ⟨rfl, _⟩ | hh
        · exact hv2.put hs hlook
        · exact (hh x v hx hv3 hd' (by rw [hw]; exact hv1) (hv2.put hs hlook)).2
    · rcases hv3 with hv3 | hv3
      · exact .inl fun h'' => (hv3 h'').put hs hlook
      · rcases hh with ⟨_, hfl⟩ | hh
        · exact .inr (hfl i hv3)
        · exact .inr (hh x v hx hv3 hd' (by rw [hw]; exact hv1) (hv2.put hs hlook)).1
  · exact .inr hv
theorem yaas {α : Type} {l : List α} {i : Nat} {x : α} (h : l[i]? = some x) : i < l.length := by
  rcases Nat.lt_or_ge i l.length with h1 | h1
  · exact h1
  · rw [List.getElem?_eq_none h1] at h; cases h
theorem yabx {i : Nat} {o : Oper} (ho : all[i]? = some o) (h : yagr all i = true) : (∀ e ∈ o.after, Region.binds .any e = true → e.on < i) ∧ (∀ d, o.dst = some d → d ∉ o.looksAt all.toArray) ∧ yacq o.op = false := by
  unfold yagr at h
  rw [yacg, ho] at h
  obtain ⟨h1, h⟩ := yaag h
  obtain ⟨h2, h3⟩ := yaag h
  refine ⟨fun e he hb => ?_, fun d hd hm => ?_, ?_⟩
  · have := yaat h1 e (by simpa using he)
    rw [hb] at this
    exact Nat.le_of_ble_eq_true this
  · rw [hd] at h2
    have hc : (o.looksAt all.toArray).contains d = true := by rw [List.contains_eq_mem, decide_eq_true_eq]; exact hm
    simp only [hc] at h2
    cases h2
  · cases hs : yacq o.op with
    | false => rfl
    | true => rw [hs] at h3; cases h3
theorem Inv.quiet {L : Array Bool} {a A : Act} {w : World} {rem fl fl' : List Nat} {env env' : Env} {i : Nat} {o : Oper} {v : Value} (b : Inv P n all a0 w0 L a A w rem fl env)
    (ho : all[i]? = some o) (hi : i ∈ rem) (hself : yagr all i = true) (hpair : ∀ j ∈ delN i rem, PairOk all i j) (hs : yacq o.op = false) (hhd : yaiy o.op = false) (hfl : ∀ x ∈ fl, x ∈ fl')
    (hm : Mdl n env' (A.put o.dst v)) (hd : ∀ d, o.dst = some d → d < n)
    (hv : (Region.wanted o (yielded all.toArray A.tmps) = true ∧ yaea P A o w.heap v ∧ ((∀ h', yaea P A o h' v) ∨ i ∈ fl')) ∨ (Region.wanted o (yielded all.toArray A.tmps) = false ∧ v = undef))
    (hlk : ∀ d, o.dst = some d → d ∉ o.looksAt all.toArray) :
    Inv P n all a0 w0 L a (A.put o.dst v) w (delN i rem) fl' env' := by
  have hil := (b.remU i hi).1
  have cases_ : ∀ j, j < all.length → j ∉ delN i rem → j = i ∨ j ∉ rem := by
    intro j _ hj
    by_cases e : j = i
    · exact .inl e
    · exact .inr fun hm => hj (yaav.2 ⟨hm, e⟩)
  have hsz : A.tmps.size = n := b.mdl.size
  refine ⟨b.size, b.closed, fun j hj => b.remU j (yaav.1 hj).1, ?_, ?_, ?_, ?_, ?_, b.asize, hm, b.same, b.keeps, ?hard⟩
  case hard =>
    intro j oj hoj hjn hh
    rcases cases_ j (yaas hoj) hjn with rfl | hjr
    · obtain rfl : o = oj := by rw [ho] at hoj; exact Option.some.inj hoj
      rw [hhd] at hh; cases hh
    · exact b.hard j oj hoj hjr hh
  · intro j hj hjn
    rcases cases_ j hj hjn with rfl | hjr
    · refine .inr ⟨o, v, ho, hs, ?_, ?_⟩
      · intro d hd'
        rw [hd']
        simp only [Act.put]
        rw [Array.getElem?_setIfInBounds_self, if_pos (by rw [hsz]; exact hd d hd')]
      · have hw := yabc (all := all) (a := A.put o.dst v) (A := A) hs (yahe hlk)
        rw [hw.2]
        rcases hv with ⟨h1, h2, h3⟩ | hv
        · exact .inl ⟨h1, h2.put hs hlk, h3.imp (fun h h' => (h h').put hs hlk) id⟩
        · exact .inr hv
    · rcases b.gone j hj hjr with h | h
      · exact .inl h
      · exact .inr (h.step ho (b.pairs j hj hjr i hi) (fun h1 => by rw [hhd] at h1; cases h1) (.inl ⟨rfl, hfl⟩))
  · intro j hj hjn k hk
    rcases cases_ j hj hjn with rfl | hjr
    · exact hpair k hk
    · exact b.pairs j hj hjr k (yaav.1 hk).1
  · intro j hj hjn
    rcases cases_ j hj hjn with rfl | hjr
    · exact hself
    · exact b.self j hj hjr
  · intro j k hj hk hjn hkn hne
    rcases cases_ j hj hjn with rfl | hjr <;> rcases cases_ k hk hkn with rfl | hkr
    · exact absurd rfl hne
    · exact .inr (b.pairs k hk hkr _ hi)
    · exact .inl (b.pairs j hj hjr _ hi)
    · exact b.gg j k hj hk hjr hkr hne
  · intro t ht
    have hold := b.agree t (fun j oj hj hjr hl => ht j oj hj (fun hm => hjr (yaav.1 hm).1) hl)
    rw [hold]
    cases hod : o.dst with
    | none => rfl
    | some d =>
      have hne : d ≠ t := fun e => ht i o ho (fun hm => (yaav.1 hm).2 rfl) (b.remU i hi).2 (by rw [hod, e])
      simp only [Act.put]
      rw [Array.getElem?_setIfInBounds_ne hne]
theorem Inv.looks {L : Array Bool} {a A : Act} {w : World} {rem fl : List Nat} {env : Env} (b : Inv P n all a0 w0 L a A w rem fl env) {j : Nat} {o : Oper} (ho : all[j]? = some o)
    (hall : ∀ e ∈ o.after, Region.binds .any e = true → L.getD e.on false = true) (hlk : j ∉ rem → ∀ d, o.dst = some d → d ∉ o.looksAt all.toArray) :
    ∀ t ∈ o.looksAt all.toArray, a.tmps[t]? = A.tmps[t]? := by
  intro t ht
  refine b.agree t fun i oi hi hir hl hd => ?_
  have hil := yaas hi
  have hjl := yaas ho
  have first : PairOk all i j → False := by
    intro hp
    obtain ⟨x, y, hx, hy, _, h2, _⟩ := hp.out
    obtain rfl : x = oi := by rw [hx] at hi; exact Option.some.inj hi
    obtain rfl : y = o := by rw [hy] at ho; exact Option.some.inj ho
    have := yads b.closed ho (h2 t hd ht) hall
    rw [hl] at this
    cases this
  by_cases hjr : j ∈ rem
  · exact first (b.pairs i hil hir j hjr)
  · by_cases hij : i = j
    · subst hij
      obtain rfl : oi = o := by rw [hi] at ho; exact Option.some.inj ho
      exact hlk hjr t hd ht
    · rcases b.gg i j hil hjl hir hjr hij with hp | hp
      · exact first hp
      · obtain ⟨x, y, hx, hy, h1, _, _⟩ := hp.out
        obtain rfl : x = o := by rw [hx] at ho; exact Option.some.inj ho
        obtain rfl : y = oi := by rw [hy] at hi; exact Option.some.inj hi
        rcases (h1 t hd).1 with h3 | h3
        · exact h3 ht
        · have := b.hard i _ hy hir h3.1
          rw [hl] at this; cases this
theorem yalj.set {L : Array Bool} (hc : yalj all L) {j : Nat} {o : Oper} (ho : all[j]? = some o) (hall : ∀ e ∈ o.after, Region.binds .any e = true → L.getD e.on false = true) : yalj all (L.setIfInBounds j true) := by
  have mono : ∀ x, L.getD x false = true → (L.setIfInBounds j true).getD x false = true := by
    intro x hx
    rw [Array.getD_eq_getD_getElem?] at hx ⊢
    by_cases hxi : j = x
    · subst hxi
      rw [Array.getElem?_setIfInBounds_self]
      split
      · rfl
      · rename_i hn
        rw [Array.getElem?_eq_none (by omega)] at hx
        cases hx
    · rw [Array.getElem?_setIfInBounds_ne hxi]; exact hx
  intro i oi hi hoi e he hb
  by_cases hij : j = i
  · subst hij
    obtain rfl : o = oi := by rw [ho] at hoi; exact Option.some.inj hoi
    exact mono _ (hall e he hb)
  · rw [Array.getD_eq_getD_getElem?, Array.getElem?_setIfInBounds_ne hij, ← Array.getD_eq_getD_getElem?] at hi
    exact mono _ (hc i oi hi hoi e he hb)
theorem yaco {L : Array Bool} {i j : Nat} (hij : j ≠ i) (b : Bool) : (L.setIfInBounds j true).getD i b = L.getD i b := by
  rw [Array.getD_eq_getD_getElem?, Array.getElem?_setIfInBounds_ne hij, ← Array.getD_eq_getD_getElem?]
theorem yabd {L : Array Bool} {j : Nat} (h : j < L.size) (b : Bool) : (L.setIfInBounds j true).getD j b = true := by
  rw [Array.getD_eq_getD_getElem?, Array.getElem?_setIfInBounds_self, if_pos h]; rfl
theorem Inv.late {L : Array Bool} {a A : Act} {w : World} {rem fl : List Nat} {env : Env} (b : Inv P n all a0 w0 L a A w rem fl env) {j : Nat} {o : Oper} {v : Value} (ho : all[j]? = some o) (hjr : j ∉ rem)
    (hall : ∀ e ∈ o.after, Region.binds .any e = true → L.getD e.on false = true) (hd : ∀ d, o.dst = some d → A.tmps[d]? = some v) :
    Inv P n all a0 w0 (L.setIfInBounds j true) (a.put o.dst v) A w rem fl env := by
  have hjl := yaas ho
  have hne : ∀ i ∈ rem, j ≠ i := fun i hi e => hjr (e ▸ hi)
  refine ⟨by simp [b.size], b.closed.set ho hall, fun i hi => ⟨(b.remU i hi).1, by rw [yaco (hne i hi)]; exact (b.remU i hi).2⟩, ?_, b.pairs, b.self, b.gg, ?_, ?_, b.mdl, b.same, ?_, ?hard⟩
  case hard =>
    intro i oi hoi hir hh
    by_cases hij : j = i
    · subst hij; exact yabd (by rw [b.size]; exact hjl) _
    · rw [yaco hij]; exact b.hard i oi hoi hir hh
  · intro i hi hir
    by_cases hij : j = i
    · subst hij; exact .inl (yabd (by rw [b.size]; exact hjl) _)
    · rw [yaco hij]; exact b.gone i hi hir
  · intro t ht
    cases hod : o.dst with
    | none =>
      refine b.agree t fun i oi hi hir hl => ?_
      by_cases hij : j = i
      · subst hij
        obtain rfl : o = oi := by rw [ho] at hi; exact Option.some.inj hi
        rw [hod]; simp
      · exact ht i oi hi hir (by rw [yaco hij]; exact hl)
    | some d =>
      have hA := hd d hod
      have hdn : d < n := by
        rw [← b.mdl.size]
        rcases Nat.lt_or_ge d A.tmps.size with h | h
        · exact h
        · rw [Array.getElem?_eq_none h] at hA; cases hA
      by_cases hdt : d = t
      · subst hdt
        simp only [Act.put]
        rw [Array.getElem?_setIfInBounds_self, if_pos (by rw [b.asize]; exact hdn), hA]
      · simp only [Act.put]
        rw [Array.getElem?_setIfInBounds_ne hdt]
        refine b.agree t fun i oi hi hir hl => ?_
        by_cases hij : j = i
        · subst hij
          obtain rfl : o = oi := by rw [ho] at hi; exact Option.some.inj hi
          rw [hod]
          intro e; exact hdt (Option.some.inj e)
        · exact ht i oi hi hir (by rw [yaco hij]; exact hl)
  · cases hod : o.dst <;> simp [Act.put, b.asize]
  · refine b.keeps.trans (Keeps.put a v fun d hd' => ?_)
    have : ∀ l : List Oper, o ∈ l → d ∈ yaal l := by
      intro l
      induction l with
      | nil => intro h; cases h
      | cons x r ih =>
        intro h
        simp only [yaal, List.mem_append]
        rcases List.mem_cons.1 h with rfl | h
        · rw [hd']; exact .inl (by simp [optL])
        · exact .inr (ih h)
    exact this all (List.mem_of_getElem? ho)
theorem Inv.world {L : Array Bool} {a A : Act} {w w' : World} {rem fl fl' : List Nat} {env env' : Env} {i : Nat} {o : Oper} {v : Value} (b : Inv P n all a0 w0 L a A w rem fl env)
    (ho : all[i]? = some o) (hi : i ∈ rem) (hself : yagr all i = true) (hpair : ∀ j ∈ delN i rem, PairOk all i j)
    (hall : ∀ e ∈ o.after, Region.binds .any e = true → L.getD e.on false = true) (hm : Mdl n env' (A.put o.dst v)) (hs' : Same w w')
    (hre : ∀ j oj u, all[j]? = some oj → j ∉ rem → L.getD j false = false → j ∈ fl → (∀ d, oj.dst = some d → (A.put o.dst v).tmps[d]? = some u) → Region.wanted oj (yielded all.toArray (A.put o.dst v).tmps) = true → yaea P (A.put o.dst v) oj w.heap u → j ∈ fl' ∧ yaea P (A.put o.dst v) oj w'.heap u) :
    Inv P n all a0 w0 (L.setIfInBounds i true) (a.put o.dst v) (A.put o.dst v) w' (delN i rem) fl' env' := by
  have hil := (b.remU i hi).1
  have cases_ : ∀ j, j < all.length → j ∉ delN i rem → j = i ∨ j ∉ rem := by
    intro j _ hj
    by_cases e : j = i
    · exact .inl e
    · exact .inr fun hm => hj (yaav.2 ⟨hm, e⟩)
  have hset : (L.setIfInBounds i true).getD i false = true := yabd (by rw [b.size]; exact hil) _
  refine ⟨by simp [b.size], b.closed.set ho hall, ?_, ?_, ?_, ?_, ?_, ?_, ?_, hm, b.same.trans hs', ?_, ?hard⟩
  case hard =>
    intro j oj hoj hjn hh
    rcases cases_ j (yaas hoj) hjn with rfl | hjr
    · exact hset
    · have hij : i ≠ j := fun e => hjr (e ▸ hi)
      rw [yaco hij]; exact b.hard j oj hoj hjr hh
  · intro j hj
    obtain ⟨h1, h2⟩ := yaav.1 hj
    exact ⟨(b.remU j h1).1, by rw [yaco (Ne.symm h2)]; exact (b.remU j h1).2⟩
  · intro j hj hjn
    rcases cases_ j hj hjn with rfl | hjr
    · exact .inl hset
    · have hij : i ≠ j := fun e => hjr (e ▸ hi)
      rw [yaco hij]
      cases hl : L.getD j false with
      | true => exact .inl rfl
      | false =>
        rcases b.gone j hj hjr with h | h
        · rw [hl] at h; cases h
        · exact .inr (h.step ho (b.pairs j hj hjr i hi) (fun _ hr => by have := yads b.closed ho hr hall; rw [hl] at this; cases this) (.inr fun oj u hoj hjf hd hwt hr => hre j oj u hoj hjr hl hjf hd hwt hr))
  · intro j hj hjn k hk
    rcases cases_ j hj hjn with rfl | hjr
    · exact hpair k hk
    · exact b.pairs j hj hjr k (yaav.1 hk).1
  · intro j hj hjn
    rcases cases_ j hj hjn with rfl | hjr
    · exact hself
    · exact b.self j hj hjr
  · intro j k hj hk hjn hkn hne
    rcases cases_ j hj hjn with rfl | hjr <;> rcases cases_ k hk hkn with rfl | hkr
    · exact absurd rfl hne
    · exact .inr (b.pairs k hk hkr _ hi)
    · exact .inl (b.pairs j hj hjr _ hi)
    · exact b.gg j k hj hk hjr hkr hne
  · intro t ht
    have hold : a.tmps[t]? = A.tmps[t]? := by
      refine b.agree t fun j oj hj hjr hl => ?_
      have hij : i ≠ j := fun e => hjr (e ▸ hi)
      exact ht j oj hj (fun hm => hjr (yaav.1 hm).1) (by rw [yaco hij]; exact hl)
    cases hod : o.dst with
    | none => exact hold
    | some d =>
      simp only [Act.put]
      by_cases hdt : d = t
      · subst hdt
        rw [Array.getElem?_setIfInBounds_self, Array.getElem?_setIfInBounds_self, b.asize, b.mdl.size]
      · rw [Array.getElem?_setIfInBounds_ne hdt, Array.getElem?_setIfInBounds_ne hdt]
        exact hold
  · cases hod : o.dst <;> simp [Act.put, b.asize]
  · refine b.keeps.trans (Keeps.put a v fun d hd' => ?_)
    have : ∀ l : List Oper, o ∈ l → d ∈ yaal l := by
      intro l
      induction l with
      | nil => intro h; cases h
      | cons x r ih =>
        intro h
        simp only [yaal, List.mem_append]
        rcases List.mem_cons.1 h with rfl | h
        · rw [hd']; exact .inl (by simp [optL])
        · exact .inr (ih h)
    exact this all (List.mem_of_getElem? ho)
theorem yaim {A : Act} {env : Env} {o : Oper} {h : Hp} {K : Value → Prop} (m : Mdl n env A) (hkn : known env o.op = true) (hk : oq P o.op (ev env) h K) :
    ∃ v, K v ∧ yaea P A o h v ∧ (pureV o.op (ev env) = true → ∀ h', yaea P A o h' v) := by
  have key : ∀ {h : Hp} {K : Value → Prop}, oq P o.op (ev env) h K → ∃ v, K v ∧ yaea P A o h v := by
    intro h K hk
    obtain ⟨nx, ⟨v, rfl, hv⟩, hr⟩ := yake _ _ _ (yakx (o := o) rfl hk)
    refine ⟨v, hv, fun w hw => ?_⟩
    rw [m.execOp hkn]
    exact hr w hw
  by_cases hp : pureV o.op (ev env) = true
  · obtain ⟨v, hv, hall⟩ := ybgc hp hk
    have all' : ∀ h', yaea P A o h' v := by
      intro h'
      obtain ⟨u, hu, hr⟩ := key (hall h' (fun u => u = v) rfl)
      subst hu
      exact hr
    exact ⟨v, hv, all' h, fun _ => all'⟩
  · obtain ⟨v, hv, hr⟩ := key hk
    exact ⟨v, hv, hr, fun h => absurd h hp⟩
theorem ybdf {L : Array Bool} {a : Act} {w : World} {j : Nat} {oj : Oper} (hoj : all[j]? = some oj) (hall : ∀ e ∈ oj.after, Region.binds .any e = true → L.getD e.on false = true) :
    ∀ (p : Plan) (A : Act) (rem fl : List Nat) (env : Env), Inv P n all a0 w0 L a A w rem fl env → planB all (masks all []) p true rem = true → sxP P F n all (masks all []) K p fl env w.heap → j ∈ rem →
      ∃ (p' : Plan) (A' : Act) (rem' fl' : List Nat) (env' : Env), Inv P n all a0 w0 L a A' w rem' fl' env' ∧ planB all (masks all []) p' true rem' = true ∧ sxP P F n all (masks all []) K p' fl' env' w.heap ∧ (j ∉ rem' ∨ j ∈ rem' ∧ j ∈ yalv p') := by
  intro p
  induction p with
  | fin =>
    intro A rem fl env b hp hk hj
    unfold planB at hp
    simp only [cond] at hp
    cases rem with
    | nil => cases hj
    | cons => cases hp
  | no => intro A rem fl env b hp hk hj; cases hp
  | wo i r b' ih1 ih2 =>
    intro A rem fl env b hp hk hj
    refine ⟨_, A, rem, fl, env, b, hp, hk, .inr ⟨hj, ?_⟩⟩
    unfold planB at hp
    obtain ⟨h1, h2⟩ := yaag hp
    have h1 := yaat h1 j hj
    cases hm : memN j (i :: yalv b') with
    | true => exact yafs hm
    | false =>
      exfalso
      rw [hm] at h1
      obtain ⟨m, hmf, hr⟩ := yaoy h1
      have hl := yads b.closed hoj hr hall
      have hmr : m ∈ rem := by
        have : ∀ (q : Plan) (top : Bool), planB all (masks all []) q top rem = true → ∀ m ∈ yalv q, m ∈ rem := by
          intro q
          induction q with
          | wo i r b' _ ih =>
            intro top hq m hm
            unfold planB at hq
            obtain ⟨_, hq⟩ := yaag hq
            obtain ⟨hq1, hq⟩ := yaag hq
            obtain ⟨_, hq⟩ := yaag hq
            obtain ⟨_, hq⟩ := yaag hq
            obtain ⟨_, hq⟩ := yaag hq
            rcases List.mem_cons.1 hm with rfl | hm
            · exact yafs hq1
            · exact ih false hq m hm
          | fin => intro _ _ m hm; cases hm
          | no => intro _ _ m hm; cases hm
          | qu _ _ _ => intro _ _ m hm; cases hm
        exact this (.wo i r b') true hp m hmf
      rw [(b.remU m hmr).2] at hl
      cases hl
  | qu i r ih =>
    intro A rem fl env b hp hk hj
    unfold planB at hp
    obtain ⟨_, hp⟩ := yaag hp
    obtain ⟨h1, hp⟩ := yaag hp
    obtain ⟨h2, hp⟩ := yaag hp
    obtain ⟨h3, hp⟩ := yaag hp
    obtain ⟨h4, h5⟩ := yaag hp
    have hi := yafs h1
    have hpair : ∀ j ∈ delN i rem, PairOk all i j := fun j hj => yadf (yaat h4 j hj)
    unfold sxP at hk
    rw [yacg] at hk
    split at hk
    · rename_i o ho
      obtain ⟨hs1, hs2, hs3⟩ := yabx ho h3
      have go : ∀ (v : Value) (fl' : List Nat) (env' : Env), (∀ x ∈ fl, x ∈ fl') → Mdl n env' (A.put o.dst v) → (∀ d, o.dst = some d → d < n) →
          ((Region.wanted o (yielded all.toArray A.tmps) = true ∧ yaea P A o w.heap v ∧ ((∀ h', yaea P A o h' v) ∨ i ∈ fl')) ∨ (Region.wanted o (yielded all.toArray A.tmps) = false ∧ v = undef)) →
          sxP P F n all (masks all []) K r fl' env' w.heap → ∃ (p' : Plan) (A' : Act) (rem' fl' : List Nat) (env' : Env), Inv P n all a0 w0 L a A' w rem' fl' env' ∧ planB all (masks all []) p' true rem' = true ∧ sxP P F n all (masks all []) K p' fl' env' w.heap ∧ (j ∉ rem' ∨ j ∈ rem' ∧ j ∈ yalv p') := by
        intro v fl' env' hfl hm hd hv hk'
        have hhd : yaiy o.op = false := by
          unfold quietAt at h2
          rw [yacg, ho] at h2
          obtain ⟨_, h2⟩ := yaag h2
          simpa using h2
        have b' := b.quiet ho hi h3 hpair hs3 hhd hfl hm hd hv hs2
        by_cases hji : j = i
        · exact ⟨r, _, _, _, _, b', h5, hk', .inl fun hm => (yaav.1 hm).2 hji⟩
        · exact ih _ _ _ _ b' h5 hk' (yaav.2 ⟨hj, hji⟩)
      have putd : ∀ {v : Value} {e : Env} {k : Env → Prop}, putE n o.dst v e k → ∀ d, o.dst = some d → d < n := by
        intro v e k hk d hd
        unfold putE at hk
        rw [hd] at hk
        obtain ⟨hd', _⟩ := yaae hk
        exact Nat.le_of_ble_eq_true hd'
      rcases yadt b.mdl hk with ⟨hwt, env1, m1, hk⟩ | ⟨hwt, env1, m1, hk⟩
      · obtain ⟨hkn, hk⟩ := yaae hk
        obtain ⟨v, hv, hr, hpu⟩ := yaim m1 hkn hk
        have hdn := putd hv
        obtain ⟨env2, m2, hv⟩ := yacr m1 hv
        refine go v _ env2 ?_ m2 hdn (.inl ⟨hwt, hr, ?_⟩) hv
        · intro x hx
          unfold ybdd
          cases pureV o.op (ev env1)
          · exact List.mem_cons_of_mem _ hx
          · exact hx
        · cases hpv : pureV o.op (ev env1) with
          | true => exact .inl (hpu hpv)
          | false => exact .inr List.mem_cons_self
      · have hdn := putd hk
        obtain ⟨env2, m2, hv⟩ := yacr m1 hk
        exact go undef _ env2 (fun x hx => hx) m2 hdn (.inr ⟨hwt, rfl⟩) hv
    · exact hk.elim
abbrev woC (P : Program) (F : Nat → Bool) (n : Nat) (all : List Oper) (K : Env → Hp → Prop) (i : Nat) (o : Oper) (r : Plan) (fl : List Nat) (env : Env) (h : Hp) : Prop :=
  yalh all env o.guard
      (fun env => chk (known env o.op) (ot P F o.op (tyOf all o) (ev env) h fun v h => putE n o.dst v env fun env =>
        rechk P all env h (sxP P F n all (masks all []) K r (keepL (masks all []) i fl) env h) (keepL (masks all []) i fl)))
      (fun env => putE n o.dst undef env fun env => sxP P F n all (masks all []) K r fl env h)
theorem ybdz {fl : List Nat} {env : Env} {h : Hp} {j : Nat} : ∀ (p : Plan) (top : Bool) (rem : List Nat), planB all (masks all []) p top rem = true → sxP P F n all (masks all []) K p fl env h → j ∈ yalv p →
    ∃ (r : Plan) (o : Oper), all[j]? = some o ∧ yagr all j = true ∧ (∀ i ∈ delN j rem, PairOk all j i) ∧ planB all (masks all []) r true (delN j rem) = true ∧ woC P F n all K j o r fl env h := by
  intro p
  induction p with
  | wo i r b _ ih =>
    intro top rem hp hk hj
    unfold planB at hp
    obtain ⟨_, hp⟩ := yaag hp
    obtain ⟨h1, hp⟩ := yaag hp
    obtain ⟨h2, hp⟩ := yaag hp
    obtain ⟨h3, hp⟩ := yaag hp
    obtain ⟨h4, h5⟩ := yaag hp
    unfold sxP at hk
    have hk1 : ∀ {X Y : Prop}, alsoB b X Y → X := by intro X Y h; unfold alsoB at h; split at h; exact h; exact h.1
    rcases List.mem_cons.1 hj with rfl | hj
    · have hk := hk1 hk
      rw [yacg] at hk
      split at hk
      · rename_i o ho
        exact ⟨r, o, ho, h2, fun i hi => yadf (yaat h3 i hi), h4, hk⟩
      · exact hk.elim
    · have hk2 : ∀ {X Y : Prop}, alsoB b X Y → Y := by
        intro X Y h
        unfold alsoB at h
        split at h
        · cases hj
        · exact h.2
      exact ih false rem h5 (hk2 hk) hj
  | fin => intro _ _ _ _ hj; cases hj
  | no => intro _ _ _ _ hj; cases hj
  | qu _ _ _ => intro _ _ _ _ hj; cases hj
theorem yaky {env : Env} {h : Hp} {X : Prop} : ∀ {l : List Nat}, rechk P all env h X l → X ∧ ∀ i ∈ l, ∃ o, all[i]? = some o ∧ known env o.op = true ∧ oq P o.op (ev env) h (eqD env o.dst)
  | [], hk => ⟨hk, fun i hi => by cases hi⟩
  | i :: r, hk => by
    unfold rechk at hk
    obtain ⟨h1, h2⟩ := hk
    obtain ⟨hX, hr⟩ := yaky h2
    refine ⟨hX, fun k hk => ?_⟩
    rcases List.mem_cons.1 hk with rfl | hk
    · rw [yacg] at h1
      split at h1
      · rename_i o ho
        obtain ⟨h3, h4⟩ := yaae h1
        exact ⟨o, ho, h3, h4⟩
      · exact h1.elim
    · exact hr k hk
theorem yaph {p q : Nat → Bool} {j : Nat} : ∀ {l : List Nat}, (∀ i, q i = true → p i = true) → j ∈ l → p j = true → q j = false → (l.filter q).length < (l.filter p).length
  | [], _, h, _, _ => by cases h
  | i :: r, hpq, hj, hp, hq => by
    have mono : ∀ l : List Nat, (l.filter q).length ≤ (l.filter p).length := by
      intro l
      induction l with
      | nil => exact Nat.le_refl _
      | cons x l ih =>
        simp only [List.filter_cons]
        cases hqx : q x with
        | true => rw [hpq x hqx]; simp; exact ih
        | false => cases p x <;> simp <;> omega
    rcases List.mem_cons.1 hj with rfl | hj
    · simp only [List.filter_cons, hp, hq, if_true, List.length_cons]
      have := mono r
      simp; omega
    · have ih := yaph (l := r) hpq hj hp hq
      simp only [List.filter_cons]
      cases hqi : q i with
      | true => rw [hpq i hqi]; simp; exact ih
      | false => cases p i <;> simp <;> omega
def unl (all : List Oper) (L : Array Bool) : Nat := ((List.range all.length).filter fun i => !L.getD i false).length
theorem yaox {L : Array Bool} {j : Nat} (hL : L.size = all.length) (hj : j < all.length) (hl : L.getD j false = false) : unl all (L.setIfInBounds j true) < unl all L := by
  unfold unl
  refine yaph (j := j) (fun i hi => ?_) (List.mem_range.2 hj) (by rw [hl]; rfl) (by rw [yabd (by rw [hL]; exact hj)]; rfl)
  by_cases hij : j = i
  · subst hij; rw [hl]; rfl
  · rwa [yaco hij] at hi
theorem yarv (hF : ∀ g, F g = true → yaau P g) (topo : ∀ j o, all[j]? = some o → ∀ e ∈ o.after, Region.binds .any e = true → e.on < j) : ∀ (fuel : Nat) (L : Array Bool) (a A : Act) (w : World) (p : Plan) (rem fl : List Nat) (env : Env),
    unl all L ≤ fuel → Inv P n all a0 w0 L a A w rem fl env → planB all (masks all []) p true rem = true → sxP P F n all (masks all []) K p fl env w.heap →
    wpAny P .any all.toArray (Post n (yaal all) a0 w0 fun e env h => e = .normal ∧ K env h) fuel L a w := by
  intro fuel
  induction fuel with
  | zero =>
    intro L a A w p rem fl env hu b hp hk
    have hall : ∀ i, i < all.length → L.getD i false = true := by
      intro i hi
      cases hl : L.getD i false with
      | true => rfl
      | false => have := yaox b.size hi hl; omega
    refine ⟨?_, ?_⟩
    · refine List.eq_nil_iff_forall_not_mem.2 fun j hj => ?_
      obtain ⟨h1, o, ho, _⟩ := yaaz.1 hj
      have ho' : all[j]? = some o := by simpa using ho
      have hjl := yaas ho'
      have h2 := hall j hjl
      have hsz : j < L.size := by rw [b.size]; exact hjl
      rw [Array.getD_eq_getD_getElem?, Array.getElem?_eq_getElem hsz] at h1 h2
      simp at h1 h2
      rw [h1] at h2
      cases h2
    · have hrem : rem = [] := by
        cases rem with
        | nil => rfl
        | cons i r =>
          obtain ⟨h1, h2⟩ := b.remU i List.mem_cons_self
          rw [hall i h1] at h2
          cases h2
      subst hrem
      have hfin : p = .fin := by
        cases p with
        | fin => rfl
        | no => cases hp
        | qu i r => unfold planB at hp; obtain ⟨_, hp⟩ := yaag hp; obtain ⟨h1, _⟩ := yaag hp; cases h1
        | wo i r b => unfold planB at hp; obtain ⟨_, hp⟩ := yaag hp; obtain ⟨h1, _⟩ := yaag hp; cases h1
      subst hfin
      have hag : ∀ t, a.tmps[t]? = A.tmps[t]? := fun t => b.agree t fun i oi hi _ hl => by rw [hall i (yaas hi)] at hl; cases hl
      exact ⟨env, ⟨b.asize, fun i v hv => by rw [hag]; exact b.mdl.get i v hv⟩, b.same, b.keeps, rfl, hk⟩
  | succ fuel ih =>
    intro L a A w p rem fl env hu b hp hk
    refine ⟨fun hr => ?_, fun j hj => ?_⟩
    · have hall : ∀ i, i < all.length → L.getD i false = true := by
        intro i
        induction i using Nat.strongRecOn with
        | _ i ihh =>
          intro hi
          cases hl : L.getD i false with
          | true => rfl
          | false =>
            exfalso
            have : i ∈ Region.ready .any all.toArray L := by
              refine yaaz.2 ⟨?_, all[i], by simp [hi], fun e he hb => ?_⟩
              · have hsz : i < L.size := by rw [b.size]; exact hi
                rw [Array.getD_eq_getD_getElem?, Array.getElem?_eq_getElem hsz] at hl ⊢
                exact hl
              · have := topo i _ (List.getElem?_eq_getElem hi) e he hb
                exact ihh e.on this (by omega)
            rw [hr] at this
            cases this
      have hz : unl all L = 0 := by
        unfold unl
        rw [List.length_eq_zero_iff, List.filter_eq_nil_iff]
        intro i hi
        rw [hall i (List.mem_range.1 hi)]
        simp
      have hrem : rem = [] := by
        cases rem with
        | nil => rfl
        | cons i r =>
          obtain ⟨h1, h2⟩ := b.remU i List.mem_cons_self
          rw [hall i h1] at h2
          cases h2
      subst hrem
      have hfin : p = .fin := by
        cases p with
        | fin => rfl
        | no => cases hp
        | qu i r => unfold planB at hp; obtain ⟨_, hp⟩ := yaag hp; obtain ⟨h1, _⟩ := yaag hp; cases h1
        | wo i r b => unfold planB at hp; obtain ⟨_, hp⟩ := yaag hp; obtain ⟨h1, _⟩ := yaag hp; cases h1
      subst hfin
      have hag : ∀ t, a.tmps[t]? = A.tmps[t]? := fun t => b.agree t fun i oi hi _ hl => by rw [hall i (yaas hi)] at hl; cases hl
      exact ⟨env, ⟨b.asize, fun i v hv => by rw [hag]; exact b.mdl.get i v hv⟩, b.same, b.keeps, rfl, hk⟩
    · obtain ⟨h1, o, ho, hedge⟩ := yaaz.1 hj
      have ho' : all[j]? = some o := by simpa using ho
      have hjl := yaas ho'
      have hl : L.getD j false = false := by
        have hsz : j < L.size := by rw [b.size]; exact hjl
        rw [Array.getD_eq_getD_getElem?, Array.getElem?_eq_getElem hsz] at h1 ⊢
        exact h1
      have hun : unl all (L.setIfInBounds j true) ≤ fuel := by have := yaox b.size hjl hl; omega
      -- what was pending
      have late : ∀ (A : Act) (p : Plan) (rem fl : List Nat) (env : Env), Inv P n all a0 w0 L a A w rem fl env → planB all (masks all []) p true rem = true → sxP P F n all (masks all []) K p fl env w.heap → j ∉ rem →
          wpOp P all.toArray (Post n (yaal all) a0 w0 fun e env h => e = .normal ∧ K env h) j (wpAny P .any all.toArray (Post n (yaal all) a0 w0 fun e env h => e = .normal ∧ K env h) fuel (L.setIfInBounds j true)) a w := by
        intro A p rem fl env b hp hk hjr
        obtain ⟨_, hs2, hs3⟩ := yabx ho' (b.self j hjl hjr)
        have hlk := yabc (all := all) (a := a) (A := A) hs3 (b.looks ho' hedge fun _ => hs2)
        rcases b.gone j hjl hjr with h | ⟨o2, v, ho2, _, hd, hv⟩
        · rw [hl] at h; cases h
        obtain rfl : o = o2 := by rw [ho'] at ho2; exact Option.some.inj ho2
        have b' := b.late ho' hjr hedge hd
        have next := ih (L.setIfInBounds j true) (a.put o.dst v) A w p rem fl env hun b' hp hk
        unfold wpOp
        rw [ho]
        simp only []
        rw [hlk.2]
        rcases hv with ⟨hw, hr, _⟩ | ⟨hw, rfl⟩
        · rw [if_pos hw]
          refine .inl ?_
          unfold Oper.wp
          rw [hlk.1, hr w rfl]
          exact next
        · rw [if_neg (by rw [hw]; simp)]
          exact next
      by_cases hjr : j ∈ rem
      · obtain ⟨p', A', rem', fl', env', b', hp', hk', hor⟩ := ybdf ho' hedge p A rem fl env b hp hk hjr
        rcases hor with hor | ⟨hjr', hjf⟩
        · exact late A' p' rem' fl' env' b' hp' hk' hor
        · obtain ⟨r, o2, ho2, hself, hpair, hpr, hC⟩ := ybdz p' true rem' hp' hk' hjf
          obtain rfl : o = o2 := by rw [ho'] at ho2; exact Option.some.inj ho2
          obtain ⟨_, hs2, hs3⟩ := yabx ho' hself
          have hlk := yabc (all := all) (a := a) (A := A') hs3 (b'.looks ho' hedge fun hn => absurd hjr' hn)
          unfold wpOp
          rw [ho]
          simp only []
          rw [hlk.2]
          rcases yadt b'.mdl hC with ⟨hwt, env1, m1, hC⟩ | ⟨hwt, env1, m1, hC⟩
          · obtain ⟨hkn, hC⟩ := yaae hC
            rw [if_pos hwt]
            refine .inl ?_
            have h1 := yamz hF (o := o) rfl hC
            rw [← m1.execOp hkn, ← hlk.1] at h1
            refine yagh h1 fun v w' hs hv => ?_
            obtain ⟨env2, m2, hv⟩ := yacr m1 hv
            obtain ⟨hX, hre⟩ := yaky hv
            refine ih _ _ (A'.put o.dst v) w' r (delN j rem') (keepL (masks all []) j fl') env2 hun (b'.world ho' hjr' hself hpair hedge m2 hs ?_) hpr hX
            intro i oi u hoi hir hil hif hd _ _
            have hk : i ∈ keepL (masks all []) j fl' := by
              refine yajo.2 ⟨hif, ?_⟩
              cases hrm : yafe (masks all []) j i with
              | false => rfl
              | true =>
                have := yads b'.closed ho' hrm hedge
                rw [hil] at this
                cases this
            refine ⟨hk, ?_⟩
            obtain ⟨oi', hoi', hkn', hoq⟩ := hre i hk
            obtain rfl : oi' = oi := by rw [hoi'] at hoi; exact Option.some.inj hoi
            obtain ⟨v2, hv2, hr2, _⟩ := yaim m2 hkn' hoq
            unfold eqD at hv2
            split at hv2
            · rename_i d hdd
              split at hv2
              · rename_i u2 hu2
                have h5 := m2.get d _ hu2
                rw [hd d hdd] at h5
                subst hv2
                rw [Option.some.inj h5]; exact hr2
              · exact hv2.elim
            · exact hv2.elim
          · rw [if_neg (by rw [hwt]; simp)]
            obtain ⟨env2, m2, hv⟩ := yacr m1 hC
            exact ih _ _ (A'.put o.dst undef) w r (delN j rem') fl' env2 hun (b'.world ho' hjr' hself hpair hedge m2 (Same.refl w) (fun _ _ _ _ _ _ hjf _ _ hr => ⟨hjf, hr⟩)) hpr hv
      · exact late A p rem fl env b hp hk hjr
end
open Go
def Wd (ro : Option Nat) : Fence := { fn := fun _ => True, depth := none, alive := false, round := ro }
def yaix (P : Program) (l : Nat) (args : Array Value) (h : Hp) (K : Value → Hp → Prop) : Prop :=
  ∀ w : World, w.heap = h → ∃ fn tmps assign body, (Instr.yield l args).run P w = .ok (.round l fn tmps assign body) w ∧
    RoundIn Fence.wide 0 P l fn tmps assign body w fun e w' => ∃ v, e = .returned v ∧ Same w w' ∧ K v w'.heap
theorem yaix.mono {P : Program} {l : Nat} {args : Array Value} {h : Hp} {K K' : Value → Hp → Prop} (hc : yaix P l args h K) (hm : ∀ v h, K v h → K' v h) : yaix P l args h K' := fun w hw => by
  obtain ⟨fn, t, as, bd, h1, h2⟩ := hc w hw
  exact ⟨fn, t, as, bd, h1, h2.mono fun e w' ⟨v, he, hs, hk⟩ => ⟨v, he, hs, hm _ _ hk⟩⟩
def yanb (P : Program) (F : Nat → Bool) (f : Value) (args : List Value) (h : Hp) (K : Value → Hp → Prop) : Prop :=
  match f with
  | .func (.func g) first cap => callX P F g (first.toList ++ (args ++ cap.toList)).toArray h K
  | .func (.yield l) first _ => yaix P l (first.toList ++ args).toArray h K
  | _ => False
abbrev otY (P : Program) (F : Nat → Bool) (op : Op) (ty : TypeId) (ρ : Operand → Value) (h : Hp) (K : Value → Hp → Prop) : Prop :=
  match op with
  | .call { callee := .value f, args, .. } => yanb P F (ρ f) (args.toList.map ρ) h fun v h' => ExT P ty fun v' => v = v' ∧ K v' h'
  | op => ot P F op ty ρ h K
abbrev yajp (P : Program) (F : Nat → Bool) (n : Nat) (all : List Oper) : List Oper → Env → Hp → (Env → Hp → Prop) → Prop
  | [], env, h, K => K env h
  | o :: r, env, h, K => yalh all env o.guard
      (fun env => chk (known env o.op) (otY P F o.op (tyOf all o) (ev env) h fun v h => putE n o.dst v env fun env => yajp P F n all r env h K))
      (fun env => putE n o.dst undef env fun env => yajp P F n all r env h K)
section
variable {P : Program} {F : Nat → Bool}
theorem yapr {ro : Option Nat} {o : Oper} {a : Act} {next next' : Act → World → Prop} {Q Q' : Exit → Act → World → Prop} (hn : ∀ a w, next a w → next' a w) (hq : ∀ e a w, Q e a w → Q' e a w) (r : Result Next) (h : o.uponIn (Wd ro) 0 P a next Q r) : o.uponIn (Wd ro) 0 P a next' Q' r := by
  have hl : LetsOut Q → LetsOut Q' := fun ⟨a0, w0, h0⟩ => ⟨a0, w0, hq _ _ _ h0⟩
  cases r with
  | ok nx w' =>
    cases nx <;> simp only [Oper.uponIn] at h ⊢ <;> first
      | exact hn _ _ h
      | exact ⟨h.1, RowsIn.mono h.2 fun _ _ he => hn _ _ he⟩
      | exact ⟨h.1, CallsIn.mono h.2 fun e w'' he => (match e, he with
          | .returned _, he => hn _ _ he
          | .panicked _, he => hq _ _ _ he
          | .outgrown, he => hl he)⟩
      | exact ⟨h.1, RoundIn.mono h.2 fun e w'' he => (match e, he with
          | .returned _, he => hn _ _ he
          | .panicked _, he => hq _ _ _ he
          | .outgrown, he => hl he)⟩
      | exact h.elim
  | halt x w' => cases x <;> simp only [Oper.uponIn] at h ⊢ <;> first | exact hq _ _ _ h | exact h.elim
theorem yadj {ro : Option Nat} {ops : Array Oper} {Q Q' : Exit → Act → World → Prop} (hq : ∀ e a w, Q e a w → Q' e a w) : ∀ (l : List Oper) (a : Act) (w : World), wpListIn (Wd ro) 0 P ops Q l a w → wpListIn (Wd ro) 0 P ops Q' l a w := by
  intro l
  induction l with
  | nil => intro a w h; exact hq _ _ _ h
  | cons o r ih =>
    intro a w h
    unfold wpListIn at h ⊢
    split
    · rename_i hw
      rw [if_pos hw] at h
      exact ⟨h.1, yapr ih hq _ h.2⟩
    · rename_i hw
      rw [if_neg hw] at h
      exact ⟨h.1, ih _ _ h.2⟩
theorem yaue {ro : Option Nat} {o : Oper} {a : Act} {w : World} {K : Value → Hp → Prop} {next : Act → World → Prop} {Q : Exit → Act → World → Prop} (hd : ∀ c, o.op ≠ .defer c) (h : hw P (execOp a.eval o) w.heap (nextK P K))
    (hn : ∀ v w', Same w w' → K v w'.heap → next (a.put o.dst v) w') : o.wpIn (Wd ro) 0 P a w next Q := by
  obtain ⟨nx, w', hr, hs, hk⟩ := yavg _ _ _ h w rfl
  refine ⟨fun _ _ => trivial, ?_⟩
  rw [Oper.semAt_eq _ _ _ hd, hr]
  cases nx <;> simp only [nextK] at hk <;> first | exact hk.elim | skip
  · exact hn _ _ hs hk
  · exact hn _ _ hs hk
  · rename_i f args
    refine ⟨fun h => (by cases h), ?_⟩
    refine (callsIn_wide (n := 0)).2 ((hk w' rfl).mono fun e w'' ⟨v, he, hs', hv⟩ => ?_)
    subst he
    exact hn _ _ (hs.trans hs') hv
theorem yayz {F : Nat → Bool} {c : Call} {ty : TypeId} {ρ : Operand → Value} {h : Hp} {K : Value → Hp → Prop} : ¬ ot P F (.defer c) ty ρ h K := fun h => h
theorem yath {ro : Option Nat} {o : Oper} {a : Act} {w : World} {f : Operand} {args : Array Operand} {tys : Array TypeId} {l : Nat} {first cap : Array Value} {K : Value → Hp → Prop} {next : Act → World → Prop} {Q : Exit → Act → World → Prop}
    (ho : o.op = .call { callee := .value f, args, argTypes := tys }) (hf : a.eval f = .func (.yield l) first cap) (h : yaix P l (first.toList ++ args.toList.map a.eval).toArray w.heap K)
    (hn : ∀ v w', Same w w' → K v w'.heap → next (a.put o.dst v) w') : o.wpIn (Wd ro) 0 P a w next Q := by
  obtain ⟨fn, t, as, bd, hy, hr⟩ := h w rfl
  refine ⟨fun _ _ => trivial, ?_⟩
  rw [Oper.semAt_eq _ _ _ (fun c hc => by rw [ho] at hc; cases hc)]
  have e : (first.toList ++ args.toList.map a.eval).toArray = first ++ args.map a.eval := by apply Array.ext'; simp
  rw [e] at hy
  have hrun : (execOp a.eval o).run P w = .ok (.round l fn t as bd) w := by
    simp only [execOp, ho, resolve, hf, Deferred.ofValue]
    simpa [Sem.run_bind, Result.andThen, invoke] using hy
  rw [hrun]
  refine ⟨fun h => (by cases h), ?_⟩
  exact hr.mono fun e w'' ⟨v, he, hs', hv⟩ => by
    subst he
    exact hn _ _ hs' hv
theorem yama (hF : ∀ g, F g = true → yaau P g) {ro : Option Nat} {n : Nat} {all : List Oper} : ∀ (l : List Oper) (env : Env) (h : Hp) (K : Env → Hp → Prop), yajp P F n all l env h K → ∀ (a : Act) (w : World), Mdl n env a → w.heap = h →
    wpListIn (Wd ro) 0 P all.toArray (Post n (yaal l) a w fun e env h => e = .normal ∧ K env h) l a w := by
  intro l
  induction l with
  | nil =>
    intro env h K hk a w m hw
    exact ⟨env, m, Same.refl w, Keeps.refl _ _, rfl, by rw [hw]; exact hk⟩
  | cons o r ih =>
    intro env h K hk a w m hw
    subst hw
    simp only [yajp] at hk
    have hin : ∀ d, o.dst = some d → d ∈ yaal (o :: r) := fun d hd => by simp [yaal, hd, optL]
    have hsub : ∀ i, i ∈ yaal r → i ∈ yaal (o :: r) := fun i hi => by simp [yaal, hi]
    have post : ∀ {b : Act} {u : World} {e : Exit} {a' : Act} {w' : World} {K' : Exit → Env → Hp → Prop}, Same w u → Keeps (yaal (o :: r)) a b → Post n (yaal r) b u K' e a' w' → Post n (yaal (o :: r)) a w K' e a' w' := by
      intro b u e a' w' K' hs hk ⟨env', m', s, k, h⟩
      exact ⟨env', m', hs.trans s, hk.trans (k.mono hsub), h⟩
    rcases yadt m hk with ⟨hwt, env1, m1, hk⟩ | ⟨hwt, env1, m1, hk⟩
    · obtain ⟨hkn, hk⟩ := yaae hk
      unfold wpListIn
      rw [if_pos hwt]
      have fin : ∀ v w', Same w w' → (putE n o.dst v env1 fun env => yajp P F n all r env w'.heap K) → wpListIn (Wd ro) 0 P all.toArray (Post n (yaal (o :: r)) a w fun e env h => e = .normal ∧ K env h) r (a.put o.dst v) w' := by
        intro v w' hs hv
        obtain ⟨env2, m2, hv⟩ := yacr m1 hv
        exact yadj (fun e a' w'' hp => post hs (Keeps.put a v hin) hp) _ _ _ (ih env2 _ K hv _ w' m2 rfl)
      have plain : ∀ (_ : ot P F o.op (tyOf all o) (ev env1) w.heap fun v h => putE n o.dst v env1 fun env => yajp P F n all r env h K), o.wpIn (Wd ro) 0 P a w (wpListIn (Wd ro) 0 P all.toArray (Post n (yaal (o :: r)) a w fun e env h => e = .normal ∧ K env h) r) (Post n (yaal (o :: r)) a w fun e env h => e = .normal ∧ K env h) := by
        intro hk
        have hd : ∀ c, o.op ≠ .defer c := fun c hc => by rw [hc] at hk; exact yayz hk
        have h1 := yamz hF (o := o) rfl hk
        rw [← m1.execOp hkn] at h1
        exact yaue hd h1 fin
      unfold otY at hk
      split at hk
      · rename_i f args tys ho
        unfold yanb at hk
        split at hk
        · rename_i g first cap hf
          refine plain ?_
          rw [ho]
          show callV P F (tyOf all o) (ev env1 f) _ _ _
          unfold callV funV
          rw [hf]
          exact hk
        · rename_i l first cap hf
          have hkn' : ∀ x ∈ opds o.op, yajs env1 x = true := by
            intro x hx
            unfold known at hkn
            have hs : yacq o.op = false := by rw [ho]
            rw [hs] at hkn
            exact yaat hkn x hx
          have hev : ∀ x ∈ opds o.op, a.eval x = ev env1 x := fun x hx => m1.ev (hkn' x hx)
          have hfe : a.eval f = ev env1 f := hev f (by rw [ho]; simp [opds, yadv])
          have hae : args.toList.map a.eval = args.toList.map (ev env1) := List.map_congr_left fun x hx => hev x (by rw [ho]; simp only [opds, yadv]; exact List.mem_append_right _ hx)
          refine yath ho (hfe.trans hf) (K := fun v h => putE n o.dst v env1 fun env => yajp P F n all r env h K) ?_ fin
          rw [hae]
          refine hk.mono fun v h' hv => ?_
          obtain ⟨v', rfl, hv⟩ := Ex2.out hv
          exact hv
        · exact hk.elim
      · exact plain hk
    · unfold wpListIn
      rw [if_neg (by rw [hwt]; simp)]
      obtain ⟨env2, m2, hv⟩ := yacr m1 hk
      exact ⟨fun _ _ => trivial, yadj (fun e a' w'' hp => post (Same.refl w) (Keeps.put a undef hin) hp) _ _ _ (ih env2 _ K hv _ w m2 rfl)⟩
end
open Go
inductive Sh where
  | int (k : IntKind)
  | bool
  | ptr
  | slice
  | str
  | val
abbrev Sh.den : Sh → Type
  | .int _ => Int
  | .bool => Bool
  | .ptr => Option Addr
  | .slice => Option Addr × Nat × Nat
  | .str => ByteArray
  | .val => Value
abbrev Sh.value : (s : Sh) → s.den → Value
  | .int k, n => .int k n
  | .bool, b => .bool b
  | .ptr, p => .pointer p
  | .slice, x => .slice x.1 x.2.1 x.2.2
  | .str, s => .string s
  | .val, v => v
abbrev Sh.of : (s : Sh) → Value → (s.den → Prop) → Prop
  | .int k, v, f => (match v with | .int k' n => cond (Nat.beq (kNum k') (kNum k)) (f n) False | _ => False)
  | .bool, v, f => (match v with | .bool b => f b | _ => False)
  | .ptr, v, f => (match v with | .pointer p => f p | _ => False)
  | .slice, v, f => (match v with | .slice a l c => f (a, l, c) | _ => False)
  | .str, v, f => (match v with | .string s => f s | _ => False)
  | .val, v, f => f v
def Sh.back : (s : Sh) → Value → Option s.den
  | .int k, v => (match v with | .int k' n => cond (Nat.beq (kNum k') (kNum k)) (some n) none | _ => none)
  | .bool, v => (match v with | .bool b => some b | _ => none)
  | .ptr, v => (match v with | .pointer p => some p | _ => none)
  | .slice, v => (match v with | .slice a l c => some (a, l, c) | _ => none)
  | .str, v => (match v with | .string s => some s | _ => none)
  | .val, v => some v
theorem Sh.of_spec : ∀ {s : Sh} {v : Value} {f : s.den → Prop}, s.of v f → ∃ x, v = s.value x ∧ f x
  | .int k, v, f, h => by
    simp only [Sh.of] at h
    split at h
    · obtain ⟨hk, h⟩ := yaae h; exact ⟨_, by rw [yans hk], h⟩
    · exact h.elim
  | .bool, v, f, h => by simp only [Sh.of] at h; split at h <;> first | exact ⟨_, rfl, h⟩ | exact h.elim
  | .ptr, v, f, h => by simp only [Sh.of] at h; split at h <;> first | exact ⟨_, rfl, h⟩ | exact h.elim
  | .slice, v, f, h => by simp only [Sh.of] at h; split at h <;> first | exact ⟨_, rfl, h⟩ | exact h.elim
  | .str, v, f, h => by simp only [Sh.of] at h; split at h <;> first | exact ⟨_, rfl, h⟩ | exact h.elim
  | .val, v, f, h => ⟨v, rfl, h⟩
theorem Sh.back_value : ∀ (s : Sh) (x : s.den), s.back (s.value x) = some x
  | .int k, x => by cases k <;> rfl
  | .bool, _ => rfl
  | .ptr, _ => rfl
  | .slice, _ => rfl
  | .str, _ => rfl
  | .val, _ => rfl
abbrev Dn : List (Nat × Sh) → Type
  | [] => Unit
  | (_, s) :: r => s.den × Dn r
abbrev getV : (V : List (Nat × Sh)) → Env → (Dn V → Prop) → Prop
  | [], _, k => k ()
  | (i, s) :: r, env, k => (match look env i with | some v => s.of v fun x => getV r env fun xs => k (x, xs) | none => False)
abbrev putV : (V : List (Nat × Sh)) → Dn V → Env → Env
  | [], _, e => e
  | (i, s) :: r, x, e => (i, s.value x.1) :: putV r x.2 e
def sOf : (V : List (Nat × Sh)) → Act → Option (Dn V)
  | [], _ => some ()
  | (i, s) :: r, a => (match a.tmps[i]? with | some v => (match s.back v, sOf r a with | some x, some xs => some (x, xs) | _, _ => none) | none => none)
def Has (env : Env) (a : Act) : Prop := ∀ p ∈ env, a.tmps[p.1]? = some p.2
theorem yamv : ∀ {env : Env} {i : Nat} {v : Value}, look env i = some v → (i, v) ∈ env
  | [], _, _, h => by cases h
  | (j, u) :: r, i, v, h => by
    rw [yacy] at h
    split at h
    · rename_i e; subst e; obtain rfl := Option.some.inj h; exact List.mem_cons_self
    · exact List.mem_cons_of_mem _ (yamv h)
theorem yakm {n : Nat} {env : Env} {a : Act} (m : Mdl n env a) : ∀ {V : List (Nat × Sh)} {k : Dn V → Prop}, getV V env k → ∃ s, k s ∧ Has (putV V s []) a
  | [], k, h => ⟨(), h, fun p hp => by cases hp⟩
  | (i, s) :: r, k, h => by
    simp only [getV] at h
    split at h
    · rename_i v hv
      obtain ⟨x, hx, h2⟩ := Sh.of_spec h
      subst hx
      obtain ⟨xs, h, hh⟩ := yakm m h2
      refine ⟨(x, xs), h, fun p hp => ?_⟩
      cases hp with
      | head => exact m.get i _ hv
      | tail _ hp => exact hh p hp
    · exact h.elim
theorem yate {a : Act} : ∀ {V : List (Nat × Sh)} {s : Dn V}, Has (putV V s []) a → sOf V a = some s
  | [], _, _ => rfl
  | (i, sh) :: r, s, h => by
    have h1 := h (i, sh.value s.1) List.mem_cons_self
    have h2 := yate (V := r) (s := s.2) fun p hp => h p (List.mem_cons_of_mem _ hp)
    simp only [sOf]
    simp only [] at h1
    rw [h1]
    simp only [Sh.back_value, h2]
theorem yarj : ∀ (V : List (Nat × Sh)) (s : Dn V) (e : Env), putV V s e = putV V s [] ++ e
  | [], _, _ => rfl
  | (i, sh) :: r, s, e => by simp only [putV, yarj r s.2 e, List.cons_append]
abbrev rs : List Nat → Env → Env
  | [], _ => []
  | i :: r, env => (match look env i with | some v => (i, v) :: rs r env | none => rs r env)
theorem yaqn {env : Env} : ∀ {L : List Nat} {p : Nat × Value}, p ∈ rs L env → p.1 ∈ L ∧ look env p.1 = some p.2
  | [], _, h => by cases h
  | i :: r, p, h => by
    simp only [rs] at h
    split at h
    · rename_i v hv
      cases h with
      | head => exact ⟨List.mem_cons_self, hv⟩
      | tail _ h => exact ⟨List.mem_cons_of_mem _ (yaqn h).1, (yaqn h).2⟩
    · exact ⟨List.mem_cons_of_mem _ (yaqn h).1, (yaqn h).2⟩
abbrev step (i : Nat) (c : Code) : Code :=
  match c with
  | .seq a b => (match i with | 0 => a | _ => b)
  | .cond _ a b => (match i with | 0 => a | _ => b)
  | .block _ a => a
  | .loop a => a
  | c => c
abbrev yaad (f : Func) : Code := match f.body with | some c => c | none => .skip
abbrev cp : List Nat → Code → Code
  | [], c => c
  | i :: p, c => cp p (step i c)
inductive Ann where
  | leaf
  | node (cut : Option (List Nat)) (l r : Ann)
  | loop (C : List Nat) (V : List (Nat × Sh)) (b : Ann)
  | tail (k : Nat)
  | plan (p : Plan)
  | yld
  | range (ts ids : List Nat)
abbrev Ann.cut : Ann → Option (List Nat) | .node c _ _ => c | _ => none
abbrev Ann.l : Ann → Ann | .node _ l _ => l | _ => .leaf
abbrev Ann.r : Ann → Ann | .node _ _ r => r | _ => .leaf
abbrev Ann.b : Ann → Ann | .loop _ _ b => b | _ => .leaf
abbrev ap : List Nat → Ann → Ann
  | [], a => a
  | i :: p, a => ap p (match i with | 0 => a.l | 1 => a.r | _ => a.b)
abbrev thenE (next : Env → Hp → Prop) (K : Exit → Env → Hp → Prop) : Exit → Env → Hp → Prop := fun e env h =>
  match e with
  | .normal => next env h
  | e => K e env h
abbrev yalt (id : Nat) (K : Exit → Env → Hp → Prop) : Exit → Env → Hp → Prop := fun e env h =>
  match e with
  | .exit i => (match Nat.beq i id with | true => K .normal env h | false => K (.exit i) env h)
  | e => K e env h
def yabr {σ : Type} (s0 : σ) (h0 : Hp) (body : (σ → Hp → Prop) → σ → Hp → Prop) : Prop :=
  ∃ (I : σ → Hp → Prop) (μ : σ → Hp → Nat), I s0 h0 ∧ ∀ s h, I s h → body (fun s' h' => I s' h' ∧ μ s' h' < μ s h) s h
def yafd (P : Program) (g : Nat) : Bool :=
  match P.funcs[g]? with
  | some fn => !(fn.name == "runtime.NumGoroutine") && !fn.body.isNone
  | none => false
theorem yafm {P : Program} {g : Nat} (h : yafd P g = true) : yaau P g := by
  unfold yafd at h
  split at h
  · rename_i fn hf
    simp only [Bool.and_eq_true, Bool.not_eq_true'] at h
    exact ⟨fn, hf, h.1, h.2⟩
  · cases h
abbrev yaci : Code → List Nat
  | .region _ ops _ => yaal ops.toList
  | .seq a b => yaci a ++ yaci b
  | .cond _ a b => yaci a ++ yaci b
  | .block _ a => yaci a
  | .loop a => yaci a
  | _ => []
abbrev memL (i : Nat) : List Nat → Bool
  | [] => false
  | j :: r => cond (Nat.beq i j) true (memL i r)
theorem yapm {i : Nat} : ∀ {l : List Nat}, memL i l = true → i ∈ l
  | [], h => by cases h
  | j :: r, h => by
    unfold memL at h
    cases hb : Nat.beq i j with
    | true => rw [Nat.eq_of_beq_eq_true hb]; exact List.mem_cons_self
    | false => rw [hb] at h; exact List.mem_cons_of_mem _ (yapm h)
abbrev disj (C ws : List Nat) : Bool := allL (fun i => !memL i ws) C
theorem yamw {i : Nat} : ∀ {l : List Nat}, i ∈ l → memL i l = true
  | [], h => by cases h
  | j :: r, h => by
    unfold memL
    cases hb : Nat.beq i j with
    | true => rfl
    | false =>
      cases h with
      | head => simp at hb
      | tail _ h => exact yamw h
theorem yaun {C ws : List Nat} (h : disj C ws = true) {i : Nat} (hi : i ∈ C) : i ∉ ws := fun hm => by
  have := yaat h i hi
  rw [yamw hm] at this
  cases this
abbrev regB (all : List Oper) (p : Plan) : Bool := cond (allL (yagr all) (List.range all.length)) (planB all (masks all []) p true (List.range all.length)) false
abbrev Cnd := Code → Ann → Env → Hp → (Exit → Env → Hp → Prop) → Prop
abbrev sx0 (P : Program) (F : Nat → Bool) (n : Nat) (S : Cnd) : Code → Ann → Env → Hp → (Exit → Env → Hp → Prop) → Prop
  | .skip, _, env, h, K => K .normal env h
  | .region _ ops draw, an, env, h, K => (match draw with
    | false => (match an with | .yld => yajp P F n ops.toList ops.toList env h (K .normal) | _ => sxOps P F n ops.toList ops.toList env h (K .normal))
    | true => (match an with
      | .tail k => chk (headB ops.toList k && (tailB ops.toList k && (Nat.ble k ops.toList.length && Region.lexB .any (ops.toList.take k).toArray)))
          (sxQ P F n (ops.toList.take k) (ops.toList.take k) env h fun env => sxOps P F n ops.toList (ops.toList.drop k) env h (K .normal))
      | .plan p => chk (regB ops.toList p) (sxP P F n ops.toList (masks ops.toList []) (K .normal) p [] env h)
      | _ => chk (Region.lexB .any ops) (sxQ P F n ops.toList ops.toList env h fun env => K .normal env h)))
  | .seq a b, an, env, h, K => sx0 P F n S a an.l env h (thenE (match an.cut with
      | none => fun env h => sx0 P F n S b an.r env h K
      | some L => fun env h => S b an.r (rs L env) h K) K)
  | .cond c a b, an, env, h, K => chk (yajs env c) (match ev env c with | .bool t => cond t (sx0 P F n S a an.l env h K) (sx0 P F n S b an.r env h K) | _ => False)
  | .block id a, an, env, h, K => sx0 P F n S a an env h (yalt id K)
  | .loop a, an, env, h, K => (match an with
    | .loop C V b => chk (disj C (yaci a)) (getV V env fun s0 => yabr s0 h fun nx s h => S a b (putV V s (rs C env)) h (thenE (fun env h => getV V env fun s => nx s h) K))
    | _ => False)
  | .exit id, _, env, h, K => K (.exit id) env h
  | .ret, _, env, h, K => K .ret env h
  | _, _, _, _, _ => False
def Snd (P : Program) (n : Nat) (S : Cnd) : Prop := ∀ (c : Code) (an : Ann) (env : Env) (h : Hp) (K : Exit → Env → Hp → Prop), S c an env h K → ∀ (a : Act) (w : World), Mdl n env a → w.heap = h → c.wp P (Post n (yaci c) a w K) a w
section
variable {P : Program} {F : Nat → Bool}
theorem yaby (hF : ∀ g, F g = true → yaau P g) (hm : P.follows .mixedOrders = true) {n : Nat} {S : Cnd} (hS : Snd P n S) : Snd P n (sx0 P F n S) := by
  intro c
  induction c with
  | skip =>
    intro an env h K hk a w m hw
    exact wp_skip ⟨env, m, Same.refl w, Keeps.refl _ _, by rw [hw]; exact hk⟩
  | region id ops draw =>
    intro an env h K hk a w m hw
    cases draw with
    | false =>
      have plain : ∀ (_ : sxOps P F n ops.toList ops.toList env h (K .normal)), (Code.region id ops false).wp P (Post n (yaci (.region id ops false)) a w K) a w := by
        intro hk
        have h1 := yapd hF ops.toList env h (K .normal) hk a w m hw
        refine wp_region_list ?_
        refine yado (fun e a' w' hp => ?_) _ _ _ h1
        obtain ⟨env', m', s, kp, rfl, hk'⟩ := hp
        exact ⟨env', m', s, kp, hk'⟩
      cases an with
      | yld =>
        have h1 := yama hF (ro := none) ops.toList env h (K .normal) hk a w m hw
        refine (wpIn_wide (n := 0)).1 ?_
        refine wpIn_region_list (F := Wd none) ?_
        refine yadj (fun e a' w' hp => ?_) _ _ _ h1
        obtain ⟨env', m', s, kp, rfl, hk'⟩ := hp
        exact ⟨env', m', s, kp, hk'⟩
      | _ => exact plain hk
    | true =>
      have quiet : ∀ (_ : chk (Region.lexB .any ops) (sxQ P F n ops.toList ops.toList env h fun env => K .normal env h)), (Code.region id ops true).wp P (Post n (yaci (.region id ops true)) a w K) a w := by
        intro hk
        obtain ⟨hB, hk⟩ := yaae hk
        have h1 := yaos hF (w0 := w) ops.toList env _ hk a m
        refine wp_region_quiet (C := Cls w h) hm hB ⟨hw, ⟨rfl, rfl, rfl⟩⟩ ?_
        refine yacn (fun a' hp w' hw' => ?_) _ _ h1
        obtain ⟨env', m', kp, hk'⟩ := hp
        exact ⟨env', m', hw'.2, kp, by rw [hw'.1]; exact hk'⟩
      simp only [sx0] at hk
      cases an with
      | tail k =>
        obtain ⟨hc, hk⟩ := yaae hk
        simp only [Bool.and_eq_true] at hc
        obtain ⟨hc1, hc2, hc3, hc4⟩ := hc
        have hc3 := Nat.le_of_ble_eq_true hc3
        have h1 := yaos hF (w0 := w) (ops.toList.take k) env _ hk a m
        have h2 := yaex (P := P) (id := id) (ops := ops.toList) (k := k) (C := Cls w h) (Q := Post n (yaci (.region id ops true)) a w K) (a := a) (w := w) hm ⟨hw, ⟨rfl, rfl, rfl⟩⟩ hc1 hc2 hc3 hc4 ?_
        · simpa using h2
        · refine yacn (fun a' hp w' hw' => ?_) _ _ h1
          obtain ⟨env', m', kp, hk'⟩ := hp
          have h3 := yapd hF (all := ops.toList) (ops.toList.drop k) env' h (K .normal) hk' a' w' m' hw'.1
          refine yado (fun e a'' w'' hp => ?_) _ _ _ h3
          obtain ⟨env'', m'', s, kp', rfl, hk''⟩ := hp
          have sub : ∀ (l l' : List Oper) (i : Nat), (i ∈ yaal l ∨ i ∈ yaal l') → i ∈ yaal (l ++ l') := by
            intro l l' i hi
            induction l with
            | nil => rcases hi with hi | hi; cases hi; exact hi
            | cons o r ih =>
              simp only [List.cons_append, yaal, List.mem_append] at hi ⊢
              rcases hi with (hi | hi) | hi
              · exact .inl hi
              · exact .inr (ih (.inl hi))
              · exact .inr (ih (.inr hi))
          have e0 : ops.toList.take k ++ ops.toList.drop k = ops.toList := List.take_append_drop _ _
          refine ⟨env'', m'', hw'.2.trans s, Keeps.trans (kp.mono fun i hi => ?_) (kp'.mono fun i hi => ?_), hk''⟩
          · show i ∈ yaal ops.toList; rw [← e0]; exact sub _ _ i (.inl hi)
          · show i ∈ yaal ops.toList; rw [← e0]; exact sub _ _ i (.inr hi)
      | plan p =>
        obtain ⟨hc, hk⟩ := yaae hk
        obtain ⟨hc1, hc2⟩ := yaag hc
        have topo : ∀ j o, ops.toList[j]? = some o → ∀ e ∈ o.after, Region.binds .any e = true → e.on < j := fun j o ho => (yabx ho (yaat hc1 j (List.mem_range.2 (yaas ho)))).1
        have e0 : ops.toList.toArray = ops := by simp
        have hgd : ∀ i, (Array.replicate ops.size false).getD i false = false := by
          intro i
          rw [Array.getD_eq_getD_getElem?, Array.getElem?_replicate]
          split <;> rfl
        have b : Inv P n ops.toList a w (Array.replicate ops.size false) a a { w with drawn := w.drawn + 1 } (List.range ops.toList.length) [] env := by
          refine ⟨by simp, ?_, fun i hi => ⟨List.mem_range.1 hi, hgd i⟩, fun i hi hr => absurd (List.mem_range.2 hi) hr, fun i hi hr => absurd (List.mem_range.2 hi) hr, fun i hi hr => absurd (List.mem_range.2 hi) hr,
            fun i _ hi _ hr => absurd (List.mem_range.2 hi) hr, fun _ _ => rfl, m.size, m, ⟨rfl, rfl, rfl⟩, Keeps.refl _ _, fun i o ho hr => absurd (List.mem_range.2 (yaas ho)) hr⟩
          intro i o hi
          rw [hgd i] at hi
          cases hi
        have h1 := yarv hF (K := K .normal) topo ops.size _ a a _ p _ _ env (by unfold unl; exact Nat.le_trans (List.length_filter_le _ _) (by simp)) b hc2 (by rw [hw]; exact hk)
        rw [e0] at h1
        refine Code.wp_mono (fun e a' w' hp => ?_) (wp_region_any hm h1)
        obtain ⟨env', m', s, kp, rfl, hk'⟩ := hp
        exact ⟨env', m', s, kp, hk'⟩
      | leaf => exact quiet hk
      | node _ _ _ => exact quiet hk
      | loop _ _ _ => exact quiet hk
      | yld => exact quiet hk
      | range _ _ => exact quiet hk
  | seq x y ihx ihy =>
    intro an env h K hk a w m hw
    simp only [sx0] at hk
    have key : ∀ (next : Env → Hp → Prop), (∀ (env' : Env) (a' : Act) (w' : World), Mdl n env' a' → next env' w'.heap → y.wp P (Post n (yaci y) a' w' K) a' w') →
        sx0 P F n S x an.l env h (thenE next K) → (Code.seq x y).wp P (Post n (yaci (.seq x y)) a w K) a w := by
      intro next hn hk
      refine wp_seq ?_
      refine Code.wp_mono (fun e a' w' hp => ?_) (ihx _ env h _ hk a w m hw)
      obtain ⟨env', m', s, kp, hk'⟩ := hp
      have kx : Keeps (yaci (.seq x y)) a a' := kp.mono fun i hi => by simp [yaci, hi]
      cases e with
      | normal =>
        show y.wp P _ a' w'
        refine Code.wp_mono (fun e2 a2 w2 hp2 => ?_) (hn env' a' w' m' hk')
        obtain ⟨env3, m3, s3, kp3, hk3⟩ := hp2
        exact ⟨env3, m3, s.trans s3, kx.trans (kp3.mono fun i hi => by simp [yaci, hi]), hk3⟩
      | _ => exact ⟨env', m', s, kx, hk'⟩
    cases hc : an.cut with
    | none =>
      rw [hc] at hk
      exact key _ (fun env' a' w' m' hk' => ihy _ env' _ K hk' a' w' m' rfl) hk
    | some L =>
      rw [hc] at hk
      exact key _ (fun env' a' w' m' hk' => hS y _ _ _ K hk' a' w' ⟨m'.size, fun i v hv => m'.get i v (yaqn (yamv hv)).2⟩ rfl) hk
  | cond c x y ihx ihy =>
    intro an env h K hk a w m hw
    obtain ⟨hc, hk⟩ := yaae hk
    have hev := m.ev hc
    split at hk
    · rename_i t ht
      refine wp_cond (t := t) (by rw [hev, ht]) ?_
      cases t with
      | true =>
        exact Code.wp_mono (fun e a' w' hp => by obtain ⟨env', m', s, kp, hk'⟩ := hp; exact ⟨env', m', s, kp.mono fun i hi => by simp [yaci, hi], hk'⟩) (ihx _ env h K hk a w m hw)
      | false =>
        exact Code.wp_mono (fun e a' w' hp => by obtain ⟨env', m', s, kp, hk'⟩ := hp; exact ⟨env', m', s, kp.mono fun i hi => by simp [yaci, hi], hk'⟩) (ihy _ env h K hk a w m hw)
    · exact hk.elim
  | block id x ih =>
    intro an env h K hk a w m hw
    refine wp_block ?_
    refine Code.wp_mono (fun e a' w' hp => ?_) (ih an env h _ hk a w m hw)
    obtain ⟨env', m', s, kp, hk'⟩ := hp
    cases e with
    | exit i =>
      simp only [yalt] at hk'
      simp only [Exit.inBlock]
      by_cases hi : i = id
      · rw [if_pos hi]
        have hb : Nat.beq i id = true := by subst hi; simp
        rw [hb] at hk'
        exact ⟨env', m', s, kp, hk'⟩
      · rw [if_neg hi]
        have hb : Nat.beq i id = false := by cases hb : Nat.beq i id with | false => rfl | true => exact absurd (Nat.eq_of_beq_eq_true hb) hi
        rw [hb] at hk'
        exact ⟨env', m', s, kp, hk'⟩
    | _ => exact ⟨env', m', s, kp, hk'⟩
  | loop x _ =>
    intro an env h K hk a w m hw
    cases an with
    | loop C V b =>
      obtain ⟨hd, hk⟩ := yaae hk
      obtain ⟨s0, ⟨I, μ, hI0, hround⟩, hs0⟩ := yakm m hk
      refine wp_loop (fun a' w' => ∃ s, I s w'.heap ∧ Has (putV V s []) a' ∧ a'.tmps.size = n ∧ Same w w' ∧ Keeps (yaci x) a a')
        (fun a' w' => match sOf V a' with | some s => μ s w'.heap | none => 0) ⟨s0, by rw [hw]; exact hI0, hs0, m.size, Same.refl w, Keeps.refl _ _⟩ ?_
      intro a1 w1 ⟨s, hI, hhas, hsz, hs, hkp⟩
      have h1 := hround s w1.heap hI
      have m1 : Mdl n (putV V s (rs C env)) a1 := by
        refine ⟨hsz, fun i v hv => ?_⟩
        have := yamv hv
        rw [yarj] at this
        rcases List.mem_append.1 this with hp | hp
        · exact hhas _ hp
        · obtain ⟨hiC, hl⟩ := yaqn hp
          rw [hkp.get i (yaun hd hiC)]
          exact m.get i v hl
      refine Code.wp_mono (fun e a' w' hp => ?_) (hS x b _ _ _ h1 a1 w1 m1 rfl)
      obtain ⟨env', m', s', kp, hk'⟩ := hp
      cases e with
      | normal =>
        obtain ⟨s2, ⟨hI2, hlt⟩, hhas2⟩ := yakm m' hk'
        refine ⟨⟨s2, hI2, hhas2, m'.size, hs.trans s', hkp.trans kp⟩, ?_⟩
        rw [yate hhas2, yate hhas]
        exact hlt
      | _ => exact ⟨env', m', hs.trans s', hkp.trans kp, hk'⟩
    | leaf => exact hk.elim
    | node _ _ _ => exact hk.elim
    | tail _ => exact hk.elim
    | plan _ => exact hk.elim
    | yld => exact hk.elim
    | range _ _ => exact hk.elim
  | exit id =>
    intro an env h K hk a w m hw
    exact wp_exit ⟨env, m, Same.refl w, Keeps.refl _ _, by rw [hw]; exact hk⟩
  | ret =>
    intro an env h K hk a w m hw
    exact wp_ret ⟨env, m, Same.refl w, Keeps.refl _ _, by rw [hw]; exact hk⟩
  | _ => intro an env h K hk; exact hk.elim
end
abbrev resV (P : Program) (env : Env) (h : Hp) : List ResultVar → (List Value → Prop) → Prop
  | [], k => k []
  | .tmp t :: r, k => (match look env t with | some v => resV P env h r fun vs => k (v :: vs) | none => False)
  | .cell t ty :: r, k => (match look env t with | some v => addrV v fun a => loadV P ty a h fun v => resV P env h r fun vs => k (v :: vs) | none => False)
abbrev oneOf (vs : List Value) : Value := match vs with | [v] => v | vs => .tuple vs.toArray
abbrev retK (P : Program) (rs : List ResultVar) (K : Value → Hp → Prop) : Exit → Env → Hp → Prop := fun e env h =>
  match e with
  | .normal | .ret => resV P env h rs fun vs => K (oneOf vs) h
  | _ => False
abbrev initE : Nat → List Value → Env
  | _, [] => []
  | i, v :: r => (i, v) :: initE (i + 1) r
section
variable {P : Program}
theorem yahc {n : Nat} {env : Env} {a : Act} {h : Hp} (m : Mdl n env a) : ∀ (rs : List ResultVar) (k : List Value → Prop), resV P env h rs k →
    hq P (rs.mapM fun | .tmp t => pure (a.tmps.getD t undef) | .cell b t => do loadVar t (← asAddr (a.tmps.getD b undef))) h k
  | [], k, hk => by simpa [yaah, resV] using hk
  | .tmp t :: r, k, hk => by
    simp only [resV] at hk
    split at hk
    · rename_i v hv
      have hg : a.tmps.getD t undef = v := by rw [Array.getD_eq_getD_getElem?, m.get t v hv]; rfl
      simp only [List.mapM_cons, yaab, yaah, hg]
      exact yahc m r _ hk
    · exact hk.elim
  | .cell t ty :: r, k, hk => by
    simp only [resV] at hk
    split at hk
    · rename_i v hv
      replace hk := yafo hk
      obtain ⟨ad, hx, hk⟩ := hk
      subst hx
      have hg : a.tmps.getD t undef = .pointer (some ad) := by rw [Array.getD_eq_getD_getElem?, m.get t _ hv]; rfl
      simp only [List.mapM_cons, yaab, hg, asAddr, yaah]
      refine yacf _ _ _ _ (fun u hu => ?_) (yaly hk)
      exact yahc m r _ hu
    · exact hk.elim
theorem yali (args : List Value) : ∀ (i j : Nat) (v : Value), look (initE i args) j = some v → i ≤ j ∧ args[j - i]? = some v := by
  induction args with
  | nil => intro i j v h; cases h
  | cons x r ih =>
    intro i j v h
    simp only [initE] at h
    rw [yacy] at h
    split at h
    · rename_i e; subst e; exact ⟨Nat.le_refl _, by simpa using h⟩
    · rename_i hne
      obtain ⟨h1, h2⟩ := ih (i + 1) j v h
      refine ⟨by omega, ?_⟩
      have : j - i = (j - (i + 1)) + 1 := by omega
      rw [this]
      simpa using h2
theorem yaaa {S : Cnd} {f : FuncId} {fn : Func} {c : Code} {n : Nat} {args : List Value} {h : Hp} {K : Value → Hp → Prop} (an : Ann)
    (hf : P.funcs[f]? = some fn) (hb : fn.body = some c) (hn : fn.ntmps = n) (hle : args.length ≤ n) (hS : Snd P n S)
    (hk : S c an (initE 0 args) h (retK P fn.results.toList K)) : yaak P f args.toArray h K := by
  intro w hw
  refine calls_of_wp hf hb ?_
  have m : Mdl n (initE 0 args) { tmps := args.toArray ++ Array.replicate (fn.ntmps - args.toArray.size) undef, defers := [] } := by
    refine ⟨by simp [hn]; omega, fun i v hv => ?_⟩
    obtain ⟨_, h2⟩ := yali args 0 i v hv
    rw [Nat.sub_zero] at h2
    have hi : i < args.length := by
      rcases Nat.lt_or_ge i args.length with h | h
      · exact h
      · rw [List.getElem?_eq_none h] at h2; cases h2
    rw [Array.getElem?_append_left (by simpa using hi)]
    simpa using h2
  refine Code.wp_mono (fun e a' w' hp => ?_) (hS c an _ h _ hk _ w m hw)
  obtain ⟨env', m', s, kp, hk'⟩ := hp
  have fin : ∀ (_ : resV P env' w'.heap fn.results.toList fun vs => K (oneOf vs) w'.heap), a'.defers = [] ∧ ∃ v, (results fn a'.tmps).run P w' = .ok v w' ∧ (∃ v_1, Ending.returned v = .returned v_1 ∧ Same w w' ∧ K v_1 w'.heap) := by
    intro hr
    refine ⟨kp.defers, ?_⟩
    have h1 := yahc m' _ _ hr
    have h2 : hq P (results fn a'.tmps) w'.heap fun v => K v w'.heap := by
      unfold results
      rw [yaab, Array.mapM_eq_mapM_toList, map_eq_pure_bind, yaab]
      refine yacf _ _ _ _ (fun vs hvs => ?_) h1
      rw [yaah, yaah]
      have e : (if h : vs.toArray.size = 1 then vs.toArray[0] else Value.tuple vs.toArray) = oneOf vs := by
        match vs with
        | [] => rfl
        | [v] => rfl
        | _ :: _ :: _ => simp [oneOf]
      rw [e]
      exact hvs
    obtain ⟨v, hv, hrun⟩ := yake _ _ _ h2
    exact ⟨v, hrun w' rfl, v, rfl, s, hv⟩
  cases e with
  | normal => exact fin hk'
  | ret => exact fin hk'
  | _ => exact hk'.elim
end
section
variable (P : Program) (F : Nat → Bool) (n : Nat)
def sx_0 : Cnd := fun _ _ _ _ _ => False
def sx_1 : Cnd := sx0 P F n sx_0
def sx_2 : Cnd := sx0 P F n (sx_1 P F n)
def sx_3 : Cnd := sx0 P F n (sx_2 P F n)
def sx_4 : Cnd := sx0 P F n (sx_3 P F n)
def sx_5 : Cnd := sx0 P F n (sx_4 P F n)
def sx_6 : Cnd := sx0 P F n (sx_5 P F n)
def sx_7 : Cnd := sx0 P F n (sx_6 P F n)
def sx_8 : Cnd := sx0 P F n (sx_7 P F n)
def sx_9 : Cnd := sx0 P F n (sx_8 P F n)
def sx_10 : Cnd := sx0 P F n (sx_9 P F n)
def sx_11 : Cnd := sx0 P F n (sx_10 P F n)
def sx_12 : Cnd := sx0 P F n (sx_11 P F n)
end
section
variable {P : Program} {F : Nat → Bool} {n : Nat}
theorem snd_1 (hF : ∀ g, F g = true → yaau P g) (hm : P.follows .mixedOrders = true) : Snd P n (sx_1 P F n) := yaby hF hm (fun _ _ _ _ _ h => h.elim : Snd P n sx_0)
theorem snd_2 (hF : ∀ g, F g = true → yaau P g) (hm : P.follows .mixedOrders = true) : Snd P n (sx_2 P F n) := yaby hF hm (snd_1 hF hm)
theorem snd_3 (hF : ∀ g, F g = true → yaau P g) (hm : P.follows .mixedOrders = true) : Snd P n (sx_3 P F n) := yaby hF hm (snd_2 hF hm)
theorem snd_4 (hF : ∀ g, F g = true → yaau P g) (hm : P.follows .mixedOrders = true) : Snd P n (sx_4 P F n) := yaby hF hm (snd_3 hF hm)
theorem snd_5 (hF : ∀ g, F g = true → yaau P g) (hm : P.follows .mixedOrders = true) : Snd P n (sx_5 P F n) := yaby hF hm (snd_4 hF hm)
theorem snd_6 (hF : ∀ g, F g = true → yaau P g) (hm : P.follows .mixedOrders = true) : Snd P n (sx_6 P F n) := yaby hF hm (snd_5 hF hm)
theorem snd_7 (hF : ∀ g, F g = true → yaau P g) (hm : P.follows .mixedOrders = true) : Snd P n (sx_7 P F n) := yaby hF hm (snd_6 hF hm)
theorem snd_8 (hF : ∀ g, F g = true → yaau P g) (hm : P.follows .mixedOrders = true) : Snd P n (sx_8 P F n) := yaby hF hm (snd_7 hF hm)
theorem snd_9 (hF : ∀ g, F g = true → yaau P g) (hm : P.follows .mixedOrders = true) : Snd P n (sx_9 P F n) := yaby hF hm (snd_8 hF hm)
theorem ybgk (hF : ∀ g, F g = true → yaau P g) (hm : P.follows .mixedOrders = true) : Snd P n (sx_10 P F n) := yaby hF hm (snd_9 hF hm)
theorem ybht (hF : ∀ g, F g = true → yaau P g) (hm : P.follows .mixedOrders = true) : Snd P n (sx_11 P F n) := yaby hF hm (ybgk hF hm)
theorem ybhh (hF : ∀ g, F g = true → yaau P g) (hm : P.follows .mixedOrders = true) : Snd P n (sx_12 P F n) := yaby hF hm (ybht hF hm)
end
open Go
theorem yaar {b : Bool} {X Y : Prop} (h1 : b = true → X) (h0 : b = false → Y) : cond b X Y := by
  cases b
  · exact h0 rfl
  · exact h1 rfl
theorem condP {p : Prop} [Decidable p] {X Y : Prop} (h1 : p → X) (h0 : ¬ p → Y) : cond (decide p) X Y :=
  yaar (fun h => h1 (of_decide_eq_true h)) (fun h => h0 (of_decide_eq_false h))
theorem condN {p : Prop} [Decidable p] {X Y : Prop} (h0 : ¬ p → X) (h1 : p → Y) : cond (!decide p) X Y := by
  by_cases h : p
  · simp only [h, decide_true, Bool.not_true]; exact h1 h
  · simp only [h, decide_false, Bool.not_false]; exact h0 h
theorem yacv {b : Bool} {X Y : Prop} (hb : b = true) (h : X) : cond b X Y := by rw [hb]; exact h
theorem yabb {b : Bool} {X Y : Prop} (hb : b = false) (h : Y) : cond b X Y := by rw [hb]; exact h
theorem yaep {a b : Int} {Q : Int → Prop} (h0 : 0 ≤ a) (h1 : a ≤ 9223372036854775807) (hb : 0 < b) (h : Q (a / b)) : ∃ q, Sx.Quo .i64 a b q ∧ Q q := by
  refine ⟨a / b, ⟨by omega, ?_⟩, h⟩
  rw [Int.tdiv_eq_ediv_of_nonneg h0, yabn]
  have := Int.ediv_nonneg h0 (Int.le_of_lt hb)
  have := Int.ediv_le_self b h0
  exact ⟨by omega, by omega⟩
theorem yakt {a b : Int} {Q : Int → Prop} (h0 : 0 ≤ a) (hb : 0 < b) (h : Q (a % b)) : ∃ q, Sx.Rem a b q ∧ Q q :=
  ⟨a % b, ⟨by omega, by rw [Int.tmod_eq_emod_of_nonneg h0]⟩, h⟩
theorem yabz (n : Int) (h0 : 0 ≤ n) (h1 : n < 18446744073709551616) : IntKind.u64.wrap n = n := by
  simp [IntKind.wrap, IntKind.bits, IntKind.signed]; omega
theorem yagw (w : Nat) (n : Nat) (h : n < 2 ^ w) : (BitVec.ofInt w (n : Int)).toNat = n := by
  simp [Nat.mod_eq_of_lt h]
theorem yatr (k : IntKind) (x y : Nat) (hx : x < 2 ^ k.bits) (hy : y < 2 ^ k.bits) : ((BitVec.ofInt k.bits (x : Int)) &&& (BitVec.ofInt k.bits (y : Int))).toNat = x &&& y := by
  rw [BitVec.toNat_and, yagw _ _ hx, yagw _ _ hy]
theorem ybdr (k : IntKind) (x y : Nat) (hx : x < 2 ^ k.bits) (hy : y < 2 ^ k.bits) : ((BitVec.ofInt k.bits (x : Int)) ||| (BitVec.ofInt k.bits (y : Int))).toNat = x ||| y := by
  rw [BitVec.toNat_or, yagw _ _ hx, yagw _ _ hy]
theorem yaje {a b : Int} {x y : Nat} {Q : Int → Prop} (ha : a = (x : Int)) (hb : b = (y : Int)) (hx : x < 18446744073709551616) (hy : y < 18446744073709551616) (h : Q ((x &&& y : Nat) : Int)) : ∃ r, Sx.And .u64 a b r ∧ Q r := by
  subst ha hb
  refine ⟨_, rfl, ?_⟩
  rw [yatr .u64 x y hx hy, yabz _ (by omega) ?_]
  · exact h
  · have : x &&& y ≤ x := Nat.and_le_left
    omega
theorem ybgr {a b : Int} {x y : Nat} {Q : Int → Prop} (ha : a = (x : Int)) (hb : b = (y : Int)) (hx : x < 18446744073709551616) (hy : y < 18446744073709551616) (h : Q ((x ||| y : Nat) : Int)) : ∃ r, Sx.Or .u64 a b r ∧ Q r := by
  subst ha hb
  refine ⟨_, rfl, ?_⟩
  rw [ybdr .u64 x y hx hy, yabz _ (by omega) ?_]
  · exact h
  · have : x ||| y < 2 ^ 64 := Nat.or_lt_two_pow hx hy
    omega
theorem yaxg {a b : Int} {x y : Nat} {Q : Int → Prop} (ha : a = (x : Int)) (hb : b = (y : Int)) (hx : x < 9223372036854775808) (hy : y < 9223372036854775808) (h : Q ((x &&& y : Nat) : Int)) : ∃ r, Sx.And .i64 a b r ∧ Q r := by
  subst ha hb
  refine ⟨_, rfl, ?_⟩
  have e64 : (2 : Nat) ^ IntKind.i64.bits = 18446744073709551616 := by decide
  rw [yatr .i64 x y (by rw [e64]; omega) (by rw [e64]; omega), yabn]
  · exact h
  · have : x &&& y ≤ x := Nat.and_le_left
    exact ⟨by omega, by omega⟩
theorem yacz {k : IntKind} {a b : Int} {x s : Nat} {Q : Int → Prop} (ha : a = (x : Int)) (hb : b = (s : Int)) (hs : s ≤ k.bits) (h : Q ((x >>> s : Nat) : Int)) : ∃ r, Sx.Shr k a b r ∧ Q r := by
  subst ha hb
  refine ⟨_, ⟨by omega, rfl⟩, ?_⟩
  have e : (x : Int).fdiv (2 ^ (min (s : Int).toNat k.bits)) = ((x >>> s : Nat) : Int) := by
    rw [show (s : Int).toNat = s by simp, Nat.min_eq_left hs, Int.fdiv_eq_ediv_of_nonneg _ (Int.pow_nonneg (by decide)), Nat.shiftRight_eq_div_pow]
    rw [Int.natCast_ediv, Int.natCast_pow]; rfl
  rw [e]; exact h
theorem yacw {k : IntKind} {a b : Int} {x s : Nat} {Q : Int → Prop} (ha : a = (x : Int)) (hb : b = (s : Int)) (hs : s ≤ k.bits) (hw : k.wrap ((x * 2 ^ s : Nat) : Int) = ((x * 2 ^ s : Nat) : Int)) (h : Q ((x * 2 ^ s : Nat) : Int)) : ∃ r, Sx.Shl k a b r ∧ Q r := by
  subst ha hb
  refine ⟨_, ⟨by omega, rfl⟩, ?_⟩
  have e : (x : Int) * 2 ^ (min (s : Int).toNat k.bits) = ((x * 2 ^ s : Nat) : Int) := by
    rw [show (s : Int).toNat = s by simp, Nat.min_eq_left hs, Int.natCast_mul, Int.natCast_pow]; rfl
  rw [e, hw]; exact h
theorem yaca (b o k : Nat) : (⟨b, o, none⟩ : Addr).add k = ⟨b, o + k, none⟩ := by
  unfold Addr.add; split
  · rename_i h; subst h; rfl
  · rfl
theorem yapc (a : Addr) (i j : Nat) : (a.add i).add j = a.add (i + j) := by
  unfold Addr.add
  by_cases hi : i = 0 <;> by_cases hj : j = 0 <;> simp [hi, hj, Nat.add_assoc]
theorem yakb (a : Addr) (i : Nat) : (a.add i).block = a.block := by unfold Addr.add; split <;> rfl
structure Ext (h h' : Hp) : Prop where
  size : h.size ≤ h'.size
  same : ∀ k, k < h.size → h'[k]? = h[k]?
theorem Ext.refl (h : Hp) : Ext h h := ⟨Nat.le_refl _, fun _ _ => rfl⟩
theorem Ext.trans {a b c : Hp} (h : Ext a b) (k : Ext b c) : Ext a c := ⟨Nat.le_trans h.size k.size, fun i hi => (k.same i (Nat.lt_of_lt_of_le hi h.size)).trans (h.same i hi)⟩
theorem Ext.push (h : Hp) (o : Obj) : Ext h (h.push o) := ⟨by simp, fun k hk => by rw [Array.getElem?_push, if_neg (by omega)]⟩
theorem yaeo {h : Hp} {b : Nat} {o : Obj} (hb : h[b]? = some o) : b < h.size := by
  rcases Nat.lt_or_ge b h.size with hl | hl
  · exact hl
  · rw [Array.getElem?_eq_none hl] at hb; cases hb
theorem Ext.get {h h' : Hp} (e : Ext h h') {b : Nat} {o : Obj} (hb : h[b]? = some o) : h'[b]? = some o := by rw [e.same b (yaeo hb)]; exact hb
theorem yaqu {h : Hp} {a : Addr} {v : Value} (hc : cell h a = some v) : a.block < h.size := by
  unfold cell at hc
  split at hc
  · rename_i hb; exact yaeo hb
  · cases hc
theorem yapo {h h' : Hp} {a : Addr} (e : h'[a.block]? = h[a.block]?) : cell h' a = cell h a := by unfold cell; rw [e]
theorem Ext.cell {h h' : Hp} (e : Ext h h') {a : Addr} {v : Value} (hc : Sx.cell h a = some v) : Sx.cell h' a = some v := by
  rw [yapo (e.same _ (yaqu hc))]; exact hc
def Blk (h : Hp) (b : Nat) (cs : List Value) (e : TypeId) : Prop := h[b]? = some (.cells cs.toArray e (0, 0))
theorem Blk.cell {h : Hp} {b : Nat} {cs : List Value} {e : TypeId} (hb : Blk h b cs e) (o : Nat) : Sx.cell h ⟨b, o, none⟩ = cs[o]? := by
  unfold Blk at hb
  unfold Sx.cell
  rw [hb]
  simp
theorem Blk.lt {h : Hp} {b : Nat} {cs : List Value} {e : TypeId} (hb : Blk h b cs e) : b < h.size := yaeo hb
theorem Blk.ext {h h' : Hp} {b : Nat} {cs : List Value} {e : TypeId} (hb : Blk h b cs e) (x : Ext h h') : Blk h' b cs e := x.get hb
theorem Blk.same {h h' : Hp} {b : Nat} {cs : List Value} {e : TypeId} (hb : Blk h b cs e) (x : h'[b]? = h[b]?) : Blk h' b cs e := by unfold Blk; rw [x]; exact hb
theorem Blk.writable {h : Hp} {b o : Nat} {cs : List Value} {e : TypeId} (hb : Blk h b cs e) (ho : o < cs.length) : yajx h ⟨b, o, none⟩ := by
  refine ⟨by rw [hb.cell, List.getElem?_eq_getElem ho]; rfl, ?_⟩
  unfold Blk at hb
  unfold yadq
  rw [hb]
  simp
theorem yauo (h : Hp) (a : Addr) (v : Value) : (setH h a v).size = h.size := by simp [setH]
theorem yatp (h : Hp) (a : Addr) (v : Value) {k : Nat} (hk : k ≠ a.block) : (setH h a v)[k]? = h[k]? := by
  unfold setH
  rw [Array.getElem?_modify, if_neg (Ne.symm hk)]
theorem Blk.set {h : Hp} {b o : Nat} {cs : List Value} {e : TypeId} (hb : Blk h b cs e) (v : Value) : Blk (setH h ⟨b, o, none⟩ v) b (cs.set o v) e := by
  unfold Blk at hb ⊢
  unfold setH
  rw [Array.getElem?_modify, if_pos rfl, hb]
  simp
theorem ybce (h : Hp) (cs : List Value) (e : TypeId) : Blk (h.push (.cells cs.toArray e)) h.size cs e := by
  unfold Blk
  rw [Array.getElem?_push, if_pos rfl]
theorem yahd {h : Hp} {cs : List Value} {e : TypeId} {k : Nat → Hp → Prop} (hk : ∀ b h', b = h.size → Ext h h' → Blk h' b cs e → h'.size = h.size + 1 → k b h') : New h (.cells cs.toArray e) k :=
  hk _ _ rfl (Ext.push _ _) (ybce _ _ _) (by simp)
theorem yahj {h : Hp} {a : Addr} {b o : Nat} {cs : List Value} {e : TypeId} {v : Value} {k : Hp → Prop} (ha : a = ⟨b, o, none⟩) (hb : Blk h b cs e) (ho : o < cs.length)
    (hk : ∀ h', h'.size = h.size → (∀ j, j ≠ b → h'[j]? = h[j]?) → Blk h' b (cs.set o v) e → k h') : Wr h a v k := by
  subst ha
  exact ⟨hb.writable ho, hk _ (yauo _ _ _) (fun j hj => yatp _ _ _ hj) (hb.set v)⟩
def Rd (h : Hp) (p : Option Addr) (n : Nat) (xs : List Value) : Prop := xs.length = n ∧ (n = 0 ∨ ∃ a, p = some a ∧ ∀ i, i < n → cell h (a.add i) = xs[i]?)
theorem Rd.len {h : Hp} {p : Option Addr} {n : Nat} {xs : List Value} (r : Rd h p n xs) : xs.length = n := r.1
theorem Rd.ext {h h' : Hp} {p : Option Addr} {n : Nat} {xs : List Value} (r : Rd h p n xs) (e : Ext h h') : Rd h' p n xs := by
  refine ⟨r.1, ?_⟩
  rcases r.2 with h0 | ⟨a, hp, hc⟩
  · exact .inl h0
  · refine .inr ⟨a, hp, fun i hi => ?_⟩
    have := hc i hi
    have hi' : i < xs.length := by rw [r.1]; exact hi
    rw [List.getElem?_eq_getElem hi'] at this ⊢
    exact e.cell this
theorem Rd.same {h h' : Hp} {p : Option Addr} {n : Nat} {xs : List Value} (r : Rd h p n xs) (e : ∀ a, p = some a → h'[a.block]? = h[a.block]?) : Rd h' p n xs := by
  refine ⟨r.1, ?_⟩
  rcases r.2 with h0 | ⟨a, hp, hc⟩
  · exact .inl h0
  · refine .inr ⟨a, hp, fun i hi => ?_⟩
    have : h'[(a.add i).block]? = h[(a.add i).block]? := by rw [yakb]; exact e a hp
    rw [yapo this]
    exact hc i hi
theorem Rd.at_ {h : Hp} {p : Option Addr} {n : Nat} {xs : List Value} (r : Rd h p n xs) {i : Nat} (hi : i < n) : ∃ a, p = some a ∧ ∃ hx : i < xs.length, cell h (a.add (i * 1)) = some xs[i] := by
  rcases r.2 with h0 | ⟨a, hp, hc⟩
  · omega
  · have hi' : i < xs.length := by rw [r.1]; exact hi
    refine ⟨a, hp, hi', ?_⟩
    have := hc i hi
    rw [List.getElem?_eq_getElem hi'] at this
    rw [Nat.mul_one]; exact this
theorem Rd.nil (h : Hp) (p : Option Addr) : Rd h p 0 [] := ⟨rfl, .inl rfl⟩
theorem Rd.of_blk {h : Hp} {b : Nat} {cs : List Value} {e : TypeId} (hb : Blk h b cs e) {n : Nat} (hn : n ≤ cs.length) : Rd h (some ⟨b, 0, none⟩) n (cs.take n) := by
  refine ⟨by simp; omega, .inr ⟨_, rfl, fun i hi => ?_⟩⟩
  rw [yaca, hb.cell, Nat.zero_add, List.getElem?_take, if_pos hi]
theorem Rd.readsL {h : Hp} {p : Option Addr} {n : Nat} {xs : List Value} (r : Rd h p n xs) : readsL h p xs ∨ n = 0 := by
  rcases r.2 with h0 | ⟨a, hp, hc⟩
  · exact .inr h0
  · subst hp; exact .inl fun i hi => hc i (by rw [← r.1]; exact hi)
theorem yafn {h : Hp} {p : Option Addr} {n : Nat} {k : IntKind} {zs : List Int} {i : Int} {Q : Int → Prop} (r : Rd h p n (zs.map (Value.int k))) (h0 : 0 ≤ i) (h1 : i < n)
    (hq : Q (zs.getD i.toNat 0)) : (0 ≤ i ∧ i < (n : Int)) ∧ NN p fun a => ∃ x, cell h (a.add (i.toNat * 1)) = some (.int k x) ∧ Q x := by
  refine ⟨⟨h0, h1⟩, ?_⟩
  obtain ⟨a, rfl, hx, hc⟩ := r.at_ (i := i.toNat) (by omega)
  simp only [List.length_map] at hx
  refine ⟨_, ?_, hq⟩
  rw [hc]
  simp [List.getD, hx]
theorem yayk {h : Hp} {p : Option Addr} {n : Nat} {zs : List Bool} {i : Int} {Q : Bool → Prop} (r : Rd h p n (zs.map Value.bool)) (h0 : 0 ≤ i) (h1 : i < n)
    (hq : Q (zs.getD i.toNat false)) : (0 ≤ i ∧ i < (n : Int)) ∧ NN p fun a => ∃ x : Bool, cell h (a.add (i.toNat * 1)) = some (.bool x) ∧ Q x := by
  refine ⟨⟨h0, h1⟩, ?_⟩
  obtain ⟨a, rfl, hx, hc⟩ := r.at_ (i := i.toNat) (by omega)
  simp only [List.length_map] at hx
  refine ⟨_, ?_, hq⟩
  rw [hc]
  simp [List.getD, hx]
def Own (h : Hp) (base : Nat) (E : TypeId) (p : Option Addr) (n c : Nat) (xs : List Value) : Prop :=
  (p = none ∧ n = 0 ∧ c = 0 ∧ xs = []) ∨ ∃ b rest, base ≤ b ∧ p = some ⟨b, 0, none⟩ ∧ Blk h b (xs ++ rest) E ∧ xs.length = n ∧ (xs ++ rest).length = c
theorem Own.rd {h : Hp} {base : Nat} {E : TypeId} {p : Option Addr} {n c : Nat} {xs : List Value} (o : Own h base E p n c xs) : Rd h p n xs := by
  rcases o with ⟨rfl, rfl, rfl, rfl⟩ | ⟨b, rest, _, rfl, hb, hl, _⟩
  · exact Rd.nil _ _
  · have := Rd.of_blk hb (n := n) (by simp; omega)
    rwa [List.take_append_of_le_length (by omega), List.take_of_length_le (by omega)] at this
theorem Own.len {h : Hp} {base : Nat} {E : TypeId} {p : Option Addr} {n c : Nat} {xs : List Value} (o : Own h base E p n c xs) : xs.length = n := o.rd.len
theorem Own.cap {h : Hp} {base : Nat} {E : TypeId} {p : Option Addr} {n c : Nat} {xs : List Value} (o : Own h base E p n c xs) : n ≤ c := by
  rcases o with ⟨rfl, rfl, rfl, rfl⟩ | ⟨b, rest, _, rfl, hb, hl, hc⟩
  · exact Nat.le_refl _
  · simp at hc; omega
theorem Own.same {h h' : Hp} {base : Nat} {E : TypeId} {p : Option Addr} {n c : Nat} {xs : List Value} (o : Own h base E p n c xs) (e : ∀ a, p = some a → h'[a.block]? = h[a.block]?) : Own h' base E p n c xs := by
  rcases o with ⟨rfl, rfl, rfl, rfl⟩ | ⟨b, rest, hbs, rfl, hb, hl, hc⟩
  · exact .inl ⟨rfl, rfl, rfl, rfl⟩
  · exact .inr ⟨b, rest, hbs, rfl, hb.same (e _ rfl), hl, hc⟩
theorem Own.ext {h h' : Hp} {base : Nat} {E : TypeId} {p : Option Addr} {n c : Nat} {xs : List Value} (o : Own h base E p n c xs) (e : Ext h h') : Own h' base E p n c xs := by
  rcases o with ⟨rfl, rfl, rfl, rfl⟩ | ⟨b, rest, hbs, rfl, hb, hl, hc⟩
  · exact .inl ⟨rfl, rfl, rfl, rfl⟩
  · exact .inr ⟨b, rest, hbs, rfl, hb.ext e, hl, hc⟩
theorem Own.lt {h : Hp} {base : Nat} {E : TypeId} {p : Option Addr} {n c : Nat} {xs : List Value} (o : Own h base E p n c xs) : ∀ a, p = some a → base ≤ a.block ∧ a.block < h.size := by
  rcases o with ⟨rfl, rfl, rfl, rfl⟩ | ⟨b, rest, hbs, rfl, hb, hl, hc⟩
  · intro a ha; cases ha
  · intro a ha; cases ha; exact ⟨hbs, hb.lt⟩
structure Grow (h h' : Hp) (p : Option Addr) : Prop where
  size : h.size ≤ h'.size
  same : ∀ k, k < h.size → (∀ a, p = some a → k ≠ a.block) → h'[k]? = h[k]?
theorem yafy {b : Nat} {e : TypeId} {k : Hp → Prop} : ∀ (vs : List Value) (i o : Nat) (h : Hp) (pre mid rest : List Value), (∀ v ∈ vs, scalar v = true) → Blk h b (pre ++ mid ++ rest) e → pre.length = o + i → mid.length = vs.length →
    (∀ h', h'.size = h.size → (∀ j, j ≠ b → h'[j]? = h[j]?) → Blk h' b (pre ++ vs ++ rest) e → k h') → storesV ⟨b, o, none⟩ k vs i h
  | [], i, o, h, pre, mid, rest, _, hb, _, hm, hk => by
    have : mid = [] := List.eq_nil_of_length_eq_zero (by simpa using hm)
    subst this
    exact hk h rfl (fun _ _ => rfl) hb
  | v :: vs, i, o, h, pre, mid, rest, hs, hb, hp, hm, hk => by
    cases mid with
    | nil => simp at hm
    | cons m mid =>
      unfold storesV
      rw [hs v (by simp)]
      refine yahj (yaca b o i) hb (by simp; omega) fun h' hsz hot hb' => ?_
      have e1 : (pre ++ m :: mid ++ rest).set (o + i) v = (pre ++ [v]) ++ mid ++ rest := by
        rw [← hp, List.append_assoc, List.set_append_right _ _ (Nat.le_refl _)]
        simp
      rw [e1] at hb'
      refine yafy vs (i + 1) o h' (pre ++ [v]) mid rest (fun v hv => hs v (by simp [hv])) hb' (by simp; omega) (by simpa using hm) fun h'' hsz' hot' hb'' => ?_
      refine hk h'' (hsz'.trans hsz) (fun j hj => (hot' j hj).trans (hot j hj)) ?_
      simpa using hb''
theorem yatg {P : Program} {t t2 e : TypeId} {i0 : TypeInfo} {z : Value} {base : Nat} {h : Hp} {p q : Option Addr} {n c m c2 : Nat} {xs ys : List Value} {k : Option Addr → Nat → Nat → Hp → Prop}
    (ht : elemT P t = some (e, 1)) (ht2 : yadk P t2 = true) (hi : P.info? e = some i0) (hz : i0.zero = some z) (hzs : scalar z = true)
    (o : Own h base e p n c xs) (hb : base ≤ h.size) (r : readsL h q ys) (hm : ys.length = m) (hys : ∀ v ∈ ys, scalar v = true)
    (hc : 2 * (n + m) * i0.bytes ≤ 281474976710656) (hc2 : n + m < 4611686018427387904)
    (hk : ∀ p' c' h', Own h' base e p' (n + m) c' (xs ++ ys) → Grow h h' p → k p' (n + m) c' h') :
    yaba P t t2 (.slice p n c) (.slice q m c2) h (slK k) := by
  unfold yaba
  rw [ht, ht2]
  refine ⟨ys, by omega, r, fun hle => ?_, fun hlt => ?_⟩
  · rcases o with ⟨rfl, rfl, rfl, rfl⟩ | ⟨b, rest, hbs, rfl, hb, hl, hcl⟩
    · have : m = 0 := by omega
      subst this
      have : ys = [] := List.eq_nil_of_length_eq_zero hm
      subst this
      exact hk none 0 h (.inl ⟨rfl, rfl, rfl, rfl⟩) ⟨Nat.le_refl _, fun _ _ _ => rfl⟩
    · rw [List.length_append] at hcl
      have hrest : rest = rest.take m ++ rest.drop m := (List.take_append_drop m rest).symm
      rw [hrest, ← List.append_assoc] at hb
      simp only [yagj, yaca, Nat.mul_one, Nat.zero_add]
      refine yafy ys 0 n h xs (rest.take m) (rest.drop m) hys hb (by omega) (by simp; omega) fun h' hsz hot hb' => ?_
      refine hk _ c h' (.inr ⟨b, rest.drop m, hbs, rfl, hb', by simp; omega, by simp; omega⟩) ⟨by omega, fun j hj hn => hot j (hn _ rfl)⟩
  · have hnc : n ≤ c := o.cap
    have hncap : Builtin.nextslicecap (n + m) c ≤ 2 * (n + m) := by
      unfold Builtin.nextslicecap
      split
      · omega
      · split
        · omega
        · rename_i h1 h2
          simp only [Builtin.growBy]
          split
          · omega
          · split
            · omega
            · split
              · omega
              · split <;> omega
    have hbt : yacs P e = i0.bytes := by unfold yacs; rw [hi]
    refine ⟨⟨?_, by omega⟩, xs, by have := o.len; omega, ?_, ?_⟩
    · rw [hbt]
      exact Nat.le_trans (Nat.mul_le_mul_right _ hncap) hc
    · rcases o.rd.readsL with hr | h0
      · exact hr
      · subst h0
        have : xs = [] := List.eq_nil_of_length_eq_zero o.len
        subst this
        cases p with
        | none => rfl
        | some a => intro i hi; cases hi
    · unfold zeroV
      rw [hi]
      simp only [hz]
      intro c' hc' _
      refine yahd fun b h' hbe hext hblk hsz => ?_
      have hzc : z.cells = #[z] := by cases z <;> first | rfl | cases hzs
      refine hk _ c' h' (.inr ⟨b, _, by omega, rfl, hblk, by have := o.len; simp; omega, ?_⟩) ⟨hext.size, fun j hj _ => hext.same j hj⟩
      have := o.len
      rw [List.length_append, List.length_append, hzc]
      simp [repL]
      omega
structure ElemOk (P : Program) (t e : TypeId) : Prop where
  el : elemT P t = some (e, 1)
  ni : yadk P t = true
  info : ∃ i0 z, P.info? e = some i0 ∧ i0.zero = some z ∧ scalar z = true ∧ i0.bytes ≤ 32
def elemB (P : Program) (t e : TypeId) : Bool :=
  (match elemT P t with | some (e', s) => Nat.beq e e' && Nat.beq s 1 | none => false) && (yadk P t &&
  (match P.info? e with | some i0 => (match i0.zero with | some z => scalar z && Nat.ble i0.bytes 32 | none => false) | none => false))
theorem yarg {P : Program} {t e : TypeId} (h : elemB P t e = true) : ElemOk P t e := by
  unfold elemB at h
  simp only [Bool.and_eq_true] at h
  obtain ⟨h1, h2, h3⟩ := h
  refine ⟨?_, h2, ?_⟩
  · split at h1
    · rename_i e' s he
      simp only [Bool.and_eq_true] at h1
      rw [he, Nat.eq_of_beq_eq_true h1.1, Nat.eq_of_beq_eq_true h1.2]
    · cases h1
  · split at h3
    · rename_i i0 hi
      split at h3
      · rename_i z hz
        simp only [Bool.and_eq_true] at h3
        exact ⟨i0, z, hi, hz, h3.1, Nat.le_of_ble_eq_true h3.2⟩
      · cases h3
    · cases h3
theorem Grow.trans_ext {h h1 h2 : Hp} {p : Option Addr} (e : Ext h h1) (g : Grow h1 h2 p) : Grow h h2 p :=
  ⟨Nat.le_trans e.size g.size, fun k hk hn => (g.same k (Nat.lt_of_lt_of_le hk e.size) hn).trans (e.same k hk)⟩
theorem yarb {P : Program} {t e e' : TypeId} {base : Nat} {h : Hp} {p : Option Addr} {n c : Nat} {xs : List Value} {x : Value} {k : Option Addr → Nat → Nat → Hp → Prop}
    (ok : ElemOk P t e) (o : Own h base e p n c xs) (hb : base ≤ h.size) (hx : scalar x = true) (hn : n < 1099511627776)
    (hk : ∀ p' c' h', Own h' base e p' (n + 1) c' (xs ++ [x]) → Grow h h' p → k p' (n + 1) c' h') :
    New h (.cells #[x] e') fun b h1 => yaba P t t (.slice p n c) (.slice (some ⟨b, 0, none⟩) 1 1) h1 (slK k) := by
  refine yahd (cs := [x]) fun b h1 hbe x1 k1 z1 => ?_
  obtain ⟨i0, z, hi, hz, hzs, hbt⟩ := ok.info
  refine yatg (ys := [x]) ok.el ok.ni hi hz hzs (o.ext x1) (by omega) ?_ rfl (by simpa using hx) ?_ (by omega) fun p' c' h' o' g => hk p' c' h' o' (g.trans_ext x1)
  · intro i hi
    rw [yaca, k1.cell, Nat.zero_add]
  · have : 2 * (n + 1) * i0.bytes ≤ 2 * (n + 1) * 32 := Nat.mul_le_mul_left _ hbt
    omega
theorem yakr (n : Nat) (z : Value) : repL n [z] = List.replicate n z := by
  apply List.ext_getElem
  · simp [repL]
  · intro i h1 h2
    simp [repL, Nat.mod_one, nth]
open Go
section
variable {P : Program}
end
def pc (w : Nat) : Nat → Nat
  | 0 => 0
  | k + 1 => pc w k + (w.testBit k).toNat
theorem pc_le (w : Nat) : ∀ k, pc w k ≤ k
  | 0 => Nat.le_refl _
  | k + 1 => by have := pc_le w k; have : (w.testBit k).toNat ≤ 1 := Bool.toNat_le _; simp only [pc]; omega
theorem yabw (q r i : Nat) (hr : r < 256) : (256 * q + r).testBit i = if i < 8 then r.testBit i else q.testBit (i - 8) :=
  Nat.testBit_two_pow_mul_add q (b := r) (i := 8) hr i
theorem yaxn (q r : Nat) (hr : r < 256) : ∀ k, pc (256 * q + r) (8 + k) = pc r 8 + pc q k
  | 0 => by
    have : ∀ j, j ≤ 8 → pc (256 * q + r) j = pc r j := by
      intro j
      induction j with
      | zero => intro _; rfl
      | succ j ih => intro hj; simp only [pc]; rw [ih (by omega), yabw q r j hr, if_pos (by omega)]
    exact this 8 (Nat.le_refl _)
  | k + 1 => by
    have h1 := yaxn q r hr k
    show pc (256 * q + r) (8 + k) + ((256 * q + r).testBit (8 + k)).toNat = _
    rw [h1, yabw q r (8 + k) hr, if_neg (by omega)]
    simp only [pc]
    rw [show 8 + k - 8 = k by omega]
    omega
theorem yant (q r M m : Nat) (hr : r < 256) (hm : m < 256) : (256 * q + r) &&& (256 * M + m) = 256 * (q &&& M) + (r &&& m) := by
  apply Nat.eq_of_testBit_eq
  intro i
  have h : r &&& m < 256 := Nat.lt_of_le_of_lt Nat.and_le_left hr
  rw [Nat.testBit_and, yabw _ _ _ hr, yabw _ _ _ hm, yabw _ _ _ h]
  split <;> simp [Nat.testBit_and]
theorem yais (q r M m s : Nat) (hr : r < 256) (hs : s ≤ 8) (hm : m < 2 ^ (8 - s)) : ((256 * q + r) >>> s) &&& (256 * M + m) = 256 * ((q >>> s) &&& M) + ((r >>> s) &&& m) := by
  have hm' : m < 256 := Nat.lt_of_lt_of_le hm (Nat.pow_le_pow_right (by decide) (by omega) : 2 ^ (8 - s) ≤ 2 ^ 8)
  apply Nat.eq_of_testBit_eq
  intro i
  have h : (r >>> s) &&& m < 256 := Nat.lt_of_le_of_lt Nat.and_le_right hm'
  rw [Nat.testBit_and, Nat.testBit_shiftRight, yabw _ _ _ hr, yabw _ _ _ hm', yabw _ _ _ h]
  by_cases hi : i < 8
  · rw [if_pos hi, if_pos hi, Nat.testBit_and, Nat.testBit_shiftRight]
    by_cases hsi : s + i < 8
    · rw [if_pos hsi]
    · rw [if_neg hsi]
      have : m.testBit i = false := Nat.testBit_lt_two_pow (Nat.lt_of_lt_of_le hm (Nat.pow_le_pow_right (by decide) (by omega)))
      rw [this, Bool.and_false, Bool.and_false]
  · rw [if_neg (by omega), if_neg hi, if_neg hi, Nat.testBit_and, Nat.testBit_shiftRight]
    rw [show s + i - 8 = s + (i - 8) by omega]
def mk (m : Nat) : Nat → Nat
  | 0 => 0
  | k + 1 => 256 * mk m k + m
def sw1 (k x : Nat) : Nat := ((x >>> 1) &&& mk 0x55 k) + (x &&& mk 0x55 k)
def sw2 (k x : Nat) : Nat := ((x >>> 2) &&& mk 0x33 k) + (x &&& mk 0x33 k)
def sw3 (k x : Nat) : Nat := ((x >>> 4) + x) &&& mk 0x0f k
theorem yasw (k q r : Nat) (hr : r < 256) : sw1 (k + 1) (256 * q + r) = 256 * sw1 k q + (((r >>> 1) &&& 0x55) + (r &&& 0x55)) := by
  have e : mk 0x55 (k + 1) = 256 * mk 0x55 k + 0x55 := rfl
  unfold sw1
  rw [e, yais q r _ _ 1 hr (by omega) (by decide), yant q r _ _ hr (by decide)]
  omega
theorem yaua (k q r : Nat) (hr : r < 256) : sw2 (k + 1) (256 * q + r) = 256 * sw2 k q + (((r >>> 2) &&& 0x33) + (r &&& 0x33)) := by
  have e : mk 0x33 (k + 1) = 256 * mk 0x33 k + 0x33 := rfl
  unfold sw2
  rw [e, yais q r _ _ 2 hr (by omega) (by decide), yant q r _ _ hr (by decide)]
  omega
def o1 (r : Nat) : Nat := ((r >>> 1) &&& 0x55) + (r &&& 0x55)
def o2 (r : Nat) : Nat := ((o1 r >>> 2) &&& 0x33) + (o1 r &&& 0x33)
theorem yaxk : ∀ r, r < 256 → o1 r < 256 ∧ o2 r ≤ 68 ∧ o2 r % 16 ≤ 4 ∧ (o2 r + o2 r / 16) % 16 = pc r 8 := by decide +kernel
theorem yayo (k x : Nat) : sw2 k (sw1 k x) % 16 ≤ 4 := by
  cases k with
  | zero => simp [sw2, mk]
  | succ k =>
    have hx : x = 256 * (x / 256) + x % 256 := by omega
    have hr : x % 256 < 256 := Nat.mod_lt _ (by decide)
    obtain ⟨h1, _, h3, _⟩ := yaxk _ hr
    rw [hx, yasw k _ _ hr]
    show sw2 (k + 1) (256 * sw1 k (x / 256) + o1 (x % 256)) % 16 ≤ 4
    rw [yaua k _ _ h1]
    show (256 * sw2 k (sw1 k (x / 256)) + o2 (x % 256)) % 16 ≤ 4
    omega
def cnt : Nat → Nat → Nat
  | 0, _ => 0
  | k + 1, x => 256 * cnt k (x / 256) + pc (x % 256) 8
theorem and15 (x : Nat) : x &&& 15 = x % 16 := Nat.and_two_pow_sub_one_eq_mod x 4
theorem yaws : ∀ k x, sw3 k (sw2 k (sw1 k x)) = cnt k x
  | 0, x => by simp [sw3, mk, cnt]
  | k + 1, x => by
    have hr : x % 256 < 256 := Nat.mod_lt _ (by decide)
    have hx : x = 256 * (x / 256) + x % 256 := by omega
    obtain ⟨h1, h2, h3, h4⟩ := yaxk _ hr
    have ih := yaws k (x / 256)
    have hm := yayo k (x / 256)
    have e1 : sw1 (k + 1) x = 256 * sw1 k (x / 256) + o1 (x % 256) := by
      have := yasw k (x / 256) (x % 256) hr
      rw [← hx] at this
      exact this
    have e2 : sw2 (k + 1) (sw1 (k + 1) x) = 256 * sw2 k (sw1 k (x / 256)) + o2 (x % 256) := by rw [e1]; exact yaua k _ _ h1
    rw [e2]
    simp only [cnt]
    rw [← ih, ← h4]
    generalize sw2 k (sw1 k (x / 256)) = B at *
    generalize o2 (x % 256) = β at *
    have e0 : mk 0x0f (k + 1) = 256 * mk 0x0f k + 15 := rfl
    unfold sw3
    rw [e0, Nat.shiftRight_eq_div_pow, Nat.shiftRight_eq_div_pow]
    have e3 : (256 * B + β) / 2 ^ 4 + (256 * B + β) = 256 * (B / 2 ^ 4 + B) + (β + β / 16 + 16 * (B % 16)) := by
      have : (2 : Nat) ^ 4 = 16 := by decide
      rw [this]; omega
    rw [e3, yant _ _ _ _ (by omega) (by decide), and15]
    congr 1
    omega
def swar (x : Nat) : Nat :=
  let c := sw3 8 (sw2 8 (sw1 8 x))
  let d := c + c >>> 8
  let e := d + d >>> 16
  let f := e + e >>> 32
  f &&& 127
theorem yalr (r : Nat) : pc r 8 ≤ 8 := pc_le r 8
def bsum : Nat → Nat → Nat
  | 0, _ => 0
  | k + 1, x => pc (x % 256) 8 + bsum k (x / 256)
theorem yaxf : ∀ n x, pc x (8 * n) = bsum n x
  | 0, _ => rfl
  | n + 1, x => by
    have h := yaxn (x / 256) (x % 256) (Nat.mod_lt _ (by decide)) (8 * n)
    rw [show 256 * (x / 256) + x % 256 = x by omega] at h
    rw [show 8 * (n + 1) = 8 + 8 * n by omega, h, yaxf n (x / 256)]
    rfl
theorem yavc (p0 p1 p2 p3 p4 p5 p6 p7 : Nat) (b0 : p0 ≤ 8) (b1 : p1 ≤ 8) (b2 : p2 ≤ 8) (b3 : p3 ≤ 8) (b4 : p4 ≤ 8) (b5 : p5 ≤ 8) (b6 : p6 ≤ 8) (b7 : p7 ≤ 8) (c d e f : Nat)
    (hc : c = 256 * (256 * (256 * (256 * (256 * (256 * (256 * p7 + p6) + p5) + p4) + p3) + p2) + p1) + p0) (hd : d = c + c / 256) (he : e = d + d / 65536) (hf : f = e + e / 4294967296) :
    f % 128 = p0 + (p1 + (p2 + (p3 + (p4 + (p5 + (p6 + p7)))))) := by
  have e1 : c / 256 = 256 * (256 * (256 * (256 * (256 * (256 * p7 + p6) + p5) + p4) + p3) + p2) + p1 := by omega
  have e2 : d = 65536 * (65536 * (65536 * ((p6 + p7) + 256 * p7) + ((p4 + p5) + 256 * (p5 + p6))) + ((p2 + p3) + 256 * (p3 + p4))) + ((p0 + p1) + 256 * (p1 + p2)) := by omega
  clear hd hc e1
  have e3 : d / 65536 = 65536 * (65536 * ((p6 + p7) + 256 * p7) + ((p4 + p5) + 256 * (p5 + p6))) + ((p2 + p3) + 256 * (p3 + p4)) := by omega
  have e4 : e = 4294967296 * (65536 * ((p6 + p7) + 256 * p7) + ((p4 + p5 + p6 + p7) + 256 * (p5 + p6 + p7))) + (65536 * ((p2 + p3 + p4 + p5) + 256 * (p3 + p4 + p5 + p6)) + ((p0 + p1 + p2 + p3) + 256 * (p1 + p2 + p3 + p4))) := by omega
  clear he e3 e2
  have e5 : e / 4294967296 = 65536 * ((p6 + p7) + 256 * p7) + ((p4 + p5 + p6 + p7) + 256 * (p5 + p6 + p7)) := by omega
  omega
theorem ybeg (x : Nat) : swar x = pc x 64 := by
  have e : pc x 64 = bsum 8 x := yaxf 8 x
  rw [e]
  unfold swar
  rw [yaws]
  simp only [cnt, bsum, Nat.mul_zero, Nat.zero_add, Nat.add_zero]
  rw [show (127 : Nat) = 2 ^ 7 - 1 by decide, Nat.and_two_pow_sub_one_eq_mod _ 7]
  simp only [Nat.shiftRight_eq_div_pow, show (2 : Nat) ^ 8 = 256 by decide, show (2 : Nat) ^ 16 = 65536 by decide, show (2 : Nat) ^ 32 = 4294967296 by decide, show (2 : Nat) ^ 7 = 128 by decide]
  exact yavc _ _ _ _ _ _ _ _ (yalr _) (yalr _) (yalr _) (yalr _) (yalr _) (yalr _) (yalr _) (yalr _) _ _ _ _ rfl rfl rfl rfl
open Go
open Go
open Go
def LocH (base : Nat) (h : Hp) (Q : Hp → Prop) : Prop := ∀ h', (∀ k, base ≤ k → k < h.size → h'[k]? = h[k]?) → Q h'
theorem LocH.self {base : Nat} {h : Hp} {Q : Hp → Prop} (l : LocH base h Q) : Q h := l h fun _ _ _ => rfl
theorem LocH.step {base : Nat} {h h1 : Hp} {Q : Hp → Prop} (l : LocH base h Q) (hz : h.size ≤ h1.size) (hs : ∀ k, base ≤ k → k < h.size → h1[k]? = h[k]?) : LocH base h1 Q :=
  fun h' hh => l h' fun k hk hl => (hh k hk (Nat.lt_of_lt_of_le hl hz)).trans (hs k hk hl)
theorem LocH.ext {base : Nat} {h h1 : Hp} {Q : Hp → Prop} (l : LocH base h Q) (x : Ext h h1) : LocH base h1 Q := l.step x.size fun k _ hl => x.same k hl
theorem LocH.base {base base' : Nat} {h : Hp} {Q : Hp → Prop} (l : LocH base h Q) (hb : base' ≤ base) : LocH base' h Q := fun h' hh => l h' fun k hk hl => hh k (Nat.le_trans hb hk) hl
theorem LocH.mono {base : Nat} {h : Hp} {Q Q' : Hp → Prop} (l : LocH base h Q) (hq : ∀ h, Q h → Q' h) : LocH base h Q' := fun h' hh => hq _ (l h' hh)
theorem LocH.and {base : Nat} {h : Hp} {Q Q' : Hp → Prop} (l : LocH base h Q) (l' : LocH base h Q') : LocH base h (fun h => Q h ∧ Q' h) := fun h' hh => ⟨l h' hh, l' h' hh⟩
theorem LocH.blk {base b : Nat} {h : Hp} {cs : List Value} {e : TypeId} (hb : Blk h b cs e) (hbs : base ≤ b) : LocH base h (fun h => Blk h b cs e) := fun _ hh => hb.same (hh b hbs hb.lt)
theorem LocH.own {base base' : Nat} {h : Hp} {E : TypeId} {p : Option Addr} {n c : Nat} {xs : List Value} (o : Own h base' E p n c xs) (hbs : base ≤ base') : LocH base h (fun h => Own h base' E p n c xs) :=
  fun _ hh => o.same fun a ha => hh _ (Nat.le_trans hbs (o.lt a ha).1) (o.lt a ha).2
open Go
open Go
open Go
theorem Rd.sub {h : Hp} {p : Option Addr} {n c i m : Nat} {xs : List Value} (r : Rd h p n xs) (hi : i ≤ n) (hc : n ≤ c) (hm : m = n - i) : Rd h (yaai p c i 1) m (xs.drop i) := by
  subst hm
  refine ⟨by simp [r.1], ?_⟩
  unfold yaai
  by_cases h1 : c = i
  · exact .inl (by omega)
  · rw [if_neg h1]
    rcases r.2 with h0 | ⟨a, ha, hcell⟩
    · exact .inl (by omega)
    · subst ha
      refine .inr ⟨a.add (i * 1), rfl, fun j hj => ?_⟩
      rw [Nat.mul_one, yapc, List.getElem?_drop]
      exact hcell (i + j) (by omega)
open Go
open Go
def Apart (p q : Option Addr) : Prop := ∀ a b, p = some a → q = some b → a.block ≠ b.block
theorem Apart.symm {p q : Option Addr} (h : Apart p q) : Apart q p := fun a b ha hb e => h b a hb ha e.symm
theorem Apart.fresh {p p' q : Option Addr} {h : Hp} (h0 : Apart p q) (hf : ∀ a', p' = some a' → p = some a' ∨ h.size ≤ a'.block) (hq : ∀ b, q = some b → b.block < h.size) : Apart p' q := by
  intro a b ha hb e
  rcases hf a ha with h1 | h1
  · exact h0 a b h1 hb e
  · have := hq b hb; omega
open Go
theorem Own.keep {h h' : Hp} {base : Nat} {E : TypeId} {p q : Option Addr} {n c : Nat} {ys : List Value} (o : Own h base E q n c ys) (g : Grow h h' p) (ap : Apart q p) : Own h' base E q n c ys :=
  o.same fun a ha => g.same _ (o.lt a ha).2 fun a' ha' => ap a a' ha ha'
end Go.Sx
