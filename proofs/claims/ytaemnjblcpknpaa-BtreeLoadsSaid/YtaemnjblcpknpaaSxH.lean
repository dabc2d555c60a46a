/- The condition of a whole body of code. -/
import Derived.Test.YtaemnjblcpknpaaSxG3
namespace Go.Sx
open Go

inductive Sh where
  | int (k : IntKind)
  | bool
  | ptr
  | slice
  | str
  | val

abbrev Sh.den : Sh → Type
  | .int _ => Int
  | .bool => Bool
  | .ptr => Option Addr
  | .slice => Option Addr × Nat × Nat
  | .str => ByteArray
  | .val => Value
abbrev Sh.value : (s : Sh) → s.den → Value
  | .int k, n => .int k n
  | .bool, b => .bool b
  | .ptr, p => .pointer p
  | .slice, x => .slice x.1 x.2.1 x.2.2
  | .str, s => .string s
  | .val, v => v
abbrev Sh.of : (s : Sh) → Value → (s.den → Prop) → Prop
  | .int k, v, f => (match v with | .int k' n => cond (Nat.beq (kNum k') (kNum k)) (f n) False | _ => False)
  | .bool, v, f => (match v with | .bool b => f b | _ => False)
  | .ptr, v, f => (match v with | .pointer p => f p | _ => False)
  | .slice, v, f => (match v with | .slice a l c => f (a, l, c) | _ => False)
  | .str, v, f => (match v with | .string s => f s | _ => False)
  | .val, v, f => f v
def Sh.back : (s : Sh) → Value → Option s.den
  | .int k, v => (match v with | .int k' n => cond (Nat.beq (kNum k') (kNum k)) (some n) none | _ => none)
  | .bool, v => (match v with | .bool b => some b | _ => none)
  | .ptr, v => (match v with | .pointer p => some p | _ => none)
  | .slice, v => (match v with | .slice a l c => some (a, l, c) | _ => none)
  | .str, v => (match v with | .string s => some s | _ => none)
  | .val, v => some v
theorem Sh.of_spec : ∀ {s : Sh} {v : Value} {f : s.den → Prop}, s.of v f → ∃ x, v = s.value x ∧ f x
  | .int k, v, f, h => by
    simp only [Sh.of] at h
    split at h
    · obtain ⟨hk, h⟩ := cond_true_of h; exact ⟨_, by rw [kNum_inj hk], h⟩
    · exact h.elim
  | .bool, v, f, h => by simp only [Sh.of] at h; split at h <;> first | exact ⟨_, rfl, h⟩ | exact h.elim
  | .ptr, v, f, h => by simp only [Sh.of] at h; split at h <;> first | exact ⟨_, rfl, h⟩ | exact h.elim
  | .slice, v, f, h => by simp only [Sh.of] at h; split at h <;> first | exact ⟨_, rfl, h⟩ | exact h.elim
  | .str, v, f, h => by simp only [Sh.of] at h; split at h <;> first | exact ⟨_, rfl, h⟩ | exact h.elim
  | .val, v, f, h => ⟨v, rfl, h⟩
theorem Sh.back_value : ∀ (s : Sh) (x : s.den), s.back (s.value x) = some x
  | .int k, x => by cases k <;> rfl
  | .bool, _ => rfl
  | .ptr, _ => rfl
  | .slice, _ => rfl
  | .str, _ => rfl
  | .val, _ => rfl

abbrev Dn : List (Nat × Sh) → Type
  | [] => Unit
  | (_, s) :: r => s.den × Dn r
abbrev getV : (V : List (Nat × Sh)) → Env → (Dn V → Prop) → Prop
  | [], _, k => k ()
  | (i, s) :: r, env, k => (match look env i with | some v => s.of v fun x => getV r env fun xs => k (x, xs) | none => False)
abbrev putV : (V : List (Nat × Sh)) → Dn V → Env → Env
  | [], _, e => e
  | (i, s) :: r, x, e => (i, s.value x.1) :: putV r x.2 e
def sOf : (V : List (Nat × Sh)) → Act → Option (Dn V)
  | [], _ => some ()
  | (i, s) :: r, a => (match a.tmps[i]? with | some v => (match s.back v, sOf r a with | some x, some xs => some (x, xs) | _, _ => none) | none => none)
def Has (env : Env) (a : Act) : Prop := ∀ p ∈ env, a.tmps[p.1]? = some p.2
theorem look_mem : ∀ {env : Env} {i : Nat} {v : Value}, look env i = some v → (i, v) ∈ env
  | [], _, _, h => by cases h
  | (j, u) :: r, i, v, h => by
    rw [look_cons] at h
    split at h
    · rename_i e; subst e; obtain rfl := Option.some.inj h; exact List.mem_cons_self
    · exact List.mem_cons_of_mem _ (look_mem h)
theorem getV_spec {n : Nat} {env : Env} {a : Act} (m : Mdl n env a) : ∀ {V : List (Nat × Sh)} {k : Dn V → Prop}, getV V env k → ∃ s, k s ∧ Has (putV V s []) a
  | [], k, h => ⟨(), h, fun p hp => by cases hp⟩
  | (i, s) :: r, k, h => by
    simp only [getV] at h
    split at h
    · rename_i v hv
      obtain ⟨x, hx, h2⟩ := Sh.of_spec h
      subst hx
      obtain ⟨xs, h, hh⟩ := getV_spec m h2
      refine ⟨(x, xs), h, fun p hp => ?_⟩
      cases hp with
      | head => exact m.get i _ hv
      | tail _ hp => exact hh p hp
    · exact h.elim
theorem sOf_has {a : Act} : ∀ {V : List (Nat × Sh)} {s : Dn V}, Has (putV V s []) a → sOf V a = some s
  | [], _, _ => rfl
  | (i, sh) :: r, s, h => by
    have h1 := h (i, sh.value s.1) List.mem_cons_self
    have h2 := sOf_has (V := r) (s := s.2) fun p hp => h p (List.mem_cons_of_mem _ hp)
    simp only [sOf]
    simp only [] at h1
    rw [h1]
    simp only [Sh.back_value, h2]
theorem putV_app : ∀ (V : List (Nat × Sh)) (s : Dn V) (e : Env), putV V s e = putV V s [] ++ e
  | [], _, _ => rfl
  | (i, sh) :: r, s, e => by simp only [putV, putV_app r s.2 e, List.cons_append]
abbrev rs : List Nat → Env → Env
  | [], _ => []
  | i :: r, env => (match look env i with | some v => (i, v) :: rs r env | none => rs r env)
theorem rs_mem {env : Env} : ∀ {L : List Nat} {p : Nat × Value}, p ∈ rs L env → p.1 ∈ L ∧ look env p.1 = some p.2
  | [], _, h => by cases h
  | i :: r, p, h => by
    simp only [rs] at h
    split at h
    · rename_i v hv
      cases h with
      | head => exact ⟨List.mem_cons_self, hv⟩
      | tail _ h => exact ⟨List.mem_cons_of_mem _ (rs_mem h).1, (rs_mem h).2⟩
    · exact ⟨List.mem_cons_of_mem _ (rs_mem h).1, (rs_mem h).2⟩

/-- A part of a code, of an annotation, by its path. -/
abbrev step (i : Nat) (c : Code) : Code :=
  match c with
  | .seq a b => (match i with | 0 => a | _ => b)
  | .cond _ a b => (match i with | 0 => a | _ => b)
  | .block _ a => a
  | .loop a => a
  | c => c
abbrev bodyOf (f : Func) : Code := match f.body with | some c => c | none => .skip
abbrev cp : List Nat → Code → Code
  | [], c => c
  | i :: p, c => cp p (step i c)

inductive Ann where
  | leaf
  | node (cut : Option (List Nat)) (l r : Ann)
  | loop (C : List Nat) (V : List (Nat × Sh)) (b : Ann)
  | tail (k : Nat)
  | plan (p : Plan)
abbrev Ann.cut : Ann → Option (List Nat) | .node c _ _ => c | _ => none
abbrev Ann.l : Ann → Ann | .node _ l _ => l | _ => .leaf
abbrev Ann.r : Ann → Ann | .node _ _ r => r | _ => .leaf
abbrev Ann.b : Ann → Ann | .loop _ _ b => b | _ => .leaf
abbrev ap : List Nat → Ann → Ann
  | [], a => a
  | i :: p, a => ap p (match i with | 0 => a.l | 1 => a.r | _ => a.b)

abbrev thenE (next : Env → Hp → Prop) (K : Exit → Env → Hp → Prop) : Exit → Env → Hp → Prop := fun e env h =>
  match e with
  | .normal => next env h
  | e => K e env h
abbrev blockE (id : Nat) (K : Exit → Env → Hp → Prop) : Exit → Env → Hp → Prop := fun e env h =>
  match e with
  | .exit i => (match Nat.beq i id with | true => K .normal env h | false => K (.exit i) env h)
  | e => K e env h
abbrev cutE (c : Option (List Nat)) (k : Env → Hp → Prop) : Env → Hp → Prop := fun env h =>
  match c with
  | none => k env h
  | some L => k (rs L env) h
/-- A loop, by a relation and a measure. -/
def LoopVC {σ : Type} (s0 : σ) (h0 : Hp) (body : (σ → Hp → Prop) → σ → Hp → Prop) : Prop :=
  ∃ (I : σ → Hp → Prop) (μ : σ → Hp → Nat), I s0 h0 ∧ ∀ s h, I s h → body (fun s' h' => I s' h' ∧ μ s' h' < μ s h) s h
def callableB (P : Program) (g : Nat) : Bool :=
  match P.funcs[g]? with
  | some fn => !(fn.name == "runtime.NumGoroutine") && !fn.body.isNone
  | none => false
theorem callableB_spec {P : Program} {g : Nat} (h : callableB P g = true) : Callable P g := by
  unfold callableB at h
  split at h
  · rename_i fn hf
    simp only [Bool.and_eq_true, Bool.not_eq_true'] at h
    exact ⟨fn, hf, h.1, h.2⟩
  · cases h
abbrev writes : Code → List Nat
  | .region _ ops _ => writesOps ops.toList
  | .seq a b => writes a ++ writes b
  | .cond _ a b => writes a ++ writes b
  | .block _ a => writes a
  | .loop a => writes a
  | _ => []
abbrev memL (i : Nat) : List Nat → Bool
  | [] => false
  | j :: r => cond (Nat.beq i j) true (memL i r)
theorem memL_spec {i : Nat} : ∀ {l : List Nat}, memL i l = true → i ∈ l
  | [], h => by cases h
  | j :: r, h => by
    unfold memL at h
    cases hb : Nat.beq i j with
    | true => rw [Nat.eq_of_beq_eq_true hb]; exact List.mem_cons_self
    | false => rw [hb] at h; exact List.mem_cons_of_mem _ (memL_spec h)
abbrev disj (C ws : List Nat) : Bool := allL (fun i => !memL i ws) C
theorem memL_mem {i : Nat} : ∀ {l : List Nat}, i ∈ l → memL i l = true
  | [], h => by cases h
  | j :: r, h => by
    unfold memL
    cases hb : Nat.beq i j with
    | true => rfl
    | false =>
      cases h with
      | head => simp at hb
      | tail _ h => exact memL_mem h
theorem disj_spec {C ws : List Nat} (h : disj C ws = true) {i : Nat} (hi : i ∈ C) : i ∉ ws := fun hm => by
  have := allL_spec h i hi
  rw [memL_mem hm] at this
  cases this

abbrev regB (all : List Oper) (p : Plan) : Bool := cond (allL (selfOk all) (List.range all.length)) (planB all (masks all []) p true (List.range all.length)) false
abbrev Cnd := Code → Ann → Env → Hp → (Exit → Env → Hp → Prop) → Prop
/-- The condition of a code; what stands behind a cut, and a loop's body, by another condition. -/
abbrev sx0 (P : Program) (F : Nat → Bool) (n : Nat) (S : Cnd) : Code → Ann → Env → Hp → (Exit → Env → Hp → Prop) → Prop
  | .skip, _, env, h, K => K .normal env h
  | .region _ ops draw, an, env, h, K => (match draw with
    | false => sxOps P F n ops.toList ops.toList env h (K .normal)
    | true => (match an with
      | .tail k => chk (headB ops.toList k && (tailB ops.toList k && (Nat.ble k ops.toList.length && Region.lexB .any (ops.toList.take k).toArray)))
          (sxQ P F n (ops.toList.take k) (ops.toList.take k) env h fun env => sxOps P F n ops.toList (ops.toList.drop k) env h (K .normal))
      | .plan p => chk (regB ops.toList p) (sxP P F n ops.toList (masks ops.toList []) (K .normal) p [] env h)
      | _ => chk (Region.lexB .any ops) (sxQ P F n ops.toList ops.toList env h fun env => K .normal env h)))
  | .seq a b, an, env, h, K => sx0 P F n S a an.l env h (thenE (match an.cut with
      | none => fun env h => sx0 P F n S b an.r env h K
      | some L => fun env h => S b an.r (rs L env) h K) K)
  | .cond c a b, an, env, h, K => chk (knownX env c) (match ev env c with | .bool t => cond t (sx0 P F n S a an.l env h K) (sx0 P F n S b an.r env h K) | _ => False)
  | .block id a, an, env, h, K => sx0 P F n S a an env h (blockE id K)
  | .loop a, an, env, h, K => (match an with
    | .loop C V b => chk (disj C (writes a)) (getV V env fun s0 => LoopVC s0 h fun nx s h => S a b (putV V s (rs C env)) h (thenE (fun env h => getV V env fun s => nx s h) K))
    | _ => False)
  | .exit id, _, env, h, K => K (.exit id) env h
  | .ret, _, env, h, K => K .ret env h
  | _, _, _, _, _ => False

/-- A condition is sound. -/
def Snd (P : Program) (n : Nat) (S : Cnd) : Prop := ∀ (c : Code) (an : Ann) (env : Env) (h : Hp) (K : Exit → Env → Hp → Prop), S c an env h K → ∀ (a : Act) (w : World), Mdl n env a → w.heap = h → c.wp P (Post n (writes c) a w K) a w

section
variable {P : Program} {F : Nat → Bool}

theorem sound_sx0 (hF : ∀ g, F g = true → Callable P g) (hm : P.follows .mixedOrders = true) {n : Nat} {S : Cnd} (hS : Snd P n S) : Snd P n (sx0 P F n S) := by
  intro c
  induction c with
  | skip =>
    intro an env h K hk a w m hw
    exact wp_skip ⟨env, m, Same.refl w, Keeps.refl _ _, by rw [hw]; exact hk⟩
  | region id ops draw =>
    intro an env h K hk a w m hw
    cases draw with
    | false =>
      have h1 := sound_ops hF ops.toList env h (K .normal) hk a w m hw
      refine wp_region_list ?_
      refine wpList_mono (fun e a' w' hp => ?_) _ _ _ h1
      obtain ⟨env', m', s, kp, rfl, hk'⟩ := hp
      exact ⟨env', m', s, kp, hk'⟩
    | true =>
      have quiet : ∀ (_ : chk (Region.lexB .any ops) (sxQ P F n ops.toList ops.toList env h fun env => K .normal env h)), (Code.region id ops true).wp P (Post n (writes (.region id ops true)) a w K) a w := by
        intro hk
        obtain ⟨hB, hk⟩ := cond_true_of hk
        have h1 := sound_sxQ hF (w0 := w) ops.toList env _ hk a m
        refine wp_region_quiet (C := Cls w h) hm hB ⟨hw, ⟨rfl, rfl, rfl⟩⟩ ?_
        refine wpQuiet_mono (fun a' hp w' hw' => ?_) _ _ h1
        obtain ⟨env', m', kp, hk'⟩ := hp
        exact ⟨env', m', hw'.2, kp, by rw [hw'.1]; exact hk'⟩
      simp only [sx0] at hk
      cases an with
      | tail k =>
        obtain ⟨hc, hk⟩ := cond_true_of hk
        simp only [Bool.and_eq_true] at hc
        obtain ⟨hc1, hc2, hc3, hc4⟩ := hc
        have hc3 := Nat.le_of_ble_eq_true hc3
        have h1 := sound_sxQ hF (w0 := w) (ops.toList.take k) env _ hk a m
        have h2 := wp_region_quiet_tail (P := P) (id := id) (ops := ops.toList) (k := k) (C := Cls w h) (Q := Post n (writes (.region id ops true)) a w K) (a := a) (w := w) hm ⟨hw, ⟨rfl, rfl, rfl⟩⟩ hc1 hc2 hc3 hc4 ?_
        · simpa using h2
        · refine wpQuiet_mono (fun a' hp w' hw' => ?_) _ _ h1
          obtain ⟨env', m', kp, hk'⟩ := hp
          have h3 := sound_ops hF (all := ops.toList) (ops.toList.drop k) env' h (K .normal) hk' a' w' m' hw'.1
          refine wpList_mono (fun e a'' w'' hp => ?_) _ _ _ h3
          obtain ⟨env'', m'', s, kp', rfl, hk''⟩ := hp
          have sub : ∀ (l l' : List Oper) (i : Nat), (i ∈ writesOps l ∨ i ∈ writesOps l') → i ∈ writesOps (l ++ l') := by
            intro l l' i hi
            induction l with
            | nil => rcases hi with hi | hi; cases hi; exact hi
            | cons o r ih =>
              simp only [List.cons_append, writesOps, List.mem_append] at hi ⊢
              rcases hi with (hi | hi) | hi
              · exact .inl hi
              · exact .inr (ih (.inl hi))
              · exact .inr (ih (.inr hi))
          have e0 : ops.toList.take k ++ ops.toList.drop k = ops.toList := List.take_append_drop _ _
          refine ⟨env'', m'', hw'.2.trans s, Keeps.trans (kp.mono fun i hi => ?_) (kp'.mono fun i hi => ?_), hk''⟩
          · show i ∈ writesOps ops.toList; rw [← e0]; exact sub _ _ i (.inl hi)
          · show i ∈ writesOps ops.toList; rw [← e0]; exact sub _ _ i (.inr hi)
      | plan p =>
        obtain ⟨hc, hk⟩ := cond_true_of hk
        obtain ⟨hc1, hc2⟩ := cond_true_of' hc
        have topo : ∀ j o, ops.toList[j]? = some o → ∀ e ∈ o.after, Region.binds .any e = true → e.on < j := fun j o ho => (selfOk_spec ho (allL_spec hc1 j (List.mem_range.2 (lt_of_get ho)))).1
        have e0 : ops.toList.toArray = ops := by simp
        have hgd : ∀ i, (Array.replicate ops.size false).getD i false = false := by
          intro i
          rw [Array.getD_eq_getD_getElem?, Array.getElem?_replicate]
          split <;> rfl
        have b : Inv P n ops.toList a w (Array.replicate ops.size false) a a { w with drawn := w.drawn + 1 } (List.range ops.toList.length) [] env := by
          refine ⟨by simp, ?_, fun i hi => ⟨List.mem_range.1 hi, hgd i⟩, fun i hi hr => absurd (List.mem_range.2 hi) hr, fun i hi hr => absurd (List.mem_range.2 hi) hr, fun i hi hr => absurd (List.mem_range.2 hi) hr,
            fun i _ hi _ hr => absurd (List.mem_range.2 hi) hr, fun _ _ => rfl, m.size, m.defers, m, ⟨rfl, rfl, rfl⟩, Keeps.refl _ _, fun i o ho hr => absurd (List.mem_range.2 (lt_of_get ho)) hr⟩
          intro i o hi
          rw [hgd i] at hi
          cases hi
        have h1 := wpAny_plan hF (K := K .normal) topo ops.size _ a a _ p _ _ env (by unfold unl; exact Nat.le_trans (List.length_filter_le _ _) (by simp)) b hc2 (by rw [hw]; exact hk)
        rw [e0] at h1
        refine Code.wp_mono (fun e a' w' hp => ?_) (wp_region_any hm h1)
        obtain ⟨env', m', s, kp, rfl, hk'⟩ := hp
        exact ⟨env', m', s, kp, hk'⟩
      | leaf => exact quiet hk
      | node _ _ _ => exact quiet hk
      | loop _ _ _ => exact quiet hk
  | seq x y ihx ihy =>
    intro an env h K hk a w m hw
    simp only [sx0] at hk
    have key : ∀ (next : Env → Hp → Prop), (∀ (env' : Env) (a' : Act) (w' : World), Mdl n env' a' → next env' w'.heap → y.wp P (Post n (writes y) a' w' K) a' w') →
        sx0 P F n S x an.l env h (thenE next K) → (Code.seq x y).wp P (Post n (writes (.seq x y)) a w K) a w := by
      intro next hn hk
      refine wp_seq ?_
      refine Code.wp_mono (fun e a' w' hp => ?_) (ihx _ env h _ hk a w m hw)
      obtain ⟨env', m', s, kp, hk'⟩ := hp
      have kx : Keeps (writes (.seq x y)) a a' := kp.mono fun i hi => by simp [writes, hi]
      cases e with
      | normal =>
        show y.wp P _ a' w'
        refine Code.wp_mono (fun e2 a2 w2 hp2 => ?_) (hn env' a' w' m' hk')
        obtain ⟨env3, m3, s3, kp3, hk3⟩ := hp2
        exact ⟨env3, m3, s.trans s3, kx.trans (kp3.mono fun i hi => by simp [writes, hi]), hk3⟩
      | _ => exact ⟨env', m', s, kx, hk'⟩
    cases hc : an.cut with
    | none =>
      rw [hc] at hk
      exact key _ (fun env' a' w' m' hk' => ihy _ env' _ K hk' a' w' m' rfl) hk
    | some L =>
      rw [hc] at hk
      exact key _ (fun env' a' w' m' hk' => hS y _ _ _ K hk' a' w' ⟨m'.size, m'.defers, fun i v hv => m'.get i v (rs_mem (look_mem hv)).2⟩ rfl) hk
  | cond c x y ihx ihy =>
    intro an env h K hk a w m hw
    obtain ⟨hc, hk⟩ := cond_true_of hk
    have hev := m.ev hc
    split at hk
    · rename_i t ht
      refine wp_cond (t := t) (by rw [hev, ht]) ?_
      cases t with
      | true =>
        exact Code.wp_mono (fun e a' w' hp => by obtain ⟨env', m', s, kp, hk'⟩ := hp; exact ⟨env', m', s, kp.mono fun i hi => by simp [writes, hi], hk'⟩) (ihx _ env h K hk a w m hw)
      | false =>
        exact Code.wp_mono (fun e a' w' hp => by obtain ⟨env', m', s, kp, hk'⟩ := hp; exact ⟨env', m', s, kp.mono fun i hi => by simp [writes, hi], hk'⟩) (ihy _ env h K hk a w m hw)
    · exact hk.elim
  | block id x ih =>
    intro an env h K hk a w m hw
    refine wp_block ?_
    refine Code.wp_mono (fun e a' w' hp => ?_) (ih an env h _ hk a w m hw)
    obtain ⟨env', m', s, kp, hk'⟩ := hp
    cases e with
    | exit i =>
      simp only [blockE] at hk'
      simp only [Exit.inBlock]
      by_cases hi : i = id
      · rw [if_pos hi]
        have hb : Nat.beq i id = true := by subst hi; simp
        rw [hb] at hk'
        exact ⟨env', m', s, kp, hk'⟩
      · rw [if_neg hi]
        have hb : Nat.beq i id = false := by cases hb : Nat.beq i id with | false => rfl | true => exact absurd (Nat.eq_of_beq_eq_true hb) hi
        rw [hb] at hk'
        exact ⟨env', m', s, kp, hk'⟩
    | _ => exact ⟨env', m', s, kp, hk'⟩
  | loop x _ =>
    intro an env h K hk a w m hw
    cases an with
    | loop C V b =>
      obtain ⟨hd, hk⟩ := cond_true_of hk
      obtain ⟨s0, ⟨I, μ, hI0, hround⟩, hs0⟩ := getV_spec m hk
      refine wp_loop (fun a' w' => ∃ s, I s w'.heap ∧ Has (putV V s []) a' ∧ a'.tmps.size = n ∧ a'.defers = [] ∧ Same w w' ∧ Keeps (writes x) a a')
        (fun a' w' => match sOf V a' with | some s => μ s w'.heap | none => 0) ⟨s0, by rw [hw]; exact hI0, hs0, m.size, m.defers, Same.refl w, Keeps.refl _ _⟩ ?_
      intro a1 w1 ⟨s, hI, hhas, hsz, hdf, hs, hkp⟩
      have h1 := hround s w1.heap hI
      have m1 : Mdl n (putV V s (rs C env)) a1 := by
        refine ⟨hsz, hdf, fun i v hv => ?_⟩
        have := look_mem hv
        rw [putV_app] at this
        rcases List.mem_append.1 this with hp | hp
        · exact hhas _ hp
        · obtain ⟨hiC, hl⟩ := rs_mem hp
          rw [hkp i (disj_spec hd hiC)]
          exact m.get i v hl
      refine Code.wp_mono (fun e a' w' hp => ?_) (hS x b _ _ _ h1 a1 w1 m1 rfl)
      obtain ⟨env', m', s', kp, hk'⟩ := hp
      cases e with
      | normal =>
        obtain ⟨s2, ⟨hI2, hlt⟩, hhas2⟩ := getV_spec m' hk'
        refine ⟨⟨s2, hI2, hhas2, m'.size, m'.defers, hs.trans s', hkp.trans kp⟩, ?_⟩
        rw [sOf_has hhas2, sOf_has hhas]
        exact hlt
      | _ => exact ⟨env', m', hs.trans s', hkp.trans kp, hk'⟩
    | leaf => exact hk.elim
    | node _ _ _ => exact hk.elim
    | tail _ => exact hk.elim
    | plan _ => exact hk.elim
  | exit id =>
    intro an env h K hk a w m hw
    exact wp_exit ⟨env, m, Same.refl w, Keeps.refl _ _, by rw [hw]; exact hk⟩
  | ret =>
    intro an env h K hk a w m hw
    exact wp_ret ⟨env, m, Same.refl w, Keeps.refl _ _, by rw [hw]; exact hk⟩
  | _ => intro an env h K hk; exact hk.elim
end

/-! ### functions -/
abbrev resV (P : Program) (env : Env) (h : Hp) : List ResultVar → (List Value → Prop) → Prop
  | [], k => k []
  | .tmp t :: r, k => (match look env t with | some v => resV P env h r fun vs => k (v :: vs) | none => False)
  | .cell t ty :: r, k => (match look env t with | some v => addrV v fun a => loadV P ty a h fun v => resV P env h r fun vs => k (v :: vs) | none => False)
abbrev oneOf (vs : List Value) : Value := match vs with | [v] => v | vs => .tuple vs.toArray
abbrev retK (P : Program) (rs : List ResultVar) (K : Value → Hp → Prop) : Exit → Env → Hp → Prop := fun e env h =>
  match e with
  | .normal | .ret => resV P env h rs fun vs => K (oneOf vs) h
  | _ => False
abbrev initE : Nat → List Value → Env
  | _, [] => []
  | i, v :: r => (i, v) :: initE (i + 1) r

section
variable {P : Program}

theorem resV_spec {n : Nat} {env : Env} {a : Act} {h : Hp} (m : Mdl n env a) : ∀ (rs : List ResultVar) (k : List Value → Prop), resV P env h rs k →
    hq P (rs.mapM fun | .tmp t => pure (a.tmps.getD t undef) | .cell b t => do loadVar t (← asAddr (a.tmps.getD b undef))) h k
  | [], k, hk => by simpa [hq_pure', resV] using hk
  | .tmp t :: r, k, hk => by
    simp only [resV] at hk
    split at hk
    · rename_i v hv
      have hg : a.tmps.getD t undef = v := by rw [Array.getD_eq_getD_getElem?, m.get t v hv]; rfl
      simp only [List.mapM_cons, hq_bind', hq_pure', hg]
      exact resV_spec m r _ hk
    · exact hk.elim
  | .cell t ty :: r, k, hk => by
    simp only [resV] at hk
    split at hk
    · rename_i v hv
      replace hk := addrV_spec hk
      obtain ⟨ad, hx, hk⟩ := hk
      subst hx
      have hg : a.tmps.getD t undef = .pointer (some ad) := by rw [Array.getD_eq_getD_getElem?, m.get t _ hv]; rfl
      simp only [List.mapM_cons, hq_bind', hg, asAddr, hq_pure']
      refine hq_mono _ _ _ _ (fun u hu => ?_) (sound_load hk)
      exact resV_spec m r _ hu
    · exact hk.elim

theorem look_initE (args : List Value) : ∀ (i j : Nat) (v : Value), look (initE i args) j = some v → i ≤ j ∧ args[j - i]? = some v := by
  induction args with
  | nil => intro i j v h; cases h
  | cons x r ih =>
    intro i j v h
    simp only [initE] at h
    rw [look_cons] at h
    split at h
    · rename_i e; subst e; exact ⟨Nat.le_refl _, by simpa using h⟩
    · rename_i hne
      obtain ⟨h1, h2⟩ := ih (i + 1) j v h
      refine ⟨by omega, ?_⟩
      have : j - i = (j - (i + 1)) + 1 := by omega
      rw [this]
      simpa using h2

/-- **A call, by the condition of its body.** -/
theorem calls_of_snd {S : Cnd} {f : FuncId} {fn : Func} {c : Code} {n : Nat} {args : List Value} {h : Hp} {K : Value → Hp → Prop} (an : Ann)
    (hf : P.funcs[f]? = some fn) (hb : fn.body = some c) (hn : fn.ntmps = n) (hle : args.length ≤ n) (hS : Snd P n S)
    (hk : S c an (initE 0 args) h (retK P fn.results.toList K)) : HCalls P f args.toArray h K := by
  intro w hw
  refine calls_of_wp hf hb ?_
  have m : Mdl n (initE 0 args) { tmps := args.toArray ++ Array.replicate (fn.ntmps - args.toArray.size) undef, defers := [] } := by
    refine ⟨by simp [hn]; omega, rfl, fun i v hv => ?_⟩
    obtain ⟨_, h2⟩ := look_initE args 0 i v hv
    rw [Nat.sub_zero] at h2
    have hi : i < args.length := by
      rcases Nat.lt_or_ge i args.length with h | h
      · exact h
      · rw [List.getElem?_eq_none h] at h2; cases h2
    rw [Array.getElem?_append_left (by simpa using hi)]
    simpa using h2
  refine Code.wp_mono (fun e a' w' hp => ?_) (hS c an _ h _ hk _ w m hw)
  obtain ⟨env', m', s, _, hk'⟩ := hp
  have fin : ∀ (_ : resV P env' w'.heap fn.results.toList fun vs => K (oneOf vs) w'.heap), a'.defers = [] ∧ ∃ v, (results fn a'.tmps).run P w' = .ok v w' ∧ (∃ v_1, Ending.returned v = .returned v_1 ∧ Same w w' ∧ K v_1 w'.heap) := by
    intro hr
    refine ⟨m'.defers, ?_⟩
    have h1 := resV_spec m' _ _ hr
    have h2 : hq P (results fn a'.tmps) w'.heap fun v => K v w'.heap := by
      unfold results
      rw [hq_bind', Array.mapM_eq_mapM_toList, map_eq_pure_bind, hq_bind']
      refine hq_mono _ _ _ _ (fun vs hvs => ?_) h1
      rw [hq_pure', hq_pure']
      have e : (if h : vs.toArray.size = 1 then vs.toArray[0] else Value.tuple vs.toArray) = oneOf vs := by
        match vs with
        | [] => rfl
        | [v] => rfl
        | _ :: _ :: _ => simp [oneOf]
      rw [e]
      exact hvs
    obtain ⟨v, hv, hrun⟩ := hq_run _ _ _ h2
    exact ⟨v, hrun w' rfl, v, rfl, s, hv⟩
  cases e with
  | normal => exact fin hk'
  | ret => exact fin hk'
  | _ => exact hk'.elim
end
/-! ### levels: a condition for each depth of cuts -/
section
variable (P : Program) (F : Nat → Bool) (n : Nat)
def sx_0 : Cnd := fun _ _ _ _ _ => False
def sx_1 : Cnd := sx0 P F n sx_0
def sx_2 : Cnd := sx0 P F n (sx_1 P F n)
def sx_3 : Cnd := sx0 P F n (sx_2 P F n)
def sx_4 : Cnd := sx0 P F n (sx_3 P F n)
def sx_5 : Cnd := sx0 P F n (sx_4 P F n)
def sx_6 : Cnd := sx0 P F n (sx_5 P F n)
def sx_7 : Cnd := sx0 P F n (sx_6 P F n)
def sx_8 : Cnd := sx0 P F n (sx_7 P F n)
def sx_9 : Cnd := sx0 P F n (sx_8 P F n)
def sx_10 : Cnd := sx0 P F n (sx_9 P F n)
def sx_11 : Cnd := sx0 P F n (sx_10 P F n)
def sx_12 : Cnd := sx0 P F n (sx_11 P F n)
def sx_13 : Cnd := sx0 P F n (sx_12 P F n)
def sx_14 : Cnd := sx0 P F n (sx_13 P F n)
def sx_15 : Cnd := sx0 P F n (sx_14 P F n)
def sx_16 : Cnd := sx0 P F n (sx_15 P F n)
def sx_17 : Cnd := sx0 P F n (sx_16 P F n)
def sx_18 : Cnd := sx0 P F n (sx_17 P F n)
def sx_19 : Cnd := sx0 P F n (sx_18 P F n)
def sx_20 : Cnd := sx0 P F n (sx_19 P F n)
def sx_21 : Cnd := sx0 P F n (sx_20 P F n)
def sx_22 : Cnd := sx0 P F n (sx_21 P F n)
def sx_23 : Cnd := sx0 P F n (sx_22 P F n)
def sx_24 : Cnd := sx0 P F n (sx_23 P F n)
def sx_25 : Cnd := sx0 P F n (sx_24 P F n)
def sx_26 : Cnd := sx0 P F n (sx_25 P F n)
def sx_27 : Cnd := sx0 P F n (sx_26 P F n)
def sx_28 : Cnd := sx0 P F n (sx_27 P F n)
def sx_29 : Cnd := sx0 P F n (sx_28 P F n)
def sx_30 : Cnd := sx0 P F n (sx_29 P F n)
def sx_31 : Cnd := sx0 P F n (sx_30 P F n)
def sx_32 : Cnd := sx0 P F n (sx_31 P F n)
def sx_33 : Cnd := sx0 P F n (sx_32 P F n)
def sx_34 : Cnd := sx0 P F n (sx_33 P F n)
def sx_35 : Cnd := sx0 P F n (sx_34 P F n)
def sx_36 : Cnd := sx0 P F n (sx_35 P F n)
def sx_37 : Cnd := sx0 P F n (sx_36 P F n)
def sx_38 : Cnd := sx0 P F n (sx_37 P F n)
def sx_39 : Cnd := sx0 P F n (sx_38 P F n)
def sx_40 : Cnd := sx0 P F n (sx_39 P F n)
def sx_41 : Cnd := sx0 P F n (sx_40 P F n)
def sx_42 : Cnd := sx0 P F n (sx_41 P F n)
def sx_43 : Cnd := sx0 P F n (sx_42 P F n)
def sx_44 : Cnd := sx0 P F n (sx_43 P F n)
def sx_45 : Cnd := sx0 P F n (sx_44 P F n)
def sx_46 : Cnd := sx0 P F n (sx_45 P F n)
def sx_47 : Cnd := sx0 P F n (sx_46 P F n)
def sx_48 : Cnd := sx0 P F n (sx_47 P F n)
def sx_49 : Cnd := sx0 P F n (sx_48 P F n)
def sx_50 : Cnd := sx0 P F n (sx_49 P F n)
def sx_51 : Cnd := sx0 P F n (sx_50 P F n)
def sx_52 : Cnd := sx0 P F n (sx_51 P F n)
def sx_53 : Cnd := sx0 P F n (sx_52 P F n)
def sx_54 : Cnd := sx0 P F n (sx_53 P F n)
def sx_55 : Cnd := sx0 P F n (sx_54 P F n)
def sx_56 : Cnd := sx0 P F n (sx_55 P F n)
def sx_57 : Cnd := sx0 P F n (sx_56 P F n)
def sx_58 : Cnd := sx0 P F n (sx_57 P F n)
def sx_59 : Cnd := sx0 P F n (sx_58 P F n)
def sx_60 : Cnd := sx0 P F n (sx_59 P F n)
def sx_61 : Cnd := sx0 P F n (sx_60 P F n)
def sx_62 : Cnd := sx0 P F n (sx_61 P F n)
def sx_63 : Cnd := sx0 P F n (sx_62 P F n)
def sx_64 : Cnd := sx0 P F n (sx_63 P F n)
def sx_65 : Cnd := sx0 P F n (sx_64 P F n)
def sx_66 : Cnd := sx0 P F n (sx_65 P F n)
def sx_67 : Cnd := sx0 P F n (sx_66 P F n)
def sx_68 : Cnd := sx0 P F n (sx_67 P F n)
def sx_69 : Cnd := sx0 P F n (sx_68 P F n)
def sx_70 : Cnd := sx0 P F n (sx_69 P F n)
def sx_71 : Cnd := sx0 P F n (sx_70 P F n)
def sx_72 : Cnd := sx0 P F n (sx_71 P F n)
def sx_73 : Cnd := sx0 P F n (sx_72 P F n)
def sx_74 : Cnd := sx0 P F n (sx_73 P F n)
def sx_75 : Cnd := sx0 P F n (sx_74 P F n)
def sx_76 : Cnd := sx0 P F n (sx_75 P F n)
def sx_77 : Cnd := sx0 P F n (sx_76 P F n)
def sx_78 : Cnd := sx0 P F n (sx_77 P F n)
def sx_79 : Cnd := sx0 P F n (sx_78 P F n)
def sx_80 : Cnd := sx0 P F n (sx_79 P F n)
def sx_81 : Cnd := sx0 P F n (sx_80 P F n)
def sx_82 : Cnd := sx0 P F n (sx_81 P F n)
def sx_83 : Cnd := sx0 P F n (sx_82 P F n)
def sx_84 : Cnd := sx0 P F n (sx_83 P F n)
def sx_85 : Cnd := sx0 P F n (sx_84 P F n)
def sx_86 : Cnd := sx0 P F n (sx_85 P F n)
def sx_87 : Cnd := sx0 P F n (sx_86 P F n)
def sx_88 : Cnd := sx0 P F n (sx_87 P F n)
def sx_89 : Cnd := sx0 P F n (sx_88 P F n)
def sx_90 : Cnd := sx0 P F n (sx_89 P F n)
def sx_91 : Cnd := sx0 P F n (sx_90 P F n)
def sx_92 : Cnd := sx0 P F n (sx_91 P F n)
def sx_93 : Cnd := sx0 P F n (sx_92 P F n)
def sx_94 : Cnd := sx0 P F n (sx_93 P F n)
def sx_95 : Cnd := sx0 P F n (sx_94 P F n)
def sx_96 : Cnd := sx0 P F n (sx_95 P F n)
def sx_97 : Cnd := sx0 P F n (sx_96 P F n)
def sx_98 : Cnd := sx0 P F n (sx_97 P F n)
def sx_99 : Cnd := sx0 P F n (sx_98 P F n)
def sx_100 : Cnd := sx0 P F n (sx_99 P F n)
def sx_101 : Cnd := sx0 P F n (sx_100 P F n)
def sx_102 : Cnd := sx0 P F n (sx_101 P F n)
def sx_103 : Cnd := sx0 P F n (sx_102 P F n)
def sx_104 : Cnd := sx0 P F n (sx_103 P F n)
def sx_105 : Cnd := sx0 P F n (sx_104 P F n)
def sx_106 : Cnd := sx0 P F n (sx_105 P F n)
def sx_107 : Cnd := sx0 P F n (sx_106 P F n)
def sx_108 : Cnd := sx0 P F n (sx_107 P F n)
def sx_109 : Cnd := sx0 P F n (sx_108 P F n)
def sx_110 : Cnd := sx0 P F n (sx_109 P F n)
def sx_111 : Cnd := sx0 P F n (sx_110 P F n)
def sx_112 : Cnd := sx0 P F n (sx_111 P F n)
def sx_113 : Cnd := sx0 P F n (sx_112 P F n)
def sx_114 : Cnd := sx0 P F n (sx_113 P F n)
def sx_115 : Cnd := sx0 P F n (sx_114 P F n)
def sx_116 : Cnd := sx0 P F n (sx_115 P F n)
def sx_117 : Cnd := sx0 P F n (sx_116 P F n)
def sx_118 : Cnd := sx0 P F n (sx_117 P F n)
def sx_119 : Cnd := sx0 P F n (sx_118 P F n)
def sx_120 : Cnd := sx0 P F n (sx_119 P F n)
end
section
variable {P : Program} {F : Nat → Bool} {n : Nat}
theorem snd_1 (hF : ∀ g, F g = true → Callable P g) (hm : P.follows .mixedOrders = true) : Snd P n (sx_1 P F n) := sound_sx0 hF hm (fun _ _ _ _ _ h => h.elim : Snd P n sx_0)
theorem snd_2 (hF : ∀ g, F g = true → Callable P g) (hm : P.follows .mixedOrders = true) : Snd P n (sx_2 P F n) := sound_sx0 hF hm (snd_1 hF hm)
theorem snd_3 (hF : ∀ g, F g = true → Callable P g) (hm : P.follows .mixedOrders = true) : Snd P n (sx_3 P F n) := sound_sx0 hF hm (snd_2 hF hm)
theorem snd_4 (hF : ∀ g, F g = true → Callable P g) (hm : P.follows .mixedOrders = true) : Snd P n (sx_4 P F n) := sound_sx0 hF hm (snd_3 hF hm)
theorem snd_5 (hF : ∀ g, F g = true → Callable P g) (hm : P.follows .mixedOrders = true) : Snd P n (sx_5 P F n) := sound_sx0 hF hm (snd_4 hF hm)
theorem snd_6 (hF : ∀ g, F g = true → Callable P g) (hm : P.follows .mixedOrders = true) : Snd P n (sx_6 P F n) := sound_sx0 hF hm (snd_5 hF hm)
theorem snd_7 (hF : ∀ g, F g = true → Callable P g) (hm : P.follows .mixedOrders = true) : Snd P n (sx_7 P F n) := sound_sx0 hF hm (snd_6 hF hm)
theorem snd_8 (hF : ∀ g, F g = true → Callable P g) (hm : P.follows .mixedOrders = true) : Snd P n (sx_8 P F n) := sound_sx0 hF hm (snd_7 hF hm)
theorem snd_9 (hF : ∀ g, F g = true → Callable P g) (hm : P.follows .mixedOrders = true) : Snd P n (sx_9 P F n) := sound_sx0 hF hm (snd_8 hF hm)
theorem snd_10 (hF : ∀ g, F g = true → Callable P g) (hm : P.follows .mixedOrders = true) : Snd P n (sx_10 P F n) := sound_sx0 hF hm (snd_9 hF hm)
theorem snd_11 (hF : ∀ g, F g = true → Callable P g) (hm : P.follows .mixedOrders = true) : Snd P n (sx_11 P F n) := sound_sx0 hF hm (snd_10 hF hm)
theorem snd_12 (hF : ∀ g, F g = true → Callable P g) (hm : P.follows .mixedOrders = true) : Snd P n (sx_12 P F n) := sound_sx0 hF hm (snd_11 hF hm)
theorem snd_13 (hF : ∀ g, F g = true → Callable P g) (hm : P.follows .mixedOrders = true) : Snd P n (sx_13 P F n) := sound_sx0 hF hm (snd_12 hF hm)
theorem snd_14 (hF : ∀ g, F g = true → Callable P g) (hm : P.follows .mixedOrders = true) : Snd P n (sx_14 P F n) := sound_sx0 hF hm (snd_13 hF hm)
theorem snd_15 (hF : ∀ g, F g = true → Callable P g) (hm : P.follows .mixedOrders = true) : Snd P n (sx_15 P F n) := sound_sx0 hF hm (snd_14 hF hm)
theorem snd_16 (hF : ∀ g, F g = true → Callable P g) (hm : P.follows .mixedOrders = true) : Snd P n (sx_16 P F n) := sound_sx0 hF hm (snd_15 hF hm)
theorem snd_17 (hF : ∀ g, F g = true → Callable P g) (hm : P.follows .mixedOrders = true) : Snd P n (sx_17 P F n) := sound_sx0 hF hm (snd_16 hF hm)
theorem snd_18 (hF : ∀ g, F g = true → Callable P g) (hm : P.follows .mixedOrders = true) : Snd P n (sx_18 P F n) := sound_sx0 hF hm (snd_17 hF hm)
theorem snd_19 (hF : ∀ g, F g = true → Callable P g) (hm : P.follows .mixedOrders = true) : Snd P n (sx_19 P F n) := sound_sx0 hF hm (snd_18 hF hm)
theorem snd_20 (hF : ∀ g, F g = true → Callable P g) (hm : P.follows .mixedOrders = true) : Snd P n (sx_20 P F n) := sound_sx0 hF hm (snd_19 hF hm)
theorem snd_21 (hF : ∀ g, F g = true → Callable P g) (hm : P.follows .mixedOrders = true) : Snd P n (sx_21 P F n) := sound_sx0 hF hm (snd_20 hF hm)
theorem snd_22 (hF : ∀ g, F g = true → Callable P g) (hm : P.follows .mixedOrders = true) : Snd P n (sx_22 P F n) := sound_sx0 hF hm (snd_21 hF hm)
theorem snd_23 (hF : ∀ g, F g = true → Callable P g) (hm : P.follows .mixedOrders = true) : Snd P n (sx_23 P F n) := sound_sx0 hF hm (snd_22 hF hm)
theorem snd_24 (hF : ∀ g, F g = true → Callable P g) (hm : P.follows .mixedOrders = true) : Snd P n (sx_24 P F n) := sound_sx0 hF hm (snd_23 hF hm)
theorem snd_25 (hF : ∀ g, F g = true → Callable P g) (hm : P.follows .mixedOrders = true) : Snd P n (sx_25 P F n) := sound_sx0 hF hm (snd_24 hF hm)
theorem snd_26 (hF : ∀ g, F g = true → Callable P g) (hm : P.follows .mixedOrders = true) : Snd P n (sx_26 P F n) := sound_sx0 hF hm (snd_25 hF hm)
theorem snd_27 (hF : ∀ g, F g = true → Callable P g) (hm : P.follows .mixedOrders = true) : Snd P n (sx_27 P F n) := sound_sx0 hF hm (snd_26 hF hm)
theorem snd_28 (hF : ∀ g, F g = true → Callable P g) (hm : P.follows .mixedOrders = true) : Snd P n (sx_28 P F n) := sound_sx0 hF hm (snd_27 hF hm)
theorem snd_29 (hF : ∀ g, F g = true → Callable P g) (hm : P.follows .mixedOrders = true) : Snd P n (sx_29 P F n) := sound_sx0 hF hm (snd_28 hF hm)
theorem snd_30 (hF : ∀ g, F g = true → Callable P g) (hm : P.follows .mixedOrders = true) : Snd P n (sx_30 P F n) := sound_sx0 hF hm (snd_29 hF hm)
theorem snd_31 (hF : ∀ g, F g = true → Callable P g) (hm : P.follows .mixedOrders = true) : Snd P n (sx_31 P F n) := sound_sx0 hF hm (snd_30 hF hm)
theorem snd_32 (hF : ∀ g, F g = true → Callable P g) (hm : P.follows .mixedOrders = true) : Snd P n (sx_32 P F n) := sound_sx0 hF hm (snd_31 hF hm)
theorem snd_33 (hF : ∀ g, F g = true → Callable P g) (hm : P.follows .mixedOrders = true) : Snd P n (sx_33 P F n) := sound_sx0 hF hm (snd_32 hF hm)
theorem snd_34 (hF : ∀ g, F g = true → Callable P g) (hm : P.follows .mixedOrders = true) : Snd P n (sx_34 P F n) := sound_sx0 hF hm (snd_33 hF hm)
theorem snd_35 (hF : ∀ g, F g = true → Callable P g) (hm : P.follows .mixedOrders = true) : Snd P n (sx_35 P F n) := sound_sx0 hF hm (snd_34 hF hm)
theorem snd_36 (hF : ∀ g, F g = true → Callable P g) (hm : P.follows .mixedOrders = true) : Snd P n (sx_36 P F n) := sound_sx0 hF hm (snd_35 hF hm)
theorem snd_37 (hF : ∀ g, F g = true → Callable P g) (hm : P.follows .mixedOrders = true) : Snd P n (sx_37 P F n) := sound_sx0 hF hm (snd_36 hF hm)
theorem snd_38 (hF : ∀ g, F g = true → Callable P g) (hm : P.follows .mixedOrders = true) : Snd P n (sx_38 P F n) := sound_sx0 hF hm (snd_37 hF hm)
theorem snd_39 (hF : ∀ g, F g = true → Callable P g) (hm : P.follows .mixedOrders = true) : Snd P n (sx_39 P F n) := sound_sx0 hF hm (snd_38 hF hm)
theorem snd_40 (hF : ∀ g, F g = true → Callable P g) (hm : P.follows .mixedOrders = true) : Snd P n (sx_40 P F n) := sound_sx0 hF hm (snd_39 hF hm)
theorem snd_41 (hF : ∀ g, F g = true → Callable P g) (hm : P.follows .mixedOrders = true) : Snd P n (sx_41 P F n) := sound_sx0 hF hm (snd_40 hF hm)
theorem snd_42 (hF : ∀ g, F g = true → Callable P g) (hm : P.follows .mixedOrders = true) : Snd P n (sx_42 P F n) := sound_sx0 hF hm (snd_41 hF hm)
theorem snd_43 (hF : ∀ g, F g = true → Callable P g) (hm : P.follows .mixedOrders = true) : Snd P n (sx_43 P F n) := sound_sx0 hF hm (snd_42 hF hm)
theorem snd_44 (hF : ∀ g, F g = true → Callable P g) (hm : P.follows .mixedOrders = true) : Snd P n (sx_44 P F n) := sound_sx0 hF hm (snd_43 hF hm)
theorem snd_45 (hF : ∀ g, F g = true → Callable P g) (hm : P.follows .mixedOrders = true) : Snd P n (sx_45 P F n) := sound_sx0 hF hm (snd_44 hF hm)
theorem snd_46 (hF : ∀ g, F g = true → Callable P g) (hm : P.follows .mixedOrders = true) : Snd P n (sx_46 P F n) := sound_sx0 hF hm (snd_45 hF hm)
theorem snd_47 (hF : ∀ g, F g = true → Callable P g) (hm : P.follows .mixedOrders = true) : Snd P n (sx_47 P F n) := sound_sx0 hF hm (snd_46 hF hm)
theorem snd_48 (hF : ∀ g, F g = true → Callable P g) (hm : P.follows .mixedOrders = true) : Snd P n (sx_48 P F n) := sound_sx0 hF hm (snd_47 hF hm)
theorem snd_49 (hF : ∀ g, F g = true → Callable P g) (hm : P.follows .mixedOrders = true) : Snd P n (sx_49 P F n) := sound_sx0 hF hm (snd_48 hF hm)
theorem snd_50 (hF : ∀ g, F g = true → Callable P g) (hm : P.follows .mixedOrders = true) : Snd P n (sx_50 P F n) := sound_sx0 hF hm (snd_49 hF hm)
theorem snd_51 (hF : ∀ g, F g = true → Callable P g) (hm : P.follows .mixedOrders = true) : Snd P n (sx_51 P F n) := sound_sx0 hF hm (snd_50 hF hm)
theorem snd_52 (hF : ∀ g, F g = true → Callable P g) (hm : P.follows .mixedOrders = true) : Snd P n (sx_52 P F n) := sound_sx0 hF hm (snd_51 hF hm)
theorem snd_53 (hF : ∀ g, F g = true → Callable P g) (hm : P.follows .mixedOrders = true) : Snd P n (sx_53 P F n) := sound_sx0 hF hm (snd_52 hF hm)
theorem snd_54 (hF : ∀ g, F g = true → Callable P g) (hm : P.follows .mixedOrders = true) : Snd P n (sx_54 P F n) := sound_sx0 hF hm (snd_53 hF hm)
theorem snd_55 (hF : ∀ g, F g = true → Callable P g) (hm : P.follows .mixedOrders = true) : Snd P n (sx_55 P F n) := sound_sx0 hF hm (snd_54 hF hm)
theorem snd_56 (hF : ∀ g, F g = true → Callable P g) (hm : P.follows .mixedOrders = true) : Snd P n (sx_56 P F n) := sound_sx0 hF hm (snd_55 hF hm)
theorem snd_57 (hF : ∀ g, F g = true → Callable P g) (hm : P.follows .mixedOrders = true) : Snd P n (sx_57 P F n) := sound_sx0 hF hm (snd_56 hF hm)
theorem snd_58 (hF : ∀ g, F g = true → Callable P g) (hm : P.follows .mixedOrders = true) : Snd P n (sx_58 P F n) := sound_sx0 hF hm (snd_57 hF hm)
theorem snd_59 (hF : ∀ g, F g = true → Callable P g) (hm : P.follows .mixedOrders = true) : Snd P n (sx_59 P F n) := sound_sx0 hF hm (snd_58 hF hm)
theorem snd_60 (hF : ∀ g, F g = true → Callable P g) (hm : P.follows .mixedOrders = true) : Snd P n (sx_60 P F n) := sound_sx0 hF hm (snd_59 hF hm)
theorem snd_61 (hF : ∀ g, F g = true → Callable P g) (hm : P.follows .mixedOrders = true) : Snd P n (sx_61 P F n) := sound_sx0 hF hm (snd_60 hF hm)
theorem snd_62 (hF : ∀ g, F g = true → Callable P g) (hm : P.follows .mixedOrders = true) : Snd P n (sx_62 P F n) := sound_sx0 hF hm (snd_61 hF hm)
theorem snd_63 (hF : ∀ g, F g = true → Callable P g) (hm : P.follows .mixedOrders = true) : Snd P n (sx_63 P F n) := sound_sx0 hF hm (snd_62 hF hm)
theorem snd_64 (hF : ∀ g, F g = true → Callable P g) (hm : P.follows .mixedOrders = true) : Snd P n (sx_64 P F n) := sound_sx0 hF hm (snd_63 hF hm)
theorem snd_65 (hF : ∀ g, F g = true → Callable P g) (hm : P.follows .mixedOrders = true) : Snd P n (sx_65 P F n) := sound_sx0 hF hm (snd_64 hF hm)
theorem snd_66 (hF : ∀ g, F g = true → Callable P g) (hm : P.follows .mixedOrders = true) : Snd P n (sx_66 P F n) := sound_sx0 hF hm (snd_65 hF hm)
theorem snd_67 (hF : ∀ g, F g = true → Callable P g) (hm : P.follows .mixedOrders = true) : Snd P n (sx_67 P F n) := sound_sx0 hF hm (snd_66 hF hm)
theorem snd_68 (hF : ∀ g, F g = true → Callable P g) (hm : P.follows .mixedOrders = true) : Snd P n (sx_68 P F n) := sound_sx0 hF hm (snd_67 hF hm)
theorem snd_69 (hF : ∀ g, F g = true → Callable P g) (hm : P.follows .mixedOrders = true) : Snd P n (sx_69 P F n) := sound_sx0 hF hm (snd_68 hF hm)
theorem snd_70 (hF : ∀ g, F g = true → Callable P g) (hm : P.follows .mixedOrders = true) : Snd P n (sx_70 P F n) := sound_sx0 hF hm (snd_69 hF hm)
theorem snd_71 (hF : ∀ g, F g = true → Callable P g) (hm : P.follows .mixedOrders = true) : Snd P n (sx_71 P F n) := sound_sx0 hF hm (snd_70 hF hm)
theorem snd_72 (hF : ∀ g, F g = true → Callable P g) (hm : P.follows .mixedOrders = true) : Snd P n (sx_72 P F n) := sound_sx0 hF hm (snd_71 hF hm)
theorem snd_73 (hF : ∀ g, F g = true → Callable P g) (hm : P.follows .mixedOrders = true) : Snd P n (sx_73 P F n) := sound_sx0 hF hm (snd_72 hF hm)
theorem snd_74 (hF : ∀ g, F g = true → Callable P g) (hm : P.follows .mixedOrders = true) : Snd P n (sx_74 P F n) := sound_sx0 hF hm (snd_73 hF hm)
theorem snd_75 (hF : ∀ g, F g = true → Callable P g) (hm : P.follows .mixedOrders = true) : Snd P n (sx_75 P F n) := sound_sx0 hF hm (snd_74 hF hm)
theorem snd_76 (hF : ∀ g, F g = true → Callable P g) (hm : P.follows .mixedOrders = true) : Snd P n (sx_76 P F n) := sound_sx0 hF hm (snd_75 hF hm)
theorem snd_77 (hF : ∀ g, F g = true → Callable P g) (hm : P.follows .mixedOrders = true) : Snd P n (sx_77 P F n) := sound_sx0 hF hm (snd_76 hF hm)
theorem snd_78 (hF : ∀ g, F g = true → Callable P g) (hm : P.follows .mixedOrders = true) : Snd P n (sx_78 P F n) := sound_sx0 hF hm (snd_77 hF hm)
theorem snd_79 (hF : ∀ g, F g = true → Callable P g) (hm : P.follows .mixedOrders = true) : Snd P n (sx_79 P F n) := sound_sx0 hF hm (snd_78 hF hm)
theorem snd_80 (hF : ∀ g, F g = true → Callable P g) (hm : P.follows .mixedOrders = true) : Snd P n (sx_80 P F n) := sound_sx0 hF hm (snd_79 hF hm)
theorem snd_81 (hF : ∀ g, F g = true → Callable P g) (hm : P.follows .mixedOrders = true) : Snd P n (sx_81 P F n) := sound_sx0 hF hm (snd_80 hF hm)
theorem snd_82 (hF : ∀ g, F g = true → Callable P g) (hm : P.follows .mixedOrders = true) : Snd P n (sx_82 P F n) := sound_sx0 hF hm (snd_81 hF hm)
theorem snd_83 (hF : ∀ g, F g = true → Callable P g) (hm : P.follows .mixedOrders = true) : Snd P n (sx_83 P F n) := sound_sx0 hF hm (snd_82 hF hm)
theorem snd_84 (hF : ∀ g, F g = true → Callable P g) (hm : P.follows .mixedOrders = true) : Snd P n (sx_84 P F n) := sound_sx0 hF hm (snd_83 hF hm)
theorem snd_85 (hF : ∀ g, F g = true → Callable P g) (hm : P.follows .mixedOrders = true) : Snd P n (sx_85 P F n) := sound_sx0 hF hm (snd_84 hF hm)
theorem snd_86 (hF : ∀ g, F g = true → Callable P g) (hm : P.follows .mixedOrders = true) : Snd P n (sx_86 P F n) := sound_sx0 hF hm (snd_85 hF hm)
theorem snd_87 (hF : ∀ g, F g = true → Callable P g) (hm : P.follows .mixedOrders = true) : Snd P n (sx_87 P F n) := sound_sx0 hF hm (snd_86 hF hm)
theorem snd_88 (hF : ∀ g, F g = true → Callable P g) (hm : P.follows .mixedOrders = true) : Snd P n (sx_88 P F n) := sound_sx0 hF hm (snd_87 hF hm)
theorem snd_89 (hF : ∀ g, F g = true → Callable P g) (hm : P.follows .mixedOrders = true) : Snd P n (sx_89 P F n) := sound_sx0 hF hm (snd_88 hF hm)
theorem snd_90 (hF : ∀ g, F g = true → Callable P g) (hm : P.follows .mixedOrders = true) : Snd P n (sx_90 P F n) := sound_sx0 hF hm (snd_89 hF hm)
theorem snd_91 (hF : ∀ g, F g = true → Callable P g) (hm : P.follows .mixedOrders = true) : Snd P n (sx_91 P F n) := sound_sx0 hF hm (snd_90 hF hm)
theorem snd_92 (hF : ∀ g, F g = true → Callable P g) (hm : P.follows .mixedOrders = true) : Snd P n (sx_92 P F n) := sound_sx0 hF hm (snd_91 hF hm)
theorem snd_93 (hF : ∀ g, F g = true → Callable P g) (hm : P.follows .mixedOrders = true) : Snd P n (sx_93 P F n) := sound_sx0 hF hm (snd_92 hF hm)
theorem snd_94 (hF : ∀ g, F g = true → Callable P g) (hm : P.follows .mixedOrders = true) : Snd P n (sx_94 P F n) := sound_sx0 hF hm (snd_93 hF hm)
theorem snd_95 (hF : ∀ g, F g = true → Callable P g) (hm : P.follows .mixedOrders = true) : Snd P n (sx_95 P F n) := sound_sx0 hF hm (snd_94 hF hm)
theorem snd_96 (hF : ∀ g, F g = true → Callable P g) (hm : P.follows .mixedOrders = true) : Snd P n (sx_96 P F n) := sound_sx0 hF hm (snd_95 hF hm)
theorem snd_97 (hF : ∀ g, F g = true → Callable P g) (hm : P.follows .mixedOrders = true) : Snd P n (sx_97 P F n) := sound_sx0 hF hm (snd_96 hF hm)
theorem snd_98 (hF : ∀ g, F g = true → Callable P g) (hm : P.follows .mixedOrders = true) : Snd P n (sx_98 P F n) := sound_sx0 hF hm (snd_97 hF hm)
theorem snd_99 (hF : ∀ g, F g = true → Callable P g) (hm : P.follows .mixedOrders = true) : Snd P n (sx_99 P F n) := sound_sx0 hF hm (snd_98 hF hm)
theorem snd_100 (hF : ∀ g, F g = true → Callable P g) (hm : P.follows .mixedOrders = true) : Snd P n (sx_100 P F n) := sound_sx0 hF hm (snd_99 hF hm)
theorem snd_101 (hF : ∀ g, F g = true → Callable P g) (hm : P.follows .mixedOrders = true) : Snd P n (sx_101 P F n) := sound_sx0 hF hm (snd_100 hF hm)
theorem snd_102 (hF : ∀ g, F g = true → Callable P g) (hm : P.follows .mixedOrders = true) : Snd P n (sx_102 P F n) := sound_sx0 hF hm (snd_101 hF hm)
theorem snd_103 (hF : ∀ g, F g = true → Callable P g) (hm : P.follows .mixedOrders = true) : Snd P n (sx_103 P F n) := sound_sx0 hF hm (snd_102 hF hm)
theorem snd_104 (hF : ∀ g, F g = true → Callable P g) (hm : P.follows .mixedOrders = true) : Snd P n (sx_104 P F n) := sound_sx0 hF hm (snd_103 hF hm)
theorem snd_105 (hF : ∀ g, F g = true → Callable P g) (hm : P.follows .mixedOrders = true) : Snd P n (sx_105 P F n) := sound_sx0 hF hm (snd_104 hF hm)
theorem snd_106 (hF : ∀ g, F g = true → Callable P g) (hm : P.follows .mixedOrders = true) : Snd P n (sx_106 P F n) := sound_sx0 hF hm (snd_105 hF hm)
theorem snd_107 (hF : ∀ g, F g = true → Callable P g) (hm : P.follows .mixedOrders = true) : Snd P n (sx_107 P F n) := sound_sx0 hF hm (snd_106 hF hm)
theorem snd_108 (hF : ∀ g, F g = true → Callable P g) (hm : P.follows .mixedOrders = true) : Snd P n (sx_108 P F n) := sound_sx0 hF hm (snd_107 hF hm)
theorem snd_109 (hF : ∀ g, F g = true → Callable P g) (hm : P.follows .mixedOrders = true) : Snd P n (sx_109 P F n) := sound_sx0 hF hm (snd_108 hF hm)
theorem snd_110 (hF : ∀ g, F g = true → Callable P g) (hm : P.follows .mixedOrders = true) : Snd P n (sx_110 P F n) := sound_sx0 hF hm (snd_109 hF hm)
theorem snd_111 (hF : ∀ g, F g = true → Callable P g) (hm : P.follows .mixedOrders = true) : Snd P n (sx_111 P F n) := sound_sx0 hF hm (snd_110 hF hm)
theorem snd_112 (hF : ∀ g, F g = true → Callable P g) (hm : P.follows .mixedOrders = true) : Snd P n (sx_112 P F n) := sound_sx0 hF hm (snd_111 hF hm)
theorem snd_113 (hF : ∀ g, F g = true → Callable P g) (hm : P.follows .mixedOrders = true) : Snd P n (sx_113 P F n) := sound_sx0 hF hm (snd_112 hF hm)
theorem snd_114 (hF : ∀ g, F g = true → Callable P g) (hm : P.follows .mixedOrders = true) : Snd P n (sx_114 P F n) := sound_sx0 hF hm (snd_113 hF hm)
theorem snd_115 (hF : ∀ g, F g = true → Callable P g) (hm : P.follows .mixedOrders = true) : Snd P n (sx_115 P F n) := sound_sx0 hF hm (snd_114 hF hm)
theorem snd_116 (hF : ∀ g, F g = true → Callable P g) (hm : P.follows .mixedOrders = true) : Snd P n (sx_116 P F n) := sound_sx0 hF hm (snd_115 hF hm)
theorem snd_117 (hF : ∀ g, F g = true → Callable P g) (hm : P.follows .mixedOrders = true) : Snd P n (sx_117 P F n) := sound_sx0 hF hm (snd_116 hF hm)
theorem snd_118 (hF : ∀ g, F g = true → Callable P g) (hm : P.follows .mixedOrders = true) : Snd P n (sx_118 P F n) := sound_sx0 hF hm (snd_117 hF hm)
theorem snd_119 (hF : ∀ g, F g = true → Callable P g) (hm : P.follows .mixedOrders = true) : Snd P n (sx_119 P F n) := sound_sx0 hF hm (snd_118 hF hm)
theorem snd_120 (hF : ∀ g, F g = true → Callable P g) (hm : P.follows .mixedOrders = true) : Snd P n (sx_120 P F n) := sound_sx0 hF hm (snd_119 hF hm)
end
end Go.Sx
