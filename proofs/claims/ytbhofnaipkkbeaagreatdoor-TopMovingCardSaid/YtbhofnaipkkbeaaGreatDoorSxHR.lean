/- Ranges over functions: code in a round's frame; a function that has such a statement. -/
import Derived.Test.YtbhofnaipkkbeaaGreatDoorSxI3
namespace Go.Sx
open Go
abbrev sxI (P : Program) (F : Nat → Bool) (n : Nat) : Code → Env → Hp → (Exit → Env → Hp → Prop) → Prop
  | .skip, env, h, K => K .normal env h
  | .region _ ops draw, env, h, K => (match draw with | false => yajp P F n ops.toList ops.toList env h (K .normal) | true => False)
  | .seq a b, env, h, K => sxI P F n a env h (thenE (fun env h => sxI P F n b env h K) K)
  | .cond c a b, env, h, K => chk (yajs env c) (match ev env c with | .bool t => cond t (sxI P F n a env h K) (sxI P F n b env h K) | _ => False)
  | .block id a, env, h, K => sxI P F n a env h (yalt id K)
  | .exit id, env, h, K => K (.exit id) env h
  | .ret, env, h, K => K .ret env h
  | _, _, _, _ => False
section
variable {P : Program} {F : Nat → Bool}
theorem PostI.seq {n : Nat} {ws ws' : List Nat} {a a' : Act} {w w' : World} {K : Exit → Env → Hp → Prop} {e : Exit} {a2 : Act} {w2 : World} (hs : Same w w') (kp : Keeps ws a a') (h : Post n ws' a' w' K e a2 w2) : Post n (ws ++ ws') a w K e a2 w2 := by
  obtain ⟨env3, m3, s3, kp3, hk3⟩ := h
  exact ⟨env3, m3, hs.trans s3, (kp.mono fun i hi => by simp [hi]).trans (kp3.mono fun i hi => by simp [hi]), hk3⟩
theorem yaoa (hF : ∀ g, F g = true → yaau P g) {ro : Option Nat} {n : Nat} : ∀ (c : Code) (env : Env) (h : Hp) (K : Exit → Env → Hp → Prop), sxI P F n c env h K → ∀ (a : Act) (w : World), Mdl n env a → w.heap = h → c.wpIn (Wd ro) 0 P (Post n (yaci c) a w K) a w := by
  intro c
  induction c with
  | skip =>
    intro env h K hk a w m hw
    exact wpIn_skip ⟨env, m, Same.refl w, Keeps.refl _ _, by rw [hw]; exact hk⟩
  | region id ops draw =>
    intro env h K hk a w m hw
    cases draw with
    | true => exact hk.elim
    | false =>
      have h1 := yama hF (ro := ro) ops.toList env h (K .normal) hk a w m hw
      refine wpIn_region_list (F := Wd ro) ?_
      refine yadj (fun e a' w' hp => ?_) _ _ _ h1
      obtain ⟨env', m', s, kp, rfl, hk'⟩ := hp
      exact ⟨env', m', s, kp, hk'⟩
  | seq x y ihx ihy =>
    intro env h K hk a w m hw
    refine wpIn_seq ?_
    refine Code.wpIn_mono (fun e a' w' hp => ?_) (ihx env h _ hk a w m hw)
    obtain ⟨env', m', s, kp, hk'⟩ := hp
    cases e with
    | normal => exact Code.wpIn_mono (fun e2 a2 w2 hp2 => PostI.seq s kp hp2) (ihy env' _ K hk' a' w' m' rfl)
    | _ => exact ⟨env', m', s, kp.mono fun i hi => by simp [yaci, hi], hk'⟩
  | cond c x y ihx ihy =>
    intro env h K hk a w m hw
    obtain ⟨hc, hk⟩ := yaae hk
    have hev := m.ev hc
    split at hk
    · rename_i t ht
      refine wpIn_cond (t := t) (by rw [hev, ht]) ?_
      cases t with
      | true => exact Code.wpIn_mono (fun e a' w' hp => by obtain ⟨env', m', s, kp, hk'⟩ := hp; exact ⟨env', m', s, kp.mono fun i hi => by simp [yaci, hi], hk'⟩) (ihx env h K hk a w m hw)
      | false => exact Code.wpIn_mono (fun e a' w' hp => by obtain ⟨env', m', s, kp, hk'⟩ := hp; exact ⟨env', m', s, kp.mono fun i hi => by simp [yaci, hi], hk'⟩) (ihy env h K hk a w m hw)
    · exact hk.elim
  | block id x ih =>
    intro env h K hk a w m hw
    refine wpIn_block ?_
    refine Code.wpIn_mono (fun e a' w' hp => ?_) (ih env h _ hk a w m hw)
    obtain ⟨env', m', s, kp, hk'⟩ := hp
    cases e with
    | exit i =>
      simp only [yalt] at hk'
      simp only [Exit.inBlock]
      by_cases hi : i = id
      · rw [if_pos hi]
        have hb : Nat.beq i id = true := by subst hi; simp
        rw [hb] at hk'
        exact ⟨env', m', s, kp, hk'⟩
      · rw [if_neg hi]
        have hb : Nat.beq i id = false := by cases hb : Nat.beq i id with | false => rfl | true => exact absurd (Nat.eq_of_beq_eq_true hb) hi
        rw [hb] at hk'
        exact ⟨env', m', s, kp, hk'⟩
    | _ => exact ⟨env', m', s, kp, hk'⟩
  | exit id =>
    intro env h K hk a w m hw
    exact wpIn_exit ⟨env, m, Same.refl w, Keeps.refl _ _, by rw [hw]; exact hk⟩
  | ret =>
    intro env h K hk a w m hw
    exact wpIn_ret ⟨env, m, Same.refl w, Keeps.refl _ _, by rw [hw]; exact hk⟩
  | _ => intro env h K hk; exact hk.elim
end

abbrev All0 (z : Value) (B : Value → Prop) : Prop :=
  match z with
  | .int k _ => ∀ n : Int, B (.int k n)
  | .bool _ => ∀ b : Bool, B (.bool b)
  | .string _ => ∀ s : ByteArray, B (.string s)
  | .pointer _ => ∀ p : Option Addr, B (.pointer p)
  | .slice _ _ _ => ∀ (a : Option Addr) (l c : Nat), B (.slice a l c)
  | _ => ∀ v, B v
abbrev AllL : List Value → (List Value → Prop) → Prop
  | [], B => B []
  | z :: zs, B => All0 z fun v => AllL zs fun vs => B (v :: vs)
abbrev All1 (z : Value) (B : Value → Prop) : Prop :=
  match z with
  | .agg zs => AllL zs.toList fun vs => B (.agg vs.toArray)
  | z => All0 z B
abbrev AllTs (P : Program) : List TypeId → (List Value → Prop) → Prop
  | [], B => B []
  | t :: r, B => All1 (yadx P t) fun v => AllTs P r fun vs => B (v :: vs)
theorem All0.intro {z : Value} {B : Value → Prop} (h : ∀ v, B v) : All0 z B := by cases z <;> simp only [All0] <;> intros <;> exact h _
theorem AllL.intro : ∀ {zs : List Value} {B : List Value → Prop}, (∀ vs, B vs) → AllL zs B
  | [], _, h => h []
  | _ :: _, _, h => All0.intro fun _ => AllL.intro fun _ => h _
theorem All1.intro {z : Value} {B : Value → Prop} (h : ∀ v, B v) : All1 z B := by
  cases z <;> simp only [All1] <;> first | exact AllL.intro fun _ => h _ | exact All0.intro h
theorem AllTs.intro {P : Program} : ∀ {ts : List TypeId} {B : List Value → Prop}, (∀ vs, vs.length = ts.length → B vs) → AllTs P ts B
  | [], _, h => h [] rfl
  | _ :: _, _, h => All1.intro fun _ => AllTs.intro fun vs hl => h _ (by simp [hl])

def yauk (h : Hp) (rec : LoopState → Option Code → Loop) : Hp := (h.push (.deferred (some []))).push (.loop (rec .ready none))
def LpS (rec : LoopState → Option Code → Loop) (l : Nat) (h : Hp) (s : LoopState) (pe : Option Code) : Prop := h[l]? = some (.loop (rec s pe))
def setLp (rec : LoopState → Option Code → Loop) (l : Nat) (h : Hp) (s : LoopState) (pe : Option Code) : Hp := h.setIfInBounds l (.loop (rec s pe))
abbrev ybax (rec : LoopState → Option Code → Loop) (l : Nat) (Kr : Value → Hp → Prop) : Exit → Env → Hp → Prop := fun e _ h =>
  match e with
  | .normal => LpS rec l h .busy none ∧ Kr (.bool true) (setLp rec l h .ready none)
  | .ret => LpS rec l h .busy none ∧ Kr (.bool false) (setLp rec l h .done (some .ret))
  | .exit id => LpS rec l h .busy none ∧ Kr (.bool false) (setLp rec l h .done (some (.exit id)))
  | _ => False
abbrev onlyN (k : Env → Hp → Prop) : Exit → Env → Hp → Prop := fun e env h => match e with | .normal => k env h | _ => False
abbrev bindP : List Nat → List Value → Env → Env
  | p :: ps, v :: vs, env => (p, v) :: bindP ps vs env
  | _, _, env => env
abbrev orL : List Nat → (Nat → Prop) → Prop
  | [], _ => False
  | i :: r, f => f i ∨ orL r f
abbrev yarh : List Nat → Bool
  | [] => true
  | i :: r => cond (!memL i r) (yarh r) false
abbrev yaxm (P : Program) (F : Nat → Bool) (n : Nat) (gv : Value) (ps : List Nat) (as bd : Code) (ts ids : List Nat) (env : Env) (h : Hp) (K : List Nat → Exit → Env → Hp → Prop) : Prop :=
  chk (Nat.beq ts.length ps.length && (allL (fun p => Nat.blt p n) ps && yarh ps)) (
  ∃ (gf : Nat) (lb : Array Value), gv = .func (.func gf) #[] lb ∧ F gf = true ∧ ∀ rec : LoopState → Option Code → Loop,
    (AllTs P ts fun args => ∀ (h3 : Hp) (Kr : Value → Hp → Prop), LpS rec (h.size + 1) h3 .ready none →
      sxI P F n as (bindP ps args env) h3 (onlyN fun env h4 => LpS rec (h.size + 1) h4 .ready none ∧ sxI P F n bd env (setLp rec (h.size + 1) h4 .busy none) (ybax rec (h.size + 1) Kr)) → yaix P (h.size + 1) args.toArray h3 Kr) →
    yaak P gf (#[.func (.yield (h.size + 1)) #[] #[]] ++ lb) (yauk h rec) fun _ h5 => ∃ (st : LoopState) (pe : Option Code), LpS rec (h.size + 1) h5 st pe ∧ st ≠ .busy ∧
      ((pe = none ∧ K [h.size] .normal env (setLp rec (h.size + 1) h5 .exhausted pe)) ∨ (pe = some .ret ∧ K [h.size] .ret env (setLp rec (h.size + 1) h5 .exhausted pe)) ∨
        orL ids fun id => pe = some (.exit id) ∧ K [h.size] (.exit id) env (setLp rec (h.size + 1) h5 .exhausted pe)))
def markD (D : Nat) : Deferred := { target := .collected D, args := #[] }
def PostJ (n : Nat) (a : Act) (w : World) (K : List Nat → Exit → Env → Hp → Prop) : Exit → Act → World → Prop := fun e a' w' =>
  ∃ env' Ds, Mdl n env' a' ∧ Same w w' ∧ a'.defers = Ds.map markD ++ a.defers ∧ K Ds e env' w'.heap
abbrev sxJ (P : Program) (F : Nat → Bool) (n : Nat) : Code → Ann → Env → Hp → (List Nat → Exit → Env → Hp → Prop) → Prop
  | .skip, _, env, h, K => K [] .normal env h
  | .region id ops draw, an, env, h, K => sx0 P F n sx_0 (.region id ops draw) an env h (K [])
  | .seq a b, an, env, h, K => sxJ P F n a an.l env h fun Ds => thenE (fun env h => sxJ P F n b an.r env h fun Es => K (Es ++ Ds)) (K Ds)
  | .cond c a b, an, env, h, K => chk (yajs env c) (match ev env c with | .bool t => cond t (sxJ P F n a an.l env h K) (sxJ P F n b an.r env h K) | _ => False)
  | .block id a, an, env, h, K => sxJ P F n a an env h fun Ds => yalt id (K Ds)
  | .rangeFunc g ps as bd, an, env, h, K => (match an with
    | .range ts ids => chk (yajs env g) (yaxm P F n (ev env g) ps.toList as bd ts ids env h K)
    | _ => False)
  | .exit id, _, env, h, K => K [] (.exit id) env h
  | .ret, _, env, h, K => K [] .ret env h
  | _, _, _, _, _ => False
section
variable {P : Program} {F : Nat → Bool}
theorem yaso {f : Nat → Prop} : ∀ {l : List Nat}, orL l f → ∃ i, f i
  | _ :: _, .inl h => ⟨_, h⟩
  | _ :: _, .inr h => yaso h
theorem yaei {i : Nat} : ∀ (ps : List Nat) (vs : List Value) (E1 : Env), i ∉ ps → look (bindP ps vs E1) i = look E1 i
  | [], vs, E1, _ => by cases vs <;> rfl
  | q :: ps, [], E1, _ => rfl
  | q :: ps, v :: vs, E1, hi => by
    have h1 : q ≠ i := fun e => hi (by simp [e])
    have h2 : i ∉ ps := fun e => hi (by simp [e])
    show look ((q, v) :: bindP ps vs E1) i = _
    rw [yacy, if_neg h1, yaei ps vs E1 h2]
theorem yahm {i : Nat} : ∀ (ps : List Nat) (vs : List Value) (E1 E2 : Env), ps.length = vs.length → i ∈ ps → look (bindP ps vs E1) i = look (bindP ps vs E2) i
  | [], _, _, _, _, h => by cases h
  | _ :: _, [], _, _, h, _ => by simp at h
  | q :: ps, v :: vs, E1, E2, hl, hi => by
    show look ((q, v) :: bindP ps vs E1) i = look ((q, v) :: bindP ps vs E2) i
    rw [yacy, yacy]
    by_cases hq : q = i
    · rw [if_pos hq, if_pos hq]
    · rw [if_neg hq, if_neg hq]
      exact yahm ps vs E1 E2 (by simpa using hl) ((List.mem_cons.1 hi).resolve_left (Ne.symm hq))
theorem zip_fold (ps : List Nat) (vs : List Value) (t : Array Value) : (ps.toArray.zip vs.toArray).foldl (fun t (p, v) => t.setIfInBounds p v) t = (ps.zip vs).foldl (fun t (p, v) => t.setIfInBounds p v) t := by
  rw [List.zip_toArray]; simp
theorem Mdl.bindP {n : Nat} : ∀ {ps : List Nat} {vs : List Value} {env : Env} {t : Array Value}, Mdl n env ⟨t, []⟩ → ps.length = vs.length → allL (fun p => Nat.blt p n) ps = true → yarh ps = true →
    Mdl n (Sx.bindP ps vs env) ⟨(ps.zip vs).foldl (fun t (p, v) => t.setIfInBounds p v) t, []⟩
  | [], [], _, _, m, _, _, _ => m
  | [], _ :: _, _, _, _, hl, _, _ => by simp at hl
  | _ :: _, [], _, _, _, hl, _, _ => by simp at hl
  | p :: ps, v :: vs, env, t, m, hl, hp, hn => by
    unfold allL at hp
    obtain ⟨hp1, hp2⟩ := yaag hp
    have hpn : p < n := Nat.le_of_ble_eq_true hp1
    unfold yarh at hn
    obtain ⟨hn1, hn2⟩ := yaag hn
    have m0 : Mdl n ((p, v) :: env) ⟨t.setIfInBounds p v, []⟩ := m.put hpn v
    have m1 := Mdl.bindP m0 (by simpa using hl) hp2 hn2 (vs := vs)
    refine ⟨m1.size, fun i u hu => ?_⟩
    rw [show Sx.bindP (p :: ps) (v :: vs) env = (p, v) :: Sx.bindP ps vs env from rfl, yacy] at hu
    refine m1.get i u ?_
    have hnp : p ∉ ps := fun h => by rw [yamw h] at hn1; cases hn1
    by_cases hi : i ∈ ps
    · rw [if_neg (fun e : p = i => hnp (by rw [e]; exact hi))] at hu
      rw [yahm ps vs _ env (by simpa using hl) hi]
      exact hu
    · rw [yaei ps vs _ hi, yacy]
      split at hu
      · rename_i e; rw [if_pos e]; exact hu
      · rename_i e; rw [if_neg e]; rw [yaei ps vs _ hi] at hu; exact hu
theorem yaqo (hF : ∀ g, F g = true → yaau P g) {n : Nat} {ps : List Nat} {as bd : Code} {env : Env} {a : Act} {l D fn : Nat} {rec : LoopState → Option Code → Loop} {args : List Value} {h3 : Hp} {Kr : Value → Hp → Prop}
    (hrec : rec = fun st pe => { state := st, pending := pe, fn, tmps := a.tmps, params := ps.toArray, assign := as, body := bd, defers := D }) (m : Mdl n env a)
    (hl : args.length = ps.length) (hp : allL (fun p => Nat.blt p n) ps = true) (hn : yarh ps = true) (h0 : LpS rec l h3 .ready none)
    (hk : sxI P F n as (bindP ps args env) h3 (onlyN fun env h4 => LpS rec l h4 .ready none ∧ sxI P F n bd env (setLp rec l h4 .busy none) (ybax rec l Kr))) : yaix P l args.toArray h3 Kr := by
  intro w hw
  have hL : w.heap[l]? = some (.loop (rec .ready none)) := by rw [hw]; exact h0
  have hy := run_yield (P := P) (args := args.toArray) hL (by rw [hrec]; simpa using hl)
  refine ⟨_, _, _, _, hy, ?_⟩
  have e1 : (rec .ready none).params = ps.toArray := by rw [hrec]
  have e2 : (rec .ready none).tmps = a.tmps := by rw [hrec]
  have e3 : (rec .ready none).assign = as := by rw [hrec]
  have e4 : (rec .ready none).body = bd := by rw [hrec]
  rw [e1, e2, e3, e4, zip_fold]
  have m1 := Mdl.bindP (t := a.tmps) (env := env) ⟨m.size, m.get⟩ hl.symm hp hn (vs := args)
  refine roundIn_of_wpIn trivial ?_
  refine Code.wpIn_mono (fun e a1 w1 hp1 => ?_) (yaoa hF (ro := some l) as _ h3 _ hk _ w m1 hw)
  obtain ⟨env1, m2, s1, _, hk1⟩ := hp1
  cases e with
  | normal =>
    obtain ⟨hL1, hk1⟩ := hk1
    have hb := run_beginRound (P := P) (w := w1) hL1 (by rw [hrec])
    refine ⟨_, hb, ?_⟩
    have eb : ({ rec .ready none with state := LoopState.busy } : Loop) = rec .busy none := by rw [hrec]
    rw [eb]
    refine Code.wpIn_mono (fun e a2 w2 hp2 => ?_) (yaoa hF (ro := some l) bd env1 _ _ hk1 a1 (w1.putObj l (.loop (rec .busy none))) m2 rfl)
    obtain ⟨env2, m3, s2, _, hk2⟩ := hp2
    have sw : Same w w2 := s1.trans (Same.trans (b := w1.putObj l (.loop (rec .busy none))) ⟨rfl, rfl, rfl⟩ s2)
    cases e with
    | normal =>
      obtain ⟨hL2, hk2⟩ := hk2
      have he := run_endRound (P := P) (w := w2) none hL2
      have ee : ({ rec .busy none with state := if (none : Option Code).isNone then LoopState.ready else LoopState.done, pending := none } : Loop) = rec .ready none := by rw [hrec]; rfl
      rw [ee] at he
      exact ⟨_, _, he, _, rfl, sw.trans ⟨rfl, rfl, rfl⟩, hk2⟩
    | ret =>
      obtain ⟨hL2, hk2⟩ := hk2
      have he := run_endRound (P := P) (w := w2) (some .ret) hL2
      have ee : ({ rec .busy none with state := if (some Code.ret).isNone then LoopState.ready else LoopState.done, pending := some .ret } : Loop) = rec .done (some .ret) := by rw [hrec]; rfl
      rw [ee] at he
      exact ⟨_, _, he, _, rfl, sw.trans ⟨rfl, rfl, rfl⟩, hk2⟩
    | exit id =>
      obtain ⟨hL2, hk2⟩ := hk2
      have he := run_endRound (P := P) (w := w2) (some (.exit id)) hL2
      have ee : ({ rec .busy none with state := if (some (Code.exit id)).isNone then LoopState.ready else LoopState.done, pending := some (.exit id) } : Loop) = rec .done (some (.exit id)) := by rw [hrec]; rfl
      rw [ee] at he
      exact ⟨_, _, he, _, rfl, sw.trans ⟨rfl, rfl, rfl⟩, hk2⟩
    | goto _ => exact hk2.elim
    | panic _ => exact hk2.elim
    | outgrown => exact hk2.elim
  | exit _ => exact hk1.elim
  | goto _ => exact hk1.elim
  | ret => exact hk1.elim
  | panic _ => exact hk1.elim
  | outgrown => exact hk1.elim
theorem yaqc (hF : ∀ g, F g = true → yaau P g) {n : Nat} {g : Operand} {ps : List Nat} {as bd : Code} {ts ids : List Nat} {env : Env} {a : Act} {w : World} {K : List Nat → Exit → Env → Hp → Prop} (m : Mdl n env a) (hg : yajs env g = true)
    (hk : yaxm P F n (ev env g) ps as bd ts ids env w.heap K) : (Code.rangeFunc g ps.toArray as bd).wp P (PostJ n a w K) a w := by
  refine (wpIn_wide (n := 0)).1 ?_
  obtain ⟨hc, gf, lb, hgv, hgf, hk⟩ := yaae hk
  simp only [Bool.and_eq_true] at hc
  obtain ⟨hc1, hc2, hc3⟩ := hc
  have hc1 := Nat.eq_of_beq_eq_true hc1
  refine wpIn_rangeFunc fun fn _ => ?_
  obtain ⟨rec, hrec⟩ : ∃ rec : LoopState → Option Code → Loop, rec = fun st pe => { state := st, pending := pe, fn, tmps := a.tmps, params := ps.toArray, assign := as, body := bd, defers := w.heap.size } := ⟨_, rfl⟩
  have hk := hk rec (AllTs.intro fun args hl h3 Kr h0 hb => yaqo hF hrec m (hl.trans hc1) hc2 hc3 h0 hb)
  obtain ⟨W1, hW1⟩ : ∃ W1, (w.alloc (.deferred (some []))).alloc (.loop (rec .ready none)) = W1 := ⟨_, rfl⟩
  have hh : W1.heap = yauk w.heap rec := by rw [← hW1]; rfl
  have hs1 : Same w W1 := by rw [← hW1]; exact ⟨rfl, rfl, rfl⟩
  have hga : a.eval g = .func (.func gf) #[] lb := by rw [m.ev hg, hgv]
  refine ⟨w.heap.size + 1, [markD w.heap.size], W1, { target := .fn (.func gf) lb, args := #[.func (.yield (w.heap.size + 1)) #[] #[]] }, W1, gf,
    #[.func (.yield (w.heap.size + 1)) #[] #[]] ++ lb, W1, ?_, ?_, fun _ _ => trivial, ?_, fun h => (by cases h), ?_⟩
  · rw [← hW1, hrec]; exact run_enterLoop_outer _ _ _ _ _
  · simp only [resolve, hga, Deferred.ofValue]
    have e : (#[] : Array Value) ++ Array.map a.eval #[Operand.const (Value.func (Fn.yield (w.heap.size + 1)) #[] #[])] = #[.func (.yield (w.heap.size + 1)) #[] #[]] := by simp [Act.eval]
    rw [e]
    rfl
  · obtain ⟨f0, hf0, hn0, hb0⟩ := hF gf hgf
    have := yadp (P := P) ⟨f0, hf0, hn0, hb0⟩ (#[.func (.yield (w.heap.size + 1)) #[] #[]] ++ lb) W1.heap (fun nx h => nx = .enter gf (#[.func (.yield (w.heap.size + 1)) #[] #[]] ++ lb)) rfl
    simp only [invoke, callFunc, program, Sem.run_bind, Sem.run, hf0, Result.andThen]
    rw [if_neg (by rw [hn0]; simp), if_neg (by rw [hb0]; simp)]
    rfl
  · refine callsIn_wide.2 ((hk W1 hh).mono fun e w2 ⟨v, he, hs, st, pe, hL, hst, hk2⟩ => ?_)
    subst he
    have hend := run_endLoop (P := P) (w := w2) hL (by rw [hrec]; exact hst)
    have ee : ({ rec st pe with state := LoopState.exhausted } : Loop) = rec .exhausted pe := by rw [hrec]
    rw [ee] at hend
    have epe : (rec st pe).pending = pe := by rw [hrec]
    rw [epe] at hend
    refine ⟨_, _, hend, ?_⟩
    have m2 : Mdl n env { a with defers := [markD w.heap.size] ++ a.defers } := ⟨m.size, m.get⟩
    have sw : Same w (w2.putObj (w.heap.size + 1) (.loop (rec .exhausted pe))) := (hs1.trans hs).trans ⟨rfl, rfl, rfl⟩
    rcases hk2 with ⟨rfl, hk2⟩ | ⟨rfl, hk2⟩ | hk2
    · exact ⟨env, [w.heap.size], m2, sw, rfl, hk2⟩
    · exact wpIn_ret ⟨env, [w.heap.size], m2, sw, rfl, hk2⟩
    · obtain ⟨id, rfl, hk2⟩ := yaso hk2
      exact wpIn_exit ⟨env, [w.heap.size], m2, sw, rfl, hk2⟩
theorem yauv (hF : ∀ g, F g = true → yaau P g) (hm : P.follows .mixedOrders = true) {n : Nat} : ∀ (c : Code) (an : Ann) (env : Env) (h : Hp) (K : List Nat → Exit → Env → Hp → Prop), sxJ P F n c an env h K → ∀ (a : Act) (w : World), Mdl n env a → w.heap = h → c.wp P (PostJ n a w K) a w := by
  intro c
  induction c with
  | skip =>
    intro an env h K hk a w m hw
    exact wp_skip ⟨env, [], m, Same.refl w, rfl, by rw [hw]; exact hk⟩
  | region id ops draw =>
    intro an env h K hk a w m hw
    refine Code.wp_mono (fun e a' w' hp => ?_) (yaby hF hm (fun _ _ _ _ _ h => h.elim : Snd P n sx_0) (.region id ops draw) an env h _ hk a w m hw)
    obtain ⟨env', m', s, kp, hk'⟩ := hp
    exact ⟨env', [], m', s, kp.defers, hk'⟩
  | seq x y ihx ihy =>
    intro an env h K hk a w m hw
    refine wp_seq ?_
    refine Code.wp_mono (fun e a' w' hp => ?_) (ihx _ env h _ hk a w m hw)
    obtain ⟨env', Ds, m', s, hd, hk'⟩ := hp
    cases e with
    | normal =>
      refine Code.wp_mono (fun e2 a2 w2 hp2 => ?_) (ihy _ env' _ _ hk' a' w' m' rfl)
      obtain ⟨env3, Es, m3, s3, hd3, hk3⟩ := hp2
      exact ⟨env3, Es ++ Ds, m3, s.trans s3, by rw [hd3, hd]; simp, hk3⟩
    | _ => exact ⟨env', Ds, m', s, hd, hk'⟩
  | cond c x y ihx ihy =>
    intro an env h K hk a w m hw
    obtain ⟨hc, hk⟩ := yaae hk
    have hev := m.ev hc
    split at hk
    · rename_i t ht
      refine wp_cond (t := t) (by rw [hev, ht]) ?_
      cases t with
      | true => exact ihx _ env h K hk a w m hw
      | false => exact ihy _ env h K hk a w m hw
    · exact hk.elim
  | block id x ih =>
    intro an env h K hk a w m hw
    refine wp_block ?_
    refine Code.wp_mono (fun e a' w' hp => ?_) (ih an env h _ hk a w m hw)
    obtain ⟨env', Ds, m', s, hd, hk'⟩ := hp
    cases e with
    | exit i =>
      simp only [yalt] at hk'
      simp only [Exit.inBlock]
      by_cases hi : i = id
      · rw [if_pos hi]
        have hb : Nat.beq i id = true := by subst hi; simp
        rw [hb] at hk'
        exact ⟨env', Ds, m', s, hd, hk'⟩
      · rw [if_neg hi]
        have hb : Nat.beq i id = false := by cases hb : Nat.beq i id with | false => rfl | true => exact absurd (Nat.eq_of_beq_eq_true hb) hi
        rw [hb] at hk'
        exact ⟨env', Ds, m', s, hd, hk'⟩
    | _ => exact ⟨env', Ds, m', s, hd, hk'⟩
  | rangeFunc g ps as bd _ _ =>
    intro an env h K hk a w m hw
    cases an with
    | range ts ids =>
      obtain ⟨hg, hk⟩ := yaae hk
      subst hw
      have := yaqc hF m hg hk
      simpa using this
    | _ => exact hk.elim
  | exit id =>
    intro an env h K hk a w m hw
    exact wp_exit ⟨env, [], m, Same.refl w, rfl, by rw [hw]; exact hk⟩
  | ret =>
    intro an env h K hk a w m hw
    exact wp_ret ⟨env, [], m, Same.refl w, rfl, by rw [hw]; exact hk⟩
  | _ => intro an env h K hk; exact hk.elim
end
abbrev yaoc : List Nat → Hp → (Hp → Prop) → Prop
  | [], h, k => k h
  | D :: r, h, k => h[D]? = some (.deferred (some [])) ∧ yaoc r (h.setIfInBounds D (.deferred none)) k
abbrev retJ (P : Program) (rs : List ResultVar) (K : Value → Hp → Prop) : List Nat → Exit → Env → Hp → Prop := fun Ds e env h =>
  match e with
  | .normal | .ret => yaoc Ds h fun h => resV P env h rs fun vs => K (oneOf vs) h
  | _ => False
section
variable {P : Program} {F : Nat → Bool}
theorem yahf {fn : Func} {tmps : Array Value} {R : Ending → World → Prop} : ∀ (Ds : List Nat) (w : World) (k : Hp → Prop), yaoc Ds w.heap k →
    (∀ w', Same w w' → k w'.heap → ∃ v, (results fn tmps).run P w' = .ok v w' ∧ R (.returned v) w') → LeavesInM Fence.wide 0 P fn tmps R (Ds.map markD) .returning w
  | [], w, k, hk, hr => hr w (Same.refl w) hk
  | D :: r, w, k, hk, hr => ⟨by simp, .inl ⟨D, _, rfl, run_takeDeferred hk.1, yahf r (w.putObj D (.deferred none)) k hk.2 fun w' hs hk' => hr w' (Same.trans (b := w.putObj D (.deferred none)) ⟨rfl, rfl, rfl⟩ hs) hk'⟩⟩
theorem yaud (hF : ∀ g, F g = true → yaau P g) (hm : P.follows .mixedOrders = true) {f : FuncId} {fn : Func} {c : Code} {n : Nat} {args : List Value} {h : Hp} {K : Value → Hp → Prop} (an : Ann)
    (hf : P.funcs[f]? = some fn) (hb : fn.body = some c) (hn : fn.ntmps = n) (hle : args.length ≤ n)
    (hk : sxJ P F n c an (initE 0 args) h (retJ P fn.results.toList K)) : yaak P f args.toArray h K := by
  intro w hw
  refine (callsIn_wide (n := 0)).1 (callsIn_of_wp_marks hf hb trivial ?_)
  have m : Mdl n (initE 0 args) { tmps := args.toArray ++ Array.replicate (fn.ntmps - args.toArray.size) undef, defers := [] } := by
    refine ⟨by simp [hn]; omega, fun i v hv => ?_⟩
    obtain ⟨_, h2⟩ := yali args 0 i v hv
    rw [Nat.sub_zero] at h2
    have hi : i < args.length := by
      rcases Nat.lt_or_ge i args.length with h | h
      · exact h
      · rw [List.getElem?_eq_none h] at h2; cases h2
    rw [Array.getElem?_append_left (by simpa using hi)]
    simpa using h2
  refine (wpIn_wide (n := 0)).2 (Code.wp_mono (fun e a' w' hp => ?_) (yauv hF hm c an _ h _ hk _ w m hw))
  obtain ⟨env', Ds, m', s, hd, hk'⟩ := hp
  have hd' : a'.defers = Ds.map markD := by rw [hd]; simp
  have fin : ∀ (_ : yaoc Ds w'.heap fun h => resV P env' h fn.results.toList fun vs => K (oneOf vs) h), LeavesInM Fence.wide 0 P fn a'.tmps (fun e w' => ∃ v, e = .returned v ∧ Same w w' ∧ K v w'.heap) a'.defers .returning w' := by
    intro hr
    rw [hd']
    refine yahf Ds w' _ hr fun w2 hs hr => ?_
    have h1 := yahc m' _ _ hr
    have h2 : hq P (results fn a'.tmps) w2.heap fun v => K v w2.heap := by
      unfold results
      rw [yaab, Array.mapM_eq_mapM_toList, map_eq_pure_bind, yaab]
      refine yacf _ _ _ _ (fun vs hvs => ?_) h1
      rw [yaah, yaah]
      have e : (if h : vs.toArray.size = 1 then vs.toArray[0] else Value.tuple vs.toArray) = oneOf vs := by
        match vs with
        | [] => rfl
        | [v] => rfl
        | _ :: _ :: _ => simp [oneOf]
      rw [e]
      exact hvs
    obtain ⟨v, hv, hrun⟩ := yake _ _ _ h2
    exact ⟨v, hrun w2 rfl, v, rfl, s.trans hs, hv⟩
  cases e with
  | normal => exact fin hk'
  | ret => exact fin hk'
  | _ => exact hk'.elim
end
end Go.Sx
