/- Regions that draw their order. -/
import Derived.Test.YtaemnjblcpknpaaSxE
namespace Go.Sx
open Go

/-- A quiet operation, or a call that leaves the heap as it was. -/
abbrev oqc (P : Program) (F : Nat → Bool) (op : Op) (ty : TypeId) (ρ : Operand → Value) (h : Hp) (K : Value → Prop) : Prop :=
  match op with
  | .call { callee := .value f, args, .. } => funV (ρ f) fun g first cap => chk (F g) (ExT P ty fun v0 => HCalls P g (first ++ (args.toList.map ρ ++ cap)).toArray h (fun v h' => v = v0 ∧ h' = h) ∧ K v0)
  | op => oq P op ρ h K

abbrev sxQ (P : Program) (F : Nat → Bool) (n : Nat) (all : List Oper) : List Oper → Env → Hp → (Env → Prop) → Prop
  | [], env, _, K => K env
  | o :: r, env, h, K => guardV all env o.guard
      (fun env => chk (known env o.op) (oqc P F o.op o.type (ev env) h fun v => putE n o.dst v env fun env => sxQ P F n all r env h K))
      (fun env => putE n o.dst undef env fun env => sxQ P F n all r env h K)

/-- The worlds with this heap, the streams and the tape as in w. -/
def Cls (w : World) (h : Hp) : World → Prop := fun w' => w'.heap = h ∧ Same w w'

section
variable {P : Program} {F : Nat → Bool}

theorem sound_oqc (hF : ∀ g, F g = true → Callable P g) {o : Oper} {op : Op} (ho : o.op = op) {ρ : Operand → Value} {h : Hp} {K : Value → Prop} {w0 : World} (hk : oqc P F op o.type ρ h K) :
    ∃ v, (∀ w, Cls w0 h w → Oper.quietUpon P (Cls w0 h) w v ((execOp ρ o).run P w)) ∧ K v := by
  unfold oqc at hk
  split at hk
  · rename_i f args tys
    obtain ⟨g, first, cap, hf, hk⟩ := funV_spec hk
    obtain ⟨hg, hk⟩ := cond_true_of hk
    obtain ⟨v0, hc, hk⟩ := Ex2.out hk
    refine ⟨v0, fun w hw => ?_, hk⟩
    have h2 : hq P (execOp ρ o) w.heap (fun n => n = .enter g (first ++ args.map ρ ++ cap)) := by
      obtain ⟨fn, hfn, hn, hb⟩ := hF g hg
      simp only [execOp, ho, resolve, hq_bind', hf, Deferred.ofValue, hq_pure', invoke]
      simp only [callFunc, program, hq_bind', hq, hfn]
      rw [if_neg (by rw [hn]; simp), if_neg (by rw [hb]; simp)]
      rfl
    obtain ⟨n, rfl, hr⟩ := hq_run _ _ _ h2
    rw [hr w rfl]
    refine ⟨rfl, ?_⟩
    have e : (first.toList ++ (args.toList.map ρ ++ cap.toList)).toArray = first ++ args.map ρ ++ cap := by apply Array.ext'; simp
    rw [e] at hc
    refine (hc w hw.1).mono fun e w'' ⟨v, he, hs, hv, hh⟩ => ?_
    subst hv
    exact ⟨he, hh, hw.2.trans hs⟩
  · obtain ⟨n, ⟨v, rfl, hv⟩, hr⟩ := hq_run _ _ _ (sound_oq ho hk)
    refine ⟨v, fun w hw => ?_, hv⟩
    rw [hr w hw.1]
    exact ⟨rfl, rfl⟩

theorem wpQuiet_mono {ops : Array Oper} {C : World → Prop} {Q Q' : Act → Prop} (hq : ∀ a, Q a → Q' a) : ∀ (l : List Oper) (a : Act), wpQuiet P ops C Q l a → wpQuiet P ops C Q' l a
  | [], _, h => hq _ h
  | o :: r, a, h => by
    unfold wpQuiet at h ⊢
    split
    · rename_i hw
      rw [if_pos hw] at h
      obtain ⟨v, h1, h2⟩ := h
      exact ⟨v, h1, wpQuiet_mono hq r _ h2⟩
    · rename_i hw
      rw [if_neg hw] at h
      exact wpQuiet_mono hq r _ h

theorem sound_sxQ (hF : ∀ g, F g = true → Callable P g) {n : Nat} {all : List Oper} {w0 : World} {h : Hp} : ∀ (l : List Oper) (env : Env) (K : Env → Prop), sxQ P F n all l env h K → ∀ (a : Act), Mdl n env a →
    wpQuiet P all.toArray (Cls w0 h) (fun a' => ∃ env', Mdl n env' a' ∧ Keeps (writesOps l) a a' ∧ K env') l a := by
  intro l
  induction l with
  | nil => intro env K hk a m; exact ⟨env, m, Keeps.refl _ _, hk⟩
  | cons o r ih =>
    intro env K hk a m
    simp only [sxQ] at hk
    have hin : ∀ d, o.dst = some d → d ∈ writesOps (o :: r) := fun d hd => by simp [writesOps, hd, optL]
    have hsub : ∀ i, i ∈ writesOps r → i ∈ writesOps (o :: r) := fun i hi => by simp [writesOps, hi]
    rcases guardV_spec m hk with ⟨hwt, env1, m1, hk⟩ | ⟨hwt, env1, m1, hk⟩
    · obtain ⟨hkn, hk⟩ := cond_true_of hk
      unfold wpQuiet
      rw [if_pos hwt]
      obtain ⟨v, hv, hk⟩ := sound_oqc hF (o := o) (w0 := w0) rfl hk
      refine ⟨v, fun w hw => ?_, ?_⟩
      · unfold Oper.quietAt; rw [m1.execOp hkn]; exact hv w hw
      · obtain ⟨env2, m2, hk⟩ := putE_spec m1 hk
        exact wpQuiet_mono (fun a' ⟨env', m', k, hk⟩ => ⟨env', m', (Keeps.put a v hin).trans (k.mono hsub), hk⟩) _ _ (ih env2 K hk _ m2)
    · unfold wpQuiet
      rw [if_neg (by rw [hwt]; simp)]
      obtain ⟨env2, m2, hk⟩ := putE_spec m1 hk
      exact wpQuiet_mono (fun a' ⟨env', m', k, hk⟩ => ⟨env', m', (Keeps.put a undef hin).trans (k.mono hsub), hk⟩) _ _ (ih env2 K hk _ m2)

end

/-! ### quiet operations first, then a tail in a forced order -/
/-- The first k look at the first k alone; every operation from k on waits for all before it. -/
def headB (ops : List Oper) (k : Nat) : Bool := allL (fun j =>
    match nth ops j with
    | some o => cond (match o.guard with | some (g, _) => Nat.blt g k | none => true) (allL (fun e => cond (Region.binds .any e) (Nat.blt e.on j) true) o.after.toList) false
    | none => false) (List.range k)
/-- Operation j waits for i, through others. -/
def reachB (ops : List Oper) : Nat → Nat → Nat → Bool
  | 0, _, _ => false
  | f + 1, j, i => match nth ops j with
    | some o => o.after.toList.any fun e => cond (Region.binds .any e) (cond (Nat.beq e.on i) true (cond (Nat.blt i e.on) (reachB ops f e.on i) false)) false
    | none => false
def waitsB (o : Oper) (i : Nat) : Bool := o.after.toList.any fun e => cond (Region.binds .any e) (Nat.beq e.on i) false
def tailB (ops : List Oper) (k : Nat) : Bool := cond (allL (fun i => reachB ops k k i) (List.range k))
  (allL (fun j => cond (Nat.blt j k) true (match nth ops j with | some o => cond (allL (fun e => cond (Region.binds .any e) (Nat.blt e.on j) true) o.after.toList) (cond (Nat.beq j k) true (waitsB o (j - 1))) false | none => false)) (List.range ops.length)) false

section
variable {P : Program} {ops : List Oper} {k : Nat}

theorem cond_true_of' {b x : Bool} (h : cond b x false = true) : b = true ∧ x = true := by cases b <;> simp_all

theorem headB_spec (h : headB ops k = true) {j : Nat} (hj : j < k) : ∃ o, ops[j]? = some o ∧ (∀ g b, o.guard = some (g, b) → g < k) ∧ ∀ e ∈ o.after, Region.binds .any e = true → e.on < j := by
  have h1 := allL_spec h j (List.mem_range.2 hj)
  rw [nth_eq] at h1
  cases ho : ops[j]? with
  | none => rw [ho] at h1; cases h1
  | some o =>
    rw [ho] at h1
    simp only [] at h1
    refine ⟨o, rfl, ?_, ?_⟩
    · intro g b hg
      simp only [hg] at h1
      cases hb : Nat.blt g k with
      | false => rw [hb] at h1; cases h1
      | true => exact Nat.le_of_ble_eq_true hb
    · intro e he hb
      cases hc : (match o.guard with | some (g, _) => Nat.blt g k | none => true) with
      | false => rw [hc] at h1; cases h1
      | true =>
        rw [hc] at h1
        have h2 := allL_spec h1 e (by simpa using he)
        rw [hb] at h2
        exact Nat.le_of_ble_eq_true h2

theorem tailB_spec (h : tailB ops k = true) {j : Nat} (hj : j < ops.length) (hk : k ≤ j) : ∃ o, ops[j]? = some o ∧ (k < j → ∃ e ∈ o.after, Region.binds .any e = true ∧ e.on = j - 1) ∧ ∀ e ∈ o.after, Region.binds .any e = true → e.on < j := by
  obtain ⟨_, h⟩ := cond_true_of' h
  have h1 := allL_spec h j (List.mem_range.2 hj)
  have hb : Nat.blt j k = false := by
    cases hb : Nat.blt j k with
    | false => rfl
    | true => have := Nat.le_of_ble_eq_true hb; omega
  rw [hb, nth_eq] at h1
  simp only [cond] at h1
  cases ho : ops[j]? with
  | none => rw [ho] at h1; cases h1
  | some o =>
    rw [ho] at h1
    obtain ⟨h0, h1⟩ := cond_true_of' h1
    refine ⟨o, rfl, fun hlt => ?_, fun e he hb => ?_⟩
    · have hne : Nat.beq j k = false := by cases hb : Nat.beq j k with | false => rfl | true => have := Nat.eq_of_beq_eq_true hb; omega
      rw [hne] at h1
      obtain ⟨e, he, h3⟩ := List.any_eq_true.1 h1
      cases hbe : Region.binds .any e with
      | false => rw [hbe] at h3; cases h3
      | true => rw [hbe] at h3; exact ⟨e, by simpa using he, hbe, Nat.eq_of_beq_eq_true h3⟩
    · have h2 := allL_spec h0 e (by simpa using he)
      rw [hb] at h2
      exact Nat.le_of_ble_eq_true h2

/-- What is listed is listed with all that it waits for. -/
def Closed (ops : List Oper) (L : Array Bool) : Prop := ∀ i o, L.getD i false = true → ops[i]? = some o → ∀ e ∈ o.after, Region.binds .any e = true → L.getD e.on false = true

theorem reachB_spec {L : Array Bool} (hc : Closed ops L) : ∀ (f j i : Nat), reachB ops f j i = true → ∀ o, ops[j]? = some o → (∀ e ∈ o.after, Region.binds .any e = true → L.getD e.on false = true) → L.getD i false = true
  | 0, _, _, h, _, _, _ => by cases h
  | f + 1, j, i, h, o, ho, hall => by
    unfold reachB at h
    rw [nth_eq, ho] at h
    obtain ⟨e, he, h3⟩ := List.any_eq_true.1 h
    have he' : e ∈ o.after := by simpa using he
    cases hbe : Region.binds .any e with
    | false => rw [hbe] at h3; cases h3
    | true =>
      rw [hbe] at h3
      have hl := hall e he' hbe
      cases hq : Nat.beq e.on i with
      | true => rw [Nat.eq_of_beq_eq_true hq] at hl; exact hl
      | false =>
        rw [hq] at h3
        simp only [cond] at h3
        cases hlt : Nat.blt i e.on with
        | false => rw [hlt] at h3; cases h3
        | true =>
          rw [hlt] at h3
          cases ho2 : ops[e.on]? with
          | none =>
            cases f with
            | zero => cases h3
            | succ f => unfold reachB at h3; rw [nth_eq, ho2] at h3; cases h3
          | some o2 => exact reachB_spec hc f e.on i h3 o2 ho2 (fun e2 he2 hb2 => hc e.on o2 hl ho2 e2 he2 hb2)

theorem tailB_reach (h : tailB ops k = true) {i : Nat} (hi : i < k) : reachB ops k k i = true := by
  obtain ⟨h, _⟩ := cond_true_of' h
  exact allL_spec h i (List.mem_range.2 hi)

theorem mem_ready' {ops : Array Oper} {listed : Array Bool} {i : Nat} : i ∈ Region.ready .any ops listed ↔ listed.getD i true = false ∧ ∃ o, ops[i]? = some o ∧ ∀ e ∈ o.after, Region.binds .any e = true → listed.getD e.on false = true := mem_ready

/-- The first m are listed, and no other. -/
def UpTo (ops : List Oper) (m : Nat) (L : Array Bool) : Prop := L.size = ops.length ∧ ∀ i, i < ops.length → L[i]? = some (decide (i < m))

theorem UpTo.getD {m i : Nat} {L : Array Bool} (h : UpTo ops m L) (hi : i < ops.length) (b : Bool) : L.getD i b = decide (i < m) := by
  rw [Array.getD_eq_getD_getElem?, h.2 i hi]; rfl

theorem UpTo.ready {m : Nat} {L : Array Bool} (h : UpTo ops m L) (ht : tailB ops k = true) (hk : k ≤ m) (hm : m ≤ ops.length) : ∀ j ∈ Region.ready .any ops.toArray L, j = m ∧ m < ops.length := by
  intro j hj
  obtain ⟨h1, o, ho, h2⟩ := mem_ready'.1 hj
  have ho' : ops[j]? = some o := by simpa using ho
  have hjl : j < ops.length := by
    rcases Nat.lt_or_ge j ops.length with h | h
    · exact h
    · rw [List.getElem?_eq_none h] at ho'; cases ho'
  rw [h.getD hjl] at h1
  have hmj : m ≤ j := by simpa using h1
  rcases Nat.lt_or_ge m j with hlt | hge
  · obtain ⟨o2, ho2, hw, _⟩ := tailB_spec ht hjl (Nat.le_trans hk hmj)
    obtain rfl : o = o2 := by rw [ho'] at ho2; exact Option.some.inj ho2
    obtain ⟨e, he, hb, hon⟩ := hw (by omega)
    have := h2 e he hb
    rw [hon, h.getD (by omega)] at this
    simp at this
    omega
  · exact ⟨by omega, by omega⟩

theorem UpTo.succ {m : Nat} {L : Array Bool} (h : UpTo ops m L) (hm : m < ops.length) : UpTo ops (m + 1) (L.setIfInBounds m true) := by
  refine ⟨by simp [h.1], fun i hi => ?_⟩
  by_cases e : m = i
  · subst e
    rw [Array.getElem?_setIfInBounds_self, if_pos (by rw [h.1]; exact hm)]
    simp
  · rw [Array.getElem?_setIfInBounds_ne e, h.2 i hi]
    congr 1
    simp
    omega

theorem sound_tail {Q : Exit → Act → World → Prop} (ht : tailB ops k = true) : ∀ (d m : Nat) (fuel : Nat) (L : Array Bool) (a : Act) (w : World), ops.length - m = d → m ≤ ops.length → k ≤ m → d ≤ fuel → UpTo ops m L →
    wpList P ops.toArray Q (ops.drop m) a w → wpAny P .any ops.toArray Q fuel L a w := by
  intro d
  induction d with
  | zero =>
    intro m fuel L a w hd hm hk hf hL hwp
    have e : ops.drop m = [] := List.drop_eq_nil_of_le (by omega)
    rw [e] at hwp
    have hr : Region.ready .any ops.toArray L = [] := by
      refine List.eq_nil_iff_forall_not_mem.2 fun j hj => ?_
      have := (hL.ready ht hk hm j hj).2
      omega
    cases fuel with
    | zero => exact ⟨hr, hwp⟩
    | succ fuel => exact ⟨fun _ => hwp, fun i hi => by rw [hr] at hi; cases hi⟩
  | succ d ih =>
    intro m fuel L a w hd hm hk hf hL hwp
    obtain ⟨fuel, rfl⟩ : ∃ f, fuel = f + 1 := ⟨fuel - 1, by omega⟩
    have hml : m < ops.length := by omega
    have hdrop : ops.drop m = ops[m] :: ops.drop (m + 1) := List.drop_eq_getElem_cons hml
    rw [hdrop] at hwp
    have hop : ops.toArray[m]? = some ops[m] := by simp [hml]
    have step : wpOp P ops.toArray Q m (wpAny P .any ops.toArray Q fuel (L.setIfInBounds m true)) a w := by
      unfold wpOp
      rw [hop]
      simp only []
      unfold wpList at hwp
      split
      · rename_i hw
        rw [if_pos hw] at hwp
        rcases hwp with hwp | hwp
        · exact .inl (Oper.wp_mono (fun a w h => ih (m + 1) fuel _ a w (by omega) (by omega) (by omega) (by omega) (hL.succ hml) h) hwp)
        · exact .inr hwp
      · rename_i hw
        rw [if_neg hw] at hwp
        exact ih (m + 1) fuel _ _ w (by omega) (by omega) (by omega) (by omega) (hL.succ hml) hwp
    refine ⟨fun h => ?_, fun j hj => ?_⟩
    · exfalso
      have : m ∈ Region.ready .any ops.toArray L := by
        refine mem_ready'.2 ⟨by rw [hL.getD hml]; simp, ops[m], hop, fun e he hb => ?_⟩
        obtain ⟨o2, ho2, _, hlt⟩ := tailB_spec ht hml hk
        obtain rfl : o2 = ops[m] := by rw [List.getElem?_eq_getElem hml] at ho2; exact (Option.some.inj ho2).symm
        have := hlt e he hb
        rw [hL.getD (by omega)]
        simpa using this
      rw [h] at this
      cases this
    · obtain ⟨rfl, _⟩ := hL.ready ht hk hm j hj
      exact step

/-- Of the whole region's marks and the head's. -/
structure Both (ops : List Oper) (k : Nat) (L LH : Array Bool) : Prop where
  size : L.size = ops.length
  sizeH : LH.size = k
  same : ∀ i, i < k → L[i]? = LH[i]?
  tail : ∀ i, k ≤ i → i < ops.length → L[i]? = some false
  closed : Closed ops L

theorem Both.getD {L LH : Array Bool} (b : Both ops k L LH) {i : Nat} (hi : i < k) (d : Bool) : L.getD i d = LH.getD i d := by
  rw [Array.getD_eq_getD_getElem?, Array.getD_eq_getD_getElem?, b.same i hi]

theorem Both.set {L LH : Array Bool} (b : Both ops k L LH) {i : Nat} (hi : i < k) (hr : i ∈ Region.ready .any ops.toArray L) : Both ops k (L.setIfInBounds i true) (LH.setIfInBounds i true) where
  size := by simp [b.size]
  sizeH := by simp [b.sizeH]
  same := fun j hj => by
    by_cases e : i = j
    · subst e
      have hk : i < L.size := by
        rcases Nat.lt_or_ge i L.size with h | h
        · exact h
        · have := b.same i hi
          rw [Array.getElem?_eq_none h] at this
          have h2 : i < LH.size := by rw [b.sizeH]; exact hi
          rw [Array.getElem?_eq_getElem h2] at this
          cases this
      rw [Array.getElem?_setIfInBounds_self, Array.getElem?_setIfInBounds_self, if_pos hk, if_pos (by rw [b.sizeH]; exact hi)]
    · rw [Array.getElem?_setIfInBounds_ne e, Array.getElem?_setIfInBounds_ne e]; exact b.same j hj
  tail := fun j hj hl => by rw [Array.getElem?_setIfInBounds_ne (by omega)]; exact b.tail j hj hl
  closed := fun j o hj ho e he hb => by
    have mono : ∀ x, L.getD x false = true → (L.setIfInBounds i true).getD x false = true := by
      intro x hx
      rw [Array.getD_eq_getD_getElem?] at hx ⊢
      by_cases hxi : i = x
      · subst hxi
        rw [Array.getElem?_setIfInBounds_self]
        split
        · rfl
        · rename_i hn
          rw [Array.getElem?_eq_none (by omega)] at hx
          cases hx
      · rw [Array.getElem?_setIfInBounds_ne hxi]; exact hx
    by_cases hji : i = j
    · subst hji
      obtain ⟨_, o2, ho2, h2⟩ := mem_ready'.1 hr
      have ho' : ops.toArray[i]? = some o := by simpa using ho
      obtain rfl : o = o2 := by rw [ho'] at ho2; exact Option.some.inj ho2
      exact mono _ (h2 e he hb)
    · have : L.getD j false = true := by
        rw [Array.getD_eq_getD_getElem?] at hj ⊢
        rwa [Array.getElem?_setIfInBounds_ne hji] at hj
      exact mono _ (b.closed j o this ho e he hb)

theorem take_get {i : Nat} (hi : i < k) : (ops.take k).toArray[i]? = ops.toArray[i]? := by
  simp [hi]

theorem Both.ready {L LH : Array Bool} (b : Both ops k L LH) (hh : headB ops k = true) (_hk : k ≤ ops.length) {i : Nat} (hi : i < k) :
    i ∈ Region.ready .any ops.toArray L ↔ i ∈ Region.ready .any (ops.take k).toArray LH := by
  rw [mem_ready', mem_ready', take_get hi, b.getD hi]
  obtain ⟨o, ho, _, he⟩ := headB_spec hh hi
  have ho' : ops.toArray[i]? = some o := by simpa using ho
  rw [ho']
  constructor
  · rintro ⟨h1, o', h2, h3⟩
    obtain rfl := Option.some.inj h2
    exact ⟨h1, o, rfl, fun e hm hb => by rw [← b.getD (by have := he e hm hb; omega)]; exact h3 e hm hb⟩
  · rintro ⟨h1, o', h2, h3⟩
    obtain rfl := Option.some.inj h2
    exact ⟨h1, o, rfl, fun e hm hb => by rw [b.getD (by have := he e hm hb; omega)]; exact h3 e hm hb⟩

/-- While one of the head is not listed, one of the head is ready, and none of the tail. -/
theorem Both.some_ready {L LH : Array Bool} (b : Both ops k L LH) (hh : headB ops k = true) (_hk : k ≤ ops.length) : ∀ (i : Nat), i < k → L.getD i true = false → ∃ j, j < k ∧ j ∈ Region.ready .any ops.toArray L := by
  intro i
  induction i using Nat.strongRecOn with
  | _ i ih =>
    intro hi hl
    obtain ⟨o, ho, _, he⟩ := headB_spec hh hi
    have ho' : ops.toArray[i]? = some o := by simpa using ho
    by_cases hall : ∀ e ∈ o.after, Region.binds .any e = true → L.getD e.on false = true
    · exact ⟨i, hi, mem_ready'.2 ⟨hl, o, ho', hall⟩⟩
    · have : ∃ e ∈ o.after, Region.binds .any e = true ∧ L.getD e.on false = false := by
        apply Classical.byContradiction
        intro hno
        refine hall fun e hm hb => ?_
        cases hc : L.getD e.on false with
        | true => rfl
        | false => exact absurd ⟨e, hm, hb, hc⟩ hno
      obtain ⟨e, hm, hb, hc⟩ := this
      have hlt := he e hm hb
      refine ih e.on hlt (by omega) ?_
      have hsz : e.on < L.size := by rw [b.size]; omega
      rw [Array.getD_eq_getD_getElem?, Array.getElem?_eq_getElem hsz] at hc ⊢
      exact hc

theorem Both.no_tail {L LH : Array Bool} (b : Both ops k L LH) (ht : tailB ops k = true) {i j : Nat} (hi : i < k) (hl : L.getD i true = false) (hj : j ∈ Region.ready .any ops.toArray L) : j < k := by
  rcases Nat.lt_or_ge j k with h | h
  · exact h
  · exfalso
    obtain ⟨_, o, ho, h2⟩ := mem_ready'.1 hj
    have ho' : ops[j]? = some o := by simpa using ho
    have hjl : j < ops.length := by
      rcases Nat.lt_or_ge j ops.length with h | h
      · exact h
      · rw [List.getElem?_eq_none h] at ho'; cases ho'
    obtain ⟨o2, ho2, hw, _⟩ := tailB_spec ht hjl h
    obtain rfl : o = o2 := by rw [ho'] at ho2; exact Option.some.inj ho2
    rcases Nat.lt_or_ge k j with hlt | hge
    · obtain ⟨e, he, hb, hon⟩ := hw hlt
      have h3 := h2 e he hb
      rw [hon, Array.getD_eq_getD_getElem?, b.tail (j - 1) (by omega) (by omega)] at h3
      cases h3
    · have hjk : j = k := by omega
      subst hjk
      have h3 := reachB_spec b.closed _ _ _ (tailB_reach ht hi) o ho' h2
      have hsz : i < L.size := by rw [b.size]; omega
      rw [Array.getD_eq_getD_getElem?, Array.getElem?_eq_getElem hsz] at h3 hl
      simp at h3 hl
      rw [h3] at hl
      cases hl

theorem Both.upTo {L LH : Array Bool} (b : Both ops k L LH) (hall : ∀ i, i < k → L.getD i true = true) : UpTo ops k L := by
  refine ⟨b.size, fun i hi => ?_⟩
  rcases Nat.lt_or_ge i k with h | h
  · have hsz : i < L.size := by rw [b.size]; omega
    have := hall i h
    rw [Array.getD_eq_getD_getElem?, Array.getElem?_eq_getElem hsz] at this
    rw [Array.getElem?_eq_getElem hsz]
    simp at this
    rw [this]
    simp [h]
  · rw [b.tail i h hi]
    congr 1
    simp
    omega

theorem qOp_head {C : World → Prop} (hh : headB ops k = true) (hk : k ≤ ops.length) {i : Nat} (hi : i < k) {K : Act → Prop} {a : Act} (h : qOp P (ops.take k).toArray C i K a) : qOp P ops.toArray C i K a := by
  obtain ⟨o, ho, hg, _⟩ := headB_spec hh hi
  have ho' : ops.toArray[i]? = some o := by simpa using ho
  unfold qOp at h ⊢
  rw [take_get hi, ho'] at h
  rw [ho']
  simp only [] at h ⊢
  have hw : Region.wanted o (yielded (ops.take k).toArray a.tmps) = Region.wanted o (yielded ops.toArray a.tmps) := by
    unfold Region.wanted
    cases hgd : o.guard with
    | none => rfl
    | some gb =>
      obtain ⟨g, bb⟩ := gb
      simp only [yielded, take_get (hg g bb hgd)]
  rw [hw] at h
  exact h

theorem sound_head {C : World → Prop} {Q' : Exit → Act → World → Prop} {Q : Act → Prop} (hh : headB ops k = true) (ht : tailB ops k = true) (hk : k ≤ ops.length)
    (hQ : ∀ a w, C w → Q a → wpList P ops.toArray Q' (ops.drop k) a w) : ∀ (f : Nat) (g : Nat) (L LH : Array Bool) (a : Act) (w : World), ops.length - k ≤ g → C w → Both ops k L LH →
    wpAnyQ P .any (ops.take k).toArray C Q f LH a → wpAny P .any ops.toArray Q' (f + g) L a w := by
  intro f
  induction f with
  | zero =>
    intro g L LH a w hg hw b h
    obtain ⟨hr, hq⟩ := h
    have hall : ∀ i, i < k → L.getD i true = true := by
      intro i hi
      cases hc : L.getD i true with
      | true => rfl
      | false =>
        obtain ⟨j, hj, hjr⟩ := b.some_ready hh hk i hi hc
        rw [b.ready hh hk hj, hr] at hjr
        cases hjr
    rw [Nat.zero_add]
    exact sound_tail ht _ k g L a w rfl hk (Nat.le_refl _) hg (b.upTo hall) (hQ a w hw hq)
  | succ f ih =>
    intro g L LH a w hg hw b h
    obtain ⟨h0, h1⟩ := h
    by_cases hall : ∀ i, i < k → L.getD i true = true
    · have hr : Region.ready .any (ops.take k).toArray LH = [] := by
        refine List.eq_nil_iff_forall_not_mem.2 fun j hj => ?_
        have hjk : j < k := by
          obtain ⟨_, o, ho, _⟩ := mem_ready'.1 hj
          rcases Nat.lt_or_ge j k with h | h
          · exact h
          · rw [Array.getElem?_eq_none (by simp; omega)] at ho; cases ho
        have h2 := (mem_ready'.1 hj).1
        rw [← b.getD hjk, hall j hjk] at h2
        cases h2
      exact sound_tail ht _ k _ L a w rfl hk (Nat.le_refl _) (by omega) (b.upTo hall) (hQ a w hw (h0 hr))
    · have hex : ∃ i, i < k ∧ L.getD i true = false := by
        apply Classical.byContradiction
        intro hno
        refine hall fun i hi => ?_
        cases hc : L.getD i true with
        | true => rfl
        | false => exact absurd ⟨i, hi, hc⟩ hno
      obtain ⟨i, hi, hl⟩ := hex
      rw [show f + 1 + g = (f + g) + 1 by omega]
      refine ⟨fun hr => ?_, fun j hj => ?_⟩
      · obtain ⟨j, _, hjr⟩ := b.some_ready hh hk i hi hl
        rw [hr] at hjr
        cases hjr
      · have hjk := b.no_tail ht hi hl hj
        have hq := h1 j ((b.ready hh hk hjk).1 hj)
        exact wpOp_of_qOp hw (fun a' w' hw' hK => ih g _ _ a' w' hg hw' (b.set hjk hj) hK) (qOp_head hh hk hjk hq)

theorem wp_region_quiet_tail {id : Nat} {C : World → Prop} {Q : Exit → Act → World → Prop} {a : Act} {w : World} (hm : P.follows .mixedOrders = true) (hC : C { w with drawn := w.drawn + 1 })
    (hh : headB ops k = true) (ht : tailB ops k = true) (hk : k ≤ ops.length) (hB : Region.lexB .any (ops.take k).toArray = true)
    (h : wpQuiet P (ops.take k).toArray C (fun a' => ∀ w', C w' → wpList P ops.toArray Q (ops.drop k) a' w') (ops.take k) a) : (Code.region id ops.toArray true).wp P Q a w := by
  simp only [Region.lexB, Bool.and_eq_true] at hB
  have h1 := wpAnyQ_lex (C := C) (md := .any) hB.1 (ops.take k) 0 (Array.replicate (ops.take k).toArray.size false) a (by simp) (by simpa using hB.2) h
  refine wp_region_any hm ?_
  have h2 := sound_head (Q := fun a' => ∀ w', C w' → wpList P ops.toArray Q (ops.drop k) a' w') hh ht hk (fun a w hw hq => hq w hw) _ (ops.length - k) (Array.replicate ops.toArray.size false) _ a
    { w with drawn := w.drawn + 1 } (Nat.le_refl _) hC ?_ h1
  · have e : (ops.take k).length + (ops.length - k) = ops.toArray.size := by simp; omega
    rw [e] at h2
    exact h2
  · refine ⟨by simp, by simp; omega, fun i hi => ?_, fun i hi hl => ?_, fun i o hi => ?_⟩
    · rw [Array.getElem?_eq_getElem (by simp; omega), Array.getElem?_eq_getElem (by simp; omega)]; simp
    · rw [Array.getElem?_eq_getElem (by simpa using hl)]; simp
    · rw [Array.getD_eq_getD_getElem?] at hi
      cases hg : (Array.replicate ops.toArray.size false)[i]? with
      | none => rw [hg] at hi; cases hi
      | some b =>
        rw [Array.getElem?_replicate] at hg
        split at hg
        · obtain rfl := Option.some.inj hg
          rw [Array.getElem?_replicate] at hi
          simp_all
        · cases hg
end
end Go.Sx
