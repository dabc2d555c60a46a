/- A plan of a region serves every order that the region may draw. -/
import Derived.Test.YtaemnjblcpknpaaSxG2
namespace Go.Sx
open Go

section
variable {P : Program} {F : Nat → Bool}
variable {n : Nat} {all : List Oper} {K : Env → Hp → Prop} {a0 : Act} {w0 : World}

/-- The operation yields its value in every world with this heap. -/
def RunsTo (P : Program) (A : Act) (o : Oper) (h : Hp) (v : Value) : Prop := ∀ w : World, w.heap = h → (execOp A.eval o).run P w = .ok (.value v) w

/-- An operation that the plan has done, and the region not yet. -/
def Pend (P : Program) (all : List Oper) (A : Act) (h : Hp) (fl : List Nat) (i : Nat) : Prop :=
  ∃ o v, all[i]? = some o ∧ isSelect o.op = false ∧ (∀ d, o.dst = some d → A.tmps[d]? = some v) ∧
    ((Region.wanted o (yielded all.toArray A.tmps) = true ∧ RunsTo P A o h v ∧ ((∀ h', RunsTo P A o h' v) ∨ i ∈ fl)) ∨ (Region.wanted o (yielded all.toArray A.tmps) = false ∧ v = undef))

structure Inv (P : Program) (n : Nat) (all : List Oper) (a0 : Act) (w0 : World) (L : Array Bool) (a A : Act) (w : World) (rem fl : List Nat) (env : Env) : Prop where
  size : L.size = all.length
  closed : Closed all L
  remU : ∀ i ∈ rem, i < all.length ∧ L.getD i false = false
  gone : ∀ i, i < all.length → i ∉ rem → L.getD i false = true ∨ Pend P all A w.heap fl i
  pairs : ∀ i, i < all.length → i ∉ rem → ∀ j ∈ rem, PairOk all i j
  self : ∀ i, i < all.length → i ∉ rem → selfOk all i = true
  gg : ∀ i j, i < all.length → j < all.length → i ∉ rem → j ∉ rem → i ≠ j → PairOk all i j ∨ PairOk all j i
  agree : ∀ t, (∀ i o, all[i]? = some o → i ∉ rem → L.getD i false = false → o.dst ≠ some t) → a.tmps[t]? = A.tmps[t]?
  asize : a.tmps.size = n
  defers : a.defers = []
  mdl : Mdl n env A
  same : Same w0 w
  keeps : Keeps (writesOps all) a0 a
  hard : ∀ i o, all[i]? = some o → i ∉ rem → hardOp o.op = true → L.getD i false = true

theorem looks_eval {o : Oper} {a A : Act} (hs : isSelect o.op = false) (h : ∀ t ∈ o.looksAt all.toArray, a.tmps[t]? = A.tmps[t]?) :
    execOp a.eval o = execOp A.eval o ∧ Region.wanted o (yielded all.toArray a.tmps) = Region.wanted o (yielded all.toArray A.tmps) := by
  constructor
  · refine execOp_congr o (fun cs b he => by rw [he] at hs; cases hs) fun x hx => ?_
    cases x with
    | tmp t =>
      have := h t (List.mem_append_left _ (List.mem_filterMap.2 ⟨.tmp t, by simpa using hx, rfl⟩))
      simp only [Act.eval, Array.getD_eq_getD_getElem?, this]
    | _ => rfl
  · unfold Region.wanted
    cases hg : o.guard with
    | none => rfl
    | some gw =>
      obtain ⟨g, want⟩ := gw
      have hy : yielded all.toArray a.tmps g = yielded all.toArray A.tmps g := by
        unfold yielded
        cases ht : (all.toArray[g]?).bind (·.dst) with
        | none => rfl
        | some t =>
          have := h t (by simp only [Oper.looksAt, hg, ht]; simp)
          show (match a.tmps[t]? with | some (.bool b) => some b | _ => none) = (match A.tmps[t]? with | some (.bool b) => some b | _ => none)
          rw [this]
      simp only [hy]

theorem looks_put {o : Oper} {A : Act} {d : Option Nat} {v : Value} (h : ∀ t, d = some t → t ∉ o.looksAt all.toArray) : ∀ t ∈ o.looksAt all.toArray, (A.put d v).tmps[t]? = A.tmps[t]? := by
  intro t ht
  cases d with
  | none => rfl
  | some d =>
    have hne : d ≠ t := fun e => h d rfl (e ▸ ht)
    simp only [Act.put]
    exact Array.getElem?_setIfInBounds_ne hne

theorem RunsTo.put {o : Oper} {A : Act} {h : Hp} {u v : Value} {d : Option Nat} (hs : isSelect o.op = false) (hd : ∀ t, d = some t → t ∉ o.looksAt all.toArray) (hr : RunsTo P A o h v) : RunsTo P (A.put d u) o h v := by
  intro w hw
  rw [(looks_eval (all := all) hs (looks_put hd)).1]
  exact hr w hw

/-- What is pending stays so, when a later operation is done, and what may come late is looked at again. -/
theorem Pend.step {A : Act} {h h' : Hp} {fl fl' : List Nat} {i j : Nat} {oj : Oper} {u : Value} (hp : Pend P all A h fl i) (hj : all[j]? = some oj) (hpo : PairOk all i j) (hno : hardOp oj.op = true → reachM (masks all []) j i = true → False)
    (hh : (h' = h ∧ ∀ x ∈ fl, x ∈ fl') ∨ ∀ o v, all[i]? = some o → i ∈ fl → (∀ d, o.dst = some d → (A.put oj.dst u).tmps[d]? = some v) → RunsTo P (A.put oj.dst u) o h v → i ∈ fl' ∧ RunsTo P (A.put oj.dst u) o h' v) :
    Pend P all (A.put oj.dst u) h' fl' i := by
  obtain ⟨o, v, ho, hs, hd, hv⟩ := hp
  obtain ⟨x, y, hx, hy, h1, h2, h3⟩ := hpo.out
  obtain rfl : x = o := by rw [hx] at ho; exact Option.some.inj ho
  obtain rfl : y = oj := by rw [hy] at hj; exact Option.some.inj hj
  have hlook : ∀ t, y.dst = some t → t ∉ x.looksAt all.toArray := fun t ht => (h1 t ht).1.elim id fun hc => (hno hc.1 hc.2).elim
  have hd' : ∀ d, x.dst = some d → (A.put y.dst u).tmps[d]? = some v := by
    intro d hxd
    cases hyd : y.dst with
    | none => exact hd d hxd
    | some t =>
      have hne : t ≠ d := fun e => (h1 t hyd).2 (e ▸ hxd)
      simp only [Act.put]
      rw [Array.getElem?_setIfInBounds_ne hne]
      exact hd d hxd
  have hw := (looks_eval (all := all) (a := A.put y.dst u) (A := A) hs (looks_put hlook)).2
  refine ⟨x, v, hx, hs, hd', ?_⟩
  rw [hw]
  rcases hv with ⟨hv1, hv2, hv3⟩ | hv
  · refine .inl ⟨hv1, ?_, ?_⟩
    · rcases hv3 with hv3 | hv3
      · exact (hv3 h').put hs hlook
      · rcases hh with ⟨rfl, _⟩ | hh
        · exact hv2.put hs hlook
        · exact (hh x v hx hv3 hd' (hv2.put hs hlook)).2
    · rcases hv3 with hv3 | hv3
      · exact .inl fun h'' => (hv3 h'').put hs hlook
      · rcases hh with ⟨_, hfl⟩ | hh
        · exact .inr (hfl i hv3)
        · exact .inr (hh x v hx hv3 hd' (hv2.put hs hlook)).1
  · exact .inr hv

theorem lt_of_get {α : Type} {l : List α} {i : Nat} {x : α} (h : l[i]? = some x) : i < l.length := by
  rcases Nat.lt_or_ge i l.length with h1 | h1
  · exact h1
  · rw [List.getElem?_eq_none h1] at h; cases h

theorem selfOk_spec {i : Nat} {o : Oper} (ho : all[i]? = some o) (h : selfOk all i = true) : (∀ e ∈ o.after, Region.binds .any e = true → e.on < i) ∧ (∀ d, o.dst = some d → d ∉ o.looksAt all.toArray) ∧ isSelect o.op = false := by
  unfold selfOk at h
  rw [nth_eq, ho] at h
  obtain ⟨h1, h⟩ := cond_true_of' h
  obtain ⟨h2, h3⟩ := cond_true_of' h
  refine ⟨fun e he hb => ?_, fun d hd hm => ?_, ?_⟩
  · have := allL_spec h1 e (by simpa using he)
    rw [hb] at this
    exact Nat.le_of_ble_eq_true this
  · rw [hd] at h2
    have hc : (o.looksAt all.toArray).contains d = true := by rw [List.contains_eq_mem, decide_eq_true_eq]; exact hm
    simp only [hc] at h2
    cases h2
  · cases hs : isSelect o.op with
    | false => rfl
    | true => rw [hs] at h3; cases h3

/-- One quiet operation more is done in the plan. -/
theorem Inv.quiet {L : Array Bool} {a A : Act} {w : World} {rem fl fl' : List Nat} {env env' : Env} {i : Nat} {o : Oper} {v : Value} (b : Inv P n all a0 w0 L a A w rem fl env)
    (ho : all[i]? = some o) (hi : i ∈ rem) (hself : selfOk all i = true) (hpair : ∀ j ∈ delN i rem, PairOk all i j) (hs : isSelect o.op = false) (hhd : hardOp o.op = false) (hfl : ∀ x ∈ fl, x ∈ fl')
    (hm : Mdl n env' (A.put o.dst v)) (hd : ∀ d, o.dst = some d → d < n)
    (hv : (Region.wanted o (yielded all.toArray A.tmps) = true ∧ RunsTo P A o w.heap v ∧ ((∀ h', RunsTo P A o h' v) ∨ i ∈ fl')) ∨ (Region.wanted o (yielded all.toArray A.tmps) = false ∧ v = undef))
    (hlk : ∀ d, o.dst = some d → d ∉ o.looksAt all.toArray) :
    Inv P n all a0 w0 L a (A.put o.dst v) w (delN i rem) fl' env' := by
  have hil := (b.remU i hi).1
  have cases_ : ∀ j, j < all.length → j ∉ delN i rem → j = i ∨ j ∉ rem := by
    intro j _ hj
    by_cases e : j = i
    · exact .inl e
    · exact .inr fun hm => hj (mem_delN.2 ⟨hm, e⟩)
  have hsz : A.tmps.size = n := b.mdl.size
  refine ⟨b.size, b.closed, fun j hj => b.remU j (mem_delN.1 hj).1, ?_, ?_, ?_, ?_, ?_, b.asize, b.defers, hm, b.same, b.keeps, ?hard⟩
  case hard =>
    intro j oj hoj hjn hh
    rcases cases_ j (lt_of_get hoj) hjn with rfl | hjr
    · obtain rfl : o = oj := by rw [ho] at hoj; exact Option.some.inj hoj
      rw [hhd] at hh; cases hh
    · exact b.hard j oj hoj hjr hh
  · intro j hj hjn
    rcases cases_ j hj hjn with rfl | hjr
    · refine .inr ⟨o, v, ho, hs, ?_, ?_⟩
      · intro d hd'
        rw [hd']
        simp only [Act.put]
        rw [Array.getElem?_setIfInBounds_self, if_pos (by rw [hsz]; exact hd d hd')]
      · have hw := looks_eval (all := all) (a := A.put o.dst v) (A := A) hs (looks_put hlk)
        rw [hw.2]
        rcases hv with ⟨h1, h2, h3⟩ | hv
        · exact .inl ⟨h1, h2.put hs hlk, h3.imp (fun h h' => (h h').put hs hlk) id⟩
        · exact .inr hv
    · rcases b.gone j hj hjr with h | h
      · exact .inl h
      · exact .inr (h.step ho (b.pairs j hj hjr i hi) (fun h1 => by rw [hhd] at h1; cases h1) (.inl ⟨rfl, hfl⟩))
  · intro j hj hjn k hk
    rcases cases_ j hj hjn with rfl | hjr
    · exact hpair k hk
    · exact b.pairs j hj hjr k (mem_delN.1 hk).1
  · intro j hj hjn
    rcases cases_ j hj hjn with rfl | hjr
    · exact hself
    · exact b.self j hj hjr
  · intro j k hj hk hjn hkn hne
    rcases cases_ j hj hjn with rfl | hjr <;> rcases cases_ k hk hkn with rfl | hkr
    · exact absurd rfl hne
    · exact .inr (b.pairs k hk hkr _ hi)
    · exact .inl (b.pairs j hj hjr _ hi)
    · exact b.gg j k hj hk hjr hkr hne
  · intro t ht
    have hold := b.agree t (fun j oj hj hjr hl => ht j oj hj (fun hm => hjr (mem_delN.1 hm).1) hl)
    rw [hold]
    cases hod : o.dst with
    | none => rfl
    | some d =>
      have hne : d ≠ t := fun e => ht i o ho (fun hm => (mem_delN.1 hm).2 rfl) (b.remU i hi).2 (by rw [hod, e])
      simp only [Act.put]
      rw [Array.getElem?_setIfInBounds_ne hne]

/-- What a ready operation looks at is there. -/
theorem Inv.looks {L : Array Bool} {a A : Act} {w : World} {rem fl : List Nat} {env : Env} (b : Inv P n all a0 w0 L a A w rem fl env) {j : Nat} {o : Oper} (ho : all[j]? = some o)
    (hall : ∀ e ∈ o.after, Region.binds .any e = true → L.getD e.on false = true) (hlk : j ∉ rem → ∀ d, o.dst = some d → d ∉ o.looksAt all.toArray) :
    ∀ t ∈ o.looksAt all.toArray, a.tmps[t]? = A.tmps[t]? := by
  intro t ht
  refine b.agree t fun i oi hi hir hl hd => ?_
  have hil := lt_of_get hi
  have hjl := lt_of_get ho
  have first : PairOk all i j → False := by
    intro hp
    obtain ⟨x, y, hx, hy, _, h2, _⟩ := hp.out
    obtain rfl : x = oi := by rw [hx] at hi; exact Option.some.inj hi
    obtain rfl : y = o := by rw [hy] at ho; exact Option.some.inj ho
    have := reachM_spec b.closed ho (h2 t hd ht) hall
    rw [hl] at this
    cases this
  by_cases hjr : j ∈ rem
  · exact first (b.pairs i hil hir j hjr)
  · by_cases hij : i = j
    · subst hij
      obtain rfl : oi = o := by rw [hi] at ho; exact Option.some.inj ho
      exact hlk hjr t hd ht
    · rcases b.gg i j hil hjl hir hjr hij with hp | hp
      · exact first hp
      · obtain ⟨x, y, hx, hy, h1, _, _⟩ := hp.out
        obtain rfl : x = o := by rw [hx] at ho; exact Option.some.inj ho
        obtain rfl : y = oi := by rw [hy] at hi; exact Option.some.inj hi
        rcases (h1 t hd).1 with h3 | h3
        · exact h3 ht
        · have := b.hard i _ hy hir h3.1
          rw [hl] at this; cases this

theorem Closed.set {L : Array Bool} (hc : Closed all L) {j : Nat} {o : Oper} (ho : all[j]? = some o) (hall : ∀ e ∈ o.after, Region.binds .any e = true → L.getD e.on false = true) : Closed all (L.setIfInBounds j true) := by
  have mono : ∀ x, L.getD x false = true → (L.setIfInBounds j true).getD x false = true := by
    intro x hx
    rw [Array.getD_eq_getD_getElem?] at hx ⊢
    by_cases hxi : j = x
    · subst hxi
      rw [Array.getElem?_setIfInBounds_self]
      split
      · rfl
      · rename_i hn
        rw [Array.getElem?_eq_none (by omega)] at hx
        cases hx
    · rw [Array.getElem?_setIfInBounds_ne hxi]; exact hx
  intro i oi hi hoi e he hb
  by_cases hij : j = i
  · subst hij
    obtain rfl : o = oi := by rw [ho] at hoi; exact Option.some.inj hoi
    exact mono _ (hall e he hb)
  · rw [Array.getD_eq_getD_getElem?, Array.getElem?_setIfInBounds_ne hij, ← Array.getD_eq_getD_getElem?] at hi
    exact mono _ (hc i oi hi hoi e he hb)

theorem getD_set {L : Array Bool} {i j : Nat} (hij : j ≠ i) (b : Bool) : (L.setIfInBounds j true).getD i b = L.getD i b := by
  rw [Array.getD_eq_getD_getElem?, Array.getElem?_setIfInBounds_ne hij, ← Array.getD_eq_getD_getElem?]
theorem getD_set_self {L : Array Bool} {j : Nat} (h : j < L.size) (b : Bool) : (L.setIfInBounds j true).getD j b = true := by
  rw [Array.getD_eq_getD_getElem?, Array.getElem?_setIfInBounds_self, if_pos h]; rfl

/-- What was pending is done. -/
theorem Inv.late {L : Array Bool} {a A : Act} {w : World} {rem fl : List Nat} {env : Env} (b : Inv P n all a0 w0 L a A w rem fl env) {j : Nat} {o : Oper} {v : Value} (ho : all[j]? = some o) (hjr : j ∉ rem)
    (hall : ∀ e ∈ o.after, Region.binds .any e = true → L.getD e.on false = true) (hd : ∀ d, o.dst = some d → A.tmps[d]? = some v) :
    Inv P n all a0 w0 (L.setIfInBounds j true) (a.put o.dst v) A w rem fl env := by
  have hjl := lt_of_get ho
  have hne : ∀ i ∈ rem, j ≠ i := fun i hi e => hjr (e ▸ hi)
  refine ⟨by simp [b.size], b.closed.set ho hall, fun i hi => ⟨(b.remU i hi).1, by rw [getD_set (hne i hi)]; exact (b.remU i hi).2⟩, ?_, b.pairs, b.self, b.gg, ?_, ?_, ?_, b.mdl, b.same, ?_, ?hard⟩
  case hard =>
    intro i oi hoi hir hh
    by_cases hij : j = i
    · subst hij; exact getD_set_self (by rw [b.size]; exact hjl) _
    · rw [getD_set hij]; exact b.hard i oi hoi hir hh
  · intro i hi hir
    by_cases hij : j = i
    · subst hij; exact .inl (getD_set_self (by rw [b.size]; exact hjl) _)
    · rw [getD_set hij]; exact b.gone i hi hir
  · intro t ht
    cases hod : o.dst with
    | none =>
      refine b.agree t fun i oi hi hir hl => ?_
      by_cases hij : j = i
      · subst hij
        obtain rfl : o = oi := by rw [ho] at hi; exact Option.some.inj hi
        rw [hod]; simp
      · exact ht i oi hi hir (by rw [getD_set hij]; exact hl)
    | some d =>
      have hA := hd d hod
      have hdn : d < n := by
        rw [← b.mdl.size]
        rcases Nat.lt_or_ge d A.tmps.size with h | h
        · exact h
        · rw [Array.getElem?_eq_none h] at hA; cases hA
      by_cases hdt : d = t
      · subst hdt
        simp only [Act.put]
        rw [Array.getElem?_setIfInBounds_self, if_pos (by rw [b.asize]; exact hdn), hA]
      · simp only [Act.put]
        rw [Array.getElem?_setIfInBounds_ne hdt]
        refine b.agree t fun i oi hi hir hl => ?_
        by_cases hij : j = i
        · subst hij
          obtain rfl : o = oi := by rw [ho] at hi; exact Option.some.inj hi
          rw [hod]
          intro e; exact hdt (Option.some.inj e)
        · exact ht i oi hi hir (by rw [getD_set hij]; exact hl)
  · cases hod : o.dst <;> simp [Act.put, b.asize]
  · cases hod : o.dst <;> simp [Act.put, b.defers]
  · refine b.keeps.trans (Keeps.put a v fun d hd' => ?_)
    have : ∀ l : List Oper, o ∈ l → d ∈ writesOps l := by
      intro l
      induction l with
      | nil => intro h; cases h
      | cons x r ih =>
        intro h
        simp only [writesOps, List.mem_append]
        rcases List.mem_cons.1 h with rfl | h
        · rw [hd']; exact .inl (by simp [optL])
        · exact .inr (ih h)
    exact this all (List.mem_of_getElem? ho)

/-- An operation of the plan that writes is done. -/
theorem Inv.world {L : Array Bool} {a A : Act} {w w' : World} {rem fl fl' : List Nat} {env env' : Env} {i : Nat} {o : Oper} {v : Value} (b : Inv P n all a0 w0 L a A w rem fl env)
    (ho : all[i]? = some o) (hi : i ∈ rem) (hself : selfOk all i = true) (hpair : ∀ j ∈ delN i rem, PairOk all i j)
    (hall : ∀ e ∈ o.after, Region.binds .any e = true → L.getD e.on false = true) (hm : Mdl n env' (A.put o.dst v)) (hs' : Same w w')
    (hre : ∀ j oj u, all[j]? = some oj → j ∉ rem → L.getD j false = false → j ∈ fl → (∀ d, oj.dst = some d → (A.put o.dst v).tmps[d]? = some u) → RunsTo P (A.put o.dst v) oj w.heap u → j ∈ fl' ∧ RunsTo P (A.put o.dst v) oj w'.heap u) :
    Inv P n all a0 w0 (L.setIfInBounds i true) (a.put o.dst v) (A.put o.dst v) w' (delN i rem) fl' env' := by
  have hil := (b.remU i hi).1
  have cases_ : ∀ j, j < all.length → j ∉ delN i rem → j = i ∨ j ∉ rem := by
    intro j _ hj
    by_cases e : j = i
    · exact .inl e
    · exact .inr fun hm => hj (mem_delN.2 ⟨hm, e⟩)
  have hset : (L.setIfInBounds i true).getD i false = true := getD_set_self (by rw [b.size]; exact hil) _
  refine ⟨by simp [b.size], b.closed.set ho hall, ?_, ?_, ?_, ?_, ?_, ?_, ?_, ?_, hm, b.same.trans hs', ?_, ?hard⟩
  case hard =>
    intro j oj hoj hjn hh
    rcases cases_ j (lt_of_get hoj) hjn with rfl | hjr
    · exact hset
    · have hij : i ≠ j := fun e => hjr (e ▸ hi)
      rw [getD_set hij]; exact b.hard j oj hoj hjr hh
  · intro j hj
    obtain ⟨h1, h2⟩ := mem_delN.1 hj
    exact ⟨(b.remU j h1).1, by rw [getD_set (Ne.symm h2)]; exact (b.remU j h1).2⟩
  · intro j hj hjn
    rcases cases_ j hj hjn with rfl | hjr
    · exact .inl hset
    · have hij : i ≠ j := fun e => hjr (e ▸ hi)
      rw [getD_set hij]
      cases hl : L.getD j false with
      | true => exact .inl rfl
      | false =>
        rcases b.gone j hj hjr with h | h
        · rw [hl] at h; cases h
        · exact .inr (h.step ho (b.pairs j hj hjr i hi) (fun _ hr => by have := reachM_spec b.closed ho hr hall; rw [hl] at this; cases this) (.inr fun oj u hoj hjf hd hr => hre j oj u hoj hjr hl hjf hd hr))
  · intro j hj hjn k hk
    rcases cases_ j hj hjn with rfl | hjr
    · exact hpair k hk
    · exact b.pairs j hj hjr k (mem_delN.1 hk).1
  · intro j hj hjn
    rcases cases_ j hj hjn with rfl | hjr
    · exact hself
    · exact b.self j hj hjr
  · intro j k hj hk hjn hkn hne
    rcases cases_ j hj hjn with rfl | hjr <;> rcases cases_ k hk hkn with rfl | hkr
    · exact absurd rfl hne
    · exact .inr (b.pairs k hk hkr _ hi)
    · exact .inl (b.pairs j hj hjr _ hi)
    · exact b.gg j k hj hk hjr hkr hne
  · intro t ht
    have hold : a.tmps[t]? = A.tmps[t]? := by
      refine b.agree t fun j oj hj hjr hl => ?_
      have hij : i ≠ j := fun e => hjr (e ▸ hi)
      exact ht j oj hj (fun hm => hjr (mem_delN.1 hm).1) (by rw [getD_set hij]; exact hl)
    cases hod : o.dst with
    | none => exact hold
    | some d =>
      simp only [Act.put]
      by_cases hdt : d = t
      · subst hdt
        rw [Array.getElem?_setIfInBounds_self, Array.getElem?_setIfInBounds_self, b.asize, b.mdl.size]
      · rw [Array.getElem?_setIfInBounds_ne hdt, Array.getElem?_setIfInBounds_ne hdt]
        exact hold
  · cases hod : o.dst <;> simp [Act.put, b.asize]
  · cases hod : o.dst <;> simp [Act.put, b.defers]
  · refine b.keeps.trans (Keeps.put a v fun d hd' => ?_)
    have : ∀ l : List Oper, o ∈ l → d ∈ writesOps l := by
      intro l
      induction l with
      | nil => intro h; cases h
      | cons x r ih =>
        intro h
        simp only [writesOps, List.mem_append]
        rcases List.mem_cons.1 h with rfl | h
        · rw [hd']; exact .inl (by simp [optL])
        · exact .inr (ih h)
    exact this all (List.mem_of_getElem? ho)

theorem runsTo_of_oq {A : Act} {env : Env} {o : Oper} {h : Hp} {K : Value → Prop} (m : Mdl n env A) (hkn : known env o.op = true) (hk : oq P o.op (ev env) h K) :
    ∃ v, K v ∧ RunsTo P A o h v ∧ (pureV o.op (ev env) = true → ∀ h', RunsTo P A o h' v) := by
  have key : ∀ {h : Hp} {K : Value → Prop}, oq P o.op (ev env) h K → ∃ v, K v ∧ RunsTo P A o h v := by
    intro h K hk
    obtain ⟨nx, ⟨v, rfl, hv⟩, hr⟩ := hq_run _ _ _ (sound_oq (o := o) rfl hk)
    refine ⟨v, hv, fun w hw => ?_⟩
    rw [m.execOp hkn]
    exact hr w hw
  by_cases hp : pureV o.op (ev env) = true
  · obtain ⟨v, hv, hall⟩ := oq_det hp hk
    have all' : ∀ h', RunsTo P A o h' v := by
      intro h'
      obtain ⟨u, hu, hr⟩ := key (hall h' (fun u => u = v) rfl)
      subst hu
      exact hr
    exact ⟨v, hv, all' h, fun _ => all'⟩
  · obtain ⟨v, hv, hr⟩ := key hk
    exact ⟨v, hv, hr, fun h => absurd h hp⟩

/-- The plan goes on to an operation that is ready: it is done, or next among those that write. -/
theorem advance {L : Array Bool} {a : Act} {w : World} {j : Nat} {oj : Oper} (hoj : all[j]? = some oj) (hall : ∀ e ∈ oj.after, Region.binds .any e = true → L.getD e.on false = true) :
    ∀ (p : Plan) (A : Act) (rem fl : List Nat) (env : Env), Inv P n all a0 w0 L a A w rem fl env → planB all (masks all []) p true rem = true → sxP P F n all (masks all []) K p fl env w.heap → j ∈ rem →
      ∃ (p' : Plan) (A' : Act) (rem' fl' : List Nat) (env' : Env), Inv P n all a0 w0 L a A' w rem' fl' env' ∧ planB all (masks all []) p' true rem' = true ∧ sxP P F n all (masks all []) K p' fl' env' w.heap ∧ (j ∉ rem' ∨ j ∈ rem' ∧ j ∈ firsts p') := by
  intro p
  induction p with
  | fin =>
    intro A rem fl env b hp hk hj
    unfold planB at hp
    simp only [cond] at hp
    cases rem with
    | nil => cases hj
    | cons => cases hp
  | no => intro A rem fl env b hp hk hj; cases hp
  | wo i r b' ih1 ih2 =>
    intro A rem fl env b hp hk hj
    refine ⟨_, A, rem, fl, env, b, hp, hk, .inr ⟨hj, ?_⟩⟩
    unfold planB at hp
    obtain ⟨h1, h2⟩ := cond_true_of' hp
    have h1 := allL_spec h1 j hj
    cases hm : memN j (i :: firsts b') with
    | true => exact memN_spec hm
    | false =>
      exfalso
      rw [hm] at h1
      obtain ⟨m, hmf, hr⟩ := anyL_spec h1
      have hl := reachM_spec b.closed hoj hr hall
      have hmr : m ∈ rem := by
        have : ∀ (q : Plan) (top : Bool), planB all (masks all []) q top rem = true → ∀ m ∈ firsts q, m ∈ rem := by
          intro q
          induction q with
          | wo i r b' _ ih =>
            intro top hq m hm
            unfold planB at hq
            obtain ⟨_, hq⟩ := cond_true_of' hq
            obtain ⟨hq1, hq⟩ := cond_true_of' hq
            obtain ⟨_, hq⟩ := cond_true_of' hq
            obtain ⟨_, hq⟩ := cond_true_of' hq
            obtain ⟨_, hq⟩ := cond_true_of' hq
            rcases List.mem_cons.1 hm with rfl | hm
            · exact memN_spec hq1
            · exact ih false hq m hm
          | fin => intro _ _ m hm; cases hm
          | no => intro _ _ m hm; cases hm
          | qu _ _ _ => intro _ _ m hm; cases hm
        exact this (.wo i r b') true hp m hmf
      rw [(b.remU m hmr).2] at hl
      cases hl
  | qu i r ih =>
    intro A rem fl env b hp hk hj
    unfold planB at hp
    obtain ⟨_, hp⟩ := cond_true_of' hp
    obtain ⟨h1, hp⟩ := cond_true_of' hp
    obtain ⟨h2, hp⟩ := cond_true_of' hp
    obtain ⟨h3, hp⟩ := cond_true_of' hp
    obtain ⟨h4, h5⟩ := cond_true_of' hp
    have hi := memN_spec h1
    have hpair : ∀ j ∈ delN i rem, PairOk all i j := fun j hj => pairB_spec (allL_spec h4 j hj)
    unfold sxP at hk
    rw [nth_eq] at hk
    split at hk
    · rename_i o ho
      obtain ⟨hs1, hs2, hs3⟩ := selfOk_spec ho h3
      have go : ∀ (v : Value) (fl' : List Nat) (env' : Env), (∀ x ∈ fl, x ∈ fl') → Mdl n env' (A.put o.dst v) → (∀ d, o.dst = some d → d < n) →
          ((Region.wanted o (yielded all.toArray A.tmps) = true ∧ RunsTo P A o w.heap v ∧ ((∀ h', RunsTo P A o h' v) ∨ i ∈ fl')) ∨ (Region.wanted o (yielded all.toArray A.tmps) = false ∧ v = undef)) →
          sxP P F n all (masks all []) K r fl' env' w.heap → ∃ (p' : Plan) (A' : Act) (rem' fl' : List Nat) (env' : Env), Inv P n all a0 w0 L a A' w rem' fl' env' ∧ planB all (masks all []) p' true rem' = true ∧ sxP P F n all (masks all []) K p' fl' env' w.heap ∧ (j ∉ rem' ∨ j ∈ rem' ∧ j ∈ firsts p') := by
        intro v fl' env' hfl hm hd hv hk'
        have hhd : hardOp o.op = false := by
          unfold quietAt at h2
          rw [nth_eq, ho] at h2
          obtain ⟨_, h2⟩ := cond_true_of' h2
          simpa using h2
        have b' := b.quiet ho hi h3 hpair hs3 hhd hfl hm hd hv hs2
        by_cases hji : j = i
        · exact ⟨r, _, _, _, _, b', h5, hk', .inl fun hm => (mem_delN.1 hm).2 hji⟩
        · exact ih _ _ _ _ b' h5 hk' (mem_delN.2 ⟨hj, hji⟩)
      have putd : ∀ {v : Value} {e : Env} {k : Env → Prop}, putE n o.dst v e k → ∀ d, o.dst = some d → d < n := by
        intro v e k hk d hd
        unfold putE at hk
        rw [hd] at hk
        obtain ⟨hd', _⟩ := cond_true_of hk
        exact Nat.le_of_ble_eq_true hd'
      rcases guardV_spec b.mdl hk with ⟨hwt, env1, m1, hk⟩ | ⟨hwt, env1, m1, hk⟩
      · obtain ⟨hkn, hk⟩ := cond_true_of hk
        obtain ⟨v, hv, hr, hpu⟩ := runsTo_of_oq m1 hkn hk
        have hdn := putd hv
        obtain ⟨env2, m2, hv⟩ := putE_spec m1 hv
        refine go v _ env2 ?_ m2 hdn (.inl ⟨hwt, hr, ?_⟩) hv
        · intro x hx
          unfold floatL
          cases pureV o.op (ev env1)
          · exact List.mem_cons_of_mem _ hx
          · exact hx
        · cases hpv : pureV o.op (ev env1) with
          | true => exact .inl (hpu hpv)
          | false => exact .inr List.mem_cons_self
      · have hdn := putd hk
        obtain ⟨env2, m2, hv⟩ := putE_spec m1 hk
        exact go undef _ env2 (fun x hx => hx) m2 hdn (.inr ⟨hwt, rfl⟩) hv
    · exact hk.elim

/-- What is asked of an operation that writes, and of what follows. -/
abbrev woC (P : Program) (F : Nat → Bool) (n : Nat) (all : List Oper) (K : Env → Hp → Prop) (i : Nat) (o : Oper) (r : Plan) (fl : List Nat) (env : Env) (h : Hp) : Prop :=
  guardV all env o.guard
      (fun env => chk (known env o.op) (ot P F o.op o.type (ev env) h fun v h => putE n o.dst v env fun env =>
        rechk P all env h (sxP P F n all (masks all []) K r (keepL (masks all []) i fl) env h) (keepL (masks all []) i fl)))
      (fun env => putE n o.dst undef env fun env => sxP P F n all (masks all []) K r fl env h)

theorem wo_spec {fl : List Nat} {env : Env} {h : Hp} {j : Nat} : ∀ (p : Plan) (top : Bool) (rem : List Nat), planB all (masks all []) p top rem = true → sxP P F n all (masks all []) K p fl env h → j ∈ firsts p →
    ∃ (r : Plan) (o : Oper), all[j]? = some o ∧ selfOk all j = true ∧ (∀ i ∈ delN j rem, PairOk all j i) ∧ planB all (masks all []) r true (delN j rem) = true ∧ woC P F n all K j o r fl env h := by
  intro p
  induction p with
  | wo i r b _ ih =>
    intro top rem hp hk hj
    unfold planB at hp
    obtain ⟨_, hp⟩ := cond_true_of' hp
    obtain ⟨h1, hp⟩ := cond_true_of' hp
    obtain ⟨h2, hp⟩ := cond_true_of' hp
    obtain ⟨h3, hp⟩ := cond_true_of' hp
    obtain ⟨h4, h5⟩ := cond_true_of' hp
    unfold sxP at hk
    have hk1 : ∀ {X Y : Prop}, alsoB b X Y → X := by intro X Y h; unfold alsoB at h; split at h; exact h; exact h.1
    rcases List.mem_cons.1 hj with rfl | hj
    · have hk := hk1 hk
      rw [nth_eq] at hk
      split at hk
      · rename_i o ho
        exact ⟨r, o, ho, h2, fun i hi => pairB_spec (allL_spec h3 i hi), h4, hk⟩
      · exact hk.elim
    · have hk2 : ∀ {X Y : Prop}, alsoB b X Y → Y := by
        intro X Y h
        unfold alsoB at h
        split at h
        · cases hj
        · exact h.2
      exact ih false rem h5 (hk2 hk) hj
  | fin => intro _ _ _ _ hj; cases hj
  | no => intro _ _ _ _ hj; cases hj
  | qu _ _ _ => intro _ _ _ _ hj; cases hj

theorem rechk_spec {env : Env} {h : Hp} {X : Prop} : ∀ {l : List Nat}, rechk P all env h X l → X ∧ ∀ i ∈ l, ∃ o, all[i]? = some o ∧ known env o.op = true ∧ oq P o.op (ev env) h (eqD env o.dst)
  | [], hk => ⟨hk, fun i hi => by cases hi⟩
  | i :: r, hk => by
    unfold rechk at hk
    obtain ⟨h1, h2⟩ := hk
    obtain ⟨hX, hr⟩ := rechk_spec h2
    refine ⟨hX, fun k hk => ?_⟩
    rcases List.mem_cons.1 hk with rfl | hk
    · rw [nth_eq] at h1
      split at h1
      · rename_i o ho
        obtain ⟨h3, h4⟩ := cond_true_of h1
        exact ⟨o, ho, h3, h4⟩
      · exact h1.elim
    · exact hr k hk

theorem filter_lt {p q : Nat → Bool} {j : Nat} : ∀ {l : List Nat}, (∀ i, q i = true → p i = true) → j ∈ l → p j = true → q j = false → (l.filter q).length < (l.filter p).length
  | [], _, h, _, _ => by cases h
  | i :: r, hpq, hj, hp, hq => by
    have mono : ∀ l : List Nat, (l.filter q).length ≤ (l.filter p).length := by
      intro l
      induction l with
      | nil => exact Nat.le_refl _
      | cons x l ih =>
        simp only [List.filter_cons]
        cases hqx : q x with
        | true => rw [hpq x hqx]; simp; exact ih
        | false => cases p x <;> simp <;> omega
    rcases List.mem_cons.1 hj with rfl | hj
    · simp only [List.filter_cons, hp, hq, if_true, List.length_cons]
      have := mono r
      simp; omega
    · have ih := filter_lt (l := r) hpq hj hp hq
      simp only [List.filter_cons]
      cases hqi : q i with
      | true => rw [hpq i hqi]; simp; exact ih
      | false => cases p i <;> simp <;> omega

/-- How many operations are not yet listed. -/
def unl (all : List Oper) (L : Array Bool) : Nat := ((List.range all.length).filter fun i => !L.getD i false).length
theorem unl_set {L : Array Bool} {j : Nat} (hL : L.size = all.length) (hj : j < all.length) (hl : L.getD j false = false) : unl all (L.setIfInBounds j true) < unl all L := by
  unfold unl
  refine filter_lt (j := j) (fun i hi => ?_) (List.mem_range.2 hj) (by rw [hl]; rfl) (by rw [getD_set_self (by rw [hL]; exact hj)]; rfl)
  by_cases hij : j = i
  · subst hij; rw [hl]; rfl
  · rwa [getD_set hij] at hi

theorem wpAny_plan (hF : ∀ g, F g = true → Callable P g) (topo : ∀ j o, all[j]? = some o → ∀ e ∈ o.after, Region.binds .any e = true → e.on < j) : ∀ (fuel : Nat) (L : Array Bool) (a A : Act) (w : World) (p : Plan) (rem fl : List Nat) (env : Env),
    unl all L ≤ fuel → Inv P n all a0 w0 L a A w rem fl env → planB all (masks all []) p true rem = true → sxP P F n all (masks all []) K p fl env w.heap →
    wpAny P .any all.toArray (Post n (writesOps all) a0 w0 fun e env h => e = .normal ∧ K env h) fuel L a w := by
  intro fuel
  induction fuel with
  | zero =>
    intro L a A w p rem fl env hu b hp hk
    have hall : ∀ i, i < all.length → L.getD i false = true := by
      intro i hi
      cases hl : L.getD i false with
      | true => rfl
      | false => have := unl_set b.size hi hl; omega
    refine ⟨?_, ?_⟩
    · refine List.eq_nil_iff_forall_not_mem.2 fun j hj => ?_
      obtain ⟨h1, o, ho, _⟩ := mem_ready'.1 hj
      have ho' : all[j]? = some o := by simpa using ho
      have hjl := lt_of_get ho'
      have h2 := hall j hjl
      have hsz : j < L.size := by rw [b.size]; exact hjl
      rw [Array.getD_eq_getD_getElem?, Array.getElem?_eq_getElem hsz] at h1 h2
      simp at h1 h2
      rw [h1] at h2
      cases h2
    · have hrem : rem = [] := by
        cases rem with
        | nil => rfl
        | cons i r =>
          obtain ⟨h1, h2⟩ := b.remU i List.mem_cons_self
          rw [hall i h1] at h2
          cases h2
      subst hrem
      have hfin : p = .fin := by
        cases p with
        | fin => rfl
        | no => cases hp
        | qu i r => unfold planB at hp; obtain ⟨_, hp⟩ := cond_true_of' hp; obtain ⟨h1, _⟩ := cond_true_of' hp; cases h1
        | wo i r b => unfold planB at hp; obtain ⟨_, hp⟩ := cond_true_of' hp; obtain ⟨h1, _⟩ := cond_true_of' hp; cases h1
      subst hfin
      have hag : ∀ t, a.tmps[t]? = A.tmps[t]? := fun t => b.agree t fun i oi hi _ hl => by rw [hall i (lt_of_get hi)] at hl; cases hl
      exact ⟨env, ⟨b.asize, b.defers, fun i v hv => by rw [hag]; exact b.mdl.get i v hv⟩, b.same, b.keeps, rfl, hk⟩
  | succ fuel ih =>
    intro L a A w p rem fl env hu b hp hk
    refine ⟨fun hr => ?_, fun j hj => ?_⟩
    · have hall : ∀ i, i < all.length → L.getD i false = true := by
        intro i
        induction i using Nat.strongRecOn with
        | _ i ihh =>
          intro hi
          cases hl : L.getD i false with
          | true => rfl
          | false =>
            exfalso
            have : i ∈ Region.ready .any all.toArray L := by
              refine mem_ready'.2 ⟨?_, all[i], by simp [hi], fun e he hb => ?_⟩
              · have hsz : i < L.size := by rw [b.size]; exact hi
                rw [Array.getD_eq_getD_getElem?, Array.getElem?_eq_getElem hsz] at hl ⊢
                exact hl
              · have := topo i _ (List.getElem?_eq_getElem hi) e he hb
                exact ihh e.on this (by omega)
            rw [hr] at this
            cases this
      have hz : unl all L = 0 := by
        unfold unl
        rw [List.length_eq_zero_iff, List.filter_eq_nil_iff]
        intro i hi
        rw [hall i (List.mem_range.1 hi)]
        simp
      have hrem : rem = [] := by
        cases rem with
        | nil => rfl
        | cons i r =>
          obtain ⟨h1, h2⟩ := b.remU i List.mem_cons_self
          rw [hall i h1] at h2
          cases h2
      subst hrem
      have hfin : p = .fin := by
        cases p with
        | fin => rfl
        | no => cases hp
        | qu i r => unfold planB at hp; obtain ⟨_, hp⟩ := cond_true_of' hp; obtain ⟨h1, _⟩ := cond_true_of' hp; cases h1
        | wo i r b => unfold planB at hp; obtain ⟨_, hp⟩ := cond_true_of' hp; obtain ⟨h1, _⟩ := cond_true_of' hp; cases h1
      subst hfin
      have hag : ∀ t, a.tmps[t]? = A.tmps[t]? := fun t => b.agree t fun i oi hi _ hl => by rw [hall i (lt_of_get hi)] at hl; cases hl
      exact ⟨env, ⟨b.asize, b.defers, fun i v hv => by rw [hag]; exact b.mdl.get i v hv⟩, b.same, b.keeps, rfl, hk⟩
    · obtain ⟨h1, o, ho, hedge⟩ := mem_ready'.1 hj
      have ho' : all[j]? = some o := by simpa using ho
      have hjl := lt_of_get ho'
      have hl : L.getD j false = false := by
        have hsz : j < L.size := by rw [b.size]; exact hjl
        rw [Array.getD_eq_getD_getElem?, Array.getElem?_eq_getElem hsz] at h1 ⊢
        exact h1
      have hun : unl all (L.setIfInBounds j true) ≤ fuel := by have := unl_set b.size hjl hl; omega
      -- what was pending
      have late : ∀ (A : Act) (p : Plan) (rem fl : List Nat) (env : Env), Inv P n all a0 w0 L a A w rem fl env → planB all (masks all []) p true rem = true → sxP P F n all (masks all []) K p fl env w.heap → j ∉ rem →
          wpOp P all.toArray (Post n (writesOps all) a0 w0 fun e env h => e = .normal ∧ K env h) j (wpAny P .any all.toArray (Post n (writesOps all) a0 w0 fun e env h => e = .normal ∧ K env h) fuel (L.setIfInBounds j true)) a w := by
        intro A p rem fl env b hp hk hjr
        obtain ⟨_, hs2, hs3⟩ := selfOk_spec ho' (b.self j hjl hjr)
        have hlk := looks_eval (all := all) (a := a) (A := A) hs3 (b.looks ho' hedge fun _ => hs2)
        rcases b.gone j hjl hjr with h | ⟨o2, v, ho2, _, hd, hv⟩
        · rw [hl] at h; cases h
        obtain rfl : o = o2 := by rw [ho'] at ho2; exact Option.some.inj ho2
        have b' := b.late ho' hjr hedge hd
        have next := ih (L.setIfInBounds j true) (a.put o.dst v) A w p rem fl env hun b' hp hk
        unfold wpOp
        rw [ho]
        simp only []
        rw [hlk.2]
        rcases hv with ⟨hw, hr, _⟩ | ⟨hw, rfl⟩
        · rw [if_pos hw]
          refine .inl ?_
          unfold Oper.wp
          rw [hlk.1, hr w rfl]
          exact next
        · rw [if_neg (by rw [hw]; simp)]
          exact next
      by_cases hjr : j ∈ rem
      · obtain ⟨p', A', rem', fl', env', b', hp', hk', hor⟩ := advance ho' hedge p A rem fl env b hp hk hjr
        rcases hor with hor | ⟨hjr', hjf⟩
        · exact late A' p' rem' fl' env' b' hp' hk' hor
        · obtain ⟨r, o2, ho2, hself, hpair, hpr, hC⟩ := wo_spec p' true rem' hp' hk' hjf
          obtain rfl : o = o2 := by rw [ho'] at ho2; exact Option.some.inj ho2
          obtain ⟨_, hs2, hs3⟩ := selfOk_spec ho' hself
          have hlk := looks_eval (all := all) (a := a) (A := A') hs3 (b'.looks ho' hedge fun hn => absurd hjr' hn)
          unfold wpOp
          rw [ho]
          simp only []
          rw [hlk.2]
          rcases guardV_spec b'.mdl hC with ⟨hwt, env1, m1, hC⟩ | ⟨hwt, env1, m1, hC⟩
          · obtain ⟨hkn, hC⟩ := cond_true_of hC
            rw [if_pos hwt]
            refine .inl ?_
            have h1 := sound_ot hF (o := o) rfl hC
            rw [← m1.execOp hkn, ← hlk.1] at h1
            refine wp_of_hw h1 fun v w' hs hv => ?_
            obtain ⟨env2, m2, hv⟩ := putE_spec m1 hv
            obtain ⟨hX, hre⟩ := rechk_spec hv
            refine ih _ _ (A'.put o.dst v) w' r (delN j rem') (keepL (masks all []) j fl') env2 hun (b'.world ho' hjr' hself hpair hedge m2 hs ?_) hpr hX
            intro i oi u hoi hir hil hif hd _
            have hk : i ∈ keepL (masks all []) j fl' := by
              refine mem_keepL.2 ⟨hif, ?_⟩
              cases hrm : reachM (masks all []) j i with
              | false => rfl
              | true =>
                have := reachM_spec b'.closed ho' hrm hedge
                rw [hil] at this
                cases this
            refine ⟨hk, ?_⟩
            obtain ⟨oi', hoi', hkn', hoq⟩ := hre i hk
            obtain rfl : oi' = oi := by rw [hoi'] at hoi; exact Option.some.inj hoi
            obtain ⟨v2, hv2, hr2, _⟩ := runsTo_of_oq m2 hkn' hoq
            unfold eqD at hv2
            split at hv2
            · rename_i d hdd
              split at hv2
              · rename_i u2 hu2
                have h5 := m2.get d _ hu2
                rw [hd d hdd] at h5
                subst hv2
                rw [Option.some.inj h5]; exact hr2
              · exact hv2.elim
            · exact hv2.elim
          · rw [if_neg (by rw [hwt]; simp)]
            obtain ⟨env2, m2, hv⟩ := putE_spec m1 hC
            exact ih _ _ (A'.put o.dst undef) w r (delN j rem') fl' env2 hun (b'.world ho' hjr' hself hpair hedge m2 (Same.refl w) (fun _ _ _ _ _ _ hjf _ hr => ⟨hjf, hr⟩)) hpr hv
      · exact late A p rem fl env b hp hk hjr
end
end Go.Sx
