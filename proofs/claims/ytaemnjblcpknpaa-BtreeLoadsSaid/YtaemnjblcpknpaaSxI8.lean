/- Equality of structs and arrays whose parts are numbers, bools or strings. -/
import Derived.Test.YtaemnjblcpknpaaSxI7
namespace Go.Sx
open Go
section
variable {P : Program}
abbrev scalEq (P : Program) (t : TypeId) (x y : Value) : Option Bool :=
  match P.underlying t, x, y with
  | some (.int _), .int k a, .int k' b => (match Nat.beq (kNum k) (kNum k') with | true => some (decide (a = b)) | false => none)
  | some .bool, .bool a, .bool b => some (a == b)
  | some .string, .string a, .string b => some (a == b)
  | _, _, _ => none
theorem scalEq_spec {t : TypeId} {x y : Value} {b : Bool} {d : Nat} {h : Hp} {K : Bool → Prop} (hs : scalEq P t x y = some b) (hk : K b) : hq P (Op.equalIn (d + 1) t x y) h K := by
  unfold Op.equalIn
  rw [hq_bind', hq_underlying]
  unfold scalEq at hs
  split at hs
  · rename_i u k a k' b' hu
    rw [hu]
    split at hs
    · rename_i hkk
      cases hs
      have := kNum_inj hkk
      subst this
      simp only [if_true, hq_pure']
      have e : (a == b') = decide (a = b') := by
        by_cases h : a = b'
        · subst h; simp
        · simp [h]
      rw [e]; exact hk
    · cases hs
  · rename_i a b' hu
    rw [hu]
    cases hs
    exact hk
  · rename_i a b' hu
    rw [hu]
    cases hs
    exact hk
  · cases hs
theorem hq_isAggF {t : TypeId} {h : Hp} {K : Bool → Prop} (ha : isAggT P t = some false) (hk : K false) : hq P (isAgg t) h K := by
  unfold isAgg
  rw [hq_bind', hq_underlying]
  unfold isAggT at ha
  cases hu : P.underlying t with
  | none => rw [hu] at ha; cases ha
  | some d => rw [hu] at ha; cases d <;> first | exact hk | cases ha
theorem scal_notAgg {t : TypeId} {x y : Value} {b : Bool} (hs : scalEq P t x y = some b) : isAggT P t = some false := by
  unfold scalEq at hs
  unfold isAggT
  split at hs
  · rename_i hu; rw [hu]
  · rename_i hu; rw [hu]
  · rename_i hu; rw [hu]
  · cases hs
abbrev fieldsEq (P : Program) (xs ys : List Value) : List Field → Option Bool
  | [] => some true
  | f :: fs => match f.name == "_" with
    | true => fieldsEq P xs ys fs
    | false => match nth xs f.offset, nth ys f.offset with
      | some x, some y => (match scalEq P f.type x y, fieldsEq P xs ys fs with | some a, some b => some (a && b) | _, _ => none)
      | _, _ => none
theorem hq_part {t : TypeId} {cs : Array Value} {off : Nat} {v : Value} {h : Hp} {K : Value → Prop} (ha : isAggT P t = some false) (hv : nth cs.toList off = some v) (hk : K v) : hq P (part t cs off) h K := by
  unfold part
  rw [hq_bind']
  refine hq_isAggF ha ?_
  simp only [Bool.false_eq_true, if_false]
  rw [nth_eq, Array.getElem?_toList] at hv
  rw [hv]
  exact hk
theorem loop_eq {α : Type} {h : Hp} {body : α → Option Bool × Unit → Sem (ForInStep (Option Bool × Unit))} {val : α → Option Bool}
    (hb : ∀ f a s (K : ForInStep (Option Bool × Unit) → Prop), val f = some a → (a = true → K (.yield (none, ()))) → (a = false → K (.done (some false, ()))) → hq P (body f s) h K) :
    ∀ (l : List α) (b : Bool) (K : Option Bool × Unit → Prop), (l.mapM val).map (fun l => l.all id) = some b → (b = true → K (none, ())) → (b = false → K (some false, ())) → hq P (forIn l (none, ()) body) h K
  | [], b, K, hv, h1, _ => by
    have : b = true := by simpa using hv.symm
    exact h1 this
  | f :: l, b, K, hv, h1, h2 => by
    simp only [List.forIn_cons, hq_bind']
    cases hf : val f with
    | none => simp [List.mapM_cons, hf] at hv
    | some a =>
      cases hl : l.mapM val with
      | none => simp [List.mapM_cons, hf, hl] at hv
      | some bs =>
        simp [List.mapM_cons, hf, hl] at hv
        refine hb f a _ _ hf (fun ha => ?_) (fun ha => ?_)
        · subst ha
          refine loop_eq hb l (bs.all id) K (by rw [hl]; rfl) (fun h => h1 (by rw [← hv]; simpa using h)) (fun h => h2 ?_)
          rw [← hv]
          simpa using h
        · subst ha
          exact h2 (by simpa using hv.symm)
abbrev fieldVal (P : Program) (xs ys : List Value) (f : Field) : Option Bool :=
  match f.name == "_" with
  | true => some true
  | false => match nth xs f.offset, nth ys f.offset with
    | some x, some y => scalEq P f.type x y
    | _, _ => none
theorem equal_struct {t : TypeId} {fs : Array Field} {xs ys : List Value} {b : Bool} {d : Nat} {h : Hp} {K : Bool → Prop} (hu : P.underlying t = some (.struct fs)) (hst : P.stoodInHeld t = false) (he : (fs.toList.mapM (fieldVal P xs ys)).map (fun l => l.all id) = some b) (hk : K b) :
    hq P (Op.equalIn (d + 2) t (.agg xs.toArray) (.agg ys.toArray)) h K := by
  unfold Op.equalIn
  rw [hq_bind', hq_underlying, hu]
  simp only [program, hq_bind', hq, hst, Bool.false_eq_true, if_false]
  have e : ∀ (b : Option Bool × Unit) (f : Field → Option Bool × Unit → Sem (ForInStep (Option Bool × Unit))), forIn fs b f = forIn fs.toList b f := fun b f => by simp
  rw [e]
  refine loop_eq (val := fieldVal P xs ys) (fun f a s K' hv h1 h2 => ?_) _ b _ he (fun hb => ?_) (fun hb => ?_)
  · unfold fieldVal at hv
    split at hv
    · rename_i hn
      have hn' : f.name = "_" := by simpa using hn
      cases hv
      rw [if_neg (by simpa using hn')]
      exact h1 rfl
    · rename_i hn
      have hn' : f.name ≠ "_" := by simpa using hn
      split at hv
      · rename_i x y hx hy
        rw [if_pos hn']
        have hag := scal_notAgg hv
        simp only [hq_bind']
        refine hq_part hag hx (hq_part hag hy (scalEq_spec hv ?_))
        cases a with
        | true => exact h1 rfl
        | false => exact h2 rfl
      · cases hv
  · subst hb; exact hk
  · subst hb; exact hk
abbrev elemVal (P : Program) (e : TypeId) (xs ys : List Value) (i : Nat) : Option Bool :=
  match nth xs i, nth ys i with
  | some x, some y => scalEq P e x y
  | _, _ => none
theorem equal_array {t e : TypeId} {n : Nat} {xs ys : List Value} {b : Bool} {d : Nat} {h : Hp} {K : Bool → Prop} (hu : P.underlying t = some (.array n e)) (hsz : sizeOfT P e = 1) (he : ((List.range n).mapM (elemVal P e xs ys)).map (fun l => l.all id) = some b) (hk : K b) :
    hq P (Op.equalIn (d + 2) t (.agg xs.toArray) (.agg ys.toArray)) h K := by
  unfold Op.equalIn
  rw [hq_bind', hq_underlying, hu]
  obtain ⟨inf, hinf, hs1⟩ : ∃ inf, P.info? e = some inf ∧ inf.size = 1 := by
    unfold sizeOfT at hsz
    split at hsz
    · rename_i i hi; exact ⟨i, hi, hsz⟩
    · cases hsz
  simp only [sizeOf_hq, hq_bind', hinf, hs1, Nat.mul_one]
  rw [Std.Legacy.Range.forIn_eq_forIn_range']
  have e1 : List.range' 0 (Std.Legacy.Range.size [:n]) 1 = List.range n := by simp [Std.Legacy.Range.size, List.range_eq_range']
  rw [show List.range' ([:n] : Std.Legacy.Range).start ([:n] : Std.Legacy.Range).size ([:n] : Std.Legacy.Range).step = List.range n from e1]
  refine loop_eq (val := elemVal P e xs ys) (fun i a s K' hv h1 h2 => ?_) _ b _ he (fun hb => ?_) (fun hb => ?_)
  · unfold elemVal at hv
    split at hv
    · rename_i x y hx hy
      have hag := scal_notAgg hv
      simp only [hq_bind']
      refine hq_part hag hx (hq_part hag hy (scalEq_spec hv ?_))
      cases a with
      | true => exact h1 rfl
      | false => exact h2 rfl
    · cases hv
  · subst hb; exact hk
  · subst hb; exact hk
theorem eqC_of {op : BinOp} {t : TypeId} {xo yo : Operand} {xs ys : List Value} {h : Hp} {b : Bool} (hg : P.eqGuardType P.depth t = false) (he : ∀ K : Bool → Prop, K b → hq P (Op.equal t (.agg xs.toArray) (.agg ys.toArray)) h K) :
    (op = .eql → eqC P op t xo yo (.agg xs.toArray) (.agg ys.toArray) h b) ∧ (op = .neq → eqC P op t xo yo (.agg xs.toArray) (.agg ys.toArray) h (!b)) := by
  have hgu : (op = .eql ∨ op = .neq) → ∀ K : Unit → Prop, K () → hq P (eqGuard op t xo yo (.agg xs.toArray) (.agg ys.toArray)) h K := by
    intro ho K hK
    unfold eqGuard
    rcases ho with rfl | rfl
    all_goals
      simp only [Bool.not_true, Bool.false_eq_true, if_false, program, hq_bind', hq, hg, Bool.not_false, if_true]
      exact hK
  constructor
  · rintro rfl
    unfold eqC
    rw [hq_bind']
    refine hgu (.inl rfl) _ ?_
    show hq P (do pure (Value.bool (← Op.equal t _ _)) : Sem Value) h _
    rw [hq_bind']
    exact he _ rfl
  · rintro rfl
    unfold eqC
    rw [hq_bind']
    refine hgu (.inr rfl) _ ?_
    show hq P (do pure (Value.bool (!(← Op.equal t _ _))) : Sem Value) h _
    rw [hq_bind']
    exact he _ rfl
theorem eqC_array {op : BinOp} {t e : TypeId} {n : Nat} {xo yo : Operand} {xs ys : List Value} {h : Hp} {b : Bool} (hg : P.eqGuardType P.depth t = false) (hu : P.underlying t = some (.array n e)) (hsz : sizeOfT P e = 1) (he : ((List.range n).mapM (elemVal P e xs ys)).map (fun l => l.all id) = some b) :
    (op = .eql → eqC P op t xo yo (.agg xs.toArray) (.agg ys.toArray) h b) ∧ (op = .neq → eqC P op t xo yo (.agg xs.toArray) (.agg ys.toArray) h (!b)) :=
  eqC_of hg fun _ hK => equal_array (d := 9998) hu hsz he hK
theorem eqC_struct {op : BinOp} {t : TypeId} {fs : Array Field} {xo yo : Operand} {xs ys : List Value} {h : Hp} {b : Bool} (hg : P.eqGuardType P.depth t = false) (hu : P.underlying t = some (.struct fs)) (hst : P.stoodInHeld t = false) (he : (fs.toList.mapM (fieldVal P xs ys)).map (fun l => l.all id) = some b) :
    (op = .eql → eqC P op t xo yo (.agg xs.toArray) (.agg ys.toArray) h b) ∧ (op = .neq → eqC P op t xo yo (.agg xs.toArray) (.agg ys.toArray) h (!b)) :=
  eqC_of hg fun _ hK => equal_struct (d := 9998) hu hst he hK
end
end Go.Sx
