/- The quiet operations' conditions are sound. -/
import Derived.Test.YtaemnjblcpknpaaSxB
import Derived.Laws.Sem
namespace Go.Sx
open Go

section
variable {P : Program}

/-- What a quiet operation hands on. -/
def valK (K : Value → Prop) : Next → Prop := fun n => ∃ v, n = .value v ∧ K v

theorem hq_valueK (s : Sem Value) (h : Hp) (K : Value → Prop) (hs : hq P s h K) : hq P (do pure (.value (← s)) : Sem Next) h (valK K) := by
  rw [hq_bind']
  exact hq_mono s h _ _ (fun a ha => ⟨a, rfl, ha⟩) hs

theorem hq_pureK (v : Value) (h : Hp) (K : Value → Prop) (hk : K v) : hq P (pure (.value v) : Sem Next) h (valK K) := ⟨v, rfl, hk⟩

theorem arith_add {k : IntKind} {n : Int} {K : Value → Prop} (h : arith k n K) : K (.int k (k.wrap n)) := by
  cases k <;> simp only [arith] at h <;> first | exact h | skip
  obtain ⟨⟨h1, h2⟩, h3⟩ := h
  have : IntKind.i64.wrap n = n := by rw [IntKind.wrap_i64]; omega
  rwa [this]

theorem cond_true_of {b : Bool} {X : Prop} (h : chk b X) : b = true ∧ X := by
  cases b
  · exact h.elim
  · exact ⟨rfl, h⟩

theorem sound_int {op : BinOp} {t : TypeId} {xo yo : Operand} {k k' : IntKind} {a b : Int} {h : Hp} {K : Value → Prop} (hk : intV op k k' a b K) :
    hq P (do eqGuard op t xo yo (.int k a) (.int k' b); binOp op t (.int k a) (.int k' b)) h K := by
  rw [hq_bind']
  have hg : eqGuard op t xo yo (.int k a) (.int k' b) = pure () := by unfold eqGuard; split <;> rfl
  rw [hg]
  show hq P (binOp op t (.int k a) (.int k' b)) h K
  cases op
  case shl =>
    obtain ⟨r, ⟨h0, rfl⟩, hr⟩ := hk
    simp only [binOp, Op.shift]
    rw [if_neg (by omega)]
    exact hr
  case shr =>
    obtain ⟨r, ⟨h0, rfl⟩, hr⟩ := hk
    simp only [binOp, Op.shift]
    rw [if_neg (by omega)]
    exact hr
  all_goals
    simp only [intV] at hk
    replace hk := cond_true_of hk
    have hkk := hk.1
    replace hk := hk.2
    replace hkk := kNum_inj hkk
    subst hkk
    simp only [binOp, ne_eq, not_true_eq_false, if_false]
  case add => exact arith_add hk
  case sub => exact arith_add hk
  case mul => exact arith_add hk
  case quo => obtain ⟨r, ⟨h0, rfl⟩, hr⟩ := hk; simp only [Op.intDiv]; rw [if_neg h0]; exact hr
  case rem => obtain ⟨r, ⟨h0, rfl⟩, hr⟩ := hk; simp only [Op.intDiv]; rw [if_neg h0]; exact hr
  case and => obtain ⟨r, rfl, hr⟩ := hk; exact hr
  case or => obtain ⟨r, rfl, hr⟩ := hk; exact hr
  case xor => obtain ⟨r, rfl, hr⟩ := hk; exact hr
  case andNot => obtain ⟨r, rfl, hr⟩ := hk; exact hr
  case eql => exact hk
  case neq => exact hk
  case lss => exact hk
  case leq => exact hk
  case gtr => exact hk
  case geq => exact hk

theorem sound_str {op : BinOp} {t : TypeId} {xo yo : Operand} {a b : ByteArray} {h : Hp} {K : Value → Prop} (hk : strV op a b K) :
    hq P (do eqGuard op t xo yo (.string a) (.string b); binOp op t (.string a) (.string b)) h K := by
  rw [hq_bind']
  have hg : eqGuard op t xo yo (.string a) (.string b) = pure () := by unfold eqGuard; split <;> rfl
  rw [hg]
  show hq P (binOp op t (.string a) (.string b)) h K
  cases op <;> simp only [strV] at hk <;> first | exact hk.elim | skip
  case add =>
    obtain ⟨⟨_, h2⟩, hk⟩ := hk
    have h3 : IntKind.i64.max = 9223372036854775807 := by decide
    simp only [binOp, Op.stringOp]
    rw [if_neg (by rw [h3]; omega)]
    exact hk
  all_goals exact hk

theorem isPtr_spec {t : TypeId} (h : isPtrT P t = true) : ∃ e, P.underlying t = some (.pointer e) := by
  unfold isPtrT at h; split at h <;> first | exact ⟨_, ‹_›⟩ | cases h
theorem isSlice_spec {t : TypeId} (h : isSliceT P t = true) : ∃ e, P.underlying t = some (.slice e) := by
  unfold isSliceT at h; split at h <;> first | exact ⟨_, ‹_›⟩ | cases h
theorem isBool_spec {t : TypeId} (h : isBoolT P t = true) : P.underlying t = some .bool := by
  unfold isBoolT at h; split at h <;> first | assumption | cases h
theorem isString_spec {t : TypeId} (h : isStringT P t = true) : P.underlying t = some .string := by
  unfold isStringT at h; split at h <;> first | assumption | cases h

theorem hq_eql {op : BinOp} {t : TypeId} {xo yo : Operand} {x y : Value} {b : Bool} {h : Hp} {K : Value → Prop}
    (hg : eqGuard op t xo yo x y = pure ())
    (hb : ∀ op, (op = .eql ∨ op = .neq) → binOp op t x y = (match op with | .eql => do pure (.bool (← Op.equal t x y)) | _ => do pure (.bool (!(← Op.equal t x y)))))
    (he : ∀ K : Bool → Prop, K b → hq P (Op.equal t x y) h K) (hk : eqlV op b K) :
    hq P (do eqGuard op t xo yo x y; binOp op t x y) h K := by
  rw [hq_bind', hg]
  show hq P (binOp op t x y) h K
  cases op <;> simp only [eqlV] at hk <;> first | exact hk.elim | skip
  · rw [hb .eql (.inl rfl)]; simp only []; rw [hq_bind']; exact he _ hk
  · rw [hb .neq (.inr rfl)]; simp only []; rw [hq_bind']; exact he _ hk

theorem sound_bin {op : BinOp} {t : TypeId} {xo yo : Operand} {x y : Value} {h : Hp} {K : Value → Prop} (hk : binV P op t xo yo x y h K) :
    hq P (do eqGuard op t xo yo x y; binOp op t x y) h K := by
  unfold binV at hk
  split at hk
  · exact sound_int hk
  · exact sound_str hk
  · obtain ⟨ht, hk⟩ := cond_true_of hk
    have ht := isBool_spec ht
    refine hq_eql (by unfold eqGuard; split <;> rfl) (fun op ho => by rcases ho with rfl | rfl <;> rfl) (fun K hK => ?_) hk
    unfold Op.equal Op.maxDepth Op.equalIn
    rw [hq_bind', hq_underlying, ht]
    exact hK
  · rename_i p
    obtain ⟨ht, hk⟩ := cond_true_of hk
    obtain ⟨e, ht⟩ := isPtr_spec ht
    refine hq_eql (by unfold eqGuard; split <;> rfl) (fun op ho => by rcases ho with rfl | rfl <;> rfl) (fun K hK => ?_) hk
    unfold Op.equal Op.maxDepth Op.equalIn
    rw [hq_bind', hq_underlying, ht]
    cases p <;> exact hK
  · rename_i p _ _ _ _
    obtain ⟨ht, hk⟩ := cond_true_of hk
    obtain ⟨e, ht⟩ := isSlice_spec ht
    refine hq_eql (by unfold eqGuard; split <;> rfl) (fun op ho => by rcases ho with rfl | rfl <;> rfl) (fun K hK => ?_) hk
    unfold Op.equal Op.maxDepth Op.equalIn
    rw [hq_bind', hq_underlying, ht]
    cases p <;> exact hK
  · obtain ⟨b, hb, hk⟩ := hk
    exact hq_mono _ _ _ _ (fun v hv => by rw [hv]; exact hk) hb
  · exact hk

theorem nth_eq {α : Type} : ∀ (l : List α) (n : Nat), nth l n = l[n]?
  | [], _ => rfl
  | x :: _, 0 => rfl
  | _ :: r, n + 1 => by simp [nth, nth_eq r n]

theorem hq_isAgg (t : TypeId) (h : Hp) (K : Bool → Prop) : hq P (isAgg t) h K = (match isAggT P t with | some b => K b | none => False) := by
  unfold isAgg isAggT
  rw [hq_bind', hq_underlying]
  cases hu : P.underlying t with
  | none => rfl
  | some d => cases d <;> rfl

theorem sizeOf_hq (t : TypeId) (h : Hp) (K : Nat → Prop) : hq P (sizeOf t) h K = (match P.info? t with | some i => K i.size | none => False) := by
  unfold sizeOf
  rw [hq_bind', hq_typeInfo]
  cases P.info? t <;> rfl

theorem info_of_underlying {t : TypeId} {d : TypeDesc} (h : P.underlying t = some d) : ∃ i, P.info? t = some i := by
  unfold Program.underlying at h
  cases hi : P.info? t with
  | none => simp [hi] at h
  | some i => exact ⟨i, rfl⟩

theorem info_of_agg {t : TypeId} {b : Bool} (h : isAggT P t = some b) : ∃ i, P.info? t = some i := by
  unfold isAggT at h
  cases hu : P.underlying t with
  | none => simp [hu] at h
  | some d => exact info_of_underlying hu

theorem loadCells_hq (a : Addr) (h : Hp) (K : Array Value → Prop) : ∀ (vs : List Value) (i : Nat) (acc : Array Value), cellsAt h a i vs (K (acc ++ vs.toArray)) → hq P (loadCellsFrom a i vs.length acc) h K
  | [], i, acc, hk => by
    have : acc ++ ([] : List Value).toArray = acc := by simp
    rw [this] at hk
    exact hk
  | v :: vs, i, acc, hk => by
    obtain ⟨hv, hk⟩ := hk
    simp only [List.length_cons, loadCellsFrom]
    rw [hq_bind']
    refine ⟨v, hv, ?_⟩
    refine loadCells_hq a h K vs (i + 1) (acc.push v) ?_
    have : acc.push v ++ vs.toArray = acc ++ (v :: vs).toArray := by apply Array.ext'; simp
    rwa [this]

theorem sound_load {t : TypeId} {a : Addr} {h : Hp} {K : Value → Prop} (hk : loadV P t a h K) : hq P (loadVar t a) h K := by
  unfold loadV at hk
  unfold loadVar
  rw [hq_bind', hq_isAgg]
  split at hk
  · rename_i ha
    rw [ha]
    simp only [if_true]
    obtain ⟨hsz, hk⟩ := cond_true_of hk
    obtain ⟨vs, hl, hk⟩ := ExL.out hk
    obtain ⟨i, hi⟩ := info_of_agg ha
    rw [hq_bind', sizeOf_hq, hi]
    simp only []
    rw [hq_bind']
    unfold loadCells
    have hs : i.size = vs.length := by rw [hl]; have := Nat.eq_of_beq_eq_true hsz; simp only [sizeOfT, hi] at this; exact this.symm
    rw [hs]
    exact loadCells_hq a h _ vs 0 #[] (by simp only [hq_pure', Array.empty_append]; exact hk)
  · rename_i ha
    rw [ha]
    simp only []
    obtain ⟨v, hv, hk⟩ := Ex0.out hk
    exact ⟨v, hv, hk⟩
  · exact hk.elim

theorem fieldOf_spec {s : TypeId} {f : Nat} {fd : Field} (h : fieldOf P s f = some fd) : ∃ fs, P.underlying s = some (.struct fs) ∧ fs[f]? = some fd := by
  unfold fieldOf at h
  split at h
  · rename_i fs hu; exact ⟨fs, hu, by rw [nth_eq] at h; simpa using h⟩
  · cases h

theorem sound_part {t : TypeId} {cs : Array Value} {off : Nat} {h : Hp} {K : Value → Prop} (hk : partV P t cs.toList off K) : hq P (part t cs off) h K := by
  unfold partV at hk
  unfold part
  rw [hq_bind', hq_isAgg]
  split at hk
  · rename_i ha
    rw [ha]
    obtain ⟨i, hi⟩ := info_of_agg ha
    simp only [if_true]
    rw [hq_bind', sizeOf_hq, hi]
    simp only [sizeOfT, hi] at hk
    have : cs.extract off (off + i.size) = ((cs.toList.drop off).take i.size).toArray := by apply Array.ext'; simp
    show K (.agg (cs.extract off (off + i.size)))
    rwa [this]
  · rename_i ha
    rw [ha]
    simp only [nth_eq] at hk
    simp only [Bool.false_eq_true, if_false]
    have : cs.toList[off]? = cs[off]? := by simp
    rw [this] at hk
    cases hc : cs[off]? with
    | none => rw [hc] at hk; exact hk.elim
    | some v => rw [hc] at hk; exact hk
  · exact hk.elim

theorem NN_spec {p : Option Addr} {k : Addr → Prop} (h : NN p k) : ∃ a, p = some a ∧ k a := by
  cases p with
  | none => exact h.elim
  | some a => exact ⟨a, rfl, h⟩

theorem withSize_spec {e e' : TypeId} {sz : Nat} (h : withSize P e = some (e', sz)) : e' = e ∧ ∃ i, P.info? e = some i ∧ i.size = sz := by
  unfold withSize at h; split at h
  · rename_i i hi; simp only [Option.some.injEq, Prod.mk.injEq] at h; obtain ⟨rfl, rfl⟩ := h; exact ⟨rfl, i, hi, rfl⟩
  · cases h
theorem elemT_spec {t e : TypeId} {sz : Nat} (h : elemT P t = some (e, sz)) : P.underlying t = some (.slice e) ∧ ∃ i, P.info? e = some i ∧ i.size = sz := by
  unfold elemT at h; split at h
  · obtain ⟨rfl, hi⟩ := withSize_spec h; exact ⟨by assumption, hi⟩
  · cases h
theorem arrT_spec {t e : TypeId} {n sz : Nat} (h : arrT P t = some (n, e, sz)) : P.underlying t = some (.array n e) ∧ ∃ i, P.info? e = some i ∧ i.size = sz := by
  unfold arrT at h; split at h
  · split at h
    · rename_i r hr
      simp only [Option.some.injEq, Prod.mk.injEq] at h; obtain ⟨rfl, rfl⟩ := h; obtain ⟨rfl, hi⟩ := withSize_spec hr; exact ⟨by assumption, hi⟩
    · cases h
  · cases h

theorem sound_indexAddr {t : TypeId} {x i : Value} {h : Hp} {K : Value → Prop} (hk : indexAddrV P t x i K) : hq P (Instr.indexAt t x i) h K := by
  unfold indexAddrV at hk
  split at hk
  · split at hk
    · split at hk
      · rename_i e sz he
        obtain ⟨hr, hk⟩ := hk
        obtain ⟨a, rfl, hk⟩ := NN_spec hk
        obtain ⟨hu, inf, hinf, rfl⟩ := elemT_spec he
        simp only [Instr.indexAt, asIntOf, hq_bind', hq_pure', hq_underlying, hu, sizeOf_hq, hinf, if_pos hr]
        exact hk
      · exact hk.elim
    · split at hk
      · rename_i n e sz he
        obtain ⟨hr, hk⟩ := hk
        obtain ⟨a, rfl, hk⟩ := NN_spec hk
        obtain ⟨hu, inf, hinf, rfl⟩ := arrT_spec he
        simp only [Instr.indexAt, Instr.sureAddr, asIntOf, hq_bind', hq_pure', hq_underlying, hu, sizeOf_hq, hinf, if_pos hr]
        exact hk
      · exact hk.elim
    · exact hk.elim
  · exact hk.elim

theorem sound_index {t : TypeId} {x i : Value} {h : Hp} {K : Value → Prop} (hk : indexV P t x i K) : hq P (Instr.index t x i) h K := by
  unfold indexV at hk
  split at hk
  · rename_i k i
    split at hk
    · rename_i s
      obtain ⟨ht, ⟨h0, h1⟩, hk⟩ := cond_true_of hk
      have hu := isString_spec ht
      have hb : i.toNat < s.size := by omega
      have hs : s[i.toNat]? = some s[i.toNat] := by simp [hb]
      have hg : s.data.toList.getD i.toNat 0 = s[i.toNat] := by
        have hb' : i.toNat < s.data.size := hb
        simp only [List.getD, Array.getElem?_toList]
        rw [Array.getElem?_eq_getElem hb']
        rfl
      simp only [Instr.index, asIntOf, hq_bind', hq_pure', hq_underlying, hu, if_pos h0, hs]
      rwa [hg] at hk
    · split at hk
      · rename_i n e sz he
        obtain ⟨hr, hk⟩ := hk
        obtain ⟨hu, inf, hinf, rfl⟩ := arrT_spec he
        simp only [Instr.index, asIntOf, hq_bind', hq_pure', hq_underlying, hu, sizeOf_hq, hinf, if_pos hr]
        exact sound_part hk
      · exact hk.elim
    · exact hk.elim
  · exact hk.elim

theorem hq_bound {i : Int} {k : IntKind} {y : Nat} {cd : BoundsCode} {h : Hp} {K : Nat → Prop} (h0 : 0 ≤ i ∧ i ≤ y) (hk : K i.toNat) : hq P (Instr.sliceBound (.int k i) y cd) h K := by
  simp only [Instr.sliceBound, asIntOf, hq_bind', hq_pure', if_pos h0]
  exact hk

theorem optInt_spec {v : Option Value} {d : Int} {k : Int → Prop} (h : optInt v d k) : ∃ i, k i ∧ ((v = none ∧ i = d) ∨ ∃ kd, v = some (.int kd i)) := by
  unfold optInt at h
  split at h
  · exact ⟨d, h, .inl ⟨rfl, rfl⟩⟩
  · rename_i kd i; exact ⟨i, h, .inr ⟨kd, rfl⟩⟩
  · exact h.elim

theorem hq_bounds {isSlice : Bool} {len cap : Nat} {lo hi : Option Value} {a b : Int} {h : Hp} {K : Nat × Nat × Nat → Prop}
    (hb : (hi = none ∧ b = len) ∨ ∃ kd, hi = some (.int kd b)) (ha : (lo = none ∧ a = 0) ∨ ∃ kd, lo = some (.int kd a))
    (h0 : 0 ≤ a) (h1 : a ≤ b) (h2 : b ≤ cap) (hk : K (a.toNat, b.toNat, cap)) : hq P (Instr.sliceBounds isSlice len cap lo hi none) h K := by
  simp only [Instr.sliceBounds, hq_bind', hq_pure']
  rcases hb with ⟨rfl, rfl⟩ | ⟨kd, rfl⟩
  · rcases ha with ⟨rfl, rfl⟩ | ⟨kd', rfl⟩
    · simp only [hq_pure', hq_bind']; exact hk
    · simp only [hq_pure', hq_bind']
      refine hq_bound ⟨h0, h1⟩ ?_
      exact hk
  · rcases ha with ⟨rfl, rfl⟩ | ⟨kd', rfl⟩
    · simp only [hq_pure', hq_bind']
      exact hq_bound ⟨by omega, h2⟩ hk
    · simp only [hq_pure', hq_bind']
      refine hq_bound ⟨by omega, h2⟩ ?_
      exact hq_bound ⟨h0, by omega⟩ hk

theorem subAddr_eq (p : Option Addr) (cap a sz : Nat) : (if cap = a then p else p.map (·.add (a * sz))) = subAddr p cap a sz := rfl

theorem sound_slice {t : TypeId} {x : Value} {lo hi : Option Value} {h : Hp} {K : Value → Prop} (hk : sliceV P t x lo hi K) : hq P (Instr.sliceAt t x lo hi none) h K := by
  unfold sliceV at hk
  split at hk
  · rename_i s
    obtain ⟨ht, hk⟩ := cond_true_of hk
    obtain ⟨b, hk, hb⟩ := optInt_spec hk
    obtain ⟨a, ⟨⟨h0, h1, h2⟩, hk⟩, ha⟩ := optInt_spec hk
    have hu := isString_spec ht
    simp only [Instr.sliceAt, hq_bind', hq_underlying, hu, Instr.slice, Option.isSome_none, Bool.false_eq_true, if_false, hq_pure']
    exact hq_bounds hb ha h0 h1 h2 hk
  · rename_i p len cap
    split at hk
    · rename_i e sz he
      obtain ⟨hu, inf, hinf, rfl⟩ := elemT_spec he
      obtain ⟨b, hk, hb⟩ := optInt_spec hk
      obtain ⟨a, ⟨⟨h0, h1, h2⟩, hk⟩, ha⟩ := optInt_spec hk
      simp only [Instr.sliceAt, hq_bind', hq_underlying, hu, Instr.slice]
      refine hq_bounds hb ha h0 h1 h2 ?_
      simp only [sizeOf_hq, hinf, hq_pure']
      exact hk
    · exact hk.elim
  · rename_i p
    split at hk
    · rename_i n e sz he
      obtain ⟨hu, inf, hinf, rfl⟩ := arrT_spec he
      replace hk := NN_spec hk
      obtain ⟨ad, rfl, hk⟩ := hk
      obtain ⟨b, hk, hb⟩ := optInt_spec hk
      obtain ⟨a, ⟨⟨h0, h1, h2⟩, hk⟩, ha⟩ := optInt_spec hk
      simp only [Instr.sliceAt, hq_bind', hq_underlying, hu, Instr.sureAddr, hq_pure']
      refine hq_bounds hb ha h0 h1 h2 ?_
      simp only [sizeOf_hq, hinf]
      unfold subAddr at hk
      split at hk <;> simp_all
    · exact hk.elim
  · exact hk.elim

theorem sound_len {t : TypeId} {x : Value} {h : Hp} {K : Value → Prop} (tys : Array TypeId) (ty : TypeId) (args : Array Value) (ht : tys[0]? = some t) (hx : args[0]? = some x) (hk : lenV P t x K) :
    hq P (Builtin.len_ tys ty args) h K := by
  unfold lenV at hk
  simp only [Builtin.len_, ht, hx]
  split at hk
  · obtain ⟨hc, hk⟩ := cond_true_of hk
    simp only [hq_bind', hq_underlying, isString_spec hc, hq_pure']
    exact hk
  · obtain ⟨hc, hk⟩ := cond_true_of hk
    obtain ⟨e, hu⟩ := isSlice_spec hc
    simp only [hq_bind', hq_underlying, hu, hq_pure']
    exact hk
  · split at hk
    · rename_i n e sz he
      obtain ⟨hu, _⟩ := arrT_spec he
      simp only [hq_bind', hq_underlying, hu, hq_pure']
      exact hk
    · exact hk.elim
  · exact hk.elim

theorem sound_cap {t : TypeId} {x : Value} {h : Hp} {K : Value → Prop} (tys : Array TypeId) (ty : TypeId) (args : Array Value) (ht : tys[0]? = some t) (hx : args[0]? = some x) (hk : capV P t x K) :
    hq P (Builtin.cap_ tys ty args) h K := by
  unfold capV at hk
  simp only [Builtin.cap_, ht, hx]
  split at hk
  · obtain ⟨hc, hk⟩ := cond_true_of hk
    obtain ⟨e, hu⟩ := isSlice_spec hc
    simp only [hq_bind', hq_underlying, hu, hq_pure']
    exact hk
  · exact hk.elim

theorem sound_un {op : UnOp} {v : Value} {h : Hp} {K : Value → Prop} (hk : unV op v K) : hq P (Op.unary op v) h K := by
  unfold unV at hk
  split at hk
  · exact arith_add hk
  · exact hk
  · obtain ⟨r, rfl, hk⟩ := hk; exact hk
  · exact hk.elim

theorem intKindT_spec {t : TypeId} {k : IntKind} (h : intKindT P t = some k) : P.underlying t = some (.int k) := by
  unfold intKindT at h; split at h
  · simp only [Option.some.injEq] at h; subst h; assumption
  · cases h

theorem sound_conv {s d : TypeId} {v : Value} {h : Hp} {K : Value → Prop} (hk : convV P s d v K) : hq P (convert s d v) h K := by
  unfold convV at hk
  split at hk
  · rename_i ks k kv n h1 h2
    simp only [convert, hq_bind', hq_underlying, intKindT_spec h1, intKindT_spec h2]
    exact arith_add hk
  · rename_i h1 h2
    obtain ⟨hc, hk⟩ := cond_true_of hk
    simp only [Bool.and_eq_true] at hc
    simp only [convert, hq_bind', hq_underlying, isString_spec hc.1, isString_spec hc.2]
    exact hk
  · exact hk.elim


theorem setL_foldl (off : Nat) : ∀ (vs : List Value) (k : Nat) (cells : Array Value),
    ((vs.zipIdx k).foldl (fun cs (c, j) => cs.setIfInBounds (off + j) c) cells).toList = setL cells.toList (off + k) vs
  | [], _, _ => rfl
  | v :: vs, k, cells => by
    simp only [List.zipIdx_cons, List.foldl_cons, setL]
    rw [setL_foldl off vs (k + 1)]
    simp only [Array.toList_setIfInBounds, Nat.add_assoc]

theorem cellsV_spec {v : Value} {k : List Value → Prop} (h : cellsV v k) : k v.cells.toList := by
  unfold cellsV at h
  cases v <;> first | exact h | exact False.elim h

theorem sound_fill {place place' : Nat → Option (Nat × Nat)} (hp : ∀ i, place i = place' i) {K : List Value → Prop} :
    ∀ (parts : List (Nat × Value)) (cells : Array Value), fillV place cells.toList K parts → ∃ cs, Instr.fill place' cells parts = some cs ∧ K cs.toList
  | [], cells, h => ⟨cells, rfl, h⟩
  | (i, v) :: rest, cells, h => by
    unfold fillV at h
    unfold Instr.fill
    rw [← hp i]
    split at h
    · exact h.elim
    · rename_i off size hpl
      rw [hpl]
      simp only []
      have h2 := cellsV_spec h
      obtain ⟨hc, h3⟩ := cond_true_of h2
      simp only [Bool.and_eq_true] at hc
      have e1 := Nat.eq_of_beq_eq_true hc.1
      have e2 := Nat.le_of_ble_eq_true hc.2
      simp only [Array.length_toList] at e1 e2
      rw [if_neg (by simp; omega)]
      have e3 : (v.cells.zipIdx.foldl (fun cs (c, j) => cs.setIfInBounds (off + j) c) cells).toList = setL cells.toList off v.cells.toList := by
        have := setL_foldl off v.cells.toList 0 cells
        rw [← Array.foldl_toList, Array.toList_zipIdx]
        exact this
      rw [← e3] at h3
      exact sound_fill hp rest _ h3

theorem mapM_hq {α β : Type} (g : α → Sem β) (g' : α → β) (h : Hp) : ∀ (l : List α) (K : List β → Prop), (∀ x ∈ l, ∀ K, K (g' x) → hq P (g x) h K) → K (l.map g') → hq P (l.mapM g) h K
  | [], K, _, hk => by simpa [hq_pure'] using hk
  | x :: l, K, hg, hk => by
    simp only [List.mapM_cons, hq_bind']
    refine hg x (by simp) _ ?_
    refine mapM_hq g g' h l _ (fun y hy => hg y (by simp [hy])) ?_
    simpa [hq_pure'] using hk

theorem hasZero_spec {t : TypeId} (h : hasZero P t = true) : ∃ i zs, P.info? t = some i ∧ i.zero = some (.agg zs) ∧ aggCells (zeroOf P t) = zs.toList := by
  unfold hasZero at h
  split at h
  · rename_i i hi
    split at h
    · rename_i zs hz; exact ⟨i, zs, hi, hz, by simp [zeroOf, hi, hz, aggCells]⟩
    · cases h
  · cases h

theorem sound_build {t : TypeId} {parts : Array (Nat × Value)} {h : Hp} {K : Value → Prop} (hk : buildV P t parts.toList K) : hq P (Instr.build t parts) h K := by
  unfold buildV at hk
  split at hk
  · rename_i fs hu
    obtain ⟨hc, hk⟩ := cond_true_of hk
    simp only [Bool.and_eq_true] at hc
    obtain ⟨hc1, hc2⟩ := hc
    obtain ⟨i, zs, hi, hz, he⟩ := hasZero_spec hc2
    rw [he] at hk
    simp only [Instr.build, zeroValue, hq_bind', hq_typeInfo, hi, hz, hq_pure', hq_underlying, hu]
    rw [Array.mapM_eq_mapM_toList, map_eq_pure_bind, hq_bind']
    refine mapM_hq _ (fun f => (f.offset, sizeOfT P f.type)) h fs.toList _ (fun f hf K hK => ?_) ?_
    · have := List.all_eq_true.1 hc1 f hf
      obtain ⟨inf, hinf⟩ := Option.isSome_iff_exists.1 this
      simp only [hq_bind', sizeOf_hq, hinf, hq_pure']
      simpa [sizeOfT, hinf] using hK
    · rw [hq_pure']
      obtain ⟨cs, hf, hk⟩ := sound_fill (place' := fun i => (fs.toList.map (fun f => (f.offset, sizeOfT P f.type))).toArray[i]?) (fun i => by
        rw [nth_eq]; simp; cases fs[i]? <;> rfl) parts.toList zs hk
      simp only [Value.cells]
      rw [hf]
      simpa [hq_pure'] using hk
  · rename_i n e hu
    obtain ⟨hc, hk⟩ := cond_true_of hk
    simp only [Bool.and_eq_true] at hc
    obtain ⟨hc1, hc2⟩ := hc
    obtain ⟨i, zs, hi, hz, he⟩ := hasZero_spec hc2
    obtain ⟨inf, hinf⟩ := Option.isSome_iff_exists.1 hc1
    rw [he] at hk
    simp only [Instr.build, zeroValue, hq_bind', hq_typeInfo, hi, hz, hq_pure', hq_underlying, hu, sizeOf_hq, hinf]
    obtain ⟨cs, hf, hk⟩ := sound_fill (place' := fun i => some (i * inf.size, inf.size)) (fun i => by simp [sizeOfT, hinf]) parts.toList zs hk
    simp only [Value.cells]
    rw [hf]
    simpa [hq_pure'] using hk
  · exact hk.elim

theorem addrV_spec {v : Value} {k : Addr → Prop} (h : addrV v k) : ∃ a, v = .pointer (some a) ∧ k a := by
  unfold addrV at h
  split at h
  · obtain ⟨a, rfl, h⟩ := NN_spec h; exact ⟨a, rfl, h⟩
  · exact h.elim

theorem args_toList (ρ : Operand → Value) (l : Array Operand) : (l.toList.map ρ) = (l.map ρ).toList := by simp

theorem sound_oq {o : Oper} {op : Op} (ho : o.op = op) {ρ : Operand → Value} {h : Hp} {K : Value → Prop} (hk : oq P op ρ h K) : hq P (execOp ρ o) h (valK K) := by
  unfold execOp
  rw [ho]
  unfold oq at hk
  split at hk
  · exact hq_pureK _ h K hk
  · exact hq_pureK _ h K hk
  · rename_i c a b
    simp only []
    unfold pickV at hk
    split at hk
    · rename_i t ht
      simp only [ht, asBool, hq_bind', hq_pure']
      refine ⟨_, rfl, ?_⟩
      split at hk
      · rename_i x y hx hy
        rw [hx, hy]
        cases t <;> exact hk
      · cases t <;> exact hk
    · exact hk.elim
  · rename_i x
    simp only []
    unfold nilV at hk
    split at hk
    · rename_i p hp
      obtain ⟨a, rfl, hk⟩ := NN_spec hk
      rw [hp]
      exact hq_pureK _ h K hk
    · rename_i f x c hp
      rw [hp]
      exact hq_pureK _ h K hk
    · exact hk.elim
  · exact hq_valueK _ h K (sound_bin hk)
  · exact hq_valueK _ h K (sound_un hk)
  · exact hq_valueK _ h K (sound_conv hk)
  · obtain ⟨a, ha, hk⟩ := addrV_spec hk
    refine hq_valueK _ h K ?_
    simp only [ha, Instr.loadAt, Instr.sureAddr, hq_bind', hq_pure']
    exact sound_load hk
  · rename_i s x f
    split at hk
    · rename_i fd hfd
      obtain ⟨fs, hu, hf⟩ := fieldOf_spec hfd
      obtain ⟨hz, hk⟩ := cond_true_of hk
      have hz : Nat.beq (sizeOfT P fd.type) 0 = false := by
        cases hb : Nat.beq (sizeOfT P fd.type) 0 with
        | false => rfl
        | true => rw [hb] at hz; cases hz
      obtain ⟨a, ha, hk⟩ := addrV_spec hk
      refine hq_valueK _ h K ?_
      have hne : sizeOfT P fd.type ≠ 0 := by intro e; rw [e] at hz; cases hz
      have hinf : ∃ i, P.info? fd.type = some i := by
        cases hi : P.info? fd.type with
        | none => simp [sizeOfT, hi] at hne
        | some i => exact ⟨i, rfl⟩
      obtain ⟨inf, hinf⟩ := hinf
      have hne2 : inf.size ≠ 0 := by simpa [sizeOfT, hinf] using hne
      simp only [ha, Instr.fieldAt, Instr.sureAddr, hq_bind', hq_pure', hq_underlying, hu, hf, fieldPlace, sizeOf_hq, hinf, if_neg hne2]
      exact hk
    · exact hk.elim
  · rename_i s x f
    split at hk
    · rename_i fd hfd
      obtain ⟨fs, hu, hf⟩ := fieldOf_spec hfd
      split at hk
      · rename_i cs hcs
        refine hq_valueK _ h K ?_
        simp only [hcs, Instr.field, hq_bind', hq_underlying, hu, hf, asAgg, hq_pure']
        exact sound_part hk
      · exact hk.elim
    · exact hk.elim
  · exact hq_valueK _ h K (sound_indexAddr hk)
  · exact hq_valueK _ h K (sound_index hk)
  · exact hq_valueK _ h K (sound_slice hk)
  · refine hq_valueK _ h K ?_
    obtain ⟨a, l, c, hs, hk⟩ := hk
    exact hq_mono _ _ _ _ (fun v hv => by rw [hv]; exact hk) hs
  · rename_i x i
    refine hq_valueK _ h K ?_
    split at hk
    · rename_i vs hvs
      rw [nth_eq] at hk
      simp only [Array.getElem?_toList] at hk
      simp only [hvs, Instr.extract]
      split at hk
      · rename_i v hv; rw [hv]; exact hk
      · exact hk.elim
    · exact hk.elim
  · rename_i fn first cap
    refine hq_valueK _ h K ?_
    simp only [Instr.makeFunc, hq_pure']
    have e : ∀ l : Array Operand, (l.toList.map ρ).toArray = l.map ρ := fun l => by apply Array.ext'; simp
    rw [e, e] at hk
    exact hk
  · rename_i t parts
    refine hq_valueK _ h K (sound_build ?_)
    simpa using hk
  · rename_i b args tys
    simp only [resolve, invoke, hq_bind', hq_pure']
    unfold quietBuiltin at hk
    split at hk
    · rename_i t _ x _ ht hx
      refine hq_valueK _ h K (sound_len (t := t) (x := x) _ _ _ ?_ ?_ hk)
      · have := congrArg (fun l => l[0]?) ht; simpa using this
      · have := congrArg (fun l => l[0]?) hx; simpa using this
    · rename_i t _ x _ ht hx
      refine hq_valueK _ h K (sound_cap (t := t) (x := x) _ _ _ ?_ ?_ hk)
      · have := congrArg (fun l => l[0]?) ht; simpa using this
      · have := congrArg (fun l => l[0]?) hx; simpa using this
    · rename_i x y hxy
      refine hq_valueK _ h K ?_
      have : (args.map ρ).toList = [x, y] := by rw [← hxy]; simp
      unfold max2V at hk
      split at hk
      · simp only [Builtin.max_, this, List.foldlM_cons, List.foldlM_nil, Builtin.max2, hq_bind', hq_pure']; exact hk
      · exact hk.elim
    · rename_i x y hxy
      refine hq_valueK _ h K ?_
      have : (args.map ρ).toList = [x, y] := by rw [← hxy]; simp
      unfold min2V at hk
      split at hk
      · simp only [Builtin.min_, this, List.foldlM_cons, List.foldlM_nil, Builtin.min2, hq_bind', hq_pure']; exact hk
      · exact hk.elim
    · exact hk.elim
  · exact hk.elim

end
end Go.Sx
