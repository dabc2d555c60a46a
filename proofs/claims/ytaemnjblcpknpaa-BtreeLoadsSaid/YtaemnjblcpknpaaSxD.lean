/- What each operation asks, written out: those that write, make memory or call. -/
import Derived.Test.YtaemnjblcpknpaaSxC
namespace Go.Sx
open Go

def New (h : Hp) (o : Obj) (k : Nat → Hp → Prop) : Prop := k h.size (h.push o)
def Wr (h : Hp) (a : Addr) (v : Value) (k : Hp → Prop) : Prop := Writable h a ∧ k (setH h a v)
abbrev storesV (a : Addr) (k : Hp → Prop) : List Value → Nat → Hp → Prop
  | [], _, h => k h
  | v :: vs, i, h => chk (scalar v) (Wr h (a.add i) v fun h => storesV a k vs (i + 1) h)
abbrev storeV (P : Program) (t : TypeId) (a : Addr) (v : Value) (h : Hp) (k : Hp → Prop) : Prop :=
  match isAggT P t with
  | some true => (match v with | .agg cs => chk (Nat.beq cs.toList.length (sizeOfT P t)) (storesV a k cs.toList 0 h) | _ => False)
  | some false => chk (Nat.beq (sizeOfT P t) 1) (chk (scalar v) (Wr h a v k))
  | none => False
abbrev boxV (e : TypeId) (v : Value) (h : Hp) (K : Value → Hp → Prop) : Prop :=
  cellsV v fun cs => New h (.cells cs.toArray e) fun b h => K (.pointer (some ⟨b, 0, none⟩)) h
abbrev zeroV (P : Program) (t : TypeId) (k : Value → Prop) : Prop := match P.info? t with | some i => (match i.zero with | some z => k z | none => False) | none => False
def repL (n : Nat) (zs : List Value) : List Value := (List.range n).map fun i => (nth zs (i % zs.length)).getD default
abbrev buildSliceV (P : Program) (t : TypeId) (len : Nat) (parts : List (Nat × Value)) (h : Hp) (K : Value → Hp → Prop) : Prop :=
  match elemT P t with
  | some (e, sz) => chk (Nat.ble (len * sz) 16777216) (zeroV P e fun z => cellsV z fun zs =>
      fillV (fun i => some (i * sz, sz)) (repL (len * sz) zs) (fun cs => New h (.cells cs.toArray e) fun b h => K (.slice (some ⟨b, 0, none⟩) len len) h) parts)
  | none => False
abbrev bytesT (P : Program) (t : TypeId) : Nat := match P.info? t with | some i => i.bytes | none => 0
abbrev makeSliceV (P : Program) (t : TypeId) (l c : Value) (h : Hp) (K : Value → Hp → Prop) : Prop :=
  match elemT P t, l, c with
  | some (e, sz), .int _ l, .int _ c => (0 ≤ l ∧ l ≤ c ∧ c ≤ 281474976710656 ∧ c * bytesT P e ≤ 281474976710656) ∧
      zeroV P e fun z => cellsV z fun zs => New h (.cells (repL (c.toNat * sz) zs).toArray e) fun b h => K (.slice (some ⟨b, 0, none⟩) l.toNat c.toNat) h
  | _, _, _ => False
/-- The cells from an address on are these. -/
def readsL (h : Hp) (p : Option Addr) (vs : List Value) : Prop :=
  match p with
  | none => vs = []
  | some a => ∀ i, i < vs.length → cell h (a.add i) = vs[i]?
def storesO (p : Option Addr) (off : Nat) (k : Hp → Prop) (vs : List Value) (h : Hp) : Prop :=
  match p with
  | none => k h
  | some a => storesV (a.add off) k vs 0 h
def notIntT (P : Program) (t : TypeId) : Bool := match P.underlying t with | some (.int _) => false | some _ => true | none => false
def appendV (P : Program) (t t2 : TypeId) (s x : Value) (h : Hp) (K : Value → Hp → Prop) : Prop :=
  match elemT P t, notIntT P t2, s, x with
  | some (e, sz), true, .slice p n c, .slice q m _ => ∃ xs : List Value, xs.length = m * sz ∧ readsL h q xs ∧
      (n + m ≤ c → storesO p (n * sz) (fun h => K (.slice p (n + m) c) h) xs h) ∧
      (c < n + m → (Builtin.nextslicecap (n + m) c * bytesT P e ≤ 281474976710656 ∧ n + m ≤ 9223372036854775807) ∧ ∃ os : List Value, os.length = n * sz ∧ readsL h p os ∧ zeroV P e fun z =>
        ∀ c' : Nat, n + m ≤ c' → New h (.cells (os ++ xs ++ repL ((c' - (n + m)) * z.cells.size) z.cells.toList).toArray e) fun b h => K (.slice (some ⟨b, 0, none⟩) (n + m) c') h)
  | some (e, sz), false, .slice p n c, .int .i64 l => (0 ≤ l ∧ l ≤ 9223372036854775807 ∧ l * bytesT P e ≤ 281474976710656 ∧ sz ≠ 0 ∧ (intKindT P t2).isSome = true) ∧ zeroV P e fun z =>
      (n + l.toNat ≤ c → storesO p (n * sz) (fun h => K (.slice p (n + l.toNat) c) h) (repL (l.toNat * z.cells.size) z.cells.toList) h) ∧
      (c < n + l.toNat → (Builtin.nextslicecap (n + l.toNat) c * bytesT P e ≤ 281474976710656 ∧ n + l.toNat ≤ 9223372036854775807) ∧ ∃ os : List Value, os.length = n * sz ∧ readsL h p os ∧
        ∀ c' : Nat, n + l.toNat ≤ c' → New h (.cells (os ++ repL (l.toNat * z.cells.size) z.cells.toList ++ repL ((c' - (n + l.toNat)) * z.cells.size) z.cells.toList).toArray e) fun b h => K (.slice (some ⟨b, 0, none⟩) (n + l.toNat) c') h)
  | _, _, _, _ => False
def copyV (P : Program) (t : TypeId) (d s : Value) (h : Hp) (K : Value → Hp → Prop) : Prop :=
  match elemT P t, d, s with
  | some (_, sz), .slice p n _, .slice q m _ => ∃ xs : List Value, xs.length = (min m n) * sz ∧ readsL h q xs ∧
      storesO p 0 (fun h => K (.int .i64 (min m n : Nat)) h) xs h
  | _, _, _ => False
abbrev funV (v : Value) (k : Nat → List Value → List Value → Prop) : Prop :=
  match v with
  | .func (.func g) first cap => k g first.toList cap.toList
  | _ => False
/-- A function without body that the model knows. -/
def IsExt (P : Program) (g : Nat) (e : Array Value → Sem Value) : Prop := ∃ fn, P.funcs[g]? = some fn ∧ (fn.name == "runtime.NumGoroutine") = false ∧ fn.body.isNone = true ∧ (Extern.findNext fn).isNone = true ∧ Extern.find fn = some e
def ExtCall (P : Program) (g : Nat) (args : Array Value) (h : Hp) (K : Value → Prop) : Prop := ∃ e, IsExt P g e ∧ hq P (e args) h K
abbrev callX (P : Program) (F : Nat → Bool) (g : Nat) (args : Array Value) (h : Hp) (K : Value → Hp → Prop) : Prop :=
  match F g with
  | true => HCalls P g args h K
  | false => ExtCall P g args h fun v => K v h
abbrev callV (P : Program) (F : Nat → Bool) (ty : TypeId) (f : Value) (args : List Value) (h : Hp) (K : Value → Hp → Prop) : Prop :=
  funV f fun g first cap => callX P F g (first ++ (args ++ cap)).toArray h fun v h' => ExT P ty fun v' => v = v' ∧ K v' h'
def strK (k : ByteArray → Hp → Prop) : Value → Hp → Prop := fun v h => match v with | .string s => k s h | _ => False
def slK (k : Option Addr → Nat → Nat → Hp → Prop) : Value → Hp → Prop := fun v h => match v with | .slice a l c => k a l c h | _ => False
abbrev convHV (P : Program) (s d : TypeId) (v : Value) (h : Hp) (K : Value → Hp → Prop) : Prop :=
  match intKindT P s, isStringT P s, isStringT P d with
  | some _, _, _ => convV P s d v fun v => K v h
  | none, true, true => convV P s d v fun v => K v h
  | _, _, true => hw P (convert s d v) h (strK fun s h => K (.string s) h)
  | _, _, false => hw P (convert s d v) h (slK fun a l c h => K (.slice a l c) h)
def clearV (P : Program) (t : TypeId) (s : Value) (h : Hp) (k : Hp → Prop) : Prop :=
  match elemT P t, s with
  | some (e, _), .slice p n _ => zeroV P e fun z => storesO p 0 k (repL (n * z.cells.size) z.cells.toList) h
  | _, _ => False
abbrev builtinV (P : Program) (b : Builtin) (tys : List TypeId) (args : List Value) (h : Hp) (K : Value → Hp → Prop) : Prop :=
  match b, tys, args with
  | .append, t :: t2 :: _, s :: x :: _ => appendV P t t2 s x h (slK fun a l c h => K (.slice a l c) h)
  | .copy, t :: _, d :: s :: _ => copyV P t d s h K
  | .clear, t :: _, s :: _ => clearV P t s h fun h => K (.tuple #[]) h
  | b, tys, args => quietBuiltin P b tys args fun v => K v h

/-- All operations. -/
abbrev ot (P : Program) (F : Nat → Bool) (op : Op) (ty : TypeId) (ρ : Operand → Value) (h : Hp) (K : Value → Hp → Prop) : Prop :=
  match op with
  | .store t a x => addrV (ρ a) fun a => storeV P t a (ρ x) h (K undef)
  | .box e x => boxV e (ρ x) h K
  | .alloc e => zeroV P e fun z => boxV e z h K
  | .buildSlice t n parts => buildSliceV P t n (parts.toList.map fun p => (p.1, ρ p.2)) h K
  | .makeSlice t l c => makeSliceV P t (ρ l) (ρ c) h K
  | .convert s d x => convHV P s d (ρ x) h K
  | .makeInterface t x => hw P (Instr.makeInterface t (ρ x)) h K
  | .call { callee := .value f, args, .. } => callV P F ty (ρ f) (args.toList.map ρ) h K
  | .call { callee := .builtin b, args, argTypes } => builtinV P b argTypes.toList (args.toList.map ρ) h K
  | op => oq P op ρ h fun v => K v h

def Callable (P : Program) (g : Nat) : Prop := ∃ fn, P.funcs[g]? = some fn ∧ (fn.name == "runtime.NumGoroutine") = false ∧ fn.body.isNone = false

def nextK (P : Program) (K : Value → Hp → Prop) : Next → Hp → Prop
  | .value v, h => K v h
  | .skip, h => K undef h
  | .enter f args, h => HCalls P f args h K
  | _, _ => False

section
variable {P : Program}

theorem hw_valueK (s : Sem Value) (h : Hp) (K : Value → Hp → Prop) (hs : hw P s h K) : hw P (do pure (.value (← s)) : Sem Next) h (nextK P K) := by
  rw [hw_bind']
  exact hw_mono s h _ _ (fun a h ha => ha) hs

theorem sound_stores (a : Addr) : ∀ (vs : List Value) (i : Nat) (h : Hp) (k : Hp → Prop), storesV a k vs i h → hw P (storeCells a vs i) h (fun _ h => k h)
  | [], i, h, k, hk => hk
  | v :: vs, i, h, k, hk => by
    obtain ⟨hs, hw', hk⟩ := cond_true_of hk
    unfold storeCells
    rw [hw_bind']
    exact ⟨hs, hw', sound_stores a vs (i + 1) _ k hk⟩

theorem hw_isAgg (t : TypeId) (h : Hp) (K : Bool → Hp → Prop) : hw P (isAgg t) h K = (match isAggT P t with | some b => K b h | none => False) := by
  unfold isAgg isAggT
  rw [hw_bind', hw_underlying]
  cases hu : P.underlying t with
  | none => rfl
  | some d => cases d <;> rfl

theorem sizeOf_hw (t : TypeId) (h : Hp) (K : Nat → Hp → Prop) : hw P (sizeOf t) h K = (match P.info? t with | some i => K i.size h | none => False) := by
  unfold sizeOf
  rw [hw_bind', hw_typeInfo]
  cases P.info? t <;> rfl

theorem addr_add_zero (a : Addr) : a.add 0 = a := rfl

theorem sound_store {t : TypeId} {a : Addr} {v : Value} {h : Hp} {k : Hp → Prop} (hk : storeV P t a v h k) : hw P (storeVar t a v) h (fun _ h => k h) := by
  unfold storeV at hk
  split at hk
  · rename_i ha
    obtain ⟨i, hi⟩ := info_of_agg ha
    split at hk
    · rename_i cs
      obtain ⟨hsz, hk⟩ := cond_true_of hk
      have hsz := Nat.eq_of_beq_eq_true hsz
      simp only [sizeOfT, hi] at hsz
      unfold storeVar
      have hn : ¬ ((Value.agg cs).cells.size ≠ i.size) := by simpa [Value.cells] using hsz
      simp only [hw_bind', sizeOf_hw, hi, if_neg hn]
      exact sound_stores a _ 0 h k hk
    · exact hk.elim
  · rename_i ha
    obtain ⟨i, hi⟩ := info_of_agg ha
    obtain ⟨hsz, hk⟩ := cond_true_of hk
    obtain ⟨hsc, hk⟩ := cond_true_of hk
    have hsz := Nat.eq_of_beq_eq_true hsz
    simp only [sizeOfT, hi] at hsz
    have hc : v.cells = #[v] := by cases v <;> first | rfl | cases hsc
    unfold storeVar
    simp only [hw_bind', sizeOf_hw, hi, hc]
    rw [if_neg (by simpa using hsz.symm)]
    refine sound_stores a [v] 0 h k ?_
    simp only [storesV, hsc, chk]
    exact hk
  · exact hk.elim

theorem sound_box {e : TypeId} {v : Value} {h : Hp} {K : Value → Hp → Prop} (hk : boxV e v h K) : hw P (do pure (.pointer (some (← newVar e v))) : Sem Value) h K := by
  have := cellsV_spec hk
  rw [hw_bind']
  unfold newVar newRow newObj
  rw [hw_bind']
  have e1 : v.cells.toList.toArray = v.cells := by simp
  rw [e1] at this
  exact this

theorem zeroV_spec {t : TypeId} {k : Value → Prop} (h : zeroV P t k) : ∃ i z, P.info? t = some i ∧ i.zero = some z ∧ k z := by
  unfold zeroV at h
  split at h
  · rename_i i hi
    split at h
    · rename_i z hz; exact ⟨i, z, hi, hz, h⟩
    · exact h.elim
  · exact h.elim

theorem hw_zeroValue {t : TypeId} {i : TypeInfo} {z : Value} (hi : P.info? t = some i) (hz : i.zero = some z) (h : Hp) (K : Value → Hp → Prop) : hw P (zeroValue t) h K = K z h := by
  simp only [zeroValue, hw_bind', hw_typeInfo, hi, hz, hw_pure']

theorem repL_eq (n : Nat) (zs : Array Value) : (Array.range n).map (zs[· % zs.size]!) = (repL n zs.toList).toArray := by
  apply Array.ext'
  simp only [Array.toList_map, Array.toList_range, repL, Array.length_toList]
  refine List.map_congr_left fun i _ => ?_
  rw [nth_eq, Array.getElem?_toList]
  rw [getElem!_def]
  cases zs[i % zs.size]? <;> rfl

theorem sound_buildSlice {t : TypeId} {len : Nat} {parts : Array (Nat × Value)} {h : Hp} {K : Value → Hp → Prop} (hk : buildSliceV P t len parts.toList h K) : hw P (Instr.buildSlice t len parts) h K := by
  unfold buildSliceV at hk
  split at hk
  · rename_i e sz he
    obtain ⟨hu, inf, hinf, rfl⟩ := elemT_spec he
    obtain ⟨hle, hk⟩ := cond_true_of hk
    have hle := Nat.le_of_ble_eq_true hle
    obtain ⟨i, z, hi, hz, hk⟩ := zeroV_spec hk
    replace hk := cellsV_spec hk
    have hr : repL (len * inf.size) z.cells.toList = ((Array.range (len * inf.size)).map (z.cells[· % z.cells.size]!)).toList := by rw [repL_eq]
    rw [hr] at hk
    obtain ⟨cs, hf, hk⟩ := sound_fill (place' := fun i => some (i * inf.size, inf.size)) (fun _ => rfl) _ _ hk
    simp only [Instr.buildSlice, hw_bind', hw_underlying, hu, sizeOf_hw, hinf]
    rw [if_neg (by omega)]
    by_cases h0 : len * inf.size = 0
    · have e0 : ∀ zs : Array Value, (Array.range (len * inf.size)).map (zs[· % zs.size]!) = #[] := by rw [h0]; simp
      simp only [if_pos h0, hw_pure', hw_bind']
      rw [e0] at hf ⊢
      rw [hf]
      simp only [hw_bind', newRow, newObj, hw_pure']
      have e1 : cs.toList.toArray = cs := by simp
      rw [e1] at hk
      exact hk
    · simp only [if_neg h0, hw_bind', hw_zeroValue hi hz, hw_pure']
      rw [hf]
      simp only [hw_bind', newRow, newObj, hw_pure']
      have e1 : cs.toList.toArray = cs := by simp
      rw [e1] at hk
      exact hk
  · exact hk.elim

theorem hw_askRoom (n : Nat) (h : Hp) (K : Unit → Hp → Prop) : hw P (askRoom n) h K = K () h := by
  unfold askRoom; split <;> rfl

theorem wrap_i64_in (n : Int) (h : InR n) : IntKind.i64.wrap n = n := by
  obtain ⟨h1, h2⟩ := h
  rw [IntKind.wrap_i64]; omega

theorem sound_makeSlice {t : TypeId} {l c : Value} {h : Hp} {K : Value → Hp → Prop} (hk : makeSliceV P t l c h K) : hw P (Instr.makeSlice t l c) h K := by
  unfold makeSliceV at hk
  split at hk
  · rename_i e sz kl l kc c he
    obtain ⟨hu, inf, hinf, rfl⟩ := elemT_spec he
    obtain ⟨⟨h0, h1, h2, h3⟩, hk⟩ := hk
    obtain ⟨i, z, hi, hz, hk⟩ := zeroV_spec hk
    obtain rfl : inf = i := by rw [hinf] at hi; exact Option.some.inj hi
    replace hk := cellsV_spec hk
    simp only [bytesT, hinf] at h3
    have wl : IntKind.i64.wrap l = l := wrap_i64_in l ⟨by omega, by omega⟩
    have wc : IntKind.i64.wrap c = c := wrap_i64_in c ⟨by omega, by omega⟩
    simp only [Instr.makeSlice, asInt, asIntOf, hw_bind', hw_underlying, hu, hw_pure', hw_typeInfo, hinf, wl, wc]
    have hnl : (decide (c < 0) || decide ((inf.bytes : Int) * c > 2 ^ 48)) = false := by
      have : (inf.bytes : Int) * c = c * inf.bytes := Int.mul_comm _ _
      simp; omega
    rw [if_neg (by rw [hnl]; simp; omega)]
    simp only [hw_bind', hw_askRoom, sizeOf_hw, hinf]
    by_cases hn : c.toNat * inf.size = 0
    · simp only [if_pos hn, hw_pure', hw_bind', newRow, newObj]
      have e1 : repL (c.toNat * inf.size) z.cells.toList = [] := by rw [hn]; rfl
      have e0 : ∀ zs : Array Value, (Array.range (c.toNat * inf.size)).map (zs[· % zs.size]!) = #[] := by rw [hn]; simp
      rw [e1] at hk
      rw [e0]
      exact hk
    · simp only [if_neg hn, hw_bind', hw_zeroValue hi hz, hw_pure', newRow, newObj]
      rw [repL_eq]
      exact hk
  · exact hk.elim


theorem readsL_cells {h : Hp} {a : Addr} {vs : List Value} (hr : readsL h (some a) vs) : ∀ (n i : Nat) (acc : Array Value) (K : Array Value → Hp → Prop), i + n = vs.length →
    K (acc ++ (vs.drop i).toArray) h → hw P (loadCellsFrom a i n acc) h K
  | 0, i, acc, K, hn, hk => by
    have : vs.drop i = [] := List.drop_eq_nil_of_le (by omega)
    rw [this] at hk
    have e : acc ++ ([] : List Value).toArray = acc := by simp
    rw [e] at hk
    exact hk
  | n + 1, i, acc, K, hn, hk => by
    have hi : i < vs.length := by omega
    have h1 := hr i hi
    rw [List.getElem?_eq_getElem hi] at h1
    simp only [loadCellsFrom]
    rw [hw_bind']
    refine ⟨vs[i], h1, ?_⟩
    refine readsL_cells hr n (i + 1) _ K (by omega) ?_
    have e : acc.push vs[i] ++ (vs.drop (i + 1)).toArray = acc ++ (vs.drop i).toArray := by
      apply Array.ext'; rw [List.drop_eq_getElem_cons hi]; simp
    rwa [e]

theorem readsL_first {h : Hp} {p : Option Addr} {vs : List Value} (hr : readsL h p vs) (sz n l c : Nat) (K : Array Value → Hp → Prop) (hn : vs.length = n * sz) (hk : K vs.toArray h) :
    hw P (Builtin.firstCells sz n (.slice p l c)) h K := by
  cases p with
  | none =>
    have : vs = [] := hr
    subst this
    simpa [Builtin.firstCells, hw_pure'] using hk
  | some a =>
    simp only [Builtin.firstCells, loadCells]
    refine readsL_cells hr (n * sz) 0 #[] K (by omega) ?_
    simpa using hk

theorem zeroCells_eq (zs : Array Value) (n : Nat) : Builtin.zeroCells zs n = (repL (n * zs.size) zs.toList).toArray := repL_eq _ _

theorem sound_append {t t2 ty : TypeId} {s x : Value} {h : Hp} {K : Value → Hp → Prop} (tys : Array TypeId) (args : Array Value) (h0 : tys[0]? = some t) (h1 : tys[1]? = some t2) (g0 : args[0]? = some s) (g1 : args[1]? = some x)
    (hk : appendV P t t2 s x h K) : hw P (Builtin.append_ tys ty args) h K := by
  unfold appendV at hk
  split at hk
  · rename_i e sz p n c q m mc he hi2
    obtain ⟨hu, inf, hinf, rfl⟩ := elemT_spec he
    obtain ⟨xs, hxl, hxr, hin, hout⟩ := hk
    have hsome : (P.underlying t2).isSome = true := by unfold notIntT at hi2; cases hd : P.underlying t2 <;> simp_all
    obtain ⟨d2, hd2⟩ := Option.isSome_iff_exists.1 hsome
    cases d2 with
    | int k => unfold notIntT at hi2; rw [hd2] at hi2; cases hi2
    | _ =>
      simp only [Builtin.append_, h0, g0, g1, h1, hw_bind', hw_underlying, hu, sizeOf_hw, hinf, hd2, hw_pure', Bool.false_eq_true, if_false, Bool.not_false, if_true, Builtin.lenOf]
      by_cases hle : n + m ≤ c
      · rw [if_pos hle, hw_bind']
        refine readsL_first hxr _ m m mc _ hxl ?_
        have hs := hin hle
        cases p with
        | none => exact hs
        | some a =>
          simp only [hw_bind', hw_pure']
          exact sound_stores _ xs 0 h _ hs
      · rw [if_neg hle]
        obtain ⟨⟨hb, hmx⟩, os, hol, hor, hz0⟩ := hout (by omega)
        obtain ⟨i, z, hi, hzz, hk⟩ := zeroV_spec hz0
        obtain rfl : inf = i := by rw [hinf] at hi; exact Option.some.inj hi
        simp only [bytesT, hinf] at hb
        have h3 : IntKind.i64.max = 9223372036854775807 := by decide
        simp only [hw_bind', hw_typeInfo, hinf]
        rw [if_neg (by rw [h3]; omega)]
        simp only [hw_bind', hw_typeInfo, hinf]
        rw [if_neg (by omega)]
        simp only [hw_bind', choose, hw]
        intro tp
        simp only [Question.forced, Question.cut, Bool.false_eq_true, if_false, hw_typeInfo, hinf, hw_askRoom]
        refine readsL_first hor _ n n c _ hol ?_
        refine readsL_first hxr _ m m mc _ hxl ?_
        simp only [hw_zeroValue hi hzz, newRow, newObj, hw_bind', hw_pure', zeroCells_eq]
        have := hk (n + m + tp % (2 ^ 63 - (n + m))) (by omega)
        have e1 : os.toArray ++ xs.toArray ++ (repL ((n + m + tp % (2 ^ 63 - (n + m)) - (n + m)) * z.cells.size) z.cells.toList).toArray = (os ++ xs ++ repL ((n + m + tp % (2 ^ 63 - (n + m)) - (n + m)) * z.cells.size) z.cells.toList).toArray := by
          apply Array.ext'; simp
        rw [e1]
        exact this
  · rename_i e sz p n c l he hi2
    obtain ⟨hu, inf, hinf, rfl⟩ := elemT_spec he
    obtain ⟨⟨h0l, hml, hbl, hsz, hik⟩, hz0⟩ := hk
    obtain ⟨i, z, hi, hzz, hin, hout⟩ := zeroV_spec hz0
    obtain rfl : inf = i := by rw [hinf] at hi; exact Option.some.inj hi
    obtain ⟨k, hd2⟩ : ∃ k, P.underlying t2 = some (.int k) := by
      obtain ⟨k, hk⟩ := Option.isSome_iff_exists.1 hik
      exact ⟨k, intKindT_spec hk⟩
    have hw1 : IntKind.i64.wrap l = l := wrap_i64_in l ⟨by omega, hml⟩
    simp only [bytesT, hinf] at hbl
    have h48 : ((2 : Int) ^ 48) = 281474976710656 := by decide
    simp only [Builtin.append_, h0, g0, g1, h1, hw_bind', hw_underlying, hu, sizeOf_hw, hinf, hd2, hw_pure', if_true, asInt, asIntOf, hw1, hw_typeInfo]
    rw [if_neg (by omega)]
    simp only [hw_bind', hw_pure', hw_typeInfo, hinf]
    rw [if_neg (by rw [h48]; omega)]
    rw [hw_bind', hw_pure']
    have app : ∀ {Q : Array Value → Hp → Prop} {h : Hp}, Q (repL (l.toNat * z.cells.size) z.cells.toList).toArray h →
        hw P (if l.toNat * inf.size = 0 then pure #[] else do pure (Builtin.zeroCells (← zeroValue e).cells l.toNat)) h Q := by
      intro Q h hq
      split
      · rename_i h3
        have h4 : l.toNat = 0 := by
          rcases Nat.mul_eq_zero.1 h3 with h3 | h3
          · exact h3
          · exact absurd h3 hsz
        rw [h4] at hq
        have e5 : (repL (0 * z.cells.size) z.cells.toList).toArray = #[] := by simp [repL]
        rw [e5] at hq
        exact hq
      · rw [hw_bind', hw_zeroValue hi hzz, hw_pure', zeroCells_eq]
        exact hq
    by_cases hle : n + l.toNat ≤ c
    · rw [if_pos hle, hw_bind']
      simp only [Bool.not_true, Bool.false_eq_true, if_false]
      refine app ?_
      have hs := hin hle
      cases p with
      | none => exact hs
      | some a =>
        simp only [hw_bind', hw_pure']
        exact sound_stores _ _ 0 h _ hs
    · rw [if_neg hle]
      obtain ⟨⟨hb, hmx⟩, os, hol, hor, hk⟩ := hout (by omega)
      simp only [bytesT, hinf] at hb
      have h3 : IntKind.i64.max = 9223372036854775807 := by decide
      simp only [hw_bind', hw_typeInfo, hinf]
      rw [if_neg (by rw [h3]; omega)]
      simp only [hw_bind', hw_typeInfo, hinf]
      rw [if_neg (by omega)]
      simp only [hw_bind', choose, hw]
      intro tp
      simp only [Question.forced, Question.cut, Bool.false_eq_true, if_false, hw_typeInfo, hinf, hw_askRoom]
      refine readsL_first hor _ n n c _ hol ?_
      simp only [Bool.not_true, Bool.false_eq_true, if_false]
      refine app ?_
      simp only [hw_zeroValue hi hzz, newRow, newObj, hw_bind', hw_pure', zeroCells_eq]
      have := hk (n + l.toNat + tp % (2 ^ 63 - (n + l.toNat))) (by omega)
      have e1 : os.toArray ++ (repL (l.toNat * z.cells.size) z.cells.toList).toArray ++ (repL ((n + l.toNat + tp % (2 ^ 63 - (n + l.toNat)) - (n + l.toNat)) * z.cells.size) z.cells.toList).toArray = (os ++ repL (l.toNat * z.cells.size) z.cells.toList ++ repL ((n + l.toNat + tp % (2 ^ 63 - (n + l.toNat)) - (n + l.toNat)) * z.cells.size) z.cells.toList).toArray := by
        apply Array.ext'; simp
      rw [e1]
      exact this
  · exact hk.elim


theorem sound_copy {t ty : TypeId} {d s : Value} {h : Hp} {K : Value → Hp → Prop} (tys : Array TypeId) (args : Array Value) (h0 : tys[0]? = some t) (g0 : args[0]? = some d) (g1 : args[1]? = some s)
    (hk : copyV P t d s h K) : hw P (Builtin.copy_ tys ty args) h K := by
  unfold copyV at hk
  split at hk
  · rename_i e sz p n c q m mc he
    obtain ⟨hu, inf, hinf, rfl⟩ := elemT_spec he
    obtain ⟨xs, hxl, hxr, hk⟩ := hk
    simp only [Builtin.copy_, h0, g0, g1, hw_bind', hw_underlying, hu, sizeOf_hw, hinf, hw_pure', Builtin.lenOf]
    refine readsL_first hxr _ (min m n) m mc _ hxl ?_
    cases p with
    | none => exact hk
    | some a =>
      simp only [hw_bind', hw_pure']
      exact sound_stores _ xs 0 h _ hk
  · exact hk.elim

theorem sound_clear {t ty : TypeId} {s : Value} {h : Hp} {k : Hp → Prop} (tys : Array TypeId) (args : Array Value) (h0 : tys[0]? = some t) (g0 : args[0]? = some s)
    (hk : clearV P t s h k) : hw P (Builtin.clear_ tys ty args) h (fun v h => v = .tuple #[] ∧ k h) := by
  unfold clearV at hk
  split at hk
  · rename_i e sz p n c he
    obtain ⟨hu, inf, hinf, rfl⟩ := elemT_spec he
    obtain ⟨i, z, hi, hz, hk⟩ := zeroV_spec hk
    simp only [Builtin.clear_, h0, g0, hw_bind', hw_underlying, hu]
    cases p with
    | none => exact ⟨rfl, hk⟩
    | some a =>
      cases n with
      | zero =>
        simp only [Nat.zero_mul, storesO, repL, List.range_zero, List.map_nil, storesV] at hk
        exact ⟨rfl, hk⟩
      | succ n =>
        simp only [hw_bind', hw_zeroValue hi hz, zeroCells_eq, hw_pure']
        refine hw_mono _ _ _ _ (fun _ h hv => ?_) (sound_stores a _ 0 h _ hk)
        exact ⟨trivial, hv⟩
  · exact hk.elim

theorem funV_spec {v : Value} {k : Nat → List Value → List Value → Prop} (h : funV v k) : ∃ g first cap, v = .func (.func g) first cap ∧ k g first.toList cap.toList := by
  unfold funV at h
  split at h
  · exact ⟨_, _, _, rfl, h⟩
  · exact h.elim

theorem hw_callFunc {g : Nat} (hg : Callable P g) (args : Array Value) (h : Hp) (K : Next → Hp → Prop) (hk : K (.enter g args) h) : hw P (callFunc g args) h K := by
  obtain ⟨fn, hf, hn, hb⟩ := hg
  simp only [callFunc, program, hw_bind', hw, hf]
  rw [if_neg (by rw [hn]; simp), if_neg (by rw [hb]; simp)]
  exact hk

theorem hw_callExt {g : Nat} {args : Array Value} {h : Hp} {K : Next → Hp → Prop} {Q : Value → Prop} (hc : ExtCall P g args h Q) (hk : ∀ v, Q v → K (.value v) h) : hw P (callFunc g args) h K := by
  obtain ⟨e, ⟨fn, hf, hn, hb, hx, he⟩, hc⟩ := hc
  have hx' : Extern.findNext fn = none := by simpa using hx
  simp only [callFunc, program, hw_bind', hw, hf]
  rw [if_neg (by rw [hn]; simp), if_pos hb]
  simp only [mark, hw_bind', hw, hx', he]
  exact hw_of_hq _ _ _ (hq_mono _ _ _ _ (fun v hv => hk v hv) hc)

theorem hw_oq {o : Oper} {ρ : Operand → Value} {h : Hp} {K : Value → Hp → Prop} {op : Op} (ho : o.op = op) (hk : oq P op ρ h fun v => K v h) : hw P (execOp ρ o) h (nextK P K) :=
  hw_of_hq _ _ _ (hq_mono _ _ _ _ (fun n hn => by obtain ⟨v, rfl, hv⟩ := hn; exact hv) (sound_oq ho hk))

theorem toList_nth (l : Array Operand) (ρ : Operand → Value) (i : Nat) : (l.map ρ)[i]? = (l.toList.map ρ)[i]? := by simp

theorem sound_ot {F : Nat → Bool} (hF : ∀ g, F g = true → Callable P g) {o : Oper} {ρ : Operand → Value} {h : Hp} {K : Value → Hp → Prop} {op : Op} (ho : o.op = op) (hk : ot P F op o.type ρ h K) :
    hw P (execOp ρ o) h (nextK P K) := by
  unfold ot at hk
  split at hk
  · rename_i t a x
    obtain ⟨a', ha, hk⟩ := addrV_spec hk
    simp only [execOp, ho, hw_bind', Instr.storeAt, ha, Instr.sureAddr, hw_pure']
    refine hw_mono _ _ _ _ (fun _ _ hk => ?_) (sound_store hk)
    exact hk
  · rename_i e x
    simp only [execOp, ho]
    exact hw_valueK _ _ _ (sound_box hk)
  · rename_i e
    obtain ⟨i, z, hi, hz, hk⟩ := zeroV_spec hk
    simp only [execOp, ho]
    refine hw_valueK _ _ _ ?_
    simp only [Instr.alloc, hw_bind', hw_zeroValue hi hz]
    have := sound_box (P := P) hk
    rwa [hw_bind'] at this
  · rename_i t n parts
    simp only [execOp, ho]
    refine hw_valueK _ _ _ (sound_buildSlice ?_)
    simpa using hk
  · rename_i t l c
    simp only [execOp, ho]
    exact hw_valueK _ _ _ (sound_makeSlice hk)
  · rename_i s d x
    simp only [execOp, ho]
    refine hw_valueK _ _ _ ?_
    unfold convHV at hk
    split at hk
    · exact hw_of_hq _ _ _ (sound_conv hk)
    · exact hw_of_hq _ _ _ (sound_conv hk)
    · refine hw_mono _ _ _ _ (fun v h hv => ?_) hk
      cases v <;> first | exact hv | exact hv.elim
    · refine hw_mono _ _ _ _ (fun v h hv => ?_) hk
      cases v <;> first | exact hv | exact hv.elim
  · rename_i t x
    simp only [execOp, ho]
    exact hw_valueK _ _ _ hk
  · rename_i f args tys
    unfold callV at hk
    obtain ⟨g, first, cap, hf, hk⟩ := funV_spec hk
    simp only [execOp, ho, resolve, hw_bind', hf, Deferred.ofValue, hw_pure', invoke]
    unfold callX at hk
    split at hk
    rotate_left
    · have e : (first.toList ++ (args.toList.map ρ ++ cap.toList)).toArray = first ++ args.map ρ ++ cap := by apply Array.ext'; simp
      rw [e] at hk
      refine hw_callExt hk fun v hv => ?_
      obtain ⟨v', rfl, hv⟩ := Ex2.out hv
      exact hv
    rename_i hg
    refine hw_callFunc (hF g hg) _ _ _ ?_
    have e : (first.toList ++ (args.toList.map ρ ++ cap.toList)).toArray = first ++ args.map ρ ++ cap := by apply Array.ext'; simp
    rw [e] at hk
    refine hk.mono fun v h' hv => ?_
    obtain ⟨v', rfl, hv⟩ := Ex2.out hv
    exact hv
  · rename_i b args tys
    unfold builtinV at hk
    split at hk
    · rename_i t t2 _ s x _ ht hx
      simp only [execOp, ho, resolve, hw_bind', hw_pure', invoke, builtin]
      have e1 := congrArg (fun l => l[0]?) ht
      have e2 := congrArg (fun l => l[1]?) ht
      have e3 := congrArg (fun l => l[0]?) hx
      have e4 := congrArg (fun l => l[1]?) hx
      simp only [Array.getElem?_toList, List.getElem?_cons_zero, List.getElem?_cons_succ] at e1 e2
      rw [← toList_nth] at e3 e4
      simp only [List.getElem?_cons_zero, List.getElem?_cons_succ] at e3 e4
      refine hw_mono _ _ _ _ (fun v h hv => ?_) (sound_append (t := t) (t2 := t2) (s := s) (x := x) _ _ e1 e2 e3 e4 hk)
      cases v <;> first | exact hv | exact hv.elim
    · rename_i t _ d s _ ht hx
      simp only [execOp, ho, resolve, hw_bind', hw_pure', invoke, builtin]
      have e1 := congrArg (fun l => l[0]?) ht
      have e3 := congrArg (fun l => l[0]?) hx
      have e4 := congrArg (fun l => l[1]?) hx
      simp only [Array.getElem?_toList, List.getElem?_cons_zero] at e1
      rw [← toList_nth] at e3 e4
      simp only [List.getElem?_cons_zero, List.getElem?_cons_succ] at e3 e4
      exact sound_copy (t := t) (d := d) (s := s) _ _ e1 e3 e4 hk
    · rename_i t _ s _ ht hx
      simp only [execOp, ho, resolve, hw_bind', hw_pure', invoke, builtin]
      have e1 := congrArg (fun l => l[0]?) ht
      have e3 := congrArg (fun l => l[0]?) hx
      simp only [Array.getElem?_toList, List.getElem?_cons_zero] at e1
      rw [← toList_nth] at e3
      simp only [List.getElem?_cons_zero] at e3
      refine hw_mono _ _ _ _ (fun v h hv => ?_) (sound_clear (t := t) (s := s) _ _ e1 e3 hk)
      obtain ⟨rfl, hv⟩ := hv
      exact hv
    · exact hw_oq ho hk
  · exact hw_oq ho hk

end
end Go.Sx
