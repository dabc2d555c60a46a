/- Part I4 U0 U1 I5 I6 I7 M2 B1 B2 B3 B4 B5 of the proof: contracts of functions of the program, and what follows from them. -/
import Derived.Test.YtkdmcdnfakmapaaGreatSxI3
import Derived.Test.YtkdmcdnfakmapaaGreatSxV
/- copy, and slices that do not overlap. -/
namespace Go.Sx
open Go
theorem frozen_blk {h : Hp} {b o : Nat} {s : Option Nat} {xs : List Value} {e : TypeId} (hb : Blk h b xs e) : frozenH h ⟨b, o, s⟩ = false := by
  unfold Blk at hb
  unfold frozenH
  simp only [hb]
  simp
theorem shape_blk {h : Hp} {b : Nat} {xs : List Value} {e : TypeId} (hb : Blk h b xs e) : shapeH h b = some (e, xs.length) := by
  unfold Blk at hb
  unfold shapeH
  simp [hb]
theorem overlaps_no {P : Program} {g : Nat} {ps rs : Array TypeId} {h : Hp} {t e : TypeId} {i0 : TypeInfo} {a b : Addr} {la ca lb cb : Nat} {xs ys : List Value} {e1 e2 : TypeId} {K : Value → Prop}
    (hx : IsExt P g (Extern.SlicesOverlaps.overlaps ps rs)) (hp : ps[0]? = some t) (ht : P.underlying t = some (.slice e)) (hi : P.info? e = some i0)
    (hne : a.block ≠ b.block) (ha : Blk h a.block xs e1) (hb : Blk h b.block ys e2) (hk : K (.bool false)) : ExtCall P g #[.slice (some a) la ca, .slice (some b) lb cb] h K := by
  refine ⟨_, hx, ?_⟩
  have fa : ∀ o s, frozenH h ⟨a.block, o, s⟩ = false := fun o s => frozen_blk ha
  have fb : ∀ o s, frozenH h ⟨b.block, o, s⟩ = false := fun o s => frozen_blk hb
  have fa' : frozenH h a = false := fa a.off a.spot
  have fb' : frozenH h b = false := fb b.off b.spot
  have sa := shape_blk ha
  have sb := shape_blk hb
  have e0 : Extern.SlicesOverlaps.overlaps ps rs #[.slice (some a) la ca, .slice (some b) lb cb] = (do
      let some t := ps[0]? | stuck "slices.overlaps: no parameter types"
      let .slice elem ← underlying t | stuck "slices.overlaps: slice type expected"
      let size ← sizeOf elem
      if la = 0 ∨ lb = 0 ∨ size = 0 then pure (.bool false)
      else if a.block != b.block && (← frozen a) && (← frozen b) then unsupported .addressObserved
      else do
        if a.block != b.block then do
          noView a; noView b
          if ← mayBeOne a b then return .bool ((← choose (.extern "sameAddr.stringBytes" 2)) == 1)
        pure (.bool (a.block == b.block && a.off < b.off + lb * size && b.off < a.off + la * size))) := rfl
  rw [e0]
  simp only [hp, hq_bind', hq_underlying, ht, sizeOf_hq, hi]
  split
  · exact hk
  · simp only [frozen, hq_bind', hq, fa', fb', Bool.and_false, Bool.false_eq_true, if_false]
    have hne' : (a.block != b.block) = true := by simpa using hne
    have hne2 : (a.block == b.block) = false := by simpa using hne
    simp only [hne', if_true, noView, viewAt, shape, hq_bind', hq, sa, sb, hq_pure', Option.isSome_some, Option.isSome_none, Bool.false_eq_true, if_false, mayBeOne, stringish, frozen, fa', fb', fa, fb]
    simp only [hq_pure', Bool.false_eq_true, if_false, Bool.false_and, Bool.and_self, Bool.or_self, hne2]
    exact hk

/-- 'copy' into a block. -/
theorem copy_blk {P : Program} {t e : TypeId} {h : Hp} {b o n c1 m c2 j : Nat} {q : Option Addr} {pre mid rest ys : List Value} {K : Value → Hp → Prop}
    (ok : ElemOk P t e) (r : Rd h q m ys) (hb : Blk h b (pre ++ mid ++ rest) e) (ho : pre.length = o) (hj : j = min m n) (hm : mid.length = j) (hs : ∀ v ∈ ys.take j, scalar v = true)
    (hk : ∀ v h', h'.size = h.size → (∀ k, k ≠ b → h'[k]? = h[k]?) → Blk h' b (pre ++ ys.take j ++ rest) e → K v h') :
    copyV P t (.slice (some ⟨b, o, none⟩) n c1) (.slice q m c2) h K := by
  unfold copyV
  rw [ok.el]
  have hl := r.len
  refine ⟨ys.take j, by rw [List.length_take]; omega, ?_, ?_⟩
  · rcases r.2 with h0 | ⟨a, rfl, hc⟩
    · have : ys = [] := List.eq_nil_of_length_eq_zero (by omega)
      subst this
      cases q with
      | none => simp [readsL]
      | some a => intro i hi; simp at hi
    · intro i hi
      rw [List.length_take] at hi
      rw [hc i (by omega), List.getElem?_take, if_pos (by omega)]
  · show storesV ((⟨b, o, none⟩ : Addr).add 0) _ _ 0 h
    rw [add_mk]
    refine storesV_blk (ys.take j) 0 o h pre mid rest hs hb (by omega) (by rw [hm, List.length_take]; omega) fun h' hz hsm hb' => hk _ h' hz hsm hb'

/-- 'append(s, make(S, l)...)' that does not fit. -/
theorem append_make {P : Program} {t t2 e : TypeId} {z : Value} {i0 : TypeInfo} {h : Hp} {p : Option Addr} {n c : Nat} {l : Int} {xs : List Value} {k : Option Addr → Nat → Nat → Hp → Prop}
    (ok : elemT P t = some (e, 1)) (hi : P.info? e = some i0) (hz : i0.zero = some z) (hzs : scalar z = true) (hbt : i0.bytes ≤ 32) (ht2 : notIntT P t2 = false) (hk2 : (intKindT P t2).isSome = true)
    (r : Rd h p n xs) (hn : n < 1099511627776) (h0 : 0 ≤ l) (hl : l < 1099511627776) (hc : c < n + l.toNat)
    (hk : ∀ b c' h', b = h.size → Ext h h' → n + l.toNat ≤ c' → Blk h' b (xs ++ List.replicate l.toNat z ++ List.replicate (c' - (n + l.toNat)) z) e → k (some ⟨b, 0, none⟩) (n + l.toNat) c' h') :
    appendV P t t2 (.slice p n c) (.int .i64 l) h (slK k) := by
  have hbe : bytesT P e = i0.bytes := by unfold bytesT; rw [hi]
  have hzc : z.cells = #[z] := by cases z <;> first | rfl | cases hzs
  unfold appendV
  rw [ok, ht2]
  have hb1 : l * (i0.bytes : Int) ≤ l * 32 := Int.mul_le_mul_of_nonneg_left (by omega) h0
  refine ⟨⟨h0, by omega, by rw [hbe]; omega, by omega, hk2⟩, ?_⟩
  unfold zeroV
  rw [hi]
  simp only [hz]
  refine ⟨fun hle => by omega, fun _ => ⟨⟨?_, by omega⟩, xs, by have := r.len; omega, ?_, ?_⟩⟩
  · have hncap : Builtin.nextslicecap (n + l.toNat) c ≤ 2 * (n + l.toNat) := by
      unfold Builtin.nextslicecap
      split
      · omega
      · split
        · omega
        · simp only [Builtin.growBy]
          split
          · omega
          · split
            · omega
            · split
              · omega
              · split <;> omega
    rw [hbe]
    have h1 : Builtin.nextslicecap (n + l.toNat) c * i0.bytes ≤ 2 * (n + l.toNat) * 32 := Nat.mul_le_mul hncap hbt
    omega
  · rcases r.readsL with hr | h1
    · exact hr
    · subst h1
      have : xs = [] := List.eq_nil_of_length_eq_zero r.len
      subst this
      cases p with
      | none => rfl
      | some a => intro i hi; cases hi
  · intro c' hc'
    refine New_intro fun b h' hbs hext hblk hsz => hk b c' h' hbs hext hc' ?_
    rw [hzc] at hblk
    have e1 : ∀ m, repL (m * #[z].size) #[z].toList = List.replicate m z := fun m => by
      show repL (m * 1) [z] = _
      rw [Nat.mul_one, repL_one]
    rw [e1, e1] at hblk
    exact hblk

theorem Rd.take {h : Hp} {p : Option Addr} {n i : Nat} {xs : List Value} (r : Rd h p n xs) (hi : i ≤ n) : Rd h p i (xs.take i) := by
  have hl := r.len
  refine ⟨by rw [List.length_take]; omega, ?_⟩
  rcases r.2 with h0 | ⟨a, hp, hc⟩
  · exact .inl (by omega)
  · exact .inr ⟨a, hp, fun j hj => by rw [hc j (by omega), List.getElem?_take, if_pos hj]⟩
theorem subAddr_in {b o c i : Nat} (h : c ≠ i) : subAddr (some ⟨b, o, none⟩) c i 1 = some ⟨b, o + i, none⟩ := by
  unfold subAddr
  rw [if_neg h, Nat.mul_one, Option.map_some, add_mk]

/-- 'append' that fits. -/
theorem append_fit {P : Program} {t e : TypeId} {h : Hp} {b n c m c2 : Nat} {q : Option Addr} {pre mid rest ys : List Value} {k : Option Addr → Nat → Nat → Hp → Prop}
    (ok : ElemOk P t e) (hb : Blk h b (pre ++ mid ++ rest) e) (hp : pre.length = n) (hm : mid.length = m) (r : Rd h q m ys) (hs : ∀ v ∈ ys, scalar v = true) (hc : n + m ≤ c)
    (hk : ∀ h', h'.size = h.size → (∀ k, k ≠ b → h'[k]? = h[k]?) → Blk h' b (pre ++ ys ++ rest) e → k (some ⟨b, 0, none⟩) (n + m) c h') :
    appendV P t t (.slice (some ⟨b, 0, none⟩) n c) (.slice q m c2) h (slK k) := by
  have hl := r.len
  unfold appendV
  rw [ok.el, ok.ni]
  refine ⟨ys, by omega, ?_, fun _ => ?_, fun hlt => by omega⟩
  · rcases r.readsL with h1 | h1
    · exact h1
    · subst h1
      have : ys = [] := List.eq_nil_of_length_eq_zero r.len
      subst this
      cases q with
      | none => rfl
      | some a => intro i hi; cases hi
  · simp only [storesO, add_mk, Nat.mul_one, Nat.zero_add]
    exact storesV_blk ys 0 n h pre mid rest hs hb (by omega) (by omega) fun h' hz hsm hb' => hk h' hz hsm hb'
theorem clear_blk {P : Program} {t e : TypeId} {h : Hp} {b o n c : Nat} {pre mid rest : List Value} {k : Hp → Prop}
    (ok : ElemOk P t e) (hb : Blk h b (pre ++ mid ++ rest) e) (hp : pre.length = o) (hm : mid.length = n)
    (hk : ∀ h' zs, zs.length = n → h'.size = h.size → (∀ k, k ≠ b → h'[k]? = h[k]?) → Blk h' b (pre ++ zs ++ rest) e → k h') :
    clearV P t (.slice (some ⟨b, o, none⟩) n c) h k := by
  obtain ⟨i0, z, hi, hz, hzs, hbt⟩ := ok.info
  unfold clearV zeroV
  rw [ok.el]
  simp only [hi, hz, storesO, add_mk, Nat.add_zero]
  have e1 : repL (n * z.cells.size) z.cells.toList = List.replicate n z := by
    rw [zcells hzs]
    show repL (n * 1) [z] = _
    rw [Nat.mul_one, repL_one]
  rw [e1]
  refine storesV_blk _ 0 o h pre mid rest (fun v hv => by rw [List.eq_of_mem_replicate hv]; exact hzs) hb (by omega) (by simp; omega) fun h' hz hsm hb' => hk h' _ (by simp) hz hsm hb'
theorem slC_intro {P : Program} {t e : TypeId} {h : Hp} {p : Option Addr} {n c i j m : Nat} {K : Option Addr → Nat → Nat → Prop} (he : elemT P t = some (e, 1)) (h1 : i ≤ j) (h2 : j ≤ m) (h3 : m ≤ c)
    (hk : ∀ a, K a (j - i) (m - i)) : ∃ (a : Option Addr) (l c' : Nat), slC P t (.slice p n c) (some (.int .i64 i)) (some (.int .i64 j)) (.int .i64 m) h a l c' ∧ K a l c' := by
  obtain ⟨hu, inf, hinf, hsz⟩ := elemT_spec he
  refine ⟨_, _, _, ?_, hk (if m = i then p else p.map (·.add (i * inf.size)))⟩
  unfold slC
  simp only [Instr.sliceAt, hq_bind', hq_underlying, hu, Instr.slice, Instr.sliceBounds, Option.isSome_some, if_true]
  have b1 : ∀ {y : Nat} {cd : BoundsCode} {x : Nat} {Q : Nat → Prop}, x ≤ y → Q x → hq P (Instr.sliceBound (.int .i64 (x : Int)) y cd) h Q := fun hxy hq => hq_bound ⟨by omega, by omega⟩ (by rw [Int.toNat_natCast]; exact hq)
  refine b1 h3 ?_
  refine b1 h2 ?_
  refine b1 h1 ?_
  simp only [hq_pure', sizeOf_hq, hinf]
end Go.Sx

set_option maxRecDepth 100000
namespace Go.Proofs.YtkdmcdnfakmapaaGreat
open Go Go.Sx
theorem ovl_int : IsExt Tryz.prog 88 (Extern.SlicesOverlaps.overlaps Tryz.f88.params Tryz.f88.resultTypes) :=
  ⟨Tryz.f88, Tryz.func88, by kernel_rfl, by kernel_rfl, by kernel_rfl, by kernel_rfl⟩
theorem ovl_node : IsExt Tryz.prog 90 (Extern.SlicesOverlaps.overlaps Tryz.f90.params Tryz.f90.resultTypes) :=
  ⟨Tryz.f90, Tryz.func90, by kernel_rfl, by kernel_rfl, by kernel_rfl, by kernel_rfl⟩
abbrev ints (zs : List Int) : List Value := zs.map (Value.int .i64)
abbrev at_ (zs : List Int) (i : Nat) : Int := zs.getD i 0
theorem el_int : ElemOk Tryz.prog 37 3 := elemB_spec (by kernel_rfl)
theorem el_node : ElemOk Tryz.prog 83 60 := elemB_spec (by kernel_rfl)

theorem isNaN_ok (x : Int) (h : Hp) : HCalls Tryz.prog 94 #[.int .i64 x] h (fun v h' => h' = h ∧ v = .bool false) := by
  refine slices_isNaN_int_call ?_
  rw [slices_isNaN_int_b0_eq]
  exact ⟨rfl, by simp⟩
theorem cisNaN_ok (x : Int) (h : Hp) : HCalls Tryz.prog 109 #[.int .i64 x] h (fun v h' => h' = h ∧ v = .bool false) := by
  refine cmp_isNaN_int_call ?_
  rw [cmp_isNaN_int_b0_eq]
  exact ⟨rfl, by simp⟩
theorem Less_ok (x y : Int) (h : Hp) : HCalls Tryz.prog 93 #[.int .i64 x, .int .i64 y] h (fun v h' => h' = h ∧ v = .bool (decide (x < y))) := by
  refine cmp_Less_int_call ?_
  rw [cmp_Less_int_b0_eq]
  refine (cisNaN_ok x h).mono fun v h' ⟨hh, hv⟩ => ?_
  subst hh
  exact ⟨_, hv, rfl, rfl⟩

/-- The place of a key in a sorted list. -/
def IsLb (zs : List Int) (key : Int) (i : Nat) : Prop := i ≤ zs.length ∧ (∀ j, j < i → at_ zs j < key) ∧ ∀ j, i ≤ j → j < zs.length → key ≤ at_ zs j
def Inc (zs : List Int) : Prop := ∀ i j, i < j → j < zs.length → at_ zs i < at_ zs j

theorem Search_ok {h : Hp} {p : Option Addr} {n c : Nat} {zs : List Int} {key : Int} (r : Rd h p n (ints zs)) (hn : n ≤ 1000000) (inc : Inc zs) :
    HCalls Tryz.prog 68 #[.slice p n c, .int .i64 key] h (fun v h' => h' = h ∧ ∃ i : Nat, IsLb zs key i ∧ v = .tuple #[.int .i64 (i : Int), .bool (decide (i < n ∧ at_ zs i = key))]) := by
  have hzl : zs.length = n := by have := r.len; simpa using this
  refine slices_BinarySearch_Sint_int_call ?_
  rw [slices_BinarySearch_Sint_int_b0_eq]
  refine ⟨fun s h' => h' = h ∧ ∃ i j : Nat, s.1 = i ∧ s.2.1 = j ∧ i ≤ j ∧ j ≤ n ∧ (∀ k, k < i → at_ zs k < key) ∧ (∀ k, j ≤ k → k < n → key ≤ at_ zs k), fun s _ => (s.2.1 - s.1).toNat,
    ⟨rfl, 0, n, rfl, rfl, by omega, by omega, fun k hk => by omega, fun k h1 h2 => by omega⟩, ?_⟩
  rintro ⟨si, sj, _⟩ h1 ⟨hh, i, j, hi, hj, hij, hjn, lo, hi'⟩
  subst hh
  simp only at hi hj
  subst hi hj
  dsimp only
  rw [slices_BinarySearch_Sint_int_b1_eq]
  refine condP (fun hlt => ?_) (fun hge => ?_)
  · have hlt' : i < j := by omega
    have e1 : IntKind.u64.wrap ((i : Int) + (j : Int)) = ((i + j : Nat) : Int) := by
      show ((i : Int) + (j : Int)) % 18446744073709551616 = _
      rw [Int.emod_eq_of_lt (by omega) (by omega)]; push_cast; rfl
    refine ⟨⟨by omega, by omega⟩, (((i + j) / 2 : Nat) : Int), ⟨by omega, ?_⟩, ⟨by omega, by omega⟩, ?_⟩
    · rw [e1]
      have : (2 : Int) ^ (min (Int.toNat 1) IntKind.u64.bits) = 2 := by decide
      rw [this]
      rw [Int.fdiv_eq_ediv_of_nonneg _ (by omega)]
      omega
    refine idx_int r (by omega) (by omega) ?_
    have e2 : (((i + j) / 2 : Nat) : Int).toNat = (i + j) / 2 := Int.toNat_natCast _
    rw [e2]
    refine (Less_ok _ _ _).mono fun v h2 ⟨hh, hv⟩ => ?_
    subst hh
    refine ⟨_, hv, condP (fun h3 => ?_) (fun h3 => ?_)⟩
    · refine ⟨⟨by omega, by omega⟩, ⟨rfl, (i + j) / 2 + 1, j, by simp only; omega, rfl, by omega, hjn, fun k hk => ?_, hi'⟩, by simp only; omega⟩
      rcases Nat.lt_or_ge k ((i + j) / 2) with h4 | h4
      · exact Int.lt_trans (inc k ((i + j) / 2) h4 (by omega)) h3
      · have : k = (i + j) / 2 := by omega
        subst this; exact h3
    · refine ⟨⟨rfl, i, (i + j) / 2, rfl, rfl, by omega, by omega, lo, fun k hk hkn => ?_⟩, by simp only; omega⟩
      have h3' : key ≤ at_ zs ((i + j) / 2) := Int.not_lt.1 h3
      rcases Nat.lt_or_ge ((i + j) / 2) k with h4 | h4
      · exact Int.le_trans h3' (Int.le_of_lt (inc _ k h4 (by omega)))
      · have : k = (i + j) / 2 := by omega
        subst this; exact h3'
  · have hij' : i = j := by omega
    subst hij'
    have lb : IsLb zs key i := ⟨by omega, lo, fun k h1 h2 => hi' k h1 (by omega)⟩
    have e : ((i : Nat) : Int).toNat = i := by simp
    rw [slices_BinarySearch_Sint_int_b2_eq]
    refine condP (fun hl => ?_) (fun hl => ?_)
    · refine idx_int r (by omega) (by omega) ?_
      rw [e]
      refine condP (fun he => ?_) (fun he => ?_)
      · have he' : at_ zs i = key := he
        exact ⟨rfl, i, lb, by rw [decide_eq_true (p := i < n ∧ at_ zs i = key) ⟨by omega, he'⟩]⟩
      · have he' : ¬ at_ zs i = key := he
        refine idx_int r (by omega) (by omega) ?_
        refine (isNaN_ok _ _).mono fun v h2 ⟨hh, hv⟩ => ?_
        subst hh
        refine ⟨_, hv, rfl, i, lb, ?_⟩
        rw [decide_eq_false (p := i < n ∧ at_ zs i = key) (fun h4 => he' h4.2)]
    · exact ⟨rfl, i, lb, by rw [decide_eq_false (p := i < n ∧ at_ zs i = key) (fun h4 => by omega)]⟩
end Go.Proofs.YtkdmcdnfakmapaaGreat

set_option maxRecDepth 100000
namespace Go.Proofs.YtkdmcdnfakmapaaGreat
open Go Go.Sx
theorem callX_of {P : Program} {F : Nat → Bool} {g : Nat} {args : Array Value} {h : Hp} {K : Value → Hp → Prop} (hF : F g = true) (hc : HCalls P g args h K) : callX P F g args h K := by
  unfold callX; rw [hF]; exact hc
theorem at_get {zs : List Int} {k : Nat} (hk : k < zs.length) : at_ zs k = zs[k] := by simp [at_, List.getD, hk]
abbrev KeyP (z : Int) : Prop := -1048576 ≤ z ∧ z ≤ 1048576
instance (z : Int) : Decidable (KeyP z) := inferInstanceAs (Decidable (_ ∧ _))
theorem number_c1_ok (z : Int) (h : Hp) : HCalls Tryz.prog 64 #[.int .i64 z] h (fun v h' => h' = h ∧ v = .bool (!decide (KeyP z))) := by
  refine btree_number_c1_call ?_
  rw [btree_number_c1_b0_eq]
  refine condP (fun h1 => ⟨rfl, ?_⟩) (fun h1 => ⟨rfl, ?_⟩)
  · rw [decide_eq_false (by omega)]; rfl
  · by_cases h2 : z ≤ 1048576
    · rw [decide_eq_true (p := KeyP z) (by omega), decide_eq_false (by omega)]; rfl
    · rw [decide_eq_false (p := KeyP z) (by omega), decide_eq_true (by omega)]; rfl
theorem numIndex_ok {h : Hp} {p : Option Addr} {n c : Nat} {zs : List Int} (r : Rd h p n (ints zs)) (hn : n ≤ 1000000) :
    HCalls Tryz.prog 74 #[.slice p n c, .func (.func 64) #[] #[]] h (fun v h' => h' = h ∧ ∃ x : Int, v = .int .i64 x ∧ ((x = -1 ∧ ∀ z ∈ zs, KeyP z) ∨ (0 ≤ x ∧ ∃ z ∈ zs, ¬ KeyP z))) := by
  have hzl : zs.length = n := by have := r.len; simpa using this
  refine slices_IndexFunc_Sint_int_call ?_
  rw [slices_IndexFunc_Sint_int_b0_eq]
  refine ⟨fun s h' => h' = h ∧ ∃ i : Nat, s.1 = i ∧ i ≤ n ∧ ∀ k, k < i → KeyP (at_ zs k), fun s _ => (n - s.1).toNat, ⟨rfl, 0, rfl, by omega, fun k hk => by omega⟩, ?_⟩
  rintro ⟨si, _⟩ h1 ⟨hh, i, hi, hin, ok⟩
  subst hh
  simp only at hi
  subst hi
  dsimp only
  have e : ((i : Nat) : Int).toNat = i := by simp
  rw [slices_IndexFunc_Sint_int_b1_eq]
  refine condP (fun hlt => ?_) (fun hge => ?_)
  · refine idx_int r (by omega) (by omega) ?_
    rw [e]
    show callX Tryz.prog F 64 #[.int .i64 (zs.getD i 0)] _ _
    refine callX_of (by kernel_rfl) ?_
    refine (number_c1_ok _ _).mono fun v h2 ⟨hh, hv⟩ => ?_
    subst hh
    refine ⟨_, hv, cond_intro (fun h3 => ?_) (fun h3 => ?_)⟩
    · have h3' : ¬ KeyP (at_ zs i) := fun h4 => by rw [decide_eq_true h4] at h3; cases h3
      refine ⟨rfl, _, rfl, .inr ⟨by omega, _, ?_, h3'⟩⟩
      rw [at_get (by omega)]; exact List.getElem_mem _
    · have h3' : KeyP (at_ zs i) := Classical.byContradiction fun h4 => by rw [decide_eq_false h4] at h3; cases h3
      rw [slices_IndexFunc_Sint_int_b2_eq]
      refine ⟨⟨by omega, by omega⟩, ⟨rfl, i + 1, by simp only; omega, by omega, fun k hk => ?_⟩, by simp only; omega⟩
      rcases Nat.lt_or_ge k i with h4 | h4
      · exact ok k h4
      · have : k = i := by omega
        subst this; exact h3'
  · rw [slices_IndexFunc_Sint_int_b3_eq]
    refine ⟨rfl, _, rfl, .inl ⟨rfl, fun z hz => ?_⟩⟩
    obtain ⟨k, hk, rfl⟩ := List.getElem_of_mem hz
    have := ok k (by omega)
    rwa [at_get hk] at this
theorem number_ok {h : Hp} {p : Option Addr} {n c : Nat} {zs : List Int} (r : Rd h p n (ints zs)) (hn : n ≤ 1000000) :
    HCalls Tryz.prog 35 #[.slice p n c] h (fun v h' => h' = h ∧ v = .bool (decide (∀ z ∈ zs, KeyP z))) := by
  refine btree_number_call ?_
  rw [btree_number_b0_eq]
  refine (HCalls.mono (K := fun v h' => h' = h ∧ v = .bool (!decide (∀ z ∈ zs, KeyP z))) ?_ ?_)
  · refine slices_ContainsFunc_Sint_int_call ?_
    rw [slices_ContainsFunc_Sint_int_b0_eq]
    refine (numIndex_ok r hn).mono fun v h1 ⟨hh, x, hv, hx⟩ => ?_
    subst hh
    refine ⟨_, hv, rfl, ?_⟩
    rcases hx with ⟨rfl, ha⟩ | ⟨h0, z, hz, hne⟩
    · rw [decide_eq_true ha]; rfl
    · rw [decide_eq_true h0, decide_eq_false (fun ha => hne (ha z hz))]; rfl
  · rintro v h1 ⟨hh, hv⟩
    subst hh
    exact ⟨_, hv, rfl, by simp⟩
theorem number1 {h : Hp} {b : Nat} {x : Int} {e : TypeId} (hb : Blk h b [.int .i64 x] e) : HCalls Tryz.prog 35 #[.slice (some ⟨b, 0, none⟩) 1 1] h (fun v h' => h' = h ∧ v = .bool (decide (KeyP x))) := by
  refine (number_ok (zs := [x]) (Rd.of_blk hb (n := 1) (by simp)) (by omega)).mono fun v h' ⟨hh, hv⟩ => ⟨hh, ?_⟩
  rw [hv]; congr 1; simp
theorem number2 {h : Hp} {b : Nat} {x y : Int} {e : TypeId} (hb : Blk h b [.int .i64 x, .int .i64 y] e) : HCalls Tryz.prog 35 #[.slice (some ⟨b, 0, none⟩) 2 2] h (fun v h' => h' = h ∧ v = .bool (decide (KeyP x ∧ KeyP y))) := by
  refine (number_ok (zs := [x, y]) (Rd.of_blk hb (n := 2) (by simp)) (by omega)).mono fun v h' ⟨hh, hv⟩ => ⟨hh, ?_⟩
  rw [hv]; congr 1; simp
end Go.Proofs.YtkdmcdnfakmapaaGreat

/- Separation: what a heap holds beyond a first heap, as a bag of blocks; slices of elements of any size. -/
namespace Go.Sx
open Go

abbrev Atom := Nat × Obj
def Bag : Type := Quotient (List.isSetoid Atom)
namespace Bag
def zero : Bag := Quotient.mk (List.isSetoid Atom) []
def one (a : Atom) : Bag := Quotient.mk (List.isSetoid Atom) [a]
def mk (l : List Atom) : Bag := Quotient.mk (List.isSetoid Atom) l
def add (A B : Bag) : Bag := Quotient.liftOn₂ A B (fun l m => mk (l ++ m)) fun _ _ _ _ h1 h2 => Quotient.sound (List.Perm.append h1 h2)
instance : Add Bag := ⟨add⟩
instance : OfNat Bag 0 := ⟨zero⟩
theorem mk_add (l m : List Atom) : mk l + mk m = mk (l ++ m) := rfl
theorem zero_mk : (0 : Bag) = mk [] := rfl
theorem one_mk (a : Atom) : one a = mk [a] := rfl
theorem ind {p : Bag → Prop} (h : ∀ l, p (mk l)) (A : Bag) : p A := Quotient.ind h A
theorem mk_eq {l m : List Atom} (h : mk l = mk m) : l.Perm m := Quotient.exact h
theorem eq_mk {l m : List Atom} (h : l.Perm m) : mk l = mk m := Quotient.sound h
theorem assoc (A B C : Bag) : A + B + C = A + (B + C) := by
  induction A using ind; induction B using ind; induction C using ind
  simp only [mk_add, List.append_assoc]
theorem comm (A B : Bag) : A + B = B + A := by
  induction A using ind; induction B using ind
  simp only [mk_add]
  exact eq_mk List.perm_append_comm
theorem add_zero (A : Bag) : A + 0 = A := by
  induction A using ind
  simp only [zero_mk, mk_add, List.append_nil]
theorem zero_add (A : Bag) : 0 + A = A := by rw [comm, add_zero]
instance : Std.Associative (α := Bag) (· + ·) := ⟨assoc⟩
instance : Std.Commutative (α := Bag) (· + ·) := ⟨comm⟩
instance : Std.LawfulIdentity (α := Bag) (· + ·) 0 where
  left_id := zero_add
  right_id := add_zero
end Bag

abbrev cA (b : Nat) (cs : List Value) (e : TypeId) : Bag := Bag.one (b, .cells cs.toArray e (0, 0))

/-- The heap h has all of h0, and beside it these blocks, each once. -/
structure St (h0 h : Hp) (A : Bag) : Prop where
  ext : Ext h0 h
  rep : ∃ l : List Atom, Bag.mk l = A ∧ (l.map Prod.fst).Nodup ∧ ∀ a ∈ l, h0.size ≤ a.1 ∧ h[a.1]? = some a.2
theorem St.of {h0 h : Hp} {l : List Atom} (s : St h0 h (Bag.mk l)) : (l.map Prod.fst).Nodup ∧ ∀ a ∈ l, h0.size ≤ a.1 ∧ h[a.1]? = some a.2 := by
  obtain ⟨m, hm, hn, ha⟩ := s.rep
  have hp := Bag.mk_eq hm
  exact ⟨(hp.map Prod.fst).nodup_iff.1 hn, fun a h => ha a (hp.mem_iff.2 h)⟩
theorem St.mk' {h0 h : Hp} {l : List Atom} (e : Ext h0 h) (hn : (l.map Prod.fst).Nodup) (ha : ∀ a ∈ l, h0.size ≤ a.1 ∧ h[a.1]? = some a.2) : St h0 h (Bag.mk l) := ⟨e, l, rfl, hn, ha⟩
theorem St.to {h0 h : Hp} {A B : Bag} (s : St h0 h A) (e : A = B := by ac_rfl) : St h0 h B := e ▸ s
theorem St.start (h : Hp) : St h h 0 := ⟨Ext.refl h, [], rfl, by simp, by simp⟩
theorem St.head {h0 h : Hp} {b : Nat} {o : Obj} {F : Bag} (s : St h0 h (Bag.one (b, o) + F)) : h0.size ≤ b ∧ h[b]? = some o := by
  induction F using Bag.ind
  rw [Bag.one_mk, Bag.mk_add] at s
  exact s.of.2 (b, o) (by simp)
theorem St.blk {h0 h : Hp} {b : Nat} {cs : List Value} {e : TypeId} {F : Bag} (s : St h0 h (cA b cs e + F)) : Blk h b cs e := s.head.2
theorem St.cell {h0 h : Hp} {b : Nat} {cs : List Value} {e : TypeId} {F : Bag} (s : St h0 h (cA b cs e + F)) (o : Nat) : Sx.cell h ⟨b, o, none⟩ = cs[o]? := s.blk.cell o
theorem St.cellA {h0 h : Hp} {b : Nat} {cs : List Value} {e : TypeId} {F : Bag} (s : St h0 h (cA b cs e + F)) (o : Nat) : Sx.cell h ((⟨b, 0, none⟩ : Addr).add o) = cs[o]? := by rw [add_mk, Nat.zero_add]; exact s.cell o
theorem St.drop {h0 h : Hp} {A F : Bag} (s : St h0 h (A + F)) : St h0 h F := by
  induction A using Bag.ind
  induction F using Bag.ind
  rw [Bag.mk_add] at s
  obtain ⟨hn, ha⟩ := s.of
  rw [List.map_append] at hn
  exact St.mk' s.ext (List.nodup_append.1 hn).2.1 fun a h => ha a (by simp [h])
theorem St.left {h0 h : Hp} {A F : Bag} (s : St h0 h (A + F)) : St h0 h A := by rw [Bag.comm] at s; exact s.drop
theorem St.ne {h0 h : Hp} {b b' : Nat} {o o' : Obj} {F : Bag} (s : St h0 h (Bag.one (b, o) + (Bag.one (b', o') + F))) : b ≠ b' := by
  induction F using Bag.ind
  rw [Bag.one_mk, Bag.one_mk, Bag.mk_add, Bag.mk_add] at s
  have := s.of.1
  simp at this
  exact this.1.1
/-- More blocks, or others written. -/
theorem St.grow {h0 h h' : Hp} {F : Bag} (s : St h0 h F) (x : Ext h h') : St h0 h' F := by
  induction F using Bag.ind
  obtain ⟨hn, ha⟩ := s.of
  exact St.mk' (s.ext.trans x) hn fun a h => ⟨(ha a h).1, x.get (ha a h).2⟩
theorem St.base {h0 h1 h : Hp} {A : Bag} (s : St h1 h A) (x : Ext h0 h1) : St h0 h A := by
  induction A using Bag.ind
  obtain ⟨hn, ha⟩ := s.of
  exact St.mk' (x.trans s.ext) hn fun a h => ⟨Nat.le_trans x.size (ha a h).1, (ha a h).2⟩
theorem St.lt {h0 h : Hp} {l : List Atom} (s : St h0 h (Bag.mk l)) : ∀ a ∈ l, a.1 < h.size := fun a ha => lt_of_blk (s.of.2 a ha).2
/-- What a callee made beside what was there. -/
theorem St.join {h0 h h' : Hp} {F B : Bag} (s : St h0 h F) (t : St h h' B) : St h0 h' (B + F) := by
  induction F using Bag.ind
  induction B using Bag.ind
  rename_i F B
  obtain ⟨hn, ha⟩ := s.of
  obtain ⟨hm, hb⟩ := t.of
  rw [Bag.mk_add]
  refine St.mk' (s.ext.trans t.ext) ?_ fun a h => ?_
  · rw [List.map_append, List.nodup_append]
    refine ⟨hm, hn, fun x hx y hy => ?_⟩
    obtain ⟨x, hx1, rfl⟩ := List.mem_map.1 hx
    obtain ⟨y, hy1, rfl⟩ := List.mem_map.1 hy
    have h1 := (hb x hx1).1
    have h2 := s.lt y hy1
    omega
  · rcases List.mem_append.1 h with h | h
    · exact ⟨Nat.le_trans s.ext.size (hb a h).1, (hb a h).2⟩
    · exact ⟨(ha a h).1, t.ext.get (ha a h).2⟩
theorem St.push {h0 h : Hp} {F : Bag} (s : St h0 h F) (o : Obj) : St h0 (h.push o) (Bag.one (h.size, o) + F) := by
  refine s.join (B := Bag.one (h.size, o)) ?_
  rw [Bag.one_mk]
  exact St.mk' (Ext.push h o) (by simp) (by simp)
theorem St.new {h0 h : Hp} {F : Bag} {cs : List Value} {e : TypeId} {k : Nat → Hp → Prop} (s : St h0 h F) (hk : ∀ b h', Ext h h' → St h0 h' (cA b cs e + F) → k b h') : New h (.cells cs.toArray e) k := hk _ _ (Ext.push _ _) (s.push _)
theorem St.set {h0 h h' : Hp} {F : Bag} {b : Nat} {o o' : Obj} (s : St h0 h (Bag.one (b, o) + F)) (hz : h'.size = h.size) (hs : ∀ j, j ≠ b → h'[j]? = h[j]?) (hb : h'[b]? = some o') : St h0 h' (Bag.one (b, o') + F) := by
  induction F using Bag.ind
  rw [Bag.one_mk, Bag.mk_add] at s ⊢
  obtain ⟨hn, ha⟩ := s.of
  refine St.mk' ⟨by rw [hz]; exact s.ext.size, fun i hi => ?_⟩ (by simpa using hn) fun a h => ?_
  · rw [hs i (by have := (ha (b, o) (by simp)).1; omega)]; exact s.ext.same i hi
  · rcases List.mem_append.1 h with h1 | h1
    · simp at h1; subst h1; exact ⟨(ha (b, o) (by simp)).1, hb⟩
    · refine ⟨(ha a (by simp [h1])).1, ?_⟩
      rw [hs]
      · exact (ha a (by simp [h1])).2
      · rintro rfl
        simp at hn
        exact hn.1 _ h1
theorem St.wr {h0 h : Hp} {F : Bag} {a : Addr} {b o : Nat} {cs : List Value} {e : TypeId} {v : Value} {k : Hp → Prop} (s : St h0 h (cA b cs e + F)) (ha : a = ⟨b, o, none⟩) (ho : o < cs.length)
    (hk : ∀ h', St h0 h' (cA b (cs.set o v) e + F) → k h') : Wr h a v k :=
  Wr_intro ha s.blk ho fun h' hz hs hb => hk h' (s.set hz hs hb)
/-- One block was written, others may have been made. -/
theorem St.write {h0 h h' : Hp} {F : Bag} {b : Nat} {o o' : Obj} (s : St h0 h (Bag.one (b, o) + F)) (hz : h.size ≤ h'.size) (hs : ∀ j, j < h.size → j ≠ b → h'[j]? = h[j]?) (hb : h'[b]? = some o') : St h0 h' (Bag.one (b, o') + F) := by
  induction F using Bag.ind
  rw [Bag.one_mk, Bag.mk_add] at s ⊢
  obtain ⟨hn, ha⟩ := s.of
  refine St.mk' ⟨Nat.le_trans s.ext.size hz, fun i hi => ?_⟩ (by simpa using hn) fun a h => ?_
  · rw [hs i (Nat.lt_of_lt_of_le hi s.ext.size) (by have := (ha (b, o) (by simp)).1; omega)]; exact s.ext.same i hi
  · rcases List.mem_append.1 h with h1 | h1
    · simp at h1; subst h1; exact ⟨(ha (b, o) (by simp)).1, hb⟩
    · refine ⟨(ha a (by simp [h1])).1, ?_⟩
      rw [hs]
      · exact (ha a (by simp [h1])).2
      · exact s.lt a (by simp [h1])
      · rintro rfl
        simp at hn
        exact hn.1 _ h1
theorem St.storesV {h0 : Hp} {F : Bag} {b : Nat} {e : TypeId} {k : Hp → Prop} {h : Hp} (vs : List Value) (o : Nat) (pre mid rest : List Value) (s : St h0 h (cA b (pre ++ mid ++ rest) e + F)) (hs : ∀ v ∈ vs, scalar v = true) (hp : pre.length = o) (hm : mid.length = vs.length)
    (hk : ∀ h', St h0 h' (cA b (pre ++ vs ++ rest) e + F) → k h') : Sx.storesV ⟨b, o, none⟩ k vs 0 h :=
  storesV_blk vs 0 o h pre mid rest hs s.blk (by omega) hm fun h' hz hs' hb => hk h' (s.set hz hs' hb)
/-- Reading what was there before. -/
theorem St.old {h0 h : Hp} {A : Bag} (s : St h0 h A) {b : Nat} {o : Obj} (hb : h0[b]? = some o) : h[b]? = some o := s.ext.get hb

/-- B is A, and C beside. -/
class Bag.Sub (A B : Bag) (C : outParam Bag) : Prop where
  eq : B = A + C
instance Bag.Sub.refl (A : Bag) : Bag.Sub A A 0 := ⟨(Bag.add_zero A).symm⟩
instance Bag.Sub.head (A Y : Bag) : Bag.Sub A (A + Y) Y := ⟨rfl⟩
instance Bag.Sub.left (A X Y C : Bag) [h : Bag.Sub A X C] : Bag.Sub A (X + Y) (C + Y) := ⟨by rw [h.eq, Bag.assoc]⟩
instance Bag.Sub.right (A X Y C : Bag) [h : Bag.Sub A Y C] : Bag.Sub A (X + Y) (X + C) := ⟨by rw [h.eq]; ac_rfl⟩
theorem St.at {h0 h : Hp} {B : Bag} (s : St h0 h B) (A : Bag) {C : Bag} [x : Bag.Sub A B C] : St h0 h (A + C) := x.eq ▸ s

/-! ### element types -/
structure Ty (α : Type) where
  e : TypeId
  sz : Nat
  enc : α → List Value
  d : α
  len : ∀ a, (enc a).length = sz
  pos : 0 < sz
  sc : ∀ a, ∀ v ∈ enc a, scalar v = true
section
variable {α : Type} (T : Ty α)
def Ty.cells (xs : List α) : List Value := xs.flatMap T.enc
theorem Ty.cells_len (xs : List α) : (T.cells xs).length = xs.length * T.sz := by
  induction xs with
  | nil => simp [Ty.cells]
  | cons x r ih => simp only [Ty.cells, List.flatMap_cons, List.length_append, T.len, List.length_cons] at ih ⊢; rw [ih, Nat.add_mul]; omega
theorem Ty.cells_append (xs ys : List α) : T.cells (xs ++ ys) = T.cells xs ++ T.cells ys := by simp [Ty.cells]
theorem Ty.cells_nil : T.cells [] = [] := rfl
theorem Ty.cells_one (x : α) : T.cells [x] = T.enc x := by simp [Ty.cells]
theorem Ty.cells_cons (x : α) (xs : List α) : T.cells (x :: xs) = T.enc x ++ T.cells xs := rfl
theorem Ty.cells_take (xs : List α) (i : Nat) : T.cells (xs.take i) = (T.cells xs).take (i * T.sz) := by
  rcases Nat.lt_or_ge i xs.length with h | h
  · have : T.cells xs = T.cells (xs.take i) ++ T.cells (xs.drop i) := by rw [← T.cells_append, List.take_append_drop]
    have hl : (T.cells (xs.take i)).length = i * T.sz := by rw [T.cells_len, List.length_take, Nat.min_eq_left (by omega)]
    conv => rhs; rw [this]
    exact (List.take_left' hl).symm
  · rw [List.take_of_length_le h, List.take_of_length_le (by rw [T.cells_len]; exact Nat.mul_le_mul_right _ h)]
theorem Ty.cells_drop (xs : List α) (i : Nat) : T.cells (xs.drop i) = (T.cells xs).drop (i * T.sz) := by
  rcases Nat.lt_or_ge i xs.length with h | h
  · have : T.cells xs = T.cells (xs.take i) ++ T.cells (xs.drop i) := by rw [← T.cells_append, List.take_append_drop]
    have hl : (T.cells (xs.take i)).length = i * T.sz := by rw [T.cells_len, List.length_take, Nat.min_eq_left (by omega)]
    conv => rhs; rw [this]
    exact (List.drop_left' hl).symm
  · rw [List.drop_of_length_le h, List.drop_of_length_le (by rw [T.cells_len]; exact Nat.mul_le_mul_right _ h)]; rfl
theorem Ty.cells_sc (xs : List α) : ∀ v ∈ T.cells xs, scalar v = true := by
  intro v hv
  obtain ⟨x, _, hv⟩ := List.mem_flatMap.1 hv
  exact T.sc x v hv
theorem Ty.cells_get (xs : List α) {i j : Nat} (hi : i < xs.length) (hj : j < T.sz) : (T.cells xs)[i * T.sz + j]? = (T.enc (xs.getD i T.d))[j]? := by
  have e1 : xs = xs.take i ++ (xs[i] :: xs.drop (i + 1)) := by rw [← List.drop_eq_getElem_cons hi, List.take_append_drop]
  have hd : xs.getD i T.d = xs[i] := by simp [List.getD, hi]
  rw [hd]
  conv => lhs; rw [e1]
  have hl : (T.cells (xs.take i)).length = i * T.sz := by rw [T.cells_len, List.length_take, Nat.min_eq_left (by omega)]
  rw [T.cells_append, T.cells_cons, List.getElem?_append_right (by omega), hl, Nat.add_sub_cancel_left, List.getElem?_append_left (by rw [T.len]; exact hj)]

/-- A slice that is read. -/
def RdT (h : Hp) (p : Option Addr) (n : Nat) (xs : List α) : Prop := xs.length = n ∧ (n = 0 ∨ ∃ a, p = some a ∧ ∀ i, i < n * T.sz → cell h (a.add i) = (T.cells xs)[i]?)
/-- A slice that owns its block. -/
def Sl (p : Option Addr) (n c : Nat) (xs : List α) (A : Bag) : Prop :=
  xs.length = n ∧ ((p = none ∧ n = 0 ∧ c = 0 ∧ A = 0) ∨ ∃ b rest, p = some ⟨b, 0, none⟩ ∧ n ≤ c ∧ rest.length = (c - n) * T.sz ∧ A = cA b (T.cells xs ++ rest) T.e)
/-- A slice type of such elements. -/
structure ElOk (P : Program) (t : TypeId) : Prop where
  el : elemT P t = some (T.e, T.sz)
  ni : notIntT P t = true
  info : ∃ i0 z, P.info? T.e = some i0 ∧ i0.zero = some z ∧ z.cells.size = T.sz ∧ (∀ v ∈ z.cells.toList, scalar v = true) ∧ i0.bytes ≤ 1024
def elB (P : Program) (t : TypeId) : Bool :=
  (match elemT P t with | some (e', s) => Nat.beq T.e e' && Nat.beq s T.sz | none => false) && (notIntT P t &&
  (match P.info? T.e with | some i0 => (match i0.zero with | some z => Nat.beq z.cells.size T.sz && (z.cells.toList.all scalar && Nat.ble i0.bytes 1024) | none => false) | none => false))
end
section
variable {α : Type} {T : Ty α}
theorem elB_spec {P : Program} {t : TypeId} (h : elB T P t = true) : ElOk T P t := by
  unfold elB at h
  simp only [Bool.and_eq_true] at h
  obtain ⟨h1, h2, h3⟩ := h
  refine ⟨?_, h2, ?_⟩
  · split at h1
    · rename_i e' s he
      simp only [Bool.and_eq_true] at h1
      rw [he, Nat.eq_of_beq_eq_true h1.1, Nat.eq_of_beq_eq_true h1.2]
    · cases h1
  · split at h3
    · rename_i i0 hi
      split at h3
      · rename_i z hz
        simp only [Bool.and_eq_true] at h3
        exact ⟨i0, z, hi, hz, Nat.eq_of_beq_eq_true h3.1, fun v hv => List.all_eq_true.1 h3.2.1 v hv, Nat.le_of_ble_eq_true h3.2.2⟩
      · cases h3
    · cases h3
theorem RdT.len {h : Hp} {p : Option Addr} {n : Nat} {xs : List α} (r : RdT T h p n xs) : xs.length = n := r.1
theorem RdT.nil (h : Hp) (p : Option Addr) : RdT T h p 0 [] := ⟨rfl, .inl rfl⟩
theorem RdT.rd {h : Hp} {p : Option Addr} {n : Nat} {xs : List α} (r : RdT T h p n xs) : Rd h p (n * T.sz) (T.cells xs) := by
  refine ⟨by rw [T.cells_len, r.1], ?_⟩
  rcases r.2 with h0 | h0
  · exact .inl (by rw [h0, Nat.zero_mul])
  · exact .inr h0
theorem RdT.of_rd {h : Hp} {p : Option Addr} {n : Nat} {xs : List α} (hl : xs.length = n) (r : Rd h p (n * T.sz) (T.cells xs)) : RdT T h p n xs := by
  refine ⟨hl, ?_⟩
  rcases r.2 with h0 | h0
  · exact .inl (by rcases Nat.mul_eq_zero.1 h0 with h1 | h1; exact h1; exact absurd h1 (Nat.ne_of_gt T.pos))
  · exact .inr h0
theorem RdT.same {h h' : Hp} {p : Option Addr} {n : Nat} {xs : List α} (r : RdT T h p n xs) (e : ∀ a, p = some a → h'[a.block]? = h[a.block]?) : RdT T h' p n xs := .of_rd r.1 (r.rd.same e)
theorem RdT.ext {h h' : Hp} {p : Option Addr} {n : Nat} {xs : List α} (r : RdT T h p n xs) (e : Ext h h') : RdT T h' p n xs := .of_rd r.1 (r.rd.ext e)
theorem RdT.at_ {h : Hp} {p : Option Addr} {n : Nat} {xs : List α} (r : RdT T h p n xs) {i : Nat} (hi : i < n) : ∃ a, p = some a ∧ ∀ j, j < T.sz → cell h ((a.add (i * T.sz)).add j) = (T.enc (xs.getD i T.d))[j]? := by
  rcases r.2 with h0 | ⟨a, hp, hc⟩
  · omega
  · refine ⟨a, hp, fun j hj => ?_⟩
    rw [add_add, hc, T.cells_get xs (by rw [r.1]; exact hi) hj]
    calc i * T.sz + j < i * T.sz + T.sz := by omega
      _ = (i + 1) * T.sz := by rw [Nat.add_mul, Nat.one_mul]
      _ ≤ n * T.sz := Nat.mul_le_mul_right _ hi
theorem RdT.take {h : Hp} {p : Option Addr} {n i : Nat} {xs : List α} (r : RdT T h p n xs) (hi : i ≤ n) : RdT T h p i (xs.take i) := by
  have hl := r.len
  refine .of_rd (by rw [List.length_take]; omega) ?_
  rw [T.cells_take]
  exact r.rd.take (Nat.mul_le_mul_right _ hi)
theorem RdT.sub {h : Hp} {p : Option Addr} {n c i m : Nat} {xs : List α} (r : RdT T h p n xs) (hi : i ≤ n) (hc : n ≤ c) (hm : m = n - i) : RdT T h (subAddr p c i T.sz) m (xs.drop i) := by
  subst hm
  have hl := r.len
  refine ⟨by simp [hl], ?_⟩
  unfold subAddr
  by_cases h1 : c = i
  · exact .inl (by omega)
  · rw [if_neg h1]
    rcases r.2 with h0 | ⟨a, rfl, hc'⟩
    · exact .inl (by omega)
    · refine .inr ⟨_, rfl, fun j hj => ?_⟩
      rw [Nat.sub_mul] at hj
      rw [add_add, hc' _ (by omega), T.cells_drop, List.getElem?_drop]
theorem RdT.readsL {h : Hp} {p : Option Addr} {n : Nat} {xs : List α} (r : RdT T h p n xs) : Sx.readsL h p (T.cells xs) := by
  rcases r.rd.readsL with h1 | h1
  · exact h1
  · have : T.cells xs = [] := List.eq_nil_of_length_eq_zero (by rw [T.cells_len, r.1]; exact h1)
    rw [this]
    cases p with
    | none => rfl
    | some a => intro i hi; cases hi
theorem Sl.len {p : Option Addr} {n c : Nat} {xs : List α} {A : Bag} (a : Sl T p n c xs A) : xs.length = n := a.1
theorem Sl.cap {p : Option Addr} {n c : Nat} {xs : List α} {A : Bag} (a : Sl T p n c xs A) : n ≤ c := by
  rcases a.2 with ⟨_, h1, h2, _⟩ | ⟨_, _, _, h1, _⟩ <;> omega
theorem Sl.nil : Sl T none 0 0 [] 0 := ⟨rfl, .inl ⟨rfl, rfl, rfl, rfl⟩⟩
theorem Sl.rd {p : Option Addr} {n c : Nat} {xs : List α} {A F : Bag} {h0 h : Hp} (a : Sl T p n c xs A) (s : St h0 h (A + F)) : RdT T h p n xs := by
  rcases a with ⟨hl, ⟨rfl, rfl, rfl, rfl⟩ | ⟨b, rest, rfl, hc, hr, rfl⟩⟩
  · exact ⟨hl, .inl rfl⟩
  · refine .of_rd hl ?_
    have := Rd.of_blk s.blk (n := n * T.sz) (by rw [List.length_append, T.cells_len, hl]; omega)
    rwa [List.take_append_of_le_length (by rw [T.cells_len, hl]; omega), List.take_of_length_le (by rw [T.cells_len, hl]; omega)] at this
theorem Sl.of_blk {b : Nat} {xs : List α} {n : Nat} (hl : xs.length = n) {cs : List Value} (hc : cs = T.cells xs) : Sl T (some ⟨b, 0, none⟩) n n xs (cA b cs T.e) :=
  ⟨hl, .inr ⟨b, [], rfl, Nat.le_refl _, by simp, by rw [List.append_nil, hc]⟩⟩
/-- The first elements of a slice, with its whole capacity. -/
theorem Sl.take {p : Option Addr} {n c i : Nat} {xs : List α} {A : Bag} (a : Sl T p n c xs A) (hi : i ≤ n) : Sl T p i c (xs.take i) A := by
  rcases a with ⟨hl, ⟨rfl, rfl, rfl, rfl⟩ | ⟨b, rest, rfl, hc, hr, rfl⟩⟩
  · have : i = 0 := by omega
    subst this
    exact ⟨by simp, .inl ⟨rfl, rfl, rfl, rfl⟩⟩
  · refine ⟨by rw [List.length_take]; omega, .inr ⟨b, T.cells (xs.drop i) ++ rest, rfl, by omega, ?_, ?_⟩⟩
    · rw [List.length_append, T.cells_len, List.length_drop, hr, hl, ← Nat.add_mul]; congr 1; omega
    · rw [← List.append_assoc, ← T.cells_append, List.take_append_drop]
theorem subAddr_z {p : Option Addr} {c sz : Nat} : subAddr p c 0 sz = p := by
  unfold subAddr
  split
  · rfl
  · cases p <;> simp [Addr.add]
theorem subAddr_in' {b o c i sz : Nat} (h : c ≠ i) : subAddr (some ⟨b, o, none⟩) c i sz = some ⟨b, o + i * sz, none⟩ := by
  unfold subAddr
  rw [if_neg h, Option.map_some, add_mk]
theorem nextcap_le (_n c m : Nat) (h : c < m) : Builtin.nextslicecap m c ≤ 2 * m := by
  unfold Builtin.nextslicecap
  split
  · omega
  · split
    · omega
    · simp only [Builtin.growBy]
      split
      · omega
      · split
        · omega
        · split
          · omega
          · split <;> omega
theorem repL_len (n : Nat) (zs : List Value) : (repL n zs).length = n := by simp [repL]
/-- **append(s, x...)**, s with a block of its own. -/
theorem append_sl {P : Program} {t : TypeId} {h0 h : Hp} {p q : Option Addr} {n c m c2 : Nat} {xs ys : List α} {A F : Bag} {k : Option Addr → Nat → Nat → Hp → Prop}
    (ok : ElOk T P t) (s : St h0 h (A + F)) (a : Sl T p n c xs A) (r : RdT T h q m ys) (hn : n + m < 1073741824)
    (hk : ∀ p' c' h' A', Sl T p' (n + m) c' (xs ++ ys) A' → St h0 h' (A' + F) → k p' (n + m) c' h') :
    appendV P t t (.slice p n c) (.slice q m c2) h (slK k) := by
  obtain ⟨i0, z, hi, hz, hzs, hzc, hbt⟩ := ok.info
  have hyl := r.len
  have hcell : (T.cells ys).length = m * T.sz := by rw [T.cells_len, hyl]
  unfold appendV
  rw [ok.el, ok.ni]
  refine ⟨T.cells ys, hcell, r.readsL, fun hle => ?_, fun hlt => ?_⟩
  · rcases a with ⟨hl, ⟨rfl, rfl, rfl, rfl⟩ | ⟨b, rest, rfl, hc, hr, rfl⟩⟩
    · have : m = 0 := by omega
      subst this
      have : ys = [] := List.eq_nil_of_length_eq_zero hyl
      subst this
      exact hk none 0 h 0 ⟨by rw [List.append_nil]; exact hl, .inl ⟨rfl, rfl, rfl, rfl⟩⟩ s
    · have hm2 : m * T.sz ≤ rest.length := by rw [hr]; exact Nat.mul_le_mul_right _ (by omega)
      have hrest : rest = rest.take (m * T.sz) ++ rest.drop (m * T.sz) := (List.take_append_drop _ rest).symm
      rw [hrest, ← List.append_assoc] at s
      simp only [storesO, add_mk, Nat.zero_add]
      refine s.storesV (T.cells ys) (n * T.sz) (T.cells xs) (rest.take (m * T.sz)) (rest.drop (m * T.sz)) (T.cells_sc ys) (by rw [T.cells_len, hl]) (by rw [List.length_take, hcell]; omega) fun h' s' => ?_
      refine hk _ c h' _ ⟨by simp; omega, .inr ⟨b, rest.drop (m * T.sz), rfl, by omega, ?_, rfl⟩⟩ ?_
      · rw [List.length_drop, hr, ← Nat.sub_mul]; congr 1; omega
      · rwa [T.cells_append]
  · have hncap := nextcap_le n c (n + m) hlt
    have hbt' : bytesT P T.e = i0.bytes := by unfold bytesT; rw [hi]
    have hrx := a.rd s
    refine ⟨⟨?_, by omega⟩, T.cells xs, by rw [T.cells_len, a.len], hrx.readsL, ?_⟩
    · rw [hbt']
      have h1 : Builtin.nextslicecap (n + m) c * i0.bytes ≤ (2 * (n + m)) * 1024 := Nat.mul_le_mul hncap hbt
      omega
    · unfold zeroV
      rw [hi]
      simp only [hz]
      intro c' hc'
      refine s.drop.new fun b h' _ s' => ?_
      refine hk _ c' h' _ ⟨by have := a.len; simp; omega, .inr ⟨b, repL ((c' - (n + m)) * z.cells.size) z.cells.toList, rfl, hc', by rw [repL_len, hzs], rfl⟩⟩ ?_
      rw [T.cells_append]
      exact s'
/-- **out = append(out, x)**. -/
theorem push_sl {P : Program} {t : TypeId} {e' : TypeId} {h0 h : Hp} {p : Option Addr} {n c : Nat} {xs : List α} {x : α} {cs : List Value} {A F : Bag} {k : Option Addr → Nat → Nat → Hp → Prop}
    (ok : ElOk T P t) (s : St h0 h (A + F)) (a : Sl T p n c xs A) (hx : cs = T.enc x) (he : e' = T.e) (hn : n + 1 < 1073741824)
    (hk : ∀ p' c' h' A', Sl T p' (n + 1) c' (xs ++ [x]) A' → St h0 h' (A' + F) → k p' (n + 1) c' h') :
    New h (.cells cs.toArray e') fun b h1 => appendV P t t (.slice p n c) (.slice (some ⟨b, 0, none⟩) 1 1) h1 (slK k) := by
  subst he
  refine s.new fun b h1 _ s1 => ?_
  have sx : Sl T (some ⟨b, 0, none⟩) 1 1 [x] (cA b cs T.e) := Sl.of_blk rfl (by rw [hx, T.cells_one])
  have s2 : St h0 h1 (A + (cA b cs T.e + F)) := s1.to
  refine append_sl ok s2 a (sx.rd s1) hn fun p' c' h' A' a' s' => hk p' c' h' A' a' (s'.to (B := cA b cs T.e + (A' + F))).drop
/-- make, with a length and a capacity. -/
theorem Sl.wr {h0 h : Hp} {p : Option Addr} {n c i j : Nat} {xs : List α} {A F : Bag} {v : Value} {x : α} {k : Hp → Prop} (a : Sl T p n c xs A) (s : St h0 h (A + F)) (hi : i < n) (hj : j < T.sz) (hx : T.enc x = (T.enc (xs.getD i T.d)).set j v)
    (hk : ∀ h' A', Sl T p n c (xs.set i x) A' → St h0 h' (A' + F) → k h') : ∃ ad, p = some ad ∧ Wr h ((ad.add (i * T.sz)).add j) v k := by
  rcases a with ⟨hl, ⟨rfl, rfl, rfl, rfl⟩ | ⟨b, rest, rfl, hc, hr, rfl⟩⟩
  · omega
  · refine ⟨_, rfl, ?_⟩
    have hlt : i * T.sz + j < (T.cells xs).length := by
      rw [T.cells_len, hl]
      calc i * T.sz + j < i * T.sz + T.sz := by omega
        _ = (i + 1) * T.sz := by rw [Nat.add_mul, Nat.one_mul]
        _ ≤ n * T.sz := Nat.mul_le_mul_right _ hi
    refine s.wr (o := i * T.sz + j) (by rw [add_mk, add_mk, Nat.zero_add]) (by rw [List.length_append]; omega) fun h' s' => ?_
    refine hk h' _ ⟨by simp [hl], .inr ⟨b, rest, rfl, hc, hr, rfl⟩⟩ ?_
    have e1 : T.cells (xs.set i x) ++ rest = (T.cells xs ++ rest).set (i * T.sz + j) v := by
      rw [List.set_append_left _ _ hlt]
      congr 1
      have hil : i < xs.length := by omega
      have ed : xs.getD i T.d = xs[i] := by simp [List.getD, hil]
      have e2 : xs = xs.take i ++ (xs[i] :: xs.drop (i + 1)) := by rw [← List.drop_eq_getElem_cons hil, List.take_append_drop]
      have hl2 : (T.cells (xs.take i)).length = i * T.sz := by rw [T.cells_len, List.length_take, Nat.min_eq_left (by omega)]
      have e3 : xs.set i x = xs.take i ++ (x :: xs.drop (i + 1)) := by
        rw [List.set_eq_take_append_cons_drop, if_pos hil]
      rw [e3, T.cells_append, T.cells_cons, hx, ed]
      conv => rhs; rw [e2]
      rw [T.cells_append, T.cells_cons, List.set_append_right _ _ (by omega), hl2, Nat.add_sub_cancel_left, List.set_append_left _ _ (by rw [T.len]; exact hj)]
    rw [e1]
    exact s'
end
end Go.Sx

/- Separation, second part: copy, clear, make, append that fits; slices of one-cell elements. -/
namespace Go.Sx
open Go
section
variable {α : Type} {T : Ty α}
theorem RdT.readsTake {h : Hp} {q : Option Addr} {m j : Nat} {ys : List α} (r : RdT T h q m ys) (hj : j ≤ m) : Sx.readsL h q (T.cells (ys.take j)) := (r.take hj).readsL
/-- 'copy' into a block. -/
theorem copy_st {P : Program} {t : TypeId} {h0 h : Hp} {b o n c1 m c2 j : Nat} {e : TypeId} {q : Option Addr} {pre mid rest : List Value} {ys : List α} {F : Bag} {K : Value → Hp → Prop}
    (ok : ElOk T P t) (s : St h0 h (cA b (pre ++ mid ++ rest) e + F)) (r : RdT T h q j ys) (ho : pre.length = o) (hj : j = min m n) (hm : mid.length = j * T.sz)
    (hk : ∀ v h', St h0 h' (cA b (pre ++ T.cells ys ++ rest) e + F) → K v h') :
    copyV P t (.slice (some ⟨b, o, none⟩) n c1) (.slice q m c2) h K := by
  unfold copyV
  rw [ok.el]
  have hc : (T.cells ys).length = j * T.sz := by rw [T.cells_len, r.len]
  refine ⟨T.cells ys, by rw [hc, hj], r.readsL, ?_⟩
  show storesV ((⟨b, o, none⟩ : Addr).add 0) _ _ 0 h
  rw [add_mk]
  exact s.storesV _ o pre mid rest (T.cells_sc _) ho (by rw [hm, hc]) fun h' s' => hk _ h' s'
theorem repL_scalar (n : Nat) (zs : List Value) (hz : zs ≠ []) (hs : ∀ v ∈ zs, scalar v = true) : ∀ v ∈ repL n zs, scalar v = true := by
  intro v hv
  unfold repL at hv
  obtain ⟨i, _, rfl⟩ := List.mem_map.1 hv
  have hp : 0 < zs.length := List.length_pos_iff.2 hz
  have h1 : i % zs.length < zs.length := Nat.mod_lt _ hp
  rw [nth_eq, List.getElem?_eq_getElem h1]
  exact hs _ (List.getElem_mem h1)
/-- 'append(s, make(S, l)...)' that does not fit. -/
theorem append_make_st {P : Program} {t t2 : TypeId} {h0 h : Hp} {p : Option Addr} {n c : Nat} {l : Int} {xs : List α} {F : Bag} {k : Option Addr → Nat → Nat → Hp → Prop}
    (ok : ElOk T P t) (ht2 : notIntT P t2 = false) (hk2 : (intKindT P t2).isSome = true) (s : St h0 h F)
    (r : RdT T h p n xs) (hn : n + l.toNat < 1073741824) (hl0 : 0 ≤ l) (hc : c < n + l.toNat)
    (hk : ∀ b c' h' mid rest, n + l.toNat ≤ c' → mid.length = l.toNat * T.sz → rest.length = (c' - (n + l.toNat)) * T.sz → St h0 h' (cA b (T.cells xs ++ mid ++ rest) T.e + F) → k (some ⟨b, 0, none⟩) (n + l.toNat) c' h') :
    appendV P t t2 (.slice p n c) (.int .i64 l) h (slK k) := by
  obtain ⟨i0, z, hi, hz, hzs, hzc, hbt⟩ := ok.info
  have hbe : bytesT P T.e = i0.bytes := by unfold bytesT; rw [hi]
  unfold appendV
  rw [ok.el, ht2]
  have hb1 : l * (i0.bytes : Int) ≤ l * 1024 := Int.mul_le_mul_of_nonneg_left (by omega) hl0
  refine ⟨⟨hl0, by omega, by rw [hbe]; omega, Nat.ne_of_gt T.pos, hk2⟩, ?_⟩
  unfold zeroV
  rw [hi]
  simp only [hz]
  refine ⟨fun hle => by omega, fun _ => ⟨⟨?_, by omega⟩, T.cells xs, by rw [T.cells_len, r.len], r.readsL, fun c' hc' => ?_⟩⟩
  · have h1 : Builtin.nextslicecap (n + l.toNat) c * i0.bytes ≤ 2 * (n + l.toNat) * 1024 := Nat.mul_le_mul (nextcap_le n c _ hc) hbt
    rw [hbe]
    omega
  · refine s.new fun b h' _ s' => hk b c' h' _ _ hc' ?_ ?_ s'
    · rw [repL_len, hzs]
    · rw [repL_len, hzs]
/-- 'append' that fits. -/
theorem append_fit_st {P : Program} {t : TypeId} {h0 h : Hp} {b n c m c2 : Nat} {e : TypeId} {q : Option Addr} {pre mid rest : List Value} {ys : List α} {F : Bag} {k : Option Addr → Nat → Nat → Hp → Prop}
    (ok : ElOk T P t) (s : St h0 h (cA b (pre ++ mid ++ rest) e + F)) (hp : pre.length = n * T.sz) (hm : mid.length = m * T.sz) (r : RdT T h q m ys) (hc : n + m ≤ c)
    (hk : ∀ h', St h0 h' (cA b (pre ++ T.cells ys ++ rest) e + F) → k (some ⟨b, 0, none⟩) (n + m) c h') :
    appendV P t t (.slice (some ⟨b, 0, none⟩) n c) (.slice q m c2) h (slK k) := by
  unfold appendV
  rw [ok.el, ok.ni]
  have hcl : (T.cells ys).length = m * T.sz := by rw [T.cells_len, r.len]
  refine ⟨T.cells ys, hcl, r.readsL, fun _ => ?_, fun hlt => by omega⟩
  simp only [storesO, add_mk, Nat.zero_add]
  exact s.storesV _ (n * T.sz) pre mid rest (T.cells_sc _) hp (by rw [hm, hcl]) hk
theorem clear_st {P : Program} {t : TypeId} {h0 h : Hp} {b o n c : Nat} {e : TypeId} {pre mid rest : List Value} {F : Bag} {k : Hp → Prop}
    (ok : ElOk T P t) (s : St h0 h (cA b (pre ++ mid ++ rest) e + F)) (hp : pre.length = o) (hm : mid.length = n * T.sz)
    (hk : ∀ h' zs, zs.length = n * T.sz → St h0 h' (cA b (pre ++ zs ++ rest) e + F) → k h') :
    clearV P t (.slice (some ⟨b, o, none⟩) n c) h k := by
  obtain ⟨i0, z, hi, hz, hzs, hzc, hbt⟩ := ok.info
  unfold clearV zeroV
  rw [ok.el]
  simp only [hi, hz, storesO, add_mk, Nat.add_zero]
  have hne : z.cells.toList ≠ [] := by
    intro h1
    have h2 : z.cells.size = 0 := by rw [← Array.length_toList, h1]; rfl
    have := T.pos
    omega
  refine s.storesV _ o pre mid rest (repL_scalar _ _ hne hzc) hp (by rw [hm, repL_len, hzs]) fun h' s' => hk h' _ (by rw [repL_len, hzs]) s'
/-- The address of an element's cell. -/
theorem RdT.idx {h : Hp} {p : Option Addr} {n : Nat} {xs : List α} {i : Int} {Q : Addr → Prop} (r : RdT T h p n xs) (h0 : 0 ≤ i) (h1 : i < n)
    (hq : ∀ a, p = some a → (∀ j, j < T.sz → cell h ((a.add (i.toNat * T.sz)).add j) = (T.enc (xs.getD i.toNat T.d))[j]?) → Q a) : (0 ≤ i ∧ i < (n : Int)) ∧ NN p Q := by
  refine ⟨⟨h0, h1⟩, ?_⟩
  obtain ⟨a, rfl, hc⟩ := r.at_ (i := i.toNat) (by omega)
  exact hq a rfl hc
/-- An element is written, one cell. -/
theorem Sl.wrI {h0 h : Hp} {p : Option Addr} {n c : Nat} {i : Int} {xs : List α} {A F : Bag} {v : Value} {x : α} {k : Hp → Prop} (a : Sl T p n c xs A) (s : St h0 h (A + F)) (h1 : 0 ≤ i) (hi : i < n) (hsz : T.sz = 1) (hx : T.enc x = [v])
    (hk : ∀ h' A', Sl T p n c (xs.set i.toNat x) A' → St h0 h' (A' + F) → k h') : (0 ≤ i ∧ i < (n : Int)) ∧ NN p fun ad => Wr h (ad.add (i.toNat * 1)) v k := by
  refine ⟨⟨h1, hi⟩, ?_⟩
  obtain ⟨w, hw⟩ : ∃ w, T.enc (xs.getD i.toNat T.d) = [w] := List.length_eq_one_iff.1 (by rw [T.len, hsz])
  obtain ⟨ad, rfl, hwr⟩ := a.wr (i := i.toNat) (j := 0) s (by omega) (by omega) (x := x) (v := v) (by rw [hx, hw]; rfl) hk
  rw [hsz] at hwr
  exact hwr
end
/-! ### one-cell types -/
abbrev tI (e : TypeId) : Ty Int := ⟨e, 1, fun z => [.int .i64 z], 0, fun _ => rfl, by decide, fun _ v hv => by simp at hv; subst hv; rfl⟩
abbrev tP (e : TypeId) : Ty Nat := ⟨e, 1, fun b => [.pointer (some ⟨b, 0, none⟩)], 0, fun _ => rfl, by decide, fun _ v hv => by simp at hv; subst hv; rfl⟩
abbrev tPP (e : TypeId) : Ty (Int × Int) := ⟨e, 2, fun z => [.int .i64 z.1, .int .i64 z.2], (0, 0), fun _ => rfl, by decide, fun _ v hv => by simp at hv; rcases hv with rfl | rfl <;> rfl⟩
theorem tI_cells (e : TypeId) (zs : List Int) : (tI e).cells zs = zs.map (Value.int .i64) := by
  induction zs with
  | nil => rfl
  | cons z r ih => rw [Ty.cells_cons, ih]; rfl
theorem RdT.ints {e : TypeId} {h : Hp} {p : Option Addr} {n : Nat} {zs : List Int} (r : RdT (tI e) h p n zs) : Rd h p n (zs.map (Value.int .i64)) := by
  have := r.rd
  rw [tI_cells] at this
  rwa [show n * (tI e).sz = n from Nat.mul_one n] at this
theorem RdT.of_ints {e : TypeId} {h : Hp} {p : Option Addr} {n : Nat} {zs : List Int} (r : Rd h p n (zs.map (Value.int .i64))) : RdT (tI e) h p n zs := by
  refine .of_rd (by have := r.len; simpa using this) ?_
  rw [tI_cells, show n * (tI e).sz = n from Nat.mul_one n]
  exact r
/-- An integer is loaded. -/
theorem RdT.int {e : TypeId} {h : Hp} {p : Option Addr} {n : Nat} {zs : List Int} {i : Int} {Q : Int → Prop} (r : RdT (tI e) h p n zs) (h0 : 0 ≤ i) (h1 : i < n) (hq : Q (zs.getD i.toNat 0)) :
    (0 ≤ i ∧ i < (n : Int)) ∧ NN p fun a => ∃ x : Int, cell h (a.add (i.toNat * 1)) = some (.int .i64 x) ∧ Q x := idx_int r.ints h0 h1 hq
/-- A pointer is loaded. -/
theorem RdT.ptr {e : TypeId} {h : Hp} {p : Option Addr} {n : Nat} {zs : List Nat} {i : Int} {Q : Option Addr → Prop} (r : RdT (tP e) h p n zs) (h0 : 0 ≤ i) (h1 : i < n) (hq : Q (some ⟨zs.getD i.toNat 0, 0, none⟩)) :
    (0 ≤ i ∧ i < (n : Int)) ∧ NN p fun a => ∃ x : Option Addr, cell h (a.add (i.toNat * 1)) = some (.pointer x) ∧ Q x :=
  r.idx h0 h1 fun _ _ hc => ⟨_, hc 0 Nat.one_pos, hq⟩
/-- What a callee in the older style made. -/
theorem Sl.of_own {e : TypeId} {h0 h h' : Hp} {F : Bag} {q : Option Addr} {m d : Nat} {zs : List Int} (s : St h0 h F) (x : Ext h h') (o : Own h' h.size e q m d (zs.map (Value.int .i64))) : ∃ A, Sl (tI e) q m d zs A ∧ St h0 h' (A + F) := by
  rcases o with ⟨rfl, rfl, rfl, hz⟩ | ⟨b, rest, hb, rfl, hblk, hl, hc⟩
  · have : zs = [] := by simpa using hz
    subst this
    exact ⟨0, Sl.nil, (s.grow x).to⟩
  · refine ⟨cA b ((tI e).cells zs ++ rest) e, ⟨by simpa using hl, .inr ⟨b, rest, rfl, ?_, ?_, rfl⟩⟩, ?_⟩
    · rw [List.length_append, hl] at hc; omega
    · rw [List.length_append, hl] at hc; show _ = (d - m) * 1; omega
    · refine s.join (St.mk' (l := [(b, .cells ((tI e).cells zs ++ rest).toArray e (0, 0))]) x (by simp) (by
        intro a ha
        simp at ha
        subst ha
        exact ⟨hb, by rw [tI_cells]; exact hblk⟩))
end Go.Sx
namespace Go.Sx
open Go
theorem toNat_sub0' (n : Nat) : Int.toNat (n : Int) - Int.toNat 0 = n := by omega
theorem St.atomBlk {h0 h : Hp} {b b' : Nat} {cs cs' : List Value} {e e' : TypeId} {F : Bag} (s : St h0 h (cA b cs e + (cA b' cs' e' + F))) : Blk h b' cs' e' := (s.to (B := cA b' cs' e' + (cA b cs e + F))).blk
/-- A value that is of one element. -/
theorem Sl.one {α : Type} {T : Ty α} {b : Nat} {x : α} {cs : List Value} (hx : cs = T.enc x) : Sl T (some ⟨b, 0, none⟩) 1 1 [x] (cA b cs T.e) := Sl.of_blk rfl (by rw [hx, T.cells_one])
theorem overlaps_st {P : Program} {g : Nat} {ps rs : Array TypeId} {h0 h : Hp} {t e : TypeId} {i0 : TypeInfo} {b1 o1 b2 o2 : Nat} {la ca lb cb : Nat} {xs ys : List Value} {e1 e2 : TypeId} {F : Bag} {K : Value → Prop}
    (hx : IsExt P g (Extern.SlicesOverlaps.overlaps ps rs)) (hp : ps[0]? = some t) (ht : P.underlying t = some (.slice e)) (hi : P.info? e = some i0)
    (s : St h0 h (cA b1 xs e1 + (cA b2 ys e2 + F))) (hk : K (.bool false)) : ExtCall P g #[.slice (some ⟨b1, o1, none⟩) la ca, .slice (some ⟨b2, o2, none⟩) lb cb] h K :=
  overlaps_no hx hp ht hi s.ne s.blk s.atomBlk hk
end Go.Sx
namespace Go.Sx
open Go
theorem slC_st {P : Program} {t e : TypeId} {sz : Nat} {h : Hp} {p : Option Addr} {n c i j m : Nat} {K : Option Addr → Nat → Nat → Prop} (he : elemT P t = some (e, sz)) (h1 : i ≤ j) (h2 : j ≤ m) (h3 : m ≤ c)
    (hk : ∀ a, K a (j - i) (m - i)) : ∃ (a : Option Addr) (l c' : Nat), slC P t (.slice p n c) (some (.int .i64 i)) (some (.int .i64 j)) (.int .i64 m) h a l c' ∧ K a l c' := by
  obtain ⟨hu, inf, hinf, hsz⟩ := elemT_spec he
  refine ⟨_, _, _, ?_, hk (if m = i then p else p.map (·.add (i * inf.size)))⟩
  unfold slC
  simp only [Instr.sliceAt, hq_bind', hq_underlying, hu, Instr.slice, Instr.sliceBounds, Option.isSome_some, if_true]
  have b1 : ∀ {y : Nat} {cd : BoundsCode} {x : Nat} {Q : Nat → Prop}, x ≤ y → Q x → hq P (Instr.sliceBound (.int .i64 (x : Int)) y cd) h Q := fun hxy hq => hq_bound ⟨by omega, by omega⟩ (by rw [Int.toNat_natCast]; exact hq)
  refine b1 h3 ?_
  refine b1 h2 ?_
  refine b1 h1 ?_
  simp only [hq_pure', sizeOf_hq, hinf]
end Go.Sx
namespace Go.Sx
open Go
theorem Sl.cast {α : Type} {T : Ty α} {p : Option Addr} {n n' c : Nat} {xs xs' : List α} {A : Bag} (a : Sl T p n c xs A) (hn : n = n') (hx : xs = xs') : Sl T p n' c xs' A := by subst hn hx; exact a
end Go.Sx
namespace Go.Sx
open Go
/-- An integer is loaded, and its place is known. -/
theorem RdT.intA {e : TypeId} {h : Hp} {p : Option Addr} {n : Nat} {zs : List Int} {i : Int} {Q : Addr → Int → Prop} (r : RdT (tI e) h p n zs) (h0 : 0 ≤ i) (h1 : i < n) (hq : ∀ a, p = some a → Q a (zs.getD i.toNat 0)) :
    (0 ≤ i ∧ i < (n : Int)) ∧ NN p fun a => ∃ x : Int, cell h (a.add (i.toNat * 1)) = some (.int .i64 x) ∧ Q a x :=
  r.idx h0 h1 fun a ha hc => ⟨_, hc 0 Nat.one_pos, hq a ha⟩
/-- It is loaded once more. -/
theorem RdT.again {e : TypeId} {h : Hp} {p : Option Addr} {n : Nat} {zs : List Int} {i : Nat} {a : Addr} {z : Int} (r : RdT (tI e) h p n zs) (ha : p = some a) (hi : i < n) (hz : zs.getD i 0 = z) :
    ∃ m : Int, cell h (a.add (i * 1)) = some (.int .i64 m) ∧ (.int .i64 m : Value) = .int .i64 z := by
  obtain ⟨a', ha', hc⟩ := r.at_ hi
  rw [ha] at ha'
  cases ha'
  exact ⟨_, hc 0 Nat.one_pos, by rw [← hz]⟩
end Go.Sx

/- Lists of things that own blocks. -/
namespace Go.Sx
open Go
def AllH {α β : Type} (P : β → α → Bag → Prop) : List β → List α → Bag → Prop
  | [], [], A => A = 0
  | b :: bs, t :: ts, A => ∃ A1 A2, A = A1 + A2 ∧ P b t A1 ∧ AllH P bs ts A2
  | _, _, _ => False
section
variable {α β : Type} {P : β → α → Bag → Prop}
theorem AllH.len : ∀ {bs : List β} {ts : List α} {A : Bag}, AllH P bs ts A → bs.length = ts.length
  | [], [], _, _ => rfl
  | [], _ :: _, _, h => h.elim
  | _ :: _, [], _, h => h.elim
  | _ :: bs, _ :: ts, _, ⟨_, _, _, _, h⟩ => by simp [AllH.len h]
theorem AllH.append : ∀ {bs : List β} {ts : List α} {A : Bag} {bs' : List β} {ts' : List α} {A' : Bag}, AllH P bs ts A → AllH P bs' ts' A' → AllH P (bs ++ bs') (ts ++ ts') (A + A')
  | [], [], _, _, _, A', h, h' => by
    obtain rfl : _ = (0 : Bag) := h
    rw [Bag.zero_add]; exact h'
  | [], _ :: _, _, _, _, _, h, _ => h.elim
  | _ :: _, [], _, _, _, _, h, _ => h.elim
  | _ :: _, _ :: _, _, _, _, _, ⟨A1, A2, e, h1, h2⟩, h' => ⟨A1, _, by rw [e, Bag.assoc], h1, AllH.append h2 h'⟩
theorem AllH.split : ∀ (bs : List β) (ts : List α) {A : Bag} {bs' : List β} {ts' : List α}, bs.length = ts.length → AllH P (bs ++ bs') (ts ++ ts') A → ∃ A1 A2, A = A1 + A2 ∧ AllH P bs ts A1 ∧ AllH P bs' ts' A2
  | [], [], A, _, _, _, h => ⟨0, A, (Bag.zero_add A).symm, rfl, h⟩
  | [], _ :: _, _, _, _, hl, _ => by simp at hl
  | _ :: _, [], _, _, _, hl, _ => by simp at hl
  | _ :: bs, _ :: ts, _, _, _, hl, ⟨A1, A2, e, h1, h2⟩ => by
    obtain ⟨B1, B2, e2, k1, k2⟩ := AllH.split bs ts (by simpa using hl) h2
    exact ⟨A1 + B1, B2, by rw [e, e2, Bag.assoc], ⟨A1, B1, rfl, h1, k1⟩, k2⟩
theorem AllH.one {b : β} {t : α} {A : Bag} (h : P b t A) : AllH P [b] [t] A := ⟨A, 0, (Bag.add_zero A).symm, h, rfl⟩
theorem AllH.mono {Q : β → α → Bag → Prop} (hm : ∀ b t A, P b t A → Q b t A) : ∀ {bs : List β} {ts : List α} {A : Bag}, AllH P bs ts A → AllH Q bs ts A
  | [], [], _, h => h
  | [], _ :: _, _, h => h.elim
  | _ :: _, [], _, h => h.elim
  | _ :: _, _ :: _, _, ⟨A1, A2, e, h1, h2⟩ => ⟨A1, A2, e, hm _ _ _ h1, AllH.mono hm h2⟩
end
section
variable {α β : Type} {P : β → α → Bag → Prop}
theorem AllH.pick {d : α} {d' : β} : ∀ {bs : List β} {ts : List α} {A : Bag} {i : Nat}, AllH P bs ts A → i < bs.length → ∃ Ai B, A = Ai + B ∧ P (bs.getD i d') (ts.getD i d) Ai
  | [], _, _, _, _, h => by simp at h
  | _ :: _, [], _, _, h, _ => h.elim
  | b :: bs, t :: ts, _, 0, ⟨A1, A2, e, h1, _⟩, _ => ⟨A1, A2, e, h1⟩
  | b :: bs, t :: ts, _, i + 1, ⟨A1, A2, e, _, h2⟩, hi => by
    obtain ⟨Ai, B, e2, h3⟩ := AllH.pick (d := d) (d' := d') h2 (i := i) (by simpa using hi)
    exact ⟨Ai, A1 + B, by rw [e, e2]; ac_rfl, by simpa using h3⟩
end
/-- Slices as elements. -/
abbrev SH := Option Addr × Nat × Nat
abbrev tS (e : TypeId) : Ty SH := ⟨e, 1, fun s => [.slice s.1 s.2.1 s.2.2], (none, 0, 0), fun _ => rfl, by decide, fun _ v hv => by simp at hv; subst hv; rfl⟩
/-- A slice of things that own blocks. -/
def Nest {α : Type} (e : TypeId) (P : SH → α → Bag → Prop) (s : SH) (xs : List α) (B : Bag) : Prop :=
  ∃ hs B0 B1, B = B0 + B1 ∧ Sl (tS e) s.1 s.2.1 s.2.2 hs B0 ∧ AllH P hs xs B1
theorem Nest.nil {α : Type} {e : TypeId} {P : SH → α → Bag → Prop} : Nest e P (none, 0, 0) [] 0 := ⟨[], 0, 0, (Bag.add_zero 0).symm, Sl.nil, rfl⟩
theorem Nest.len {α : Type} {e : TypeId} {P : SH → α → Bag → Prop} {s : SH} {xs : List α} {B : Bag} (n : Nest e P s xs B) : xs.length = s.2.1 := by
  obtain ⟨hs, B0, B1, _, h1, h2⟩ := n
  rw [← h2.len, h1.len]
/-- 'out = append(out, x)' of a slice x. -/
theorem push_nest {α : Type} {P : Program} {t e e' : TypeId} {Q : SH → α → Bag → Prop} {h0 h : Hp} {p : Option Addr} {n c : Nat} {q : Option Addr} {m d : Nat} {xs : List α} {x : α} {A B G : Bag} {k : Option Addr → Nat → Nat → Hp → Prop}
    (ok : ElOk (tS e) P t) (s : St h0 h (A + (B + G))) (a : Nest e Q (p, n, c) xs A) (b : Q (q, m, d) x B) (he : e' = e) (hn : n + 1 < 1073741824)
    (hk : ∀ p' c' h' A', Nest e Q (p', n + 1, c') (xs ++ [x]) A' → St h0 h' (A' + G) → k p' (n + 1) c' h') :
    New h (.cells #[.slice q m d] e') fun b h1 => appendV P t t (.slice p n c) (.slice (some ⟨b, 0, none⟩) 1 1) h1 (slK k) := by
  obtain ⟨hs, B0, B1, rfl, h1, h2⟩ := a
  have s1 : St h0 h (B0 + (B1 + (B + G))) := s.to
  refine push_sl (cs := [.slice q m d]) ok s1 h1 (x := (q, m, d)) rfl he hn fun p' c' h' A' a' s' => ?_
  exact hk p' c' h' (A' + (B1 + B)) ⟨hs ++ [(q, m, d)], A', B1 + B, rfl, a', h2.append (AllH.one b)⟩ s'.to
/-- An element of such a slice. -/
theorem Nest.at_ {α : Type} {e : TypeId} {P : SH → α → Bag → Prop} {s : SH} {xs : List α} {B G : Bag} {h0 h : Hp} {i : Int} {d : α} {Q : Option Addr → Nat → Nat → Prop} (n : Nest e P s xs B) (st : St h0 h (B + G)) (hi0 : 0 ≤ i) (hi : i < s.2.1)
    (hq : ∀ p l c Bi Br, P (p, l, c) (xs.getD i.toNat d) Bi → B = Bi + Br → Q p l c) :
    (0 ≤ i ∧ i < (s.2.1 : Int)) ∧ NN s.1 fun a => ∃ (p : Option Addr) (l c : Nat), cell h (a.add (i.toNat * 1)) = some (.slice p l c) ∧ Q p l c := by
  obtain ⟨hs, B0, B1, rfl, h1, h2⟩ := n
  have r := h1.rd (st.to (B := B0 + (B1 + G)))
  refine r.idx hi0 hi fun a _ hc => ?_
  have hl := h1.len
  obtain ⟨Bi, Br, hB, hp⟩ := h2.pick (d := d) (d' := (none, 0, 0)) (i := i.toNat) (by omega)
  exact ⟨_, _, _, hc 0 Nat.one_pos, hq _ _ _ Bi (B0 + Br) hp (by rw [hB]; ac_rfl)⟩
end Go.Sx

/- slices.Clone, Insert of one element, Delete of one element. -/
set_option maxRecDepth 100000
namespace Go.Proofs.YtkdmcdnfakmapaaGreat
open Go Go.Sx
theorem ok_int : ElOk (tI 3) Tryz.prog 37 := elB_spec (by kernel_rfl)
theorem cloneI_st {h : Hp} {p : Option Addr} {n c : Nat} {xs : List Int} (r : RdT (tI 3) h p n xs) (hn : n < 1000000) :
    HCalls Tryz.prog 40 #[.slice p n c] h (fun v h' => ∃ q d A, v = .slice q n d ∧ Sl (tI 3) q n d xs A ∧ St h h' A) := by
  refine slices_Clone_Sint_int_call ?_
  rw [slices_Clone_Sint_int_b0_eq]
  refine cond_intro (fun h1 => ?_) (fun h1 => ?_)
  · have hp : p = none := by cases p with | none => rfl | some a => cases h1
    subst hp
    obtain rfl : n = 0 := by
      rcases r.2 with h2 | ⟨a, h2, _⟩
      · exact h2
      · cases h2
    have : xs = [] := List.eq_nil_of_length_eq_zero r.1
    subst this
    exact ⟨_, _, 0, rfl, Sl.nil, St.start h⟩
  · refine (St.start h).new (cs := []) fun b h1 x s1 => ?_
    have o : Sl (tI 3) (some ⟨b, 0, none⟩) 0 0 [] (cA b [] (tI 3).e) := Sl.of_blk rfl rfl
    refine append_sl ok_int s1 o (r.ext x) (by omega) fun p' c' h' A' a' s' => ?_
    rw [List.nil_append, Nat.zero_add] at a'
    rw [Nat.zero_add]
    exact ⟨_, _, A', rfl, a', s'.to⟩
theorem insertI_st {h0 h : Hp} {p : Option Addr} {n c i bv : Nat} {xs : List Int} {x : Int} {cs : List Value} {A F : Bag} (s : St h0 h (A + (cA bv cs (tI 3).e + F))) (a : Sl (tI 3) p n c xs A)
    (hcs : cs = (tI 3).enc x) (hi : i ≤ n) (hn : n < 1000000) :
    HCalls Tryz.prog 65 #[.slice p n c, .int .i64 (i : Int), .slice (some ⟨bv, 0, none⟩) 1 1] h (fun v h' => ∃ p' c' A', v = .slice p' (n + 1) c' ∧ Sl (tI 3) p' (n + 1) c' (xs.take i ++ x :: xs.drop i) A' ∧ St h0 h' (A' + (cA bv cs (tI 3).e + F))) := by
  have hcap := a.cap
  have hlen := a.len
  have one : Sl (tI 3) (some ⟨bv, 0, none⟩) 1 1 [x] (cA bv cs (tI 3).e) := Sl.one hcs
  have rv : RdT (tI 3) h (some ⟨bv, 0, none⟩) 1 [x] := one.rd (s.to (B := cA bv cs (tI 3).e + (A + F)))
  refine slices_Insert_Sint_int_call ?_
  rw [slices_Insert_Sint_int_b0_eq]
  refine ⟨⟨by omega, by omega, by omega⟩, condNo (by decide) ?_⟩
  have e1 : Int.toNat (i : Int) = i := Int.toNat_natCast i
  have e0 : Int.toNat (0 : Int) = 0 := rfl
  refine condP (fun h1 => ?_) (fun h1 => ?_)
  · have : i = n := by omega
    subst this
    refine append_sl ok_int s a rv (by omega) fun p' c' h' A' a' s' => ?_
    refine ⟨p', c', A', rfl, ?_, s'⟩
    rw [List.take_of_length_le (by omega), List.drop_eq_nil_of_le (by omega)]
    exact a'
  have hin : i < n := by omega
  have hti : ((tI 3).cells (xs.take i)).length = i * (tI 3).sz := by rw [(tI 3).cells_len, List.length_take]; congr 1; omega
  refine ⟨⟨by omega, by omega⟩, condP (fun h2 => ?_) (fun h2 => ?_)⟩
  · -- a new block
    have hcn : c < n + 1 := by omega
    refine ⟨⟨by omega, by omega, by omega⟩, ⟨by omega, by omega⟩, ⟨by omega, by omega⟩, ?_⟩
    rw [e0, e1, subAddr_z, Nat.sub_zero, Nat.sub_zero]
    have rt : RdT (tI 3) h p i (xs.take i) := (a.rd s).take (by omega)
    have el : (((n : Int) + ((1 : Nat) : Int)) - (i : Int)).toNat = n + 1 - i := by omega
    refine append_make_st ok_int (by kernel_rfl) (by kernel_rfl) s rt (by omega) (by omega) (by omega) fun b c' h' mid rest hc' hm hr s1 => ?_
    rw [el] at hm hr hc' ⊢
    have hl2 : i + (n + 1 - i) = n + 1 := by omega
    rw [hl2] at hr hc' ⊢
    refine ⟨⟨by omega, by omega, by omega⟩, ?_⟩
    have e2 : Int.toNat (((n + 1 : Nat) : Nat) : Int) = n + 1 := Int.toNat_natCast _
    have e3 : Int.toNat ((i : Int) + ((1 : Nat) : Int)) = i + 1 := by omega
    have e4 : Int.toNat (n : Int) = n := Int.toNat_natCast _
    rw [e2, e3, e4]
    have es1 : subAddr (some ⟨b, 0, none⟩) c' i (tI 3).sz = some ⟨b, i * (tI 3).sz, none⟩ := by rw [subAddr_in' (by omega), Nat.zero_add]
    have es2 : subAddr (some ⟨b, 0, none⟩) c' (i + 1) (tI 3).sz = some ⟨b, (i + 1) * (tI 3).sz, none⟩ := by rw [subAddr_in' (by omega), Nat.zero_add]
    rw [show subAddr (some ⟨b, 0, none⟩) c' i 1 = some ⟨b, i * (tI 3).sz, none⟩ from es1, show subAddr (some ⟨b, 0, none⟩) c' (i + 1) 1 = some ⟨b, (i + 1) * (tI 3).sz, none⟩ from es2]
    have hm1 : mid.length = (tI 3).sz + (n - i) * (tI 3).sz := by rw [hm, show n + 1 - i = 1 + (n - i) by omega, Nat.add_mul, Nat.one_mul]
    have em : mid = mid.take (tI 3).sz ++ mid.drop (tI 3).sz := (List.take_append_drop _ _).symm
    have s2 : St h0 h' (cA b ((tI 3).cells (xs.take i) ++ mid.take (tI 3).sz ++ (mid.drop (tI 3).sz ++ rest)) (tI 3).e + (A + (cA bv cs (tI 3).e + F))) := by
      have e : (tI 3).cells (xs.take i) ++ mid.take (tI 3).sz ++ (mid.drop (tI 3).sz ++ rest) = (tI 3).cells (xs.take i) ++ mid ++ rest := by
        conv => rhs; rw [em]
        simp only [List.append_assoc]
      rw [e]; exact s1
    have rv2 : RdT (tI 3) h' (some ⟨bv, 0, none⟩) 1 [x] := one.rd (s2.to (B := cA bv cs (tI 3).e + (cA b _ _ + (A + F))))
    refine copy_st (j := 1) ok_int s2 rv2 hti (by omega) (by rw [List.length_take]; omega) fun v1 h3 s3 => ?_
    refine ⟨⟨by omega, by omega⟩, ⟨by omega, by omega, by omega⟩, ⟨by omega, by omega, by omega⟩, ?_⟩
    rw [(tI 3).cells_one] at s3
    have s4 : St h0 h3 (cA b (((tI 3).cells (xs.take i) ++ (tI 3).enc x) ++ mid.drop (tI 3).sz ++ rest) (tI 3).e + (A + (cA bv cs (tI 3).e + F))) := by
      have e : ((tI 3).cells (xs.take i) ++ (tI 3).enc x) ++ mid.drop (tI 3).sz ++ rest = (tI 3).cells (xs.take i) ++ (tI 3).enc x ++ (mid.drop (tI 3).sz ++ rest) := by simp only [List.append_assoc]
      rw [e]; exact s3
    have ra : RdT (tI 3) h3 p n xs := a.rd (s4.to (B := A + (cA b _ _ + (cA bv cs (tI 3).e + F))))
    have rs := ra.sub hi hcap rfl
    refine copy_st (j := n - i) ok_int s4 rs (by rw [List.length_append, hti, (tI 3).len, Nat.add_mul, Nat.one_mul]) (by omega) (by rw [List.length_drop, hm1, Nat.add_sub_cancel_left]) fun v2 h4 s5 => ?_
    refine ⟨_, _, _, rfl, ⟨by simp; omega, .inr ⟨b, rest, rfl, hc', hr, rfl⟩⟩, ?_⟩
    rw [(tI 3).cells_append, (tI 3).cells_cons]
    have e : (tI 3).cells (xs.take i) ++ ((tI 3).enc x ++ (tI 3).cells (xs.drop i)) ++ rest = (tI 3).cells (xs.take i) ++ (tI 3).enc x ++ (tI 3).cells (xs.drop i) ++ rest := by simp only [List.append_assoc]
    rw [e]
    exact (s5.to (B := A + (cA b _ _ + (cA bv cs (tI 3).e + F)))).drop
  · -- in place
    have hcn : n + 1 ≤ c := by omega
    rcases a with ⟨hl, ⟨rfl, h3, _, _⟩ | ⟨b, rest, rfl, hc, hr, rfl⟩⟩
    · omega
    have a : Sl (tI 3) (some ⟨b, 0, none⟩) n c xs (cA b ((tI 3).cells xs ++ rest) (tI 3).e) := ⟨hl, .inr ⟨b, rest, rfl, hc, hr, rfl⟩⟩
    have e3 : Int.toNat ((i : Int) + ((1 : Nat) : Int)) = i + 1 := by omega
    have e4 : Int.toNat (n : Int) = n := Int.toNat_natCast _
    have e5 : Int.toNat ((n : Int) + ((1 : Nat) : Int)) = n + 1 := by omega
    have e6 : Int.toNat (((n + 1 : Nat) : Nat) : Int) = n + 1 := Int.toNat_natCast _
    simp only [e0, e1, e3, e4, e5, e6, subAddr_z, Nat.sub_zero]
    refine ⟨⟨by omega, by omega⟩, ⟨by omega, by omega, by omega⟩, ⟨by omega, by omega⟩, ⟨by omega, by omega, by omega⟩, ?_⟩
    have es1 : subAddr (some ⟨b, 0, none⟩) c (i + 1) (tI 3).sz = some ⟨b, (i + 1) * (tI 3).sz, none⟩ := by rw [subAddr_in' (by omega), Nat.zero_add]
    rw [show subAddr (some ⟨b, 0, none⟩) c (i + 1) 1 = some ⟨b, (i + 1) * (tI 3).sz, none⟩ from es1]
    obtain ⟨i0, z, hi0, hz, hzs, hzc, hbt⟩ := (ok_int).info
    have hrl : (tI 3).sz ≤ rest.length := by rw [hr]; calc (tI 3).sz = 1 * (tI 3).sz := (Nat.one_mul _).symm
                                              _ ≤ (c - n) * (tI 3).sz := Nat.mul_le_mul_right _ (by omega)
    have er : rest = rest.take (tI 3).sz ++ rest.drop (tI 3).sz := (List.take_append_drop _ _).symm
    refine overlaps_st ovl_int (t := 37) (e := 3) (by kernel_rfl) (by kernel_rfl) hi0 (s.to (B := cA bv cs (tI 3).e + (cA b _ _ + F))) ⟨_, rfl, ?_⟩
    refine ⟨⟨by omega, by omega⟩, ⟨by omega, by omega, by omega⟩, ⟨by omega, by omega, by omega⟩, ?_⟩
    -- the elements from i on move by one
    have hdl : ((tI 3).cells (xs.drop i)).length = (n - i) * (tI 3).sz := by rw [(tI 3).cells_len, List.length_drop, hl]
    have hd1l : ((tI 3).cells (xs.drop (i + 1))).length = (n - (i + 1)) * (tI 3).sz := by rw [(tI 3).cells_len, List.length_drop, hl]
    have ht1 : ((tI 3).cells (xs.take (i + 1))).length = (i + 1) * (tI 3).sz := by rw [(tI 3).cells_len, List.length_take]; congr 1; omega
    have s1 : St h0 h (cA b ((tI 3).cells (xs.take (i + 1)) ++ ((tI 3).cells (xs.drop (i + 1)) ++ rest.take (tI 3).sz) ++ rest.drop (tI 3).sz) (tI 3).e + (cA bv cs (tI 3).e + F)) := by
      have e : (tI 3).cells (xs.take (i + 1)) ++ ((tI 3).cells (xs.drop (i + 1)) ++ rest.take (tI 3).sz) ++ rest.drop (tI 3).sz = (tI 3).cells xs ++ rest := by
        rw [List.append_assoc, List.append_assoc, ← er, ← List.append_assoc, ← (tI 3).cells_append, List.take_append_drop]
      rw [e]; exact s
    have rx : RdT (tI 3) h (some ⟨b, 0, none⟩) n xs := a.rd s
    have rs : RdT (tI 3) h (subAddr (some ⟨b, 0, none⟩) c i (tI 3).sz) (n - i) (xs.drop i) := rx.sub hi hcap rfl
    refine copy_st (j := n - i) ok_int s1 rs ht1 (by omega) (by rw [List.length_append, hd1l, List.length_take, Nat.min_eq_left hrl, show n - i = (n - (i + 1)) + 1 by omega, Nat.add_mul, Nat.one_mul]) fun v4 h5 s5 => ?_
    refine ⟨⟨by omega, by omega, by omega⟩, ?_⟩
    have es2 : subAddr (some ⟨b, 0, none⟩) c i (tI 3).sz = some ⟨b, i * (tI 3).sz, none⟩ := by rw [subAddr_in' (by omega), Nat.zero_add]
    rw [show subAddr (some ⟨b, 0, none⟩) c i 1 = some ⟨b, i * (tI 3).sz, none⟩ from es2]
    have s6 : St h0 h5 (cA b ((tI 3).cells (xs.take i) ++ (tI 3).enc xs[i] ++ ((tI 3).cells (xs.drop i) ++ rest.drop (tI 3).sz)) (tI 3).e + (cA bv cs (tI 3).e + F)) := by
      have e : (tI 3).cells (xs.take i) ++ (tI 3).enc xs[i] ++ ((tI 3).cells (xs.drop i) ++ rest.drop (tI 3).sz) = (tI 3).cells (xs.take (i + 1)) ++ (tI 3).cells (xs.drop i) ++ rest.drop (tI 3).sz := by
        rw [List.take_succ_eq_append_getElem (by omega), (tI 3).cells_append, (tI 3).cells_one]; simp only [List.append_assoc]
      rw [e]; exact s5
    have rv5 : RdT (tI 3) h5 (some ⟨bv, 0, none⟩) 1 [x] := one.rd (s6.to (B := cA bv cs (tI 3).e + (cA b _ _ + F)))
    refine copy_st (j := 1) ok_int s6 rv5 hti (by omega) (by rw [(tI 3).len, Nat.one_mul]) fun v5 h6 s7 => ?_
    refine ⟨_, _, _, rfl, ⟨by simp; omega, .inr ⟨b, rest.drop (tI 3).sz, rfl, hcn, ?_, rfl⟩⟩, ?_⟩
    · rw [List.length_drop, hr, show c - n = (c - (n + 1)) + 1 by omega, Nat.add_mul, Nat.one_mul]; omega
    · rw [(tI 3).cells_one] at s7
      rw [(tI 3).cells_append, (tI 3).cells_cons]
      have e : (tI 3).cells (xs.take i) ++ ((tI 3).enc x ++ (tI 3).cells (xs.drop i)) ++ rest.drop (tI 3).sz = (tI 3).cells (xs.take i) ++ (tI 3).enc x ++ ((tI 3).cells (xs.drop i) ++ rest.drop (tI 3).sz) := by simp only [List.append_assoc]
      rw [e]
      exact s7
theorem deleteI_st {h0 h : Hp} {p : Option Addr} {n c i : Nat} {j : Int} {xs : List Int} {A F : Bag} (s : St h0 h (A + F)) (a : Sl (tI 3) p n c xs A) (hi : i < n) (hj : j = (i : Int) + 1) (hn : n < 1000000) :
    HCalls Tryz.prog 84 #[.slice p n c, .int .i64 (i : Int), .int .i64 j] h (fun v h' => ∃ A', v = .slice p (n - 1) c ∧ Sl (tI 3) p (n - 1) c (xs.take i ++ xs.drop (i + 1)) A' ∧ St h0 h' (A' + F)) := by
  obtain rfl : j = ((i + 1 : Nat) : Int) := by omega
  have hcap := a.cap
  have hlen := a.len
  have rd := a.rd s
  refine slices_Delete_Sint_int_call ?_
  rw [slices_Delete_Sint_int_b0_eq]
  refine slC_st (ok_int).el (by omega) (by omega) hcap fun _ => condP (fun h1 => by omega) (fun _ => ?_)
  have e1 : Int.toNat (i : Int) = i := Int.toNat_natCast i
  have e2 : Int.toNat ((i + 1 : Nat) : Int) = i + 1 := Int.toNat_natCast _
  have e3 : Int.toNat (n : Int) = n := Int.toNat_natCast _
  have e0 : Int.toNat (0 : Int) = 0 := rfl
  refine ⟨⟨by omega, by omega, by omega⟩, ⟨by omega, by omega, by omega⟩, ?_⟩
  rw [e0, e1, e2, e3, subAddr_z, Nat.sub_zero, Nat.sub_zero]
  rcases a with ⟨hl, ⟨rfl, h3, _, _⟩ | ⟨b, rest, rfl, hc, hr, rfl⟩⟩
  · omega
  have hti : ((tI 3).cells (xs.take i)).length = i * (tI 3).sz := by rw [(tI 3).cells_len, List.length_take]; congr 1; omega
  have hdl : ((tI 3).cells (xs.drop i)).length = (n - i) * (tI 3).sz := by rw [(tI 3).cells_len, List.length_drop, hl]
  have hd1l : ((tI 3).cells (xs.drop (i + 1))).length = (n - (i + 1)) * (tI 3).sz := by rw [(tI 3).cells_len, List.length_drop, hl]
  have s1 : St h0 h (cA b ((tI 3).cells (xs.take i) ++ ((tI 3).cells (xs.drop i)).take ((n - (i + 1)) * (tI 3).sz) ++ (((tI 3).cells (xs.drop i)).drop ((n - (i + 1)) * (tI 3).sz) ++ rest)) (tI 3).e + F) := by
    have e : (tI 3).cells (xs.take i) ++ ((tI 3).cells (xs.drop i)).take ((n - (i + 1)) * (tI 3).sz) ++ (((tI 3).cells (xs.drop i)).drop ((n - (i + 1)) * (tI 3).sz) ++ rest) = (tI 3).cells xs ++ rest := by
      rw [List.append_assoc, ← List.append_assoc _ _ rest, List.take_append_drop, ← List.append_assoc, ← (tI 3).cells_append, List.take_append_drop]
    rw [e]; exact s
  have hle : (n - (i + 1)) * (tI 3).sz ≤ (n - i) * (tI 3).sz := Nat.mul_le_mul_right _ (by omega)
  refine append_fit_st ok_int s1 hti (by rw [List.length_take, hdl]; omega) (rd.sub (by omega) hcap rfl) (by omega) fun h' s2 => ?_
  refine ⟨⟨by omega, by omega, by omega⟩, ?_⟩
  have e4 : Int.toNat ((i + (n - (i + 1)) : Nat) : Int) = n - 1 := by omega
  have e5 : i + (n - (i + 1)) = n - 1 := by omega
  rw [e4, show subAddr (some ⟨b, 0, none⟩) c (n - 1) 1 = some ⟨b, (n - 1) * (tI 3).sz, none⟩ by rw [show subAddr (some ⟨b, 0, none⟩) c (n - 1) 1 = subAddr (some ⟨b, 0, none⟩) c (n - 1) (tI 3).sz from rfl, subAddr_in' (by omega), Nat.zero_add]]
  rw [← (tI 3).cells_append, ← List.append_assoc] at s2
  have hl1 : (xs.take i ++ xs.drop (i + 1)).length = n - 1 := by rw [List.length_append, List.length_take, List.length_drop]; omega
  have hn1 : n - (n - 1) = 1 := by omega
  refine clear_st ok_int s2 (by rw [(tI 3).cells_len, hl1]) (by
    rw [List.length_drop, hdl, ← Nat.sub_mul]; congr 1; omega) fun h2 zs hzl s3 => ?_
  rw [e5]
  refine ⟨_, rfl, ⟨hl1, .inr ⟨b, zs ++ rest, rfl, by omega, ?_, rfl⟩⟩, ?_⟩
  · rw [List.length_append, hzl, hr, ← Nat.add_mul]; congr 1; omega
  · rw [← List.append_assoc]; exact s3
theorem ok_node : ElOk (tP 60) Tryz.prog 83 := elB_spec (by kernel_rfl)
theorem cloneP_st {h : Hp} {p : Option Addr} {n c : Nat} {xs : List Nat} (r : RdT (tP 60) h p n xs) (hn : n < 1000000) :
    HCalls Tryz.prog 92 #[.slice p n c] h (fun v h' => ∃ q d A, v = .slice q n d ∧ Sl (tP 60) q n d xs A ∧ St h h' A) := by
  refine slices_Clone_btree_node_btree_node_call ?_
  rw [slices_Clone_btree_node_btree_node_b0_eq]
  refine cond_intro (fun h1 => ?_) (fun h1 => ?_)
  · have hp : p = none := by cases p with | none => rfl | some a => cases h1
    subst hp
    obtain rfl : n = 0 := by
      rcases r.2 with h2 | ⟨a, h2, _⟩
      · exact h2
      · cases h2
    have : xs = [] := List.eq_nil_of_length_eq_zero r.1
    subst this
    exact ⟨_, _, 0, rfl, Sl.nil, St.start h⟩
  · refine (St.start h).new (cs := []) fun b h1 x s1 => ?_
    have o : Sl (tP 60) (some ⟨b, 0, none⟩) 0 0 [] (cA b [] (tP 60).e) := Sl.of_blk rfl rfl
    refine append_sl ok_node s1 o (r.ext x) (by omega) fun p' c' h' A' a' s' => ?_
    rw [List.nil_append, Nat.zero_add] at a'
    rw [Nat.zero_add]
    exact ⟨_, _, A', rfl, a', s'.to⟩
theorem insertP_st {h0 h : Hp} {p : Option Addr} {n c i bv : Nat} {xs : List Nat} {x : Nat} {cs : List Value} {A F : Bag} (s : St h0 h (A + (cA bv cs (tP 60).e + F))) (a : Sl (tP 60) p n c xs A)
    (hcs : cs = (tP 60).enc x) (hi : i ≤ n) (hn : n < 1000000) :
    HCalls Tryz.prog 66 #[.slice p n c, .int .i64 (i : Int), .slice (some ⟨bv, 0, none⟩) 1 1] h (fun v h' => ∃ p' c' A', v = .slice p' (n + 1) c' ∧ Sl (tP 60) p' (n + 1) c' (xs.take i ++ x :: xs.drop i) A' ∧ St h0 h' (A' + (cA bv cs (tP 60).e + F))) := by
  have hcap := a.cap
  have hlen := a.len
  have one : Sl (tP 60) (some ⟨bv, 0, none⟩) 1 1 [x] (cA bv cs (tP 60).e) := Sl.one hcs
  have rv : RdT (tP 60) h (some ⟨bv, 0, none⟩) 1 [x] := one.rd (s.to (B := cA bv cs (tP 60).e + (A + F)))
  refine slices_Insert_btree_node_btree_node_call ?_
  rw [slices_Insert_btree_node_btree_node_b0_eq]
  refine ⟨⟨by omega, by omega, by omega⟩, condNo (by decide) ?_⟩
  have e1 : Int.toNat (i : Int) = i := Int.toNat_natCast i
  have e0 : Int.toNat (0 : Int) = 0 := rfl
  refine condP (fun h1 => ?_) (fun h1 => ?_)
  · have : i = n := by omega
    subst this
    refine append_sl ok_node s a rv (by omega) fun p' c' h' A' a' s' => ?_
    refine ⟨p', c', A', rfl, ?_, s'⟩
    rw [List.take_of_length_le (by omega), List.drop_eq_nil_of_le (by omega)]
    exact a'
  have hin : i < n := by omega
  have hti : ((tP 60).cells (xs.take i)).length = i * (tP 60).sz := by rw [(tP 60).cells_len, List.length_take]; congr 1; omega
  refine ⟨⟨by omega, by omega⟩, condP (fun h2 => ?_) (fun h2 => ?_)⟩
  · -- a new block
    have hcn : c < n + 1 := by omega
    refine ⟨⟨by omega, by omega, by omega⟩, ⟨by omega, by omega⟩, ⟨by omega, by omega⟩, ?_⟩
    rw [e0, e1, subAddr_z, Nat.sub_zero, Nat.sub_zero]
    have rt : RdT (tP 60) h p i (xs.take i) := (a.rd s).take (by omega)
    have el : (((n : Int) + ((1 : Nat) : Int)) - (i : Int)).toNat = n + 1 - i := by omega
    refine append_make_st ok_node (by kernel_rfl) (by kernel_rfl) s rt (by omega) (by omega) (by omega) fun b c' h' mid rest hc' hm hr s1 => ?_
    rw [el] at hm hr hc' ⊢
    have hl2 : i + (n + 1 - i) = n + 1 := by omega
    rw [hl2] at hr hc' ⊢
    refine ⟨⟨by omega, by omega, by omega⟩, ?_⟩
    have e2 : Int.toNat (((n + 1 : Nat) : Nat) : Int) = n + 1 := Int.toNat_natCast _
    have e3 : Int.toNat ((i : Int) + ((1 : Nat) : Int)) = i + 1 := by omega
    have e4 : Int.toNat (n : Int) = n := Int.toNat_natCast _
    rw [e2, e3, e4]
    have es1 : subAddr (some ⟨b, 0, none⟩) c' i (tP 60).sz = some ⟨b, i * (tP 60).sz, none⟩ := by rw [subAddr_in' (by omega), Nat.zero_add]
    have es2 : subAddr (some ⟨b, 0, none⟩) c' (i + 1) (tP 60).sz = some ⟨b, (i + 1) * (tP 60).sz, none⟩ := by rw [subAddr_in' (by omega), Nat.zero_add]
    rw [show subAddr (some ⟨b, 0, none⟩) c' i 1 = some ⟨b, i * (tP 60).sz, none⟩ from es1, show subAddr (some ⟨b, 0, none⟩) c' (i + 1) 1 = some ⟨b, (i + 1) * (tP 60).sz, none⟩ from es2]
    have hm1 : mid.length = (tP 60).sz + (n - i) * (tP 60).sz := by rw [hm, show n + 1 - i = 1 + (n - i) by omega, Nat.add_mul, Nat.one_mul]
    have em : mid = mid.take (tP 60).sz ++ mid.drop (tP 60).sz := (List.take_append_drop _ _).symm
    have s2 : St h0 h' (cA b ((tP 60).cells (xs.take i) ++ mid.take (tP 60).sz ++ (mid.drop (tP 60).sz ++ rest)) (tP 60).e + (A + (cA bv cs (tP 60).e + F))) := by
      have e : (tP 60).cells (xs.take i) ++ mid.take (tP 60).sz ++ (mid.drop (tP 60).sz ++ rest) = (tP 60).cells (xs.take i) ++ mid ++ rest := by
        conv => rhs; rw [em]
        simp only [List.append_assoc]
      rw [e]; exact s1
    have rv2 : RdT (tP 60) h' (some ⟨bv, 0, none⟩) 1 [x] := one.rd (s2.to (B := cA bv cs (tP 60).e + (cA b _ _ + (A + F))))
    refine copy_st (j := 1) ok_node s2 rv2 hti (by omega) (by rw [List.length_take]; omega) fun v1 h3 s3 => ?_
    refine ⟨⟨by omega, by omega⟩, ⟨by omega, by omega, by omega⟩, ⟨by omega, by omega, by omega⟩, ?_⟩
    rw [(tP 60).cells_one] at s3
    have s4 : St h0 h3 (cA b (((tP 60).cells (xs.take i) ++ (tP 60).enc x) ++ mid.drop (tP 60).sz ++ rest) (tP 60).e + (A + (cA bv cs (tP 60).e + F))) := by
      have e : ((tP 60).cells (xs.take i) ++ (tP 60).enc x) ++ mid.drop (tP 60).sz ++ rest = (tP 60).cells (xs.take i) ++ (tP 60).enc x ++ (mid.drop (tP 60).sz ++ rest) := by simp only [List.append_assoc]
      rw [e]; exact s3
    have ra : RdT (tP 60) h3 p n xs := a.rd (s4.to (B := A + (cA b _ _ + (cA bv cs (tP 60).e + F))))
    have rs := ra.sub hi hcap rfl
    refine copy_st (j := n - i) ok_node s4 rs (by rw [List.length_append, hti, (tP 60).len, Nat.add_mul, Nat.one_mul]) (by omega) (by rw [List.length_drop, hm1, Nat.add_sub_cancel_left]) fun v2 h4 s5 => ?_
    refine ⟨_, _, _, rfl, ⟨by simp; omega, .inr ⟨b, rest, rfl, hc', hr, rfl⟩⟩, ?_⟩
    rw [(tP 60).cells_append, (tP 60).cells_cons]
    have e : (tP 60).cells (xs.take i) ++ ((tP 60).enc x ++ (tP 60).cells (xs.drop i)) ++ rest = (tP 60).cells (xs.take i) ++ (tP 60).enc x ++ (tP 60).cells (xs.drop i) ++ rest := by simp only [List.append_assoc]
    rw [e]
    exact (s5.to (B := A + (cA b _ _ + (cA bv cs (tP 60).e + F)))).drop
  · -- in place
    have hcn : n + 1 ≤ c := by omega
    rcases a with ⟨hl, ⟨rfl, h3, _, _⟩ | ⟨b, rest, rfl, hc, hr, rfl⟩⟩
    · omega
    have a : Sl (tP 60) (some ⟨b, 0, none⟩) n c xs (cA b ((tP 60).cells xs ++ rest) (tP 60).e) := ⟨hl, .inr ⟨b, rest, rfl, hc, hr, rfl⟩⟩
    have e3 : Int.toNat ((i : Int) + ((1 : Nat) : Int)) = i + 1 := by omega
    have e4 : Int.toNat (n : Int) = n := Int.toNat_natCast _
    have e5 : Int.toNat ((n : Int) + ((1 : Nat) : Int)) = n + 1 := by omega
    have e6 : Int.toNat (((n + 1 : Nat) : Nat) : Int) = n + 1 := Int.toNat_natCast _
    simp only [e0, e1, e3, e4, e5, e6, subAddr_z, Nat.sub_zero]
    refine ⟨⟨by omega, by omega⟩, ⟨by omega, by omega, by omega⟩, ⟨by omega, by omega⟩, ⟨by omega, by omega, by omega⟩, ?_⟩
    have es1 : subAddr (some ⟨b, 0, none⟩) c (i + 1) (tP 60).sz = some ⟨b, (i + 1) * (tP 60).sz, none⟩ := by rw [subAddr_in' (by omega), Nat.zero_add]
    rw [show subAddr (some ⟨b, 0, none⟩) c (i + 1) 1 = some ⟨b, (i + 1) * (tP 60).sz, none⟩ from es1]
    obtain ⟨i0, z, hi0, hz, hzs, hzc, hbt⟩ := (ok_node).info
    have hrl : (tP 60).sz ≤ rest.length := by rw [hr]; calc (tP 60).sz = 1 * (tP 60).sz := (Nat.one_mul _).symm
                                              _ ≤ (c - n) * (tP 60).sz := Nat.mul_le_mul_right _ (by omega)
    have er : rest = rest.take (tP 60).sz ++ rest.drop (tP 60).sz := (List.take_append_drop _ _).symm
    refine overlaps_st ovl_node (t := 83) (e := 60) (by kernel_rfl) (by kernel_rfl) hi0 (s.to (B := cA bv cs (tP 60).e + (cA b _ _ + F))) ⟨_, rfl, ?_⟩
    refine ⟨⟨by omega, by omega⟩, ⟨by omega, by omega, by omega⟩, ⟨by omega, by omega, by omega⟩, ?_⟩
    -- the elements from i on move by one
    have hdl : ((tP 60).cells (xs.drop i)).length = (n - i) * (tP 60).sz := by rw [(tP 60).cells_len, List.length_drop, hl]
    have hd1l : ((tP 60).cells (xs.drop (i + 1))).length = (n - (i + 1)) * (tP 60).sz := by rw [(tP 60).cells_len, List.length_drop, hl]
    have ht1 : ((tP 60).cells (xs.take (i + 1))).length = (i + 1) * (tP 60).sz := by rw [(tP 60).cells_len, List.length_take]; congr 1; omega
    have s1 : St h0 h (cA b ((tP 60).cells (xs.take (i + 1)) ++ ((tP 60).cells (xs.drop (i + 1)) ++ rest.take (tP 60).sz) ++ rest.drop (tP 60).sz) (tP 60).e + (cA bv cs (tP 60).e + F)) := by
      have e : (tP 60).cells (xs.take (i + 1)) ++ ((tP 60).cells (xs.drop (i + 1)) ++ rest.take (tP 60).sz) ++ rest.drop (tP 60).sz = (tP 60).cells xs ++ rest := by
        rw [List.append_assoc, List.append_assoc, ← er, ← List.append_assoc, ← (tP 60).cells_append, List.take_append_drop]
      rw [e]; exact s
    have rx : RdT (tP 60) h (some ⟨b, 0, none⟩) n xs := a.rd s
    have rs : RdT (tP 60) h (subAddr (some ⟨b, 0, none⟩) c i (tP 60).sz) (n - i) (xs.drop i) := rx.sub hi hcap rfl
    refine copy_st (j := n - i) ok_node s1 rs ht1 (by omega) (by rw [List.length_append, hd1l, List.length_take, Nat.min_eq_left hrl, show n - i = (n - (i + 1)) + 1 by omega, Nat.add_mul, Nat.one_mul]) fun v4 h5 s5 => ?_
    refine ⟨⟨by omega, by omega, by omega⟩, ?_⟩
    have es2 : subAddr (some ⟨b, 0, none⟩) c i (tP 60).sz = some ⟨b, i * (tP 60).sz, none⟩ := by rw [subAddr_in' (by omega), Nat.zero_add]
    rw [show subAddr (some ⟨b, 0, none⟩) c i 1 = some ⟨b, i * (tP 60).sz, none⟩ from es2]
    have s6 : St h0 h5 (cA b ((tP 60).cells (xs.take i) ++ (tP 60).enc xs[i] ++ ((tP 60).cells (xs.drop i) ++ rest.drop (tP 60).sz)) (tP 60).e + (cA bv cs (tP 60).e + F)) := by
      have e : (tP 60).cells (xs.take i) ++ (tP 60).enc xs[i] ++ ((tP 60).cells (xs.drop i) ++ rest.drop (tP 60).sz) = (tP 60).cells (xs.take (i + 1)) ++ (tP 60).cells (xs.drop i) ++ rest.drop (tP 60).sz := by
        rw [List.take_succ_eq_append_getElem (by omega), (tP 60).cells_append, (tP 60).cells_one]; simp only [List.append_assoc]
      rw [e]; exact s5
    have rv5 : RdT (tP 60) h5 (some ⟨bv, 0, none⟩) 1 [x] := one.rd (s6.to (B := cA bv cs (tP 60).e + (cA b _ _ + F)))
    refine copy_st (j := 1) ok_node s6 rv5 hti (by omega) (by rw [(tP 60).len, Nat.one_mul]) fun v5 h6 s7 => ?_
    refine ⟨_, _, _, rfl, ⟨by simp; omega, .inr ⟨b, rest.drop (tP 60).sz, rfl, hcn, ?_, rfl⟩⟩, ?_⟩
    · rw [List.length_drop, hr, show c - n = (c - (n + 1)) + 1 by omega, Nat.add_mul, Nat.one_mul]; omega
    · rw [(tP 60).cells_one] at s7
      rw [(tP 60).cells_append, (tP 60).cells_cons]
      have e : (tP 60).cells (xs.take i) ++ ((tP 60).enc x ++ (tP 60).cells (xs.drop i)) ++ rest.drop (tP 60).sz = (tP 60).cells (xs.take i) ++ (tP 60).enc x ++ ((tP 60).cells (xs.drop i) ++ rest.drop (tP 60).sz) := by simp only [List.append_assoc]
      rw [e]
      exact s7
theorem deleteP_st {h0 h : Hp} {p : Option Addr} {n c i : Nat} {j : Int} {xs : List Nat} {A F : Bag} (s : St h0 h (A + F)) (a : Sl (tP 60) p n c xs A) (hi : i < n) (hj : j = (i : Int) + 1) (hn : n < 1000000) :
    HCalls Tryz.prog 106 #[.slice p n c, .int .i64 (i : Int), .int .i64 j] h (fun v h' => ∃ A', v = .slice p (n - 1) c ∧ Sl (tP 60) p (n - 1) c (xs.take i ++ xs.drop (i + 1)) A' ∧ St h0 h' (A' + F)) := by
  obtain rfl : j = ((i + 1 : Nat) : Int) := by omega
  have hcap := a.cap
  have hlen := a.len
  have rd := a.rd s
  refine slices_Delete_btree_node_btree_node_call ?_
  rw [slices_Delete_btree_node_btree_node_b0_eq]
  refine slC_st (ok_node).el (by omega) (by omega) hcap fun _ => condP (fun h1 => by omega) (fun _ => ?_)
  have e1 : Int.toNat (i : Int) = i := Int.toNat_natCast i
  have e2 : Int.toNat ((i + 1 : Nat) : Int) = i + 1 := Int.toNat_natCast _
  have e3 : Int.toNat (n : Int) = n := Int.toNat_natCast _
  have e0 : Int.toNat (0 : Int) = 0 := rfl
  refine ⟨⟨by omega, by omega, by omega⟩, ⟨by omega, by omega, by omega⟩, ?_⟩
  rw [e0, e1, e2, e3, subAddr_z, Nat.sub_zero, Nat.sub_zero]
  rcases a with ⟨hl, ⟨rfl, h3, _, _⟩ | ⟨b, rest, rfl, hc, hr, rfl⟩⟩
  · omega
  have hti : ((tP 60).cells (xs.take i)).length = i * (tP 60).sz := by rw [(tP 60).cells_len, List.length_take]; congr 1; omega
  have hdl : ((tP 60).cells (xs.drop i)).length = (n - i) * (tP 60).sz := by rw [(tP 60).cells_len, List.length_drop, hl]
  have hd1l : ((tP 60).cells (xs.drop (i + 1))).length = (n - (i + 1)) * (tP 60).sz := by rw [(tP 60).cells_len, List.length_drop, hl]
  have s1 : St h0 h (cA b ((tP 60).cells (xs.take i) ++ ((tP 60).cells (xs.drop i)).take ((n - (i + 1)) * (tP 60).sz) ++ (((tP 60).cells (xs.drop i)).drop ((n - (i + 1)) * (tP 60).sz) ++ rest)) (tP 60).e + F) := by
    have e : (tP 60).cells (xs.take i) ++ ((tP 60).cells (xs.drop i)).take ((n - (i + 1)) * (tP 60).sz) ++ (((tP 60).cells (xs.drop i)).drop ((n - (i + 1)) * (tP 60).sz) ++ rest) = (tP 60).cells xs ++ rest := by
      rw [List.append_assoc, ← List.append_assoc _ _ rest, List.take_append_drop, ← List.append_assoc, ← (tP 60).cells_append, List.take_append_drop]
    rw [e]; exact s
  have hle : (n - (i + 1)) * (tP 60).sz ≤ (n - i) * (tP 60).sz := Nat.mul_le_mul_right _ (by omega)
  refine append_fit_st ok_node s1 hti (by rw [List.length_take, hdl]; omega) (rd.sub (by omega) hcap rfl) (by omega) fun h' s2 => ?_
  refine ⟨⟨by omega, by omega, by omega⟩, ?_⟩
  have e4 : Int.toNat ((i + (n - (i + 1)) : Nat) : Int) = n - 1 := by omega
  have e5 : i + (n - (i + 1)) = n - 1 := by omega
  rw [e4, show subAddr (some ⟨b, 0, none⟩) c (n - 1) 1 = some ⟨b, (n - 1) * (tP 60).sz, none⟩ by rw [show subAddr (some ⟨b, 0, none⟩) c (n - 1) 1 = subAddr (some ⟨b, 0, none⟩) c (n - 1) (tP 60).sz from rfl, subAddr_in' (by omega), Nat.zero_add]]
  rw [← (tP 60).cells_append, ← List.append_assoc] at s2
  have hl1 : (xs.take i ++ xs.drop (i + 1)).length = n - 1 := by rw [List.length_append, List.length_take, List.length_drop]; omega
  have hn1 : n - (n - 1) = 1 := by omega
  refine clear_st ok_node s2 (by rw [(tP 60).cells_len, hl1]) (by
    rw [List.length_drop, hdl, ← Nat.sub_mul]; congr 1; omega) fun h2 zs hzl s3 => ?_
  rw [e5]
  refine ⟨_, rfl, ⟨hl1, .inr ⟨b, zs ++ rest, rfl, by omega, ?_, rfl⟩⟩, ?_⟩
  · rw [List.length_append, hzl, hr, ← Nat.add_mul]; congr 1; omega
  · rw [← List.append_assoc]; exact s3
end Go.Proofs.YtkdmcdnfakmapaaGreat

/- B-trees in the heap: nodes, subtrees, splitting. -/
set_option maxRecDepth 100000
namespace Go.Proofs.YtkdmcdnfakmapaaGreat
open Go Go.Sx
abbrev TI : Ty Int := tI 3
abbrev TP : Ty Nat := tP 60
abbrev E := Int × Int
abbrev ptr (b : Nat) : Value := .pointer (some ⟨b, 0, none⟩)
theorem Blk.cellA {h : Hp} {b : Nat} {cs : List Value} {e : TypeId} (hb : Blk h b cs e) (o : Nat) : cell h ((⟨b, 0, none⟩ : Addr).add o) = cs[o]? := by rw [add_mk, Nat.zero_add]; exact hb.cell o

/-- A node's own blocks. -/
structure NodeS (b : Nat) (es : List E) (ks : List Nat) (p1 p2 p3 : Option Addr) (c1 c2 c3 : Nat) (A1 A2 A3 : Bag) : Prop where
  s1 : Sl TI p1 es.length c1 (es.map Prod.fst) A1
  s2 : Sl TI p2 es.length c2 (es.map Prod.snd) A2
  s3 : Sl TP p3 ks.length c3 ks A3
abbrev nodeC (b : Nat) (n m : Nat) (p1 p2 p3 : Option Addr) (c1 c2 c3 : Nat) : Bag := cA b [.slice p1 n c1, .slice p2 n c2, .slice p3 m c3] 86
def NodeA (b : Nat) (es : List E) (ks : List Nat) (A : Bag) : Prop :=
  ∃ p1 p2 p3 c1 c2 c3 A1 A2 A3, A = nodeC b es.length ks.length p1 p2 p3 c1 c2 c3 + (A1 + (A2 + A3)) ∧ NodeS b es ks p1 p2 p3 c1 c2 c3 A1 A2 A3

theorem leaf_ok {h0 h : Hp} {b : Nat} {es : List E} {ks : List Nat} {A F : Bag} (s : St h0 h (A + F)) (na : NodeA b es ks A) :
    HCalls Tryz.prog 60 #[ptr b] h (fun v h' => h' = h ∧ v = .bool (decide (ks.length = 0))) := by
  obtain ⟨p1, p2, p3, c1, c2, c3, A1, A2, A3, rfl, ns⟩ := na
  refine btree_node_leaf_call ?_
  rw [btree_node_leaf_b0_eq]
  refine ⟨_, _, _, (s.to (B := nodeC b _ _ p1 p2 p3 c1 c2 c3 + (A1 + (A2 + A3) + F))).cellA 2, rfl, ?_⟩
  congr 1
  exact decide_eq_decide.2 (by omega)

theorem split_b1_ok {h0 h : Hp} {b m : Nat} {es : List E} {p1 p2 p3 : Option Addr} {c1 c2 c3 m3 : Nat} {A1 A2 F : Bag} {key value : Int} {right : Option Addr} {K : Value → Hp → Prop}
    (s : St h0 h (nodeC b es.length m3 p1 p2 p3 c1 c2 c3 + (A1 + (A2 + F)))) (a1 : Sl TI p1 es.length c1 (es.map Prod.fst) A1) (a2 : Sl TI p2 es.length c2 (es.map Prod.snd) A2) (hm : m ≤ es.length) (hsz : es.length < 1000)
    (hk : ∀ h' q1 q2 d1 d2 B1 B2, St h0 h' (nodeC b m m3 q1 q2 p3 d1 d2 c3 + (B1 + (B2 + F))) → Sl TI q1 m d1 ((es.take m).map Prod.fst) B1 → Sl TI q2 m d2 ((es.take m).map Prod.snd) B2 → K (.tuple #[.int .i64 key, .int .i64 value, .pointer right]) h') :
    btree_split_b1 (some ⟨b, 0, none⟩) (m : Int) key value right h K := by
  have l1 := a1.cap
  have l2 := a2.cap
  rw [btree_split_b1_eq]
  have kb := s.blk
  refine ⟨_, _, _, kb.cell 0, ⟨by omega, by omega, by omega⟩, _, _, _, Blk.cellA kb 1, ⟨by omega, by omega, by omega⟩, ?_⟩
  have e0 : Int.toNat (0 : Int) = 0 := rfl
  rw [e0, Int.toNat_natCast, Nat.sub_zero, Nat.sub_zero, Nat.sub_zero, subAddr_z, subAddr_z]
  have r1 : RdT TI h p1 m ((es.take m).map Prod.fst) := by rw [List.map_take]; exact (a1.rd (s.at A1)).take hm
  have r2 : RdT TI h p2 m ((es.take m).map Prod.snd) := by rw [List.map_take]; exact (a2.rd (s.at A2)).take hm
  refine (cloneI_st r1 (by omega)).mono fun v1 h1 ⟨q1, d1, B1, hv1, o1, t1⟩ => ?_
  refine ⟨_, _, _, hv1, ⟨⟨by omega, by omega, by omega⟩, rfl⟩, ⟨_, _, _, Blk.cellA (kb.ext t1.ext) 1, rfl⟩, ?_⟩
  refine (cloneI_st (r2.ext t1.ext) (by omega)).mono fun v2 h2 ⟨q2, d2, B2, hv2, o2, t2⟩ => ?_
  refine ⟨_, _, _, hv2, ?_⟩
  have s2 := ((s.join t1).join t2).to (B := nodeC b es.length m3 p1 p2 p3 c1 c2 c3 + (A1 + A2 + (B1 + (B2 + F))))
  refine s2.wr rfl (by simp) fun h3 s3 => ?_
  refine s3.wr (o := 1) (add_mk _ _ _) (by simp) fun h4 s4 => ?_
  exact hk h4 q1 q2 d1 d2 B1 B2 (s4.to (B := (A1 + A2) + (nodeC b m m3 q1 q2 p3 d1 d2 c3 + (B1 + (B2 + F))))).drop o1 o2
theorem split_ok {h0 h : Hp} {b : Nat} {es : List E} {ks : List Nat} {A F : Bag} (s : St h0 h (A + F)) (na : NodeA b es ks A) (hL : 1 ≤ es.length) (hk0 : ks = [] ∨ ks.length = es.length + 1) (hsz : es.length < 1000) :
    HCalls Tryz.prog 67 #[ptr b] h (fun v h' => ∃ r A1 A2, v = .tuple #[.int .i64 (es.getD (es.length / 2) (0, 0)).1, .int .i64 (es.getD (es.length / 2) (0, 0)).2, ptr r] ∧
      NodeA b (es.take (es.length / 2)) (ks.take (es.length / 2 + 1)) A1 ∧ NodeA r (es.drop (es.length / 2 + 1)) (ks.drop (es.length / 2 + 1)) A2 ∧ St h0 h' (A1 + (A2 + F))) := by
  have na0 := na
  have s0 := s
  obtain ⟨p1, p2, p3, c1, c2, c3, A1, A2, A3, rfl, ⟨a1, a2, a3⟩⟩ := na
  have l1 := a1.cap
  have l2 := a2.cap
  have l3 := a3.cap
  refine btree_split_call ?_
  rw [btree_split_b0_eq]
  have s := s.to (B := nodeC b es.length ks.length p1 p2 p3 c1 c2 c3 + (A1 + (A2 + (A3 + F))))
  have kb := s.blk
  refine ⟨_, _, _, kb.cell 0, quo_intro (by omega) (by omega) (by omega) ?_⟩
  have hq : ((es.length : Nat) : Int) / 2 = ((es.length / 2 : Nat) : Int) := by omega
  rw [hq]
  have em : Int.toNat ((es.length / 2 : Nat) : Int) = es.length / 2 := Int.toNat_natCast _
  have em1 : Int.toNat (((es.length / 2 : Nat) : Int) + 1) = es.length / 2 + 1 := by omega
  have r1 := a1.rd (s.at A1)
  have r2 := a2.rd (s.at A2)
  have r3 := a3.rd (s.at A3)
  have g1 : (es.map Prod.fst).getD (es.length / 2) 0 = (es.getD (es.length / 2) (0, 0)).1 := by simp [List.getD, List.getElem?_map]; cases es[es.length / 2]? <;> rfl
  have g2 : (es.map Prod.snd).getD (es.length / 2) 0 = (es.getD (es.length / 2) (0, 0)).2 := by simp [List.getD, List.getElem?_map]; cases es[es.length / 2]? <;> rfl
  refine ⟨_, _, _, kb.cell 0, r1.int (by omega) (by omega) ?_⟩
  rw [em, g1]
  refine ⟨_, _, _, Blk.cellA kb 1, r2.int (by omega) (by omega) ?_⟩
  rw [em, g2]
  refine ⟨_, _, _, kb.cell 0, ⟨by omega, by omega⟩, ⟨by omega, by omega, by omega⟩, ?_⟩
  refine ⟨_, _, _, Blk.cellA kb 1, ⟨by omega, by omega⟩, ⟨by omega, by omega, by omega⟩, ?_⟩
  rw [em1, Int.toNat_natCast]
  have hd : (es.drop (es.length / 2 + 1)).length = es.length - (es.length / 2 + 1) := by rw [List.length_drop]
  have rk : RdT TI h (subAddr p1 c1 (es.length / 2 + 1) 1) (es.length - (es.length / 2 + 1)) ((es.drop (es.length / 2 + 1)).map Prod.fst) := by
    rw [List.map_drop]; exact r1.sub (by omega) l1 rfl
  have rv : RdT TI h (subAddr p2 c2 (es.length / 2 + 1) 1) (es.length - (es.length / 2 + 1)) ((es.drop (es.length / 2 + 1)).map Prod.snd) := by
    rw [List.map_drop]; exact r2.sub (by omega) l2 rfl
  refine (cloneI_st rk (by omega)).mono fun v1 h1 ⟨q1, d1, B1, hv1, o1, t1⟩ => ?_
  refine ⟨_, _, _, hv1, ⟨⟨by omega, by omega, by omega⟩, rfl⟩, ⟨_, _, _, Blk.cellA (kb.ext t1.ext) 1, rfl⟩, ?_⟩
  refine (cloneI_st (rv.ext t1.ext) (by omega)).mono fun v2 h2 ⟨q2, d2, B2, hv2, o2, t2⟩ => ?_
  refine ⟨_, _, _, hv2, ?_⟩
  have s2 := ((s.join t1).join t2)
  have st2 := ((s0.join t1).join t2)
  refine s2.new (cs := [.slice q1 _ d1, .slice q2 _ d2, .slice none 0 0]) fun r h3 x3 s3 => ?_
  have s3 : St h0 h3 (nodeC r (es.length - (es.length / 2 + 1)) 0 q1 q2 none d1 d2 0 + (B2 + (B1 + (nodeC b es.length ks.length p1 p2 p3 c1 c2 c3 + (A1 + (A2 + (A3 + F))))))) := s3
  have x03 : Ext h h3 := (t1.ext.trans t2.ext).trans x3
  refine (leaf_ok (s0.grow x03) na0).mono fun v3 h4 ⟨hh, hv3⟩ => ?_
  subst hh
  refine ⟨_, hv3, condN (fun hn0 => ?_) (fun hn0 => ?_)⟩
  · have hkl : ks.length = es.length + 1 := by rcases hk0 with rfl | h5; exact absurd rfl hn0; exact h5
    have kb4 := kb.ext x03
    refine ⟨_, _, _, Blk.cellA kb4 2, ⟨by omega, by omega⟩, ⟨by omega, by omega, by omega⟩, ?_⟩
    rw [Int.toNat_natCast]
    have rc : RdT TP h4 (subAddr p3 c3 (es.length / 2 + 1) 1) (ks.length - (es.length / 2 + 1)) (ks.drop (es.length / 2 + 1)) := (r3.ext x03).sub (by omega) l3 rfl
    refine (cloneP_st rc (by omega)).mono fun v4 h5 ⟨q4, d4, B4, hv4, o4, t4⟩ => ?_
    refine ⟨_, _, _, hv4, ?_⟩
    have s5 := (s3.join t4).to (B := nodeC r (es.length - (es.length / 2 + 1)) 0 q1 q2 none d1 d2 0 + (B4 + (B2 + (B1 + (nodeC b es.length ks.length p1 p2 p3 c1 c2 c3 + (A1 + (A2 + (A3 + F))))))))
    refine s5.wr (o := 2) (add_mk _ _ _) (by simp) fun h6 s6 => ?_
    have s6 : St h0 h6 (nodeC r (es.length - (es.length / 2 + 1)) (ks.length - (es.length / 2 + 1)) q1 q2 q4 d1 d2 d4 + (B4 + (B2 + (B1 + (nodeC b es.length ks.length p1 p2 p3 c1 c2 c3 + (A1 + (A2 + (A3 + F)))))))) := s6
    have s6 := s6.to (B := nodeC b es.length ks.length p1 p2 p3 c1 c2 c3 + (nodeC r (es.length - (es.length / 2 + 1)) (ks.length - (es.length / 2 + 1)) q1 q2 q4 d1 d2 d4 + (B4 + (B2 + (B1 + (A1 + (A2 + (A3 + F))))))))
    refine ⟨_, _, _, s6.cellA 2, ⟨by omega, by omega⟩, ⟨by omega, by omega, by omega⟩, ?_⟩
    have e0 : Int.toNat (0 : Int) = 0 := rfl
    rw [e0, Nat.sub_zero, Nat.sub_zero, subAddr_z]
    have rc2 : RdT TP h6 p3 (es.length / 2 + 1) (ks.take (es.length / 2 + 1)) := (a3.rd (s6.at A3)).take (by omega)
    refine (cloneP_st rc2 (by omega)).mono fun v5 h7 ⟨q5, d5, B5, hv5, o5, t5⟩ => ?_
    refine ⟨_, _, _, hv5, ?_⟩
    have s7 := (s6.join t5).to (B := nodeC b es.length ks.length p1 p2 p3 c1 c2 c3 + (A1 + (A2 + (B5 + (nodeC r (es.length - (es.length / 2 + 1)) (ks.length - (es.length / 2 + 1)) q1 q2 q4 d1 d2 d4 + (B4 + (B2 + (B1 + (A3 + F)))))))))
    refine s7.wr (o := 2) (add_mk _ _ _) (by simp) fun h8 s8 => ?_
    refine split_b1_ok (es := es) (m := es.length / 2) (p1 := p1) (p2 := p2) (p3 := q5) s8 a1 a2 (by omega) hsz fun h' q6 q7 d6 d7 B6 B7 s9 o6 o7 => ?_
    have hte : (es.take (es.length / 2)).length = es.length / 2 := by rw [List.length_take]; omega
    have htk : (ks.take (es.length / 2 + 1)).length = es.length / 2 + 1 := by rw [List.length_take]; omega
    have hdk : (ks.drop (es.length / 2 + 1)).length = ks.length - (es.length / 2 + 1) := by rw [List.length_drop]
    refine ⟨r, _, _, rfl, ⟨q6, q7, q5, d6, d7, d5, B6, B7, B5, rfl, ⟨by rw [hte]; exact o6, by rw [hte]; exact o7, by rw [htk]; exact o5⟩⟩, ⟨q1, q2, q4, d1, d2, d4, B1, B2, B4, rfl, ⟨by rw [hd]; exact o1, by rw [hd]; exact o2, by rw [hdk]; exact o4⟩⟩, ?_⟩
    rw [hte, htk, hd, hdk]
    exact (s9.to (B := A3 + (nodeC b (es.length / 2) (es.length / 2 + 1) q6 q7 q5 d6 d7 d5 + (B6 + (B7 + B5)) + (nodeC r (es.length - (es.length / 2 + 1)) (ks.length - (es.length / 2 + 1)) q1 q2 q4 d1 d2 d4 + (B1 + (B2 + B4)) + F)))).drop
  · have hk : ks = [] := List.eq_nil_of_length_eq_zero hn0
    subst hk
    have s4 := s3.to (B := nodeC b es.length 0 p1 p2 p3 c1 c2 c3 + (A1 + (A2 + (A3 + (nodeC r (es.length - (es.length / 2 + 1)) 0 q1 q2 none d1 d2 0 + (B2 + (B1 + F)))))))
    refine split_b1_ok (es := es) (m := es.length / 2) s4 a1 a2 (by omega) hsz fun h' q6 q7 d6 d7 B6 B7 s9 o6 o7 => ?_
    have hte : (es.take (es.length / 2)).length = es.length / 2 := by rw [List.length_take]; omega
    refine ⟨r, _, _, rfl, ⟨q6, q7, p3, d6, d7, c3, B6, B7, A3, rfl, ⟨by rw [hte]; exact o6, by rw [hte]; exact o7, a3⟩⟩, ⟨q1, q2, none, d1, d2, 0, B1, B2, 0, rfl, ⟨by rw [hd]; exact o1, by rw [hd]; exact o2, Sl.nil⟩⟩, ?_⟩
    rw [hte, hd]
    exact s9.to (B := nodeC b (es.length / 2) 0 q6 q7 p3 d6 d7 c3 + (B6 + (B7 + A3)) + (nodeC r (es.length - (es.length / 2 + 1)) 0 q1 q2 none d1 d2 0 + (B1 + (B2 + 0)) + F))
end Go.Proofs.YtkdmcdnfakmapaaGreat

/- B-trees: subtrees, their entries in order, frames of a path. -/
set_option maxRecDepth 100000
namespace Go.Proofs.YtkdmcdnfakmapaaGreat
open Go Go.Sx
inductive BT where
  | nd (es : List E) (ts : List BT)
def BT.es : BT → List E | .nd es _ => es
def BT.ts : BT → List BT | .nd _ ts => ts
/-- The subtree of a height at a block. -/
def Hold : Nat → Nat → BT → Bag → Prop
  | 0, b, t, A => t.ts = [] ∧ NodeA b t.es [] A
  | n + 1, b, t, A => ∃ ks A1 A2, A = A1 + A2 ∧ NodeA b t.es ks A1 ∧ ks.length = t.es.length + 1 ∧ AllH (Hold n) ks t.ts A2
/-! ### entries in order -/
def wL : List (List E) → List E → List E
  | k :: ks, e :: es => k ++ e :: wL ks es
  | _, _ => []
def wR : List E → List (List E) → List E
  | e :: es, k :: ks => e :: (k ++ wR es ks)
  | _, _ => []
def weave : List (List E) → List E → List E
  | k :: ks, es => k ++ wR es ks
  | [], _ => []
def flat : Nat → BT → List E
  | 0, t => t.es
  | n + 1, t => weave (t.ts.map (flat n)) t.es
theorem wL_append : ∀ (ks ks' : List (List E)) (es es' : List E), ks.length = es.length → wL (ks ++ ks') (es ++ es') = wL ks es ++ wL ks' es'
  | [], _, [], _, _ => rfl
  | [], _, _ :: _, _, h => by simp at h
  | _ :: _, _, [], _, h => by simp at h
  | k :: ks, ks', e :: es, es', h => by simp only [List.cons_append, wL, wL_append ks ks' es es' (by simpa using h), List.append_assoc]
theorem wR_append : ∀ (es es' : List E) (ks ks' : List (List E)), ks.length = es.length → wR (es ++ es') (ks ++ ks') = wR es ks ++ wR es' ks'
  | [], _, [], _, _ => rfl
  | [], _, _ :: _, _, h => by simp at h
  | _ :: _, _, [], _, h => by simp at h
  | e :: es, es', k :: ks, ks', h => by simp only [List.cons_append, wR, wR_append es es' ks ks' (by simpa using h), List.append_assoc]
theorem weave_at : ∀ (kL : List (List E)) (eL : List E) (k : List E) (kR : List (List E)) (eR : List E), kL.length = eL.length → weave (kL ++ k :: kR) (eL ++ eR) = wL kL eL ++ (k ++ wR eR kR)
  | [], [], _, _, _, _ => rfl
  | [], _ :: _, _, _, _, h => by simp at h
  | _ :: _, [], _, _, _, h => by simp at h
  | x :: kL, e :: eL, k, kR, eR, h => by
    have ih := weave_at kL eL k kR eR (by simpa using h)
    cases kL with
    | nil =>
      cases eL with
      | nil => simp [weave, wR, wL]
      | cons _ _ => simp at h
    | cons y kL =>
      cases eL with
      | nil => simp at h
      | cons e' eL =>
        simp only [List.cons_append, weave, wR, wL, List.append_assoc] at ih ⊢
        rw [ih]
/-- A node with a hole in place of a child. -/
structure Fr where
  b : Nat
  eL : List E
  eR : List E
  kL : List Nat
  kR : List Nat
  tL : List BT
  tR : List BT
def fill (f : Fr) (t : BT) : BT := .nd (f.eL ++ f.eR) (f.tL ++ t :: f.tR)
def HoldF (n : Nat) (f : Fr) (k : Nat) (A : Bag) : Prop :=
  f.tL.length = f.eL.length ∧ f.tR.length = f.eR.length ∧ ∃ A1 A2 A3, A = A1 + (A2 + A3) ∧ NodeA f.b (f.eL ++ f.eR) (f.kL ++ k :: f.kR) A1 ∧ AllH (Hold n) f.kL f.tL A2 ∧ AllH (Hold n) f.kR f.tR A3
theorem HoldF.fill {n : Nat} {f : Fr} {k : Nat} {t : BT} {A A' : Bag} (h : HoldF n f k A) (ht : Hold n k t A') : Hold (n + 1) f.b (fill f t) (A + A') := by
  obtain ⟨l1, l2, A1, A2, A3, rfl, h1, h2, h3⟩ := h
  refine ⟨f.kL ++ k :: f.kR, A1, A2 + (A' + A3), by ac_rfl, h1, ?_, ?_⟩
  · have := h2.len
    have := h3.len
    simp only [BT.es, Go.Proofs.YtkdmcdnfakmapaaGreat.fill, List.length_append, List.length_cons]
    omega
  · exact h2.append ⟨A', A3, rfl, ht, h3⟩
theorem Hold.down {n b i : Nat} {t : BT} {A : Bag} {eL eR : List E} (h : Hold (n + 1) b t A) (he : t.es = eL ++ eR) (hi : eL.length = i) :
    ∃ f k t' A1 A2, f.b = b ∧ f.eL = eL ∧ f.eR = eR ∧ Go.Proofs.YtkdmcdnfakmapaaGreat.fill f t' = t ∧ A = A1 + A2 ∧ HoldF n f k A1 ∧ Hold n k t' A2 ∧ f.kL.length = i := by
  obtain ⟨ks, A1, A2, rfl, h1, hl, h2⟩ := h
  cases t with
  | nd es ts =>
  simp only [BT.es, BT.ts] at he hl h1 h2
  subst he
  have hlt := h2.len
  rw [List.length_append] at hl
  have d1 : ks = ks.take i ++ ks.drop i := (List.take_append_drop i ks).symm
  have d2 : ts = ts.take i ++ ts.drop i := (List.take_append_drop i ts).symm
  have l1 : (ks.take i).length = i := by rw [List.length_take]; omega
  have l2 : (ts.take i).length = i := by rw [List.length_take]; omega
  rw [d1, d2] at h2
  obtain ⟨B1, B2, rfl, k1, k2⟩ := AllH.split _ _ (by rw [l1, l2]) h2
  have m1 : (ks.drop i).length = eR.length + 1 := by rw [List.length_drop]; omega
  have m2 : (ts.drop i).length = eR.length + 1 := by rw [List.length_drop]; omega
  cases hk : ks.drop i with
  | nil => rw [hk] at m1; simp at m1
  | cons k kR =>
  cases ht : ts.drop i with
  | nil => rw [ht] at m2; simp at m2
  | cons t' tR =>
  rw [hk, ht] at k2
  obtain ⟨C1, C2, rfl, c1, c2⟩ := k2
  rw [hk] at m1
  rw [ht] at m2
  refine ⟨⟨b, eL, eR, ks.take i, kR, ts.take i, tR⟩, k, t', A1 + (B1 + C2), C1, rfl, rfl, rfl, ?_, by ac_rfl, ⟨by rw [hi]; exact l2, by simpa using m2, A1, B1, C2, rfl, ?_, k1, c2⟩, c1, l1⟩
  · simp only [Go.Proofs.YtkdmcdnfakmapaaGreat.fill]
    rw [← ht, List.take_append_drop]
  · show NodeA b (eL ++ eR) (ks.take i ++ k :: kR) A1
    rw [← hk, List.take_append_drop]
    exact h1
/-- The way down to a hole, the innermost frame first. -/
def HoldC (root : Nat) : Nat → List Fr → Nat → Bag → Prop
  | _, [], k, A => k = root ∧ A = 0
  | n, f :: fs, k, A => ∃ A1 A2, A = A1 + A2 ∧ HoldF n f k A1 ∧ HoldC root (n + 1) fs f.b A2
def plug : List Fr → BT → BT
  | [], t => t
  | f :: fs, t => plug fs (fill f t)
theorem HoldC.plug {root : Nat} : ∀ {n : Nat} {fs : List Fr} {k : Nat} {t : BT} {A A' : Bag}, HoldC root n fs k A → Hold n k t A' → Hold (n + fs.length) root (plug fs t) (A + A')
  | _, [], _, _, _, _, ⟨rfl, rfl⟩, h => by rw [Bag.zero_add]; exact h
  | n, f :: fs, k, t, _, A', ⟨A1, A2, rfl, h1, h2⟩, h => by
    have := HoldC.plug h2 (h1.fill h)
    rw [show n + (f :: fs).length = n + 1 + fs.length by simp; omega]
    rw [show A1 + A2 + A' = A2 + (A1 + A') by ac_rfl]
    exact this
/-- What stands before a hole, and behind it. -/
def before (n : Nat) (f : Fr) : List E := wL (f.tL.map (flat n)) f.eL
def behind (n : Nat) (f : Fr) : List E := wR f.eR (f.tR.map (flat n))
theorem flat_fill {n : Nat} {f : Fr} (t : BT) (h : f.tL.length = f.eL.length) : flat (n + 1) (fill f t) = before n f ++ (flat n t ++ behind n f) := by
  show weave ((f.tL ++ t :: f.tR).map (flat n)) (f.eL ++ f.eR) = _
  rw [List.map_append, List.map_cons, weave_at _ _ _ _ _ (by simpa using h)]
  rfl
def Lb : Nat → List Fr → List E
  | _, [] => []
  | n, f :: fs => Lb (n + 1) fs ++ before n f
def Rb : Nat → List Fr → List E
  | _, [] => []
  | n, f :: fs => behind n f ++ Rb (n + 1) fs
def OkC : List Fr → Prop
  | [] => True
  | f :: fs => f.tL.length = f.eL.length ∧ f.tR.length = f.eR.length ∧ OkC fs
theorem HoldC.ok {root : Nat} : ∀ {n : Nat} {fs : List Fr} {k : Nat} {A : Bag}, HoldC root n fs k A → OkC fs
  | _, [], _, _, _ => trivial
  | _, _ :: _, _, _, ⟨_, _, _, h1, h2⟩ => ⟨h1.1, h1.2.1, h2.ok⟩
theorem flat_plug : ∀ {n : Nat} {fs : List Fr} (t : BT), OkC fs → flat (n + fs.length) (plug fs t) = Lb n fs ++ (flat n t ++ Rb n fs)
  | n, [], t, _ => by simp [plug, Lb, Rb]
  | n, f :: fs, t, h => by
    rw [show n + (f :: fs).length = n + 1 + fs.length by simp; omega]
    show flat (n + 1 + fs.length) (plug fs (fill f t)) = _
    rw [flat_plug (fill f t) h.2.2, flat_fill t h.1]
    simp only [Lb, Rb, List.append_assoc]
/-- The numbers of entries of all nodes. -/
def Sz (lo hi : Nat) : Nat → BT → Prop
  | 0, t => lo ≤ t.es.length ∧ t.es.length ≤ hi
  | n + 1, t => (lo ≤ t.es.length ∧ t.es.length ≤ hi) ∧ ∀ c ∈ t.ts, Sz lo hi n c
theorem Sz.here {lo hi n : Nat} {t : BT} (h : Sz lo hi n t) : lo ≤ t.es.length ∧ t.es.length ≤ hi := by cases n with | zero => exact h | succ n => exact h.1
/-- The root has one entry at least. -/
def SzR (lo hi : Nat) : Nat → BT → Prop
  | 0, t => 1 ≤ t.es.length ∧ t.es.length ≤ hi
  | n + 1, t => (1 ≤ t.es.length ∧ t.es.length ≤ hi) ∧ ∀ c ∈ t.ts, Sz lo hi n c
def SzC (lo hi : Nat) : Nat → List Fr → Prop
  | _, [] => True
  | n, f :: fs => ((match fs with | [] => 1 | _ => lo) ≤ (f.eL ++ f.eR).length ∧ (f.eL ++ f.eR).length ≤ hi) ∧ (∀ c ∈ f.tL, Sz lo hi n c) ∧ (∀ c ∈ f.tR, Sz lo hi n c) ∧ SzC lo hi (n + 1) fs
def lo' (lo : Nat) : List Fr → Nat | [] => 1 | _ => lo
/-- A subtree below a way down. -/
def SzB (lo hi : Nat) (n : Nat) (fs : List Fr) (t : BT) : Prop :=
  (lo' lo fs ≤ t.es.length ∧ t.es.length ≤ hi) ∧ ∀ m, n = m + 1 → ∀ c ∈ t.ts, Sz lo hi m c
theorem SzR.b {lo hi n : Nat} {t : BT} (h : SzR lo hi n t) : SzB lo hi n [] t := by
  cases n with
  | zero => exact ⟨h, fun m hm => by omega⟩
  | succ n => exact ⟨h.1, fun m hm c hc => by obtain rfl : n = m := by omega
                                              exact h.2 c hc⟩
theorem SzB.r {lo hi n : Nat} {t : BT} (h : SzB lo hi n [] t) : SzR lo hi n t := by
  cases n with
  | zero => exact h.1
  | succ n => exact ⟨h.1, h.2 n rfl⟩
theorem Sz.b {lo hi n : Nat} {t : BT} {f : Fr} {fs : List Fr} (h : Sz lo hi n t) : SzB lo hi n (f :: fs) t := by
  cases n with
  | zero => exact ⟨h, fun m hm => by omega⟩
  | succ n => exact ⟨h.1, fun m hm c hc => by obtain rfl : n = m := by omega
                                              exact h.2 c hc⟩
theorem SzB.s {lo hi n : Nat} {t : BT} {f : Fr} {fs : List Fr} (h : SzB lo hi n (f :: fs) t) : Sz lo hi n t := by
  cases n with
  | zero => exact h.1
  | succ n => exact ⟨h.1, h.2 n rfl⟩
theorem SzB.down {lo hi n : Nat} {t t' : BT} {f : Fr} {fs : List Fr} (h : SzB lo hi (n + 1) fs t) (hf : fill f t' = t) (hc : SzC lo hi (n + 1) fs) : SzC lo hi n (f :: fs) ∧ Sz lo hi n t' := by
  subst hf
  have h2 := h.2 n rfl
  refine ⟨⟨?_, fun c hc => h2 c (by simp [fill, BT.ts, hc]), fun c hc => h2 c (by simp [fill, BT.ts, hc]), hc⟩, h2 t' (by simp [fill, BT.ts])⟩
  have := h.1
  cases fs <;> exact this
theorem SzC.up {lo hi n : Nat} {t' : BT} {f : Fr} {fs : List Fr} (h : SzC lo hi n (f :: fs)) (ht : Sz lo hi n t') : SzB lo hi (n + 1) fs (fill f t') := by
  refine ⟨?_, fun m hm c hc => ?_⟩
  · have := h.1
    cases fs <;> exact this
  · obtain rfl : n = m := by omega
    simp only [fill, BT.ts, List.mem_append, List.mem_cons] at hc
    rcases hc with h1 | rfl | h1
    · exact h.2.1 c h1
    · exact ht
    · exact h.2.2.1 c h1
theorem SzC.plug {lo hi : Nat} : ∀ {n : Nat} {fs : List Fr} {t : BT}, SzC lo hi n fs → SzB lo hi n fs t → SzR lo hi (n + fs.length) (plug fs t)
  | _, [], _, _, h => h.r
  | n, f :: fs, t, hc, h => by
    rw [show n + (f :: fs).length = n + 1 + fs.length by simp; omega]
    exact SzC.plug hc.2.2.2 (hc.up h.s)
end Go.Proofs.YtkdmcdnfakmapaaGreat

/- B-trees: the way down to a key. -/
set_option maxRecDepth 100000
namespace Go.Proofs.YtkdmcdnfakmapaaGreat
open Go Go.Sx
abbrev Srt (l : List E) : Prop := l.Pairwise fun a b => a.1 < b.1
theorem Srt.app {a b : List E} : Srt (a ++ b) ↔ Srt a ∧ Srt b ∧ ∀ x ∈ a, ∀ y ∈ b, x.1 < y.1 := List.pairwise_append
theorem Srt.con {a : E} {b : List E} : Srt (a :: b) ↔ (∀ y ∈ b, a.1 < y.1) ∧ Srt b := List.pairwise_cons
def hasKey : List E → Int → Bool
  | [], _ => false
  | e :: _, key => decide (e.1 = key)
theorem wR_sub : ∀ (es : List E) (ks : List (List E)), ks.length = es.length → es.Sublist (wR es ks)
  | [], [], _ => List.Sublist.refl _
  | [], _ :: _, h => by simp at h
  | _ :: _, [], h => by simp at h
  | e :: es, k :: ks, h => (List.Sublist.trans (wR_sub es ks (by simpa using h)) (List.sublist_append_right k _)).cons_cons e
theorem weave_sub (ks : List (List E)) (es : List E) (h : ks.length = es.length + 1) : es.Sublist (weave ks es) := by
  cases ks with
  | nil => simp at h
  | cons k ks => exact (wR_sub es ks (by simpa using h)).trans (List.sublist_append_right k _)
theorem Hold.len {n b : Nat} {t : BT} {A : Bag} (h : Hold (n + 1) b t A) : t.ts.length = t.es.length + 1 := by
  obtain ⟨ks, A1, A2, rfl, h1, hl, h2⟩ := h
  rw [← h2.len, hl]
theorem Hold.sub {n b : Nat} {t : BT} {A : Bag} (h : Hold n b t A) : t.es.Sublist (flat n t) := by
  cases n with
  | zero => exact List.Sublist.refl _
  | succ n => exact weave_sub _ _ (by rw [List.length_map, h.len])
theorem Hold.node {n b : Nat} {t : BT} {A : Bag} (h : Hold n b t A) : ∃ ks A1 A2, A = A1 + A2 ∧ NodeA b t.es ks A1 ∧ (ks.length = 0 ↔ n = 0) ∧ (n ≠ 0 → ks.length = t.es.length + 1) := by
  cases n with
  | zero => exact ⟨[], A, 0, (Bag.add_zero A).symm, h.2, by simp, fun h => absurd rfl h⟩
  | succ n =>
    obtain ⟨ks, A1, A2, e, h1, hl, h2⟩ := h
    exact ⟨ks, A1, A2, e, h1, by simp; intro hk; subst hk; simp at hl, fun _ => hl⟩
theorem wL_lt {key : Int} : ∀ (ks : List (List E)) (es : List E), Srt (wL ks es) → (∀ e ∈ es, e.1 < key) → ∀ x ∈ wL ks es, x.1 < key
  | [], _, _, _, x, hx => by simp [wL] at hx
  | _ :: _, [], _, _, x, hx => by simp [wL] at hx
  | k :: ks, e :: es, hs, he, x, hx => by
    simp only [wL] at hs hx
    rw [Srt.app] at hs
    obtain ⟨_, h2, h3⟩ := hs
    rw [Srt.con] at h2
    rcases List.mem_append.1 hx with h | h
    · exact Int.lt_trans (h3 x h e (by simp)) (he e (by simp))
    · rcases List.mem_cons.1 h with rfl | h
      · exact he _ (by simp)
      · exact wL_lt ks es h2.2 (fun e h => he e (by simp [h])) x h
theorem wR_gt {key : Int} : ∀ (es : List E) (ks : List (List E)), Srt (wR es ks) → (∀ e ∈ es, key < e.1) → ∀ x ∈ wR es ks, key < x.1
  | [], _, _, _, x, hx => by simp [wR] at hx
  | _ :: _, [], _, _, x, hx => by simp [wR] at hx
  | e :: es, k :: ks, hs, he, x, hx => by
    simp only [wR] at hs hx
    rw [Srt.con] at hs
    rcases List.mem_cons.1 hx with rfl | h
    · exact he _ (by simp)
    · exact Int.lt_trans (he e (by simp)) (hs.1 x h)
theorem key_gt {es : List E} {key : Int} (hs : Srt es) (hk : ∀ e ∈ es, key ≤ e.1) (hn : hasKey es key = false) : ∀ e ∈ es, key < e.1 := by
  cases es with
  | nil => simp
  | cons e es =>
    rw [Srt.con] at hs
    have h1 : e.1 ≠ key := by simpa [hasKey] using hn
    have h2 := hk e (by simp)
    intro x hx
    rcases List.mem_cons.1 hx with rfl | h
    · omega
    · have := hs.1 x h; omega
theorem at_fst (es : List E) (i : Nat) : at_ (es.map Prod.fst) i = (es.getD i (0, 0)).1 := by simp [at_, List.getD, List.getElem?_map]; cases es[i]? <;> rfl
theorem search_ok {h : Hp} {p : Option Addr} {n c : Nat} {es : List E} {key : Int} (r : RdT TI h p n (es.map Prod.fst)) (hn : n ≤ 1000000) (hs : Srt es) :
    HCalls Tryz.prog 68 #[.slice p n c, .int .i64 key] h (fun v h' => h' = h ∧ ∃ eL eR, es = eL ++ eR ∧ (∀ e ∈ eL, e.1 < key) ∧ (∀ e ∈ eR, key ≤ e.1) ∧ v = .tuple #[.int .i64 (eL.length : Int), .bool (hasKey eR key)]) := by
  have hl : es.length = n := by have := r.len; simpa using this
  have inc : Inc (es.map Prod.fst) := by
    intro i j hij hj
    rw [List.length_map] at hj
    rw [at_get (by rw [List.length_map]; omega), at_get (by rw [List.length_map]; omega), List.getElem_map, List.getElem_map]
    exact List.pairwise_iff_getElem.1 hs i j (by omega) hj hij
  refine (Search_ok r.ints hn inc).mono fun v h' ⟨hh, i, ⟨hi, lo, hi2⟩, hv⟩ => ⟨hh, es.take i, es.drop i, (List.take_append_drop i es).symm, ?_, ?_, ?_⟩
  · intro e he
    obtain ⟨j, hj, rfl⟩ := List.getElem_of_mem he
    rw [List.length_take] at hj
    have := lo j (by omega)
    rw [at_get (by rw [List.length_map]; omega), List.getElem_map] at this
    rw [List.getElem_take]; exact this
  · intro e he
    obtain ⟨j, hj, rfl⟩ := List.getElem_of_mem he
    rw [List.length_drop] at hj
    have := hi2 (i + j) (by omega) (by rw [List.length_map]; omega)
    rw [at_get (by rw [List.length_map]; omega), List.getElem_map] at this
    rw [List.getElem_drop]; exact this
  · rw [List.length_map] at hi
    rw [hv, List.length_take, Nat.min_eq_left hi]
    congr 4
    rcases Nat.lt_or_ge i es.length with h1 | h1
    · rw [List.drop_eq_getElem_cons h1]
      show Value.bool (decide (i < n ∧ at_ (es.map Prod.fst) i = key)) = Value.bool (decide (es[i].1 = key))
      have e : at_ (es.map Prod.fst) i = es[i].1 := by rw [at_get (by rw [List.length_map]; omega), List.getElem_map]
      rw [e]
      by_cases h2 : es[i].1 = key
      · rw [decide_eq_true h2, decide_eq_true ⟨by omega, h2⟩]
      · rw [decide_eq_false h2, decide_eq_false (fun h => h2 h.2)]
    · rw [List.drop_of_length_le h1, decide_eq_false (by omega)]; rfl
/-- A way down to a key. -/
structure Way (key : Int) (lo hi root n : Nat) (t : BT) (A : Bag) (m : Nat) (fs : List Fr) (k : Nat) (u : BT) (Ac Au : Bag) : Prop where
  bag : A = Ac + Au
  ctx : HoldC root m fs k Ac
  sub : Hold m k u Au
  plug : plug fs u = t
  hgt : m + fs.length = n
  szc : SzC lo hi m fs
  szb : SzB lo hi m fs u
  lt : ∀ x ∈ Lb m fs, x.1 < key
  gt : ∀ x ∈ Rb m fs, key < x.1
  srt : Srt (flat m u)
abbrev blks (fs : List Fr) : List Nat := (fs.map Fr.b).reverse
abbrev idxs (fs : List Fr) : List Int := (fs.map fun f => (f.eL.length : Int)).reverse
theorem Way.step {key : Int} {lo hi root n m k : Nat} {t u : BT} {A Ac Au : Bag} {fs : List Fr} {eL eR : List E} (w : Way key lo hi root n t A (m + 1) fs k u Ac Au) (he : u.es = eL ++ eR) (hl : ∀ e ∈ eL, e.1 < key) (hr : ∀ e ∈ eR, key ≤ e.1) (hn : hasKey eR key = false) :
    ∃ f k' u' Ac' Au', f.b = k ∧ f.eL = eL ∧ f.eR = eR ∧ fill f u' = u ∧ f.kL.length = eL.length ∧ Way key lo hi root n t A m (f :: fs) k' u' Ac' Au' := by
  have hes : Srt u.es := w.srt.sublist w.sub.sub
  obtain ⟨f, k', u', A1, A2, hb, hfL, hfR, hf, rfl, h1, h2, hkl⟩ := w.sub.down he rfl
  refine ⟨f, k', u', A1 + Ac, A2, hb, hfL, hfR, hf, hkl, ?_⟩
  have hsrt := w.srt
  rw [← hf, flat_fill u' h1.1, Srt.app, Srt.app] at hsrt
  rw [he, Srt.app] at hes
  refine ⟨by rw [w.bag]; ac_rfl, ⟨A1, Ac, rfl, h1, by rw [hb]; exact w.ctx⟩, h2, by show Go.Proofs.YtkdmcdnfakmapaaGreat.plug fs (fill f u') = t; rw [hf]; exact w.plug, by have := w.hgt; simp; omega, (w.szb.down hf w.szc).1, (w.szb.down hf w.szc).2.b, ?_, ?_, hsrt.2.1.1⟩
  · intro x hx
    simp only [Lb, List.mem_append] at hx
    rcases hx with h | h
    · exact w.lt x h
    · exact wL_lt _ _ hsrt.1 (by rw [hfL]; exact hl) x h
  · intro x hx
    simp only [Rb, List.mem_append] at hx
    rcases hx with h | h
    · exact wR_gt _ _ hsrt.2.1.2.1 (by rw [hfR]; exact key_gt hes.2.1 hr hn) x h
    · exact w.gt x h
theorem Way.start {key : Int} {lo hi root n : Nat} {t : BT} {A : Bag} (x : Hold n root t A) (so : Srt (flat n t)) (sz : SzR lo hi n t) : Way key lo hi root n t A n [] root t 0 A :=
  ⟨(Bag.zero_add A).symm, ⟨rfl, rfl⟩, x, rfl, rfl, trivial, sz.b, fun _ h => (nomatch h), fun _ h => (nomatch h), so⟩
theorem HoldF.kid {h0 h : Hp} {n k : Nat} {f : Fr} {A F : Bag} (hf : HoldF n f k A) (s : St h0 h (A + F)) : ∃ p L c, cell h ((⟨f.b, 0, none⟩ : Addr).add 2) = some (.slice p L c) ∧ RdT TP h p L (f.kL ++ k :: f.kR) ∧ L = (f.kL ++ k :: f.kR).length := by
  obtain ⟨_, _, A1, A2, A3, rfl, h1, h2, h3⟩ := hf
  obtain ⟨p1, p2, p3, c1, c2, c3, C1, C2, C3, rfl, ns⟩ := h1
  exact ⟨_, _, _, (s.at (nodeC f.b (f.eL ++ f.eR).length (f.kL ++ k :: f.kR).length p1 p2 p3 c1 c2 c3)).cellA 2, ns.s3.rd (s.at C3), rfl⟩
theorem path_ok {h0 h : Hp} {ta : Addr} {n root lo hi : Nat} {t : BT} {key : Int} {A F : Bag} (ht : cell h (ta.add 2) = some (ptr root)) (x : Hold n root t A) (s : St h0 h (A + F)) (so : Srt (flat n t)) (sz : SzR lo hi n t) (hhi : hi ≤ 1000) (hn : n ≤ 1000) :
    HCalls Tryz.prog 59 #[.pointer (some ta), .int .i64 key] h (fun v h' => ∃ m fs k u Ac Au eL eR q1 q2 d1 d2 B1 B2, v = .tuple #[.slice q1 (fs.length + 1) d1, .slice q2 (fs.length + 1) d2, .bool (hasKey eR key)] ∧
      St h h' (B1 + B2) ∧ Sl TP q1 (fs.length + 1) d1 (blks fs ++ [k]) B1 ∧ Sl TI q2 (fs.length + 1) d2 (idxs fs ++ [(eL.length : Int)]) B2 ∧
      Way key lo hi root n t A m fs k u Ac Au ∧ u.es = eL ++ eR ∧ (∀ e ∈ eL, e.1 < key) ∧ (∀ e ∈ eR, key ≤ e.1) ∧ (hasKey eR key = true ∨ m = 0)) := by
  refine btree_Tree_path_call ?_
  rw [btree_Tree_path_b0_eq]
  refine ⟨_, ht, ?_⟩
  refine ⟨fun st h' => ∃ m fs k u Ac Au B1 B2, st.2.2.1 = some ⟨k, 0, none⟩ ∧ St h h' (B1 + B2) ∧ Sl TP st.1.1 fs.length st.1.2.2 (blks fs) B1 ∧ Sl TI st.2.1.1 fs.length st.2.1.2.2 (idxs fs) B2 ∧ st.1.2.1 = fs.length ∧ st.2.1.2.1 = fs.length ∧
      Way key lo hi root n t A m fs k u Ac Au, fun st _ => n + 1 - st.1.2.1, ?_, ?_⟩
  · exact ⟨n, [], root, t, 0, A, 0, 0, rfl, (St.start h).to, Sl.nil, Sl.nil, rfl, rfl, Way.start x so sz⟩
  rintro ⟨⟨q1, n1, c1⟩, ⟨q2, n2, c2⟩, pv, _⟩ h1 ⟨m, fs, k, u, Ac, Au, B1, B2, hpv, s1, o1, o2, hn1, hn2, w⟩
  simp only at hpv o1 o2 hn1 hn2
  subst hpv hn1 hn2
  dsimp only
  have hfn := w.hgt
  obtain ⟨ks, A1, A2, hA, hna, hk0, hkl⟩ := w.sub.node
  have hna0 := hna
  obtain ⟨p1, p2, p3, e1, e2, e3, C1, C2, C3, rfl, ns⟩ := hna
  have bagA : A + F = nodeC k u.es.length ks.length p1 p2 p3 e1 e2 e3 + (C1 + (C2 + C3)) + (A2 + (Ac + F)) := by rw [w.bag, hA]; ac_rfl
  have sA : St h0 h (nodeC k u.es.length ks.length p1 p2 p3 e1 e2 e3 + (C1 + (C2 + C3)) + (A2 + (Ac + F))) := bagA ▸ s
  have kb : Blk h k [.slice p1 u.es.length e1, .slice p2 u.es.length e2, .slice p3 ks.length e3] 86 := (sA.at (nodeC k u.es.length ks.length p1 p2 p3 e1 e2 e3)).blk
  have hule := w.szb.1.2
  have rk : RdT TI h p1 u.es.length (u.es.map Prod.fst) := ns.s1.rd (sA.at C1)
  rw [btree_Tree_path_b1_eq]
  refine condYes rfl ⟨_, _, _, (kb.ext s1.ext).cell 0, ?_⟩
  refine (search_ok (key := key) (rk.ext s1.ext) (by omega) (w.srt.sublist w.sub.sub)).mono fun v2 h2 ⟨hh, eL, eR, he, hl, hr, hv2⟩ => ?_
  subst hh
  refine ⟨_, _, hv2, ?_⟩
  refine push_sl ok_node s1 o1 (x := k) rfl rfl (by omega) fun q3 c3 h4 B3 o3 s3 => ?_
  have s3 := s3.to (B := B2 + B3)
  refine push_sl ok_int s3 o2 (x := (eL.length : Int)) rfl rfl (by omega) fun q4 c4 h6 B4 o4 s4 => ?_
  have s4 := s4.to (B := B3 + B4)
  refine cond_intro (fun hf => ?_) (fun hf => ?_)
  · exact ⟨m, fs, k, u, Ac, Au, eL, eR, _, _, _, _, _, _, rfl, s4, o3, o4, w, he, hl, hr, .inl hf⟩
  refine (leaf_ok (sA.grow s4.ext) hna0).mono fun v7 h7 ⟨hh, hv7⟩ => ?_
  subst hh
  refine ⟨_, hv7, condP (fun hz => ?_) (fun hz => ?_)⟩
  · exact ⟨m, fs, k, u, Ac, Au, eL, eR, _, _, _, _, _, _, rfl, s4, o3, o4, w, he, hl, hr, .inr (hk0.1 hz)⟩
  obtain ⟨m', rfl⟩ : ∃ m', m = m' + 1 := ⟨m - 1, by have : m ≠ 0 := fun h => hz (hk0.2 h); omega⟩
  rw [btree_Tree_path_b2_eq]
  obtain ⟨f, k', u', Ac', Au', hb, hfL, hfR, hfill, hkL, w'⟩ := w.step he hl hr hf
  have w0 := w'
  obtain ⟨D1, D2, rfl, hF, _⟩ := w'.ctx
  have sF : St h0 h (D1 + (D2 + (Au' + F))) := (w0.bag ▸ s : St h0 h (D1 + D2 + Au' + F)).to
  have rr := hF.kid sF
  obtain ⟨q, L, C, hc, rp, hlen⟩ := rr
  rw [hb] at hc
  have hgl : (f.kL ++ k' :: f.kR).getD eL.length 0 = k' := by simp [List.getD, ← hkL]
  refine ⟨_, _, C, ?_, (rp.ext s4.ext).ptr (by omega) (by rw [hlen, List.length_append, List.length_cons]; omega) ?_⟩
  · have := s4.ext.cell hc; exact this
  rw [Int.toNat_natCast, hgl]
  refine ⟨⟨m', f :: fs, k', u', _, Au', B3, B4, rfl, s4, ?_, ?_, rfl, rfl, w0⟩, ?_⟩
  · simp only [blks, List.map_cons, List.reverse_cons, hb, List.length_cons]; exact o3
  · simp only [idxs, List.map_cons, List.reverse_cons, hfL]; exact o4
  · dsimp only; omega
end Go.Proofs.YtkdmcdnfakmapaaGreat

/- B-trees: an entry is put into a node. -/
set_option maxRecDepth 100000
namespace Go.Proofs.YtkdmcdnfakmapaaGreat
open Go Go.Sx
/-- A node into which an entry is to come, with a child behind it. -/
def Pend (m k : Nat) (right : Option Addr) (eL eR : List E) (e : E) (U : BT) (Au : Bag) : Prop :=
  U.es = eL ++ e :: eR ∧ ((right = none ∧ m = 0 ∧ U.ts = [] ∧ NodeA k (eL ++ eR) [] Au) ∨
    ∃ m' r kL kR A1 A2, m = m' + 1 ∧ right = some ⟨r, 0, none⟩ ∧ Au = A1 + A2 ∧ NodeA k (eL ++ eR) (kL ++ kR) A1 ∧ kL.length = eL.length + 1 ∧ kR.length = eR.length ∧ AllH (Hold m') (kL ++ r :: kR) U.ts A2)
/-- The two writes into a node. -/
theorem wr2 {h0 h : Hp} {k n n' m : Nat} {p1 p2 p3 q1 q2 : Option Addr} {c1 c2 c3 d1 d2 : Nat} {F : Bag} {Q : Hp → Prop} (s : St h0 h (nodeC k n m p1 p2 p3 c1 c2 c3 + F))
    (hq : ∀ h', St h0 h' (nodeC k n' m q1 q2 p3 d1 d2 c3 + F) → Q h') :
    NN (some (⟨k, 0, none⟩ : Addr)) fun a => Wr h a (.slice q1 n' d1) fun h1 => NN (some (⟨k, 0, none⟩ : Addr)) fun a => Wr h1 (a.add 1) (.slice q2 n' d2) Q := by
  refine s.wr rfl (by simp) fun h3 s3 => ?_
  exact s3.wr (o := 1) (add_mk _ _ _) (by simp) fun h4 s4 => hq h4 s4
theorem put_b2_ok {h0 h : Hp} {k m i : Nat} {right : Option Addr} {eL eR : List E} {e : E} {U : BT} {A1 A2 F : Bag} {t : Option Addr} {visits d : Int} {nodes atv : Option Addr} {nL nC aL aC : Nat} {nx0 : Int × Int × Int × Option Addr × Int × Unit → Hp → Prop} {K : Value → Hp → Prop}
    (hU : U.es = eL ++ e :: eR) (hi : eL.length = i) (hsz : (eL ++ eR).length ≤ 1000)
    (hx : (right = none ∧ m = 0 ∧ U.ts = [] ∧ A2 = 0 ∧ NodeA k U.es [] A1) ∨ ∃ m' r kL kR, m = m' + 1 ∧ right = some ⟨r, 0, none⟩ ∧ NodeA k U.es (kL ++ kR) A1 ∧ kL.length = eL.length + 1 ∧ kR.length = eR.length ∧ AllH (Hold m') (kL ++ r :: kR) U.ts A2)
    (s : St h0 h (A1 + (A2 + F)))
    (hk : ∀ h' Au, Hold m k U Au → St h0 h' (Au + F) → btree_Tree_put_b4 t visits nodes nL nC atv aL aC d (some ⟨k, 0, none⟩) h' nx0 K) :
    btree_Tree_put_b2 t visits nodes nL nC atv aL aC right d (some ⟨k, 0, none⟩) (i : Int) h nx0 K := by
  rw [btree_Tree_put_b2_eq]
  rcases hx with ⟨rfl, rfl, ht, rfl, hn⟩ | ⟨m', r, kL, kR, rfl, rfl, hn, l1, l2, ha⟩
  · exact condNo rfl (hk h A1 ⟨ht, hn⟩ s.to)
  · refine condYes rfl ?_
    obtain ⟨p1, p2, p3, c1, c2, c3, C1, C2, C3, rfl, ns⟩ := hn
    rw [List.length_append] at hsz
    have hcap := ns.s3.cap
    refine ⟨_, _, _, (s.at (nodeC k U.es.length (kL ++ kR).length p1 p2 p3 c1 c2 c3)).cellA 2, ⟨by omega, by omega⟩, ?_⟩
    refine s.new (cs := [.pointer (some ⟨r, 0, none⟩)]) fun b9 h26 _ s1 => ?_
    have s2 : St h0 h26 (C3 + (cA b9 [.pointer (some ⟨r, 0, none⟩)] (TP).e + (nodeC k U.es.length (kL ++ kR).length p1 p2 p3 c1 c2 c3 + (C1 + (C2 + (A2 + F)))))) := s1.to
    have ei : ((i : Int) + 1) = ((i + 1 : Nat) : Int) := by omega
    rw [ei]
    refine (insertP_st (x := r) s2 ns.s3 rfl (by rw [List.length_append]; omega) (by rw [List.length_append]; omega)).mono fun v8 h27 ⟨p', c', C3', hv, o3, s3⟩ => ?_
    refine ⟨_, _, _, hv, ?_⟩
    have e3 : (kL ++ kR).take (i + 1) ++ r :: (kL ++ kR).drop (i + 1) = kL ++ r :: kR := by
      rw [List.take_left' (by omega), List.drop_left' (by omega)]
    rw [e3] at o3
    have s3 := (s3.to (B := cA b9 [.pointer (some ⟨r, 0, none⟩)] (TP).e + (nodeC k U.es.length (kL ++ kR).length p1 p2 p3 c1 c2 c3 + (C1 + (C2 + (C3' + (A2 + F))))))).drop
    refine s3.wr (o := 2) (add_mk _ _ _) (by simp) fun h28 s4 => ?_
    have hl3 : (kL ++ kR).length + 1 = (kL ++ r :: kR).length := by simp; omega
    refine hk h28 (nodeC k U.es.length (kL ++ r :: kR).length p1 p2 p' c1 c2 c' + (C1 + (C2 + C3')) + A2) ⟨kL ++ r :: kR, _, A2, rfl, ⟨p1, p2, p', c1, c2, c', C1, C2, C3', rfl, ⟨ns.s1, ns.s2, o3.cast hl3 rfl⟩⟩, by rw [hU]; simp; omega, ha⟩ ?_
    have s5 : St h0 h28 (nodeC k U.es.length (kL ++ r :: kR).length p1 p2 p' c1 c2 c' + (C1 + (C2 + (C3' + (A2 + F))))) := by rw [← hl3]; exact s4
    exact s5.to
theorem put_b1_ok {h0 h : Hp} {k m : Nat} {right : Option Addr} {eL eR : List E} {key value : Int} {U : BT} {Au F : Bag} {t : Option Addr} {visits : Int} {d : Nat} {nodes atv : Option Addr} {nL nC aL aC : Nat} {N : List Nat} {I : List Int} {nx0 : Int × Int × Int × Option Addr × Int × Unit → Hp → Prop} {K : Value → Hp → Prop}
    (rN : RdT TP h nodes nL N) (rI : RdT TI h atv aL I) (hd : d < nL) (hd2 : d < aL) (hN : N.getD d 0 = k) (hI : I.getD d 0 = (eL.length : Int)) (hsz : (eL ++ eR).length ≤ 1000)
    (pd : Pend m k right eL eR (key, value) U Au) (s : St h0 h (Au + F))
    (hk : ∀ h' Au', Hold m k U Au' → St h0 h' (Au' + F) → btree_Tree_put_b4 t visits nodes nL nC atv aL aC (d : Int) (some ⟨k, 0, none⟩) h' nx0 K) :
    btree_Tree_put_b1 key value visits right (d : Int) t nodes nL nC atv aL aC h nx0 K := by
  obtain ⟨hU, pd⟩ := pd
  obtain ⟨ks, A1, A2, rfl, hn, hx⟩ : ∃ ks A1 A2, Au = A1 + A2 ∧ NodeA k (eL ++ eR) ks A1 ∧ ∀ B, NodeA k U.es ks B → (right = none ∧ m = 0 ∧ U.ts = [] ∧ A2 = 0 ∧ NodeA k U.es [] B) ∨ ∃ m' r kL kR, m = m' + 1 ∧ right = some ⟨r, 0, none⟩ ∧ NodeA k U.es (kL ++ kR) B ∧ kL.length = eL.length + 1 ∧ kR.length = eR.length ∧ AllH (Hold m') (kL ++ r :: kR) U.ts A2 := by
    rcases pd with ⟨h1, h2, h3, h4⟩ | ⟨m', r, kL, kR, A1, A2, h1, h2, h3, h4, h5, h6, h7⟩
    · exact ⟨[], Au, 0, (Bag.add_zero _).symm, h4, fun B hB => .inl ⟨h1, h2, h3, rfl, hB⟩⟩
    · exact ⟨kL ++ kR, A1, A2, h3, h4, fun B hB => .inr ⟨m', r, kL, kR, h1, h2, hB, h5, h6, h7⟩⟩
  obtain ⟨p1, p2, p3, c1, c2, c3, C1, C2, C3, rfl, ns⟩ := hn
  have hlen : (eL ++ eR).length = eL.length + eR.length := List.length_append
  have nC0 := s.at (nodeC k (eL ++ eR).length ks.length p1 p2 p3 c1 c2 c3)
  have tk : (eL ++ eR).take eL.length = eL := List.take_left' rfl
  have dk : (eL ++ eR).drop eL.length = eR := List.drop_left' rfl
  have f1 : ((eL ++ eR).map Prod.fst).take eL.length ++ key :: ((eL ++ eR).map Prod.fst).drop eL.length = U.es.map Prod.fst := by
    rw [← List.map_take, ← List.map_drop, tk, dk, hU]; simp
  have f2 : ((eL ++ eR).map Prod.snd).take eL.length ++ value :: ((eL ++ eR).map Prod.snd).drop eL.length = U.es.map Prod.snd := by
    rw [← List.map_take, ← List.map_drop, tk, dk, hU]; simp
  have hUl : (eL ++ eR).length + 1 = U.es.length := by rw [hU]; simp; omega
  rw [btree_Tree_put_b1_eq]
  refine condYes (decide_eq_true (by omega)) ?_
  refine rN.ptr (by omega) (by omega) ?_
  rw [Int.toNat_natCast, hN]
  refine rI.int (by omega) (by omega) ?_
  rw [Int.toNat_natCast, hI]
  refine ⟨_, _, _, nC0.cell 0, _, _, _, nC0.cellA 1, ?_⟩
  -- the end, whatever came first
  have fin : ∀ (h' : Hp) (q1 q2 : Option Addr) (d1 d2 : Nat) (D1 D2 G : Bag), St h0 h' (nodeC k (eL ++ eR).length ks.length p1 p2 p3 c1 c2 c3 + (D1 + (D2 + (C3 + (A2 + (F + G)))))) →
      Sl TI q1 ((eL ++ eR).length + 1) d1 (((eL ++ eR).map Prod.fst).take eL.length ++ key :: ((eL ++ eR).map Prod.fst).drop eL.length) D1 → Sl TI q2 ((eL ++ eR).length + 1) d2 (((eL ++ eR).map Prod.snd).take eL.length ++ value :: ((eL ++ eR).map Prod.snd).drop eL.length) D2 →
      NN (some (⟨k, 0, none⟩ : Addr)) fun a => Wr h' a (.slice q1 ((eL ++ eR).length + 1) d1) fun h1 => NN (some (⟨k, 0, none⟩ : Addr)) fun a => Wr h1 (a.add 1) (.slice q2 ((eL ++ eR).length + 1) d2) fun h2 =>
      btree_Tree_put_b2 t visits nodes nL nC atv aL aC right (d : Int) (some ⟨k, 0, none⟩) (eL.length : Int) h2 nx0 K := by
    intro h' q1 q2 d1 d2 D1 D2 G s' o1 o2
    refine wr2 s' fun h2 s2 => ?_
    rw [f1] at o1
    rw [f2] at o2
    have nb : NodeA k U.es ks (nodeC k U.es.length ks.length q1 q2 p3 d1 d2 c3 + (D1 + (D2 + C3))) := ⟨q1, q2, p3, d1, d2, c3, D1, D2, C3, rfl, ⟨o1.cast hUl rfl, o2.cast hUl rfl, ns.s3⟩⟩
    rw [hUl] at s2
    refine put_b2_ok hU rfl hsz (hx _ nb) (F := F) ?_ hk
    have s3 : St h0 h2 (G + (nodeC k U.es.length ks.length q1 q2 p3 d1 d2 c3 + (D1 + (D2 + C3)) + (A2 + F))) := s2.to
    exact s3.drop
  refine ⟨?_, ?_⟩
  · refine s.new (cs := [.int .i64 key]) fun b4 h9 _ s1 => ?_
    have g9 := s1.at (nodeC k (eL ++ eR).length ks.length p1 p2 p3 c1 c2 c3)
    refine ⟨⟨_, _, _, g9.cellA 1, rfl⟩, ⟨_, _, _, g9.cell 0, rfl⟩, ?_, ?_⟩
    · have s2 : St h0 h9 (C1 + (cA b4 [.int .i64 key] (TI).e + (nodeC k (eL ++ eR).length ks.length p1 p2 p3 c1 c2 c3 + (C2 + (C3 + (A2 + F)))))) := s1.to
      refine (insertI_st (x := key) s2 ns.s1 rfl (by omega) (by omega)).mono fun v2 h10 ⟨p', c', C1', hv, o1, s3⟩ => ?_
      refine ⟨_, _, _, hv, ⟨_, _, _, (s3.at (nodeC k (eL ++ eR).length ks.length p1 p2 p3 c1 c2 c3)).cellA 1, rfl⟩, ?_⟩
      refine s3.new (cs := [.int .i64 value]) fun b5 h11 _ s4 => ?_
      refine ⟨⟨_, _, _, (s4.at (nodeC k (eL ++ eR).length ks.length p1 p2 p3 c1 c2 c3)).cellA 1, rfl⟩, ?_⟩
      have s5 : St h0 h11 (C2 + (cA b5 [.int .i64 value] (TI).e + (nodeC k (eL ++ eR).length ks.length p1 p2 p3 c1 c2 c3 + (C1' + (C3 + (A2 + (F + cA b4 [.int .i64 key] (TI).e))))))) := s4.to
      refine (insertI_st (x := value) s5 ns.s2 rfl (by omega) (by omega)).mono fun v3 h12 ⟨p'', c'', C2', hv', o2, s6⟩ => ?_
      refine ⟨_, _, _, hv', fin h12 p' p'' c' c'' C1' C2' (cA b4 [.int .i64 key] (TI).e + cA b5 [.int .i64 value] (TI).e) s6.to o1 o2⟩
    · refine s1.new (cs := [.int .i64 value]) fun b6 h15 _ s2 => ?_
      have g15 := s2.at (nodeC k (eL ++ eR).length ks.length p1 p2 p3 c1 c2 c3)
      refine ⟨⟨_, _, _, g15.cellA 1, rfl⟩, ⟨_, _, _, g15.cell 0, rfl⟩, ?_⟩
      have s3 : St h0 h15 (C1 + (cA b4 [.int .i64 key] (TI).e + (nodeC k (eL ++ eR).length ks.length p1 p2 p3 c1 c2 c3 + (C2 + (C3 + (A2 + (F + cA b6 [.int .i64 value] (TI).e))))))) := s2.to
      refine (insertI_st (x := key) s3 ns.s1 rfl (by omega) (by omega)).mono fun v4 h16 ⟨p', c', C1', hv, o1, s4⟩ => ?_
      refine ⟨_, _, _, hv, ⟨_, _, _, (s4.at (nodeC k (eL ++ eR).length ks.length p1 p2 p3 c1 c2 c3)).cellA 1, rfl⟩, ?_⟩
      have s5 : St h0 h16 (C2 + (cA b6 [.int .i64 value] (TI).e + (nodeC k (eL ++ eR).length ks.length p1 p2 p3 c1 c2 c3 + (C1' + (C3 + (A2 + (F + cA b4 [.int .i64 key] (TI).e))))))) := s4.to
      refine (insertI_st (x := value) s5 ns.s2 rfl (by omega) (by omega)).mono fun v3 h12 ⟨p'', c'', C2', hv', o2, s6⟩ => ?_
      refine ⟨_, _, _, hv', fin h12 p' p'' c' c'' C1' C2' (cA b4 [.int .i64 key] (TI).e + cA b6 [.int .i64 value] (TI).e) s6.to o1 o2⟩
  · refine s.new (cs := [.int .i64 value]) fun b7 h20 _ s1 => ?_
    have g20 := s1.at (nodeC k (eL ++ eR).length ks.length p1 p2 p3 c1 c2 c3)
    refine ⟨⟨_, _, _, g20.cellA 1, rfl⟩, ⟨_, _, _, g20.cell 0, rfl⟩, ?_⟩
    refine s1.new (cs := [.int .i64 key]) fun b8 h21 _ s2 => ?_
    have g21 := s2.at (nodeC k (eL ++ eR).length ks.length p1 p2 p3 c1 c2 c3)
    refine ⟨⟨_, _, _, g21.cellA 1, rfl⟩, ⟨_, _, _, g21.cell 0, rfl⟩, ?_⟩
    have s3 : St h0 h21 (C1 + (cA b8 [.int .i64 key] (TI).e + (nodeC k (eL ++ eR).length ks.length p1 p2 p3 c1 c2 c3 + (C2 + (C3 + (A2 + (F + cA b7 [.int .i64 value] (TI).e))))))) := s2.to
    refine (insertI_st (x := key) s3 ns.s1 rfl (by omega) (by omega)).mono fun v4 h16 ⟨p', c', C1', hv, o1, s4⟩ => ?_
    refine ⟨_, _, _, hv, ⟨_, _, _, (s4.at (nodeC k (eL ++ eR).length ks.length p1 p2 p3 c1 c2 c3)).cellA 1, rfl⟩, ?_⟩
    have s5 : St h0 h16 (C2 + (cA b7 [.int .i64 value] (TI).e + (nodeC k (eL ++ eR).length ks.length p1 p2 p3 c1 c2 c3 + (C1' + (C3 + (A2 + (F + cA b8 [.int .i64 key] (TI).e))))))) := s4.to
    refine (insertI_st (x := value) s5 ns.s2 rfl (by omega) (by omega)).mono fun v3 h12 ⟨p'', c'', C2', hv', o2, s6⟩ => ?_
    refine ⟨_, _, _, hv', fin h12 p' p'' c' c'' C1' C2' (cA b7 [.int .i64 value] (TI).e + cA b8 [.int .i64 key] (TI).e) s6.to o1 o2⟩
end Go.Proofs.YtkdmcdnfakmapaaGreat

/- B-trees: the node is split where it is full; the loop of put. -/
set_option maxRecDepth 100000
namespace Go.Proofs.YtkdmcdnfakmapaaGreat
open Go Go.Sx
abbrev treeC (tb order len : Nat) (root : Option Addr) (vis : Int) : Bag := cA tb [.int .i64 order, .int .i64 len, .pointer root, .int .i64 vis] 62
def TreeA (order : Nat) (xs : List E) (tb : Nat) (vis : Int) (A : Bag) : Prop :=
  (xs = [] ∧ A = treeC tb order 0 none vis) ∨ ∃ n root t A1, A = treeC tb order xs.length (some ⟨root, 0, none⟩) vis + A1 ∧ Hold n root t A1 ∧ flat n t = xs ∧ SzR ((order + 1) / 2 - 1) (order - 1) n t
/-! ### how many entries -/
theorem wR_len {a c : Nat} : ∀ (es : List E) (ks : List (List E)), ks.length = es.length → (∀ k ∈ ks, a ≤ k.length + 1 ∧ k.length + 1 ≤ c) → es.length * a ≤ (wR es ks).length ∧ (wR es ks).length ≤ es.length * c
  | [], [], _, _ => by simp [wR]
  | [], _ :: _, h, _ => by simp at h
  | _ :: _, [], h, _ => by simp at h
  | e :: es, k :: ks, h, hk => by
    have h1 := wR_len es ks (by simpa using h) (fun k hk' => hk k (by simp [hk']))
    have h2 := hk k (by simp)
    simp only [wR, List.length_cons, List.length_append, Nat.add_mul, Nat.one_mul]
    omega
theorem weave_len {a c : Nat} (es : List E) (ks : List (List E)) (hl : ks.length = es.length + 1) (hk : ∀ k ∈ ks, a ≤ k.length + 1 ∧ k.length + 1 ≤ c) : (es.length + 1) * a ≤ (weave ks es).length + 1 ∧ (weave ks es).length + 1 ≤ (es.length + 1) * c := by
  cases ks with
  | nil => simp at hl
  | cons k ks =>
    have h1 := wR_len (a := a) (c := c) es ks (by simpa using hl) (fun k hk' => hk k (by simp [hk']))
    have h2 := hk k (by simp)
    simp only [weave, List.length_append, Nat.add_mul, Nat.one_mul]
    omega
theorem Sz.count {lo hi : Nat} : ∀ {n b : Nat} {t : BT} {A : Bag}, Hold n b t A → Sz lo hi n t → (lo + 1) ^ (n + 1) ≤ (flat n t).length + 1 ∧ (flat n t).length + 1 ≤ (hi + 1) ^ (n + 1)
  | 0, b, t, A, _, hs => by
    have : lo ≤ t.es.length ∧ t.es.length ≤ hi := hs
    simp only [flat, Nat.zero_add, Nat.pow_one]
    omega
  | n + 1, b, t, A, hh, hs => by
    have hl := hh.len
    obtain ⟨ks, A1, A2, rfl, h1, _, h2⟩ := hh
    have hk : ∀ k ∈ t.ts.map (flat n), (lo + 1) ^ (n + 1) ≤ k.length + 1 ∧ k.length + 1 ≤ (hi + 1) ^ (n + 1) := by
      intro k hk
      obtain ⟨c, hc, rfl⟩ := List.mem_map.1 hk
      have : ∀ {bs : List Nat} {ts : List BT} {B : Bag}, AllH (Hold n) bs ts B → ∀ c ∈ ts, ∃ b A, Hold n b c A := by
        intro bs
        induction bs with
        | nil => intro ts B h c hc; cases ts with | nil => cases hc | cons _ _ => exact h.elim
        | cons b bs ih =>
          intro ts B h c hc
          cases ts with
          | nil => cases hc
          | cons t ts =>
            obtain ⟨D1, D2, _, g1, g2⟩ := h
            rcases List.mem_cons.1 hc with rfl | hc
            · exact ⟨_, _, g1⟩
            · exact ih g2 c hc
      obtain ⟨b', A', hc'⟩ := this h2 c hc
      exact Sz.count hc' (hs.2 c hc)
    have := weave_len t.es (t.ts.map (flat n)) (by rw [List.length_map]; exact hl) hk
    have h3 := hs.1
    simp only [flat]
    refine ⟨Nat.le_trans ?_ this.1, Nat.le_trans this.2 ?_⟩
    · rw [Nat.pow_succ, Nat.mul_comm]; exact Nat.mul_le_mul_right _ (by omega)
    · rw [Nat.pow_succ (m := n + 1), Nat.mul_comm]; exact Nat.mul_le_mul_left _ (by omega)
theorem Sz.weaken {lo lo2 hi : Nat} (hle : lo2 ≤ lo) : ∀ {n : Nat} {t : BT}, Sz lo hi n t → Sz lo2 hi n t
  | 0, _, h => ⟨Nat.le_trans hle h.1, h.2⟩
  | _ + 1, _, h => ⟨⟨Nat.le_trans hle h.1.1, h.1.2⟩, fun c hc => (h.2 c hc).weaken hle⟩
theorem SzR.one {lo hi : Nat} (hle : 1 ≤ lo) {n : Nat} {t : BT} (h : SzR lo hi n t) : Sz 1 hi n t := by
  cases n with
  | zero => exact h
  | succ n => exact ⟨h.1, fun c hc => (h.2 c hc).weaken hle⟩
theorem SzR.low {lo hi n b : Nat} {t : BT} {A : Bag} (hh : Hold n b t A) (hle : 1 ≤ lo) (h : SzR lo hi n t) : 2 ^ (n + 1) ≤ (flat n t).length + 1 := (Sz.count hh (h.one hle)).1
theorem pow_bound {n m : Nat} (h : 2 ^ (n + 1) ≤ m + 1) (hm : m ≤ 4000) : n ≤ 11 := by
  rcases Nat.lt_or_ge n 12 with h1 | h1
  · omega
  · have : 2 ^ (12 + 1) ≤ 2 ^ (n + 1) := Nat.pow_le_pow_right (by decide) (by omega)
    have e : 2 ^ (12 + 1) = 8192 := by decide
    omega
/-! ### splitting -/
theorem weave_cut (k1 : List (List E)) (e1 : List E) (e : E) (k2 : List (List E)) (e2 : List E) (h1 : k1.length = e1.length + 1) (h2 : k2.length = e2.length + 1) : weave (k1 ++ k2) (e1 ++ e :: e2) = weave k1 e1 ++ e :: weave k2 e2 := by
  obtain ⟨kL, k, rfl⟩ : ∃ kL k, k1 = kL ++ [k] := by
    rcases List.eq_nil_or_concat k1 with h | ⟨kL, k, h⟩
    · rw [h] at h1; simp at h1
    · exact ⟨kL, k, by simpa using h⟩
  cases k2 with
  | nil => simp at h2
  | cons k' k2 =>
    have hl : kL.length = e1.length := by simpa using h1
    rw [List.append_assoc, List.singleton_append, weave_at kL e1 k (k' :: k2) (e :: e2) hl]
    have := weave_at kL e1 k [] [] hl
    rw [List.append_nil] at this
    rw [this]
    simp [wR, weave]
def tl (t : BT) : BT := .nd (t.es.take (t.es.length / 2)) (t.ts.take (t.es.length / 2 + 1))
def tr (t : BT) : BT := .nd (t.es.drop (t.es.length / 2 + 1)) (t.ts.drop (t.es.length / 2 + 1))
def mid (t : BT) : E := t.es.getD (t.es.length / 2) (0, 0)
theorem es_cut (es : List E) {i : Nat} (h : i < es.length) : es = es.take i ++ es.getD i (0, 0) :: es.drop (i + 1) := by
  have : es.getD i (0, 0) = es[i] := by simp [List.getD, h]
  rw [this, ← List.drop_eq_getElem_cons h, List.take_append_drop]
theorem flat_split {n b : Nat} {t : BT} {A : Bag} (hh : Hold n b t A) (h1 : 1 ≤ t.es.length) : flat n t = flat n (tl t) ++ mid t :: flat n (tr t) := by
  have hc := es_cut t.es (i := t.es.length / 2) (by omega)
  cases n with
  | zero => exact hc
  | succ n =>
    have hl := hh.len
    show weave (t.ts.map (flat n)) t.es = weave ((t.ts.take _).map (flat n)) (t.es.take _) ++ _ :: weave ((t.ts.drop _).map (flat n)) (t.es.drop _)
    rw [← weave_cut]
    · rw [← List.map_append, List.take_append_drop]
      exact congrArg _ hc
    · rw [List.length_map, List.length_take, List.length_take]; omega
    · rw [List.length_map, List.length_drop, List.length_drop]; omega
theorem hold_split {h0 h : Hp} {n b : Nat} {t : BT} {A F : Bag} (hh : Hold n b t A) (s : St h0 h (A + F)) (h1 : 1 ≤ t.es.length) (hsz : t.es.length < 1000) :
    HCalls Tryz.prog 67 #[ptr b] h (fun v h' => ∃ r A1 A2, v = .tuple #[.int .i64 (mid t).1, .int .i64 (mid t).2, ptr r] ∧ Hold n b (tl t) A1 ∧ Hold n r (tr t) A2 ∧ St h0 h' (A1 + (A2 + F))) := by
  cases n with
  | zero =>
    obtain ⟨ht, hn⟩ := hh
    refine (split_ok s hn h1 (.inl rfl) hsz).mono fun v h' ⟨r, A1, A2, hv, n1, n2, s'⟩ => ⟨r, A1, A2, hv, ⟨by show t.ts.take _ = []; rw [ht]; rfl, n1⟩, ⟨by show t.ts.drop _ = []; rw [ht]; rfl, n2⟩, s'⟩
  | succ n =>
    have hlen := hh.len
    obtain ⟨ks, A1, A2, rfl, hn, hl, ha⟩ := hh
    have s1 : St h0 h (A1 + (A2 + F)) := s.to
    refine (split_ok s1 hn h1 (.inr hl) hsz).mono fun v h' ⟨r, B1, B2, hv, n1, n2, s'⟩ => ?_
    rw [← List.take_append_drop (t.es.length / 2 + 1) ks, ← List.take_append_drop (t.es.length / 2 + 1) t.ts] at ha
    obtain ⟨C1, C2, rfl, a1, a2⟩ := AllH.split _ _ (by rw [List.length_take, List.length_take, hl, hlen]) ha
    refine ⟨r, B1 + C1, B2 + C2, hv, ⟨_, B1, C1, rfl, n1, ?_, a1⟩, ⟨_, B2, C2, rfl, n2, ?_, a2⟩, s'.to⟩
    · show (ks.take (t.es.length / 2 + 1)).length = (t.es.take (t.es.length / 2)).length + 1
      rw [List.length_take, List.length_take]; omega
    · show (ks.drop (t.es.length / 2 + 1)).length = (t.es.drop (t.es.length / 2 + 1)).length + 1
      rw [List.length_drop, List.length_drop]; omega
theorem Sz.tl {lo hi n : Nat} {t : BT} (h1 : lo ≤ t.es.length / 2) (h2 : t.es.length ≤ hi + 1) (h3 : 1 ≤ hi) (hk : ∀ m, n = m + 1 → ∀ c ∈ t.ts, Sz lo hi m c) : Sz lo hi n (tl t) := by
  have hl : (Go.Proofs.YtkdmcdnfakmapaaGreat.tl t).es.length = t.es.length / 2 := by show (t.es.take (t.es.length / 2)).length = _; rw [List.length_take]; omega
  cases n with
  | zero => exact ⟨by rw [hl]; exact h1, by rw [hl]; omega⟩
  | succ n => exact ⟨⟨by rw [hl]; exact h1, by rw [hl]; omega⟩, fun c hc => hk n rfl c (List.mem_of_mem_take hc)⟩
theorem Sz.tr {lo hi n : Nat} {t : BT} (h1 : lo + (t.es.length / 2 + 1) ≤ t.es.length) (h2 : t.es.length ≤ hi + 1) (hk : ∀ m, n = m + 1 → ∀ c ∈ t.ts, Sz lo hi m c) : Sz lo hi n (tr t) := by
  have hl : (Go.Proofs.YtkdmcdnfakmapaaGreat.tr t).es.length = t.es.length - (t.es.length / 2 + 1) := by show (t.es.drop (t.es.length / 2 + 1)).length = _; rw [List.length_drop]
  cases n with
  | zero => exact ⟨by rw [hl]; omega, by rw [hl]; omega⟩
  | succ n => exact ⟨⟨by rw [hl]; omega, by rw [hl]; omega⟩, fun c hc => hk n rfl c (List.mem_of_mem_drop hc)⟩
end Go.Proofs.YtkdmcdnfakmapaaGreat
