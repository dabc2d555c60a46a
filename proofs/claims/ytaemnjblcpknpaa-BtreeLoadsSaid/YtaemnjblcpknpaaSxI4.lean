/- copy, and slices that do not overlap. -/
import Derived.Test.YtaemnjblcpknpaaSxI3
namespace Go.Sx
open Go
theorem frozen_blk {h : Hp} {b o : Nat} {s : Option Nat} {xs : List Value} {e : TypeId} (hb : Blk h b xs e) : frozenH h ⟨b, o, s⟩ = false := by
  unfold Blk at hb
  unfold frozenH
  simp only [hb]
  simp
theorem shape_blk {h : Hp} {b : Nat} {xs : List Value} {e : TypeId} (hb : Blk h b xs e) : shapeH h b = some (e, xs.length) := by
  unfold Blk at hb
  unfold shapeH
  simp [hb]
theorem overlaps_no {P : Program} {g : Nat} {ps rs : Array TypeId} {h : Hp} {t e : TypeId} {i0 : TypeInfo} {a b : Addr} {la ca lb cb : Nat} {xs ys : List Value} {e1 e2 : TypeId} {K : Value → Prop}
    (hx : IsExt P g (Extern.SlicesOverlaps.overlaps ps rs)) (hp : ps[0]? = some t) (ht : P.underlying t = some (.slice e)) (hi : P.info? e = some i0)
    (hne : a.block ≠ b.block) (ha : Blk h a.block xs e1) (hb : Blk h b.block ys e2) (hk : K (.bool false)) : ExtCall P g #[.slice (some a) la ca, .slice (some b) lb cb] h K := by
  refine ⟨_, hx, ?_⟩
  have fa : ∀ o s, frozenH h ⟨a.block, o, s⟩ = false := fun o s => frozen_blk ha
  have fb : ∀ o s, frozenH h ⟨b.block, o, s⟩ = false := fun o s => frozen_blk hb
  have fa' : frozenH h a = false := fa a.off a.spot
  have fb' : frozenH h b = false := fb b.off b.spot
  have sa := shape_blk ha
  have sb := shape_blk hb
  have e0 : Extern.SlicesOverlaps.overlaps ps rs #[.slice (some a) la ca, .slice (some b) lb cb] = (do
      let some t := ps[0]? | stuck "slices.overlaps: no parameter types"
      let .slice elem ← underlying t | stuck "slices.overlaps: slice type expected"
      let size ← sizeOf elem
      if la = 0 ∨ lb = 0 ∨ size = 0 then pure (.bool false)
      else if a.block != b.block && (← frozen a) && (← frozen b) then unsupported .addressObserved
      else do
        if a.block != b.block then do
          noView a; noView b
          if ← mayBeOne a b then return .bool ((← choose (.extern "sameAddr.stringBytes" 2)) == 1)
        pure (.bool (a.block == b.block && a.off < b.off + lb * size && b.off < a.off + la * size))) := rfl
  rw [e0]
  simp only [hp, hq_bind', hq_underlying, ht, sizeOf_hq, hi]
  split
  · exact hk
  · simp only [frozen, hq_bind', hq, fa', fb', hq_pure', Bool.and_false, Bool.false_eq_true, if_false]
    have hne' : (a.block != b.block) = true := by simpa using hne
    have hne2 : (a.block == b.block) = false := by simpa using hne
    simp only [hne', if_true, noView, viewAt, shape, hq_bind', hq, sa, sb, hq_pure', Option.isSome_some, Option.isSome_none, Bool.false_eq_true, if_false, mayBeOne, stringish, frozen, fa', fb', fa, fb]
    simp only [hq_bind', hq_pure', hq, Bool.false_eq_true, if_false, fa, fb, Bool.false_and, Bool.and_self, Bool.or_self, hne2]
    exact hk

/-- 'copy' into a block. -/
theorem copy_blk {P : Program} {t e : TypeId} {h : Hp} {b o n c1 m c2 j : Nat} {q : Option Addr} {pre mid rest ys : List Value} {K : Value → Hp → Prop}
    (ok : ElemOk P t e) (r : Rd h q m ys) (hb : Blk h b (pre ++ mid ++ rest) e) (ho : pre.length = o) (hj : j = min m n) (hm : mid.length = j) (hs : ∀ v ∈ ys.take j, scalar v = true)
    (hk : ∀ v h', h'.size = h.size → (∀ k, k ≠ b → h'[k]? = h[k]?) → Blk h' b (pre ++ ys.take j ++ rest) e → K v h') :
    copyV P t (.slice (some ⟨b, o, none⟩) n c1) (.slice q m c2) h K := by
  unfold copyV
  rw [ok.el]
  have hl := r.len
  refine ⟨ys.take j, by rw [List.length_take]; omega, ?_, ?_⟩
  · rcases r.2 with h0 | ⟨a, rfl, hc⟩
    · have : ys = [] := List.eq_nil_of_length_eq_zero (by omega)
      subst this
      cases q with
      | none => simp [readsL]
      | some a => intro i hi; simp at hi
    · intro i hi
      rw [List.length_take] at hi
      rw [hc i (by omega), List.getElem?_take, if_pos (by omega)]
  · show storesV ((⟨b, o, none⟩ : Addr).add 0) _ _ 0 h
    rw [add_mk]
    refine storesV_blk (ys.take j) 0 o h pre mid rest hs hb (by omega) (by rw [hm, List.length_take]; omega) fun h' hz hsm hb' => hk _ h' hz hsm hb'

/-- 'append(s, make(S, l)...)' that does not fit. -/
theorem append_make {P : Program} {t t2 e : TypeId} {z : Value} {i0 : TypeInfo} {h : Hp} {p : Option Addr} {n c : Nat} {l : Int} {xs : List Value} {k : Option Addr → Nat → Nat → Hp → Prop}
    (ok : elemT P t = some (e, 1)) (hi : P.info? e = some i0) (hz : i0.zero = some z) (hzs : scalar z = true) (hbt : i0.bytes ≤ 32) (ht2 : notIntT P t2 = false) (hk2 : (intKindT P t2).isSome = true)
    (r : Rd h p n xs) (hn : n < 1099511627776) (h0 : 0 ≤ l) (hl : l < 1099511627776) (hc : c < n + l.toNat)
    (hk : ∀ b c' h', b = h.size → Ext h h' → n + l.toNat ≤ c' → Blk h' b (xs ++ List.replicate l.toNat z ++ List.replicate (c' - (n + l.toNat)) z) e → k (some ⟨b, 0, none⟩) (n + l.toNat) c' h') :
    appendV P t t2 (.slice p n c) (.int .i64 l) h (slK k) := by
  have hbe : bytesT P e = i0.bytes := by unfold bytesT; rw [hi]
  have hzc : z.cells = #[z] := by cases z <;> first | rfl | cases hzs
  unfold appendV
  rw [ok, ht2]
  have hb1 : l * (i0.bytes : Int) ≤ l * 32 := Int.mul_le_mul_of_nonneg_left (by omega) h0
  refine ⟨⟨h0, by omega, by rw [hbe]; omega, by omega, hk2⟩, ?_⟩
  unfold zeroV
  rw [hi]
  simp only [hz]
  refine ⟨fun hle => by omega, fun _ => ⟨⟨?_, by omega⟩, xs, by have := r.len; omega, ?_, ?_⟩⟩
  · have hncap : Builtin.nextslicecap (n + l.toNat) c ≤ 2 * (n + l.toNat) := by
      unfold Builtin.nextslicecap
      split
      · omega
      · split
        · omega
        · simp only [Builtin.growBy]
          split
          · omega
          · split
            · omega
            · split
              · omega
              · split <;> omega
    rw [hbe]
    have h1 : Builtin.nextslicecap (n + l.toNat) c * i0.bytes ≤ 2 * (n + l.toNat) * 32 := Nat.mul_le_mul hncap hbt
    omega
  · rcases r.readsL with hr | h1
    · exact hr
    · subst h1
      have : xs = [] := List.eq_nil_of_length_eq_zero r.len
      subst this
      cases p with
      | none => rfl
      | some a => intro i hi; cases hi
  · intro c' hc'
    refine New_intro fun b h' hbs hext hblk hsz => hk b c' h' hbs hext hc' ?_
    rw [hzc] at hblk
    have e1 : ∀ m, repL (m * #[z].size) #[z].toList = List.replicate m z := fun m => by
      show repL (m * 1) [z] = _
      rw [Nat.mul_one, repL_one]
    rw [e1, e1] at hblk
    exact hblk

theorem Rd.take {h : Hp} {p : Option Addr} {n i : Nat} {xs : List Value} (r : Rd h p n xs) (hi : i ≤ n) : Rd h p i (xs.take i) := by
  have hl := r.len
  refine ⟨by rw [List.length_take]; omega, ?_⟩
  rcases r.2 with h0 | ⟨a, hp, hc⟩
  · exact .inl (by omega)
  · exact .inr ⟨a, hp, fun j hj => by rw [hc j (by omega), List.getElem?_take, if_pos hj]⟩
theorem subAddr_in {b o c i : Nat} (h : c ≠ i) : subAddr (some ⟨b, o, none⟩) c i 1 = some ⟨b, o + i, none⟩ := by
  unfold subAddr
  rw [if_neg h, Nat.mul_one, Option.map_some, add_mk]

/-- 'append' that fits. -/
theorem append_fit {P : Program} {t e : TypeId} {h : Hp} {b n c m c2 : Nat} {q : Option Addr} {pre mid rest ys : List Value} {k : Option Addr → Nat → Nat → Hp → Prop}
    (ok : ElemOk P t e) (hb : Blk h b (pre ++ mid ++ rest) e) (hp : pre.length = n) (hm : mid.length = m) (r : Rd h q m ys) (hs : ∀ v ∈ ys, scalar v = true) (hc : n + m ≤ c)
    (hk : ∀ h', h'.size = h.size → (∀ k, k ≠ b → h'[k]? = h[k]?) → Blk h' b (pre ++ ys ++ rest) e → k (some ⟨b, 0, none⟩) (n + m) c h') :
    appendV P t t (.slice (some ⟨b, 0, none⟩) n c) (.slice q m c2) h (slK k) := by
  have hl := r.len
  unfold appendV
  rw [ok.el, ok.ni]
  refine ⟨ys, by omega, ?_, fun _ => ?_, fun hlt => by omega⟩
  · rcases r.readsL with h1 | h1
    · exact h1
    · subst h1
      have : ys = [] := List.eq_nil_of_length_eq_zero r.len
      subst this
      cases q with
      | none => rfl
      | some a => intro i hi; cases hi
  · simp only [storesO, add_mk, Nat.mul_one, Nat.zero_add]
    exact storesV_blk ys 0 n h pre mid rest hs hb (by omega) (by omega) fun h' hz hsm hb' => hk h' hz hsm hb'
theorem clear_blk {P : Program} {t e : TypeId} {h : Hp} {b o n c : Nat} {pre mid rest : List Value} {k : Hp → Prop}
    (ok : ElemOk P t e) (hb : Blk h b (pre ++ mid ++ rest) e) (hp : pre.length = o) (hm : mid.length = n)
    (hk : ∀ h' zs, zs.length = n → h'.size = h.size → (∀ k, k ≠ b → h'[k]? = h[k]?) → Blk h' b (pre ++ zs ++ rest) e → k h') :
    clearV P t (.slice (some ⟨b, o, none⟩) n c) h k := by
  obtain ⟨i0, z, hi, hz, hzs, hbt⟩ := ok.info
  unfold clearV zeroV
  rw [ok.el]
  simp only [hi, hz, storesO, add_mk, Nat.add_zero]
  have e1 : repL (n * z.cells.size) z.cells.toList = List.replicate n z := by
    rw [zcells hzs]
    show repL (n * 1) [z] = _
    rw [Nat.mul_one, repL_one]
  rw [e1]
  refine storesV_blk _ 0 o h pre mid rest (fun v hv => by rw [List.eq_of_mem_replicate hv]; exact hzs) hb (by omega) (by simp; omega) fun h' hz hsm hb' => hk h' _ (by simp) hz hsm hb'
theorem slC_intro {P : Program} {t e : TypeId} {h : Hp} {p : Option Addr} {n c i j m : Nat} {K : Option Addr → Nat → Nat → Prop} (he : elemT P t = some (e, 1)) (h1 : i ≤ j) (h2 : j ≤ m) (h3 : m ≤ c)
    (hk : ∀ a, K a (j - i) (m - i)) : ∃ (a : Option Addr) (l c' : Nat), slC P t (.slice p n c) (some (.int .i64 i)) (some (.int .i64 j)) (.int .i64 m) h a l c' ∧ K a l c' := by
  obtain ⟨hu, inf, hinf, hsz⟩ := elemT_spec he
  refine ⟨_, _, _, ?_, hk (if m = i then p else p.map (·.add (i * inf.size)))⟩
  unfold slC
  simp only [Instr.sliceAt, hq_bind', hq_underlying, hu, Instr.slice, Instr.sliceBounds, Option.isSome_some, if_true]
  have b1 : ∀ {y : Nat} {cd : BoundsCode} {x : Nat} {Q : Nat → Prop}, x ≤ y → Q x → hq P (Instr.sliceBound (.int .i64 (x : Int)) y cd) h Q := fun hxy hq => hq_bound ⟨by omega, by omega⟩ (by rw [Int.toNat_natCast]; exact hq)
  refine b1 h3 ?_
  refine b1 h2 ?_
  refine b1 h1 ?_
  simp only [hq_pure', sizeOf_hq, hinf]
end Go.Sx
