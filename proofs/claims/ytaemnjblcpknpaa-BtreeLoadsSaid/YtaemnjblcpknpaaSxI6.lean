/- Separation, second part: copy, clear, make, append that fits; slices of one-cell elements. -/
import Derived.Test.YtaemnjblcpknpaaSxI5
namespace Go.Sx
open Go
section
variable {α : Type} {T : Ty α}
theorem RdT.readsTake {h : Hp} {q : Option Addr} {m j : Nat} {ys : List α} (r : RdT T h q m ys) (hj : j ≤ m) : Sx.readsL h q (T.cells (ys.take j)) := (r.take hj).readsL
/-- 'copy' into a block. -/
theorem copy_st {P : Program} {t : TypeId} {h0 h : Hp} {b o n c1 m c2 j : Nat} {e : TypeId} {q : Option Addr} {pre mid rest : List Value} {ys : List α} {F : Bag} {K : Value → Hp → Prop}
    (ok : ElOk T P t) (s : St h0 h (cA b (pre ++ mid ++ rest) e + F)) (r : RdT T h q j ys) (ho : pre.length = o) (hj : j = min m n) (hm : mid.length = j * T.sz)
    (hk : ∀ v h', St h0 h' (cA b (pre ++ T.cells ys ++ rest) e + F) → K v h') :
    copyV P t (.slice (some ⟨b, o, none⟩) n c1) (.slice q m c2) h K := by
  unfold copyV
  rw [ok.el]
  have hc : (T.cells ys).length = j * T.sz := by rw [T.cells_len, r.len]
  refine ⟨T.cells ys, by rw [hc, hj], r.readsL, ?_⟩
  show storesV ((⟨b, o, none⟩ : Addr).add 0) _ _ 0 h
  rw [add_mk]
  exact s.storesV _ o pre mid rest (T.cells_sc _) ho (by rw [hm, hc]) fun h' s' => hk _ h' s'
theorem repL_scalar (n : Nat) (zs : List Value) (hz : zs ≠ []) (hs : ∀ v ∈ zs, scalar v = true) : ∀ v ∈ repL n zs, scalar v = true := by
  intro v hv
  unfold repL at hv
  obtain ⟨i, _, rfl⟩ := List.mem_map.1 hv
  have hp : 0 < zs.length := List.length_pos_iff.2 hz
  have h1 : i % zs.length < zs.length := Nat.mod_lt _ hp
  rw [nth_eq, List.getElem?_eq_getElem h1]
  exact hs _ (List.getElem_mem h1)
/-- 'append(s, make(S, l)...)' that does not fit. -/
theorem append_make_st {P : Program} {t t2 : TypeId} {h0 h : Hp} {p : Option Addr} {n c : Nat} {l : Int} {xs : List α} {F : Bag} {k : Option Addr → Nat → Nat → Hp → Prop}
    (ok : ElOk T P t) (ht2 : notIntT P t2 = false) (hk2 : (intKindT P t2).isSome = true) (s : St h0 h F)
    (r : RdT T h p n xs) (hn : n + l.toNat < 1073741824) (hl0 : 0 ≤ l) (hc : c < n + l.toNat)
    (hk : ∀ b c' h' mid rest, n + l.toNat ≤ c' → mid.length = l.toNat * T.sz → rest.length = (c' - (n + l.toNat)) * T.sz → St h0 h' (cA b (T.cells xs ++ mid ++ rest) T.e + F) → k (some ⟨b, 0, none⟩) (n + l.toNat) c' h') :
    appendV P t t2 (.slice p n c) (.int .i64 l) h (slK k) := by
  obtain ⟨i0, z, hi, hz, hzs, hzc, hbt⟩ := ok.info
  have hbe : bytesT P T.e = i0.bytes := by unfold bytesT; rw [hi]
  unfold appendV
  rw [ok.el, ht2]
  have hb1 : l * (i0.bytes : Int) ≤ l * 1024 := Int.mul_le_mul_of_nonneg_left (by omega) hl0
  refine ⟨⟨hl0, by omega, by rw [hbe]; omega, Nat.ne_of_gt T.pos, hk2⟩, ?_⟩
  unfold zeroV
  rw [hi]
  simp only [hz]
  refine ⟨fun hle => by omega, fun _ => ⟨⟨?_, by omega⟩, T.cells xs, by rw [T.cells_len, r.len], r.readsL, fun c' hc' => ?_⟩⟩
  · have h1 : Builtin.nextslicecap (n + l.toNat) c * i0.bytes ≤ 2 * (n + l.toNat) * 1024 := Nat.mul_le_mul (nextcap_le n c _ hc) hbt
    rw [hbe]
    omega
  · refine s.new fun b h' _ s' => hk b c' h' _ _ hc' ?_ ?_ s'
    · rw [repL_len, hzs]
    · rw [repL_len, hzs]
/-- 'append' that fits. -/
theorem append_fit_st {P : Program} {t : TypeId} {h0 h : Hp} {b n c m c2 : Nat} {e : TypeId} {q : Option Addr} {pre mid rest : List Value} {ys : List α} {F : Bag} {k : Option Addr → Nat → Nat → Hp → Prop}
    (ok : ElOk T P t) (s : St h0 h (cA b (pre ++ mid ++ rest) e + F)) (hp : pre.length = n * T.sz) (hm : mid.length = m * T.sz) (r : RdT T h q m ys) (hc : n + m ≤ c)
    (hk : ∀ h', St h0 h' (cA b (pre ++ T.cells ys ++ rest) e + F) → k (some ⟨b, 0, none⟩) (n + m) c h') :
    appendV P t t (.slice (some ⟨b, 0, none⟩) n c) (.slice q m c2) h (slK k) := by
  unfold appendV
  rw [ok.el, ok.ni]
  have hcl : (T.cells ys).length = m * T.sz := by rw [T.cells_len, r.len]
  refine ⟨T.cells ys, hcl, r.readsL, fun _ => ?_, fun hlt => by omega⟩
  simp only [storesO, add_mk, Nat.zero_add]
  exact s.storesV _ (n * T.sz) pre mid rest (T.cells_sc _) hp (by rw [hm, hcl]) hk
theorem clear_st {P : Program} {t : TypeId} {h0 h : Hp} {b o n c : Nat} {e : TypeId} {pre mid rest : List Value} {F : Bag} {k : Hp → Prop}
    (ok : ElOk T P t) (s : St h0 h (cA b (pre ++ mid ++ rest) e + F)) (hp : pre.length = o) (hm : mid.length = n * T.sz)
    (hk : ∀ h' zs, zs.length = n * T.sz → St h0 h' (cA b (pre ++ zs ++ rest) e + F) → k h') :
    clearV P t (.slice (some ⟨b, o, none⟩) n c) h k := by
  obtain ⟨i0, z, hi, hz, hzs, hzc, hbt⟩ := ok.info
  unfold clearV zeroV
  rw [ok.el]
  simp only [hi, hz, storesO, add_mk, Nat.add_zero]
  have hne : z.cells.toList ≠ [] := by
    intro h1
    have h2 : z.cells.size = 0 := by rw [← Array.length_toList, h1]; rfl
    have := T.pos
    omega
  refine s.storesV _ o pre mid rest (repL_scalar _ _ hne hzc) hp (by rw [hm, repL_len, hzs]) fun h' s' => hk h' _ (by rw [repL_len, hzs]) s'
/-- The address of an element's cell. -/
theorem RdT.idx {h : Hp} {p : Option Addr} {n : Nat} {xs : List α} {i : Int} {Q : Addr → Prop} (r : RdT T h p n xs) (h0 : 0 ≤ i) (h1 : i < n)
    (hq : ∀ a, p = some a → (∀ j, j < T.sz → cell h ((a.add (i.toNat * T.sz)).add j) = (T.enc (xs.getD i.toNat T.d))[j]?) → Q a) : (0 ≤ i ∧ i < (n : Int)) ∧ NN p Q := by
  refine ⟨⟨h0, h1⟩, ?_⟩
  obtain ⟨a, rfl, hc⟩ := r.at_ (i := i.toNat) (by omega)
  exact hq a rfl hc
/-- An element is written, one cell. -/
theorem Sl.wrI {h0 h : Hp} {p : Option Addr} {n c : Nat} {i : Int} {xs : List α} {A F : Bag} {v : Value} {x : α} {k : Hp → Prop} (a : Sl T p n c xs A) (s : St h0 h (A + F)) (h1 : 0 ≤ i) (hi : i < n) (hsz : T.sz = 1) (hx : T.enc x = [v])
    (hk : ∀ h' A', Sl T p n c (xs.set i.toNat x) A' → St h0 h' (A' + F) → k h') : (0 ≤ i ∧ i < (n : Int)) ∧ NN p fun ad => Wr h (ad.add (i.toNat * 1)) v k := by
  refine ⟨⟨h1, hi⟩, ?_⟩
  obtain ⟨w, hw⟩ : ∃ w, T.enc (xs.getD i.toNat T.d) = [w] := List.length_eq_one_iff.1 (by rw [T.len, hsz])
  obtain ⟨ad, rfl, hwr⟩ := a.wr (i := i.toNat) (j := 0) s (by omega) (by omega) (x := x) (v := v) (by rw [hx, hw]; rfl) hk
  rw [hsz] at hwr
  exact hwr
end
/-! ### one-cell types -/
abbrev tI (e : TypeId) : Ty Int := ⟨e, 1, fun z => [.int .i64 z], 0, fun _ => rfl, by decide, fun _ v hv => by simp at hv; subst hv; rfl⟩
abbrev tP (e : TypeId) : Ty Nat := ⟨e, 1, fun b => [.pointer (some ⟨b, 0, none⟩)], 0, fun _ => rfl, by decide, fun _ v hv => by simp at hv; subst hv; rfl⟩
abbrev tPP (e : TypeId) : Ty (Int × Int) := ⟨e, 2, fun z => [.int .i64 z.1, .int .i64 z.2], (0, 0), fun _ => rfl, by decide, fun _ v hv => by simp at hv; rcases hv with rfl | rfl <;> rfl⟩
theorem tI_cells (e : TypeId) (zs : List Int) : (tI e).cells zs = zs.map (Value.int .i64) := by
  induction zs with
  | nil => rfl
  | cons z r ih => rw [Ty.cells_cons, ih]; rfl
theorem RdT.ints {e : TypeId} {h : Hp} {p : Option Addr} {n : Nat} {zs : List Int} (r : RdT (tI e) h p n zs) : Rd h p n (zs.map (Value.int .i64)) := by
  have := r.rd
  rw [tI_cells] at this
  rwa [show n * (tI e).sz = n from Nat.mul_one n] at this
theorem RdT.of_ints {e : TypeId} {h : Hp} {p : Option Addr} {n : Nat} {zs : List Int} (r : Rd h p n (zs.map (Value.int .i64))) : RdT (tI e) h p n zs := by
  refine .of_rd (by have := r.len; simpa using this) ?_
  rw [tI_cells, show n * (tI e).sz = n from Nat.mul_one n]
  exact r
/-- An integer is loaded. -/
theorem RdT.int {e : TypeId} {h : Hp} {p : Option Addr} {n : Nat} {zs : List Int} {i : Int} {Q : Int → Prop} (r : RdT (tI e) h p n zs) (h0 : 0 ≤ i) (h1 : i < n) (hq : Q (zs.getD i.toNat 0)) :
    (0 ≤ i ∧ i < (n : Int)) ∧ NN p fun a => ∃ x : Int, cell h (a.add (i.toNat * 1)) = some (.int .i64 x) ∧ Q x := idx_int r.ints h0 h1 hq
/-- A pointer is loaded. -/
theorem RdT.ptr {e : TypeId} {h : Hp} {p : Option Addr} {n : Nat} {zs : List Nat} {i : Int} {Q : Option Addr → Prop} (r : RdT (tP e) h p n zs) (h0 : 0 ≤ i) (h1 : i < n) (hq : Q (some ⟨zs.getD i.toNat 0, 0, none⟩)) :
    (0 ≤ i ∧ i < (n : Int)) ∧ NN p fun a => ∃ x : Option Addr, cell h (a.add (i.toNat * 1)) = some (.pointer x) ∧ Q x :=
  r.idx h0 h1 fun _ _ hc => ⟨_, hc 0 Nat.one_pos, hq⟩
/-- What a callee in the older style made. -/
theorem Sl.of_own {e : TypeId} {h0 h h' : Hp} {F : Bag} {q : Option Addr} {m d : Nat} {zs : List Int} (s : St h0 h F) (x : Ext h h') (o : Own h' h.size e q m d (zs.map (Value.int .i64))) : ∃ A, Sl (tI e) q m d zs A ∧ St h0 h' (A + F) := by
  rcases o with ⟨rfl, rfl, rfl, hz⟩ | ⟨b, rest, hb, rfl, hblk, hl, hc⟩
  · have : zs = [] := by simpa using hz
    subst this
    exact ⟨0, Sl.nil, (s.grow x).to⟩
  · refine ⟨cA b ((tI e).cells zs ++ rest) e, ⟨by simpa using hl, .inr ⟨b, rest, rfl, ?_, ?_, rfl⟩⟩, ?_⟩
    · rw [List.length_append, hl] at hc; omega
    · rw [List.length_append, hl] at hc; show _ = (d - m) * 1; omega
    · refine s.join (St.mk' (l := [(b, .cells ((tI e).cells zs ++ rest).toArray e (0, 0))]) x (by simp) (by
        intro a ha
        simp at ha
        subst ha
        exact ⟨hb, by rw [tI_cells]; exact hblk⟩))
end Go.Sx
namespace Go.Sx
open Go
theorem toNat_sub0' (n : Nat) : Int.toNat (n : Int) - Int.toNat 0 = n := by omega
theorem St.atomBlk {h0 h : Hp} {b b' : Nat} {cs cs' : List Value} {e e' : TypeId} {F : Bag} (s : St h0 h (cA b cs e + (cA b' cs' e' + F))) : Blk h b' cs' e' := (s.to (B := cA b' cs' e' + (cA b cs e + F))).blk
/-- A value that is of one element. -/
theorem Sl.one {α : Type} {T : Ty α} {b : Nat} {x : α} {cs : List Value} (hx : cs = T.enc x) : Sl T (some ⟨b, 0, none⟩) 1 1 [x] (cA b cs T.e) := Sl.of_blk rfl (by rw [hx, T.cells_one])
theorem overlaps_st {P : Program} {g : Nat} {ps rs : Array TypeId} {h0 h : Hp} {t e : TypeId} {i0 : TypeInfo} {b1 o1 b2 o2 : Nat} {la ca lb cb : Nat} {xs ys : List Value} {e1 e2 : TypeId} {F : Bag} {K : Value → Prop}
    (hx : IsExt P g (Extern.SlicesOverlaps.overlaps ps rs)) (hp : ps[0]? = some t) (ht : P.underlying t = some (.slice e)) (hi : P.info? e = some i0)
    (s : St h0 h (cA b1 xs e1 + (cA b2 ys e2 + F))) (hk : K (.bool false)) : ExtCall P g #[.slice (some ⟨b1, o1, none⟩) la ca, .slice (some ⟨b2, o2, none⟩) lb cb] h K :=
  overlaps_no hx hp ht hi s.ne s.blk s.atomBlk hk
end Go.Sx
namespace Go.Sx
open Go
theorem slC_st {P : Program} {t e : TypeId} {sz : Nat} {h : Hp} {p : Option Addr} {n c i j m : Nat} {K : Option Addr → Nat → Nat → Prop} (he : elemT P t = some (e, sz)) (h1 : i ≤ j) (h2 : j ≤ m) (h3 : m ≤ c)
    (hk : ∀ a, K a (j - i) (m - i)) : ∃ (a : Option Addr) (l c' : Nat), slC P t (.slice p n c) (some (.int .i64 i)) (some (.int .i64 j)) (.int .i64 m) h a l c' ∧ K a l c' := by
  obtain ⟨hu, inf, hinf, hsz⟩ := elemT_spec he
  refine ⟨_, _, _, ?_, hk (if m = i then p else p.map (·.add (i * inf.size)))⟩
  unfold slC
  simp only [Instr.sliceAt, hq_bind', hq_underlying, hu, Instr.slice, Instr.sliceBounds, Option.isSome_some, if_true]
  have b1 : ∀ {y : Nat} {cd : BoundsCode} {x : Nat} {Q : Nat → Prop}, x ≤ y → Q x → hq P (Instr.sliceBound (.int .i64 (x : Int)) y cd) h Q := fun hxy hq => hq_bound ⟨by omega, by omega⟩ (by rw [Int.toNat_natCast]; exact hq)
  refine b1 h3 ?_
  refine b1 h2 ?_
  refine b1 h1 ?_
  simp only [hq_pure', sizeOf_hq, hinf]
end Go.Sx
namespace Go.Sx
open Go
theorem Sl.cast {α : Type} {T : Ty α} {p : Option Addr} {n n' c : Nat} {xs xs' : List α} {A : Bag} (a : Sl T p n c xs A) (hn : n = n') (hx : xs = xs') : Sl T p n' c xs' A := by subst hn hx; exact a
end Go.Sx
