/- Part W W2 W3 W4 I4 I5 I6 I7 I8 P35 I9 I10 I11 P40 P41 P42 N1 N2 N3 P43 N4 N5 N6 U0 SI P44 OS of the proof: contracts of functions of the program, and what follows from them. -/
import Derived.Test.YtbhofnaipkkbeaaGreatDoorSxV
import Derived.Test.YtbhofnaipkkbeaaGreatDoorSxI3
import Derived.Test.YtbhofnaipkkbeaaGreatDoorSxHR
set_option maxRecDepth 100000
namespace Go.Proofs.YtbhofnaipkkbeaaGreatDoor
open Go Go.Sx
theorem yapv (a b : Nat) (h : a + b < 18446744073709551616) : IntKind.u64.wrap ((a : Int) + (b : Int)) = ((a + b : Nat) : Int) := by
  rw [yabz _ (by omega) (by omega)]; omega
theorem yauq (x s : Nat) : x >>> s ≤ x := by rw [Nat.shiftRight_eq_div_pow]; exact Nat.div_le_self _ _
theorem m55 : mk 0x55 8 = 6148914691236517205 := by decide +kernel
theorem m33 : mk 0x33 8 = 3689348814741910323 := by decide +kernel
theorem m0f : mk 0x0f 8 = 1085102592571150095 := by decide +kernel
theorem yanx (x : Nat) (hx : x < 18446744073709551616) (h : Hp) : yaak Tryz.prog 108 #[.int .u64 (x : Int)] h (fun v h' => v = .int .i64 (pc x 64 : Nat) ∧ h' = h) := by
  have e := ybeg x
  unfold swar sw3 sw2 sw1 at e
  rw [m55, m33, m0f] at e
  simp only [] at e
  refine zbu_call ?_
  rw [zbu_b0]
  have s1 := yauq x 1
  refine yacz (x := x) (s := 1) rfl rfl (by decide) ?_
  refine yaje (x := x >>> 1) (y := 6148914691236517205) rfl rfl (by omega) (by decide) ?_
  refine yaje (x := x) (y := 6148914691236517205) rfl rfl (by omega) (by decide) ?_
  have l1 : x >>> 1 &&& 6148914691236517205 ≤ 6148914691236517205 := Nat.and_le_right
  have l2 : x &&& 6148914691236517205 ≤ 6148914691236517205 := Nat.and_le_right
  rw [yapv _ _ (by omega)]
  generalize hA : (x >>> 1 &&& 6148914691236517205) + (x &&& 6148914691236517205) = A at *
  have s2 := yauq A 2
  refine yacz (x := A) (s := 2) rfl rfl (by decide) ?_
  refine yaje (x := A >>> 2) (y := 3689348814741910323) rfl rfl (by omega) (by decide) ?_
  refine yaje (x := A) (y := 3689348814741910323) rfl rfl (by omega) (by decide) ?_
  have l3 : A >>> 2 &&& 3689348814741910323 ≤ 3689348814741910323 := Nat.and_le_right
  have l4 : A &&& 3689348814741910323 ≤ 3689348814741910323 := Nat.and_le_right
  rw [yapv _ _ (by omega)]
  generalize hB : (A >>> 2 &&& 3689348814741910323) + (A &&& 3689348814741910323) = B at *
  refine yacz (x := B) (s := 4) rfl rfl (by decide) ?_
  have s3 : B >>> 4 ≤ B / 16 := by rw [Nat.shiftRight_eq_div_pow]; exact Nat.le_refl _
  rw [yapv _ _ (by omega)]
  refine yaje (x := B >>> 4 + B) (y := 1085102592571150095) rfl rfl (by omega) (by decide) ?_
  have l5 : (B >>> 4 + B) &&& 1085102592571150095 ≤ 1085102592571150095 := Nat.and_le_right
  generalize hC : (B >>> 4 + B) &&& 1085102592571150095 = C at *
  refine yacz (x := C) (s := 8) rfl rfl (by decide) ?_
  have s4 : C >>> 8 ≤ C := yauq _ _
  rw [yapv _ _ (by omega)]
  generalize hD : C + C >>> 8 = D at *
  refine yacz (x := D) (s := 16) rfl rfl (by decide) ?_
  have s5 : D >>> 16 ≤ D := yauq _ _
  rw [yapv _ _ (by omega)]
  generalize hE : D + D >>> 16 = E at *
  refine yacz (x := E) (s := 32) rfl rfl (by decide) ?_
  have s6 : E >>> 32 ≤ E / 4294967296 := by rw [Nat.shiftRight_eq_div_pow]; exact Nat.le_refl _
  rw [yapv _ _ (by omega)]
  refine ⟨⟨by omega, by omega⟩, ?_⟩
  refine yaxg (x := E + E >>> 32) (y := 127) rfl rfl (by omega) (by decide) ?_
  exact ⟨by rw [e], rfl⟩
def wbit (ws : List Nat) (i : Nat) : Bool := (ws.getD (i / 64) 0).testBit (i % 64)
def cntB (l : List Bool) (b : Bool) (k : Nat) : Nat := ((l.take k).filter (· == b)).length
structure VecW (h : Hp) (a : Addr) (bits : List Bool) (ws : List Nat) : Prop where
  n : cell h a = some (.int .i64 (bits.length : Int))
  words : ∃ p c, cell h (a.add 1) = some (.slice p ws.length c) ∧ Rd h p ws.length ((ws.map (fun w : Nat => (w : Int))).map (Value.int .u64))
  before : ∃ p c, cell h (a.add 2) = some (.slice p (ws.length + 1) c) ∧ Rd h p (ws.length + 1) (((List.range (ws.length + 1)).map (fun j => ((cntB bits true (64 * j) : Nat) : Int))).map (Value.int .i64))
  wlen : ws.length = (bits.length + 63) / 64
  wlt : ∀ w ∈ ws, w < 18446744073709551616
  wbit : ∀ i, i < 64 * ws.length → wbit ws i = bits.getD i false
  small : bits.length ≤ 65536
def Vec (h : Hp) (a : Addr) (bits : List Bool) : Prop := ∃ ws, VecW h a bits ws
theorem VecW.ext {h h' : Hp} {a : Addr} {bits : List Bool} {ws : List Nat} (v : VecW h a bits ws) (e : Ext h h') : VecW h' a bits ws where
  n := e.cell v.n
  words := by obtain ⟨p, c, h1, h2⟩ := v.words; exact ⟨p, c, e.cell h1, h2.ext e⟩
  before := by obtain ⟨p, c, h1, h2⟩ := v.before; exact ⟨p, c, e.cell h1, h2.ext e⟩
  wlen := v.wlen
  wlt := v.wlt
  wbit := v.wbit
  small := v.small
theorem Vec.ext {h h' : Hp} {a : Addr} {bits : List Bool} (v : Vec h a bits) (e : Ext h h') : Vec h' a bits := let ⟨ws, v⟩ := v; ⟨ws, v.ext e⟩
theorem yakl (l : List Bool) (b : Bool) (k : Nat) (hk : k < l.length) : cntB l b (k + 1) = cntB l b k + (if l.getD k false = b then 1 else 0) := by
  unfold cntB
  rw [List.take_succ_eq_append_getElem hk, List.filter_append, List.length_append]
  have : l.getD k false = l[k] := by simp [List.getD, hk]
  rw [this]
  by_cases hb : l[k] = b
  · simp [hb]
  · simp [hb]
theorem yaoz (l : List Bool) (b : Bool) (k : Nat) (hk : l.length ≤ k) : cntB l b k = cntB l b l.length := by
  unfold cntB; rw [List.take_of_length_le hk, List.take_of_length_le (Nat.le_refl _)]
theorem ybec (l : List Bool) (b : Bool) (k : Nat) : cntB l b k ≤ k := by
  unfold cntB
  exact Nat.le_trans (List.length_filter_le _ _) (by simp; omega)
theorem yakw {bits : List Bool} {ws : List Nat} (hw : ∀ i, i < 64 * ws.length → wbit ws i = bits.getD i false) {j : Nat} (hj : j < ws.length) :
    ∀ t, t ≤ 64 → cntB bits true (64 * j + t) = cntB bits true (64 * j) + pc (ws.getD j 0) t
  | 0, _ => rfl
  | t + 1, ht => by
    have ih := yakw hw hj t (by omega)
    have hb := hw (64 * j + t) (by omega)
    have e1 : (64 * j + t) / 64 = j := by omega
    have e2 : (64 * j + t) % 64 = t := by omega
    unfold wbit at hb
    rw [e1, e2] at hb
    simp only [pc]
    rw [hb]
    rcases Nat.lt_or_ge (64 * j + t) bits.length with hl | hl
    · rw [show 64 * j + (t + 1) = 64 * j + t + 1 by omega, yakl _ _ _ hl, ih]
      cases bits.getD (64 * j + t) false <;> simp
      omega
    · rw [yaoz _ _ _ (by omega), ← yaoz bits true (64 * j + t) hl, ih]
      have : bits.getD (64 * j + t) false = false := by simp [List.getD, hl]
      rw [this]; simp
theorem yaxi (w r : Nat) : ∀ k, pc (w &&& (2 ^ r - 1)) k = pc w (min k r)
  | 0 => by simp [pc]
  | k + 1 => by
    simp only [pc]
    rw [yaxi w r k, Nat.testBit_and, Nat.testBit_two_pow_sub_one]
    by_cases h : k < r
    · rw [show min (k + 1) r = min k r + 1 by omega]
      simp only [pc, show min k r = k by omega, h, decide_true, Bool.and_true]
    · rw [show min (k + 1) r = min k r by omega]
      simp [h]
theorem ybaw {h : Hp} {a : Addr} {bits : List Bool} {ws : List Nat} (v : VecW h a bits ws) (i : Nat) (hi : i ≤ bits.length) :
    yaak Tryz.prog 221 #[.pointer (some a), .int .i64 (i : Int)] h (fun r h' => r = .int .i64 (cntB bits true i : Nat) ∧ h' = h) := by
  have hs := v.small
  have hwl := v.wlen
  obtain ⟨pb, cb, hb1, hb2⟩ := v.before
  obtain ⟨pw, cw, hw1, hw2⟩ := v.words
  refine zbt_call ?_
  rw [zbt_b0]
  refine ⟨_, _, _, hb1, ?_⟩
  refine yaep (by omega) (by omega) (by omega) ?_
  have e1 : ((i : Int) / 64).toNat = i / 64 := by omega
  refine yafn hb2 (by omega) (by omega) ?_
  rw [e1]
  refine yakt (by omega) (by omega) ?_
  have hg : (List.map (fun j => ((cntB bits true (64 * j) : Nat) : Int)) (List.range (ws.length + 1))).getD (i / 64) 0 = (cntB bits true (64 * (i / 64)) : Nat) := by
    have : i / 64 < ws.length + 1 := by omega
    simp [List.getD, this]
  rw [hg]
  have hcl := ybec bits true (64 * (i / 64))
  refine condP (fun hr => ?_) (fun hr => ?_)
  · refine ⟨_, _, _, hw1, ?_⟩
    refine yaep (by omega) (by omega) (by omega) ?_
    have hj : i / 64 < ws.length := by omega
    refine yafn hw2 (by omega) (by omega) ?_
    rw [e1]
    have hwd : (List.map (fun w : Nat => (w : Int)) ws).getD (i / 64) 0 = (ws.getD (i / 64) 0 : Nat) := by simp [List.getD, hj]
    rw [hwd]
    have hwlt : ws.getD (i / 64) 0 < 18446744073709551616 := by
      have : ws.getD (i / 64) 0 = ws[i / 64] := by simp [List.getD, hj]
      rw [this]; exact v.wlt _ (List.getElem_mem hj)
    refine yakt (by omega) (by omega) ?_
    have e2 : ((i : Int) % 64) = ((i % 64 : Nat) : Int) := by omega
    have hp : 2 ^ (i % 64) < 18446744073709551616 := Nat.lt_of_lt_of_le (Nat.pow_lt_pow_right (by decide) (Nat.mod_lt _ (by decide))) (by decide : 2 ^ 64 ≤ 18446744073709551616)
    have hp1 : 0 < 2 ^ (i % 64) := Nat.two_pow_pos _
    refine yacw (x := 1) (s := i % 64) rfl e2 (by simp [IntKind.bits]; omega) (by rw [Nat.one_mul]; exact yabz _ (by omega) (by omega)) ?_
    rw [Nat.one_mul, yabz _ (by omega) (by omega)]
    refine yaje (x := ws.getD (i / 64) 0) (y := 2 ^ (i % 64) - 1) rfl (by omega) hwlt (by omega) ?_
    have hand : ws.getD (i / 64) 0 &&& (2 ^ (i % 64) - 1) < 18446744073709551616 := Nat.lt_of_le_of_lt Nat.and_le_left hwlt
    refine ⟨_, yanx _ hand h, ?_⟩
    rw [yaxi]
    have hmin : min 64 (i % 64) = i % 64 := by omega
    rw [hmin]
    have hcw := yakw v.wbit hj (i % 64) (by omega)
    have hpl := pc_le (ws.getD (i / 64) 0) (i % 64)
    refine ⟨⟨by omega, by omega⟩, ?_⟩
    rw [zbt_b1]
    refine ⟨?_, rfl⟩
    rw [show 64 * (i / 64) + i % 64 = i by omega] at hcw
    rw [hcw]; simp
  · rw [zbt_b1]
    have : 64 * (i / 64) = i := by omega
    rw [this]
    exact ⟨rfl, rfl⟩
theorem yaoh (l : List Bool) : ∀ k, k ≤ l.length → cntB l true k + cntB l false k = k
  | 0, _ => by simp [cntB]
  | k + 1, hk => by
    have ih := yaoh l k (by omega)
    rw [yakl l true k (by omega), yakl l false k (by omega)]
    cases l.getD k false <;> simp <;> omega
theorem ybdn {h : Hp} {a : Addr} {bits : List Bool} (v : Vec h a bits) (b : Bool) (i : Nat) (hi : i ≤ bits.length) :
    yaak Tryz.prog 186 #[.pointer (some a), .bool b, .int .i64 (i : Int)] h (fun r h' => r = .int .i64 (cntB bits b i : Nat) ∧ h' = h) := by
  obtain ⟨ws, v⟩ := v
  have hs := v.small
  have hb := yaoh bits i hi
  refine zbz_call ?_
  rw [zbz_b0]
  refine (ybaw v i hi).mono fun r h' ⟨hr, hh⟩ => ?_
  subst hh
  refine ⟨_, hr, ?_⟩
  cases b with
  | true => exact ⟨rfl, rfl⟩
  | false =>
    refine ⟨⟨by omega, by omega⟩, ?_, rfl⟩
    congr 1; omega
theorem ybcd {h : Hp} {a : Addr} {bits : List Bool} (v : Vec h a bits) (b : Bool) (i : Int) :
    yaak Tryz.prog 151 #[.pointer (some a), .bool b, .int .i64 i] h (fun r h' => r = (if 0 ≤ i ∧ i ≤ bits.length then .tuple #[.int .i64 (cntB bits b i.toNat : Nat), .int .i64 0] else .tuple #[.int .i64 0, .int .i64 2]) ∧ h' = h) := by
  refine zab_call ?_
  rw [zab_b0]
  refine condP (fun hi => ⟨?_, rfl⟩) (fun hi => ?_)
  · rw [if_neg (by omega)]
  have hn : cell h a = some (.int .i64 (bits.length : Int)) := by obtain ⟨ws, v⟩ := v; exact v.n
  refine ⟨_, hn, ?_⟩
  refine condP (fun hl => ⟨?_, rfl⟩) (fun hl => ?_)
  · rw [if_neg (by omega)]
  rw [zab_b1]
  obtain ⟨k, rfl⟩ := Int.eq_ofNat_of_zero_le (show 0 ≤ i by omega)
  refine (ybdn v b k (by omega)).mono fun r h' ⟨hr, hh⟩ => ?_
  subst hh
  refine ⟨_, hr, ?_, rfl⟩
  rw [if_pos (by omega)]
  rfl
theorem ybbo : ElemOk Tryz.prog 37 3 := yarg (by kernel_rfl)
def pcs (ws : List Nat) : Nat → Nat
  | 0 => 0
  | j + 1 => pcs ws j + pc (ws.getD j 0) 64
theorem ybbb (ws : List Nat) : ∀ j, pcs ws j ≤ 64 * j
  | 0 => Nat.le_refl _
  | j + 1 => by have := ybbb ws j; have := pc_le (ws.getD j 0) 64; simp only [pcs]; omega
theorem yana {h : Hp} {bv W cw : Nat} {pw : OA} {n : Int} {ws : List Nat} (hb : Blk h bv [.int .i64 n, .slice pw W cw, .slice none 0 0] 165)
    (hr : Rd h pw W ((ws.map (fun w : Nat => (w : Int))).map (Value.int .u64))) (hpw : ∀ a, pw = some a → a.block ≠ bv) (hlt : ∀ w ∈ ws, w < 18446744073709551616) (hW : W ≤ 100000) :
    yaak Tryz.prog 76 #[.pointer (some ⟨bv, 0, none⟩)] h (fun r h' => r = .pointer (some ⟨bv, 0, none⟩) ∧ h.size ≤ h'.size ∧ (∀ k, k < h.size → k ≠ bv → h'[k]? = h[k]?) ∧
      ∃ p c, Blk h' bv [.int .i64 n, .slice pw W cw, .slice p (W + 1) c] 165 ∧ Own h' h.size 3 p (W + 1) c (((List.range (W + 1)).map (fun j => ((pcs ws j : Nat) : Int))).map (Value.int .i64))) := by
  have hbv := hb.lt
  have hwl : ws.length = W := by have := hr.len; simpa using this
  refine zan_call ?_
  rw [zan_b0]
  show ∃ _ _ _, _
  refine ⟨_, _, _, hb.cell 1, ?_⟩
  refine ⟨fun s h' => ∃ j : Nat, j ≤ W ∧ s.1 = (pcs ws j : Nat) ∧ s.2.1 = (j : Int) ∧ h.size ≤ h'.size ∧ (∀ k, k < h.size → k ≠ bv → h'[k]? = h[k]?) ∧
      ∃ p c, Blk h' bv [.int .i64 n, .slice pw W cw, .slice p j c] 165 ∧ Own h' h.size 3 p j c (((List.range j).map (fun j => ((pcs ws j : Nat) : Int))).map (Value.int .i64)),
    fun s _ => (W - s.2.1).toNat, ⟨0, by omega, rfl, rfl, Nat.le_refl _, fun _ _ _ => rfl, none, 0, hb, .inl ⟨rfl, rfl, rfl, rfl⟩⟩, ?_⟩
  rintro ⟨st, sj, _⟩ h1 ⟨j, hjW, hst, hsj, hsz, hsame, p, c, hblk, hown⟩
  simp only at hst hsj
  subst hst hsj
  dsimp only
  have hpl := ybbb ws j
  rw [zan_b1]
  have hr1 : Rd h1 pw W ((ws.map (fun w : Nat => (w : Int))).map (Value.int .u64)) := by
    by_cases hW0 : W = 0
    · exact ⟨hr.1, .inl hW0⟩
    · rcases hr.2 with h0 | ⟨a, ha, hc⟩
      · exact ⟨hr.1, .inl h0⟩
      · refine hr.same fun a' ha' => ?_
        have hlt0 : a.block < h.size := by
          have := hc 0 (by omega)
          rw [List.getElem?_eq_getElem (by rw [hr.1]; omega)] at this
          have := yaqu this
          rwa [yakb] at this
        obtain rfl : a = a' := by rw [ha] at ha'; exact Option.some.inj ha'
        exact hsame _ hlt0 (hpw _ ha)
  refine condP (fun hlt' => ?_) (fun hge => ?_)
  · refine yafn hr1 (by omega) (by omega) ?_
    refine ⟨_, _, _, (by rw [yaca]; exact hblk.cell 2), ?_⟩
    refine yarb ybbo hown hsz rfl (by omega) fun p' c' h2 hown2 hg => ?_
    have hblk2 : Blk h2 bv [.int .i64 n, .slice pw W cw, .slice p j c] 165 := hblk.same (hg.same _ hblk.lt fun a ha => by have := (hown.lt a ha).1; omega)
    refine yahj (yaca bv 0 2) hblk2 (by simp) fun h3 hz3 hs3 hblk3 => ?_
    have hjl : j < ws.length := by omega
    have hwd : (List.map (fun w : Nat => (w : Int)) ws).getD ((j : Int)).toNat 0 = (ws.getD j 0 : Nat) := by simp [List.getD, hjl]
    rw [hwd]
    have hwlt : ws.getD j 0 < 18446744073709551616 := by
      have : ws.getD j 0 = ws[j] := by simp [List.getD, hjl]
      rw [this]; exact hlt _ (List.getElem_mem hjl)
    refine (yanx _ hwlt h3).mono fun r h4 ⟨hr4, hh⟩ => ?_
    subst hh
    have hp64 := pc_le (ws.getD j 0) 64
    refine ⟨_, hr4, ⟨by omega, by omega⟩, ?_⟩
    rw [zan_b2]
    refine ⟨⟨by omega, by omega⟩, ⟨j + 1, by omega, by simp only [pcs]; omega, by simp only; omega, ?_, ?_, p', c', hblk3, ?_⟩, by simp only; omega⟩
    · have := hg.size; omega
    · intro k hk hne
      rw [hs3 k hne, hg.same k (by omega) fun a ha => by have := (hown.lt a ha).1; omega]
      exact hsame k hk hne
    · have e : List.map (Value.int IntKind.i64) (List.map (fun j => ((pcs ws j : Nat) : Int)) (List.range (j + 1))) = List.map (Value.int IntKind.i64) (List.map (fun j => ((pcs ws j : Nat) : Int)) (List.range j)) ++ [.int .i64 (pcs ws j : Nat)] := by
        rw [List.range_succ]; simp
      rw [e]
      exact hown2.same fun a ha => hs3 _ (by have := (hown2.lt a ha).1; omega)
  · have : j = W := by omega
    subst this
    rw [zan_b3]
    refine ⟨_, _, _, (by rw [yaca]; exact hblk.cell 2), ?_⟩
    refine yarb ybbo hown hsz rfl (by omega) fun p' c' h2 hown2 hg => ?_
    have hblk2 : Blk h2 bv [.int .i64 n, .slice pw j cw, .slice p j c] 165 := hblk.same (hg.same _ hblk.lt fun a ha => by have := (hown.lt a ha).1; omega)
    refine yahj (yaca bv 0 2) hblk2 (by simp) fun h3 hz3 hs3 hblk3 => ?_
    refine ⟨rfl, by have := hg.size; omega, ?_, p', c', hblk3, ?_⟩
    · intro k hk hne
      rw [hs3 k hne, hg.same k (by omega) fun a ha => by have := (hown.lt a ha).1; omega]
      exact hsame k hk hne
    · have e : List.map (Value.int IntKind.i64) (List.map (fun j => ((pcs ws j : Nat) : Int)) (List.range (j + 1))) = List.map (Value.int IntKind.i64) (List.map (fun j => ((pcs ws j : Nat) : Int)) (List.range j)) ++ [.int .i64 (pcs ws j : Nat)] := by
        rw [List.range_succ]; simp
      rw [e]
      exact hown2.same fun a ha => hs3 _ (by have := (hown2.lt a ha).1; omega)
theorem ybai (ws : List Nat) (i t : Nat) (hi : i / 64 < ws.length) (_ht : t / 64 < ws.length) :
    wbit (ws.set (i / 64) (ws.getD (i / 64) 0 ||| 2 ^ (i % 64))) t = (wbit ws t || decide (t = i)) := by
  unfold wbit
  by_cases h : i / 64 = t / 64
  · have e : (ws.set (i / 64) (ws.getD (i / 64) 0 ||| 2 ^ (i % 64))).getD (t / 64) 0 = ws.getD (t / 64) 0 ||| 2 ^ (i % 64) := by
      rw [← h]; simp [List.getD, hi]
    rw [e, Nat.testBit_or, Nat.testBit_two_pow]
    congr 1
    rw [Bool.eq_iff_iff]
    simp only [decide_eq_true_eq]
    omega
  · have e : (ws.set (i / 64) (ws.getD (i / 64) 0 ||| 2 ^ (i % 64))).getD (t / 64) 0 = ws.getD (t / 64) 0 := by
      simp [List.getD, List.getElem?_set_ne h]
    rw [e]
    have : ¬ t = i := by intro e; subst e; exact h rfl
    simp [this]
theorem yaxt {bits : List Bool} {ws : List Nat} (hw : ∀ i, i < 64 * ws.length → wbit ws i = bits.getD i false) : ∀ j, j ≤ ws.length → pcs ws j = cntB bits true (64 * j)
  | 0, _ => by simp [pcs, cntB]
  | j + 1, hj => by
    simp only [pcs]
    rw [yaxt hw j (by omega), show 64 * (j + 1) = 64 * j + 64 by omega, yakw hw (by omega) 64 (Nat.le_refl _)]
theorem yayu {h : Hp} {p : OA} {n c : Nat} {bits : List Bool} (r : Rd h p n (bits.map Value.bool)) (hn : n ≤ 65536) :
    yaak Tryz.prog 43 #[.slice p n c] h (fun r h' => Ext h h' ∧ ∃ a, r = .tuple #[.pointer (some a), .int .i64 0] ∧ LocH h.size h' (fun g => Vec g a bits)) := by
  have hbl : bits.length = n := by have := r.len; simpa using this
  refine zaa_call ?_
  rw [zaa_b0]
  refine condP (fun hx => by omega) (fun _ => ?_)
  refine ⟨⟨by omega, by omega⟩, ?_⟩
  refine yaep (by omega) (by omega) (by omega) ?_
  refine ⟨⟨by omega, by omega, by omega, by omega⟩, ?_⟩
  have hq : ((n : Int) + 63) / 64 = (((n + 63) / 64 : Nat) : Int) := by omega
  rw [hq]
  generalize hW : (n + 63) / 64 = W
  rw [show ((W : Nat) : Int).toNat = W by simp, Nat.mul_one, yakr]
  refine yahd fun bw h1 hbw x1 k1 z1 => ?_
  refine yahd (cs := [_, _, _]) fun bv h2 hbv x2 k2 z2 => ?_
  have x : Ext h h2 := x1.trans x2
  have hne : bw ≠ bv := by omega
  refine ⟨fun s h' => ∃ i : Nat, s.1 = i ∧ i ≤ n ∧ h'.size = h2.size ∧ (∀ k, k ≠ bw → h'[k]? = h2[k]?) ∧
      ∃ ws : List Nat, ws.length = W ∧ (∀ w ∈ ws, w < 18446744073709551616) ∧ (∀ t, t < 64 * W → wbit ws t = (decide (t < i) && bits.getD t false)) ∧ Blk h' bw ((ws.map (fun w : Nat => (w : Int))).map (Value.int .u64)) 166,
    fun s _ => (n - s.1).toNat, ⟨0, rfl, by omega, rfl, fun _ _ => rfl, List.replicate W 0, by simp, ?_, ?_, ?_⟩, ?_⟩
  · intro w hw
    rw [List.mem_replicate] at hw
    rw [hw.2]; decide
  · intro t ht
    have h0 : t / 64 < W := by omega
    simp [wbit, List.getD, h0]
  · have := k1.ext x2
    simpa using this
  rintro ⟨si, _⟩ h3 ⟨i, hsi, hin, hsz, hsame, ws, hwl, hwlt, hwb, hblk⟩
  simp only at hsi
  subst hsi
  dsimp only
  have hbvlt : bv < h2.size := k2.lt
  have kv : Blk h3 bv [.int .i64 (n : Int), .slice (some ⟨bw, 0, none⟩) W W, .slice none 0 0] 165 := k2.same (hsame bv (Ne.symm hne))
  rw [zaa_b1]
  refine condP (fun hlt => ?_) (fun hge => ?_)
  · have r3 : Rd h3 p n (bits.map Value.bool) := by
      rcases r.2 with h0 | ⟨a, ha, hc⟩
      · omega
      · refine (r.ext x).same fun a' ha' => ?_
        obtain rfl : a = a' := by rw [ha] at ha'; exact Option.some.inj ha'
        have hlt0 : a.block < h.size := by
          have := hc 0 (by omega)
          rw [List.getElem?_eq_getElem (by rw [r.1]; omega)] at this
          have := yaqu this
          rwa [yakb] at this
        exact hsame _ (by omega)
    refine yayk r3 (by omega) (by omega) ?_
    rw [show ((i : Nat) : Int).toNat = i by simp]
    have hnext : ∀ (ws' : List Nat) (h4 : Hp), h4.size = h2.size → (∀ k, k ≠ bw → h4[k]? = h2[k]?) → ws'.length = W → (∀ w ∈ ws', w < 18446744073709551616) → (∀ t, t < 64 * W → wbit ws' t = (decide (t < i + 1) && bits.getD t false)) →
        Blk h4 bw ((ws'.map (fun w : Nat => (w : Int))).map (Value.int .u64)) 166 → ∃ i' : Nat, ((i : Int) + 1) = i' ∧ i' ≤ n ∧ h4.size = h2.size ∧ (∀ k, k ≠ bw → h4[k]? = h2[k]?) ∧
        ∃ ws : List Nat, ws.length = W ∧ (∀ w ∈ ws, w < 18446744073709551616) ∧ (∀ t, t < 64 * W → wbit ws t = (decide (t < i') && bits.getD t false)) ∧ Blk h4 bw ((ws.map (fun w : Nat => (w : Int))).map (Value.int .u64)) 166 :=
      fun ws' h4 a1 a2 a3 a4 a5 a6 => ⟨i + 1, by omega, by omega, a1, a2, ws', a3, a4, a5, a6⟩
    refine yaar (fun hbit => ?_) (fun hbit => ?_)
    · refine ⟨_, _, _, (by rw [yaca]; exact kv.cell 1), ?_⟩
      refine yaep (by omega) (by omega) (by omega) ?_
      have e1 : ((i : Int) / 64).toNat = i / 64 := by omega
      have hj : i / 64 < ws.length := by omega
      have hrw : Rd h3 (some ⟨bw, 0, none⟩) W ((ws.map (fun w : Nat => (w : Int))).map (Value.int .u64)) := by
        have := Rd.of_blk hblk (n := W) (by simp; omega)
        rwa [List.take_of_length_le (by simp; omega)] at this
      refine yafn hrw (by omega) (by omega) ?_
      rw [e1]
      have hwd : (List.map (fun w : Nat => (w : Int)) ws).getD (i / 64) 0 = (ws.getD (i / 64) 0 : Nat) := by simp [List.getD, hj]
      rw [hwd]
      have hw1 : ws.getD (i / 64) 0 < 18446744073709551616 := by
        have : ws.getD (i / 64) 0 = ws[i / 64] := by simp [List.getD, hj]
        rw [this]; exact hwlt _ (List.getElem_mem hj)
      refine yakt (by omega) (by omega) ?_
      have e2 : ((i : Int) % 64) = ((i % 64 : Nat) : Int) := by omega
      have hp : 2 ^ (i % 64) < 18446744073709551616 := Nat.lt_of_lt_of_le (Nat.pow_lt_pow_right (by decide) (Nat.mod_lt _ (by decide))) (by decide : 2 ^ 64 ≤ 18446744073709551616)
      have hp1 : 0 < 2 ^ (i % 64) := Nat.two_pow_pos _
      refine yacw (x := 1) (s := i % 64) rfl e2 (by simp [IntKind.bits]; omega) (by rw [Nat.one_mul]; exact yabz _ (by omega) (by omega)) ?_
      rw [Nat.one_mul]
      refine ybgr (x := ws.getD (i / 64) 0) (y := 2 ^ (i % 64)) rfl rfl hw1 hp ?_
      refine ⟨⟨by omega, by omega⟩, ?_⟩
      show Wr _ _ _ _
      refine yahj (by rw [yaca]) hblk (by simp; omega) fun h4 hz4 hs4 k4 => ?_
      rw [zaa_b2]
      refine ⟨⟨by omega, by omega⟩, hnext (ws.set (i / 64) (ws.getD (i / 64) 0 ||| 2 ^ (i % 64))) h4 (by omega) (fun k hk => (hs4 k hk).trans (hsame k hk)) (by simp; omega) ?_ ?_ ?_, by simp only; omega⟩
      · intro w hw
        rcases List.mem_or_eq_of_mem_set hw with hw | hw
        · exact hwlt w hw
        · rw [hw]
          have : ws.getD (i / 64) 0 ||| 2 ^ (i % 64) < 2 ^ 64 := Nat.or_lt_two_pow hw1 hp
          omega
      · intro t ht
        rw [ybai ws i t hj (by omega), hwb t ht]
        by_cases hti : t = i
        · subst hti; rw [hbit]; simp
        · have : (decide (t < i + 1)) = decide (t < i) := by rw [Bool.eq_iff_iff]; simp; omega
          rw [this]; simp [hti]
      · have e3 : (0 + i / 64 * 1) = i / 64 := by omega
        rw [e3] at k4
        have : ((ws.map (fun w : Nat => (w : Int))).map (Value.int .u64)).set (i / 64) (.int .u64 ((ws.getD (i / 64) 0 ||| 2 ^ (i % 64) : Nat) : Int)) = (((ws.set (i / 64) (ws.getD (i / 64) 0 ||| 2 ^ (i % 64))).map (fun w : Nat => (w : Int))).map (Value.int .u64)) := by
          rw [List.map_set, List.map_set]
        rw [← this]; exact k4
    · rw [zaa_b2]
      refine ⟨⟨by omega, by omega⟩, hnext ws h3 hsz hsame hwl hwlt ?_ hblk, by simp only; omega⟩
      intro t ht
      rw [hwb t ht]
      by_cases hti : t = i
      · subst hti; rw [hbit]; simp
      · have : (decide (t < i + 1)) = decide (t < i) := by rw [Bool.eq_iff_iff]; simp; omega
        rw [this]
  · have hi : i = n := by omega
    subst hi
    rw [zaa_b3]
    have hrw : Rd h3 (some ⟨bw, 0, none⟩) W ((ws.map (fun w : Nat => (w : Int))).map (Value.int .u64)) := by
      have := Rd.of_blk hblk (n := W) (by simp; omega)
      rwa [List.take_of_length_le (by simp; omega)] at this
    refine (yana kv hrw (fun a ha => by cases ha; exact hne) hwlt (by omega)).mono fun v h5 ⟨hv, hz5, hs5, p5, c5, k5, r5⟩ => ?_
    refine ⟨_, hv, ?_, ⟨bv, 0, none⟩, rfl, fun h6 hh => ⟨ws, ?_⟩⟩
    · refine ⟨by have := x.size; omega, fun k hk => ?_⟩
      have hsx := x.size
      rw [hs5 k (by omega) (by omega), hsame k (by omega)]
      exact x.same k hk
    · have hsx := x.size
      have k5 := k5.same (hh bv (by omega) k5.lt)
      have o5 := r5.same fun a ha => hh _ (by have := (r5.lt a ha).1; omega) (r5.lt a ha).2
      have hblk5 : Blk h5 bw ((ws.map (fun w : Nat => (w : Int))).map (Value.int .u64)) 166 := hblk.same (hs5 _ hblk.lt hne)
      have hblk6 := hblk5.same (hh bw (by omega) hblk5.lt)
      have r6 := Rd.of_blk hblk6 (n := W) (by simp; omega)
      rw [List.take_of_length_le (by simp; omega)] at r6
      have r5 := o5.rd
      have hwb' : ∀ t, t < 64 * ws.length → wbit ws t = bits.getD t false := by
        intro t ht
        rw [hwb t (by omega)]
        by_cases hti : t < i
        · simp [hti]
        · have : bits.getD t false = false := by simp [List.getD, List.getElem?_eq_none (show bits.length ≤ t by omega)]
          rw [this]; simp
      refine ⟨?_, ⟨some ⟨bw, 0, none⟩, W, ?_, ?_⟩, ⟨p5, c5, ?_, ?_⟩, by omega, hwlt, hwb', by omega⟩
      · rw [hbl]; exact k5.cell 0
      · rw [yaca, hwl]; exact k5.cell 1
      · rw [hwl]; exact r6
      · rw [yaca, hwl]; exact k5.cell 2
      · rw [hwl]
        have e : (List.range (W + 1)).map (fun j => ((pcs ws j : Nat) : Int)) = (List.range (W + 1)).map (fun j => ((cntB bits true (64 * j) : Nat) : Int)) := by
          refine List.map_congr_left fun j hj => ?_
          rw [yaxt hwb' j (by have := List.mem_range.1 hj; omega)]
        rw [← e]; exact r5
end Go.Proofs.YtbhofnaipkkbeaaGreatDoor
namespace Go.Sx
open Go
theorem yamd {h : Hp} {b o : Nat} {s : Option Nat} {xs : List Value} {e : TypeId} (hb : Blk h b xs e) : yadq h ⟨b, o, s⟩ = false := by
  unfold Blk at hb
  unfold yadq
  simp only [hb]
  simp
theorem yapb {h : Hp} {b : Nat} {xs : List Value} {e : TypeId} (hb : Blk h b xs e) : yags h b = some (e, xs.length) := by
  unfold Blk at hb
  unfold yags
  simp [hb]
theorem yaqj {P : Program} {g : Nat} {ps rs : Array TypeId} {h : Hp} {t e : TypeId} {i0 : TypeInfo} {a b : Addr} {la ca lb cb : Nat} {xs ys : List Value} {e1 e2 : TypeId} {K : Value → Prop}
    (hx : IsExt P g (Extern.SlicesOverlaps.overlaps ps rs)) (hp : ps[0]? = some t) (ht : P.underlying t = some (.slice e)) (hi : P.info? e = some i0)
    (hne : a.block ≠ b.block) (ha : Blk h a.block xs e1) (hb : Blk h b.block ys e2) (hk : K (.bool false)) : yahx P g #[.slice (some a) la ca, .slice (some b) lb cb] h K := by
  refine ⟨_, hx, ?_⟩
  have fa : ∀ o s, yadq h ⟨a.block, o, s⟩ = false := fun o s => yamd ha
  have fb : ∀ o s, yadq h ⟨b.block, o, s⟩ = false := fun o s => yamd hb
  have fa' : yadq h a = false := fa a.off a.spot
  have fb' : yadq h b = false := fb b.off b.spot
  have sa := yapb ha
  have sb := yapb hb
  have e0 : Extern.SlicesOverlaps.overlaps ps rs #[.slice (some a) la ca, .slice (some b) lb cb] = (do
      let some t := ps[0]? | stuck "slices.overlaps: no parameter types"
      let .slice elem ← underlying t | stuck "slices.overlaps: slice type expected"
      let size ← sizeOf elem
      if la = 0 ∨ lb = 0 ∨ size = 0 then pure (.bool false)
      else if a.block != b.block && (← frozen a) && (← frozen b) then unsupported .addressObserved
      else do
        if a.block != b.block then do
          noView a; noView b
          if ← mayBeOne a b then return .bool ((← choose (.extern "sameAddr.stringBytes" 2)) == 1)
        pure (.bool (a.block == b.block && a.off < b.off + lb * size && b.off < a.off + la * size))) := rfl
  rw [e0]
  simp only [hp, yaab, yaaf, ht, yabp, hi]
  split
  · exact hk
  · simp only [frozen, yaab, hq, fa', fb', Bool.and_false, Bool.false_eq_true, if_false]
    have hne' : (a.block != b.block) = true := by simpa using hne
    have hne2 : (a.block == b.block) = false := by simpa using hne
    simp only [hne', if_true, noView, viewAt, shape, yaab, hq, sa, sb, yaah, Option.isSome_some, Option.isSome_none, Bool.false_eq_true, if_false, mayBeOne, stringish, frozen, fa', fb', fa, fb]
    simp only [yaah, Bool.false_eq_true, if_false, Bool.false_and, Bool.and_self, Bool.or_self, hne2]
    exact hk
theorem Rd.take {h : Hp} {p : Option Addr} {n i : Nat} {xs : List Value} (r : Rd h p n xs) (hi : i ≤ n) : Rd h p i (xs.take i) := by
  have hl := r.len
  refine ⟨by rw [List.length_take]; omega, ?_⟩
  rcases r.2 with h0 | ⟨a, hp, hc⟩
  · exact .inl (by omega)
  · exact .inr ⟨a, hp, fun j hj => by rw [hc j (by omega), List.getElem?_take, if_pos hj]⟩
open Go
abbrev Atom := Nat × Obj
def Bag : Type := Quotient (List.isSetoid Atom)
namespace Bag
def zero : Bag := Quotient.mk (List.isSetoid Atom) []
def one (a : Atom) : Bag := Quotient.mk (List.isSetoid Atom) [a]
def mk (l : List Atom) : Bag := Quotient.mk (List.isSetoid Atom) l
def add (A B : Bag) : Bag := Quotient.liftOn₂ A B (fun l m => mk (l ++ m)) fun _ _ _ _ h1 h2 => Quotient.sound (List.Perm.append h1 h2)
instance : Add Bag := ⟨add⟩
instance : OfNat Bag 0 := ⟨zero⟩
theorem mk_add (l m : List Atom) : mk l + mk m = mk (l ++ m) := rfl
theorem ybem : (0 : Bag) = mk [] := rfl
theorem one_mk (a : Atom) : one a = mk [a] := rfl
theorem ind {p : Bag → Prop} (h : ∀ l, p (mk l)) (A : Bag) : p A := Quotient.ind h A
theorem mk_eq {l m : List Atom} (h : mk l = mk m) : l.Perm m := Quotient.exact h
theorem eq_mk {l m : List Atom} (h : l.Perm m) : mk l = mk m := Quotient.sound h
theorem assoc (A B C : Bag) : A + B + C = A + (B + C) := by
  induction A using ind; induction B using ind; induction C using ind
  simp only [mk_add, List.append_assoc]
theorem comm (A B : Bag) : A + B = B + A := by
  induction A using ind; induction B using ind
  simp only [mk_add]
  exact eq_mk List.perm_append_comm
theorem add_zero (A : Bag) : A + 0 = A := by
  induction A using ind
  simp only [ybem, mk_add, List.append_nil]
theorem zero_add (A : Bag) : 0 + A = A := by rw [comm, add_zero]
instance : Std.Associative (α := Bag) (· + ·) := ⟨assoc⟩
instance : Std.Commutative (α := Bag) (· + ·) := ⟨comm⟩
instance : Std.LawfulIdentity (α := Bag) (· + ·) 0 where
  left_id := zero_add
  right_id := add_zero
end Bag
abbrev cA (b : Nat) (cs : List Value) (e : TypeId) : Bag := Bag.one (b, .cells cs.toArray e (0, 0))
structure St (h0 h : Hp) (A : Bag) : Prop where
  ext : Ext h0 h
  rep : ∃ l : List Atom, Bag.mk l = A ∧ (l.map Prod.fst).Nodup ∧ ∀ a ∈ l, h0.size ≤ a.1 ∧ h[a.1]? = some a.2
theorem St.of {h0 h : Hp} {l : List Atom} (s : St h0 h (Bag.mk l)) : (l.map Prod.fst).Nodup ∧ ∀ a ∈ l, h0.size ≤ a.1 ∧ h[a.1]? = some a.2 := by
  obtain ⟨m, hm, hn, ha⟩ := s.rep
  have hp := Bag.mk_eq hm
  exact ⟨(hp.map Prod.fst).nodup_iff.1 hn, fun a h => ha a (hp.mem_iff.2 h)⟩
theorem St.mk' {h0 h : Hp} {l : List Atom} (e : Ext h0 h) (hn : (l.map Prod.fst).Nodup) (ha : ∀ a ∈ l, h0.size ≤ a.1 ∧ h[a.1]? = some a.2) : St h0 h (Bag.mk l) := ⟨e, l, rfl, hn, ha⟩
theorem St.to {h0 h : Hp} {A B : Bag} (s : St h0 h A) (e : A = B := by ac_rfl) : St h0 h B := e ▸ s
theorem St.start (h : Hp) : St h h 0 := ⟨Ext.refl h, [], rfl, by simp, by simp⟩
theorem St.head {h0 h : Hp} {b : Nat} {o : Obj} {F : Bag} (s : St h0 h (Bag.one (b, o) + F)) : h0.size ≤ b ∧ h[b]? = some o := by
  induction F using Bag.ind
  rw [Bag.one_mk, Bag.mk_add] at s
  exact s.of.2 (b, o) (by simp)
theorem St.blk {h0 h : Hp} {b : Nat} {cs : List Value} {e : TypeId} {F : Bag} (s : St h0 h (cA b cs e + F)) : Blk h b cs e := s.head.2
theorem St.cell {h0 h : Hp} {b : Nat} {cs : List Value} {e : TypeId} {F : Bag} (s : St h0 h (cA b cs e + F)) (o : Nat) : Sx.cell h ⟨b, o, none⟩ = cs[o]? := s.blk.cell o
theorem St.cellA {h0 h : Hp} {b : Nat} {cs : List Value} {e : TypeId} {F : Bag} (s : St h0 h (cA b cs e + F)) (o : Nat) : Sx.cell h ((⟨b, 0, none⟩ : Addr).add o) = cs[o]? := by rw [yaca, Nat.zero_add]; exact s.cell o
theorem St.drop {h0 h : Hp} {A F : Bag} (s : St h0 h (A + F)) : St h0 h F := by
  induction A using Bag.ind
  induction F using Bag.ind
  rw [Bag.mk_add] at s
  obtain ⟨hn, ha⟩ := s.of
  rw [List.map_append] at hn
  exact St.mk' s.ext (List.nodup_append.1 hn).2.1 fun a h => ha a (by simp [h])
theorem St.left {h0 h : Hp} {A F : Bag} (s : St h0 h (A + F)) : St h0 h A := by rw [Bag.comm] at s; exact s.drop
theorem St.ne {h0 h : Hp} {b b' : Nat} {o o' : Obj} {F : Bag} (s : St h0 h (Bag.one (b, o) + (Bag.one (b', o') + F))) : b ≠ b' := by
  induction F using Bag.ind
  rw [Bag.one_mk, Bag.one_mk, Bag.mk_add, Bag.mk_add] at s
  have := s.of.1
  simp at this
  exact this.1.1
theorem St.grow {h0 h h' : Hp} {F : Bag} (s : St h0 h F) (x : Ext h h') : St h0 h' F := by
  induction F using Bag.ind
  obtain ⟨hn, ha⟩ := s.of
  exact St.mk' (s.ext.trans x) hn fun a h => ⟨(ha a h).1, x.get (ha a h).2⟩
theorem St.base {h0 h1 h : Hp} {A : Bag} (s : St h1 h A) (x : Ext h0 h1) : St h0 h A := by
  induction A using Bag.ind
  obtain ⟨hn, ha⟩ := s.of
  exact St.mk' (x.trans s.ext) hn fun a h => ⟨Nat.le_trans x.size (ha a h).1, (ha a h).2⟩
theorem St.lt {h0 h : Hp} {l : List Atom} (s : St h0 h (Bag.mk l)) : ∀ a ∈ l, a.1 < h.size := fun a ha => yaeo (s.of.2 a ha).2
theorem St.join {h0 h h' : Hp} {F B : Bag} (s : St h0 h F) (t : St h h' B) : St h0 h' (B + F) := by
  induction F using Bag.ind
  induction B using Bag.ind
  rename_i F B
  obtain ⟨hn, ha⟩ := s.of
  obtain ⟨hm, hb⟩ := t.of
  rw [Bag.mk_add]
  refine St.mk' (s.ext.trans t.ext) ?_ fun a h => ?_
  · rw [List.map_append, List.nodup_append]
    refine ⟨hm, hn, fun x hx y hy => ?_⟩
    obtain ⟨x, hx1, rfl⟩ := List.mem_map.1 hx
    obtain ⟨y, hy1, rfl⟩ := List.mem_map.1 hy
    have h1 := (hb x hx1).1
    have h2 := s.lt y hy1
    omega
  · rcases List.mem_append.1 h with h | h
    · exact ⟨Nat.le_trans s.ext.size (hb a h).1, (hb a h).2⟩
    · exact ⟨(ha a h).1, t.ext.get (ha a h).2⟩
theorem St.push {h0 h : Hp} {F : Bag} (s : St h0 h F) (o : Obj) : St h0 (h.push o) (Bag.one (h.size, o) + F) := by
  refine s.join (B := Bag.one (h.size, o)) ?_
  rw [Bag.one_mk]
  exact St.mk' (Ext.push h o) (by simp) (by simp)
theorem St.new {h0 h : Hp} {F : Bag} {cs : List Value} {e : TypeId} {k : Nat → Hp → Prop} (s : St h0 h F) (hk : ∀ b h', Ext h h' → St h0 h' (cA b cs e + F) → k b h') : New h (.cells cs.toArray e) k := hk _ _ (Ext.push _ _) (s.push _)
theorem St.set {h0 h h' : Hp} {F : Bag} {b : Nat} {o o' : Obj} (s : St h0 h (Bag.one (b, o) + F)) (hz : h'.size = h.size) (hs : ∀ j, j ≠ b → h'[j]? = h[j]?) (hb : h'[b]? = some o') : St h0 h' (Bag.one (b, o') + F) := by
  induction F using Bag.ind
  rw [Bag.one_mk, Bag.mk_add] at s ⊢
  obtain ⟨hn, ha⟩ := s.of
  refine St.mk' ⟨by rw [hz]; exact s.ext.size, fun i hi => ?_⟩ (by simpa using hn) fun a h => ?_
  · rw [hs i (by have := (ha (b, o) (by simp)).1; omega)]; exact s.ext.same i hi
  · rcases List.mem_append.1 h with h1 | h1
    · simp at h1; subst h1; exact ⟨(ha (b, o) (by simp)).1, hb⟩
    · refine ⟨(ha a (by simp [h1])).1, ?_⟩
      rw [hs]
      · exact (ha a (by simp [h1])).2
      · rintro rfl
        simp at hn
        exact hn.1 _ h1
theorem St.wr {h0 h : Hp} {F : Bag} {a : Addr} {b o : Nat} {cs : List Value} {e : TypeId} {v : Value} {k : Hp → Prop} (s : St h0 h (cA b cs e + F)) (ha : a = ⟨b, o, none⟩) (ho : o < cs.length)
    (hk : ∀ h', St h0 h' (cA b (cs.set o v) e + F) → k h') : Wr h a v k :=
  yahj ha s.blk ho fun h' hz hs hb => hk h' (s.set hz hs hb)
theorem St.write {h0 h h' : Hp} {F : Bag} {b : Nat} {o o' : Obj} (s : St h0 h (Bag.one (b, o) + F)) (hz : h.size ≤ h'.size) (hs : ∀ j, j < h.size → j ≠ b → h'[j]? = h[j]?) (hb : h'[b]? = some o') : St h0 h' (Bag.one (b, o') + F) := by
  induction F using Bag.ind
  rw [Bag.one_mk, Bag.mk_add] at s ⊢
  obtain ⟨hn, ha⟩ := s.of
  refine St.mk' ⟨Nat.le_trans s.ext.size hz, fun i hi => ?_⟩ (by simpa using hn) fun a h => ?_
  · rw [hs i (Nat.lt_of_lt_of_le hi s.ext.size) (by have := (ha (b, o) (by simp)).1; omega)]; exact s.ext.same i hi
  · rcases List.mem_append.1 h with h1 | h1
    · simp at h1; subst h1; exact ⟨(ha (b, o) (by simp)).1, hb⟩
    · refine ⟨(ha a (by simp [h1])).1, ?_⟩
      rw [hs]
      · exact (ha a (by simp [h1])).2
      · exact s.lt a (by simp [h1])
      · rintro rfl
        simp at hn
        exact hn.1 _ h1
theorem St.storesV {h0 : Hp} {F : Bag} {b : Nat} {e : TypeId} {k : Hp → Prop} {h : Hp} (vs : List Value) (o : Nat) (pre mid rest : List Value) (s : St h0 h (cA b (pre ++ mid ++ rest) e + F)) (hs : ∀ v ∈ vs, scalar v = true) (hp : pre.length = o) (hm : mid.length = vs.length)
    (hk : ∀ h', St h0 h' (cA b (pre ++ vs ++ rest) e + F) → k h') : Sx.storesV ⟨b, o, none⟩ k vs 0 h :=
  yafy vs 0 o h pre mid rest hs s.blk (by omega) hm fun h' hz hs' hb => hk h' (s.set hz hs' hb)
theorem St.old {h0 h : Hp} {A : Bag} (s : St h0 h A) {b : Nat} {o : Obj} (hb : h0[b]? = some o) : h[b]? = some o := s.ext.get hb
class Bag.Sub (A B : Bag) (C : outParam Bag) : Prop where
  eq : B = A + C
instance Bag.Sub.refl (A : Bag) : Bag.Sub A A 0 := ⟨(Bag.add_zero A).symm⟩
instance Bag.Sub.head (A Y : Bag) : Bag.Sub A (A + Y) Y := ⟨rfl⟩
instance Bag.Sub.left (A X Y C : Bag) [h : Bag.Sub A X C] : Bag.Sub A (X + Y) (C + Y) := ⟨by rw [h.eq, Bag.assoc]⟩
instance Bag.Sub.right (A X Y C : Bag) [h : Bag.Sub A Y C] : Bag.Sub A (X + Y) (X + C) := ⟨by rw [h.eq]; ac_rfl⟩
theorem St.at {h0 h : Hp} {B : Bag} (s : St h0 h B) (A : Bag) {C : Bag} [x : Bag.Sub A B C] : St h0 h (A + C) := x.eq ▸ s
structure Ty (α : Type) where
  e : TypeId
  sz : Nat
  enc : α → List Value
  d : α
  len : ∀ a, (enc a).length = sz
  pos : 0 < sz
  sc : ∀ a, ∀ v ∈ enc a, scalar v = true
section
variable {α : Type} (T : Ty α)
def Ty.cells (xs : List α) : List Value := xs.flatMap T.enc
theorem Ty.cells_len (xs : List α) : (T.cells xs).length = xs.length * T.sz := by
  induction xs with
  | nil => simp [Ty.cells]
  | cons x r ih => simp only [Ty.cells, List.flatMap_cons, List.length_append, T.len, List.length_cons] at ih ⊢; rw [ih, Nat.add_mul]; omega
theorem Ty.cells_append (xs ys : List α) : T.cells (xs ++ ys) = T.cells xs ++ T.cells ys := by simp [Ty.cells]
theorem Ty.cells_one (x : α) : T.cells [x] = T.enc x := by simp [Ty.cells]
theorem Ty.cells_cons (x : α) (xs : List α) : T.cells (x :: xs) = T.enc x ++ T.cells xs := rfl
theorem Ty.cells_take (xs : List α) (i : Nat) : T.cells (xs.take i) = (T.cells xs).take (i * T.sz) := by
  rcases Nat.lt_or_ge i xs.length with h | h
  · have : T.cells xs = T.cells (xs.take i) ++ T.cells (xs.drop i) := by rw [← T.cells_append, List.take_append_drop]
    have hl : (T.cells (xs.take i)).length = i * T.sz := by rw [T.cells_len, List.length_take, Nat.min_eq_left (by omega)]
    conv => rhs; rw [this]
    exact (List.take_left' hl).symm
  · rw [List.take_of_length_le h, List.take_of_length_le (by rw [T.cells_len]; exact Nat.mul_le_mul_right _ h)]
theorem Ty.cells_drop (xs : List α) (i : Nat) : T.cells (xs.drop i) = (T.cells xs).drop (i * T.sz) := by
  rcases Nat.lt_or_ge i xs.length with h | h
  · have : T.cells xs = T.cells (xs.take i) ++ T.cells (xs.drop i) := by rw [← T.cells_append, List.take_append_drop]
    have hl : (T.cells (xs.take i)).length = i * T.sz := by rw [T.cells_len, List.length_take, Nat.min_eq_left (by omega)]
    conv => rhs; rw [this]
    exact (List.drop_left' hl).symm
  · rw [List.drop_of_length_le h, List.drop_of_length_le (by rw [T.cells_len]; exact Nat.mul_le_mul_right _ h)]; rfl
theorem Ty.cells_sc (xs : List α) : ∀ v ∈ T.cells xs, scalar v = true := by
  intro v hv
  obtain ⟨x, _, hv⟩ := List.mem_flatMap.1 hv
  exact T.sc x v hv
theorem Ty.cells_get (xs : List α) {i j : Nat} (hi : i < xs.length) (hj : j < T.sz) : (T.cells xs)[i * T.sz + j]? = (T.enc (xs.getD i T.d))[j]? := by
  have e1 : xs = xs.take i ++ (xs[i] :: xs.drop (i + 1)) := by rw [← List.drop_eq_getElem_cons hi, List.take_append_drop]
  have hd : xs.getD i T.d = xs[i] := by simp [List.getD, hi]
  rw [hd]
  conv => lhs; rw [e1]
  have hl : (T.cells (xs.take i)).length = i * T.sz := by rw [T.cells_len, List.length_take, Nat.min_eq_left (by omega)]
  rw [T.cells_append, T.cells_cons, List.getElem?_append_right (by omega), hl, Nat.add_sub_cancel_left, List.getElem?_append_left (by rw [T.len]; exact hj)]
def RdT (h : Hp) (p : Option Addr) (n : Nat) (xs : List α) : Prop := xs.length = n ∧ (n = 0 ∨ ∃ a, p = some a ∧ ∀ i, i < n * T.sz → cell h (a.add i) = (T.cells xs)[i]?)
def Sl (p : Option Addr) (n c : Nat) (xs : List α) (A : Bag) : Prop :=
  xs.length = n ∧ ((p = none ∧ n = 0 ∧ c = 0 ∧ A = 0) ∨ ∃ b rest, p = some ⟨b, 0, none⟩ ∧ n ≤ c ∧ rest.length = (c - n) * T.sz ∧ A = cA b (T.cells xs ++ rest) T.e)
structure ElOk (P : Program) (t : TypeId) : Prop where
  el : elemT P t = some (T.e, T.sz)
  ni : yadk P t = true
  info : ∃ i0 z, P.info? T.e = some i0 ∧ i0.zero = some z ∧ z.cells.size = T.sz ∧ (∀ v ∈ z.cells.toList, scalar v = true) ∧ i0.bytes ≤ 1024
def elB (P : Program) (t : TypeId) : Bool :=
  (match elemT P t with | some (e', s) => Nat.beq T.e e' && Nat.beq s T.sz | none => false) && (yadk P t &&
  (match P.info? T.e with | some i0 => (match i0.zero with | some z => Nat.beq z.cells.size T.sz && (z.cells.toList.all scalar && Nat.ble i0.bytes 1024) | none => false) | none => false))
end
section
variable {α : Type} {T : Ty α}
theorem yaeh {P : Program} {t : TypeId} (h : elB T P t = true) : ElOk T P t := by
  unfold elB at h
  simp only [Bool.and_eq_true] at h
  obtain ⟨h1, h2, h3⟩ := h
  refine ⟨?_, h2, ?_⟩
  · split at h1
    · rename_i e' s he
      simp only [Bool.and_eq_true] at h1
      rw [he, Nat.eq_of_beq_eq_true h1.1, Nat.eq_of_beq_eq_true h1.2]
    · cases h1
  · split at h3
    · rename_i i0 hi
      split at h3
      · rename_i z hz
        simp only [Bool.and_eq_true] at h3
        exact ⟨i0, z, hi, hz, Nat.eq_of_beq_eq_true h3.1, fun v hv => List.all_eq_true.1 h3.2.1 v hv, Nat.le_of_ble_eq_true h3.2.2⟩
      · cases h3
    · cases h3
theorem RdT.len {h : Hp} {p : Option Addr} {n : Nat} {xs : List α} (r : RdT T h p n xs) : xs.length = n := r.1
theorem RdT.nil (h : Hp) (p : Option Addr) : RdT T h p 0 [] := ⟨rfl, .inl rfl⟩
theorem RdT.rd {h : Hp} {p : Option Addr} {n : Nat} {xs : List α} (r : RdT T h p n xs) : Rd h p (n * T.sz) (T.cells xs) := by
  refine ⟨by rw [T.cells_len, r.1], ?_⟩
  rcases r.2 with h0 | h0
  · exact .inl (by rw [h0, Nat.zero_mul])
  · exact .inr h0
theorem RdT.of_rd {h : Hp} {p : Option Addr} {n : Nat} {xs : List α} (hl : xs.length = n) (r : Rd h p (n * T.sz) (T.cells xs)) : RdT T h p n xs := by
  refine ⟨hl, ?_⟩
  rcases r.2 with h0 | h0
  · exact .inl (by rcases Nat.mul_eq_zero.1 h0 with h1 | h1; exact h1; exact absurd h1 (Nat.ne_of_gt T.pos))
  · exact .inr h0
theorem RdT.same {h h' : Hp} {p : Option Addr} {n : Nat} {xs : List α} (r : RdT T h p n xs) (e : ∀ a, p = some a → h'[a.block]? = h[a.block]?) : RdT T h' p n xs := .of_rd r.1 (r.rd.same e)
theorem RdT.ext {h h' : Hp} {p : Option Addr} {n : Nat} {xs : List α} (r : RdT T h p n xs) (e : Ext h h') : RdT T h' p n xs := .of_rd r.1 (r.rd.ext e)
theorem RdT.at_ {h : Hp} {p : Option Addr} {n : Nat} {xs : List α} (r : RdT T h p n xs) {i : Nat} (hi : i < n) : ∃ a, p = some a ∧ ∀ j, j < T.sz → cell h ((a.add (i * T.sz)).add j) = (T.enc (xs.getD i T.d))[j]? := by
  rcases r.2 with h0 | ⟨a, hp, hc⟩
  · omega
  · refine ⟨a, hp, fun j hj => ?_⟩
    rw [yapc, hc, T.cells_get xs (by rw [r.1]; exact hi) hj]
    calc i * T.sz + j < i * T.sz + T.sz := by omega
      _ = (i + 1) * T.sz := by rw [Nat.add_mul, Nat.one_mul]
      _ ≤ n * T.sz := Nat.mul_le_mul_right _ hi
theorem RdT.take {h : Hp} {p : Option Addr} {n i : Nat} {xs : List α} (r : RdT T h p n xs) (hi : i ≤ n) : RdT T h p i (xs.take i) := by
  have hl := r.len
  refine .of_rd (by rw [List.length_take]; omega) ?_
  rw [T.cells_take]
  exact r.rd.take (Nat.mul_le_mul_right _ hi)
theorem RdT.sub {h : Hp} {p : Option Addr} {n c i m : Nat} {xs : List α} (r : RdT T h p n xs) (hi : i ≤ n) (hc : n ≤ c) (hm : m = n - i) : RdT T h (yaai p c i T.sz) m (xs.drop i) := by
  subst hm
  have hl := r.len
  refine ⟨by simp [hl], ?_⟩
  unfold yaai
  by_cases h1 : c = i
  · exact .inl (by omega)
  · rw [if_neg h1]
    rcases r.2 with h0 | ⟨a, rfl, hc'⟩
    · exact .inl (by omega)
    · refine .inr ⟨_, rfl, fun j hj => ?_⟩
      rw [Nat.sub_mul] at hj
      rw [yapc, hc' _ (by omega), T.cells_drop, List.getElem?_drop]
theorem RdT.readsL {h : Hp} {p : Option Addr} {n : Nat} {xs : List α} (r : RdT T h p n xs) : Sx.readsL h p (T.cells xs) := by
  rcases r.rd.readsL with h1 | h1
  · exact h1
  · have : T.cells xs = [] := List.eq_nil_of_length_eq_zero (by rw [T.cells_len, r.1]; exact h1)
    rw [this]
    cases p with
    | none => rfl
    | some a => intro i hi; cases hi
theorem Sl.len {p : Option Addr} {n c : Nat} {xs : List α} {A : Bag} (a : Sl T p n c xs A) : xs.length = n := a.1
theorem Sl.cap {p : Option Addr} {n c : Nat} {xs : List α} {A : Bag} (a : Sl T p n c xs A) : n ≤ c := by
  rcases a.2 with ⟨_, h1, h2, _⟩ | ⟨_, _, _, h1, _⟩ <;> omega
theorem Sl.nil : Sl T none 0 0 [] 0 := ⟨rfl, .inl ⟨rfl, rfl, rfl, rfl⟩⟩
theorem Sl.rd {p : Option Addr} {n c : Nat} {xs : List α} {A F : Bag} {h0 h : Hp} (a : Sl T p n c xs A) (s : St h0 h (A + F)) : RdT T h p n xs := by
  rcases a with ⟨hl, ⟨rfl, rfl, rfl, rfl⟩ | ⟨b, rest, rfl, hc, hr, rfl⟩⟩
  · exact ⟨hl, .inl rfl⟩
  · refine .of_rd hl ?_
    have := Rd.of_blk s.blk (n := n * T.sz) (by rw [List.length_append, T.cells_len, hl]; omega)
    rwa [List.take_append_of_le_length (by rw [T.cells_len, hl]; omega), List.take_of_length_le (by rw [T.cells_len, hl]; omega)] at this
theorem Sl.of_blk {b : Nat} {xs : List α} {n : Nat} (hl : xs.length = n) {cs : List Value} (hc : cs = T.cells xs) : Sl T (some ⟨b, 0, none⟩) n n xs (cA b cs T.e) :=
  ⟨hl, .inr ⟨b, [], rfl, Nat.le_refl _, by simp, by rw [List.append_nil, hc]⟩⟩
theorem Sl.take {p : Option Addr} {n c i : Nat} {xs : List α} {A : Bag} (a : Sl T p n c xs A) (hi : i ≤ n) : Sl T p i c (xs.take i) A := by
  rcases a with ⟨hl, ⟨rfl, rfl, rfl, rfl⟩ | ⟨b, rest, rfl, hc, hr, rfl⟩⟩
  · have : i = 0 := by omega
    subst this
    exact ⟨by simp, .inl ⟨rfl, rfl, rfl, rfl⟩⟩
  · refine ⟨by rw [List.length_take]; omega, .inr ⟨b, T.cells (xs.drop i) ++ rest, rfl, by omega, ?_, ?_⟩⟩
    · rw [List.length_append, T.cells_len, List.length_drop, hr, hl, ← Nat.add_mul]; congr 1; omega
    · rw [← List.append_assoc, ← T.cells_append, List.take_append_drop]
theorem yadh {p : Option Addr} {c sz : Nat} : yaai p c 0 sz = p := by
  unfold yaai
  split
  · rfl
  · cases p <;> simp [Addr.add]
theorem yace {b o c i sz : Nat} (h : c ≠ i) : yaai (some ⟨b, o, none⟩) c i sz = some ⟨b, o + i * sz, none⟩ := by
  unfold yaai
  rw [if_neg h, Option.map_some, yaca]
theorem yalo (_n c m : Nat) (h : c < m) : Builtin.nextslicecap m c ≤ 2 * m := by
  unfold Builtin.nextslicecap
  split
  · omega
  · split
    · omega
    · simp only [Builtin.growBy]
      split
      · omega
      · split
        · omega
        · split
          · omega
          · split <;> omega
theorem yanq (n : Nat) (zs : List Value) : (repL n zs).length = n := by simp [repL]
theorem yadi {P : Program} {t : TypeId} {h0 h : Hp} {p q : Option Addr} {n c m c2 : Nat} {xs ys : List α} {A F : Bag} {k : Option Addr → Nat → Nat → Hp → Prop}
    (ok : ElOk T P t) (s : St h0 h (A + F)) (a : Sl T p n c xs A) (r : RdT T h q m ys) (hn : n + m < 1073741824)
    (hk : ∀ p' c' h' A', Sl T p' (n + m) c' (xs ++ ys) A' → St h0 h' (A' + F) → k p' (n + m) c' h') :
    yaba P t t (.slice p n c) (.slice q m c2) h (slK k) := by
  obtain ⟨i0, z, hi, hz, hzs, hzc, hbt⟩ := ok.info
  have hyl := r.len
  have hcell : (T.cells ys).length = m * T.sz := by rw [T.cells_len, hyl]
  unfold yaba
  rw [ok.el, ok.ni]
  refine ⟨T.cells ys, hcell, r.readsL, fun hle => ?_, fun hlt => ?_⟩
  · rcases a with ⟨hl, ⟨rfl, rfl, rfl, rfl⟩ | ⟨b, rest, rfl, hc, hr, rfl⟩⟩
    · have : m = 0 := by omega
      subst this
      have : ys = [] := List.eq_nil_of_length_eq_zero hyl
      subst this
      exact hk none 0 h 0 ⟨by rw [List.append_nil]; exact hl, .inl ⟨rfl, rfl, rfl, rfl⟩⟩ s
    · have hm2 : m * T.sz ≤ rest.length := by rw [hr]; exact Nat.mul_le_mul_right _ (by omega)
      have hrest : rest = rest.take (m * T.sz) ++ rest.drop (m * T.sz) := (List.take_append_drop _ rest).symm
      rw [hrest, ← List.append_assoc] at s
      simp only [yagj, yaca, Nat.zero_add]
      refine s.storesV (T.cells ys) (n * T.sz) (T.cells xs) (rest.take (m * T.sz)) (rest.drop (m * T.sz)) (T.cells_sc ys) (by rw [T.cells_len, hl]) (by rw [List.length_take, hcell]; omega) fun h' s' => ?_
      refine hk _ c h' _ ⟨by simp; omega, .inr ⟨b, rest.drop (m * T.sz), rfl, by omega, ?_, rfl⟩⟩ ?_
      · rw [List.length_drop, hr, ← Nat.sub_mul]; congr 1; omega
      · rwa [T.cells_append]
  · have hncap := yalo n c (n + m) hlt
    have hbt' : yacs P T.e = i0.bytes := by unfold yacs; rw [hi]
    have hrx := a.rd s
    refine ⟨⟨?_, by omega⟩, T.cells xs, by rw [T.cells_len, a.len], hrx.readsL, ?_⟩
    · rw [hbt']
      have h1 : Builtin.nextslicecap (n + m) c * i0.bytes ≤ (2 * (n + m)) * 1024 := Nat.mul_le_mul hncap hbt
      omega
    · unfold zeroV
      rw [hi]
      simp only [hz]
      intro c' hc' _
      refine s.drop.new fun b h' _ s' => ?_
      refine hk _ c' h' _ ⟨by have := a.len; simp; omega, .inr ⟨b, repL ((c' - (n + m)) * z.cells.size) z.cells.toList, rfl, hc', by rw [yanq, hzs], rfl⟩⟩ ?_
      rw [T.cells_append]
      exact s'
theorem yahv {P : Program} {t : TypeId} {e' : TypeId} {h0 h : Hp} {p : Option Addr} {n c : Nat} {xs : List α} {x : α} {cs : List Value} {A F : Bag} {k : Option Addr → Nat → Nat → Hp → Prop}
    (ok : ElOk T P t) (s : St h0 h (A + F)) (a : Sl T p n c xs A) (hx : cs = T.enc x) (he : e' = T.e) (hn : n + 1 < 1073741824)
    (hk : ∀ p' c' h' A', Sl T p' (n + 1) c' (xs ++ [x]) A' → St h0 h' (A' + F) → k p' (n + 1) c' h') :
    New h (.cells cs.toArray e') fun b h1 => yaba P t t (.slice p n c) (.slice (some ⟨b, 0, none⟩) 1 1) h1 (slK k) := by
  subst he
  refine s.new fun b h1 _ s1 => ?_
  have sx : Sl T (some ⟨b, 0, none⟩) 1 1 [x] (cA b cs T.e) := Sl.of_blk rfl (by rw [hx, T.cells_one])
  have s2 : St h0 h1 (A + (cA b cs T.e + F)) := s1.to
  refine yadi ok s2 a (sx.rd s1) hn fun p' c' h' A' a' s' => hk p' c' h' A' a' (s'.to (B := cA b cs T.e + (A' + F))).drop
theorem Sl.wr {h0 h : Hp} {p : Option Addr} {n c i j : Nat} {xs : List α} {A F : Bag} {v : Value} {x : α} {k : Hp → Prop} (a : Sl T p n c xs A) (s : St h0 h (A + F)) (hi : i < n) (hj : j < T.sz) (hx : T.enc x = (T.enc (xs.getD i T.d)).set j v)
    (hk : ∀ h' A', Sl T p n c (xs.set i x) A' → St h0 h' (A' + F) → k h') : ∃ ad, p = some ad ∧ Wr h ((ad.add (i * T.sz)).add j) v k := by
  rcases a with ⟨hl, ⟨rfl, rfl, rfl, rfl⟩ | ⟨b, rest, rfl, hc, hr, rfl⟩⟩
  · omega
  · refine ⟨_, rfl, ?_⟩
    have hlt : i * T.sz + j < (T.cells xs).length := by
      rw [T.cells_len, hl]
      calc i * T.sz + j < i * T.sz + T.sz := by omega
        _ = (i + 1) * T.sz := by rw [Nat.add_mul, Nat.one_mul]
        _ ≤ n * T.sz := Nat.mul_le_mul_right _ hi
    refine s.wr (o := i * T.sz + j) (by rw [yaca, yaca, Nat.zero_add]) (by rw [List.length_append]; omega) fun h' s' => ?_
    refine hk h' _ ⟨by simp [hl], .inr ⟨b, rest, rfl, hc, hr, rfl⟩⟩ ?_
    have e1 : T.cells (xs.set i x) ++ rest = (T.cells xs ++ rest).set (i * T.sz + j) v := by
      rw [List.set_append_left _ _ hlt]
      congr 1
      have hil : i < xs.length := by omega
      have ed : xs.getD i T.d = xs[i] := by simp [List.getD, hil]
      have e2 : xs = xs.take i ++ (xs[i] :: xs.drop (i + 1)) := by rw [← List.drop_eq_getElem_cons hil, List.take_append_drop]
      have hl2 : (T.cells (xs.take i)).length = i * T.sz := by rw [T.cells_len, List.length_take, Nat.min_eq_left (by omega)]
      have e3 : xs.set i x = xs.take i ++ (x :: xs.drop (i + 1)) := by
        rw [List.set_eq_take_append_cons_drop, if_pos hil]
      rw [e3, T.cells_append, T.cells_cons, hx, ed]
      conv => rhs; rw [e2]
      rw [T.cells_append, T.cells_cons, List.set_append_right _ _ (by omega), hl2, Nat.add_sub_cancel_left, List.set_append_left _ _ (by rw [T.len]; exact hj)]
    rw [e1]
    exact s'
end
open Go
section
variable {α : Type} {T : Ty α}
theorem yagm {P : Program} {t : TypeId} {h0 h : Hp} {b o n c1 m c2 j : Nat} {e : TypeId} {q : Option Addr} {pre mid rest : List Value} {ys : List α} {F : Bag} {K : Int → Hp → Prop}
    (ok : ElOk T P t) (s : St h0 h (cA b (pre ++ mid ++ rest) e + F)) (r : RdT T h q j ys) (ho : pre.length = o) (hj : j = min m n) (hm : mid.length = j * T.sz)
    (hk : ∀ v h', St h0 h' (cA b (pre ++ T.cells ys ++ rest) e + F) → v = (j : Int) → K v h') :
    copyV P t (.slice (some ⟨b, o, none⟩) n c1) (.slice q m c2) h (fun v h => ∃ n : Int, v = .int .i64 n ∧ K n h) := by
  unfold copyV
  rw [ok.el]
  have hc : (T.cells ys).length = j * T.sz := by rw [T.cells_len, r.len]
  refine ⟨T.cells ys, by rw [hc, hj], r.readsL, ?_⟩
  show storesV ((⟨b, o, none⟩ : Addr).add 0) _ _ 0 h
  rw [yaca]
  exact s.storesV _ o pre mid rest (T.cells_sc _) ho (by rw [hm, hc]) fun h' s' => ⟨_, rfl, hk _ h' s' (by rw [hj])⟩
theorem yafp {P : Program} {t t2 : TypeId} {h0 h : Hp} {p : Option Addr} {n c : Nat} {l : Int} {xs : List α} {F : Bag} {k : Option Addr → Nat → Nat → Hp → Prop}
    (ok : ElOk T P t) (ht2 : yadk P t2 = false) (hk2 : (yabu P t2).isSome = true) (s : St h0 h F)
    (r : RdT T h p n xs) (hn : n + l.toNat < 1073741824) (hl0 : 0 ≤ l) (hc : c < n + l.toNat)
    (hk : ∀ b c' h' mid rest, n + l.toNat ≤ c' → mid.length = l.toNat * T.sz → rest.length = (c' - (n + l.toNat)) * T.sz → St h0 h' (cA b (T.cells xs ++ mid ++ rest) T.e + F) → k (some ⟨b, 0, none⟩) (n + l.toNat) c' h') :
    yaba P t t2 (.slice p n c) (.int .i64 l) h (slK k) := by
  obtain ⟨i0, z, hi, hz, hzs, hzc, hbt⟩ := ok.info
  have hbe : yacs P T.e = i0.bytes := by unfold yacs; rw [hi]
  unfold yaba
  rw [ok.el, ht2]
  have hb1 : l * (i0.bytes : Int) ≤ l * 1024 := Int.mul_le_mul_of_nonneg_left (by omega) hl0
  refine ⟨⟨hl0, by omega, by rw [hbe]; omega, Nat.ne_of_gt T.pos, hk2⟩, ?_⟩
  unfold zeroV
  rw [hi]
  simp only [hz]
  refine ⟨fun hle => by omega, fun _ => ⟨⟨?_, by omega⟩, T.cells xs, by rw [T.cells_len, r.len], r.readsL, fun c' hc' => ?_⟩⟩
  · have h1 : Builtin.nextslicecap (n + l.toNat) c * i0.bytes ≤ 2 * (n + l.toNat) * 1024 := Nat.mul_le_mul (yalo n c _ hc) hbt
    rw [hbe]
    omega
  · refine s.new fun b h' _ s' => hk b c' h' _ _ hc' ?_ ?_ s'
    · rw [yanq, hzs]
    · rw [yanq, hzs]
theorem RdT.idx {h : Hp} {p : Option Addr} {n : Nat} {xs : List α} {i : Int} {Q : Addr → Prop} (r : RdT T h p n xs) (h0 : 0 ≤ i) (h1 : i < n)
    (hq : ∀ a, p = some a → (∀ j, j < T.sz → cell h ((a.add (i.toNat * T.sz)).add j) = (T.enc (xs.getD i.toNat T.d))[j]?) → Q a) : (0 ≤ i ∧ i < (n : Int)) ∧ NN p Q := by
  refine ⟨⟨h0, h1⟩, ?_⟩
  obtain ⟨a, rfl, hc⟩ := r.at_ (i := i.toNat) (by omega)
  exact hq a rfl hc
theorem Sl.wrI {h0 h : Hp} {p : Option Addr} {n c : Nat} {i : Int} {xs : List α} {A F : Bag} {v : Value} {x : α} {k : Hp → Prop} (a : Sl T p n c xs A) (s : St h0 h (A + F)) (h1 : 0 ≤ i) (hi : i < n) (hsz : T.sz = 1) (hx : T.enc x = [v])
    (hk : ∀ h' A', Sl T p n c (xs.set i.toNat x) A' → St h0 h' (A' + F) → k h') : (0 ≤ i ∧ i < (n : Int)) ∧ NN p fun ad => Wr h (ad.add (i.toNat * 1)) v k := by
  refine ⟨⟨h1, hi⟩, ?_⟩
  obtain ⟨w, hw⟩ : ∃ w, T.enc (xs.getD i.toNat T.d) = [w] := List.length_eq_one_iff.1 (by rw [T.len, hsz])
  obtain ⟨ad, rfl, hwr⟩ := a.wr (i := i.toNat) (j := 0) s (by omega) (by omega) (x := x) (v := v) (by rw [hx, hw]; rfl) hk
  rw [hsz] at hwr
  exact hwr
end
abbrev tI (e : TypeId) : Ty Int := ⟨e, 1, fun z => [.int .i64 z], 0, fun _ => rfl, by decide, fun _ v hv => by simp at hv; subst hv; rfl⟩
abbrev tP (e : TypeId) : Ty Nat := ⟨e, 1, fun b => [.pointer (some ⟨b, 0, none⟩)], 0, fun _ => rfl, by decide, fun _ v hv => by simp at hv; subst hv; rfl⟩
abbrev tPP (e : TypeId) : Ty (Int × Int) := ⟨e, 2, fun z => [.int .i64 z.1, .int .i64 z.2], (0, 0), fun _ => rfl, by decide, fun _ v hv => by simp at hv; rcases hv with rfl | rfl <;> rfl⟩
theorem yamr (e : TypeId) (zs : List Int) : (tI e).cells zs = zs.map (Value.int .i64) := by
  induction zs with
  | nil => rfl
  | cons z r ih => rw [Ty.cells_cons, ih]; rfl
theorem RdT.ints {e : TypeId} {h : Hp} {p : Option Addr} {n : Nat} {zs : List Int} (r : RdT (tI e) h p n zs) : Rd h p n (zs.map (Value.int .i64)) := by
  have := r.rd
  rw [yamr] at this
  rwa [show n * (tI e).sz = n from Nat.mul_one n] at this
theorem RdT.int {e : TypeId} {h : Hp} {p : Option Addr} {n : Nat} {zs : List Int} {i : Int} {Q : Int → Prop} (r : RdT (tI e) h p n zs) (h0 : 0 ≤ i) (h1 : i < n) (hq : Q (zs.getD i.toNat 0)) :
    (0 ≤ i ∧ i < (n : Int)) ∧ NN p fun a => ∃ x, cell h (a.add (i.toNat * 1)) = some (.int .i64 x) ∧ Q x := yafn r.ints h0 h1 hq
theorem RdT.ptr {e : TypeId} {h : Hp} {p : Option Addr} {n : Nat} {zs : List Nat} {i : Int} {Q : Option Addr → Prop} (r : RdT (tP e) h p n zs) (h0 : 0 ≤ i) (h1 : i < n) (hq : Q (some ⟨zs.getD i.toNat 0, 0, none⟩)) :
    (0 ≤ i ∧ i < (n : Int)) ∧ NN p fun a => ∃ x : Option Addr, cell h (a.add (i.toNat * 1)) = some (.pointer x) ∧ Q x :=
  r.idx h0 h1 fun _ _ hc => ⟨_, hc 0 Nat.one_pos, hq⟩
open Go
theorem St.atomBlk {h0 h : Hp} {b b' : Nat} {cs cs' : List Value} {e e' : TypeId} {F : Bag} (s : St h0 h (cA b cs e + (cA b' cs' e' + F))) : Blk h b' cs' e' := (s.to (B := cA b' cs' e' + (cA b cs e + F))).blk
theorem Sl.one {α : Type} {T : Ty α} {b : Nat} {x : α} {cs : List Value} (hx : cs = T.enc x) : Sl T (some ⟨b, 0, none⟩) 1 1 [x] (cA b cs T.e) := Sl.of_blk rfl (by rw [hx, T.cells_one])
theorem yajc {P : Program} {g : Nat} {ps rs : Array TypeId} {h0 h : Hp} {t e : TypeId} {i0 : TypeInfo} {b1 o1 b2 o2 : Nat} {la ca lb cb : Nat} {xs ys : List Value} {e1 e2 : TypeId} {F : Bag} {K : Value → Prop}
    (hx : IsExt P g (Extern.SlicesOverlaps.overlaps ps rs)) (hp : ps[0]? = some t) (ht : P.underlying t = some (.slice e)) (hi : P.info? e = some i0)
    (s : St h0 h (cA b1 xs e1 + (cA b2 ys e2 + F))) (hk : K (.bool false)) : yahx P g #[.slice (some ⟨b1, o1, none⟩) la ca, .slice (some ⟨b2, o2, none⟩) lb cb] h K :=
  yaqj hx hp ht hi s.ne s.blk s.atomBlk hk
open Go
open Go
theorem Sl.cast {α : Type} {T : Ty α} {p : Option Addr} {n n' c : Nat} {xs xs' : List α} {A : Bag} (a : Sl T p n c xs A) (hn : n = n') (hx : xs = xs') : Sl T p n' c xs' A := by subst hn hx; exact a
open Go
theorem RdT.again {e : TypeId} {h : Hp} {p : Option Addr} {n : Nat} {zs : List Int} {i : Nat} {a : Addr} {z : Int} (r : RdT (tI e) h p n zs) (ha : p = some a) (hi : i < n) (hz : zs.getD i 0 = z) :
    ∃ m, cell h (a.add (i * 1)) = some (.int .i64 m) ∧ (.int .i64 m : Value) = .int .i64 z := by
  obtain ⟨a', ha', hc⟩ := r.at_ hi
  rw [ha] at ha'
  cases ha'
  exact ⟨_, hc 0 Nat.one_pos, by rw [← hz]⟩
open Go
def AllH {α β : Type} (P : β → α → Bag → Prop) : List β → List α → Bag → Prop
  | [], [], A => A = 0
  | b :: bs, t :: ts, A => ∃ A1 A2, A = A1 + A2 ∧ P b t A1 ∧ AllH P bs ts A2
  | _, _, _ => False
section
variable {α β : Type} {P : β → α → Bag → Prop}
theorem AllH.len : ∀ {bs : List β} {ts : List α} {A : Bag}, AllH P bs ts A → bs.length = ts.length
  | [], [], _, _ => rfl
  | [], _ :: _, _, h => h.elim
  | _ :: _, [], _, h => h.elim
  | _ :: bs, _ :: ts, _, ⟨_, _, _, _, h⟩ => by simp [AllH.len h]
theorem AllH.append : ∀ {bs : List β} {ts : List α} {A : Bag} {bs' : List β} {ts' : List α} {A' : Bag}, AllH P bs ts A → AllH P bs' ts' A' → AllH P (bs ++ bs') (ts ++ ts') (A + A')
  | [], [], _, _, _, A', h, h' => by
    obtain rfl : _ = (0 : Bag) := h
    rw [Bag.zero_add]; exact h'
  | [], _ :: _, _, _, _, _, h, _ => h.elim
  | _ :: _, [], _, _, _, _, h, _ => h.elim
  | _ :: _, _ :: _, _, _, _, _, ⟨A1, A2, e, h1, h2⟩, h' => ⟨A1, _, by rw [e, Bag.assoc], h1, AllH.append h2 h'⟩
theorem AllH.split : ∀ (bs : List β) (ts : List α) {A : Bag} {bs' : List β} {ts' : List α}, bs.length = ts.length → AllH P (bs ++ bs') (ts ++ ts') A → ∃ A1 A2, A = A1 + A2 ∧ AllH P bs ts A1 ∧ AllH P bs' ts' A2
  | [], [], A, _, _, _, h => ⟨0, A, (Bag.zero_add A).symm, rfl, h⟩
  | [], _ :: _, _, _, _, hl, _ => by simp at hl
  | _ :: _, [], _, _, _, hl, _ => by simp at hl
  | _ :: bs, _ :: ts, _, _, _, hl, ⟨A1, A2, e, h1, h2⟩ => by
    obtain ⟨B1, B2, e2, k1, k2⟩ := AllH.split bs ts (by simpa using hl) h2
    exact ⟨A1 + B1, B2, by rw [e, e2, Bag.assoc], ⟨A1, B1, rfl, h1, k1⟩, k2⟩
theorem AllH.one {b : β} {t : α} {A : Bag} (h : P b t A) : AllH P [b] [t] A := ⟨A, 0, (Bag.add_zero A).symm, h, rfl⟩
theorem AllH.mono {Q : β → α → Bag → Prop} (hm : ∀ b t A, P b t A → Q b t A) : ∀ {bs : List β} {ts : List α} {A : Bag}, AllH P bs ts A → AllH Q bs ts A
  | [], [], _, h => h
  | [], _ :: _, _, h => h.elim
  | _ :: _, [], _, h => h.elim
  | _ :: _, _ :: _, _, ⟨A1, A2, e, h1, h2⟩ => ⟨A1, A2, e, hm _ _ _ h1, AllH.mono hm h2⟩
end
section
variable {α β : Type} {P : β → α → Bag → Prop}
theorem AllH.pick {d : α} {d' : β} : ∀ {bs : List β} {ts : List α} {A : Bag} {i : Nat}, AllH P bs ts A → i < bs.length → ∃ Ai B, A = Ai + B ∧ P (bs.getD i d') (ts.getD i d) Ai
  | [], _, _, _, _, h => by simp at h
  | _ :: _, [], _, _, h, _ => h.elim
  | b :: bs, t :: ts, _, 0, ⟨A1, A2, e, h1, _⟩, _ => ⟨A1, A2, e, h1⟩
  | b :: bs, t :: ts, _, i + 1, ⟨A1, A2, e, _, h2⟩, hi => by
    obtain ⟨Ai, B, e2, h3⟩ := AllH.pick (d := d) (d' := d') h2 (i := i) (by simpa using hi)
    exact ⟨Ai, A1 + B, by rw [e, e2]; ac_rfl, by simpa using h3⟩
end
abbrev SH := Option Addr × Nat × Nat
abbrev tS (e : TypeId) : Ty SH := ⟨e, 1, fun s => [.slice s.1 s.2.1 s.2.2], (none, 0, 0), fun _ => rfl, by decide, fun _ v hv => by simp at hv; subst hv; rfl⟩
def Nest {α : Type} (e : TypeId) (P : SH → α → Bag → Prop) (s : SH) (xs : List α) (B : Bag) : Prop :=
  ∃ hs B0 B1, B = B0 + B1 ∧ Sl (tS e) s.1 s.2.1 s.2.2 hs B0 ∧ AllH P hs xs B1
theorem Nest.nil {α : Type} {e : TypeId} {P : SH → α → Bag → Prop} : Nest e P (none, 0, 0) [] 0 := ⟨[], 0, 0, (Bag.add_zero 0).symm, Sl.nil, rfl⟩
theorem Nest.len {α : Type} {e : TypeId} {P : SH → α → Bag → Prop} {s : SH} {xs : List α} {B : Bag} (n : Nest e P s xs B) : xs.length = s.2.1 := by
  obtain ⟨hs, B0, B1, _, h1, h2⟩ := n
  rw [← h2.len, h1.len]
theorem Nest.at_ {α : Type} {e : TypeId} {P : SH → α → Bag → Prop} {s : SH} {xs : List α} {B G : Bag} {h0 h : Hp} {i : Int} {d : α} {Q : Option Addr → Nat → Nat → Prop} (n : Nest e P s xs B) (st : St h0 h (B + G)) (hi0 : 0 ≤ i) (hi : i < s.2.1)
    (hq : ∀ p l c Bi Br, P (p, l, c) (xs.getD i.toNat d) Bi → B = Bi + Br → Q p l c) :
    (0 ≤ i ∧ i < (s.2.1 : Int)) ∧ NN s.1 fun a => ∃ (p : Option Addr) (l c : Nat), cell h (a.add (i.toNat * 1)) = some (.slice p l c) ∧ Q p l c := by
  obtain ⟨hs, B0, B1, rfl, h1, h2⟩ := n
  have r := h1.rd (st.to (B := B0 + (B1 + G)))
  refine r.idx hi0 hi fun a _ hc => ?_
  have hl := h1.len
  obtain ⟨Bi, Br, hB, hp⟩ := h2.pick (d := d) (d' := (none, 0, 0)) (i := i.toNat) (by omega)
  exact ⟨_, _, _, hc 0 Nat.one_pos, hq _ _ _ Bi (B0 + Br) hp (by rw [hB]; ac_rfl)⟩
open Go
section
variable {P : Program}
end
abbrev Ev := Int × Int × Bool
abbrev El := Int × Int
abbrev evD : Ev := (0, 0, false)
def gone (a b : List El) : Nat := (a.filter fun e => decide (e ∉ b)).length
def lowT (t : Int) (l : List Ev) : Nat := (l.takeWhile fun a => decide (a.1 < t)).length
def kt (l : List Ev) (t : Int) : El := ((l.getD (lowT t l) evD).2.1, t)
open Go
open Go
theorem St.wr2 {h0 h : Hp} {X : Bag} {b o : Nat} {cs : List Value} {e : TypeId} {F : Bag} {ad : Addr} {v : Value} {k : Hp → Prop} (s : St h0 h (X + (cA b cs e + F))) (ha : ad = ⟨b, o, none⟩) (ho : o < cs.length) (hk : ∀ h', St h0 h' (X + (cA b (cs.set o v) e + F)) → k h') : Wr h ad v k :=
  St.wr (F := X + F) (cs := cs) (o := o) (e := e) (b := b) (h0 := h0) s.to ha ho fun _ s' => hk _ s'.to
variable {α : Type} {T : Ty α} {P : Program} {t : TypeId}
open Go
class Bag.Has (b : Nat) (B : Bag) (cs : outParam (List Value)) (e : outParam TypeId) (C : outParam Bag) : Prop where
  eq : B = cA b cs e + C
instance Bag.Has.one (b : Nat) (cs : List Value) (e : TypeId) : Bag.Has b (cA b cs e) cs e 0 := ⟨(Bag.add_zero _).symm⟩
instance Bag.Has.head (b : Nat) (cs : List Value) (e : TypeId) (Y : Bag) : Bag.Has b (cA b cs e + Y) cs e Y := ⟨rfl⟩
instance Bag.Has.right (b : Nat) (X Y : Bag) (cs : List Value) (e : TypeId) (C : Bag) [h : Bag.Has b Y cs e C] : Bag.Has b (X + Y) cs e (X + C) := ⟨by rw [h.eq]; ac_rfl⟩
instance (priority := low) Bag.Has.left (b : Nat) (X Y : Bag) (cs : List Value) (e : TypeId) (C : Bag) [h : Bag.Has b X cs e C] : Bag.Has b (X + Y) cs e (C + Y) := ⟨by rw [h.eq, Bag.assoc]⟩
section
variable {h0 h : Hp} {B : Bag} {b k : Nat} {cs : List Value} {e : TypeId} {C : Bag} {v : Value}
theorem St.find (s : St h0 h B) (b : Nat) {cs : List Value} {e : TypeId} {C : Bag} [x : Bag.Has b B cs e C] : St h0 h (cA b cs e + C) := x.eq ▸ s
theorem St.ldB (s : St h0 h B) [x : Bag.Has b B cs e C] (hv : cs[k]? = some v := by with_unfolding_all exact rfl) : Sx.cell h ((⟨b, 0, none⟩ : Addr).add k) = some v := by
  rw [(s.find b).cellA k]; exact hv
theorem St.ld0 (s : St h0 h B) [x : Bag.Has b B cs e C] (hv : cs[0]? = some v := by with_unfolding_all exact rfl) : Sx.cell h ⟨b, 0, none⟩ = some v := by
  rw [(s.find b).cell 0]; exact hv
theorem St.wrB {K : Hp → Prop} (s : St h0 h B) [x : Bag.Has b B cs e C] (hK : ∀ h', St h0 h' (cA b (cs.set k v) e + C) → K h') (hk : Nat.blt k cs.length = true := by with_unfolding_all exact rfl) : Wr h ((⟨b, 0, none⟩ : Addr).add k) v K :=
  (s.find b).wr (o := k) (by rw [yaca, Nat.zero_add]) (Nat.le_of_ble_eq_true hk) hK
theorem St.wr0 {K : Hp → Prop} (s : St h0 h B) [x : Bag.Has b B cs e C] (hK : ∀ h', St h0 h' (cA b (cs.set 0 v) e + C) → K h') (hk : Nat.blt 0 cs.length = true := by with_unfolding_all exact rfl) : Wr h ⟨b, 0, none⟩ v K :=
  (s.find b).wr (o := 0) rfl (Nat.le_of_ble_eq_true hk) hK
theorem St.wr1 {c : Value} {K : Hp → Prop} (s : St h0 h B) [x : Bag.Has b B [c] e C] (hK : ∀ h', St h0 h' (cA b [v] e + C) → K h') : Wr h ⟨b, 0, none⟩ v K := s.wr0 fun _ s => hK _ s
theorem St.wr6 {c0 c1 c2 c3 c4 c5 v0 v1 v2 v3 v4 v5 : Value} {K : Hp → Prop} (s : St h0 h B) [x : Bag.Has b B [c0, c1, c2, c3, c4, c5] e C] (hK : ∀ h', St h0 h' (cA b [v0, v1, v2, v3, v4, v5] e + C) → K h') :
    Wr h ⟨b, 0, none⟩ v0 fun h1 => Wr h1 ((⟨b, 0, none⟩ : Addr).add 1) v1 fun h2 => Wr h2 ((⟨b, 0, none⟩ : Addr).add 2) v2 fun h3 => Wr h3 ((⟨b, 0, none⟩ : Addr).add 3) v3 fun h4 => Wr h4 ((⟨b, 0, none⟩ : Addr).add 4) v4 fun h5 => Wr h5 ((⟨b, 0, none⟩ : Addr).add 5) v5 K :=
  s.wr0 fun _ s => s.wrB fun _ s => s.wrB fun _ s => s.wrB fun _ s => s.wrB fun _ s => s.wrB fun _ s => hK _ s
theorem St.ld6 {x0 x1 x2 x3 x4 x5 : Int} {Q : Int → Int → Int → Int → Int → Int → Prop} (s : St h0 h B) [x : Bag.Has b B [.int .i64 x0, .int .i64 x1, .int .i64 x2, .int .i64 x3, .int .i64 x4, .int .i64 x5] e C] (hq : Q x0 x1 x2 x3 x4 x5) :
    ∃ n0 : Int, ∃ n1 : Int, ∃ n2 : Int, ∃ n3 : Int, ∃ n4 : Int, ∃ n5 : Int, Sx.cell h ⟨b, 0, none⟩ = some (.int .i64 n0) ∧ Sx.cell h ((⟨b, 0, none⟩ : Addr).add 1) = some (.int .i64 n1) ∧ Sx.cell h ((⟨b, 0, none⟩ : Addr).add 2) = some (.int .i64 n2) ∧ Sx.cell h ((⟨b, 0, none⟩ : Addr).add 3) = some (.int .i64 n3) ∧
      Sx.cell h ((⟨b, 0, none⟩ : Addr).add 4) = some (.int .i64 n4) ∧ Sx.cell h ((⟨b, 0, none⟩ : Addr).add 5) = some (.int .i64 n5) ∧ Q n0 n1 n2 n3 n4 n5 :=
  ⟨_, _, _, _, _, _, s.ld0, s.ldB, s.ldB, s.ldB, s.ldB, s.ldB, hq⟩
theorem yacu {h : Hp} {a : Addr} {z : Int} (c : cell h a = some (.int .i64 z)) : ∃ n, cell h a = some (.int .i64 n) ∧ (.int .i64 n : Value) = .int .i64 z := ⟨z, c, rfl⟩
theorem yaoi {h : Hp} {a : Addr} {z : Value} (c : cell h a = some z) : ∃ n : Value, cell h a = some n ∧ n = z := ⟨z, c, rfl⟩
theorem yafg {P : Program} {F : Nat → Bool} {g : Nat} {first cap : Array Value} {args : List Value} {args' : Array Value} {h : Hp} {K : Value → Hp → Prop} (hF : F g = true) (hc : yaak P g args' h K) (ha : (first.toList ++ (args ++ cap.toList)).toArray = args' := by with_unfolding_all exact rfl) :
    funV (.func (.func g) first cap) fun fg fa fc => callX P F fg (fa ++ (args ++ fc)).toArray h K := by
  show callX P F g (first.toList ++ (args ++ cap.toList)).toArray h K
  unfold callX; rw [hF, ha]; exact hc
theorem yawl {f : Value} {k : List Value → Prop} (hs : scalar f = true) (hk : k [f]) : yaft f k := by
  unfold yaft; rw [hs]; exact hk
end
def Held (B : Bag) (Q : Hp → Prop) : Prop := ∀ h0 h F, St h0 h (B + F) → Q h
theorem Held.of (h0 h : Hp) (B F : Bag) {Q : Hp → Prop} (q : Held B Q) (s : St h0 h (B + F)) : Q h := q h0 h F s
theorem Held.mono {B : Bag} {Q Q' : Hp → Prop} (q : Held B Q) (hm : ∀ h, Q h → Q' h) : Held B Q' := fun h0 h F s => hm _ (q h0 h F s)
theorem yapx {h h' : Hp} {Q : Hp → Prop} (x : Ext h h') (l : LocH h.size h' Q) : ∃ B, St h h' B ∧ Held B Q := by
  refine ⟨Bag.mk ((List.range' h.size (h'.size - h.size)).map fun i => (i, (h'[i]?).getD default)), ⟨x, _, rfl, ?_, fun a ha => ?_⟩, fun h0 g F s => ?_⟩
  · rw [List.map_map]
    have : (Prod.fst ∘ fun i : Nat => (i, (h'[i]?).getD (default : Obj))) = id := rfl
    rw [this, List.map_id]
    exact List.nodup_range'
  · obtain ⟨i, hi, rfl⟩ := List.mem_map.1 ha
    obtain ⟨j, hj, rfl⟩ := List.mem_range'.1 hi
    refine ⟨by simp, ?_⟩
    have hlt : h.size + 1 * j < h'.size := by have := x.size; omega
    show h'[h.size + 1 * j]? = some ((h'[h.size + 1 * j]?).getD default)
    rw [Array.getElem?_eq_getElem hlt]; rfl
  · refine l g fun k h1 h2 => ?_
    induction F using Bag.ind
    rw [Bag.mk_add] at s
    have := (s.of.2 (k, (h'[k]?).getD default) (List.mem_append_left _ (List.mem_map.2 ⟨k, List.mem_range'.2 ⟨k - h.size, by omega, by omega⟩, rfl⟩))).2
    rw [this, Array.getElem?_eq_getElem h2]; rfl
abbrev lA (rec : LoopState → Option Code → Loop) (l : Nat) (st : LoopState) (pe : Option Code) : Bag := Bag.one (l, .loop (rec st pe))
abbrev dA (d : Nat) : Bag := Bag.one (d, .deferred (some []))
section
variable {h0 h : Hp} {F : Bag} {rec : LoopState → Option Code → Loop} {l d : Nat} {st st' : LoopState} {pe pe' : Option Code}
theorem St.range (s : St h0 h F) (rec : LoopState → Option Code → Loop) : St h0 (yauk h rec) (lA rec (h.size + 1) .ready none + (dA h.size + F)) := by
  have s2 := (s.push (.deferred (some []))).push (.loop (rec .ready none))
  rw [Array.size_push] at s2
  exact s2
theorem St.lp (s : St h0 h (lA rec l st pe + F)) : LpS rec l h st pe := s.head.2
theorem St.setLp (s : St h0 h (lA rec l st pe + F)) : St h0 (Sx.setLp rec l h st' pe') (lA rec l st' pe' + F) := by
  have hb := s.head.2
  have hl := yaeo hb
  unfold Sx.setLp
  refine s.set (by simp) (fun j hj => by rw [Array.getElem?_setIfInBounds_ne (Ne.symm hj)]) ?_
  rw [Array.getElem?_setIfInBounds_self, if_pos hl]
theorem St.deferred (s : St h0 h (dA d + F)) : h[d]? = some (.deferred (some [])) ∧ St h0 (h.setIfInBounds d (.deferred none)) (Bag.one (d, .deferred none) + F) := by
  have hb := s.head.2
  have hl := yaeo hb
  refine ⟨hb, s.set (by simp) (fun j hj => by rw [Array.getElem?_setIfInBounds_ne (Ne.symm hj)]) ?_⟩
  rw [Array.getElem?_setIfInBounds_self, if_pos hl]
end
def Yld (P : Program) (h0 : Hp) (l : Nat) (xs : List Value) (J : Nat → Bag → Prop) (Jx : Bag → Prop) : Prop :=
  ∀ i A F h, i < xs.length → J i A → St h0 h (A + F) → yaix P l #[xs.getD i .nilFunc] h fun v h' => (v = .bool true ∧ ∃ A', J (i + 1) A' ∧ St h0 h' (A' + F)) ∨ (v = .bool false ∧ ∃ A', Jx A' ∧ St h0 h' (A' + F))
open Go
class Bag.HasO (n : Nat) (B : Bag) (o : outParam Obj) (C : outParam Bag) : Prop where
  eq : B = Bag.one (n, o) + C
instance Bag.HasO.one (n : Nat) (o : Obj) : Bag.HasO n (Bag.one (n, o)) o 0 := ⟨(Bag.add_zero _).symm⟩
instance Bag.HasO.head (n : Nat) (o : Obj) (Y : Bag) : Bag.HasO n (Bag.one (n, o) + Y) o Y := ⟨rfl⟩
instance Bag.HasO.right (n : Nat) (X Y : Bag) (o : Obj) (C : Bag) [h : Bag.HasO n Y o C] : Bag.HasO n (X + Y) o (X + C) := ⟨by rw [h.eq]; ac_rfl⟩
instance (priority := low) Bag.HasO.left (n : Nat) (X Y : Bag) (o : Obj) (C : Bag) [h : Bag.HasO n X o C] : Bag.HasO n (X + Y) o (C + Y) := ⟨by rw [h.eq, Bag.assoc]⟩
section
variable {h0 h : Hp} {B C : Bag} {rec : LoopState → Option Code → Loop} {l d : Nat} {st st' : LoopState} {pe pe' : Option Code}
theorem St.lpB (s : St h0 h B) [x : Bag.HasO l B (.loop (rec st pe)) C] : LpS rec l h st pe := (x.eq ▸ s : St h0 h (lA rec l st pe + C)).lp
theorem St.setLpB (s : St h0 h B) [x : Bag.HasO l B (.loop (rec st pe)) C] : St h0 (Sx.setLp rec l h st' pe') (lA rec l st' pe' + C) := (x.eq ▸ s : St h0 h (lA rec l st pe + C)).setLp
theorem St.defB (s : St h0 h B) [x : Bag.HasO d B (.deferred (some [])) C] : h[d]? = some (.deferred (some [])) ∧ St h0 (h.setIfInBounds d (.deferred none)) (Bag.one (d, .deferred none) + C) := (x.eq ▸ s : St h0 h (dA d + C)).deferred
end
variable {α : Type} {d : α}
def swapL (d : α) (xs : List α) (i j : Nat) : List α := (xs.set i (xs.getD j d)).set j (xs.getD i d)
theorem yajq (xs : List α) (i j : Nat) : (swapL d xs i j).length = xs.length := by unfold swapL; rw [List.length_set, List.length_set]
theorem yape {xs : List α} {i k : Nat} {x : α} (hi : i < xs.length) : (xs.set i x).getD k d = if k = i then x else xs.getD k d := by
  rw [List.getD_eq_getElem?_getD, List.getElem?_set, List.getD_eq_getElem?_getD]
  by_cases h : k = i
  · subst h; rw [if_pos rfl, if_pos rfl, if_pos hi]; rfl
  · rw [if_neg (fun e => h e.symm), if_neg h]
theorem yaek {xs : List α} {i j : Nat} (hi : i < xs.length) (hj : j < xs.length) (k : Nat) : (swapL d xs i j).getD k d = if k = j then xs.getD i d else if k = i then xs.getD j d else xs.getD k d := by
  unfold swapL
  rw [yape (by rw [List.length_set]; exact hj), yape hi]
theorem yato {xs : List α} {i j : Nat} (hi : i < xs.length) (hj : j < xs.length) : (swapL d xs i j).Perm xs := by
  unfold swapL
  have h1 : xs.getD i d = xs[i] := by rw [List.getD_eq_getElem?_getD, List.getElem?_eq_getElem hi]; rfl
  have h2 : xs.getD j d = xs[j] := by rw [List.getD_eq_getElem?_getD, List.getElem?_eq_getElem hj]; rfl
  rw [h1, h2]
  exact List.set_set_perm hi hj
inductive Swp (d : α) (a b : Nat) : List α → List α → Prop
  | refl (xs) : Swp d a b xs xs
  | step {xs ys} {i j : Nat} : Swp d a b xs ys → a ≤ i → i < b → a ≤ j → j < b → b ≤ ys.length → Swp d a b xs (swapL d ys i j)
theorem Swp.one {a b : Nat} {xs : List α} {i j : Nat} (h1 : a ≤ i) (h2 : i < b) (h3 : a ≤ j) (h4 : j < b) (h5 : b ≤ xs.length) : Swp d a b xs (swapL d xs i j) := .step (.refl xs) h1 h2 h3 h4 h5
theorem Swp.trans {a b : Nat} {xs ys zs : List α} (h1 : Swp d a b xs ys) (h2 : Swp d a b ys zs) : Swp d a b xs zs := by
  induction h2 with
  | refl => exact h1
  | step _ i1 i2 j1 j2 hl ih => exact .step ih i1 i2 j1 j2 hl
theorem Swp.mono {a b a' b' : Nat} {xs ys : List α} (ha : a' ≤ a) (hb : b ≤ b') (hl : b' ≤ xs.length) (h : Swp d a b xs ys) : Swp d a' b' xs ys ∧ ys.length = xs.length := by
  induction h with
  | refl => exact ⟨.refl _, rfl⟩
  | step _ i1 i2 j1 j2 _ ih => exact ⟨.step ih.1 (by omega) (by omega) (by omega) (by omega) (by rw [ih.2]; exact hl), by rw [yajq, ih.2]⟩
theorem Swp.len {a b : Nat} {xs ys : List α} (h : Swp d a b xs ys) : ys.length = xs.length := by
  induction h with
  | refl => rfl
  | step _ _ _ _ _ _ ih => rw [yajq, ih]
theorem Swp.out {a b : Nat} {xs ys : List α} (h : Swp d a b xs ys) {k : Nat} (hk : k < a ∨ b ≤ k) : ys.getD k d = xs.getD k d := by
  induction h with
  | refl => rfl
  | step _ i1 i2 j1 j2 hl ih => rw [yaek (by omega) (by omega), if_neg (by omega), if_neg (by omega), ih]
theorem Swp.all {a b : Nat} {xs ys : List α} (h : Swp d a b xs ys) {P : α → Prop} (hP : ∀ k, a ≤ k → k < b → P (xs.getD k d)) : ∀ k, a ≤ k → k < b → P (ys.getD k d) := by
  induction h with
  | refl => exact hP
  | step _ i1 i2 j1 j2 hl ih =>
    intro k h1 h2
    rw [yaek (by omega) (by omega)]
    split
    · exact ih _ i1 i2
    · split
      · exact ih _ j1 j2
      · exact ih k h1 h2
theorem Swp.perm {a b : Nat} {xs ys : List α} (h : Swp d a b xs ys) : ys.Perm xs := by
  induction h with
  | refl => exact .refl _
  | step _ i1 i2 j1 j2 hl ih => exact (yato (by omega) (by omega)).trans ih
theorem Swp.allN {a b : Nat} {xs ys : List α} (h : Swp d a b xs ys) {P : α → Prop} {n : Nat} (hn : xs.length = n) (hP : ∀ k, k < n → P (xs.getD k d)) : ∀ k, k < n → P (ys.getD k d) := by
  subst hn
  induction h with
  | refl => exact hP
  | step t i1 i2 j1 j2 hl ih =>
    intro k h2
    have := t.len
    rw [yaek (by omega) (by omega)]
    split
    · exact ih _ (by omega)
    · split
      · exact ih _ (by omega)
      · exact ih k h2
structure OrdP (lt : α → α → Prop) : Prop where
  asymm : ∀ x y, lt x y → ¬ lt y x
  trans : ∀ x y z, ¬ lt y x → ¬ lt z y → ¬ lt z x
section
variable {lt : α → α → Prop} (o : OrdP lt)
def SrtR (d : α) (lt : α → α → Prop) (a b : Nat) (xs : List α) : Prop := ∀ p q, a ≤ p → p < q → q < b → ¬ lt (xs.getD q d) (xs.getD p d)
theorem SrtR.mono {a b a' b' : Nat} {xs : List α} (h : SrtR d lt a b xs) (ha : a ≤ a') (hb : b' ≤ b) : SrtR d lt a' b' xs := fun p q h1 h2 h3 => h p q (by omega) h2 (by omega)
theorem yagn {n : Nat} {xs : List α} (hl : xs.length = n) (h : SrtR d lt 0 n xs) : xs.Pairwise (fun x y => ¬ lt y x) := by
  rw [List.pairwise_iff_getElem]
  intro i j hi hj hij
  have := h i j (by omega) hij (by omega)
  rwa [List.getD_eq_getElem?_getD, List.getD_eq_getElem?_getD, List.getElem?_eq_getElem hi, List.getElem?_eq_getElem hj] at this
def InsR (d : α) (lt : α → α → Prop) (a j i : Nat) (xs : List α) : Prop := ∀ p q, a ≤ p → p < q → q ≤ i → q ≠ j → ¬ lt (xs.getD q d) (xs.getD p d)
theorem yauz {a i : Nat} {xs : List α} (h : SrtR d lt a i xs) : InsR d lt a i i xs := fun p q h1 h2 h3 h4 => h p q h1 h2 (by omega)
include o in
theorem yazu {a j i : Nat} {xs : List α} (haj : a < j) (hji : j ≤ i) (hi : i < xs.length) (h : InsR d lt a j i xs) (hl : lt (xs.getD j d) (xs.getD (j - 1) d)) : InsR d lt a (j - 1) i (swapL d xs j (j - 1)) := by
  intro p q h1 h2 h3 h4
  rw [yaek (by omega) (by omega), yaek (by omega) (by omega), if_neg h4]
  by_cases hq : q = j
  · rw [if_pos hq]
    by_cases hp : p = j - 1
    · rw [if_pos hp]; exact o.asymm _ _ hl
    · rw [if_neg hp, if_neg (by omega)]; exact h p (j - 1) h1 (by omega) (by omega) (by omega)
  · rw [if_neg hq]
    by_cases hp : p = j - 1
    · rw [if_pos hp]; exact h j q (by omega) (by omega) h3 hq
    · rw [if_neg hp]
      by_cases hp2 : p = j
      · rw [if_pos hp2]; exact h (j - 1) q (by omega) (by omega) h3 hq
      · rw [if_neg hp2]; exact h p q h1 h2 h3 hq
include o in
theorem ybdj {a j i : Nat} {xs : List α} (haj : a ≤ j) (h : InsR d lt a j i xs) (hl : a < j → ¬ lt (xs.getD j d) (xs.getD (j - 1) d)) : SrtR d lt a (i + 1) xs := by
  intro p q h1 h2 h3
  by_cases hq : q = j
  · subst hq
    have hl := hl (by omega)
    by_cases hp : p = q - 1
    · rw [hp]; exact hl
    · exact o.trans _ _ _ (h p (q - 1) h1 (by omega) (by omega) (by omega)) hl
  · exact h p q h1 h2 (by omega) hq
theorem yazp {a b : Nat} {xs : List α} (h : b ≤ a + 1) : SrtR d lt a b xs := fun _ _ h1 h2 h3 => by omega
end
variable {α : Type} {d : α}
noncomputable def like (lt : α → α → Prop) (z y : α) : Bool := @decide (¬ lt y z ∧ ¬ lt z y) (Classical.propDecidable _)
theorem yamq {lt : α → α → Prop} {z y : α} : like lt z y = true ↔ ¬ lt y z ∧ ¬ lt z y := by unfold like; simp
def Stb (lt : α → α → Prop) (xs ys : List α) : Prop := ys.Perm xs ∧ ∀ z, ys.filter (like lt z) = xs.filter (like lt z)
theorem Stb.refl {lt : α → α → Prop} (xs : List α) : Stb lt xs xs := ⟨.refl _, fun _ => rfl⟩
theorem Stb.trans {lt : α → α → Prop} {xs ys zs : List α} (h1 : Stb lt xs ys) (h2 : Stb lt ys zs) : Stb lt xs zs := ⟨h2.1.trans h1.1, fun z => (h2.2 z).trans (h1.2 z)⟩
def Rot (d : α) (a m e : Nat) (xs ys : List α) : Prop := ys.length = xs.length ∧ ∀ q, ys.getD q d = if q < a ∨ e ≤ q then xs.getD q d else if q < a + (e - m) then xs.getD (q + (m - a)) d else xs.getD (q - (e - m)) d
theorem yane {xs ys : List α} {q : Nat} : (xs ++ ys).getD q d = if q < xs.length then xs.getD q d else ys.getD (q - xs.length) d := by
  rw [List.getD_eq_getElem?_getD, List.getElem?_append]
  split <;> rw [← List.getD_eq_getElem?_getD]
theorem yajz {xs : List α} {n q : Nat} : (xs.take n).getD q d = if q < n then xs.getD q d else d := by
  rw [List.getD_eq_getElem?_getD, List.getElem?_take]
  split
  · rw [← List.getD_eq_getElem?_getD]
  · rfl
theorem yakp {xs : List α} {n q : Nat} : (xs.drop n).getD q d = xs.getD (n + q) d := by
  rw [List.getD_eq_getElem?_getD, List.getElem?_drop, ← List.getD_eq_getElem?_getD]
theorem yayr {xs ys : List α} (hl : xs.length = ys.length) (h : ∀ q, q < xs.length → xs.getD q d = ys.getD q d) : xs = ys := by
  refine List.ext_getElem hl fun i h1 h2 => ?_
  have := h i h1
  rwa [List.getD_eq_getElem?_getD, List.getD_eq_getElem?_getD, List.getElem?_eq_getElem h1, List.getElem?_eq_getElem h2] at this
theorem yazl {a m e : Nat} {xs ys : List α} (h1 : a ≤ m) (h2 : m ≤ e) (h3 : e ≤ xs.length) (h : Rot d a m e xs ys) : ys = xs.take a ++ ((xs.drop m).take (e - m) ++ ((xs.drop a).take (m - a) ++ xs.drop e)) := by
  have hl : (xs.take a ++ ((xs.drop m).take (e - m) ++ ((xs.drop a).take (m - a) ++ xs.drop e))).length = xs.length := by
    simp only [List.length_append, List.length_take, List.length_drop]; omega
  refine yayr (d := d) (by rw [hl]; exact h.1) fun q hq => ?_
  rw [h.1] at hq
  rw [h.2 q, yane, yane, yane, yajz, yajz, yajz, yakp, yakp, yakp]
  simp only [List.length_take, List.length_drop]
  rw [show min a xs.length = a by omega, show min (e - m) (xs.length - m) = e - m by omega, show min (m - a) (xs.length - a) = m - a by omega]
  by_cases c1 : q < a
  · rw [if_pos (.inl c1), if_pos c1, if_pos c1]
  · rw [if_neg c1]
    by_cases c2 : e ≤ q
    · rw [if_pos (.inr c2), if_neg (by omega), if_neg (by omega)]
      congr 1; omega
    · rw [if_neg (by omega)]
      by_cases c3 : q < a + (e - m)
      · rw [if_pos c3, if_pos (by omega), if_pos (by omega)]
        congr 1; omega
      · rw [if_neg c3, if_neg (by omega), if_pos (by omega), if_pos (by omega)]
        congr 1; omega
theorem yaty {a m e : Nat} {xs : List α} (h1 : a ≤ m) (h2 : m ≤ e) (_h3 : e ≤ xs.length) : xs = xs.take a ++ ((xs.drop a).take (m - a) ++ ((xs.drop m).take (e - m) ++ xs.drop e)) := by
  conv => lhs; rw [← List.take_append_drop a xs]
  congr 1
  conv => lhs; rw [← List.take_append_drop (m - a) (xs.drop a)]
  congr 1
  rw [List.drop_drop, show a + (m - a) = m by omega]
  conv => lhs; rw [← List.take_append_drop (e - m) (xs.drop m)]
  rw [List.drop_drop, show m + (e - m) = e by omega]
section
variable {lt : α → α → Prop} (o : OrdP lt)
include o in
theorem ybcw {a m e : Nat} {xs ys : List α} (h1 : a ≤ m) (h2 : m ≤ e) (h3 : e ≤ xs.length) (h : Rot d a m e xs ys) (hlt : ∀ u v, a ≤ u → u < m → m ≤ v → v < e → lt (xs.getD v d) (xs.getD u d)) : Stb lt xs ys := by
  have e1 := yazl h1 h2 h3 h
  have e2 := yaty h1 h2 h3
  generalize hU : (xs.drop a).take (m - a) = U at e1 e2
  generalize hV : (xs.drop m).take (e - m) = V at e1 e2
  have hUV : ∀ u ∈ U, ∀ v ∈ V, lt v u := by
    intro u hu v hv
    rw [← hU] at hu; rw [← hV] at hv
    obtain ⟨i, hi, rfl⟩ := List.getElem_of_mem hu
    obtain ⟨j, hj, rfl⟩ := List.getElem_of_mem hv
    simp only [List.length_take, List.length_drop] at hi hj
    have := hlt (a + i) (m + j) (by omega) (by omega) (by omega) (by omega)
    rw [List.getD_eq_getElem?_getD, List.getD_eq_getElem?_getD, List.getElem?_eq_getElem (by omega), List.getElem?_eq_getElem (by omega)] at this
    simpa using this
  refine ⟨?_, fun z => ?_⟩
  · rw [e1]; conv => rhs; rw [e2]
    refine List.Perm.append_left _ ?_
    rw [← List.append_assoc, ← List.append_assoc]
    exact List.Perm.append_right _ List.perm_append_comm
  · rw [e1]; conv => rhs; rw [e2]
    rw [List.filter_append, List.filter_append, List.filter_append, List.filter_append, List.filter_append, List.filter_append]
    congr 1
    rw [← List.append_assoc, ← List.append_assoc]
    congr 1
    by_cases hz : ∃ u ∈ U, ¬ lt u z ∧ ¬ lt z u
    · obtain ⟨u, hu, k1, k2⟩ := hz
      have : V.filter (like lt z) = [] := by
        rw [List.filter_eq_nil_iff]
        intro v hv
        rw [yamq]
        intro ⟨k3, k4⟩
        exact o.trans _ _ _ k2 k3 (hUV u hu v hv)
      rw [this, List.nil_append, List.append_nil]
    · have : U.filter (like lt z) = [] := by
        rw [List.filter_eq_nil_iff]
        intro u hu
        rw [yamq]
        intro k
        exact hz ⟨u, hu, k⟩
      rw [this, List.nil_append, List.append_nil]
theorem ybck {i : Nat} {xs : List α} (h : i + 1 < xs.length) : Rot d i (i + 1) (i + 2) xs (swapL d xs (i + 1) i) := ⟨yajq _ _ _, fun q => by
  rw [yaek (by omega) (by omega)]
  by_cases c1 : q = i
  · subst c1; rw [if_pos rfl, if_neg (by omega), if_pos (by omega)]; congr 1; omega
  · rw [if_neg c1]
    by_cases c2 : q = i + 1
    · subst c2; rw [if_pos rfl, if_neg (by omega), if_neg (by omega)]; congr 1; omega
    · rw [if_neg c2, if_pos (by omega)]⟩
include o in
theorem yazr {i : Nat} {xs : List α} (h : i + 1 < xs.length) (hl : lt (xs.getD (i + 1) d) (xs.getD i d)) : Stb lt xs (swapL d xs (i + 1) i) :=
  ybcw o (d := d) (Nat.le_succ i) (Nat.le_succ _) (by omega) (ybck h) fun u v h1 h2 h3 h4 => by
    rw [show u = i by omega, show v = i + 1 by omega]; exact hl
end
def up (k : Nat) (x : Int) : Int := x / 2 ^ k
theorem yaoo (x : Int) : up 0 x = x := by unfold up; rw [Int.pow_zero, Int.ediv_one]
theorem yaqt (k : Nat) : (0 : Int) < 2 ^ k := Int.pow_pos (by decide)
theorem yala (k : Nat) (x : Int) : up (k + 1) x = up k x / 2 := by
  unfold up
  rw [Int.pow_succ, Int.ediv_ediv_of_nonneg (Int.le_of_lt (yaqt k))]
theorem ybff (k : Nat) (v : Int) : up k (v * 2 ^ k) = v := Int.mul_ediv_cancel _ (Int.ne_of_gt (yaqt k))
theorem yawk {k : Nat} {x : Int} (h0 : 0 ≤ x) (h : x < 2 ^ k) : up k x = 0 := Int.ediv_eq_zero_of_lt h0 h
def cntU (xs : List Int) (k : Nat) (v : Int) (i : Nat) : Nat := ((xs.take i).filter fun x => decide (up k x = v)).length
def lessU (xs : List Int) (k : Nat) (v : Int) : Nat := (xs.filter fun x => decide (up k x < v)).length
structure LvP (xs : List Int) (k : Nat) (l : List Int) : Prop where
  perm : l.Perm xs
  srt : l.Pairwise fun a b => up k a ≤ up k b
  alike : ∀ v, l.filter (fun x => decide (up k x = v)) = xs.filter (fun x => decide (up k x = v))
theorem ybbh {xs : List Int} {k : Nat} (h : ∀ x ∈ xs, 0 ≤ x ∧ x < 2 ^ k) : LvP xs k xs := by
  refine ⟨.refl _, ?_, fun _ => rfl⟩
  refine List.Pairwise.imp_of_mem (R := fun _ _ => True) (fun {a b} ha hb _ => ?_) (List.pairwise_of_forall fun _ _ => trivial)
  rw [yawk (h a ha).1 (h a ha).2, yawk (h b hb).1 (h b hb).2]
  exact Int.le_refl _
theorem yalg {xs : List Int} {k : Nat} {v : Int} : xs.filter (fun x => decide (up k x = v)) = (xs.filter fun x => decide (up (k + 1) x = v / 2)).filter fun x => decide (up k x = v) := by
  rw [List.filter_filter]
  refine List.filter_congr fun x _ => ?_
  by_cases h : up k x = v
  · rw [decide_eq_true h, decide_eq_true (by rw [yala, h])]; rfl
  · rw [decide_eq_false h]; rfl
theorem ybam {xs l l' : List Int} {k : Nat} (h : LvP xs (k + 1) l) (hs : Stb (fun x y => up k x < up k y) l l') (ho : l'.Pairwise fun a b => ¬ up k b < up k a) : LvP xs k l' := by
  refine ⟨hs.1.trans h.perm, ho.imp fun h => Int.not_lt.1 h, fun v => ?_⟩
  have e : ∀ m : List Int, m.filter (fun x => decide (up k x = v)) = m.filter (like (fun x y => up k x < up k y) (v * 2 ^ k)) := by
    intro m
    refine List.filter_congr fun x _ => ?_
    rw [Bool.eq_iff_iff, yamq, ybff, decide_eq_true_iff]
    omega
  rw [e l', hs.2, ← e l, yalg, h.alike, ← yalg]
theorem yanc {α : Type} {κ : α → Int} {l : List α} (h : l.Pairwise fun a b => κ a ≤ κ b) (v : Int) : l = l.filter (fun x => decide (κ x < v)) ++ (l.filter (fun x => decide (κ x = v)) ++ l.filter (fun x => decide (v < κ x))) := by
  induction l with
  | nil => rfl
  | cons a l ih =>
    have ih := ih h.tail
    have ha : ∀ b, b ∈ l → κ a ≤ κ b := fun b hb => List.rel_of_pairwise_cons h hb
    rcases Int.lt_trichotomy (κ a) v with h1 | h1 | h1
    · rw [List.filter_cons_of_pos (by simpa using h1), List.filter_cons_of_neg (by simp; omega), List.filter_cons_of_neg (by simp; omega), List.cons_append, ← ih]
    · have e1 : l.filter (fun x => decide (κ x < v)) = [] := by
        rw [List.filter_eq_nil_iff]; intro b hb; have := ha b hb; simp; omega
      rw [e1, List.nil_append] at ih
      rw [List.filter_cons_of_neg (by simp; omega), List.filter_cons_of_pos (by simpa using h1), List.filter_cons_of_neg (by simp; omega), e1, List.nil_append, List.cons_append, ← ih]
    · have e1 : l.filter (fun x => decide (κ x < v)) = [] := by
        rw [List.filter_eq_nil_iff]; intro b hb; have := ha b hb; simp; omega
      have e2 : l.filter (fun x => decide (κ x = v)) = [] := by
        rw [List.filter_eq_nil_iff]; intro b hb; have := ha b hb; simp; omega
      rw [e1, e2, List.nil_append, List.nil_append] at ih
      rw [List.filter_cons_of_neg (by simp; omega), List.filter_cons_of_neg (by simp; omega), List.filter_cons_of_pos (by simpa using h1), e1, e2, List.nil_append, List.nil_append, ← ih]
theorem yagd {α : Type} (p : α → Bool) : ∀ (xs : List α) (i : Nat), (xs.filter p).take ((xs.take i).filter p).length = (xs.take i).filter p
  | [], i => by simp
  | x :: xs, 0 => by simp
  | x :: xs, i + 1 => by
    rw [List.take_succ_cons]
    by_cases h : p x = true
    · rw [List.filter_cons_of_pos h, List.filter_cons_of_pos h, List.length_cons, List.take_succ_cons, yagd p xs i]
    · rw [List.filter_cons_of_neg h, List.filter_cons_of_neg h, yagd p xs i]
theorem ybba {xs l : List Int} {k : Nat} (h : LvP xs k l) (v : Int) : (l.filter fun x => decide (up k x < v)).length = lessU xs k v := (h.perm.filter _).length_eq
theorem yayd {xs l : List Int} {k : Nat} (h : LvP xs k l) (v : Int) (i : Nat) : l.take (lessU xs k v + cntU xs k v i) = l.filter (fun x => decide (up k x < v)) ++ (xs.take i).filter fun x => decide (up k x = v) := by
  have e := yanc h.srt v
  have hl := ybba h v
  have hc : cntU xs k v i ≤ (xs.filter fun x => decide (up k x = v)).length := by
    unfold cntU; exact ((List.take_sublist i xs).filter _).length_le
  conv => lhs; rw [e]
  rw [← hl, List.take_length_add_append, h.alike, List.take_append_of_le_length hc]
  congr 1
  exact yagd _ xs i
def bitU (k : Nat) (x : Int) : Bool := decide (up k x % 2 = 1)
def onesU (k : Nat) (l : List Int) (i : Nat) : Nat := ((l.take i).filter (bitU k)).length
theorem yanl {xs l : List Int} {k : Nat} (h : LvP xs (k + 1) l) (v : Int) (i : Nat) : onesU k l (lessU xs (k + 1) v + cntU xs (k + 1) v i) = onesU k l (lessU xs (k + 1) v) + cntU xs k (2 * v + 1) i := by
  have e0 := yayd h v 0
  have z : cntU xs (k + 1) v 0 = 0 := by unfold cntU; simp
  rw [z, Nat.add_zero] at e0
  unfold onesU
  rw [yayd h v i, e0, List.filter_append, List.filter_append, List.length_append, List.length_append]
  have : ((xs.take 0).filter fun x => decide (up (k + 1) x = v)).filter (bitU k) = [] := by simp
  rw [this, List.length_nil, Nat.add_zero]
  congr 1
  unfold cntU
  rw [List.filter_filter]
  congr 1
  refine List.filter_congr fun x _ => ?_
  rw [Bool.eq_iff_iff, Bool.and_eq_true, bitU, decide_eq_true_iff, decide_eq_true_iff, decide_eq_true_iff, yala]
  omega
theorem yamh (xs : List Int) (k : Nat) (v : Int) (i : Nat) : cntU xs (k + 1) v i = cntU xs k (2 * v) i + cntU xs k (2 * v + 1) i := by
  unfold cntU
  generalize xs.take i = l
  induction l with
  | nil => rfl
  | cons x l ih =>
    rw [List.filter_cons, List.filter_cons, List.filter_cons]
    simp only [decide_eq_true_eq, yala] at ih ⊢
    by_cases h1 : up k x = 2 * v
    · rw [if_pos (by omega), if_pos h1, if_neg (by omega), List.length_cons, List.length_cons, ih]; omega
    · rw [if_neg h1]
      by_cases h2 : up k x = 2 * v + 1
      · rw [if_pos (by omega), if_pos h2, List.length_cons, List.length_cons, ih]; omega
      · rw [if_neg (by omega), if_neg h2, ih]
theorem yaot (xs : List Int) (k : Nat) (v : Int) : lessU xs k (2 * v) = lessU xs (k + 1) v := by
  unfold lessU
  congr 1
  refine List.filter_congr fun x _ => ?_
  rw [Bool.eq_iff_iff, decide_eq_true_iff, decide_eq_true_iff, yala]
  omega
theorem yarn (xs : List Int) (k : Nat) (v : Int) : lessU xs k (2 * v + 1) = lessU xs (k + 1) v + cntU xs k (2 * v) xs.length := by
  rw [← yaot]
  unfold lessU cntU
  rw [List.take_length]
  induction xs with
  | nil => rfl
  | cons x l ih =>
    rw [List.filter_cons, List.filter_cons, List.filter_cons]
    simp only [decide_eq_true_eq]
    rcases Int.lt_trichotomy (up k x) (2 * v) with h | h | h
    · rw [if_pos (by omega), if_pos h, if_neg (by omega), List.length_cons, List.length_cons, ih]; omega
    · rw [if_pos (by omega), if_neg (by omega), if_pos h, List.length_cons, List.length_cons, ih]; omega
    · rw [if_neg (by omega), if_neg (by omega), if_neg (by omega), ih]
theorem yafr {xs : List Int} {k : Nat} {v : Int} {i j : Nat} (h : i ≤ j) : cntU xs k v i ≤ cntU xs k v j := by
  unfold cntU
  refine List.Sublist.length_le (List.Sublist.filter _ ?_)
  exact List.take_sublist_take_left h
theorem yazq {xs : List Int} {k : Nat} {v : Int} : lessU xs k v + cntU xs k v xs.length ≤ xs.length := by
  unfold lessU cntU
  rw [List.take_length]
  induction xs with
  | nil => simp
  | cons x l ih =>
    rw [List.filter_cons, List.filter_cons]
    simp only [decide_eq_true_eq]
    rcases Int.lt_trichotomy (up k x) v with h | h | h
    · rw [if_pos h, if_neg (by omega), List.length_cons, List.length_cons]; omega
    · rw [if_neg (by omega), if_pos h, List.length_cons, List.length_cons]; omega
    · rw [if_neg (by omega), if_neg (by omega), List.length_cons]; omega
end Go.Sx
namespace Go.Proofs.YtbhofnaipkkbeaaGreatDoor
open Go Go.Sx
abbrev TI : Ty Int := tI 3
abbrev ptr (b : Nat) : Value := .pointer (some ⟨b, 0, none⟩)
theorem yamy {P : Program} {F : Nat → Bool} {g : Nat} {args : Array Value} {h : Hp} {K : VK} (hF : F g = true) (hc : yaak P g args h K) : callX P F g args h K := by
  unfold callX; rw [hF]; exact hc
abbrev tV : Ty Addr := ⟨108, 1, fun a => [.pointer (some a)], ⟨0, 0, none⟩, fun _ => rfl, by decide, fun _ v hv => by simp at hv; subst hv; rfl⟩
structure WT (h : Hp) (tb : Nat) (xs : List Int) (sg : Int) (H : Nat) : Prop where
  cn : cell h ⟨tb, 0, none⟩ = some (.int .i64 (xs.length : Int))
  cs : cell h ((⟨tb, 0, none⟩ : Addr).add 1) = some (.int .i64 sg)
  ch : cell h ((⟨tb, 0, none⟩ : Addr).add 2) = some (.int .i64 (H : Int))
  lv : ∃ p c bs, cell h ((⟨tb, 0, none⟩ : Addr).add 3) = some (.slice p H c) ∧ RdT tV h p H bs ∧ ∀ d, d < H → ∃ l, LvP xs (H - d) l ∧ Vec h (bs.getD d tV.d) (l.map (bitU (H - 1 - d)))
  len : xs.length ≤ 4096
  val : ∀ x ∈ xs, 0 ≤ x ∧ x < sg
  sg1 : 1 ≤ sg
  sgH : sg ≤ 2 ^ H
  hH : H ≤ 10
theorem WT.ext {h h' : Hp} {tb : Nat} {xs : List Int} {sg : Int} {H : Nat} (t : WT h tb xs sg H) (e : Ext h h') : WT h' tb xs sg H where
  cn := e.cell t.cn
  cs := e.cell t.cs
  ch := e.cell t.ch
  lv := by obtain ⟨p, c, bs, h1, h2, h3⟩ := t.lv; exact ⟨p, c, bs, e.cell h1, h2.ext e, fun d hd => by obtain ⟨l, k1, k2⟩ := h3 d hd; exact ⟨l, k1, k2.ext e⟩⟩
  len := t.len
  val := t.val
  sg1 := t.sg1
  sgH := t.sgH
  hH := t.hH
theorem yaum (k : Nat) (l : List Int) (i : Nat) : cntB (l.map (bitU k)) true i = onesU k l i := by
  unfold cntB onesU
  rw [← List.map_take, List.filter_map, List.length_map]
  congr 1
  refine List.filter_congr fun x _ => ?_
  simp
theorem yage (k : Nat) (l : List Int) (i : Nat) : onesU k l i ≤ i := by
  unfold onesU
  refine Nat.le_trans (List.length_filter_le _ _) ?_
  rw [List.length_take]; omega
theorem ybal {h : Hp} {tb : Nat} {xs : List Int} {sg : Int} {H k : Nat} (t : WT h tb xs sg H) (hk : k < H) : ∃ l, LvP xs (k + 1) l ∧ ∀ (h' : Hp) (i : Nat) (d : Int), d = (H : Int) - k - 1 → Ext h h' → i ≤ xs.length →
    yaak Tryz.prog 111 #[ptr tb, .int .i64 d, .int .i64 (i : Int)] h' (fun v h'' => v = .int .i64 (onesU k l i : Nat) ∧ h'' = h') := by
  obtain ⟨p, c, bs, h1, h2, h3⟩ := t.lv
  obtain ⟨l, hl, hv⟩ := h3 (H - 1 - k) (by omega)
  have e1 : H - (H - 1 - k) = k + 1 := by omega
  have e2 : H - 1 - (H - 1 - k) = k := by omega
  rw [e1] at hl
  rw [e2] at hv
  refine ⟨l, hl, fun h' i d hd x hi => ?_⟩
  have hll := hl.perm.length_eq
  refine zdd_call ?_
  rw [zdd_b0]
  refine ⟨_, _, _, x.cell h1, ?_⟩
  refine (h2.ext x).idx (by omega) (by omega) fun ad _ hcl => ⟨_, hcl 0 Nat.one_pos, ?_⟩
  have ed : d.toNat = H - 1 - k := by omega
  rw [ed]
  refine (ybcd (hv.ext x) true (i : Int)).mono fun v h'' ⟨hv', hh⟩ => ?_
  rw [List.length_map, if_pos (by omega), Int.toNat_natCast, yaum] at hv'
  exact ⟨_, _, hv', rfl, hh⟩
abbrev ndC (xs : List Int) (H k v a b : Nat) : List Value := [.int .i64 ((H : Int) - k), .int .i64 (lessU xs k v : Nat), .int .i64 ((lessU xs k v : Nat) + (cntU xs k v xs.length : Nat) : Int), .int .i64 ((lessU xs k v : Nat) + (cntU xs k v a : Nat) : Int), .int .i64 ((lessU xs k v : Nat) + (cntU xs k v b : Nat) : Int), .int .i64 (v : Int)]
abbrev ndV (xs : List Int) (H k v a b : Nat) : Value := .agg (ndC xs H k v a b).toArray
theorem yaup {h : Hp} {tb : Nat} {xs : List Int} {sg : Int} {H : Nat} (t : WT h tb xs sg H) (a b : Int) :
    yaak Tryz.prog 47 #[ptr tb, .int .i64 a, .int .i64 b] h (fun v h' => v = .bool (decide (0 ≤ a ∧ a ≤ b ∧ b ≤ xs.length)) ∧ h' = h) := by
  refine zde_call ?_
  rw [zde_b0]
  refine condP (fun h1 => condP (fun h2 => ⟨_, t.cn, ?_, rfl⟩) (fun h2 => ⟨?_, rfl⟩)) (fun h1 => ⟨?_, rfl⟩)
  · congr 1
    by_cases h3 : b ≤ (xs.length : Int)
    · rw [decide_eq_true h3, decide_eq_true ⟨h1, h2, h3⟩]
    · rw [decide_eq_false h3, decide_eq_false (fun h4 => h3 h4.2.2)]
  · rw [decide_eq_false (fun h4 => h2 h4.2.1)]
  · rw [decide_eq_false (fun h4 => h1 h4.1)]
theorem ybby {h : Hp} {tb : Nat} {xs : List Int} {sg : Int} {H : Nat} (t : WT h tb xs sg H) (a b : Nat) (ha : a ≤ xs.length) (hb : b ≤ xs.length) :
    yaak Tryz.prog 82 #[ptr tb, .int .i64 (a : Int), .int .i64 (b : Int)] h (fun v h' => v = ndV xs H H 0 a b ∧ Ext h h') := by
  have top : ∀ x ∈ xs, up H x = 0 := fun x hx => yawk (t.val x hx).1 (by have := (t.val x hx).2; have := t.sgH; omega)
  have e0 : lessU xs H ((0 : Nat) : Int) = 0 := by
    unfold lessU
    rw [List.length_eq_zero_iff, List.filter_eq_nil_iff]
    intro x hx
    rw [top x hx]; simp
  have ec : ∀ i, i ≤ xs.length → cntU xs H ((0 : Nat) : Int) i = i := by
    intro i hi
    unfold cntU
    have : (xs.take i).filter (fun x => decide (up H x = ((0 : Nat) : Int))) = xs.take i := by
      rw [List.filter_eq_self]
      intro x hx
      rw [top x (List.mem_of_mem_take hx)]; simp
    rw [this, List.length_take]; omega
  have et : ndV xs H H 0 a b = .agg #[.int .i64 0, .int .i64 0, .int .i64 (xs.length : Int), .int .i64 (a : Int), .int .i64 (b : Int), .int .i64 0] := by
    show Value.agg (ndC xs H H 0 a b).toArray = _
    unfold ndC
    rw [e0, ec _ (Nat.le_refl _), ec a ha, ec b hb]
    simp
  rw [et]
  refine zdi_call ?_
  rw [zdi_b0]
  have s := St.start h
  refine s.new (cs := [_, _, _, _, _, _]) fun b1 h1 _ s => ?_
  refine ⟨_, s.ext.cell t.cn, ?_⟩
  repeat' first
    | with_reducible refine s.wrB fun _ s => ?_
    | with_reducible refine s.wr0 fun _ s => ?_
  exact ⟨_, _, _, _, _, _, s.ld0, s.ldB, s.ldB, s.ldB, s.ldB, s.ldB, rfl, s.ext⟩
end Go.Proofs.YtbhofnaipkkbeaaGreatDoor
set_option maxHeartbeats 4000000
namespace Go.Proofs.YtbhofnaipkkbeaaGreatDoor
open Go Go.Sx
section
variable {h h' : Hp} {tb b1 b2 b5 b6 k H n base lo : Nat} {l : List Int}
  (hc : ∀ (h' : Hp) (i : Nat) (d : Int), d = (H : Int) - k - 1 → Ext h h' → i ≤ n → yaak Tryz.prog 111 #[ptr tb, .int .i64 d, .int .i64 (i : Int)] h' (fun v h'' => v = .int .i64 (onesU k l i : Nat) ∧ h'' = h'))
  (hn : n ≤ 4096)
include hc hn
theorem yajt (x : Ext h h') (e1 : cell h' ⟨b1, 0, none⟩ = some (ptr tb)) (e2 : cell h' ⟨b2, 0, none⟩ = some (.int .i64 ((H : Int) - (k + 1 : Nat)))) (e5 : cell h' ⟨b5, 0, none⟩ = some (.int .i64 (base : Int))) (hb : base ≤ 4096) (i : Int) (i' : Nat) (hi : i = (i' : Int)) (hin : i' ≤ n) :
    yaak Tryz.prog 112 #[.int .i64 i, ptr b1, ptr b2, ptr b5] h' (fun v h'' => v = .int .i64 ((onesU k l i' : Nat) - (base : Int)) ∧ h'' = h') := by
  subst hi
  have := yage k l i'
  refine zdb_call ?_
  rw [zdb_b0]
  exact ⟨_, e1, _, e2, _, hc h' i' _ (by omega) x hin, _, e5, ⟨by omega, by omega⟩, rfl, rfl⟩
theorem yaoj (x : Ext h h') (e1 : cell h' ⟨b1, 0, none⟩ = some (ptr tb)) (e2 : cell h' ⟨b2, 0, none⟩ = some (.int .i64 ((H : Int) - (k + 1 : Nat)))) (e5 : cell h' ⟨b5, 0, none⟩ = some (.int .i64 (base : Int))) (hb : base ≤ 4096)
    (e3 : cell h' ((⟨b2, 0, none⟩ : Addr).add 1) = some (.int .i64 (lo : Int))) (hlo : lo ≤ 4096) (e6 : cell h' ⟨b6, 0, none⟩ = some (.func (.func 112) #[] #[ptr b1, ptr b2, ptr b5])) (i : Int) (i' : Nat) (hi : i = (i' : Int)) (hin : i' ≤ n) :
    yaak Tryz.prog 113 #[.int .i64 i, ptr b2, ptr b6] h' (fun v h'' => v = .int .i64 ((i' : Int) - lo - ((onesU k l i' : Nat) - (base : Int))) ∧ h'' = h') := by
  have := yage k l i'
  refine zdc_call ?_
  rw [zdc_b0]
  refine ⟨_, e3, ⟨by omega, by omega⟩, _, e6, yafg (by kernel_rfl) ((yajt hc hn x e1 e2 e5 hb i i' hi hin).mono fun v h'' ⟨hv, hh⟩ => ⟨_, hv, ?_⟩)⟩
  subst hh
  exact ⟨yacu e3, ⟨by omega, by omega⟩, by rw [hi], rfl⟩
end
theorem yaqa {h : Hp} {tb : Nat} {xs : List Int} {sg : Int} {H k : Nat} (t : WT h tb xs sg H) (hk : k < H) (v a b : Nat) (hv : v ≤ 1024) (ha : a ≤ xs.length) (hb : b ≤ xs.length) :
    yaak Tryz.prog 81 #[ptr tb, ndV xs H (k + 1) v a b] h (fun r h' => r = .tuple #[ndV xs H k (2 * v) a b, ndV xs H k (2 * v + 1) a b] ∧ Ext h h') := by
  obtain ⟨l, hl, hc⟩ := ybal t hk
  have hn := t.len
  have hH := t.hH
  have hle : ∀ i, i ≤ xs.length → lessU xs (k + 1) v + cntU xs (k + 1) v i ≤ xs.length := fun i hi => by
    have h1 := yazq (xs := xs) (k := k + 1) (v := v)
    have h2 := yafr (xs := xs) (k := k + 1) (v := v) hi
    omega
  have hna := hle a ha
  have hnb := hle b hb
  have hnn := hle _ (Nat.le_refl _)
  have oa := yanl hl v a
  have ob := yanl hl v b
  have on := yanl hl v xs.length
  have ca := yamh xs k v a
  have cb := yamh xs k v b
  have cn := yamh xs k v xs.length
  have ll := yaot xs k v
  have lr := yarn xs k v
  have ev0 : ((2 * v : Nat) : Int) = 2 * (v : Int) := by push_cast; rfl
  have ev1 : ((2 * v + 1 : Nat) : Int) = 2 * (v : Int) + 1 := by push_cast; rfl
  have fin : ∀ {A B C D E G A' B' C' D' E' G' : Int}, A = (H : Int) - k → B = (lessU xs k (2 * v : Nat) : Nat) → C = (lessU xs k (2 * v : Nat) : Nat) + (cntU xs k (2 * v : Nat) xs.length : Nat) → D = (lessU xs k (2 * v : Nat) : Nat) + (cntU xs k (2 * v : Nat) a : Nat) → E = (lessU xs k (2 * v : Nat) : Nat) + (cntU xs k (2 * v : Nat) b : Nat) → G = (2 * v : Nat) →
      A' = (H : Int) - k → B' = (lessU xs k (2 * v + 1 : Nat) : Nat) → C' = (lessU xs k (2 * v + 1 : Nat) : Nat) + (cntU xs k (2 * v + 1 : Nat) xs.length : Nat) → D' = (lessU xs k (2 * v + 1 : Nat) : Nat) + (cntU xs k (2 * v + 1 : Nat) a : Nat) → E' = (lessU xs k (2 * v + 1 : Nat) : Nat) + (cntU xs k (2 * v + 1 : Nat) b : Nat) → G' = (2 * v + 1 : Nat) →
      (.tuple #[.agg #[.int .i64 A, .int .i64 B, .int .i64 C, .int .i64 D, .int .i64 E, .int .i64 G], .agg #[.int .i64 A', .int .i64 B', .int .i64 C', .int .i64 D', .int .i64 E', .int .i64 G']] : Value) = .tuple #[ndV xs H k (2 * v) a b, ndV xs H k (2 * v + 1) a b] := by
    intro A B C D E G A' B' C' D' E' G' h1 h2 h3 h4 h5 h6 h7 h8 h9 h10 h11 h12
    subst h1 h2 h3 h4 h5 h6 h7 h8 h9 h10 h11 h12
    rfl
  rw [ev0, ev1] at fin
  generalize hL : lessU xs (k + 1) v = L at *
  generalize hA : cntU xs (k + 1) v a = Ca at *
  generalize hB : cntU xs (k + 1) v b = Cb at *
  generalize hN : cntU xs (k + 1) v xs.length = Cn at *
  have oL := yage k l L
  have oA := yage k l (L + Ca)
  have oB := yage k l (L + Cb)
  have oN := yage k l (L + Cn)
  refine zda_call ?_
  rw [zda_b0, hL, hA, hB, hN]
  have s := St.start h
  refine s.new (cs := [_]) fun b1 _ _ s => ?_
  refine s.new (cs := [_, _, _, _, _, _]) fun b2 _ _ s => ?_
  refine s.new (cs := [_, _, _, _, _, _]) fun b3 _ _ s => ?_
  refine s.new (cs := [_, _, _, _, _, _]) fun b4 _ _ s => ?_
  refine ⟨_, s.ld0, _, s.ld0, _, s.ldB, ?_⟩
  refine (hc _ L _ (by omega) s.ext (by omega)).mono fun r h5 ⟨hr, hh⟩ => ⟨_, hr, ?_⟩
  subst hh
  refine s.new (cs := [_]) fun b5 _ _ s => ?_
  refine s.wr0 fun _ s => ?_
  refine s.new (cs := [_]) fun b6 _ _ s => ?_
  refine s.wr0 fun _ s => ?_
  refine ⟨_, s.ldB, _, s.ld0, _, s.ldB, ?_⟩
  refine yafg (by kernel_rfl) ((yajt (b1 := b1) (b2 := b2) (b5 := b5) (base := onesU k l L) hc hn s.ext s.ld0 s.ld0 s.ld0 (by omega) _ (L + Cn) (by push_cast; rfl) (by omega)).mono fun r h6 ⟨hr, hh⟩ => ⟨_, hr, ?_⟩)
  subst hh
  refine ⟨yacu s.ldB, ⟨by omega, by omega⟩, _, s.ld0, ⟨by omega, by omega⟩, _, s.ldB, _, s.ldB, _, s.ldB, _, s.ldB, _, s.ldB, _, s.ldB, ⟨by omega, by omega⟩, ?_⟩
  repeat' first
    | with_reducible refine ⟨yacu s.ldB, ?_⟩
    | with_reducible refine ⟨yacu s.ld0, ?_⟩
    | with_reducible refine ⟨yaoi s.ld0, ?_⟩
    | with_reducible refine s.new (cs := [_, _, _, _, _, _]) fun _ _ _ s => ?_
    | with_reducible refine s.wrB fun _ s => ?_
    | with_reducible refine s.wr0 fun _ s => ?_
    | ((with_reducible refine yaak.mono (yaoj (b1 := b1) (b2 := b2) (b5 := b5) (b6 := b6) (base := onesU k l L) (lo := L) hc hn s.ext s.ld0 s.ld0 s.ld0 (by omega) s.ldB (by omega) s.ld0 _ (L + Ca) (by omega) (by omega)) ?_); rintro _ _ ⟨hr, hh⟩; subst hh; refine ⟨_, hr, ?_⟩)
    | ((with_reducible refine yaak.mono (yaoj (b1 := b1) (b2 := b2) (b5 := b5) (b6 := b6) (base := onesU k l L) (lo := L) hc hn s.ext s.ld0 s.ld0 s.ld0 (by omega) s.ldB (by omega) s.ld0 _ (L + Cb) (by omega) (by omega)) ?_); rintro _ _ ⟨hr, hh⟩; subst hh; refine ⟨_, hr, ?_⟩)
    | ((refine yafg (by kernel_rfl) (yaak.mono (yajt (b1 := b1) (b2 := b2) (b5 := b5) (base := onesU k l L) hc hn s.ext s.ld0 s.ld0 s.ld0 (by omega) ((L : Int) + Ca) (L + Ca) (by omega) (by omega)) ?_)); rintro _ _ ⟨hr, hh⟩; subst hh; refine ⟨_, hr, ?_⟩)
    | ((refine yafg (by kernel_rfl) (yaak.mono (yajt (b1 := b1) (b2 := b2) (b5 := b5) (base := onesU k l L) hc hn s.ext s.ld0 s.ld0 s.ld0 (by omega) ((L : Int) + Cb) (L + Cb) (by omega) (by omega)) ?_)); rintro _ _ ⟨hr, hh⟩; subst hh; refine ⟨_, hr, ?_⟩)
    | with_reducible refine ⟨_, _, _, _, _, _, s.ld0, s.ldB, s.ldB, s.ldB, s.ldB, s.ldB, ?_⟩
    | with_reducible refine ⟨⟨_, _, _, _, _, _, s.ld0, s.ldB, s.ldB, s.ldB, s.ldB, s.ldB, rfl⟩, ?_⟩
    | with_reducible refine ⟨_, s.ldB, ?_⟩
    | with_reducible refine ⟨_, s.ld0, ?_⟩
    | (rw [zda_b1])
    | (rw [zda_b2])
    | with_reducible refine ⟨(⟨by omega, by omega⟩ : InR _), ?_⟩
    | (with_reducible refine ⟨fin ?_ ?_ ?_ ?_ ?_ ?_ ?_ ?_ ?_ ?_ ?_ ?_, s.ext⟩ <;> omega)
    | with_reducible refine ⟨rfl, ?_⟩
    | with_reducible refine ⟨?_, ?_⟩
    | fail
end Go.Proofs.YtbhofnaipkkbeaaGreatDoor
namespace Go.Sx
def rng {α : Type} (xs : List α) (a b : Nat) : List α := (xs.take b).drop a
theorem yayt {α : Type} (xs : List α) {a b : Nat} (h : a ≤ b) : xs.take b = xs.take a ++ rng xs a b := by
  unfold rng
  conv => lhs; rw [← List.take_append_drop a (xs.take b)]
  rw [List.take_take, Nat.min_eq_left h]
theorem ybdp {α : Type} (xs : List α) {a b : Nat} (hb : b ≤ xs.length) : (rng xs a b).length = b - a := by
  unfold rng; rw [List.length_drop, List.length_take, Nat.min_eq_left hb]
theorem yaxz {α : Type} {xs : List α} {a b : Nat} {x : α} (h : x ∈ rng xs a b) : x ∈ xs := List.mem_of_mem_take (List.mem_of_mem_drop h)
def cR (R : List Int) (k : Nat) (v : Int) : Nat := (R.filter fun x => decide (up k x = v)).length
theorem yaxj (xs : List Int) (k : Nat) (v : Int) {a b : Nat} (h : a ≤ b) : cntU xs k v b = cntU xs k v a + cR (rng xs a b) k v := by
  unfold cntU cR
  rw [yayt xs h, List.filter_append, List.length_append]
theorem ybhn {R : List Int} {x : Int} : 0 < cR R 0 x ↔ x ∈ R := by
  unfold cR
  rw [List.length_pos_iff_exists_mem]
  constructor
  · rintro ⟨y, hy⟩
    obtain ⟨h1, h2⟩ := List.mem_filter.1 hy
    have : y = x := by simpa [yaoo] using h2
    rw [← this]; exact h1
  · exact fun h => ⟨x, List.mem_filter.2 ⟨h, by simp [yaoo]⟩⟩
end Go.Sx
namespace Go.Proofs.YtbhofnaipkkbeaaGreatDoor
open Go Go.Sx
def lvs (xs : List Int) (a b : Nat) (low high : Int) : Nat → Nat → List Nat
  | 0, v => if cntU xs 0 v a = cntU xs 0 v b ∨ (v : Int) < low ∨ high < v then [] else [v]
  | k + 1, v => lvs xs a b low high k (2 * v) ++ lvs xs a b low high k (2 * v + 1)
theorem yaid {xs : List Int} {a b : Nat} {low high : Int} (hab : a ≤ b) : ∀ (k v : Nat), (cntU xs k v a = cntU xs k v b ∨ ((v * 2 ^ k + 2 ^ k - 1 : Nat) : Int) < low ∨ high < ((v * 2 ^ k : Nat) : Int)) → lvs xs a b low high k v = []
  | 0, v, h => by
    unfold lvs
    rw [if_pos]
    rw [Nat.pow_zero, Nat.mul_one, Nat.add_sub_cancel] at h
    exact h
  | k + 1, v, h => by
    have ca := yamh xs k v a
    have cb := yamh xs k v b
    have m1 := yafr (xs := xs) (k := k) (v := 2 * (v : Int)) hab
    have m2 := yafr (xs := xs) (k := k) (v := 2 * (v : Int) + 1) hab
    have ev0 : ((2 * v : Nat) : Int) = 2 * (v : Int) := by push_cast; rfl
    have ev1 : ((2 * v + 1 : Nat) : Int) = 2 * (v : Int) + 1 := by push_cast; rfl
    have p := Nat.two_pow_pos k
    rw [Nat.pow_succ, show v * (2 ^ k * 2) = 2 * v * 2 ^ k by rw [Nat.mul_comm (2 ^ k) 2, ← Nat.mul_assoc, Nat.mul_comm v 2]] at h
    have e1 : (2 * v + 1) * 2 ^ k = 2 * v * 2 ^ k + 2 ^ k := by rw [Nat.add_mul, Nat.one_mul]
    unfold lvs
    rw [yaid hab k (2 * v) (by rw [ev0]; omega), yaid hab k (2 * v + 1) (by rw [ev1, e1]; omega)]
    rfl
theorem ybej {P : Program} {F : Nat → Bool} {l : Nat} {args : List Value} {h : Hp} {K : VK} (hc : yaix P l args.toArray h K) : yanb P F (.func (.yield l) #[] #[]) args h K := hc
theorem yayb {P : Program} {F : Nat → Bool} {g : Nat} {first cap : Array Value} {args : List Value} {args' : Array Value} {h : Hp} {K : VK} (hF : F g = true) (hc : yaak P g args' h K) (ha : (first.toList ++ (args ++ cap.toList)).toArray = args' := by with_unfolding_all exact rfl) :
    yanb P F (.func (.func g) first cap) args h K := by
  show callX P F g (first.toList ++ (args ++ cap.toList)).toArray h K
  unfold callX; rw [hF, ha]; exact hc
section
variable {h0 : Hp} {tb : Nat} {xs : List Int} {sg : Int} {H : Nat} (t : WT h0 tb xs sg H) {a b : Nat} (hab : a ≤ b) (hb : b ≤ xs.length) {low high : Int} {l : Nat} {VS : List Nat} {J : Nat → Bag → Prop} {Jx : Bag → Prop}
  (Y : Yld Tryz.prog h0 l (VS.map fun u => ndV xs H 0 u a b) J Jx) {b1 b2 b3 b4 b5 : Nat}
abbrev visA (tb : Nat) (low high : Int) (l b1 b2 b3 b4 b5 : Nat) : Bag := cA b1 [ptr tb] 44 + (cA b2 [.int .i64 low] 3 + (cA b3 [.int .i64 high] 3 + (cA b4 [.func (.yield l) #[] #[]] 169 + cA b5 [.func (.func 80) #[] #[ptr b1, ptr b2, ptr b3, ptr b4, ptr b5]] 169)))
include t hab hb Y
theorem yazx : ∀ (k v : Nat) (pre post : List Nat) (h : Hp) (A F0 : Bag), k ≤ H → v < 2 ^ (H - k) → VS = pre ++ (lvs xs a b low high k v ++ post) → J pre.length A → St h0 h (A + (visA tb low high l b1 b2 b3 b4 b5 + F0)) →
    yaak Tryz.prog 80 #[ndV xs H k v a b, ptr b1, ptr b2, ptr b3, ptr b4, ptr b5] h fun r h' => (r = .bool true ∧ ∃ A', J (pre.length + (lvs xs a b low high k v).length) A' ∧ St h0 h' (A' + (visA tb low high l b1 b2 b3 b4 b5 + F0))) ∨ (r = .bool false ∧ ∃ A', Jx A' ∧ St h0 h' (A' + (visA tb low high l b1 b2 b3 b4 b5 + F0))) := by
  intro k
  induction k with
  | zero =>
    intro v pre post h A F0 hk hv hVS hJ s
    have hH := t.hH
    have hn := t.len
    have h10 : (2 : Nat) ^ (H - 0) ≤ 1024 := Nat.pow_le_pow_right (by decide : 0 < 2) (by omega : H - 0 ≤ 10)
    have m1 := yafr (xs := xs) (k := 0) (v := (v : Int)) hab
    refine zdh_call ?_
    rw [zdh_b0]
    refine s.new (cs := ndC xs H 0 v a b) fun bx h1 _ s => ?_
    have noneV : lvs xs a b low high 0 v = [] → (Value.bool true = .bool true ∧ ∃ A', J (pre.length + (lvs xs a b low high 0 v).length) A' ∧ St h0 h1 (A' + (visA tb low high l b1 b2 b3 b4 b5 + F0))) ∨ (Value.bool true = .bool false ∧ ∃ A', Jx A' ∧ St h0 h1 (A' + (visA tb low high l b1 b2 b3 b4 b5 + F0))) :=
      fun he => .inl ⟨rfl, A, by rw [he]; exact hJ, s.drop⟩
    have e0 : ((H : Int) - ((H : Int) - ((0 : Nat) : Int))) = ((0 : Nat) : Int) := by omega
    refine ⟨some ⟨tb, 0, none⟩, s.ld0, _, s.ext.cell t.ch, _, s.ld0, ?_⟩
    rw [e0]
    refine ⟨⟨by omega, by omega⟩, _, s.ldB, ?_⟩
    refine yacw (x := v) (s := 0) rfl rfl (by decide) (by rw [yabn _ ⟨by omega, by omega⟩]) ⟨_, s.ldB, ?_⟩
    refine yacw (x := v) (s := 0) rfl rfl (by decide) (by rw [yabn _ ⟨by omega, by omega⟩]) ?_
    refine yacw (x := 1) (s := 0) rfl rfl (by decide) (by rw [yabn _ ⟨by omega, by omega⟩]) ?_
    rw [Nat.pow_zero, Nat.mul_one]
    refine ⟨⟨by omega, by omega⟩, ⟨by omega, by omega⟩, _, s.ldB, _, s.ldB, condP (fun h2 => noneV ?_) (fun h2 => ⟨_, s.ld0, condP (fun h3 => noneV ?_) (fun h3 => ⟨_, s.ld0, condP (fun h4 => noneV ?_) (fun h4 => ?_)⟩)⟩)⟩
    · unfold lvs; rw [if_pos (.inl (by omega))]
    · unfold lvs; rw [if_pos (.inr (.inl (by omega)))]
    · unfold lvs; rw [if_pos (.inr (.inr (by omega)))]
    · have he : lvs xs a b low high 0 v = [v] := by unfold lvs; rw [if_neg]; omega
      rw [he] at hVS ⊢
      rw [zdh_b1]
      refine ⟨_, s.ld0, some ⟨tb, 0, none⟩, s.ld0, _, s.ext.cell t.ch, yacv (decide_eq_true (by omega)) ⟨_, s.ld0, s.ld6 ?_⟩⟩
      have y := Y pre.length A _ _ (by rw [hVS]; simp) hJ (s.to (B := A + (cA bx (ndC xs H 0 v a b) 117 + (visA tb low high l b1 b2 b3 b4 b5 + F0))))
      have eg : (VS.map fun u => ndV xs H 0 u a b).getD pre.length .nilFunc = ndV xs H 0 v a b := by
        rw [hVS]; simp [List.getD]
      rw [eg] at y
      refine ybej (y.mono fun r h2 hr => ?_)
      rcases hr with ⟨rfl, A', hJ', s'⟩ | ⟨rfl, A', hJ', s'⟩
      · exact ⟨_, rfl, .inl ⟨rfl, A', hJ', (s'.to (B := cA bx (ndC xs H 0 v a b) 117 + (A' + (visA tb low high l b1 b2 b3 b4 b5 + F0)))).drop⟩⟩
      · exact ⟨_, rfl, .inr ⟨rfl, A', hJ', (s'.to (B := cA bx (ndC xs H 0 v a b) 117 + (A' + (visA tb low high l b1 b2 b3 b4 b5 + F0)))).drop⟩⟩
  | succ k ih =>
    intro v pre post h A F0 hk hv hVS hJ s
    have hH := t.hH
    have hn := t.len
    have h10 : (2 : Nat) ^ H ≤ 1024 := Nat.pow_le_pow_right (by decide : 0 < 2) (by omega : H ≤ 10)
    have hpk : (2 : Nat) ^ (k + 1) ≤ 1024 := Nat.pow_le_pow_right (by decide : 0 < 2) (by omega : k + 1 ≤ 10)
    have hvk : v * 2 ^ (k + 1) + 2 ^ (k + 1) ≤ 1024 := by
      have h1 : (v + 1) * 2 ^ (k + 1) ≤ 2 ^ (H - (k + 1)) * 2 ^ (k + 1) := Nat.mul_le_mul_right _ hv
      rw [← Nat.pow_add, show H - (k + 1) + (k + 1) = H by omega, Nat.add_mul, Nat.one_mul] at h1
      omega
    have hp := Nat.two_pow_pos (k + 1)
    have h2k : 2 ^ (H - k) = 2 * 2 ^ (H - (k + 1)) := by rw [show H - k = H - (k + 1) + 1 by omega, Nat.pow_succ]; omega
    have hvb : v ≤ 1024 := by
      have : v * 1 ≤ v * 2 ^ (k + 1) := Nat.mul_le_mul_left _ hp
      omega
    have m1 := yafr (xs := xs) (k := k + 1) (v := (v : Int)) hab
    refine zdh_call ?_
    rw [zdh_b0]
    refine s.new (cs := ndC xs H (k + 1) v a b) fun bx h1 _ s => ?_
    have noneV : lvs xs a b low high (k + 1) v = [] → (Value.bool true = .bool true ∧ ∃ A', J (pre.length + (lvs xs a b low high (k + 1) v).length) A' ∧ St h0 h1 (A' + (visA tb low high l b1 b2 b3 b4 b5 + F0))) ∨ (Value.bool true = .bool false ∧ ∃ A', Jx A' ∧ St h0 h1 (A' + (visA tb low high l b1 b2 b3 b4 b5 + F0))) :=
      fun he => .inl ⟨rfl, A, by rw [he]; exact hJ, s.drop⟩
    have e0 : ((H : Int) - ((H : Int) - ((k + 1 : Nat) : Int))) = ((k + 1 : Nat) : Int) := by omega
    refine ⟨some ⟨tb, 0, none⟩, s.ld0, _, s.ext.cell t.ch, _, s.ld0, ?_⟩
    rw [e0]
    have w1 : ∀ m : Nat, m ≤ 2000 → IntKind.i64.wrap (m : Int) = (m : Int) := fun m hm => yabn _ ⟨by omega, by omega⟩
    refine ⟨⟨by omega, by omega⟩, _, s.ldB, ?_⟩
    refine yacw (x := v) (s := k + 1) rfl rfl (by show k + 1 ≤ 64; omega) (w1 _ (by omega)) ⟨_, s.ldB, ?_⟩
    refine yacw (x := v) (s := k + 1) rfl rfl (by show k + 1 ≤ 64; omega) (w1 _ (by omega)) ?_
    refine yacw (x := 1) (s := k + 1) rfl rfl (by show k + 1 ≤ 64; omega) (w1 _ (by omega)) ?_
    rw [Nat.one_mul]
    refine ⟨⟨by omega, by omega⟩, ⟨by omega, by omega⟩, _, s.ldB, _, s.ldB, condP (fun h2 => noneV (yaid hab _ _ (.inl (by omega)))) (fun h2 => ⟨_, s.ld0, condP (fun h3 => noneV (yaid hab _ _ (.inr (.inl (by omega))))) (fun h3 => ⟨_, s.ld0, condP (fun h4 => noneV (yaid hab _ _ (.inr (.inr (by omega))))) (fun h4 => ?_)⟩)⟩)⟩
    rw [zdh_b1]
    refine ⟨_, s.ld0, some ⟨tb, 0, none⟩, s.ld0, _, s.ext.cell t.ch, yabb (decide_eq_false (by omega)) ⟨_, s.ld0, s.ld6 ?_⟩⟩
    refine (yaqa (k := k) (t.ext s.ext) (by omega) v a b hvb (by omega) hb).mono fun r h5 ⟨hr, x5⟩ => ⟨_, _, _, _, _, _, _, _, _, _, _, _, hr, ?_⟩
    have s := s.grow x5
    refine s.new (cs := [_, _, _, _, _, _]) fun b6 _ _ s => ?_
    refine s.new (cs := [_, _, _, _, _, _]) fun b7 _ _ s => ?_
    refine s.wr6 fun _ s => s.wr6 fun _ s => ⟨_, s.ld0, s.ld6 ?_⟩
    have hl : lvs xs a b low high (k + 1) v = lvs xs a b low high k (2 * v) ++ lvs xs a b low high k (2 * v + 1) := rfl
    rw [hl] at hVS ⊢
    generalize hC : lvs xs a b low high k (2 * v) = C at *
    generalize hD : lvs xs a b low high k (2 * v + 1) = D at *
    have s := s.to (B := A + (visA tb low high l b1 b2 b3 b4 b5 + (cA bx (ndC xs H (k + 1) v a b) 117 + (cA b6 (ndC xs H k (2 * v) a b) 117 + (cA b7 (ndC xs H k (2 * v + 1) a b) 117 + F0)))))
    have fin : ∀ {A' : Bag} {h' : Hp}, St h0 h' (A' + (visA tb low high l b1 b2 b3 b4 b5 + (cA bx (ndC xs H (k + 1) v a b) 117 + (cA b6 (ndC xs H k (2 * v) a b) 117 + (cA b7 (ndC xs H k (2 * v + 1) a b) 117 + F0))))) → St h0 h' (A' + (visA tb low high l b1 b2 b3 b4 b5 + F0)) :=
      fun {A' h'} s' => (s'.to (B := (cA bx (ndC xs H (k + 1) v a b) 117 + (cA b6 (ndC xs H k (2 * v) a b) 117 + cA b7 (ndC xs H k (2 * v + 1) a b) 117)) + (A' + (visA tb low high l b1 b2 b3 b4 b5 + F0)))).drop
    refine yayb (by kernel_rfl) ((ih (2 * v) pre (D ++ post) _ A _ (by omega) (by omega) (by rw [hVS, hC]; simp) hJ s).mono fun r h6 hr => ?_)
    rw [hC] at hr
    rcases hr with ⟨rfl, A', hJ', s'⟩ | ⟨rfl, A', hJ', s'⟩
    · refine ⟨_, rfl, yacv rfl ⟨_, s'.ld0, s'.ld6 ?_⟩⟩
      have hJ2 : J (pre ++ C).length A' := by rw [List.length_append]; exact hJ'
      refine yayb (by kernel_rfl) ((ih (2 * v + 1) (pre ++ C) post _ A' _ (by omega) (by omega) (by rw [hVS, hD]; simp) hJ2 s').mono fun r h7 hr => ?_)
      rw [hD] at hr
      rcases hr with ⟨rfl, A2, hJ3, s2⟩ | ⟨rfl, A2, hJ3, s2⟩
      · exact ⟨_, rfl, .inl ⟨rfl, A2, by rw [List.length_append, ← Nat.add_assoc, ← List.length_append]; exact hJ3, fin s2⟩⟩
      · exact ⟨_, rfl, .inr ⟨rfl, A2, hJ3, fin s2⟩⟩
    · exact ⟨_, rfl, yabb rfl (.inr ⟨rfl, A', hJ', fin s'⟩)⟩
end
theorem yavk {h : Hp} (t : Nat) (a b low high : Int) :
    yaak Tryz.prog 48 #[ptr t, .int .i64 a, .int .i64 b, .int .i64 low, .int .i64 high] h fun v h' => ∃ b1 b2 b3 b4 b5, v = .func (.func 79) #[] #[ptr b1, ptr b4, ptr b5, ptr b2, ptr b3] ∧
      St h h' (cA b1 [ptr t] 44 + (cA b4 [.int .i64 low] 3 + (cA b5 [.int .i64 high] 3 + (cA b2 [.int .i64 a] 3 + cA b3 [.int .i64 b] 3)))) := by
  refine zdf_call ?_
  rw [zdf_b0]
  have s := St.start h
  refine s.new (cs := [_]) fun b1 _ _ s => s.new (cs := [_]) fun b2 _ _ s => s.new (cs := [_]) fun b3 _ _ s => s.new (cs := [_]) fun b4 _ _ s => s.new (cs := [_]) fun b5 _ _ s => ?_
  exact ⟨b1, b2, b3, b4, b5, rfl, s.to⟩
theorem yamu {h0 h : Hp} {tb : Nat} {xs : List Int} {sg : Int} {H : Nat} (t : WT h0 tb xs sg H) {a b : Nat} (hab : a ≤ b) (hb : b ≤ xs.length) {low high : Int} {l : Nat} {J : Nat → Bag → Prop} {Jx : Bag → Prop} {A F0 : Bag}
    (Y : Yld Tryz.prog h0 l ((lvs xs a b low high H 0).map fun u => ndV xs H 0 u a b) J Jx) {b1 b2 b3 b4 b5 : Nat} (hJ : J 0 A)
    (s : St h0 h (A + ((cA b1 [ptr tb] 44 + (cA b4 [.int .i64 low] 3 + (cA b5 [.int .i64 high] 3 + (cA b2 [.int .i64 (a : Int)] 3 + cA b3 [.int .i64 (b : Int)] 3)))) + F0))) :
    yaak Tryz.prog 79 #[.func (.yield l) #[] #[], ptr b1, ptr b4, ptr b5, ptr b2, ptr b3] h fun _ h' => ∃ A' G, (J (lvs xs a b low high H 0).length A' ∨ Jx A') ∧ St h0 h' (A' + (G + F0)) := by
  refine zdg_call ?_
  rw [zdg_b0]
  refine yawl rfl ?_
  refine s.new (cs := [_]) fun b6 h1 _ s => s.new (cs := [_]) fun b7 _ _ s => s.wr1 fun h3 s => ?_
  refine ⟨.func (.func 80) #[] #[ptr b1, ptr b4, ptr b5, ptr b6, ptr b7], s.ld0, some ⟨tb, 0, none⟩, s.ld0, _, s.ld0, _, s.ld0, ?_⟩
  refine (ybby (t.ext s.ext) a b (by omega) hb).mono fun r h4 ⟨hr, x4⟩ => ⟨_, _, _, _, _, _, hr, yaoi (x4.cell s.ld0), ?_⟩
  have s := s.grow x4
  have s : St h0 h4 (A + (visA tb low high l b1 b4 b5 b6 b7 + (cA b2 [.int .i64 (a : Int)] 3 + (cA b3 [.int .i64 (b : Int)] 3 + F0)))) := s.to (B := A + ((cA b1 [ptr tb] 44 + (cA b4 [.int .i64 low] 3 + (cA b5 [.int .i64 high] 3 + (cA b6 [.func (.yield l) #[] #[]] 169 + cA b7 [.func (.func 80) #[] #[ptr b1, ptr b4, ptr b5, ptr b6, ptr b7]] 169)))) + (cA b2 [.int .i64 (a : Int)] 3 + (cA b3 [.int .i64 (b : Int)] 3 + F0))))
  refine yafg (by kernel_rfl) ((yazx t hab hb Y H 0 [] [] h4 A _ (Nat.le_refl _) (by simp) (by simp) hJ s).mono fun r h5 hr => ?_)
  rcases hr with ⟨rfl, A', hJ', s'⟩ | ⟨rfl, A', hJ', s'⟩
  · exact ⟨_, rfl, A', visA tb low high l b1 b4 b5 b6 b7 + (cA b2 [.int .i64 (a : Int)] 3 + cA b3 [.int .i64 (b : Int)] 3), .inl (by simpa using hJ'), s'.to⟩
  · exact ⟨_, rfl, A', visA tb low high l b1 b4 b5 b6 b7 + (cA b2 [.int .i64 (a : Int)] 3 + cA b3 [.int .i64 (b : Int)] 3), .inr hJ', s'.to⟩
def inL (R : List Int) (low high : Int) : Nat := (R.filter fun x => decide (low ≤ x ∧ x ≤ high)).length
def inU (R : List Int) (low high : Int) (k : Nat) (v : Int) : Nat := (R.filter fun x => decide (up k x = v ∧ low ≤ x ∧ x ≤ high)).length
theorem ybee (R : List Int) (low high : Int) (k : Nat) (v : Int) : inU R low high (k + 1) v = inU R low high k (2 * v) + inU R low high k (2 * v + 1) := by
  unfold inU
  induction R with
  | nil => rfl
  | cons x l ih =>
    rw [List.filter_cons, List.filter_cons, List.filter_cons]
    simp only [decide_eq_true_eq, yala] at ih ⊢
    have c1 : (up k x / 2 = v ∧ low ≤ x ∧ x ≤ high) ↔ ((up k x = 2 * v ∧ low ≤ x ∧ x ≤ high) ∨ (up k x = 2 * v + 1 ∧ low ≤ x ∧ x ≤ high)) := by omega
    by_cases h1 : up k x = 2 * v ∧ low ≤ x ∧ x ≤ high
    · have h2 : ¬ (up k x = 2 * v + 1 ∧ low ≤ x ∧ x ≤ high) := by omega
      rw [if_pos (c1.2 (.inl h1)), if_pos h1, if_neg h2, List.length_cons, List.length_cons, ih]; omega
    · by_cases h2 : up k x = 2 * v + 1 ∧ low ≤ x ∧ x ≤ high
      · rw [if_pos (c1.2 (.inr h2)), if_neg h1, if_pos h2, List.length_cons, List.length_cons, ih]; omega
      · rw [if_neg (fun h => (c1.1 h).elim h1 h2), if_neg h1, if_neg h2, ih]
theorem yanz {xs : List Int} {a b : Nat} {low high : Int} (hab : a ≤ b) : ∀ (k v : Nat), ((lvs xs a b low high k v).map fun u : Nat => cR (rng xs a b) 0 u).sum = inU (rng xs a b) low high k v
  | 0, v => by
    have hc := yaxj xs 0 v hab
    unfold lvs
    split
    · rename_i h
      have : inU (rng xs a b) low high 0 v = 0 := by
        unfold inU
        rw [List.length_eq_zero_iff, List.filter_eq_nil_iff]
        intro x hx
        rw [decide_eq_true_iff, yaoo]
        rintro ⟨rfl, h1, h2⟩
        rcases h with h | h | h
        · have := ybhn.2 hx
          omega
        · omega
        · omega
      rw [this]; rfl
    · rename_i h
      have e : inU (rng xs a b) low high 0 v = cR (rng xs a b) 0 v := by
        unfold inU cR
        congr 1
        refine List.filter_congr fun x _ => ?_
        rw [Bool.eq_iff_iff, decide_eq_true_iff, decide_eq_true_iff, yaoo]
        constructor
        · exact fun h => h.1
        · rintro rfl; exact ⟨rfl, by omega, by omega⟩
      rw [e]; simp
  | k + 1, v => by
    unfold lvs
    rw [List.map_append, List.sum_append, yanz hab k (2 * v), yanz hab k (2 * v + 1), ybee]
    push_cast
    rfl
theorem ybcj {R : List Int} {low high : Int} {H : Nat} (h : ∀ x ∈ R, up H x = 0) : inU R low high H 0 = inL R low high := by
  unfold inU inL
  congr 1
  refine List.filter_congr fun x hx => ?_
  rw [Bool.eq_iff_iff, decide_eq_true_iff, decide_eq_true_iff]
  exact ⟨fun h => h.2, fun h2 => ⟨h x hx, h2⟩⟩
theorem WT.top {h : Hp} {tb : Nat} {xs : List Int} {sg : Int} {H : Nat} (t : WT h tb xs sg H) {a b : Nat} : ∀ x ∈ rng xs a b, up H x = 0 := fun x hx => yawk (t.val x (yaxz hx)).1 (by have := (t.val x (yaxz hx)).2; have := t.sgH; omega)
theorem ybdc {h : Hp} {tb : Nat} {xs : List Int} {sg : Int} {H : Nat} (t : WT h tb xs sg H) (a b low high : Int) :
    yaak Tryz.prog 13 #[ptr tb, .int .i64 a, .int .i64 b, .int .i64 low, .int .i64 high] h (fun r h' => Ext h h' ∧ r = (if 0 ≤ a ∧ a ≤ b ∧ b ≤ xs.length then .tuple #[.int .i64 (inL (rng xs a.toNat b.toNat) low high : Nat), .int .i64 0] else .tuple #[.int .i64 0, .int .i64 2])) := by
  have hn := t.len
  refine zcz_call ?_
  rw [zcz_b0_eq]
  refine yabb rfl ((yaup t a b).mono fun r hx ⟨hr, hh⟩ => ⟨_, hr, ?_⟩)
  rw [hh]
  refine condN (fun h1 => ⟨.refl _, by rw [if_neg h1]⟩) (fun h1 => ?_)
  simp only [if_pos h1]
  obtain ⟨a, rfl⟩ := Int.eq_ofNat_of_zero_le (show 0 ≤ a by omega)
  obtain ⟨b, rfl⟩ := Int.eq_ofNat_of_zero_le (show 0 ≤ b by omega)
  simp only [Int.toNat_natCast]
  have hab : a ≤ b := by omega
  have hb : b ≤ xs.length := by omega
  have hsum : ∀ i, (((lvs xs a b low high H 0).take i).map fun u : Nat => cR (rng xs a b) 0 u).sum ≤ 4096 := by
    intro i
    have h2 := yanz (xs := xs) (low := low) (high := high) hab H 0
    have h3 : (((lvs xs a b low high H 0).take i).map fun u : Nat => cR (rng xs a b) 0 u).sum ≤ ((lvs xs a b low high H 0).map fun u : Nat => cR (rng xs a b) 0 u).sum := by
      conv => rhs; rw [← List.take_append_drop i (lvs xs a b low high H 0)]
      rw [List.map_append, List.sum_append]; omega
    have h4 : inU (rng xs a b) low high H ((0 : Nat) : Int) ≤ (rng xs a b).length := List.length_filter_le _ _
    have h5 := ybdp xs (a := a) hb
    omega
  have s := St.start h
  refine s.new (cs := [_]) fun bn _ _ s => s.wr1 fun h3 s => ?_
  refine (yavk tb a b low high).mono fun v h4 ⟨b1, b2, b3, b4, b5, hv, s4⟩ => ⟨_, rfl, 79, #[ptr b1, ptr b4, ptr b5, ptr b2, ptr b3], hv, by kernel_rfl, fun rec HR => ?_⟩
  have s := (s.join s4).range rec
  refine yaak.mono (K := fun _ h' => ∃ A' G, ((A' = lA rec (h4.size + 1) .ready none + (dA h4.size + cA bn [.int .i64 ((((lvs xs a b low high H 0).take (lvs xs a b low high H 0).length).map fun u : Nat => cR (rng xs a b) 0 u).sum : Nat)] 3)) ∨ False) ∧ St h h' (A' + (G + 0)))
    (yamu (F0 := 0) t hab hb (J := fun i A => A = lA rec (h4.size + 1) .ready none + (dA h4.size + cA bn [.int .i64 (((lvs xs a b low high H 0).take i).map fun u : Nat => cR (rng xs a b) 0 u).sum] 3)) (Jx := fun _ => False) ?_ rfl ?_) ?_
  · rintro i _ F h5 hi rfl s
    rw [List.length_map] at hi
    have eg : ((lvs xs a b low high H 0).map fun u => ndV xs H 0 u a b).getD i .nilFunc = ndV xs H 0 ((lvs xs a b low high H 0).getD i 0) a b := by simp [List.getD, hi]
    rw [eg]
    have hcr := yaxj xs 0 (((lvs xs a b low high H 0).getD i 0 : Nat) : Int) hab
    have hs1 := hsum (i + 1)
    have est : (((lvs xs a b low high H 0).take (i + 1)).map fun u : Nat => cR (rng xs a b) 0 u).sum = (((lvs xs a b low high H 0).take i).map fun u : Nat => cR (rng xs a b) 0 u).sum + cR (rng xs a b) 0 ((lvs xs a b low high H 0).getD i 0 : Nat) := by
      rw [List.take_succ_eq_append_getElem hi, List.map_append, List.sum_append]
      simp [List.getD, hi]
    refine HR _ _ _ _ _ _ h5 _ s.lpB ?_
    refine s.new (cs := [_, _, _, _, _, _]) fun bx h7 _ s => s.wr6 fun h8 s => ⟨s.lpB, ?_⟩
    have s := s.setLpB (rec := rec) (st := .ready) (pe := none) (st' := .busy) (pe' := none) (l := h4.size + 1)
    refine ⟨_, s.ld0, _, s.ldB, _, s.ldB, ⟨by omega, by omega⟩, ⟨by omega, by omega⟩, s.wr1 fun h9 s => ⟨s.lpB, .inl ⟨rfl, _, rfl, ?_⟩⟩⟩
    have s := s.setLpB (rec := rec) (st := .busy) (pe := none) (st' := .ready) (pe' := none) (l := h4.size + 1)
    have ev : ((((lvs xs a b low high H 0).take i).map fun u : Nat => cR (rng xs a b) 0 u).sum : Int) + ((lessU xs 0 ((lvs xs a b low high H 0).getD i 0 : Nat) : Nat) + (cntU xs 0 ((lvs xs a b low high H 0).getD i 0 : Nat) b : Nat) - ((lessU xs 0 ((lvs xs a b low high H 0).getD i 0 : Nat) : Nat) + (cntU xs 0 ((lvs xs a b low high H 0).getD i 0 : Nat) a : Nat)) : Int) = ((((lvs xs a b low high H 0).take (i + 1)).map fun u : Nat => cR (rng xs a b) 0 u).sum : Nat) := by
      rw [est]; omega
    rw [ev] at s
    exact (s.find bx).drop.to (B := (lA rec (h4.size + 1) .ready none + (dA h4.size + cA bn [.int .i64 ((((lvs xs a b low high H 0).take (i + 1)).map fun u : Nat => cR (rng xs a b) 0 u).sum : Nat)] 3)) + F)
  · have e0 : (((lvs xs a b low high H 0).take 0).map fun u : Nat => cR (rng xs a b) 0 u).sum = 0 := by simp
    rw [e0]
    exact s.to
  · rintro v h6 ⟨A', G, rfl | hf, s⟩
    · have s2 := s.setLpB (rec := rec) (st := .ready) (pe := none) (st' := .exhausted) (pe' := none) (l := h4.size + 1)
      refine ⟨.ready, none, s.lpB, by simp, .inl ⟨rfl, _, s2.ld0, s2.defB.1, s2.defB.2.ext, ?_⟩⟩
      rw [List.take_length, yanz hab H 0, show ((0 : Nat) : Int) = 0 from rfl, ybcj t.top]
    · exact hf.elim
theorem ybdk : IsExt Tryz.prog 115 (Extern.SlicesOverlaps.overlaps Tryz.f115.params Tryz.f115.resultTypes) :=
  ⟨Tryz.f115, Tryz.func115, by kernel_rfl, by kernel_rfl, by kernel_rfl, by kernel_rfl⟩
theorem yazb : IsExt Tryz.prog 117 (Extern.SlicesOverlaps.overlaps Tryz.f117.params Tryz.f117.resultTypes) :=
  ⟨Tryz.f117, Tryz.func117, by kernel_rfl, by kernel_rfl, by kernel_rfl, by kernel_rfl⟩
abbrev ints (zs : List Int) : List Value := zs.map (Value.int .i64)
abbrev at_ (zs : List Int) (i : Nat) : Int := zs.getD i 0
theorem yazo (x : Int) (h : Hp) : yaak Tryz.prog 153 #[.int .i64 x] h (fun v h' => h' = h ∧ v = .bool false) := by
  refine zcs_call ?_
  rw [zcs_b0]
  exact ⟨rfl, by simp⟩
theorem yavu (x : Int) (h : Hp) : yaak Tryz.prog 78 #[.int .i64 x] h (fun v h' => h' = h ∧ v = .bool false) := by
  refine zar_call ?_
  rw [zar_b0]
  exact ⟨rfl, by simp⟩
theorem ybct (x y : Int) (h : Hp) : yaak Tryz.prog 152 #[.int .i64 x, .int .i64 y] h (fun v h' => h' = h ∧ v = .bool (decide (x < y))) := by
  refine zap_call ?_
  rw [zap_b0]
  refine (yavu x h).mono fun v h' ⟨hh, hv⟩ => ?_
  subst hh
  exact ⟨_, hv, rfl, rfl⟩
def IsLb (zs : List Int) (key : Int) (i : Nat) : Prop := i ≤ zs.length ∧ (∀ j, j < i → at_ zs j < key) ∧ ∀ j, i ≤ j → j < zs.length → key ≤ at_ zs j
def Inc (zs : List Int) : Prop := ∀ i j, i < j → j < zs.length → at_ zs i < at_ zs j
theorem yave {h : Hp} {p : OA} {n c : Nat} {zs : List Int} {key : Int} (r : Rd h p n (ints zs)) (hn : n ≤ 1000000) (inc : Inc zs) :
    yaak Tryz.prog 114 #[.slice p n c, .int .i64 key] h (fun v h' => h' = h ∧ ∃ i : Nat, IsLb zs key i ∧ v = .tuple #[.int .i64 (i : Int), .bool (decide (i < n ∧ at_ zs i = key))]) := by
  have hzl : zs.length = n := by have := r.len; simpa using this
  refine zcf_call ?_
  rw [zcf_b0]
  refine ⟨fun s h' => h' = h ∧ ∃ i j : Nat, s.1 = i ∧ s.2.1 = j ∧ i ≤ j ∧ j ≤ n ∧ (∀ k, k < i → at_ zs k < key) ∧ (∀ k, j ≤ k → k < n → key ≤ at_ zs k), fun s _ => (s.2.1 - s.1).toNat,
    ⟨rfl, 0, n, rfl, rfl, by omega, by omega, fun k hk => by omega, fun k h1 h2 => by omega⟩, ?_⟩
  rintro ⟨si, sj, _⟩ h1 ⟨hh, i, j, hi, hj, hij, hjn, lo, hi'⟩
  subst hh
  simp only at hi hj
  subst hi hj
  dsimp only
  rw [zcf_b1]
  refine condP (fun hlt => ?_) (fun hge => ?_)
  · have hlt' : i < j := by omega
    have e1 : IntKind.u64.wrap ((i : Int) + (j : Int)) = ((i + j : Nat) : Int) := by
      show ((i : Int) + (j : Int)) % 18446744073709551616 = _
      rw [Int.emod_eq_of_lt (by omega) (by omega)]; push_cast; rfl
    refine ⟨⟨by omega, by omega⟩, (((i + j) / 2 : Nat) : Int), ⟨by omega, ?_⟩, ⟨by omega, by omega⟩, ?_⟩
    · rw [e1]
      have : (2 : Int) ^ (min (Int.toNat 1) IntKind.u64.bits) = 2 := by decide
      rw [this]
      rw [Int.fdiv_eq_ediv_of_nonneg _ (by omega)]
      omega
    refine yafn r (by omega) (by omega) ?_
    have e2 : (((i + j) / 2 : Nat) : Int).toNat = (i + j) / 2 := Int.toNat_natCast _
    rw [e2]
    refine (ybct _ _ _).mono fun v h2 ⟨hh, hv⟩ => ?_
    subst hh
    refine ⟨_, hv, condP (fun h3 => ?_) (fun h3 => ?_)⟩
    · refine ⟨⟨by omega, by omega⟩, ⟨rfl, (i + j) / 2 + 1, j, by simp only; omega, rfl, by omega, hjn, fun k hk => ?_, hi'⟩, by simp only; omega⟩
      rcases Nat.lt_or_ge k ((i + j) / 2) with h4 | h4
      · exact Int.lt_trans (inc k ((i + j) / 2) h4 (by omega)) h3
      · have : k = (i + j) / 2 := by omega
        subst this; exact h3
    · refine ⟨⟨rfl, i, (i + j) / 2, rfl, rfl, by omega, by omega, lo, fun k hk hkn => ?_⟩, by simp only; omega⟩
      have h3' : key ≤ at_ zs ((i + j) / 2) := Int.not_lt.1 h3
      rcases Nat.lt_or_ge ((i + j) / 2) k with h4 | h4
      · exact Int.le_trans h3' (Int.le_of_lt (inc _ k h4 (by omega)))
      · have : k = (i + j) / 2 := by omega
        subst this; exact h3'
  · have hij' : i = j := by omega
    subst hij'
    have lb : IsLb zs key i := ⟨by omega, lo, fun k h1 h2 => hi' k h1 (by omega)⟩
    have e : ((i : Nat) : Int).toNat = i := by simp
    rw [zcf_b2]
    refine condP (fun hl => ?_) (fun hl => ?_)
    · refine yafn r (by omega) (by omega) ?_
      rw [e]
      refine condP (fun he => ?_) (fun he => ?_)
      · have he' : at_ zs i = key := he
        exact ⟨rfl, i, lb, by rw [decide_eq_true (p := i < n ∧ at_ zs i = key) ⟨by omega, he'⟩]⟩
      · have he' : ¬ at_ zs i = key := he
        refine yafn r (by omega) (by omega) ?_
        refine (yazo _ _).mono fun v h2 ⟨hh, hv⟩ => ?_
        subst hh
        refine ⟨_, hv, rfl, i, lb, ?_⟩
        rw [decide_eq_false (p := i < n ∧ at_ zs i = key) (fun h4 => he' h4.2)]
    · exact ⟨rfl, i, lb, by rw [decide_eq_false (p := i < n ∧ at_ zs i = key) (fun h4 => by omega)]⟩
theorem ldOI {h : Hp} {p : OA} {n : Nat} {l : List Int} {i : Int} {i' : Nat} {Q : Int → Prop} (r : RdT (tI 3) h p n l) (ei : i = (i' : Int)) (h1 : i' < n) (hq : Q (l.getD i' (tI 3).d)) :
    (0 ≤ i ∧ i < (n : Int)) ∧ NN p fun a => ∃ x, cell h (a.add (Int.toNat i * 1)) = some (.int .i64 x) ∧ Q x := by
  subst ei
  exact r.int (by omega) (by omega) (by rw [Int.toNat_natCast]; exact hq)
theorem swOI {h0 h : Hp} {p : OA} {n c : Nat} {u v : Int} {u' v' : Nat} {xs : List Int} {A F : Bag} {k : Hp → Prop} (a : Sl (tI 3) p n c xs A) (s : St h0 h (A + F)) (eu : u = (u' : Int)) (ev : v = (v' : Int)) (hu1 : u' < n) (hv1 : v' < n)
    (hk : ∀ h' A', Sl (tI 3) p n c (swapL (tI 3).d xs u' v') A' → St h0 h' (A' + F) → k h') :
    (0 ≤ v ∧ v < (n : Int)) ∧ NN p fun a1 => ∃ n1, cell h (a1.add (Int.toNat v * 1)) = some (.int .i64 n1) ∧ (0 ≤ u ∧ u < (n : Int)) ∧ NN p fun a2 => ∃ n2, cell h (a2.add (Int.toNat u * 1)) = some (.int .i64 n2) ∧
      (0 ≤ u ∧ u < (n : Int)) ∧ NN p fun a3 => Wr h (a3.add (Int.toNat u * 1)) (.int .i64 n1) fun h1 => (0 ≤ v ∧ v < (n : Int)) ∧ NN p fun a4 => Wr h1 (a4.add (Int.toNat v * 1)) (.int .i64 n2) k := by
  subst eu ev
  have r := a.rd s
  refine ldOI r rfl hv1 (ldOI r rfl hu1 ?_)
  refine a.wrI (x := xs.getD v' (tI 3).d) s (by omega) (by omega) rfl rfl fun h1 A1 a1 s1 => ?_
  refine a1.wrI (x := xs.getD u' (tI 3).d) s1 (by omega) (by omega) rfl rfl fun h2 A2 a2 s2 => ?_
  rw [Int.toNat_natCast, Int.toNat_natCast] at a2
  exact hk h2 A2 a2 s2
end Go.Proofs.YtbhofnaipkkbeaaGreatDoor
namespace Go.Sx
variable {α : Type} {d : α} {lt : α → α → Prop}
variable {α : Type} {d : α} {lt : α → α → Prop}
end Go.Sx
namespace Go.Proofs.YtbhofnaipkkbeaaGreatDoor
open Go Go.Sx
def CmpCI (h0 : Hp) (G : Bag) (cmp : Value) (cf : Int → Int → Int) (P : Int → Prop) : Prop := ∀ (x y : Int) (h : Hp) (B : Bag) (K : VK), St h0 h (G + B) → P x → P y → (∀ h', Ext h h' → K (.int .i64 (cf x y)) h') → funV cmp fun fg fa fc => callX Tryz.prog F fg (fa ++ (([.int .i64 x, .int .i64 y] : List Value) ++ fc)).toArray h K
abbrev OutCI (h0 : Hp) (p : OA) (n cp a b : Nat) (xs : List Int) (F : Bag) (h' : Hp) (Q : List Int → Prop) : Prop := ∃ ys A', Sl (tI 3) p n cp ys A' ∧ St h0 h' (A' + F) ∧ Swp (tI 3).d a b xs ys ∧ Q ys
theorem yadz {h0 h : Hp} {p : OA} {n cp a' b' : Nat} {a b : Int} {xs : List Int} {A F : Bag} {cmp : Value} {cf : Int → Int → Int} {P : Int → Prop} (hX : CmpCI h0 F cmp cf P) (ho : OrdP (fun x y : Int => cf x y < 0)) (s : St h0 h (A + F)) (o : Sl (tI 3) p n cp xs A) (hP : ∀ k, k < n → P (xs.getD k (tI 3).d)) (ea : a = (a' : Int)) (eb : b = (b' : Int)) (ha : a' ≤ n) (hb : b' ≤ n) (hn : n < 1000000) :
    yaak Tryz.prog 109 #[.slice p n cp, .int .i64 a, .int .i64 b, cmp] h (fun v h' => v = .tuple #[] ∧ OutCI h0 p n cp a' b' xs F h' (fun ys => SrtR (tI 3).d (fun x y : Int => cf x y < 0) a' b' ys ∧ Stb (fun x y : Int => cf x y < 0) xs ys)) := by
  subst ea eb
  have hl0 := o.len
  refine zcr_call ?_
  rw [zcr_b0]
  refine ⟨⟨by omega, by omega⟩, fun i h1 => ∃ i' : Nat, i.1 = i' ∧ a' + 1 ≤ i' ∧ OutCI h0 p n cp a' b' xs F h1 (fun ys => SrtR (tI 3).d (fun x y : Int => cf x y < 0) a' i' ys ∧ Stb (fun x y : Int => cf x y < 0) xs ys), fun i _ => (b' - i.1).toNat, ⟨a' + 1, rfl, Nat.le_refl _, xs, A, o, s, .refl _, yazp (by omega), .refl _⟩, ?_⟩
  rintro ⟨_, _⟩ h1 ⟨i', rfl, hi, ys, A1, o, s, w, hs, hb2⟩
  dsimp only
  rw [zcr_b1]
  refine condP (fun hlt => ?_) (fun hge => ⟨rfl, ys, A1, o, s, w, SrtR.mono hs (Nat.le_refl _) (by omega), hb2⟩)
  refine ⟨fun j h2 => ∃ j' : Nat, j.1 = j' ∧ a' ≤ j' ∧ j' ≤ i' ∧ OutCI h0 p n cp a' b' xs F h2 (fun ys => InsR (tI 3).d (fun x y : Int => cf x y < 0) a' j' i' ys ∧ Stb (fun x y : Int => cf x y < 0) xs ys), fun j _ => j.1.toNat, ⟨i', rfl, by omega, by omega, ys, A1, o, s, w, yauz hs, hb2⟩, ?_⟩
  clear hs hb2 w s o ys
  rintro ⟨_, _⟩ h2 ⟨j', rfl, hj1, hj2, ys, A1, o, s, w, hs, hb2⟩
  dsimp only
  have hl := o.len
  have hP := w.allN hl0 hP
  have fin : ∀ h3, St h0 h3 (A1 + F) → (a' < j' → ¬ (fun x y : Int => cf x y < 0) (ys.getD j' (tI 3).d) (ys.getD (j' - 1) (tI 3).d)) → zcr_b4 p n cp a' b' cmp i' h3 (fun s' h' => (∃ i' : Nat, s'.1 = i' ∧ a' + 1 ≤ i' ∧ OutCI h0 p n cp a' b' xs F h' (fun ys => SrtR (tI 3).d (fun x y : Int => cf x y < 0) a' i' ys ∧ Stb (fun x y : Int => cf x y < 0) xs ys)) ∧ (b' - s'.1).toNat < (b' - (i' : Int)).toNat) (fun v h' => v = .tuple #[] ∧ OutCI h0 p n cp a' b' xs F h' (fun ys => SrtR (tI 3).d (fun x y : Int => cf x y < 0) a' b' ys ∧ Stb (fun x y : Int => cf x y < 0) xs ys)) := by
    intro h3 s hx
    rw [zcr_b4]
    exact ⟨⟨by omega, by omega⟩, ⟨i' + 1, by push_cast; rfl, by omega, ys, A1, o, s, w, ybdj ho hj1 hs hx, hb2⟩, by omega⟩
  rw [zcr_b2]
  refine condP (fun hj => ?_) (fun hj => fin _ s fun h => by omega)
  have r := o.rd s
  refine ldOI (i' := j') r rfl (by omega) ⟨⟨by omega, by omega⟩, ldOI (i' := j' - 1) r (by omega) (by omega) ?_⟩
  refine hX _ _ _ _ _ (s.at F) (hP _ (by omega)) (hP _ (by omega)) fun h5 e5 => ⟨_, rfl, ?_⟩; have s := s.grow e5
  refine condP (fun hc => ?_) (fun hc => fin _ s fun _ => hc)
  rw [zcr_b3]
  refine ⟨⟨by omega, by omega⟩, ⟨by omega, by omega⟩, ?_⟩
  refine swOI (u' := j') (v' := j' - 1) o s rfl (by omega) (by omega) (by omega) fun h6 A6 o6 s6 => ?_
  rw [zcr_b5]
  exact ⟨⟨by omega, by omega⟩, ⟨j' - 1, by omega, by omega, by omega, _, A6, o6, s6, .step w (by omega) (by omega) (by omega) (by omega) (by omega), yazu ho (by omega) hj2 (by omega) hs hc, hb2.trans (by have := yazr ho (d := (tI 3).d) (i := j' - 1) (xs := ys) (by omega) (by rw [show j' - 1 + 1 = j' by omega]; exact hc); rwa [show j' - 1 + 1 = j' by omega] at this)⟩, by omega⟩
end Go.Proofs.YtbhofnaipkkbeaaGreatDoor
