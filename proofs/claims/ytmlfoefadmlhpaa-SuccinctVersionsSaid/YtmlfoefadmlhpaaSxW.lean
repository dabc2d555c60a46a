/- Part W of the proof: contracts of functions of the program, and what follows from them. -/
import Derived.Test.YtmlfoefadmlhpaaSxV
set_option maxRecDepth 10000
namespace Go.Proofs.Ytmlfoefadmlhpaa
open Go Go.Sx

theorem wr_add (a b : Nat) (h : a + b < 18446744073709551616) : IntKind.u64.wrap ((a : Int) + (b : Int)) = ((a + b : Nat) : Int) := by
  rw [wrap_u64_in _ (by omega) (by omega)]; omega
theorem shr_le (x s : Nat) : x >>> s ≤ x := by rw [Nat.shiftRight_eq_div_pow]; exact Nat.div_le_self _ _
theorem m55 : mk 0x55 8 = 6148914691236517205 := by decide +kernel
theorem m33 : mk 0x33 8 = 3689348814741910323 := by decide +kernel
theorem m0f : mk 0x0f 8 = 1085102592571150095 := by decide +kernel

theorem ones64_ok (x : Nat) (hx : x < 18446744073709551616) (h : Hp) : HCalls Try.prog 79 #[.int .u64 (x : Int)] h (fun v h' => v = .int .i64 (pc x 64 : Nat) ∧ h' = h) := by
  have e := swar_pc x
  unfold swar sw3 sw2 sw1 at e
  rw [m55, m33, m0f] at e
  simp only [] at e
  refine ones64_call ?_
  rw [ones64_b0_eq]
  have s1 := shr_le x 1
  refine shr_intro (x := x) (s := 1) rfl rfl (by decide) ?_
  refine and_u64 (x := x >>> 1) (y := 6148914691236517205) rfl rfl (by omega) (by decide) ?_
  refine and_u64 (x := x) (y := 6148914691236517205) rfl rfl (by omega) (by decide) ?_
  have l1 : x >>> 1 &&& 6148914691236517205 ≤ 6148914691236517205 := Nat.and_le_right
  have l2 : x &&& 6148914691236517205 ≤ 6148914691236517205 := Nat.and_le_right
  rw [wr_add _ _ (by omega)]
  generalize hA : (x >>> 1 &&& 6148914691236517205) + (x &&& 6148914691236517205) = A at *
  have s2 := shr_le A 2
  refine shr_intro (x := A) (s := 2) rfl rfl (by decide) ?_
  refine and_u64 (x := A >>> 2) (y := 3689348814741910323) rfl rfl (by omega) (by decide) ?_
  refine and_u64 (x := A) (y := 3689348814741910323) rfl rfl (by omega) (by decide) ?_
  have l3 : A >>> 2 &&& 3689348814741910323 ≤ 3689348814741910323 := Nat.and_le_right
  have l4 : A &&& 3689348814741910323 ≤ 3689348814741910323 := Nat.and_le_right
  rw [wr_add _ _ (by omega)]
  generalize hB : (A >>> 2 &&& 3689348814741910323) + (A &&& 3689348814741910323) = B at *
  refine shr_intro (x := B) (s := 4) rfl rfl (by decide) ?_
  have s3 : B >>> 4 ≤ B / 16 := by rw [Nat.shiftRight_eq_div_pow]; exact Nat.le_refl _
  rw [wr_add _ _ (by omega)]
  refine and_u64 (x := B >>> 4 + B) (y := 1085102592571150095) rfl rfl (by omega) (by decide) ?_
  have l5 : (B >>> 4 + B) &&& 1085102592571150095 ≤ 1085102592571150095 := Nat.and_le_right
  generalize hC : (B >>> 4 + B) &&& 1085102592571150095 = C at *
  refine shr_intro (x := C) (s := 8) rfl rfl (by decide) ?_
  have s4 : C >>> 8 ≤ C := shr_le _ _
  rw [wr_add _ _ (by omega)]
  generalize hD : C + C >>> 8 = D at *
  refine shr_intro (x := D) (s := 16) rfl rfl (by decide) ?_
  have s5 : D >>> 16 ≤ D := shr_le _ _
  rw [wr_add _ _ (by omega)]
  generalize hE : D + D >>> 16 = E at *
  refine shr_intro (x := E) (s := 32) rfl rfl (by decide) ?_
  have s6 : E >>> 32 ≤ E / 4294967296 := by rw [Nat.shiftRight_eq_div_pow]; exact Nat.le_refl _
  rw [wr_add _ _ (by omega)]
  refine ⟨⟨by omega, by omega⟩, ?_⟩
  refine and_i64 (x := E + E >>> 32) (y := 127) rfl rfl (by omega) (by decide) ?_
  exact ⟨by rw [e], rfl⟩

/-! ### a vector in memory -/
/-- The bit i of the words. -/
def wbit (ws : List Nat) (i : Nat) : Bool := (ws.getD (i / 64) 0).testBit (i % 64)
/-- How many of the first k elements are b. -/
def cntB (l : List Bool) (b : Bool) (k : Nat) : Nat := ((l.take k).filter (· == b)).length
structure VecW (h : Hp) (a : Addr) (bits : List Bool) (ws : List Nat) : Prop where
  n : cell h a = some (.int .i64 (bits.length : Int))
  words : ∃ p c, cell h (a.add 1) = some (.slice p ws.length c) ∧ Rd h p ws.length ((ws.map (fun w : Nat => (w : Int))).map (Value.int .u64))
  before : ∃ p c, cell h (a.add 2) = some (.slice p (ws.length + 1) c) ∧ Rd h p (ws.length + 1) (((List.range (ws.length + 1)).map (fun j => ((cntB bits true (64 * j) : Nat) : Int))).map (Value.int .i64))
  wlen : ws.length = (bits.length + 63) / 64
  wlt : ∀ w ∈ ws, w < 18446744073709551616
  wbit : ∀ i, i < 64 * ws.length → wbit ws i = bits.getD i false
  small : bits.length ≤ 65536
def Vec (h : Hp) (a : Addr) (bits : List Bool) : Prop := ∃ ws, VecW h a bits ws
theorem VecW.ext {h h' : Hp} {a : Addr} {bits : List Bool} {ws : List Nat} (v : VecW h a bits ws) (e : Ext h h') : VecW h' a bits ws where
  n := e.cell v.n
  words := by obtain ⟨p, c, h1, h2⟩ := v.words; exact ⟨p, c, e.cell h1, h2.ext e⟩
  before := by obtain ⟨p, c, h1, h2⟩ := v.before; exact ⟨p, c, e.cell h1, h2.ext e⟩
  wlen := v.wlen
  wlt := v.wlt
  wbit := v.wbit
  small := v.small
theorem Vec.ext {h h' : Hp} {a : Addr} {bits : List Bool} (v : Vec h a bits) (e : Ext h h') : Vec h' a bits := let ⟨ws, v⟩ := v; ⟨ws, v.ext e⟩

theorem cntB_succ (l : List Bool) (b : Bool) (k : Nat) (hk : k < l.length) : cntB l b (k + 1) = cntB l b k + (if l.getD k false = b then 1 else 0) := by
  unfold cntB
  rw [List.take_succ_eq_append_getElem hk, List.filter_append, List.length_append]
  have : l.getD k false = l[k] := by simp [List.getD, hk]
  rw [this]
  by_cases hb : l[k] = b
  · simp [hb]
  · simp [hb]
theorem cntB_stop (l : List Bool) (b : Bool) (k : Nat) (hk : l.length ≤ k) : cntB l b k = cntB l b l.length := by
  unfold cntB; rw [List.take_of_length_le hk, List.take_of_length_le (Nat.le_refl _)]
theorem cntB_le (l : List Bool) (b : Bool) (k : Nat) : cntB l b k ≤ k := by
  unfold cntB
  exact Nat.le_trans (List.length_filter_le _ _) (by simp; omega)
/-- The ones of a word, and of the bits that it holds. -/
theorem cntB_word {bits : List Bool} {ws : List Nat} (hw : ∀ i, i < 64 * ws.length → wbit ws i = bits.getD i false) {j : Nat} (hj : j < ws.length) :
    ∀ t, t ≤ 64 → cntB bits true (64 * j + t) = cntB bits true (64 * j) + pc (ws.getD j 0) t
  | 0, _ => rfl
  | t + 1, ht => by
    have ih := cntB_word hw hj t (by omega)
    have hb := hw (64 * j + t) (by omega)
    have e1 : (64 * j + t) / 64 = j := by omega
    have e2 : (64 * j + t) % 64 = t := by omega
    unfold wbit at hb
    rw [e1, e2] at hb
    simp only [pc]
    rw [hb]
    rcases Nat.lt_or_ge (64 * j + t) bits.length with hl | hl
    · rw [show 64 * j + (t + 1) = 64 * j + t + 1 by omega, cntB_succ _ _ _ hl, ih]
      cases bits.getD (64 * j + t) false <;> simp
      omega
    · rw [cntB_stop _ _ _ (by omega), ← cntB_stop bits true (64 * j + t) hl, ih]
      have : bits.getD (64 * j + t) false = false := by simp [List.getD, hl]
      rw [this]; simp
theorem pc_mask (w r : Nat) : ∀ k, pc (w &&& (2 ^ r - 1)) k = pc w (min k r)
  | 0 => by simp [pc]
  | k + 1 => by
    simp only [pc]
    rw [pc_mask w r k, Nat.testBit_and, Nat.testBit_two_pow_sub_one]
    by_cases h : k < r
    · rw [show min (k + 1) r = min k r + 1 by omega]
      simp only [pc, show min k r = k by omega, h, decide_true, Bool.and_true]
    · rw [show min (k + 1) r = min k r by omega]
      simp [h]

theorem ones_ok {h : Hp} {a : Addr} {bits : List Bool} {ws : List Nat} (v : VecW h a bits ws) (i : Nat) (hi : i ≤ bits.length) :
    HCalls Try.prog 82 #[.pointer (some a), .int .i64 (i : Int)] h (fun r h' => r = .int .i64 (cntB bits true i : Nat) ∧ h' = h) := by
  have hs := v.small
  have hwl := v.wlen
  obtain ⟨pb, cb, hb1, hb2⟩ := v.before
  obtain ⟨pw, cw, hw1, hw2⟩ := v.words
  refine ones_call ?_
  rw [ones_b0_eq]
  refine ⟨_, _, _, hb1, ?_⟩
  refine quo_intro (by omega) (by omega) (by omega) ?_
  have e1 : ((i : Int) / 64).toNat = i / 64 := by omega
  refine idx_int hb2 (by omega) (by omega) ?_
  rw [e1]
  refine rem_intro (by omega) (by omega) ?_
  have hg : (List.map (fun j => ((cntB bits true (64 * j) : Nat) : Int)) (List.range (ws.length + 1))).getD (i / 64) 0 = (cntB bits true (64 * (i / 64)) : Nat) := by
    have : i / 64 < ws.length + 1 := by omega
    simp [List.getD, this]
  rw [hg]
  have hcl := cntB_le bits true (64 * (i / 64))
  refine condP (fun hr => ?_) (fun hr => ?_)
  · refine ⟨_, _, _, hw1, ?_⟩
    refine quo_intro (by omega) (by omega) (by omega) ?_
    have hj : i / 64 < ws.length := by omega
    refine idx_int hw2 (by omega) (by omega) ?_
    rw [e1]
    have hwd : (List.map (fun w : Nat => (w : Int)) ws).getD (i / 64) 0 = (ws.getD (i / 64) 0 : Nat) := by simp [List.getD, hj]
    rw [hwd]
    have hwlt : ws.getD (i / 64) 0 < 18446744073709551616 := by
      have : ws.getD (i / 64) 0 = ws[i / 64] := by simp [List.getD, hj]
      rw [this]; exact v.wlt _ (List.getElem_mem hj)
    refine rem_intro (by omega) (by omega) ?_
    have e2 : ((i : Int) % 64) = ((i % 64 : Nat) : Int) := by omega
    have hp : 2 ^ (i % 64) < 18446744073709551616 := Nat.lt_of_lt_of_le (Nat.pow_lt_pow_right (by decide) (Nat.mod_lt _ (by decide))) (by decide : 2 ^ 64 ≤ 18446744073709551616)
    have hp1 : 0 < 2 ^ (i % 64) := Nat.two_pow_pos _
    refine shl_intro (x := 1) (s := i % 64) rfl e2 (by simp [IntKind.bits]; omega) (by rw [Nat.one_mul]; exact wrap_u64_in _ (by omega) (by omega)) ?_
    rw [Nat.one_mul, wrap_u64_in _ (by omega) (by omega)]
    refine and_u64 (x := ws.getD (i / 64) 0) (y := 2 ^ (i % 64) - 1) rfl (by omega) hwlt (by omega) ?_
    have hand : ws.getD (i / 64) 0 &&& (2 ^ (i % 64) - 1) < 18446744073709551616 := Nat.lt_of_le_of_lt Nat.and_le_left hwlt
    refine ⟨_, ones64_ok _ hand h, ?_⟩
    rw [pc_mask]
    have hmin : min 64 (i % 64) = i % 64 := by omega
    rw [hmin]
    have hcw := cntB_word v.wbit hj (i % 64) (by omega)
    have hpl := pc_le (ws.getD (i / 64) 0) (i % 64)
    refine ⟨⟨by omega, by omega⟩, ?_⟩
    rw [ones_b1_eq]
    refine ⟨?_, rfl⟩
    rw [show 64 * (i / 64) + i % 64 = i by omega] at hcw
    rw [hcw]; simp
  · rw [ones_b1_eq]
    have : 64 * (i / 64) = i := by omega
    rw [this]
    exact ⟨rfl, rfl⟩
end Go.Proofs.Ytmlfoefadmlhpaa
