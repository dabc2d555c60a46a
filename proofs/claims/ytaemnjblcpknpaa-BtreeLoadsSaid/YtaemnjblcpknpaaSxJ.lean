/- Plain: how many ones a word has. -/
namespace Go.Sx

/-- The ones among the first k bits. -/
def pc (w : Nat) : Nat → Nat
  | 0 => 0
  | k + 1 => pc w k + (w.testBit k).toNat

theorem pc_le (w : Nat) : ∀ k, pc w k ≤ k
  | 0 => Nat.le_refl _
  | k + 1 => by have := pc_le w k; have : (w.testBit k).toNat ≤ 1 := Bool.toNat_le _; simp only [pc]; omega

theorem testBit_lane (q r i : Nat) (hr : r < 256) : (256 * q + r).testBit i = if i < 8 then r.testBit i else q.testBit (i - 8) :=
  Nat.testBit_two_pow_mul_add q (b := r) (i := 8) hr i

theorem pc_lane (q r : Nat) (hr : r < 256) : ∀ k, pc (256 * q + r) (8 + k) = pc r 8 + pc q k
  | 0 => by
    have : ∀ j, j ≤ 8 → pc (256 * q + r) j = pc r j := by
      intro j
      induction j with
      | zero => intro _; rfl
      | succ j ih => intro hj; simp only [pc]; rw [ih (by omega), testBit_lane q r j hr, if_pos (by omega)]
    exact this 8 (Nat.le_refl _)
  | k + 1 => by
    have h1 := pc_lane q r hr k
    show pc (256 * q + r) (8 + k) + ((256 * q + r).testBit (8 + k)).toNat = _
    rw [h1, testBit_lane q r (8 + k) hr, if_neg (by omega)]
    simp only [pc]
    rw [show 8 + k - 8 = k by omega]
    omega

theorem and_lane (q r M m : Nat) (hr : r < 256) (hm : m < 256) : (256 * q + r) &&& (256 * M + m) = 256 * (q &&& M) + (r &&& m) := by
  apply Nat.eq_of_testBit_eq
  intro i
  have h : r &&& m < 256 := Nat.lt_of_le_of_lt Nat.and_le_left hr
  rw [Nat.testBit_and, testBit_lane _ _ _ hr, testBit_lane _ _ _ hm, testBit_lane _ _ _ h]
  split <;> simp [Nat.testBit_and]

theorem shr_and_lane (q r M m s : Nat) (hr : r < 256) (hs : s ≤ 8) (hm : m < 2 ^ (8 - s)) : ((256 * q + r) >>> s) &&& (256 * M + m) = 256 * ((q >>> s) &&& M) + ((r >>> s) &&& m) := by
  have hm' : m < 256 := Nat.lt_of_lt_of_le hm (Nat.pow_le_pow_right (by decide) (by omega) : 2 ^ (8 - s) ≤ 2 ^ 8)
  apply Nat.eq_of_testBit_eq
  intro i
  have h : (r >>> s) &&& m < 256 := Nat.lt_of_le_of_lt Nat.and_le_right hm'
  rw [Nat.testBit_and, Nat.testBit_shiftRight, testBit_lane _ _ _ hr, testBit_lane _ _ _ hm', testBit_lane _ _ _ h]
  by_cases hi : i < 8
  · rw [if_pos hi, if_pos hi, Nat.testBit_and, Nat.testBit_shiftRight]
    by_cases hsi : s + i < 8
    · rw [if_pos hsi]
    · rw [if_neg hsi]
      have : m.testBit i = false := Nat.testBit_lt_two_pow (Nat.lt_of_lt_of_le hm (Nat.pow_le_pow_right (by decide) (by omega)))
      rw [this, Bool.and_false, Bool.and_false]
  · rw [if_neg (by omega), if_neg hi, if_neg hi, Nat.testBit_and, Nat.testBit_shiftRight]
    rw [show s + i - 8 = s + (i - 8) by omega]

/-- A mask: k lanes m. -/
def mk (m : Nat) : Nat → Nat
  | 0 => 0
  | k + 1 => 256 * mk m k + m
def sw1 (k x : Nat) : Nat := ((x >>> 1) &&& mk 0x55 k) + (x &&& mk 0x55 k)
def sw2 (k x : Nat) : Nat := ((x >>> 2) &&& mk 0x33 k) + (x &&& mk 0x33 k)
def sw3 (k x : Nat) : Nat := ((x >>> 4) + x) &&& mk 0x0f k

theorem sw1_lane (k q r : Nat) (hr : r < 256) : sw1 (k + 1) (256 * q + r) = 256 * sw1 k q + (((r >>> 1) &&& 0x55) + (r &&& 0x55)) := by
  have e : mk 0x55 (k + 1) = 256 * mk 0x55 k + 0x55 := rfl
  unfold sw1
  rw [e, shr_and_lane q r _ _ 1 hr (by omega) (by decide), and_lane q r _ _ hr (by decide)]
  omega
theorem sw2_lane (k q r : Nat) (hr : r < 256) : sw2 (k + 1) (256 * q + r) = 256 * sw2 k q + (((r >>> 2) &&& 0x33) + (r &&& 0x33)) := by
  have e : mk 0x33 (k + 1) = 256 * mk 0x33 k + 0x33 := rfl
  unfold sw2
  rw [e, shr_and_lane q r _ _ 2 hr (by omega) (by decide), and_lane q r _ _ hr (by decide)]
  omega
def o1 (r : Nat) : Nat := ((r >>> 1) &&& 0x55) + (r &&& 0x55)
def o2 (r : Nat) : Nat := ((o1 r >>> 2) &&& 0x33) + (o1 r &&& 0x33)
theorem o_facts : ∀ r, r < 256 → o1 r < 256 ∧ o2 r ≤ 68 ∧ o2 r % 16 ≤ 4 ∧ (o2 r + o2 r / 16) % 16 = pc r 8 := by decide +kernel
theorem sw12_mod (k x : Nat) : sw2 k (sw1 k x) % 16 ≤ 4 := by
  cases k with
  | zero => simp [sw2, mk]
  | succ k =>
    have hx : x = 256 * (x / 256) + x % 256 := by omega
    have hr : x % 256 < 256 := Nat.mod_lt _ (by decide)
    obtain ⟨h1, _, h3, _⟩ := o_facts _ hr
    rw [hx, sw1_lane k _ _ hr]
    show sw2 (k + 1) (256 * sw1 k (x / 256) + o1 (x % 256)) % 16 ≤ 4
    rw [sw2_lane k _ _ h1]
    show (256 * sw2 k (sw1 k (x / 256)) + o2 (x % 256)) % 16 ≤ 4
    omega
/-- The bytes' counts. -/
def cnt : Nat → Nat → Nat
  | 0, _ => 0
  | k + 1, x => 256 * cnt k (x / 256) + pc (x % 256) 8
theorem and15 (x : Nat) : x &&& 15 = x % 16 := Nat.and_two_pow_sub_one_eq_mod x 4
theorem sw3_cnt : ∀ k x, sw3 k (sw2 k (sw1 k x)) = cnt k x
  | 0, x => by simp [sw3, mk, cnt]
  | k + 1, x => by
    have hr : x % 256 < 256 := Nat.mod_lt _ (by decide)
    have hx : x = 256 * (x / 256) + x % 256 := by omega
    obtain ⟨h1, h2, h3, h4⟩ := o_facts _ hr
    have ih := sw3_cnt k (x / 256)
    have hm := sw12_mod k (x / 256)
    have e1 : sw1 (k + 1) x = 256 * sw1 k (x / 256) + o1 (x % 256) := by
      have := sw1_lane k (x / 256) (x % 256) hr
      rw [← hx] at this
      exact this
    have e2 : sw2 (k + 1) (sw1 (k + 1) x) = 256 * sw2 k (sw1 k (x / 256)) + o2 (x % 256) := by rw [e1]; exact sw2_lane k _ _ h1
    rw [e2]
    simp only [cnt]
    rw [← ih, ← h4]
    generalize sw2 k (sw1 k (x / 256)) = B at *
    generalize o2 (x % 256) = β at *
    have e0 : mk 0x0f (k + 1) = 256 * mk 0x0f k + 15 := rfl
    unfold sw3
    rw [e0, Nat.shiftRight_eq_div_pow, Nat.shiftRight_eq_div_pow]
    have e3 : (256 * B + β) / 2 ^ 4 + (256 * B + β) = 256 * (B / 2 ^ 4 + B) + (β + β / 16 + 16 * (B % 16)) := by
      have : (2 : Nat) ^ 4 = 16 := by decide
      rw [this]; omega
    rw [e3, and_lane _ _ _ _ (by omega) (by decide), and15]
    congr 1
    omega

def swar (x : Nat) : Nat :=
  let c := sw3 8 (sw2 8 (sw1 8 x))
  let d := c + c >>> 8
  let e := d + d >>> 16
  let f := e + e >>> 32
  f &&& 127
theorem pc8_le (r : Nat) : pc r 8 ≤ 8 := pc_le r 8
def bsum : Nat → Nat → Nat
  | 0, _ => 0
  | k + 1, x => pc (x % 256) 8 + bsum k (x / 256)
theorem pc_bsum : ∀ n x, pc x (8 * n) = bsum n x
  | 0, _ => rfl
  | n + 1, x => by
    have h := pc_lane (x / 256) (x % 256) (Nat.mod_lt _ (by decide)) (8 * n)
    rw [show 256 * (x / 256) + x % 256 = x by omega] at h
    rw [show 8 * (n + 1) = 8 + 8 * n by omega, h, pc_bsum n (x / 256)]
    rfl
theorem bytes_sum (p0 p1 p2 p3 p4 p5 p6 p7 : Nat) (b0 : p0 ≤ 8) (b1 : p1 ≤ 8) (b2 : p2 ≤ 8) (b3 : p3 ≤ 8) (b4 : p4 ≤ 8) (b5 : p5 ≤ 8) (b6 : p6 ≤ 8) (b7 : p7 ≤ 8) (c d e f : Nat)
    (hc : c = 256 * (256 * (256 * (256 * (256 * (256 * (256 * p7 + p6) + p5) + p4) + p3) + p2) + p1) + p0) (hd : d = c + c / 256) (he : e = d + d / 65536) (hf : f = e + e / 4294967296) :
    f % 128 = p0 + (p1 + (p2 + (p3 + (p4 + (p5 + (p6 + p7)))))) := by
  have e1 : c / 256 = 256 * (256 * (256 * (256 * (256 * (256 * p7 + p6) + p5) + p4) + p3) + p2) + p1 := by omega
  have e2 : d = 65536 * (65536 * (65536 * ((p6 + p7) + 256 * p7) + ((p4 + p5) + 256 * (p5 + p6))) + ((p2 + p3) + 256 * (p3 + p4))) + ((p0 + p1) + 256 * (p1 + p2)) := by omega
  clear hd hc e1
  have e3 : d / 65536 = 65536 * (65536 * ((p6 + p7) + 256 * p7) + ((p4 + p5) + 256 * (p5 + p6))) + ((p2 + p3) + 256 * (p3 + p4)) := by omega
  have e4 : e = 4294967296 * (65536 * ((p6 + p7) + 256 * p7) + ((p4 + p5 + p6 + p7) + 256 * (p5 + p6 + p7))) + (65536 * ((p2 + p3 + p4 + p5) + 256 * (p3 + p4 + p5 + p6)) + ((p0 + p1 + p2 + p3) + 256 * (p1 + p2 + p3 + p4))) := by omega
  clear he e3 e2
  have e5 : e / 4294967296 = 65536 * ((p6 + p7) + 256 * p7) + ((p4 + p5 + p6 + p7) + 256 * (p5 + p6 + p7)) := by omega
  omega
theorem swar_pc (x : Nat) : swar x = pc x 64 := by
  have e : pc x 64 = bsum 8 x := pc_bsum 8 x
  rw [e]
  unfold swar
  rw [sw3_cnt]
  simp only [cnt, bsum, Nat.mul_zero, Nat.zero_add, Nat.add_zero]
  rw [show (127 : Nat) = 2 ^ 7 - 1 by decide, Nat.and_two_pow_sub_one_eq_mod _ 7]
  simp only [Nat.shiftRight_eq_div_pow, show (2 : Nat) ^ 8 = 256 by decide, show (2 : Nat) ^ 16 = 65536 by decide, show (2 : Nat) ^ 32 = 4294967296 by decide, show (2 : Nat) ^ 7 = 128 by decide]
  exact bytes_sum _ _ _ _ _ _ _ _ (pc8_le _) (pc8_le _) (pc8_le _) (pc8_le _) (pc8_le _) (pc8_le _) (pc8_le _) (pc8_le _) _ _ _ _ rfl rfl rfl rfl
end Go.Sx
