/- Part S1 of the proof: contracts of functions of the program, and what follows from them. -/
import Derived.Test.YtmlfoefadmlhpaaSxV
set_option maxRecDepth 10000
namespace Go.Proofs.Ytmlfoefadmlhpaa
open Go Go.Sx

/-! ### logarithms -/
/-- How many bits a number has. -/
def blen (x : Nat) : Nat := if x = 0 then 0 else x.log2 + 1
theorem blen_shift {x k : Nat} (h : 2 ^ k ≤ x) : blen x = blen (x / 2 ^ k) + k := by
  have hp : 0 < 2 ^ k := Nat.two_pow_pos k
  have hx : x ≠ 0 := by omega
  have hq : x / 2 ^ k ≠ 0 := by have := Nat.div_pos h hp; omega
  unfold blen
  rw [if_neg hx, if_neg hq]
  have : x.log2 = (x / 2 ^ k).log2 + k := by
    rw [Nat.log2_eq_iff hx]
    have h1 := Nat.log2_self_le hq
    have h2 := @Nat.lt_log2_self (x / 2 ^ k)
    constructor
    · rw [Nat.pow_add]
      exact Nat.le_trans (Nat.mul_le_mul_right _ h1) (Nat.div_mul_le_self _ _)
    · rw [show (x / 2 ^ k).log2 + k + 1 = ((x / 2 ^ k).log2 + 1) + k by omega, Nat.pow_add]
      exact (Nat.div_lt_iff_lt_mul hp).1 h2
  omega
theorem blen_le {x k : Nat} (h : x < 2 ^ k) : blen x ≤ k := by
  unfold blen
  split
  · omega
  · rename_i hx
    have h1 := Nat.log2_self_le hx
    have : 2 ^ x.log2 < 2 ^ k := Nat.lt_of_le_of_lt h1 h
    have := (Nat.pow_lt_pow_iff_right (by decide : 1 < 2)).1 this
    omega

theorem tab_step {s : ByteArray} {m : Nat} {nv : Int} {h : Hp} {K : Value → Hp → Prop} (hz : s.size = 256) (hs : ∀ n, n < 256 → (s.data.toList.getD n 0).toNat = blen n) (hm : m < 256) (h0 : 0 ≤ nv) (h1 : nv < 1000)
    (hk : K (.int .i64 (nv + (blen m : Nat))) h) : (0 ≤ IntKind.u8.wrap (m : Int) ∧ IntKind.u8.wrap (m : Int) < (s.size : Int)) ∧ InR (((s.data.toList.getD (Int.toNat (IntKind.u8.wrap (m : Int))) 0).toNat : Int)) ∧
      InR (nv + (((s.data.toList.getD (Int.toNat (IntKind.u8.wrap (m : Int))) 0).toNat : Int))) ∧ K (.int .i64 (nv + (((s.data.toList.getD (Int.toNat (IntKind.u8.wrap (m : Int))) 0).toNat : Int)))) h := by
  have hw : IntKind.u8.wrap (m : Int) = m := wrap_u8_in _ (by omega) (by omega)
  have hb : blen m ≤ 8 := blen_le (by omega)
  rw [hw, show ((m : Nat) : Int).toNat = m by simp, hs m hm, hz]
  exact ⟨⟨by omega, by omega⟩, ⟨by omega, by omega⟩, ⟨by omega, by omega⟩, hk⟩

theorem Len64_ok (x : Nat) (hx : x < 18446744073709551616) (h : Hp) : HCalls Try.prog 78 #[.int .u64 (x : Int)] h (fun r h' => r = .int .i64 (blen x : Nat) ∧ h' = h) := by
  refine math_bits_Len64_call ?_
  have shr : ∀ (y k : Nat), y >>> k = y / 2 ^ k := fun y k => Nat.shiftRight_eq_div_pow y k
  have b3 : ∀ (y : Nat) (nv : Int), y < 256 → 0 ≤ nv → nv < 100 → nv + (blen y : Nat) = (blen x : Nat) → math_bits_Len64_b3 (y : Int) nv h (fun r h' => r = .int .i64 (blen x : Nat) ∧ h' = h) := by
    intro y nv hy h0 h1 he
    rw [math_bits_Len64_b3_eq]
    refine tab_step (K := fun r h' => r = .int .i64 (blen x : Nat) ∧ h' = h) ?_ ?_ hy h0 (by omega) ?_
    · decide +kernel
    · decide +kernel
    · rw [he]; exact ⟨rfl, rfl⟩
  have b2 : ∀ (y : Nat) (nv : Int), y < 65536 → 0 ≤ nv → nv < 90 → nv + (blen y : Nat) = (blen x : Nat) → math_bits_Len64_b2 (y : Int) nv h (fun r h' => r = .int .i64 (blen x : Nat) ∧ h' = h) := by
    intro y nv hy h0 h1 he
    rw [math_bits_Len64_b2_eq]
    refine condP (fun hc => ?_) (fun hc => b3 y nv (by omega) h0 (by omega) he)
    refine shr_intro (x := y) (s := 8) rfl rfl (by decide) ⟨⟨by omega, by omega⟩, ?_⟩
    rw [shr]
    have := blen_shift (x := y) (k := 8) (by omega)
    exact b3 _ _ (by omega) (by omega) (by omega) (by omega)
  have b1 : ∀ (y : Nat) (nv : Int), y < 4294967296 → 0 ≤ nv → nv < 70 → nv + (blen y : Nat) = (blen x : Nat) → math_bits_Len64_b1 (y : Int) nv h (fun r h' => r = .int .i64 (blen x : Nat) ∧ h' = h) := by
    intro y nv hy h0 h1 he
    rw [math_bits_Len64_b1_eq]
    refine condP (fun hc => ?_) (fun hc => b2 y nv (by omega) h0 (by omega) he)
    refine shr_intro (x := y) (s := 16) rfl rfl (by decide) ⟨⟨by omega, by omega⟩, ?_⟩
    rw [shr]
    have := blen_shift (x := y) (k := 16) (by omega)
    exact b2 _ _ (by omega) (by omega) (by omega) (by omega)
  rw [math_bits_Len64_b0_eq]
  refine condP (fun hc => ?_) (fun hc => b1 x 0 (by omega) (by omega) (by omega) (by omega))
  refine shr_intro (x := x) (s := 32) rfl rfl (by decide) ?_
  rw [shr]
  have := blen_shift (x := x) (k := 32) (by omega)
  exact b1 _ _ (by omega) (by omega) (by omega) (by omega)

/-- FloorLog of a number of the range. -/
theorem FloorLog_ok (x : Nat) (h1 : 1 ≤ x) (h2 : x ≤ 1099511627776) (h : Hp) : HCalls Try.prog 47 #[.int .i64 (x : Int)] h (fun r h' => r = .tuple #[.int .i64 (x.log2 : Nat), .int .i64 0] ∧ h' = h) := by
  refine ratio_FloorLog_call ?_
  rw [ratio_FloorLog_b0_eq]
  refine condP (fun hc => by omega) (fun _ => condP (fun hc => by omega) (fun _ => ?_))
  rw [ratio_FloorLog_b1_eq, wrap_u64_in _ (by omega) (by omega)]
  refine math_bits_Len_call ?_
  rw [math_bits_Len_b0_eq]
  refine (Len64_ok x (by omega) h).mono fun v h' ⟨hv, hh⟩ => ?_
  subst hh
  refine ⟨_, hv, _, rfl, ?_⟩
  have hb : blen x = x.log2 + 1 := by unfold blen; rw [if_neg (by omega)]
  have hl : blen x ≤ 64 := blen_le (by omega)
  refine ⟨⟨by omega, by omega⟩, ?_, rfl⟩
  rw [show ((blen x : Nat) : Int) - 1 = (x.log2 : Nat) by omega]

theorem rLog_ok (x : Nat) (h2 : x ≤ 4611686018427387904) (h : Hp) : HCalls Try.prog 52 #[.int .i64 (x : Int)] h (fun r h' => r = .int .i64 (x.log2 : Nat) ∧ h' = h) := by
  refine r04_Log_call ?_
  rw [r04_Log_b0_eq]
  refine ⟨fun s h' => h' = h ∧ ∃ (y k : Nat), s.1 = y ∧ s.2.1 = k ∧ y ≤ x ∧ k + y.log2 = x.log2, fun s _ => s.1.toNat, ⟨rfl, x, 0, rfl, rfl, Nat.le_refl _, by omega⟩, ?_⟩
  rintro ⟨sy, sk, _⟩ h' ⟨rfl, y, k, hy, hk, hyx, hl⟩
  simp only at hy hk
  subst hy hk
  dsimp only
  have hlx : x.log2 ≤ 62 := by
    rcases Nat.eq_zero_or_pos x with h0 | h0
    · subst h0; decide
    · have h3 := Nat.log2_self_le (n := x) (by omega)
      have : 2 ^ x.log2 < 2 ^ 63 := by omega
      have := (Nat.pow_lt_pow_iff_right (by decide : 1 < 2)).1 this
      omega
  rw [r04_Log_b1_eq]
  refine condP (fun hc => ?_) (fun hc => ?_)
  · refine quo_intro (by omega) (by omega) (by omega) ⟨⟨by omega, by omega⟩, ⟨rfl, y / 2, k + 1, by simp only; omega, by simp only; omega, by omega, ?_⟩, by simp only; omega⟩
    have : y.log2 = (y / 2).log2 + 1 := by
      have h3 := blen_shift (x := y) (k := 1) (by omega)
      unfold blen at h3
      rw [if_neg (by omega), if_neg (by omega), Nat.pow_one] at h3
      omega
    omega
  · rw [r04_Log_b2_eq]
    have : y.log2 = 0 := by
      have : y = 0 ∨ y = 1 := by omega
      rcases this with h0 | h0 <;> subst h0 <;> decide
    refine ⟨?_, rfl⟩
    congr 1; omega
end Go.Proofs.Ytmlfoefadmlhpaa
