/- Plain statements of what each block of code of this seat asks; printed by a program, checked by Lean. -/
import Derived.Test.YtfkimbdjgadelaaSxV0
set_option maxRecDepth 10000
namespace Go.Proofs.Ytfkimbdjgadelaa
open Go Go.Sx

/-! ### l22_WaveletRanges -/
/-! ### l22_WaveletTops -/
/-! ### l22_WaveletSorts -/
/-! ### l22_WaveletReads -/
/-! ### l22_WaveletInverse -/
/-! ### l22_WaveletSplits -/
def l22_WaveletSplits_an : Ann := .node none (.leaf) (.node none (.leaf) (.node (some [0, 1, 2, 3, 4, 5]) (.leaf) (.node none (.leaf) (.node none (.leaf) (.node (some [0, 2, 3, 4, 5, 13, 14]) (.leaf) (.node none (.leaf) (.node none (.leaf) (.node none (.leaf) (.node none (.leaf) (.node none (.leaf) (.node none (.leaf) (.node none (.leaf) (.node (some [0, 14]) (.leaf) (.node (some []) (.node none (.leaf) (.loop [14, 163, 164] [(165, .int .i64)] (.node none (.leaf) (.node none (.leaf) (.node (some [14, 163, 164, 165]) (.leaf) (.leaf)))))) (.leaf)))))))))))))))
def l22_WaveletSplits_K0  (K : Value → Hp → Prop) : Exit → Env → Hp → Prop := retK Try.prog Try.f8.results.toList K
def l22_WaveletSplits_K1  (K : Value → Hp → Prop) : Exit → Env → Hp → Prop := thenE (fun env h => sx_2 Try.prog F 210 (cp [1, 1, 1, 1, 1, 1, 1, 1, 1, 1, 1, 1, 1, 1, 1] (bodyOf Try.f8)) (ap [1, 1, 1, 1, 1, 1, 1, 1, 1, 1, 1, 1, 1, 1, 1] l22_WaveletSplits_an) (rs [] env) h (l22_WaveletSplits_K0  K)) (l22_WaveletSplits_K0  K)
def l22_WaveletSplits_K2  (K : Value → Hp → Prop) : Exit → Env → Hp → Prop := blockE 0 (l22_WaveletSplits_K1  K)
def l22_WaveletSplits_K3 (nx0 : Int × Unit → Hp → Prop) (K : Value → Hp → Prop) : Exit → Env → Hp → Prop := thenE (fun env h => getV [(165, .int .i64)] env fun s => nx0 s h) (l22_WaveletSplits_K2  K)
def l22_WaveletSplits_b0 (l : Option Addr) (lL : Nat) (lC : Nat) (sigma : Int) (atv : Int) (low : Int) (mid : Int) (high : Int) (h : Hp)  (K : Value → Hp → Prop) : Prop :=
  sx_6 Try.prog F 210 (cp [] (bodyOf Try.f8)) (ap [] l22_WaveletSplits_an) [(0, .slice l lL lC), (1, .int .i64 sigma), (2, .int .u8 atv), (3, .int .i64 low), (4, .int .i64 mid), (5, .int .i64 high)] h (l22_WaveletSplits_K0  K)
def l22_WaveletSplits_b1 (l : Option Addr) (lL : Nat) (lC : Nat) (sigma : Int) (atv : Int) (low : Int) (mid : Int) (high : Int) (h : Hp)  (K : Value → Hp → Prop) : Prop :=
  sx_5 Try.prog F 210 (cp [1, 1, 1] (bodyOf Try.f8)) (ap [1, 1, 1] l22_WaveletSplits_an) [(0, .slice l lL lC), (1, .int .i64 sigma), (2, .int .u8 atv), (3, .int .i64 low), (4, .int .i64 mid), (5, .int .i64 high)] h (l22_WaveletSplits_K0  K)
def l22_WaveletSplits_b2 (l : Option Addr) (lL : Nat) (lC : Nat) (atv : Int) (low : Int) (mid : Int) (high : Int) (own : Option Addr) (ownL : Nat) (ownC : Nat) (t : Option Addr) (h : Hp)  (K : Value → Hp → Prop) : Prop :=
  sx_4 Try.prog F 210 (cp [1, 1, 1, 1, 1, 1] (bodyOf Try.f8)) (ap [1, 1, 1, 1, 1, 1] l22_WaveletSplits_an) [(0, .slice l lL lC), (2, .int .u8 atv), (3, .int .i64 low), (4, .int .i64 mid), (5, .int .i64 high), (13, .slice own ownL ownC), (14, .pointer t)] h (l22_WaveletSplits_K0  K)
def l22_WaveletSplits_b3 (l : Option Addr) (lL : Nat) (lC : Nat) (t : Option Addr) (h : Hp)  (K : Value → Hp → Prop) : Prop :=
  sx_3 Try.prog F 210 (cp [1, 1, 1, 1, 1, 1, 1, 1, 1, 1, 1, 1, 1, 1] (bodyOf Try.f8)) (ap [1, 1, 1, 1, 1, 1, 1, 1, 1, 1, 1, 1, 1, 1] l22_WaveletSplits_an) [(0, .slice l lL lC), (14, .pointer t)] h (l22_WaveletSplits_K0  K)
def l22_WaveletSplits_b4 (t165 : Int) (t : Option Addr) (t163 : Option Addr) (t163L : Nat) (t163C : Nat) (t164 : Int) (h : Hp) (nx0 : Int × Unit → Hp → Prop) (K : Value → Hp → Prop) : Prop :=
  sx_2 Try.prog F 210 (cp [1, 1, 1, 1, 1, 1, 1, 1, 1, 1, 1, 1, 1, 1, 0, 1, 2, 2] (bodyOf Try.f8)) (ap [1, 1, 1, 1, 1, 1, 1, 1, 1, 1, 1, 1, 1, 1, 0, 1, 2] l22_WaveletSplits_an) [(165, .int .i64 t165), (14, .pointer t), (163, .slice t163 t163L t163C), (164, .int .i64 t164)] h (l22_WaveletSplits_K3 nx0 K)
def l22_WaveletSplits_b5 (t : Option Addr) (t163 : Option Addr) (t163L : Nat) (t163C : Nat) (t164 : Int) (t165 : Int) (h : Hp) (nx0 : Int × Unit → Hp → Prop) (K : Value → Hp → Prop) : Prop :=
  sx_1 Try.prog F 210 (cp [1, 1, 1, 1, 1, 1, 1, 1, 1, 1, 1, 1, 1, 1, 0, 1, 2, 2, 1, 1, 1] (bodyOf Try.f8)) (ap [1, 1, 1, 1, 1, 1, 1, 1, 1, 1, 1, 1, 1, 1, 0, 1, 2, 1, 1, 1] l22_WaveletSplits_an) [(14, .pointer t), (163, .slice t163 t163L t163C), (164, .int .i64 t164), (165, .int .i64 t165)] h (l22_WaveletSplits_K3 nx0 K)
def l22_WaveletSplits_b6  (h : Hp)  (K : Value → Hp → Prop) : Prop :=
  sx_2 Try.prog F 210 (cp [1, 1, 1, 1, 1, 1, 1, 1, 1, 1, 1, 1, 1, 1, 1] (bodyOf Try.f8)) (ap [1, 1, 1, 1, 1, 1, 1, 1, 1, 1, 1, 1, 1, 1, 1] l22_WaveletSplits_an) [] h (l22_WaveletSplits_K0  K)
theorem l22_WaveletSplits_b0_eq (l : Option Addr) (lL : Nat) (lC : Nat) (sigma : Int) (atv : Int) (low : Int) (mid : Int) (high : Int) (h : Hp)  (K : Value → Hp → Prop) : l22_WaveletSplits_b0 l lL lC sigma atv low mid high h  K = (
  HCalls Try.prog 9 #[] h fun v1 h1 => ∃ r1 : Bool, v1 = .bool r1 ∧
  cond (!r1)
  (K (.bool false) h1)
  (HCalls Try.prog 10 #[.slice l lL lC] h1 fun v2 h2 => ∃ r2 : Bool, v2 = .bool r2 ∧
  cond r2
  (K (.bool true) h2)
  (HCalls Try.prog 21 #[.slice l lL lC, .int .i64 sigma] h2 fun v3 h3 => ∃ r3 : Int, v3 = .int .i64 r3 ∧
  cond (!decide (r3 = 0))
  (K (.bool true) h3)
  (cond (decide (mid < low))
  (K (.bool true) h3)
  (cond (decide (high < mid))
  (K (.bool true) h3)
  (cond (decide (low < (-1000000)))
  (K (.bool true) h3)
  (cond (decide ((1000000 : Int) < high))
  (K (.bool true) h3)
  (l22_WaveletSplits_b1 l lL lC sigma atv low mid high h3  K)))))))) := by kernel_rfl
theorem l22_WaveletSplits_b1_eq (l : Option Addr) (lL : Nat) (lC : Nat) (sigma : Int) (atv : Int) (low : Int) (mid : Int) (high : Int) (h : Hp)  (K : Value → Hp → Prop) : l22_WaveletSplits_b1 l lL lC sigma atv low mid high h  K = (
  HCalls Try.prog 32 #[.slice l lL lC] h fun v4 h4 => ∃ (r4 : Option Addr) (rL1 rC1 : Nat), v4 = .slice r4 rL1 rC1 ∧
  HCalls Try.prog 11 #[.slice r4 rL1 rC1, .int .i64 sigma] h4 fun v5 h5 => ∃ r5 : Option Addr, ∃ r6 : Bool, v5 = .tuple #[.pointer r5, .bool r6] ∧
  cond (!r6)
  (K (.bool false) h5)
  (cond r5.isNone
  (K (.bool false) h5)
  (l22_WaveletSplits_b2 l lL lC atv low mid high r4 rL1 rC1 r5 h5  K))) := by kernel_rfl
theorem l22_WaveletSplits_b2_eq (l : Option Addr) (lL : Nat) (lC : Nat) (atv : Int) (low : Int) (mid : Int) (high : Int) (own : Option Addr) (ownL : Nat) (ownC : Nat) (t : Option Addr) (h : Hp)  (K : Value → Hp → Prop) : l22_WaveletSplits_b2 l lL lC atv low mid high own ownL ownC t h  K = (
  clearV Try.prog 22 (.slice own ownL ownC) h fun h6 =>
  InR atv ∧
  InR ((lL : Int) + 1) ∧
  ∃ r7 : Int, Sx.Rem atv ((lL : Int) + 1) r7 ∧
  HCalls Try.prog 14 #[.pointer t, .int .i64 0, .int .i64 (lL : Int), .int .i64 low, .int .i64 high] h6 fun v6 h7 => ∃ r8 : Int, ∃ r9 : Int, v6 = .tuple #[.int .i64 r8, .int .i64 r9] ∧
  HCalls Try.prog 14 #[.pointer t, .int .i64 0, .int .i64 r7, .int .i64 low, .int .i64 high] h7 fun v7 h8 => ∃ r10 : Int, ∃ r11 : Int, v7 = .tuple #[.int .i64 r10, .int .i64 r11] ∧
  HCalls Try.prog 14 #[.pointer t, .int .i64 r7, .int .i64 (lL : Int), .int .i64 low, .int .i64 high] h8 fun v8 h9 => ∃ r12 : Int, ∃ r13 : Int, v8 = .tuple #[.int .i64 r12, .int .i64 r13] ∧
  HCalls Try.prog 14 #[.pointer t, .int .i64 0, .int .i64 (lL : Int), .int .i64 low, .int .i64 mid] h9 fun v9 h10 => ∃ r14 : Int, ∃ r15 : Int, v9 = .tuple #[.int .i64 r14, .int .i64 r15] ∧
  InR (mid + 1) ∧
  HCalls Try.prog 14 #[.pointer t, .int .i64 0, .int .i64 (lL : Int), .int .i64 (mid + 1), .int .i64 high] h10 fun v10 h11 => ∃ r16 : Int, ∃ r17 : Int, v10 = .tuple #[.int .i64 r16, .int .i64 r17] ∧
  cond (!decide (r9 = 0))
  (K (.bool false) h11)
  (cond (!decide (r11 = 0))
  (K (.bool false) h11)
  (cond (!decide (r13 = 0))
  (K (.bool false) h11)
  (cond (!decide (r15 = 0))
  (K (.bool false) h11)
  (cond (!decide (r17 = 0))
  (K (.bool false) h11)
  (InR (r10 + r12) ∧
  cond (!decide ((r10 + r12) = r8))
  (K (.bool false) h11)
  (InR (r14 + r16) ∧
  cond (!decide ((r14 + r16) = r8))
  (K (.bool false) h11)
  (l22_WaveletSplits_b3 l lL lC t h11  K)))))))) := by kernel_rfl
theorem l22_WaveletSplits_b3_eq (l : Option Addr) (lL : Nat) (lC : Nat) (t : Option Addr) (h : Hp)  (K : Value → Hp → Prop) : l22_WaveletSplits_b3 l lL lC t h  K = (
  LoopVC ((0, ()) : Int × Unit) h (fun (nx0 : Int × Unit → Hp → Prop) (s1 : Int × Unit) h12 => l22_WaveletSplits_b4 s1.1 t l lL lC (lL : Int) h12 nx0 K)) := by kernel_rfl
theorem l22_WaveletSplits_b4_eq (t165 : Int) (t : Option Addr) (t163 : Option Addr) (t163L : Nat) (t163C : Nat) (t164 : Int) (h : Hp) (nx0 : Int × Unit → Hp → Prop) (K : Value → Hp → Prop) : l22_WaveletSplits_b4 t165 t t163 t163L t163C t164 h nx0 K = (
  cond (decide (t165 < t164))
  ((0 ≤ t165 ∧ t165 < (t163L : Int)) ∧
  NN t163 fun a1 =>
  ∃ n1 : Int, cell h (a1.add (Int.toNat t165 * 1)) = some (.int .i64 n1) ∧
  HCalls Try.prog 23 #[.pointer t, .int .i64 t165] h fun v11 h13 => ∃ r18 : Int, ∃ r19 : Int, v11 = .tuple #[.int .i64 r18, .int .i64 r19] ∧
  cond (!decide (r19 = 0))
  (K (.bool false) h13)
  (cond (!decide (r18 = n1))
  (K (.bool false) h13)
  (l22_WaveletSplits_b5 t t163 t163L t163C t164 t165 h13 nx0 K)))
  (l22_WaveletSplits_b6  h  K)) := by kernel_rfl
theorem l22_WaveletSplits_b5_eq (t : Option Addr) (t163 : Option Addr) (t163L : Nat) (t163C : Nat) (t164 : Int) (t165 : Int) (h : Hp) (nx0 : Int × Unit → Hp → Prop) (K : Value → Hp → Prop) : l22_WaveletSplits_b5 t t163 t163L t163C t164 t165 h nx0 K = (
  InR (t165 + 1) ∧
  nx0 (t165 + 1, ()) h) := by kernel_rfl
theorem l22_WaveletSplits_b6_eq  (h : Hp)  (K : Value → Hp → Prop) : l22_WaveletSplits_b6  h  K = (
  HCalls Try.prog 23 #[.pointer none, .int .i64 0] h fun v12 h14 => ∃ r20 : Int, ∃ r21 : Int, v12 = .tuple #[.int .i64 r20, .int .i64 r21] ∧
  HCalls Try.prog 18 #[.pointer none, .int .i64 0, .int .i64 0, .int .i64 1] h14 fun v13 h15 => ∃ (r22 : Option Addr) (rL2 rC2 : Nat), ∃ r23 : Int, v13 = .tuple #[.slice r22 rL2 rC2, .int .i64 r23] ∧
  HCalls Try.prog 29 #[.pointer none] h15 fun v14 h16 => ∃ r24 : Int, v14 = .int .i64 r24 ∧
  cond (decide (r24 = 0))
  (HCalls Try.prog 30 #[.pointer none] h16 fun v15 h17 => ∃ r25 : Int, v15 = .int .i64 r25 ∧
  cond (decide (r25 = 0))
  (cond (decide (r21 = 1))
  (K (.bool (decide (r23 = 1))) h17)
  (K (.bool false) h17))
  (K (.bool false) h17))
  (K (.bool false) h16)) := by kernel_rfl
theorem l22_WaveletSplits_call {l : Option Addr} {lL : Nat} {lC : Nat} {sigma : Int} {atv : Int} {low : Int} {mid : Int} {high : Int} {h : Hp} {K : Value → Hp → Prop} (hk : l22_WaveletSplits_b0 l lL lC sigma atv low mid high h K) : HCalls Try.prog 8 #[.slice l lL lC, .int .i64 sigma, .int .u8 atv, .int .i64 low, .int .i64 mid, .int .i64 high] h K :=
  calls_of_snd l22_WaveletSplits_an Try.func8 (c := bodyOf Try.f8) rfl Try.ntmps8 (Nat.le_of_ble_eq_true rfl) (snd_6 F_ok F_mixed) hk

/-! ### l22_awake -/
def l22_awake_an : Ann := .node none (.leaf) (.node none (.leaf) (.node (some [1]) (.leaf) (.leaf)))
def l22_awake_K0  (K : Value → Hp → Prop) : Exit → Env → Hp → Prop := retK Try.prog Try.f9.results.toList K
def l22_awake_b0  (h : Hp)  (K : Value → Hp → Prop) : Prop :=
  sx_2 Try.prog F 115 (cp [] (bodyOf Try.f9)) (ap [] l22_awake_an) [] h (l22_awake_K0  K)
def l22_awake_b1 (t : Option Addr) (h : Hp)  (K : Value → Hp → Prop) : Prop :=
  sx_1 Try.prog F 115 (cp [1, 1, 1] (bodyOf Try.f9)) (ap [1, 1, 1] l22_awake_an) [(1, .pointer t)] h (l22_awake_K0  K)
theorem l22_awake_b0_eq  (h : Hp)  (K : Value → Hp → Prop) : l22_awake_b0  h  K = (
  New h (.cells #[.int .i64 3, .int .i64 1, .int .i64 4, .int .i64 1, .int .i64 5] 3) fun b1 h1 =>
  HCalls Try.prog 33 #[.slice (some ⟨b1, 0, none⟩) 5 5, .int .i64 6] h1 fun v1 h2 => ∃ r1 : Option Addr, ∃ r2 : Int, v1 = .tuple #[.pointer r1, .int .i64 r2] ∧
  cond (!decide (r2 = 0))
  (K (.bool false) h2)
  (cond r1.isNone
  (K (.bool false) h2)
  (HCalls Try.prog 29 #[.pointer r1] h2 fun v2 h3 => ∃ r3 : Int, v2 = .int .i64 r3 ∧
  cond (!decide (r3 = 5))
  (K (.bool false) h3)
  (HCalls Try.prog 30 #[.pointer r1] h3 fun v3 h4 => ∃ r4 : Int, v3 = .int .i64 r4 ∧
  cond (!decide (r4 = 15))
  (K (.bool false) h4)
  (l22_awake_b1 r1 h4  K))))) := by kernel_rfl
theorem l22_awake_b1_eq (t : Option Addr) (h : Hp)  (K : Value → Hp → Prop) : l22_awake_b1 t h  K = (
  HCalls Try.prog 25 #[.pointer t, .int .i64 1, .int .i64 4] h fun v4 h5 => ∃ r5 : Int, ∃ r6 : Int, v4 = .tuple #[.int .i64 r5, .int .i64 r6] ∧
  HCalls Try.prog 27 #[.pointer t, .int .i64 1, .int .i64 1] h5 fun v5 h6 => ∃ r7 : Int, ∃ r8 : Int, v5 = .tuple #[.int .i64 r7, .int .i64 r8] ∧
  HCalls Try.prog 12 #[.pointer t, .int .i64 0, .int .i64 5, .int .i64 2] h6 fun v6 h7 => ∃ r9 : Int, ∃ r10 : Int, v6 = .tuple #[.int .i64 r9, .int .i64 r10] ∧
  HCalls Try.prog 14 #[.pointer t, .int .i64 1, .int .i64 5, .int .i64 1, .int .i64 4] h7 fun v7 h8 => ∃ r11 : Int, ∃ r12 : Int, v7 = .tuple #[.int .i64 r11, .int .i64 r12] ∧
  HCalls Try.prog 16 #[.pointer t, .int .i64 0, .int .i64 5, .int .i64 2] h8 fun v8 h9 => ∃ r13 : Int, ∃ r14 : Int, v8 = .tuple #[.int .i64 r13, .int .i64 r14] ∧
  HCalls Try.prog 18 #[.pointer t, .int .i64 0, .int .i64 5, .int .i64 2] h9 fun v9 h10 => ∃ (r15 : Option Addr) (rL1 rC1 : Nat), ∃ r16 : Int, v9 = .tuple #[.slice r15 rL1 rC1, .int .i64 r16] ∧
  cond (decide (r6 = 0))
  (cond (decide (r5 = 2))
  (cond (decide (r8 = 0))
  (cond (decide (r7 = 3))
  (cond (decide (r10 = 0))
  (cond (decide (r9 = 3))
  (cond (decide (r12 = 0))
  (cond (decide (r11 = 3))
  (cond (decide (r14 = 0))
  (cond (decide (r13 = 3))
  (cond (decide (r16 = 0))
  (New h10 (.cells #[.int .i64 1, .int .i64 2, .int .i64 3, .int .i64 1] 42) fun b2 h11 =>
  HCalls Try.prog 20 #[.slice r15 rL1 rC1, .slice (some ⟨b2, 0, none⟩) 2 2] h11 fun v10 h12 => ∃ r17 : Bool, v10 = .bool r17 ∧
  K (.bool r17) h12)
  (K (.bool false) h10))
  (K (.bool false) h10))
  (K (.bool false) h10))
  (K (.bool false) h10))
  (K (.bool false) h10))
  (K (.bool false) h10))
  (K (.bool false) h10))
  (K (.bool false) h10))
  (K (.bool false) h10))
  (K (.bool false) h10))
  (K (.bool false) h10)) := by kernel_rfl
theorem l22_awake_call  {h : Hp} {K : Value → Hp → Prop} (hk : l22_awake_b0  h K) : HCalls Try.prog 9 #[] h K :=
  calls_of_snd l22_awake_an Try.func9 (c := bodyOf Try.f9) rfl Try.ntmps9 (Nat.le_of_ble_eq_true rfl) (snd_2 F_ok F_mixed) hk

/-! ### l22_long -/
def l22_long_an : Ann := .leaf
def l22_long_K0  (K : Value → Hp → Prop) : Exit → Env → Hp → Prop := retK Try.prog Try.f10.results.toList K
def l22_long_b0 (l : Option Addr) (lL : Nat) (lC : Nat) (h : Hp)  (K : Value → Hp → Prop) : Prop :=
  sx_1 Try.prog F 16 (cp [] (bodyOf Try.f10)) (ap [] l22_long_an) [(0, .slice l lL lC)] h (l22_long_K0  K)
theorem l22_long_b0_eq (l : Option Addr) (lL : Nat) (lC : Nat) (h : Hp)  (K : Value → Hp → Prop) : l22_long_b0 l lL lC h  K = (
  cond (decide ((60 : Int) < (lL : Int)))
  (cond (decide ((lL : Int) ≤ 4096))
  (K (.bool true) h)
  (K (.bool (decide ((5000 : Int) < (lL : Int)))) h))
  (K (.bool (decide ((5000 : Int) < (lL : Int)))) h)) := by kernel_rfl
theorem l22_long_call {l : Option Addr} {lL : Nat} {lC : Nat} {h : Hp} {K : Value → Hp → Prop} (hk : l22_long_b0 l lL lC h K) : HCalls Try.prog 10 #[.slice l lL lC] h K :=
  calls_of_snd l22_long_an Try.func10 (c := bodyOf Try.f10) rfl Try.ntmps10 (Nat.le_of_ble_eq_true rfl) (snd_1 F_ok F_mixed) hk

/-! ### l22_made -/
def l22_made_an : Ann := .node none (.leaf) (.node none (.leaf) (.node (some [6]) (.leaf) (.leaf)))
def l22_made_K0  (K : Value → Hp → Prop) : Exit → Env → Hp → Prop := retK Try.prog Try.f11.results.toList K
def l22_made_b0 (l : Option Addr) (lL : Nat) (lC : Nat) (sigma : Int) (h : Hp)  (K : Value → Hp → Prop) : Prop :=
  sx_2 Try.prog F 34 (cp [] (bodyOf Try.f11)) (ap [] l22_made_an) [(0, .slice l lL lC), (1, .int .i64 sigma)] h (l22_made_K0  K)
def l22_made_b1 (t : Option Addr) (h : Hp)  (K : Value → Hp → Prop) : Prop :=
  sx_1 Try.prog F 34 (cp [1, 1, 1] (bodyOf Try.f11)) (ap [1, 1, 1] l22_made_an) [(6, .pointer t)] h (l22_made_K0  K)
theorem l22_made_b0_eq (l : Option Addr) (lL : Nat) (lC : Nat) (sigma : Int) (h : Hp)  (K : Value → Hp → Prop) : l22_made_b0 l lL lC sigma h  K = (
  HCalls Try.prog 33 #[.slice l lL lC, .int .i64 sigma] h fun v1 h1 => ∃ r1 : Option Addr, ∃ r2 : Int, v1 = .tuple #[.pointer r1, .int .i64 r2] ∧
  HCalls Try.prog 21 #[.slice l lL lC, .int .i64 sigma] h1 fun v2 h2 => ∃ r3 : Int, v2 = .int .i64 r3 ∧
  cond (!decide (r3 = 0))
  (cond r1.isNone
  (K (.tuple #[.pointer none, .bool (decide (r2 = r3))]) h2)
  (K (.tuple #[.pointer none, .bool false]) h2))
  (cond (!decide (r2 = 0))
  (cond r1.isNone
  (K (.tuple #[.pointer none, .bool (decide (r2 = r3))]) h2)
  (K (.tuple #[.pointer none, .bool false]) h2))
  (l22_made_b1 r1 h2  K))) := by kernel_rfl
theorem l22_made_b1_eq (t : Option Addr) (h : Hp)  (K : Value → Hp → Prop) : l22_made_b1 t h  K = (
  K (.tuple #[.pointer t, .bool (!t.isNone)]) h) := by kernel_rfl
theorem l22_made_call {l : Option Addr} {lL : Nat} {lC : Nat} {sigma : Int} {h : Hp} {K : Value → Hp → Prop} (hk : l22_made_b0 l lL lC sigma h K) : HCalls Try.prog 11 #[.slice l lL lC, .int .i64 sigma] h K :=
  calls_of_snd l22_made_an Try.func11 (c := bodyOf Try.f11) rfl Try.ntmps11 (Nat.le_of_ble_eq_true rfl) (snd_2 F_ok F_mixed) hk

/-! ### wavelet_Tree_Quantile -/
def wavelet_Tree_Quantile_an : Ann := .node none (.leaf) (.node (some [0, 1, 2, 3]) (.leaf) (.node none (.leaf) (.node (some [10]) (.loop [0, 10] [(3, .int .i64)] (.leaf)) (.leaf))))
def wavelet_Tree_Quantile_K0  (K : Value → Hp → Prop) : Exit → Env → Hp → Prop := retK Try.prog Try.f12.results.toList K
def wavelet_Tree_Quantile_K1  (K : Value → Hp → Prop) : Exit → Env → Hp → Prop := thenE (fun env h => sx_1 Try.prog F 66 (cp [1, 1, 1, 1] (bodyOf Try.f12)) (ap [1, 1, 1, 1] wavelet_Tree_Quantile_an) (rs [10] env) h (wavelet_Tree_Quantile_K0  K)) (wavelet_Tree_Quantile_K0  K)
def wavelet_Tree_Quantile_K2  (K : Value → Hp → Prop) : Exit → Env → Hp → Prop := blockE 1 (wavelet_Tree_Quantile_K1  K)
def wavelet_Tree_Quantile_K3 (nx0 : Int × Unit → Hp → Prop) (K : Value → Hp → Prop) : Exit → Env → Hp → Prop := thenE (fun env h => getV [(3, .int .i64)] env fun s => nx0 s h) (wavelet_Tree_Quantile_K2  K)
def wavelet_Tree_Quantile_b0 (t : Option Addr) (fromv : Int) (to : Int) (k : Int) (h : Hp)  (K : Value → Hp → Prop) : Prop :=
  sx_3 Try.prog F 66 (cp [] (bodyOf Try.f12)) (ap [] wavelet_Tree_Quantile_an) [(0, .pointer t), (1, .int .i64 fromv), (2, .int .i64 to), (3, .int .i64 k)] h (wavelet_Tree_Quantile_K0  K)
def wavelet_Tree_Quantile_b1 (t : Option Addr) (fromv : Int) (to : Int) (k : Int) (h : Hp)  (K : Value → Hp → Prop) : Prop :=
  sx_2 Try.prog F 66 (cp [1, 1] (bodyOf Try.f12)) (ap [1, 1] wavelet_Tree_Quantile_an) [(0, .pointer t), (1, .int .i64 fromv), (2, .int .i64 to), (3, .int .i64 k)] h (wavelet_Tree_Quantile_K0  K)
def wavelet_Tree_Quantile_b2 (k : Int) (t : Option Addr) (x : Option Addr) (h : Hp) (nx0 : Int × Unit → Hp → Prop) (K : Value → Hp → Prop) : Prop :=
  sx_1 Try.prog F 66 (cp [1, 1, 1, 0, 2, 2] (bodyOf Try.f12)) (ap [1, 1, 1, 0, 2] wavelet_Tree_Quantile_an) [(3, .int .i64 k), (0, .pointer t), (10, .pointer x)] h (wavelet_Tree_Quantile_K3 nx0 K)
def wavelet_Tree_Quantile_b3 (x : Option Addr) (h : Hp)  (K : Value → Hp → Prop) : Prop :=
  sx_1 Try.prog F 66 (cp [1, 1, 1, 1] (bodyOf Try.f12)) (ap [1, 1, 1, 1] wavelet_Tree_Quantile_an) [(10, .pointer x)] h (wavelet_Tree_Quantile_K0  K)
theorem wavelet_Tree_Quantile_b0_eq (t : Option Addr) (fromv : Int) (to : Int) (k : Int) (h : Hp)  (K : Value → Hp → Prop) : wavelet_Tree_Quantile_b0 t fromv to k h  K = (
  cond t.isNone
  (K (.tuple #[.int .i64 0, .int .i64 1]) h)
  (HCalls Try.prog 34 #[.pointer t, .int .i64 fromv, .int .i64 to] h fun v1 h1 => ∃ r1 : Bool, v1 = .bool r1 ∧
  cond (!r1)
  (K (.tuple #[.int .i64 0, .int .i64 2]) h1)
  (cond (decide (k < 0))
  (K (.tuple #[.int .i64 0, .int .i64 2]) h1)
  (InR (to - fromv) ∧
  cond (decide ((to - fromv) ≤ k))
  (K (.tuple #[.int .i64 0, .int .i64 2]) h1)
  (wavelet_Tree_Quantile_b1 t fromv to k h1  K))))) := by kernel_rfl
theorem wavelet_Tree_Quantile_b1_eq (t : Option Addr) (fromv : Int) (to : Int) (k : Int) (h : Hp)  (K : Value → Hp → Prop) : wavelet_Tree_Quantile_b1 t fromv to k h  K = (
  HCalls Try.prog 35 #[.pointer t, .int .i64 fromv, .int .i64 to] h fun v2 h2 => ∃ r2 : Int, ∃ r3 : Int, ∃ r4 : Int, ∃ r5 : Int, ∃ r6 : Int, ∃ r7 : Int, v2 = .agg #[.int .i64 r2, .int .i64 r3, .int .i64 r4, .int .i64 r5, .int .i64 r6, .int .i64 r7] ∧
  New h2 (.cells #[.int .i64 0, .int .i64 0, .int .i64 0, .int .i64 0, .int .i64 0, .int .i64 0] 60) fun b1 h3 =>
  Wr h3 ⟨b1, 0, none⟩ (.int .i64 r2) fun h4 =>
  Wr h4 ((⟨b1, 0, none⟩ : Addr).add 1) (.int .i64 r3) fun h5 =>
  Wr h5 ((⟨b1, 0, none⟩ : Addr).add 2) (.int .i64 r4) fun h6 =>
  Wr h6 ((⟨b1, 0, none⟩ : Addr).add 3) (.int .i64 r5) fun h7 =>
  Wr h7 ((⟨b1, 0, none⟩ : Addr).add 4) (.int .i64 r6) fun h8 =>
  Wr h8 ((⟨b1, 0, none⟩ : Addr).add 5) (.int .i64 r7) fun h9 =>
  LoopVC ((k, ()) : Int × Unit) h9 (fun (nx0 : Int × Unit → Hp → Prop) (s1 : Int × Unit) h10 => wavelet_Tree_Quantile_b2 s1.1 t (some ⟨b1, 0, none⟩) h10 nx0 K)) := by kernel_rfl
theorem wavelet_Tree_Quantile_b2_eq (k : Int) (t : Option Addr) (x : Option Addr) (h : Hp) (nx0 : Int × Unit → Hp → Prop) (K : Value → Hp → Prop) : wavelet_Tree_Quantile_b2 k t x h nx0 K = (
  NN x fun a1 =>
  ∃ n1 : Int, cell h a1 = some (.int .i64 n1) ∧
  NN t fun a2 =>
  ∃ n2 : Int, cell h (a2.add 2) = some (.int .i64 n2) ∧
  cond (decide (n1 < n2))
  (NN x fun a3 =>
  ∃ n3 : Int, ∃ n4 : Int, ∃ n5 : Int, ∃ n6 : Int, ∃ n7 : Int, ∃ n8 : Int, cell h a3 = some (.int .i64 n3) ∧
  cell h (a3.add 1) = some (.int .i64 n4) ∧
  cell h (a3.add 2) = some (.int .i64 n5) ∧
  cell h (a3.add 3) = some (.int .i64 n6) ∧
  cell h (a3.add 4) = some (.int .i64 n7) ∧
  cell h (a3.add 5) = some (.int .i64 n8) ∧
  HCalls Try.prog 36 #[.pointer t, .agg #[.int .i64 n3, .int .i64 n4, .int .i64 n5, .int .i64 n6, .int .i64 n7, .int .i64 n8]] h fun v3 h11 => ∃ r8 : Int, ∃ r9 : Int, ∃ r10 : Int, ∃ r11 : Int, ∃ r12 : Int, ∃ r13 : Int, ∃ r14 : Int, ∃ r15 : Int, ∃ r16 : Int, ∃ r17 : Int, ∃ r18 : Int, ∃ r19 : Int, v3 = .tuple #[.agg #[.int .i64 r8, .int .i64 r9, .int .i64 r10, .int .i64 r11, .int .i64 r12, .int .i64 r13], .agg #[.int .i64 r14, .int .i64 r15, .int .i64 r16, .int .i64 r17, .int .i64 r18, .int .i64 r19]] ∧
  New h11 (.cells #[.int .i64 0, .int .i64 0, .int .i64 0, .int .i64 0, .int .i64 0, .int .i64 0] 60) fun b2 h12 =>
  New h12 (.cells #[.int .i64 0, .int .i64 0, .int .i64 0, .int .i64 0, .int .i64 0, .int .i64 0] 60) fun b3 h13 =>
  Wr h13 ⟨b2, 0, none⟩ (.int .i64 r8) fun h14 =>
  Wr h14 ((⟨b2, 0, none⟩ : Addr).add 1) (.int .i64 r9) fun h15 =>
  Wr h15 ((⟨b2, 0, none⟩ : Addr).add 2) (.int .i64 r10) fun h16 =>
  Wr h16 ((⟨b2, 0, none⟩ : Addr).add 3) (.int .i64 r11) fun h17 =>
  Wr h17 ((⟨b2, 0, none⟩ : Addr).add 4) (.int .i64 r12) fun h18 =>
  Wr h18 ((⟨b2, 0, none⟩ : Addr).add 5) (.int .i64 r13) fun h19 =>
  Wr h19 ⟨b3, 0, none⟩ (.int .i64 r14) fun h20 =>
  Wr h20 ((⟨b3, 0, none⟩ : Addr).add 1) (.int .i64 r15) fun h21 =>
  Wr h21 ((⟨b3, 0, none⟩ : Addr).add 2) (.int .i64 r16) fun h22 =>
  Wr h22 ((⟨b3, 0, none⟩ : Addr).add 3) (.int .i64 r17) fun h23 =>
  Wr h23 ((⟨b3, 0, none⟩ : Addr).add 4) (.int .i64 r18) fun h24 =>
  Wr h24 ((⟨b3, 0, none⟩ : Addr).add 5) (.int .i64 r19) fun h25 =>
  ∃ n9 : Int, cell h25 ((⟨b2, 0, none⟩ : Addr).add 4) = some (.int .i64 n9) ∧
  ∃ n10 : Int, cell h25 ((⟨b2, 0, none⟩ : Addr).add 3) = some (.int .i64 n10) ∧
  InR (n9 - n10) ∧
  cond (decide (k < (n9 - n10)))
  (∃ n11 : Int, ∃ n12 : Int, ∃ n13 : Int, ∃ n14 : Int, ∃ n15 : Int, ∃ n16 : Int, cell h25 ⟨b2, 0, none⟩ = some (.int .i64 n11) ∧
  cell h25 ((⟨b2, 0, none⟩ : Addr).add 1) = some (.int .i64 n12) ∧
  cell h25 ((⟨b2, 0, none⟩ : Addr).add 2) = some (.int .i64 n13) ∧
  cell h25 ((⟨b2, 0, none⟩ : Addr).add 3) = some (.int .i64 n14) ∧
  cell h25 ((⟨b2, 0, none⟩ : Addr).add 4) = some (.int .i64 n15) ∧
  cell h25 ((⟨b2, 0, none⟩ : Addr).add 5) = some (.int .i64 n16) ∧
  NN x fun a4 =>
  Wr h25 a4 (.int .i64 n11) fun h26 =>
  Wr h26 (a4.add 1) (.int .i64 n12) fun h27 =>
  Wr h27 (a4.add 2) (.int .i64 n13) fun h28 =>
  Wr h28 (a4.add 3) (.int .i64 n14) fun h29 =>
  Wr h29 (a4.add 4) (.int .i64 n15) fun h30 =>
  Wr h30 (a4.add 5) (.int .i64 n16) fun h31 =>
  nx0 (k, ()) h31)
  (∃ n17 : Int, ∃ n18 : Int, ∃ n19 : Int, ∃ n20 : Int, ∃ n21 : Int, ∃ n22 : Int, cell h25 ⟨b3, 0, none⟩ = some (.int .i64 n17) ∧
  cell h25 ((⟨b3, 0, none⟩ : Addr).add 1) = some (.int .i64 n18) ∧
  cell h25 ((⟨b3, 0, none⟩ : Addr).add 2) = some (.int .i64 n19) ∧
  cell h25 ((⟨b3, 0, none⟩ : Addr).add 3) = some (.int .i64 n20) ∧
  cell h25 ((⟨b3, 0, none⟩ : Addr).add 4) = some (.int .i64 n21) ∧
  cell h25 ((⟨b3, 0, none⟩ : Addr).add 5) = some (.int .i64 n22) ∧
  InR (k - (n9 - n10)) ∧
  NN x fun a5 =>
  Wr h25 a5 (.int .i64 n17) fun h32 =>
  Wr h32 (a5.add 1) (.int .i64 n18) fun h33 =>
  Wr h33 (a5.add 2) (.int .i64 n19) fun h34 =>
  Wr h34 (a5.add 3) (.int .i64 n20) fun h35 =>
  Wr h35 (a5.add 4) (.int .i64 n21) fun h36 =>
  Wr h36 (a5.add 5) (.int .i64 n22) fun h37 =>
  nx0 (k - (n9 - n10), ()) h37))
  (wavelet_Tree_Quantile_b3 x h  K)) := by kernel_rfl
theorem wavelet_Tree_Quantile_b3_eq (x : Option Addr) (h : Hp)  (K : Value → Hp → Prop) : wavelet_Tree_Quantile_b3 x h  K = (
  NN x fun a6 =>
  ∃ n23 : Int, cell h (a6.add 5) = some (.int .i64 n23) ∧
  K (.tuple #[.int .i64 n23, .int .i64 0]) h) := by kernel_rfl
theorem wavelet_Tree_Quantile_call {t : Option Addr} {fromv : Int} {to : Int} {k : Int} {h : Hp} {K : Value → Hp → Prop} (hk : wavelet_Tree_Quantile_b0 t fromv to k h K) : HCalls Try.prog 12 #[.pointer t, .int .i64 fromv, .int .i64 to, .int .i64 k] h K :=
  calls_of_snd wavelet_Tree_Quantile_an Try.func12 (c := bodyOf Try.f12) rfl Try.ntmps12 (Nat.le_of_ble_eq_true rfl) (snd_3 F_ok F_mixed) hk

/-! ### r22_Quantile -/
/-! ### wavelet_Tree_Count -/
def wavelet_Tree_Count_an : Ann := .node none (.leaf) (.node none (.leaf) (.node none (.leaf) (.node none (.node none (.leaf) (.range [60] [])) (.leaf))))
def wavelet_Tree_Count_b0 (t : Option Addr) (fromv : Int) (to : Int) (low : Int) (high : Int) (h : Hp) (K : Value → Hp → Prop) : Prop :=
  sxJ Try.prog F 38 (bodyOf Try.f14) wavelet_Tree_Count_an [(0, .pointer t), (1, .int .i64 fromv), (2, .int .i64 to), (3, .int .i64 low), (4, .int .i64 high)] h (retJ Try.prog Try.f14.results.toList K)
theorem wavelet_Tree_Count_b0_eq (t : Option Addr) (fromv : Int) (to : Int) (low : Int) (high : Int) (h : Hp) (K : Value → Hp → Prop) : wavelet_Tree_Count_b0 t fromv to low high h K = (
  cond t.isNone
  (K (.tuple #[.int .i64 0, .int .i64 1]) h)
  (HCalls Try.prog 34 #[.pointer t, .int .i64 fromv, .int .i64 to] h fun v1 h1 => ∃ r1 : Bool, v1 = .bool r1 ∧
  cond (!r1)
  (K (.tuple #[.int .i64 0, .int .i64 2]) h1)
  (New h1 (.cells #[.int .i64 0] 3) fun b1 h2 =>
  Wr h2 ⟨b1, 0, none⟩ (.int .i64 0) fun h3 =>
  HCalls Try.prog 38 #[.pointer t, .int .i64 fromv, .int .i64 to, .int .i64 low, .int .i64 high] h3 fun v2 h4 => ∃ r2 : Value, v2 = r2 ∧
  ∃ (gf1 : Nat) (lb1 : Array Value), (r2 : Value) = .func (.func gf1) #[] lb1 ∧ F gf1 = true ∧ ∀ rec1 : LoopState → Option Code → Loop,
  (∀ x1 : Int, ∀ x2 : Int, ∀ x3 : Int, ∀ x4 : Int, ∀ x5 : Int, ∀ x6 : Int, ∀ (h5 : Hp) (Kr1 : Value → Hp → Prop), LpS rec1 (h4.size + 1) h5 .ready none →
  (New h5 (.cells #[.int .i64 0, .int .i64 0, .int .i64 0, .int .i64 0, .int .i64 0, .int .i64 0] 60) fun b2 h7 =>
  Wr h7 ⟨b2, 0, none⟩ (.int .i64 x1) fun h8 =>
  Wr h8 ((⟨b2, 0, none⟩ : Addr).add 1) (.int .i64 x2) fun h9 =>
  Wr h9 ((⟨b2, 0, none⟩ : Addr).add 2) (.int .i64 x3) fun h10 =>
  Wr h10 ((⟨b2, 0, none⟩ : Addr).add 3) (.int .i64 x4) fun h11 =>
  Wr h11 ((⟨b2, 0, none⟩ : Addr).add 4) (.int .i64 x5) fun h12 =>
  Wr h12 ((⟨b2, 0, none⟩ : Addr).add 5) (.int .i64 x6) fun h13 =>
  LpS rec1 (h4.size + 1) h13 .ready none ∧
  ∃ n1 : Int, cell (setLp rec1 (h4.size + 1) h13 .busy none) ⟨b1, 0, none⟩ = some (.int .i64 n1) ∧
  ∃ n2 : Int, cell (setLp rec1 (h4.size + 1) h13 .busy none) ((⟨b2, 0, none⟩ : Addr).add 4) = some (.int .i64 n2) ∧
  ∃ n3 : Int, cell (setLp rec1 (h4.size + 1) h13 .busy none) ((⟨b2, 0, none⟩ : Addr).add 3) = some (.int .i64 n3) ∧
  InR (n2 - n3) ∧
  InR (n1 + (n2 - n3)) ∧
  Wr (setLp rec1 (h4.size + 1) h13 .busy none) ⟨b1, 0, none⟩ (.int .i64 (n1 + (n2 - n3))) fun h14 =>
  LpS rec1 (h4.size + 1) h14 .busy none ∧ Kr1 (.bool true) (setLp rec1 (h4.size + 1) h14 .ready none)) →
  YCalls Try.prog (h4.size + 1) #[.agg #[.int .i64 x1, .int .i64 x2, .int .i64 x3, .int .i64 x4, .int .i64 x5, .int .i64 x6]] h5 Kr1) →
  HCalls Try.prog gf1 (#[.func (.yield (h4.size + 1)) #[] #[]] ++ lb1) (rangeH h4 rec1) fun v3 h6 => ∃ (st1 : LoopState) (pe1 : Option Code), LpS rec1 (h4.size + 1) h6 st1 pe1 ∧ st1 ≠ .busy ∧
  ((pe1 = none ∧
  ∃ n4 : Int, cell (setLp rec1 (h4.size + 1) h6 .exhausted pe1) ⟨b1, 0, none⟩ = some (.int .i64 n4) ∧
  ((setLp rec1 (h4.size + 1) h6 .exhausted pe1)[h4.size]? = some (.deferred (some []))) ∧
  K (.tuple #[.int .i64 n4, .int .i64 0]) ((setLp rec1 (h4.size + 1) h6 .exhausted pe1).setIfInBounds (h4.size) (.deferred none))) ∨
  (pe1 = some .ret ∧
  ((setLp rec1 (h4.size + 1) h6 .exhausted pe1)[h4.size]? = some (.deferred (some []))) ∧
  K (.tuple #[.int .i64 0, .int .i64 0]) ((setLp rec1 (h4.size + 1) h6 .exhausted pe1).setIfInBounds (h4.size) (.deferred none))) ∨
  False)))) := by kernel_rfl
theorem wavelet_Tree_Count_call {t : Option Addr} {fromv : Int} {to : Int} {low : Int} {high : Int} {h : Hp} {K : Value → Hp → Prop} (hk : wavelet_Tree_Count_b0 t fromv to low high h K) : HCalls Try.prog 14 #[.pointer t, .int .i64 fromv, .int .i64 to, .int .i64 low, .int .i64 high] h K :=
  calls_of_J F_ok F_mixed wavelet_Tree_Count_an Try.func14 (c := bodyOf Try.f14) rfl Try.ntmps14 (Nat.le_of_ble_eq_true rfl) hk

/-! ### r22_Count -/
/-! ### wavelet_Tree_Next -/
def wavelet_Tree_Next_an : Ann := .node none (.leaf) (.node none (.leaf) (.node none (.node none (.leaf) (.range [60] [])) (.leaf)))
def wavelet_Tree_Next_b0 (t : Option Addr) (fromv : Int) (to : Int) (low : Int) (h : Hp) (K : Value → Hp → Prop) : Prop :=
  sxJ Try.prog F 32 (bodyOf Try.f16) wavelet_Tree_Next_an [(0, .pointer t), (1, .int .i64 fromv), (2, .int .i64 to), (3, .int .i64 low)] h (retJ Try.prog Try.f16.results.toList K)
theorem wavelet_Tree_Next_b0_eq (t : Option Addr) (fromv : Int) (to : Int) (low : Int) (h : Hp) (K : Value → Hp → Prop) : wavelet_Tree_Next_b0 t fromv to low h K = (
  New h (.cells #[.int .i64 0] 3) fun b1 h1 =>
  New h1 (.cells #[.int .i64 0] 28) fun b2 h2 =>
  cond t.isNone
  (Wr h2 ⟨b1, 0, none⟩ (.int .i64 0) fun h3 =>
  Wr h3 ⟨b2, 0, none⟩ (.int .i64 1) fun h4 =>
  ∃ r1 : Int, cell h4 ⟨b1, 0, none⟩ = some (.int .i64 r1) ∧
  ∃ r2 : Int, cell h4 ⟨b2, 0, none⟩ = some (.int .i64 r2) ∧
  K (.tuple #[.int .i64 r1, .int .i64 r2]) h4)
  (HCalls Try.prog 34 #[.pointer t, .int .i64 fromv, .int .i64 to] h2 fun v1 h5 => ∃ r3 : Bool, v1 = .bool r3 ∧
  cond (!r3)
  (Wr h5 ⟨b1, 0, none⟩ (.int .i64 0) fun h6 =>
  Wr h6 ⟨b2, 0, none⟩ (.int .i64 2) fun h7 =>
  ∃ r4 : Int, cell h7 ⟨b1, 0, none⟩ = some (.int .i64 r4) ∧
  ∃ r5 : Int, cell h7 ⟨b2, 0, none⟩ = some (.int .i64 r5) ∧
  K (.tuple #[.int .i64 r4, .int .i64 r5]) h7)
  (NN t fun a1 =>
  ∃ n1 : Int, cell h5 (a1.add 1) = some (.int .i64 n1) ∧
  HCalls Try.prog 38 #[.pointer t, .int .i64 fromv, .int .i64 to, .int .i64 low, .int .i64 n1] h5 fun v2 h8 => ∃ r6 : Value, v2 = r6 ∧
  ∃ (gf1 : Nat) (lb1 : Array Value), (r6 : Value) = .func (.func gf1) #[] lb1 ∧ F gf1 = true ∧ ∀ rec1 : LoopState → Option Code → Loop,
  (∀ x1 : Int, ∀ x2 : Int, ∀ x3 : Int, ∀ x4 : Int, ∀ x5 : Int, ∀ x6 : Int, ∀ (h9 : Hp) (Kr1 : Value → Hp → Prop), LpS rec1 (h8.size + 1) h9 .ready none →
  (New h9 (.cells #[.int .i64 0, .int .i64 0, .int .i64 0, .int .i64 0, .int .i64 0, .int .i64 0] 60) fun b3 h11 =>
  Wr h11 ⟨b3, 0, none⟩ (.int .i64 x1) fun h12 =>
  Wr h12 ((⟨b3, 0, none⟩ : Addr).add 1) (.int .i64 x2) fun h13 =>
  Wr h13 ((⟨b3, 0, none⟩ : Addr).add 2) (.int .i64 x3) fun h14 =>
  Wr h14 ((⟨b3, 0, none⟩ : Addr).add 3) (.int .i64 x4) fun h15 =>
  Wr h15 ((⟨b3, 0, none⟩ : Addr).add 4) (.int .i64 x5) fun h16 =>
  Wr h16 ((⟨b3, 0, none⟩ : Addr).add 5) (.int .i64 x6) fun h17 =>
  LpS rec1 (h8.size + 1) h17 .ready none ∧
  ∃ n2 : Int, cell (setLp rec1 (h8.size + 1) h17 .busy none) ((⟨b3, 0, none⟩ : Addr).add 5) = some (.int .i64 n2) ∧
  Wr (setLp rec1 (h8.size + 1) h17 .busy none) ⟨b1, 0, none⟩ (.int .i64 n2) fun h18 =>
  Wr h18 ⟨b2, 0, none⟩ (.int .i64 0) fun h19 =>
  LpS rec1 (h8.size + 1) h19 .busy none ∧ Kr1 (.bool false) (setLp rec1 (h8.size + 1) h19 .done (some .ret))) →
  YCalls Try.prog (h8.size + 1) #[.agg #[.int .i64 x1, .int .i64 x2, .int .i64 x3, .int .i64 x4, .int .i64 x5, .int .i64 x6]] h9 Kr1) →
  HCalls Try.prog gf1 (#[.func (.yield (h8.size + 1)) #[] #[]] ++ lb1) (rangeH h8 rec1) fun v3 h10 => ∃ (st1 : LoopState) (pe1 : Option Code), LpS rec1 (h8.size + 1) h10 st1 pe1 ∧ st1 ≠ .busy ∧
  ((pe1 = none ∧
  Wr (setLp rec1 (h8.size + 1) h10 .exhausted pe1) ⟨b1, 0, none⟩ (.int .i64 0) fun h20 =>
  Wr h20 ⟨b2, 0, none⟩ (.int .i64 12) fun h21 =>
  (h21[h8.size]? = some (.deferred (some []))) ∧
  ∃ r7 : Int, cell (h21.setIfInBounds (h8.size) (.deferred none)) ⟨b1, 0, none⟩ = some (.int .i64 r7) ∧
  ∃ r8 : Int, cell (h21.setIfInBounds (h8.size) (.deferred none)) ⟨b2, 0, none⟩ = some (.int .i64 r8) ∧
  K (.tuple #[.int .i64 r7, .int .i64 r8]) (h21.setIfInBounds (h8.size) (.deferred none))) ∨
  (pe1 = some .ret ∧
  ((setLp rec1 (h8.size + 1) h10 .exhausted pe1)[h8.size]? = some (.deferred (some []))) ∧
  ∃ r9 : Int, cell ((setLp rec1 (h8.size + 1) h10 .exhausted pe1).setIfInBounds (h8.size) (.deferred none)) ⟨b1, 0, none⟩ = some (.int .i64 r9) ∧
  ∃ r10 : Int, cell ((setLp rec1 (h8.size + 1) h10 .exhausted pe1).setIfInBounds (h8.size) (.deferred none)) ⟨b2, 0, none⟩ = some (.int .i64 r10) ∧
  K (.tuple #[.int .i64 r9, .int .i64 r10]) ((setLp rec1 (h8.size + 1) h10 .exhausted pe1).setIfInBounds (h8.size) (.deferred none))) ∨
  False)))) := by kernel_rfl
theorem wavelet_Tree_Next_call {t : Option Addr} {fromv : Int} {to : Int} {low : Int} {h : Hp} {K : Value → Hp → Prop} (hk : wavelet_Tree_Next_b0 t fromv to low h K) : HCalls Try.prog 16 #[.pointer t, .int .i64 fromv, .int .i64 to, .int .i64 low] h K :=
  calls_of_J F_ok F_mixed wavelet_Tree_Next_an Try.func16 (c := bodyOf Try.f16) rfl Try.ntmps16 (Nat.le_of_ble_eq_true rfl) hk

/-! ### r22_Next -/
/-! ### wavelet_Tree_Top -/
def wavelet_Tree_Top_an : Ann := .node none (.leaf) (.node none (.leaf) (.node none (.leaf) (.node none (.node none (.leaf) (.range [60] [])) (.leaf))))
def wavelet_Tree_Top_b0 (t : Option Addr) (fromv : Int) (to : Int) (k : Int) (h : Hp) (K : Value → Hp → Prop) : Prop :=
  sxJ Try.prog F 58 (bodyOf Try.f18) wavelet_Tree_Top_an [(0, .pointer t), (1, .int .i64 fromv), (2, .int .i64 to), (3, .int .i64 k)] h (retJ Try.prog Try.f18.results.toList K)
theorem wavelet_Tree_Top_b0_eq (t : Option Addr) (fromv : Int) (to : Int) (k : Int) (h : Hp) (K : Value → Hp → Prop) : wavelet_Tree_Top_b0 t fromv to k h K = (
  cond t.isNone
  (K (.tuple #[.slice none 0 0, .int .i64 1]) h)
  (HCalls Try.prog 34 #[.pointer t, .int .i64 fromv, .int .i64 to] h fun v1 h1 => ∃ r1 : Bool, v1 = .bool r1 ∧
  cond (!r1)
  (K (.tuple #[.slice none 0 0, .int .i64 2]) h1)
  (cond (decide (k < 0))
  (K (.tuple #[.slice none 0 0, .int .i64 2]) h1)
  (cond (decide ((1000 : Int) < k))
  (K (.tuple #[.slice none 0 0, .int .i64 2]) h1)
  (New h1 (.cells #[.slice none 0 0] 36) fun b1 h2 =>
  NN t fun a1 =>
  ∃ n1 : Int, cell h2 (a1.add 1) = some (.int .i64 n1) ∧
  HCalls Try.prog 38 #[.pointer t, .int .i64 fromv, .int .i64 to, .int .i64 0, .int .i64 n1] h2 fun v2 h3 => ∃ r2 : Value, v2 = r2 ∧
  ∃ (gf1 : Nat) (lb1 : Array Value), (r2 : Value) = .func (.func gf1) #[] lb1 ∧ F gf1 = true ∧ ∀ rec1 : LoopState → Option Code → Loop,
  (∀ x1 : Int, ∀ x2 : Int, ∀ x3 : Int, ∀ x4 : Int, ∀ x5 : Int, ∀ x6 : Int, ∀ (h4 : Hp) (Kr1 : Value → Hp → Prop), LpS rec1 (h3.size + 1) h4 .ready none →
  (New h4 (.cells #[.int .i64 0, .int .i64 0, .int .i64 0, .int .i64 0, .int .i64 0, .int .i64 0] 60) fun b2 h6 =>
  Wr h6 ⟨b2, 0, none⟩ (.int .i64 x1) fun h7 =>
  Wr h7 ((⟨b2, 0, none⟩ : Addr).add 1) (.int .i64 x2) fun h8 =>
  Wr h8 ((⟨b2, 0, none⟩ : Addr).add 2) (.int .i64 x3) fun h9 =>
  Wr h9 ((⟨b2, 0, none⟩ : Addr).add 3) (.int .i64 x4) fun h10 =>
  Wr h10 ((⟨b2, 0, none⟩ : Addr).add 4) (.int .i64 x5) fun h11 =>
  Wr h11 ((⟨b2, 0, none⟩ : Addr).add 5) (.int .i64 x6) fun h12 =>
  LpS rec1 (h3.size + 1) h12 .ready none ∧
  ∃ (a2 : Option Addr) (L1 C1 : Nat), cell (setLp rec1 (h3.size + 1) h12 .busy none) ⟨b1, 0, none⟩ = some (.slice a2 L1 C1) ∧
  ∃ n2 : Int, cell (setLp rec1 (h3.size + 1) h12 .busy none) ((⟨b2, 0, none⟩ : Addr).add 5) = some (.int .i64 n2) ∧
  ∃ n3 : Int, cell (setLp rec1 (h3.size + 1) h12 .busy none) ((⟨b2, 0, none⟩ : Addr).add 4) = some (.int .i64 n3) ∧
  ∃ n4 : Int, cell (setLp rec1 (h3.size + 1) h12 .busy none) ((⟨b2, 0, none⟩ : Addr).add 3) = some (.int .i64 n4) ∧
  InR (n3 - n4) ∧
  New (setLp rec1 (h3.size + 1) h12 .busy none) (.cells #[.int .i64 n2, .int .i64 (n3 - n4)] 42) fun b3 h13 =>
  appendV Try.prog 36 36 (.slice a2 L1 C1) (.slice (some ⟨b3, 0, none⟩) 1 1) h13 (slK fun a3 l1 c1 h14 =>
  Wr h14 ⟨b1, 0, none⟩ (.slice a3 l1 c1) fun h15 =>
  LpS rec1 (h3.size + 1) h15 .busy none ∧ Kr1 (.bool true) (setLp rec1 (h3.size + 1) h15 .ready none))) →
  YCalls Try.prog (h3.size + 1) #[.agg #[.int .i64 x1, .int .i64 x2, .int .i64 x3, .int .i64 x4, .int .i64 x5, .int .i64 x6]] h4 Kr1) →
  HCalls Try.prog gf1 (#[.func (.yield (h3.size + 1)) #[] #[]] ++ lb1) (rangeH h3 rec1) fun v3 h5 => ∃ (st1 : LoopState) (pe1 : Option Code), LpS rec1 (h3.size + 1) h5 st1 pe1 ∧ st1 ≠ .busy ∧
  ((pe1 = none ∧
  ∃ (a4 : Option Addr) (L2 C2 : Nat), cell (setLp rec1 (h3.size + 1) h5 .exhausted pe1) ⟨b1, 0, none⟩ = some (.slice a4 L2 C2) ∧
  HCalls Try.prog 39 #[.slice a4 L2 C2, .func (.func 40) #[] #[]] (setLp rec1 (h3.size + 1) h5 .exhausted pe1) fun v4 h16 => v4 = .tuple #[] ∧
  ∃ (a5 : Option Addr) (L3 C3 : Nat), cell h16 ⟨b1, 0, none⟩ = some (.slice a5 L3 C3) ∧
  ∃ (a6 : Option Addr) (L4 C4 : Nat), cell h16 ⟨b1, 0, none⟩ = some (.slice a6 L4 C4) ∧
  (0 ≤ (0 : Int) ∧ (0 : Int) ≤ (if (L4 : Int) < k then (L4 : Int) else k) ∧ (if (L4 : Int) < k then (L4 : Int) else k) ≤ (C3 : Int)) ∧
  HCalls Try.prog 43 #[.slice (subAddr a5 C3 (Int.toNat (0 : Int)) 2) (Int.toNat (if (L4 : Int) < k then (L4 : Int) else k) - Int.toNat (0 : Int)) (C3 - Int.toNat (0 : Int))] h16 fun v5 h17 => ∃ (r3 : Option Addr) (rL1 rC1 : Nat), v5 = .slice r3 rL1 rC1 ∧
  (h17[h3.size]? = some (.deferred (some []))) ∧
  K (.tuple #[.slice r3 rL1 rC1, .int .i64 0]) (h17.setIfInBounds (h3.size) (.deferred none))) ∨
  (pe1 = some .ret ∧
  ((setLp rec1 (h3.size + 1) h5 .exhausted pe1)[h3.size]? = some (.deferred (some []))) ∧
  K (.tuple #[.slice none 0 0, .int .i64 0]) ((setLp rec1 (h3.size + 1) h5 .exhausted pe1).setIfInBounds (h3.size) (.deferred none))) ∨
  False)))))) := by kernel_rfl
theorem wavelet_Tree_Top_call {t : Option Addr} {fromv : Int} {to : Int} {k : Int} {h : Hp} {K : Value → Hp → Prop} (hk : wavelet_Tree_Top_b0 t fromv to k h K) : HCalls Try.prog 18 #[.pointer t, .int .i64 fromv, .int .i64 to, .int .i64 k] h K :=
  calls_of_J F_ok F_mixed wavelet_Tree_Top_an Try.func18 (c := bodyOf Try.f18) rfl Try.ntmps18 (Nat.le_of_ble_eq_true rfl) hk

/-! ### r22_Top -/
/-! ### slices_Equal_2_int_2_int -/
def slices_Equal_2_int_2_int_an : Ann := .node none (.leaf) (.node none (.leaf) (.node (some []) (.node none (.leaf) (.loop [0, 1, 12] [(13, .int .i64)] (.node none (.leaf) (.node none (.leaf) (.node (some [0, 1, 12, 13]) (.leaf) (.leaf)))))) (.leaf)))
def slices_Equal_2_int_2_int_K0  (K : Value → Hp → Prop) : Exit → Env → Hp → Prop := retK Try.prog Try.f20.results.toList K
def slices_Equal_2_int_2_int_K1  (K : Value → Hp → Prop) : Exit → Env → Hp → Prop := thenE (fun env h => sx_2 Try.prog F 26 (cp [1, 1, 1] (bodyOf Try.f20)) (ap [1, 1, 1] slices_Equal_2_int_2_int_an) (rs [] env) h (slices_Equal_2_int_2_int_K0  K)) (slices_Equal_2_int_2_int_K0  K)
def slices_Equal_2_int_2_int_K2  (K : Value → Hp → Prop) : Exit → Env → Hp → Prop := blockE 0 (slices_Equal_2_int_2_int_K1  K)
def slices_Equal_2_int_2_int_K3 (nx0 : Int × Unit → Hp → Prop) (K : Value → Hp → Prop) : Exit → Env → Hp → Prop := thenE (fun env h => getV [(13, .int .i64)] env fun s => nx0 s h) (slices_Equal_2_int_2_int_K2  K)
def slices_Equal_2_int_2_int_b0 (s1 : Option Addr) (s1L : Nat) (s1C : Nat) (s2 : Option Addr) (s2L : Nat) (s2C : Nat) (h : Hp)  (K : Value → Hp → Prop) : Prop :=
  sx_3 Try.prog F 26 (cp [] (bodyOf Try.f20)) (ap [] slices_Equal_2_int_2_int_an) [(0, .slice s1 s1L s1C), (1, .slice s2 s2L s2C)] h (slices_Equal_2_int_2_int_K0  K)
def slices_Equal_2_int_2_int_b1 (t13 : Int) (s1 : Option Addr) (s1L : Nat) (s1C : Nat) (s2 : Option Addr) (s2L : Nat) (s2C : Nat) (t12 : Int) (h : Hp) (nx0 : Int × Unit → Hp → Prop) (K : Value → Hp → Prop) : Prop :=
  sx_2 Try.prog F 26 (cp [1, 1, 0, 1, 2, 2] (bodyOf Try.f20)) (ap [1, 1, 0, 1, 2] slices_Equal_2_int_2_int_an) [(13, .int .i64 t13), (0, .slice s1 s1L s1C), (1, .slice s2 s2L s2C), (12, .int .i64 t12)] h (slices_Equal_2_int_2_int_K3 nx0 K)
def slices_Equal_2_int_2_int_b2 (s1 : Option Addr) (s1L : Nat) (s1C : Nat) (s2 : Option Addr) (s2L : Nat) (s2C : Nat) (t12 : Int) (t13 : Int) (h : Hp) (nx0 : Int × Unit → Hp → Prop) (K : Value → Hp → Prop) : Prop :=
  sx_1 Try.prog F 26 (cp [1, 1, 0, 1, 2, 2, 1, 1, 1] (bodyOf Try.f20)) (ap [1, 1, 0, 1, 2, 1, 1, 1] slices_Equal_2_int_2_int_an) [(0, .slice s1 s1L s1C), (1, .slice s2 s2L s2C), (12, .int .i64 t12), (13, .int .i64 t13)] h (slices_Equal_2_int_2_int_K3 nx0 K)
def slices_Equal_2_int_2_int_b3  (h : Hp)  (K : Value → Hp → Prop) : Prop :=
  sx_2 Try.prog F 26 (cp [1, 1, 1] (bodyOf Try.f20)) (ap [1, 1, 1] slices_Equal_2_int_2_int_an) [] h (slices_Equal_2_int_2_int_K0  K)
theorem slices_Equal_2_int_2_int_b0_eq (s1 : Option Addr) (s1L : Nat) (s1C : Nat) (s2 : Option Addr) (s2L : Nat) (s2C : Nat) (h : Hp)  (K : Value → Hp → Prop) : slices_Equal_2_int_2_int_b0 s1 s1L s1C s2 s2L s2C h  K = (
  cond (!decide ((s1L : Int) = (s2L : Int)))
  (K (.bool false) h)
  (LoopVC ((0, ()) : Int × Unit) h (fun (nx0 : Int × Unit → Hp → Prop) (s3 : Int × Unit) h1 => slices_Equal_2_int_2_int_b1 s3.1 s1 s1L s1C s2 s2L s2C (s1L : Int) h1 nx0 K))) := by kernel_rfl
theorem slices_Equal_2_int_2_int_b1_eq (t13 : Int) (s1 : Option Addr) (s1L : Nat) (s1C : Nat) (s2 : Option Addr) (s2L : Nat) (s2C : Nat) (t12 : Int) (h : Hp) (nx0 : Int × Unit → Hp → Prop) (K : Value → Hp → Prop) : slices_Equal_2_int_2_int_b1 t13 s1 s1L s1C s2 s2L s2C t12 h nx0 K = (
  cond (decide (t13 < t12))
  ((0 ≤ t13 ∧ t13 < (s1L : Int)) ∧
  NN s1 fun a1 =>
  ∃ n1 : Int, ∃ n2 : Int, cell h (a1.add (Int.toNat t13 * 2)) = some (.int .i64 n1) ∧
  cell h ((a1.add (Int.toNat t13 * 2)).add 1) = some (.int .i64 n2) ∧
  (0 ≤ t13 ∧ t13 < (s2L : Int)) ∧
  NN s2 fun a2 =>
  ∃ n3 : Int, ∃ n4 : Int, cell h (a2.add (Int.toNat t13 * 2)) = some (.int .i64 n3) ∧
  cell h ((a2.add (Int.toNat t13 * 2)).add 1) = some (.int .i64 n4) ∧
  ∃ b1 : Bool, eqC Try.prog .neq 42 (.tmp 19) (.tmp 23) (.agg #[.int .i64 n1, .int .i64 n2]) (.agg #[.int .i64 n3, .int .i64 n4]) h b1 ∧
  cond b1
  (K (.bool false) h)
  (slices_Equal_2_int_2_int_b2 s1 s1L s1C s2 s2L s2C t12 t13 h nx0 K))
  (slices_Equal_2_int_2_int_b3  h  K)) := by kernel_rfl
theorem slices_Equal_2_int_2_int_b2_eq (s1 : Option Addr) (s1L : Nat) (s1C : Nat) (s2 : Option Addr) (s2L : Nat) (s2C : Nat) (t12 : Int) (t13 : Int) (h : Hp) (nx0 : Int × Unit → Hp → Prop) (K : Value → Hp → Prop) : slices_Equal_2_int_2_int_b2 s1 s1L s1C s2 s2L s2C t12 t13 h nx0 K = (
  InR (t13 + 1) ∧
  nx0 (t13 + 1, ()) h) := by kernel_rfl
theorem slices_Equal_2_int_2_int_b3_eq  (h : Hp)  (K : Value → Hp → Prop) : slices_Equal_2_int_2_int_b3  h  K = (
  K (.bool true) h) := by kernel_rfl
theorem slices_Equal_2_int_2_int_call {s1 : Option Addr} {s1L : Nat} {s1C : Nat} {s2 : Option Addr} {s2L : Nat} {s2C : Nat} {h : Hp} {K : Value → Hp → Prop} (hk : slices_Equal_2_int_2_int_b0 s1 s1L s1C s2 s2L s2C h K) : HCalls Try.prog 20 #[.slice s1 s1L s1C, .slice s2 s2L s2C] h K :=
  calls_of_snd slices_Equal_2_int_2_int_an Try.func20 (c := bodyOf Try.f20) rfl Try.ntmps20 (Nat.le_of_ble_eq_true rfl) (snd_3 F_ok F_mixed) hk

/-! ### r22_Fault -/
def r22_Fault_an : Ann := .node none (.leaf) (.node (some [0, 1]) (.leaf) (.node (some [0]) (.node none (.leaf) (.loop [0, 1] [(5, .int .i64)] (.node none (.leaf) (.node (some [0, 1, 5]) (.leaf) (.leaf))))) (.leaf)))
def r22_Fault_K0  (K : Value → Hp → Prop) : Exit → Env → Hp → Prop := retK Try.prog Try.f21.results.toList K
def r22_Fault_K1  (K : Value → Hp → Prop) : Exit → Env → Hp → Prop := thenE (fun env h => sx_2 Try.prog F 34 (cp [1, 1, 1] (bodyOf Try.f21)) (ap [1, 1, 1] r22_Fault_an) (rs [0] env) h (r22_Fault_K0  K)) (r22_Fault_K0  K)
def r22_Fault_K2  (K : Value → Hp → Prop) : Exit → Env → Hp → Prop := blockE 0 (r22_Fault_K1  K)
def r22_Fault_K3 (nx0 : Int × Unit → Hp → Prop) (K : Value → Hp → Prop) : Exit → Env → Hp → Prop := thenE (fun env h => getV [(5, .int .i64)] env fun s => nx0 s h) (r22_Fault_K2  K)
def r22_Fault_b0 (l : Option Addr) (lL : Nat) (lC : Nat) (sigma : Int) (h : Hp)  (K : Value → Hp → Prop) : Prop :=
  sx_4 Try.prog F 34 (cp [] (bodyOf Try.f21)) (ap [] r22_Fault_an) [(0, .slice l lL lC), (1, .int .i64 sigma)] h (r22_Fault_K0  K)
def r22_Fault_b1 (l : Option Addr) (lL : Nat) (lC : Nat) (sigma : Int) (h : Hp)  (K : Value → Hp → Prop) : Prop :=
  sx_3 Try.prog F 34 (cp [1, 1] (bodyOf Try.f21)) (ap [1, 1] r22_Fault_an) [(0, .slice l lL lC), (1, .int .i64 sigma)] h (r22_Fault_K0  K)
def r22_Fault_b2 (i : Int) (l : Option Addr) (lL : Nat) (lC : Nat) (sigma : Int) (h : Hp) (nx0 : Int × Unit → Hp → Prop) (K : Value → Hp → Prop) : Prop :=
  sx_2 Try.prog F 34 (cp [1, 1, 0, 1, 2, 2] (bodyOf Try.f21)) (ap [1, 1, 0, 1, 2] r22_Fault_an) [(5, .int .i64 i), (0, .slice l lL lC), (1, .int .i64 sigma)] h (r22_Fault_K3 nx0 K)
def r22_Fault_b3 (l : Option Addr) (lL : Nat) (lC : Nat) (sigma : Int) (i : Int) (h : Hp) (nx0 : Int × Unit → Hp → Prop) (K : Value → Hp → Prop) : Prop :=
  sx_1 Try.prog F 34 (cp [1, 1, 0, 1, 2, 2, 1, 1] (bodyOf Try.f21)) (ap [1, 1, 0, 1, 2, 1, 1] r22_Fault_an) [(0, .slice l lL lC), (1, .int .i64 sigma), (5, .int .i64 i)] h (r22_Fault_K3 nx0 K)
def r22_Fault_b4 (l : Option Addr) (lL : Nat) (lC : Nat) (h : Hp)  (K : Value → Hp → Prop) : Prop :=
  sx_2 Try.prog F 34 (cp [1, 1, 1] (bodyOf Try.f21)) (ap [1, 1, 1] r22_Fault_an) [(0, .slice l lL lC)] h (r22_Fault_K0  K)
theorem r22_Fault_b0_eq (l : Option Addr) (lL : Nat) (lC : Nat) (sigma : Int) (h : Hp)  (K : Value → Hp → Prop) : r22_Fault_b0 l lL lC sigma h  K = (
  cond (decide (sigma < 1))
  (K (.int .i64 2) h)
  (cond (decide ((1024 : Int) < sigma))
  (K (.int .i64 2) h)
  (r22_Fault_b1 l lL lC sigma h  K))) := by kernel_rfl
theorem r22_Fault_b1_eq (l : Option Addr) (lL : Nat) (lC : Nat) (sigma : Int) (h : Hp)  (K : Value → Hp → Prop) : r22_Fault_b1 l lL lC sigma h  K = (
  LoopVC ((0, ()) : Int × Unit) h (fun (nx0 : Int × Unit → Hp → Prop) (s1 : Int × Unit) h1 => r22_Fault_b2 s1.1 l lL lC sigma h1 nx0 K)) := by kernel_rfl
theorem r22_Fault_b2_eq (i : Int) (l : Option Addr) (lL : Nat) (lC : Nat) (sigma : Int) (h : Hp) (nx0 : Int × Unit → Hp → Prop) (K : Value → Hp → Prop) : r22_Fault_b2 i l lL lC sigma h nx0 K = (
  cond (decide (i < (lL : Int)))
  ((0 ≤ i ∧ i < (lL : Int)) ∧
  NN l fun a1 =>
  ∃ n1 : Int, cell h (a1.add (Int.toNat i * 1)) = some (.int .i64 n1) ∧
  cond (decide (n1 < 0))
  (K (.int .i64 2) h)
  ((0 ≤ i ∧ i < (lL : Int)) ∧
  NN l fun a2 =>
  ∃ n2 : Int, cell h (a2.add (Int.toNat i * 1)) = some (.int .i64 n2) ∧
  cond (decide (sigma ≤ n2))
  (K (.int .i64 2) h)
  (r22_Fault_b3 l lL lC sigma i h nx0 K)))
  (r22_Fault_b4 l lL lC h  K)) := by kernel_rfl
theorem r22_Fault_b3_eq (l : Option Addr) (lL : Nat) (lC : Nat) (sigma : Int) (i : Int) (h : Hp) (nx0 : Int × Unit → Hp → Prop) (K : Value → Hp → Prop) : r22_Fault_b3 l lL lC sigma i h nx0 K = (
  InR (i + 1) ∧
  nx0 (i + 1, ()) h) := by kernel_rfl
theorem r22_Fault_b4_eq (l : Option Addr) (lL : Nat) (lC : Nat) (h : Hp)  (K : Value → Hp → Prop) : r22_Fault_b4 l lL lC h  K = (
  cond (decide ((4096 : Int) < (lL : Int)))
  (K (.int .i64 4) h)
  (K (.int .i64 0) h)) := by kernel_rfl
theorem r22_Fault_call {l : Option Addr} {lL : Nat} {lC : Nat} {sigma : Int} {h : Hp} {K : Value → Hp → Prop} (hk : r22_Fault_b0 l lL lC sigma h K) : HCalls Try.prog 21 #[.slice l lL lC, .int .i64 sigma] h K :=
  calls_of_snd r22_Fault_an Try.func21 (c := bodyOf Try.f21) rfl Try.ntmps21 (Nat.le_of_ble_eq_true rfl) (snd_4 F_ok F_mixed) hk

/-! ### r22_Range -/
end Go.Proofs.Ytfkimbdjgadelaa
