/- Plain statements of what each block of code of this seat asks; printed by a program, checked by Lean. -/
import Derived.Test.YtipmcfpjdebpdaaSxV0
set_option maxRecDepth 10000
namespace Go.Proofs.Ytipmcfpjdebpdaa
open Go Go.Sx

/-! ### wavelet_Make -/
def wavelet_Make_an : Ann := .node none (.leaf) (.node (some [0, 3]) (.leaf) (.node none (.leaf) (.node none (.leaf) (.node (some [0, 6]) (.loop [0, 3, 6] [] (.leaf)) (.node none (.leaf) (.node (some [6]) (.node none (.leaf) (.loop [0, 6, 52] [(53, .int .i64)] (.node none (.leaf) (.node none (.leaf) (.node (some [0, 6, 52, 53]) (.node none (.leaf) (.node none (.leaf) (.node none (.leaf) (.node (some [0, 6, 8, 9, 52, 53]) (.node none (.leaf) (.loop [0, 6, 8, 9, 52, 53, 66, 67] [(68, .int .i64)] (.node none (.leaf) (.node none (.leaf) (.node (some [0, 6, 8, 9, 52, 53, 66, 67, 68]) (.leaf) (.leaf)))))) (.leaf))))) (.leaf)))))) (.leaf)))))))
def wavelet_Make_K0  (K : Value → Hp → Prop) : Exit → Env → Hp → Prop := retK Try.prog Try.f40.results.toList K
def wavelet_Make_K1  (K : Value → Hp → Prop) : Exit → Env → Hp → Prop := thenE (fun env h => sx_4 Try.prog F 105 (cp [1, 1, 1, 1, 1] (bodyOf Try.f40)) (ap [1, 1, 1, 1, 1] wavelet_Make_an) (rs [0, 6] env) h (wavelet_Make_K0  K)) (wavelet_Make_K0  K)
def wavelet_Make_K2  (K : Value → Hp → Prop) : Exit → Env → Hp → Prop := blockE 0 (wavelet_Make_K1  K)
def wavelet_Make_K3 (nx0 : Unit → Hp → Prop) (K : Value → Hp → Prop) : Exit → Env → Hp → Prop := thenE (fun env h => getV [] env fun s => nx0 s h) (wavelet_Make_K2  K)
def wavelet_Make_K4  (K : Value → Hp → Prop) : Exit → Env → Hp → Prop := thenE (fun env h => sx_3 Try.prog F 105 (cp [1, 1, 1, 1, 1, 1, 1] (bodyOf Try.f40)) (ap [1, 1, 1, 1, 1, 1, 1] wavelet_Make_an) (rs [6] env) h (wavelet_Make_K0  K)) (wavelet_Make_K0  K)
def wavelet_Make_K5  (K : Value → Hp → Prop) : Exit → Env → Hp → Prop := blockE 2 (wavelet_Make_K4  K)
def wavelet_Make_K6 (nx0 : Int × Unit → Hp → Prop) (K : Value → Hp → Prop) : Exit → Env → Hp → Prop := thenE (fun env h => getV [(53, .int .i64)] env fun s => nx0 s h) (wavelet_Make_K5  K)
def wavelet_Make_K7 (nx0 : Int × Unit → Hp → Prop) (K : Value → Hp → Prop) : Exit → Env → Hp → Prop := thenE (fun env h => sx_2 Try.prog F 105 (cp [1, 1, 1, 1, 1, 1, 0, 1, 2, 2, 1, 1, 1] (bodyOf Try.f40)) (ap [1, 1, 1, 1, 1, 1, 0, 1, 2, 1, 1, 1] wavelet_Make_an) (rs [0, 6, 52, 53] env) h (wavelet_Make_K6 nx0 K)) (wavelet_Make_K6 nx0 K)
def wavelet_Make_K8 (nx0 : Int × Unit → Hp → Prop) (K : Value → Hp → Prop) : Exit → Env → Hp → Prop := blockE 3 (wavelet_Make_K7 nx0 K)
def wavelet_Make_K9 (nx0 : Int × Unit → Hp → Prop) (K : Value → Hp → Prop) : Exit → Env → Hp → Prop := thenE (fun env h => sx_2 Try.prog F 105 (cp [1, 1, 1, 1, 1, 1, 0, 1, 2, 2, 1, 1, 0, 2, 1, 1, 1, 1] (bodyOf Try.f40)) (ap [1, 1, 1, 1, 1, 1, 0, 1, 2, 1, 1, 0, 1, 1, 1, 1] wavelet_Make_an) (rs [0, 6, 8, 9, 52, 53] env) h (wavelet_Make_K8 nx0 K)) (wavelet_Make_K8 nx0 K)
def wavelet_Make_K10 (nx0 : Int × Unit → Hp → Prop) (K : Value → Hp → Prop) : Exit → Env → Hp → Prop := blockE 4 (wavelet_Make_K9 nx0 K)
def wavelet_Make_K11 (nx0 : Int × Unit → Hp → Prop) (nx1 : Int × Unit → Hp → Prop) (K : Value → Hp → Prop) : Exit → Env → Hp → Prop := thenE (fun env h => getV [(68, .int .i64)] env fun s => nx1 s h) (wavelet_Make_K10 nx0 K)
def wavelet_Make_b0 (l : Option Addr) (lL : Nat) (lC : Nat) (sigma : Int) (h : Hp)  (K : Value → Hp → Prop) : Prop :=
  sx_6 Try.prog F 105 (cp [] (bodyOf Try.f40)) (ap [] wavelet_Make_an) [(0, .slice l lL lC), (1, .int .i64 sigma)] h (wavelet_Make_K0  K)
def wavelet_Make_b1 (l : Option Addr) (lL : Nat) (lC : Nat) (sigma : Option Addr) (h : Hp)  (K : Value → Hp → Prop) : Prop :=
  sx_5 Try.prog F 105 (cp [1, 1] (bodyOf Try.f40)) (ap [1, 1] wavelet_Make_an) [(0, .slice l lL lC), (3, .pointer sigma)] h (wavelet_Make_K0  K)
def wavelet_Make_b2 (l : Option Addr) (lL : Nat) (lC : Nat) (sigma : Option Addr) (t : Option Addr) (h : Hp) (nx0 : Unit → Hp → Prop) (K : Value → Hp → Prop) : Prop :=
  sx_4 Try.prog F 105 (cp [1, 1, 1, 1, 0, 2, 2] (bodyOf Try.f40)) (ap [1, 1, 1, 1, 0, 2] wavelet_Make_an) [(0, .slice l lL lC), (3, .pointer sigma), (6, .pointer t)] h (wavelet_Make_K3 nx0 K)
def wavelet_Make_b3 (l : Option Addr) (lL : Nat) (lC : Nat) (t : Option Addr) (h : Hp)  (K : Value → Hp → Prop) : Prop :=
  sx_4 Try.prog F 105 (cp [1, 1, 1, 1, 1] (bodyOf Try.f40)) (ap [1, 1, 1, 1, 1] wavelet_Make_an) [(0, .slice l lL lC), (6, .pointer t)] h (wavelet_Make_K0  K)
def wavelet_Make_b4 (t53 : Int) (l : Option Addr) (lL : Nat) (lC : Nat) (t : Option Addr) (t52 : Int) (h : Hp) (nx0 : Int × Unit → Hp → Prop) (K : Value → Hp → Prop) : Prop :=
  sx_3 Try.prog F 105 (cp [1, 1, 1, 1, 1, 1, 0, 1, 2, 2] (bodyOf Try.f40)) (ap [1, 1, 1, 1, 1, 1, 0, 1, 2] wavelet_Make_an) [(53, .int .i64 t53), (0, .slice l lL lC), (6, .pointer t), (52, .int .i64 t52)] h (wavelet_Make_K6 nx0 K)
def wavelet_Make_b5 (t68 : Int) (l : Option Addr) (lL : Nat) (lC : Nat) (t : Option Addr) (shift : Option Addr) (bits : Option Addr) (bitsL : Nat) (bitsC : Nat) (t52 : Int) (t53 : Int) (t66 : Option Addr) (t66L : Nat) (t66C : Nat) (t67 : Int) (h : Hp) (nx0 : Int × Unit → Hp → Prop) (nx1 : Int × Unit → Hp → Prop) (K : Value → Hp → Prop) : Prop :=
  sx_2 Try.prog F 105 (cp [1, 1, 1, 1, 1, 1, 0, 1, 2, 2, 1, 1, 0, 2, 1, 1, 1, 0, 1, 2, 2] (bodyOf Try.f40)) (ap [1, 1, 1, 1, 1, 1, 0, 1, 2, 1, 1, 0, 1, 1, 1, 0, 1, 2] wavelet_Make_an) [(68, .int .i64 t68), (0, .slice l lL lC), (6, .pointer t), (8, .pointer shift), (9, .slice bits bitsL bitsC), (52, .int .i64 t52), (53, .int .i64 t53), (66, .slice t66 t66L t66C), (67, .int .i64 t67)] h (wavelet_Make_K11 nx0 nx1 K)
def wavelet_Make_b6 (t : Option Addr) (h : Hp)  (K : Value → Hp → Prop) : Prop :=
  sx_3 Try.prog F 105 (cp [1, 1, 1, 1, 1, 1, 1] (bodyOf Try.f40)) (ap [1, 1, 1, 1, 1, 1, 1] wavelet_Make_an) [(6, .pointer t)] h (wavelet_Make_K0  K)
def wavelet_Make_b7 (l : Option Addr) (lL : Nat) (lC : Nat) (t : Option Addr) (shift : Option Addr) (bits : Option Addr) (bitsL : Nat) (bitsC : Nat) (t52 : Int) (t53 : Int) (t66 : Option Addr) (t66L : Nat) (t66C : Nat) (t67 : Int) (t68 : Int) (h : Hp) (nx0 : Int × Unit → Hp → Prop) (nx1 : Int × Unit → Hp → Prop) (K : Value → Hp → Prop) : Prop :=
  sx_1 Try.prog F 105 (cp [1, 1, 1, 1, 1, 1, 0, 1, 2, 2, 1, 1, 0, 2, 1, 1, 1, 0, 1, 2, 2, 1, 1, 1] (bodyOf Try.f40)) (ap [1, 1, 1, 1, 1, 1, 0, 1, 2, 1, 1, 0, 1, 1, 1, 0, 1, 2, 1, 1, 1] wavelet_Make_an) [(0, .slice l lL lC), (6, .pointer t), (8, .pointer shift), (9, .slice bits bitsL bitsC), (52, .int .i64 t52), (53, .int .i64 t53), (66, .slice t66 t66L t66C), (67, .int .i64 t67), (68, .int .i64 t68)] h (wavelet_Make_K11 nx0 nx1 K)
def wavelet_Make_b8 (l : Option Addr) (lL : Nat) (lC : Nat) (t : Option Addr) (shift : Option Addr) (bits : Option Addr) (bitsL : Nat) (bitsC : Nat) (t52 : Int) (t53 : Int) (h : Hp) (nx0 : Int × Unit → Hp → Prop) (K : Value → Hp → Prop) : Prop :=
  sx_2 Try.prog F 105 (cp [1, 1, 1, 1, 1, 1, 0, 1, 2, 2, 1, 1, 0, 2, 1, 1, 1, 1] (bodyOf Try.f40)) (ap [1, 1, 1, 1, 1, 1, 0, 1, 2, 1, 1, 0, 1, 1, 1, 1] wavelet_Make_an) [(0, .slice l lL lC), (6, .pointer t), (8, .pointer shift), (9, .slice bits bitsL bitsC), (52, .int .i64 t52), (53, .int .i64 t53)] h (wavelet_Make_K8 nx0 K)
def wavelet_Make_b9 (l : Option Addr) (lL : Nat) (lC : Nat) (t : Option Addr) (t52 : Int) (t53 : Int) (h : Hp) (nx0 : Int × Unit → Hp → Prop) (K : Value → Hp → Prop) : Prop :=
  sx_2 Try.prog F 105 (cp [1, 1, 1, 1, 1, 1, 0, 1, 2, 2, 1, 1, 1] (bodyOf Try.f40)) (ap [1, 1, 1, 1, 1, 1, 0, 1, 2, 1, 1, 1] wavelet_Make_an) [(0, .slice l lL lC), (6, .pointer t), (52, .int .i64 t52), (53, .int .i64 t53)] h (wavelet_Make_K6 nx0 K)
theorem wavelet_Make_b0_eq (l : Option Addr) (lL : Nat) (lC : Nat) (sigma : Int) (h : Hp)  (K : Value → Hp → Prop) : wavelet_Make_b0 l lL lC sigma h  K = (
  New h (.cells #[.int .i64 sigma] 3) fun b1 h1 =>
  ∃ n1 : Int, cell h1 ⟨b1, 0, none⟩ = some (.int .i64 n1) ∧
  cond (decide (n1 < 1))
  (K (.tuple #[.pointer none, .int .i64 2]) h1)
  (∃ n2 : Int, cell h1 ⟨b1, 0, none⟩ = some (.int .i64 n2) ∧
  cond (decide ((1024 : Int) < n2))
  (K (.tuple #[.pointer none, .int .i64 2]) h1)
  (HCalls Try.prog 46 #[.slice l lL lC, .func (.func 54) #[] #[.pointer (some ⟨b1, 0, none⟩)]] h1 fun v1 h2 => ∃ r1 : Bool, v1 = .bool r1 ∧
  cond r1
  (K (.tuple #[.pointer none, .int .i64 2]) h2)
  (wavelet_Make_b1 l lL lC (some ⟨b1, 0, none⟩) h2  K)))) := by kernel_rfl
theorem wavelet_Make_b1_eq (l : Option Addr) (lL : Nat) (lC : Nat) (sigma : Option Addr) (h : Hp)  (K : Value → Hp → Prop) : wavelet_Make_b1 l lL lC sigma h  K = (
  cond (decide ((4096 : Int) < (lL : Int)))
  (K (.tuple #[.pointer none, .int .i64 4]) h)
  (NN sigma fun a1 =>
  ∃ n3 : Int, cell h a1 = some (.int .i64 n3) ∧
  New h (.cells #[.int .i64 (lL : Int), .int .i64 n3, .int .i64 0, .slice none 0 0] 81) fun b2 h3 =>
  LoopVC (() : Unit) h3 (fun (nx0 : Unit → Hp → Prop) (_ : Unit) h4 => wavelet_Make_b2 l lL lC sigma (some ⟨b2, 0, none⟩) h4 nx0 K))) := by kernel_rfl
theorem wavelet_Make_b2_eq (l : Option Addr) (lL : Nat) (lC : Nat) (sigma : Option Addr) (t : Option Addr) (h : Hp) (nx0 : Unit → Hp → Prop) (K : Value → Hp → Prop) : wavelet_Make_b2 l lL lC sigma t h nx0 K = (
  NN t fun a2 =>
  ∃ n4 : Int, cell h (a2.add 2) = some (.int .i64 n4) ∧
  ∃ sl1 : Int, Sx.Shl .i64 1 n4 sl1 ∧
  NN sigma fun a3 =>
  ∃ n5 : Int, cell h a3 = some (.int .i64 n5) ∧
  cond (decide (sl1 < n5))
  (NN t fun a4 =>
  ∃ n6 : Int, cell h (a4.add 2) = some (.int .i64 n6) ∧
  InR (n6 + 1) ∧
  NN t fun a5 =>
  Wr h (a5.add 2) (.int .i64 (n6 + 1)) fun h5 =>
  nx0 () h5)
  (wavelet_Make_b3 l lL lC t h  K)) := by kernel_rfl
theorem wavelet_Make_b3_eq (l : Option Addr) (lL : Nat) (lC : Nat) (t : Option Addr) (h : Hp)  (K : Value → Hp → Prop) : wavelet_Make_b3 l lL lC t h  K = (
  HCalls Try.prog 28 #[.slice l lL lC] h fun v2 h6 => ∃ (r2 : Option Addr) (rL1 rC1 : Nat), v2 = .slice r2 rL1 rC1 ∧
  NN t fun a6 =>
  ∃ n7 : Int, cell h6 (a6.add 2) = some (.int .i64 n7) ∧
  LoopVC ((0, ()) : Int × Unit) h6 (fun (nx0 : Int × Unit → Hp → Prop) (s2 : Int × Unit) h7 => wavelet_Make_b4 s2.1 r2 rL1 rC1 t n7 h7 nx0 K)) := by kernel_rfl
theorem wavelet_Make_b4_eq (t53 : Int) (l : Option Addr) (lL : Nat) (lC : Nat) (t : Option Addr) (t52 : Int) (h : Hp) (nx0 : Int × Unit → Hp → Prop) (K : Value → Hp → Prop) : wavelet_Make_b4 t53 l lL lC t t52 h nx0 K = (
  cond (decide (t53 < t52))
  (NN t fun a7 =>
  ∃ n8 : Int, cell h (a7.add 2) = some (.int .i64 n8) ∧
  InR (n8 - 1) ∧
  InR ((n8 - 1) - t53) ∧
  New h (.cells #[.int .i64 0] 3) fun b3 h8 =>
  Wr h8 ⟨b3, 0, none⟩ (.int .i64 ((n8 - 1) - t53)) fun h9 =>
  (0 ≤ (lL : Int) ∧ (lL : Int) ≤ (lL : Int) ∧ (lL : Int) ≤ 281474976710656 ∧ (lL : Int) * ((1 : Nat) : Int) ≤ 281474976710656) ∧
  New h9 (.cells (repL (Int.toNat (lL : Int) * 1) [.bool false]).toArray 4) fun b4 h10 =>
  LoopVC ((0, ()) : Int × Unit) h10 (fun (nx1 : Int × Unit → Hp → Prop) (s3 : Int × Unit) h11 => wavelet_Make_b5 s3.1 l lL lC t (some ⟨b3, 0, none⟩) (some ⟨b4, 0, none⟩) (Int.toNat (lL : Int)) (Int.toNat (lL : Int)) t52 t53 l lL lC (lL : Int) h11 nx0 nx1 K))
  (wavelet_Make_b6 t h  K)) := by kernel_rfl
theorem wavelet_Make_b5_eq (t68 : Int) (l : Option Addr) (lL : Nat) (lC : Nat) (t : Option Addr) (shift : Option Addr) (bits : Option Addr) (bitsL : Nat) (bitsC : Nat) (t52 : Int) (t53 : Int) (t66 : Option Addr) (t66L : Nat) (t66C : Nat) (t67 : Int) (h : Hp) (nx0 : Int × Unit → Hp → Prop) (nx1 : Int × Unit → Hp → Prop) (K : Value → Hp → Prop) : wavelet_Make_b5 t68 l lL lC t shift bits bitsL bitsC t52 t53 t66 t66L t66C t67 h nx0 nx1 K = (
  cond (decide (t68 < t67))
  ((0 ≤ t68 ∧ t68 < (t66L : Int)) ∧
  NN t66 fun a8 =>
  ∃ n9 : Int, cell h (a8.add (Int.toNat t68 * 1)) = some (.int .i64 n9) ∧
  NN shift fun a9 =>
  ∃ n10 : Int, cell h a9 = some (.int .i64 n10) ∧
  ∃ sr1 : Int, Sx.Shr .i64 n9 n10 sr1 ∧
  ∃ an1 : Int, Sx.And .i64 sr1 1 an1 ∧
  (0 ≤ t68 ∧ t68 < (bitsL : Int)) ∧
  NN bits fun a10 =>
  Wr h (a10.add (Int.toNat t68 * 1)) (.bool (decide (an1 = 1))) fun h12 =>
  wavelet_Make_b7 l lL lC t shift bits bitsL bitsC t52 t53 t66 t66L t66C t67 t68 h12 nx0 nx1 K)
  (wavelet_Make_b8 l lL lC t shift bits bitsL bitsC t52 t53 h nx0 K)) := by kernel_rfl
theorem wavelet_Make_b6_eq (t : Option Addr) (h : Hp)  (K : Value → Hp → Prop) : wavelet_Make_b6 t h  K = (
  K (.tuple #[.pointer t, .int .i64 0]) h) := by kernel_rfl
theorem wavelet_Make_b7_eq (l : Option Addr) (lL : Nat) (lC : Nat) (t : Option Addr) (shift : Option Addr) (bits : Option Addr) (bitsL : Nat) (bitsC : Nat) (t52 : Int) (t53 : Int) (t66 : Option Addr) (t66L : Nat) (t66C : Nat) (t67 : Int) (t68 : Int) (h : Hp) (nx0 : Int × Unit → Hp → Prop) (nx1 : Int × Unit → Hp → Prop) (K : Value → Hp → Prop) : wavelet_Make_b7 l lL lC t shift bits bitsL bitsC t52 t53 t66 t66L t66C t67 t68 h nx0 nx1 K = (
  InR (t68 + 1) ∧
  nx1 (t68 + 1, ()) h) := by kernel_rfl
theorem wavelet_Make_b8_eq (l : Option Addr) (lL : Nat) (lC : Nat) (t : Option Addr) (shift : Option Addr) (bits : Option Addr) (bitsL : Nat) (bitsC : Nat) (t52 : Int) (t53 : Int) (h : Hp) (nx0 : Int × Unit → Hp → Prop) (K : Value → Hp → Prop) : wavelet_Make_b8 l lL lC t shift bits bitsL bitsC t52 t53 h nx0 K = (
  HCalls Try.prog 55 #[.slice bits bitsL bitsC] h fun v3 h13 => ∃ r3 : Option Addr, ∃ r4 : Int, v3 = .tuple #[.pointer r3, .int .i64 r4] ∧
  cond (!decide (r4 = 0))
  (K (.tuple #[.pointer none, .int .i64 r4]) h13)
  (NN t fun a11 =>
  ∃ (a12 : Option Addr) (L1 C1 : Nat), cell h13 (a11.add 3) = some (.slice a12 L1 C1) ∧
  New h13 (.cells #[.pointer r3] 82) fun b5 h14 =>
  appendV Try.prog 79 79 (.slice a12 L1 C1) (.slice (some ⟨b5, 0, none⟩) 1 1) h14 (slK fun a13 l1 c1 h15 =>
  NN t fun a14 =>
  Wr h15 (a14.add 3) (.slice a13 l1 c1) fun h16 =>
  HCalls Try.prog 56 #[.slice l lL lC, .func (.func 57) #[] #[.pointer shift]] h16 fun v4 h17 => v4 = .tuple #[] ∧
  wavelet_Make_b9 l lL lC t t52 t53 h17 nx0 K))) := by kernel_rfl
theorem wavelet_Make_b9_eq (l : Option Addr) (lL : Nat) (lC : Nat) (t : Option Addr) (t52 : Int) (t53 : Int) (h : Hp) (nx0 : Int × Unit → Hp → Prop) (K : Value → Hp → Prop) : wavelet_Make_b9 l lL lC t t52 t53 h nx0 K = (
  InR (t53 + 1) ∧
  nx0 (t53 + 1, ()) h) := by kernel_rfl
theorem wavelet_Make_call {l : Option Addr} {lL : Nat} {lC : Nat} {sigma : Int} {h : Hp} {K : Value → Hp → Prop} (hk : wavelet_Make_b0 l lL lC sigma h K) : HCalls Try.prog 40 #[.slice l lL lC, .int .i64 sigma] h K :=
  calls_of_snd wavelet_Make_an Try.func40 (c := bodyOf Try.f40) rfl Try.ntmps40 (Nat.le_of_ble_eq_true rfl) (snd_6 F_ok F_mixed) hk

/-! ### slices_Delete_Sint_int -/
def slices_Delete_Sint_int_an : Ann := .node none (.leaf) (.node none (.leaf) (.node none (.leaf) (.node none (.leaf) (.node none (.tail 6) (.leaf)))))
def slices_Delete_Sint_int_K0  (K : Value → Hp → Prop) : Exit → Env → Hp → Prop := retK Try.prog Try.f41.results.toList K
def slices_Delete_Sint_int_b0 (s : Option Addr) (sL : Nat) (sC : Nat) (i : Int) (j : Int) (h : Hp)  (K : Value → Hp → Prop) : Prop :=
  sx_1 Try.prog F 33 (cp [] (bodyOf Try.f41)) (ap [] slices_Delete_Sint_int_an) [(0, .slice s sL sC), (1, .int .i64 i), (2, .int .i64 j)] h (slices_Delete_Sint_int_K0  K)
theorem slices_Delete_Sint_int_b0_eq (s : Option Addr) (sL : Nat) (sC : Nat) (i : Int) (j : Int) (h : Hp)  (K : Value → Hp → Prop) : slices_Delete_Sint_int_b0 s sL sC i j h  K = (
  ∃ (a1 : Option Addr) (l1 c1 : Nat), slC Try.prog 24 (.slice s sL sC) (some (.int .i64 i)) (some (.int .i64 j)) (.int .i64 (sL : Int)) h a1 l1 c1 ∧
  cond (decide (i = j))
  (K (.slice s sL sC) h)
  ((0 ≤ (0 : Int) ∧ (0 : Int) ≤ i ∧ i ≤ (sC : Int)) ∧
  (0 ≤ j ∧ j ≤ (sL : Int) ∧ (sL : Int) ≤ (sC : Int)) ∧
  appendV Try.prog 24 24 (.slice (subAddr s sC (Int.toNat (0 : Int)) 1) (Int.toNat i - Int.toNat (0 : Int)) (sC - Int.toNat (0 : Int))) (.slice (subAddr s sC (Int.toNat j) 1) (Int.toNat (sL : Int) - Int.toNat j) (sC - Int.toNat j)) h (slK fun a2 l2 c2 h1 =>
  (0 ≤ (l2 : Int) ∧ (l2 : Int) ≤ (sL : Int) ∧ (sL : Int) ≤ (c2 : Int)) ∧
  clearV Try.prog 24 (.slice (subAddr a2 c2 (Int.toNat (l2 : Int)) 1) (Int.toNat (sL : Int) - Int.toNat (l2 : Int)) (c2 - Int.toNat (l2 : Int))) h1 fun h2 =>
  K (.slice a2 l2 c2) h2))) := by kernel_rfl
theorem slices_Delete_Sint_int_call {s : Option Addr} {sL : Nat} {sC : Nat} {i : Int} {j : Int} {h : Hp} {K : Value → Hp → Prop} (hk : slices_Delete_Sint_int_b0 s sL sC i j h K) : HCalls Try.prog 41 #[.slice s sL sC, .int .i64 i, .int .i64 j] h K :=
  calls_of_snd slices_Delete_Sint_int_an Try.func41 (c := bodyOf Try.f41) rfl Try.ntmps41 (Nat.le_of_ble_eq_true rfl) (snd_1 F_ok F_mixed) hk

/-! ### suffixindex_starts -/
def suffixindex_starts_an : Ann := .node none (.leaf) (.node none (.leaf) (.node (some [2, 3]) (.node none (.leaf) (.loop [2, 3, 7, 8] [(9, .int .i64)] (.node none (.leaf) (.node none (.leaf) (.node (some [2, 3, 7, 8, 9]) (.leaf) (.leaf)))))) (.node none (.leaf) (.node (some [2, 3]) (.node none (.leaf) (.loop [2, 3] [(6, .int .i64)] (.node none (.leaf) (.node (some [2, 3, 6]) (.tail 9) (.leaf))))) (.leaf)))))
def suffixindex_starts_K0  (K : Value → Hp → Prop) : Exit → Env → Hp → Prop := retK Try.prog Try.f42.results.toList K
def suffixindex_starts_K1  (K : Value → Hp → Prop) : Exit → Env → Hp → Prop := thenE (fun env h => sx_3 Try.prog F 35 (cp [1, 1, 1] (bodyOf Try.f42)) (ap [1, 1, 1] suffixindex_starts_an) (rs [2, 3] env) h (suffixindex_starts_K0  K)) (suffixindex_starts_K0  K)
def suffixindex_starts_K2  (K : Value → Hp → Prop) : Exit → Env → Hp → Prop := blockE 0 (suffixindex_starts_K1  K)
def suffixindex_starts_K3 (nx0 : Int × Unit → Hp → Prop) (K : Value → Hp → Prop) : Exit → Env → Hp → Prop := thenE (fun env h => getV [(9, .int .i64)] env fun s => nx0 s h) (suffixindex_starts_K2  K)
def suffixindex_starts_K4  (K : Value → Hp → Prop) : Exit → Env → Hp → Prop := thenE (fun env h => sx_2 Try.prog F 35 (cp [1, 1, 1, 1, 1] (bodyOf Try.f42)) (ap [1, 1, 1, 1, 1] suffixindex_starts_an) (rs [2, 3] env) h (suffixindex_starts_K0  K)) (suffixindex_starts_K0  K)
def suffixindex_starts_K5  (K : Value → Hp → Prop) : Exit → Env → Hp → Prop := blockE 2 (suffixindex_starts_K4  K)
def suffixindex_starts_K6 (nx0 : Int × Unit → Hp → Prop) (K : Value → Hp → Prop) : Exit → Env → Hp → Prop := thenE (fun env h => getV [(6, .int .i64)] env fun s => nx0 s h) (suffixindex_starts_K5  K)
def suffixindex_starts_b0 (l : Option Addr) (lL : Nat) (lC : Nat) (h : Hp)  (K : Value → Hp → Prop) : Prop :=
  sx_4 Try.prog F 35 (cp [] (bodyOf Try.f42)) (ap [] suffixindex_starts_an) [(0, .slice l lL lC)] h (suffixindex_starts_K0  K)
def suffixindex_starts_b1 (t9 : Int) (t2 : Option Addr) (out : Option Addr) (t7 : Option Addr) (t7L : Nat) (t7C : Nat) (t8 : Int) (h : Hp) (nx0 : Int × Unit → Hp → Prop) (K : Value → Hp → Prop) : Prop :=
  sx_3 Try.prog F 35 (cp [1, 1, 0, 1, 2, 2] (bodyOf Try.f42)) (ap [1, 1, 0, 1, 2] suffixindex_starts_an) [(9, .int .i64 t9), (2, .pointer t2), (3, .pointer out), (7, .slice t7 t7L t7C), (8, .int .i64 t8)] h (suffixindex_starts_K3 nx0 K)
def suffixindex_starts_b2 (t2 : Option Addr) (out : Option Addr) (t7 : Option Addr) (t7L : Nat) (t7C : Nat) (t8 : Int) (t9 : Int) (h : Hp) (nx0 : Int × Unit → Hp → Prop) (K : Value → Hp → Prop) : Prop :=
  sx_2 Try.prog F 35 (cp [1, 1, 0, 1, 2, 2, 1, 1, 1] (bodyOf Try.f42)) (ap [1, 1, 0, 1, 2, 1, 1, 1] suffixindex_starts_an) [(2, .pointer t2), (3, .pointer out), (7, .slice t7 t7L t7C), (8, .int .i64 t8), (9, .int .i64 t9)] h (suffixindex_starts_K3 nx0 K)
def suffixindex_starts_b3 (t2 : Option Addr) (out : Option Addr) (h : Hp)  (K : Value → Hp → Prop) : Prop :=
  sx_3 Try.prog F 35 (cp [1, 1, 1] (bodyOf Try.f42)) (ap [1, 1, 1] suffixindex_starts_an) [(2, .pointer t2), (3, .pointer out)] h (suffixindex_starts_K0  K)
def suffixindex_starts_b4 (c : Int) (t2 : Option Addr) (out : Option Addr) (h : Hp) (nx0 : Int × Unit → Hp → Prop) (K : Value → Hp → Prop) : Prop :=
  sx_2 Try.prog F 35 (cp [1, 1, 1, 1, 0, 1, 2, 2] (bodyOf Try.f42)) (ap [1, 1, 1, 1, 0, 1, 2] suffixindex_starts_an) [(6, .int .i64 c), (2, .pointer t2), (3, .pointer out)] h (suffixindex_starts_K6 nx0 K)
def suffixindex_starts_b5 (t2 : Option Addr) (out : Option Addr) (c : Int) (h : Hp) (nx0 : Int × Unit → Hp → Prop) (K : Value → Hp → Prop) : Prop :=
  sx_1 Try.prog F 35 (cp [1, 1, 1, 1, 0, 1, 2, 2, 1, 1] (bodyOf Try.f42)) (ap [1, 1, 1, 1, 0, 1, 2, 1, 1] suffixindex_starts_an) [(2, .pointer t2), (3, .pointer out), (6, .int .i64 c)] h (suffixindex_starts_K6 nx0 K)
def suffixindex_starts_b6 (t2 : Option Addr) (out : Option Addr) (h : Hp)  (K : Value → Hp → Prop) : Prop :=
  sx_2 Try.prog F 35 (cp [1, 1, 1, 1, 1] (bodyOf Try.f42)) (ap [1, 1, 1, 1, 1] suffixindex_starts_an) [(2, .pointer t2), (3, .pointer out)] h (suffixindex_starts_K0  K)
theorem suffixindex_starts_b0_eq (l : Option Addr) (lL : Nat) (lC : Nat) (h : Hp)  (K : Value → Hp → Prop) : suffixindex_starts_b0 l lL lC h  K = (
  New h (.cells (List.replicate 257 (.int .i64 0)).toArray 65) fun b1 h1 =>
  New h1 (.cells (List.replicate 257 (.int .i64 0)).toArray 65) fun b2 h2 =>
  LoopVC ((0, ()) : Int × Unit) h2 (fun (nx0 : Int × Unit → Hp → Prop) (s1 : Int × Unit) h3 => suffixindex_starts_b1 s1.1 (some ⟨b1, 0, none⟩) (some ⟨b2, 0, none⟩) l lL lC (lL : Int) h3 nx0 K)) := by kernel_rfl
theorem suffixindex_starts_b1_eq (t9 : Int) (t2 : Option Addr) (out : Option Addr) (t7 : Option Addr) (t7L : Nat) (t7C : Nat) (t8 : Int) (h : Hp) (nx0 : Int × Unit → Hp → Prop) (K : Value → Hp → Prop) : suffixindex_starts_b1 t9 t2 out t7 t7L t7C t8 h nx0 K = (
  cond (decide (t9 < t8))
  ((0 ≤ t9 ∧ t9 < (t7L : Int)) ∧
  NN t7 fun a1 =>
  ∃ n1 : Int, cell h (a1.add (Int.toNat t9 * 1)) = some (.int .i64 n1) ∧
  InR (n1 + 1) ∧
  (0 ≤ n1 + 1 ∧ n1 + 1 < ((257 : Nat) : Int)) ∧
  NN out fun a2 =>
  ∃ n2 : Int, cell h (a2.add (Int.toNat (n1 + 1) * 1)) = some (.int .i64 n2) ∧
  InR (n2 + 1) ∧
  (0 ≤ n1 + 1 ∧ n1 + 1 < ((257 : Nat) : Int)) ∧
  NN out fun a3 =>
  Wr h (a3.add (Int.toNat (n1 + 1) * 1)) (.int .i64 (n2 + 1)) fun h4 =>
  suffixindex_starts_b2 t2 out t7 t7L t7C t8 t9 h4 nx0 K)
  (suffixindex_starts_b3 t2 out h  K)) := by kernel_rfl
theorem suffixindex_starts_b2_eq (t2 : Option Addr) (out : Option Addr) (t7 : Option Addr) (t7L : Nat) (t7C : Nat) (t8 : Int) (t9 : Int) (h : Hp) (nx0 : Int × Unit → Hp → Prop) (K : Value → Hp → Prop) : suffixindex_starts_b2 t2 out t7 t7L t7C t8 t9 h nx0 K = (
  InR (t9 + 1) ∧
  nx0 (t9 + 1, ()) h) := by kernel_rfl
theorem suffixindex_starts_b3_eq (t2 : Option Addr) (out : Option Addr) (h : Hp)  (K : Value → Hp → Prop) : suffixindex_starts_b3 t2 out h  K = (
  (0 ≤ (0 : Int) ∧ (0 : Int) < ((257 : Nat) : Int)) ∧
  NN out fun a4 =>
  Wr h (a4.add (Int.toNat (0 : Int) * 1)) (.int .i64 1) fun h5 =>
  LoopVC ((1, ()) : Int × Unit) h5 (fun (nx0 : Int × Unit → Hp → Prop) (s2 : Int × Unit) h6 => suffixindex_starts_b4 s2.1 t2 out h6 nx0 K)) := by kernel_rfl
theorem suffixindex_starts_b4_eq (c : Int) (t2 : Option Addr) (out : Option Addr) (h : Hp) (nx0 : Int × Unit → Hp → Prop) (K : Value → Hp → Prop) : suffixindex_starts_b4 c t2 out h nx0 K = (
  cond (decide (c < 257))
  ((0 ≤ c ∧ c < ((257 : Nat) : Int)) ∧
  NN out fun a5 =>
  ∃ n3 : Int, cell h (a5.add (Int.toNat c * 1)) = some (.int .i64 n3) ∧
  InR (c - 1) ∧
  (0 ≤ c - 1 ∧ c - 1 < ((257 : Nat) : Int)) ∧
  NN out fun a6 =>
  ∃ n4 : Int, cell h (a6.add (Int.toNat (c - 1) * 1)) = some (.int .i64 n4) ∧
  InR (n3 + n4) ∧
  (0 ≤ c ∧ c < ((257 : Nat) : Int)) ∧
  NN out fun a7 =>
  Wr h (a7.add (Int.toNat c * 1)) (.int .i64 (n3 + n4)) fun h7 =>
  suffixindex_starts_b5 t2 out c h7 nx0 K)
  (suffixindex_starts_b6 t2 out h  K)) := by kernel_rfl
theorem suffixindex_starts_b5_eq (t2 : Option Addr) (out : Option Addr) (c : Int) (h : Hp) (nx0 : Int × Unit → Hp → Prop) (K : Value → Hp → Prop) : suffixindex_starts_b5 t2 out c h nx0 K = (
  InR (c + 1) ∧
  nx0 (c + 1, ()) h) := by kernel_rfl
theorem suffixindex_starts_b6_eq (t2 : Option Addr) (out : Option Addr) (h : Hp)  (K : Value → Hp → Prop) : suffixindex_starts_b6 t2 out h  K = (
  NN out fun a8 =>
  ∃ cs1 : List Value, cs1.length = 257 ∧ readsL h (some a8) cs1 ∧
  NN t2 fun a9 =>
  cs1.length = 257 ∧
  StL h a9 cs1 fun h8 =>
  NN t2 fun a10 =>
  ∃ cs2 : List Value, cs2.length = 257 ∧ readsL h8 (some a10) cs2 ∧
  K (.agg cs2.toArray) h8) := by kernel_rfl
theorem suffixindex_starts_call {l : Option Addr} {lL : Nat} {lC : Nat} {h : Hp} {K : Value → Hp → Prop} (hk : suffixindex_starts_b0 l lL lC h K) : HCalls Try.prog 42 #[.slice l lL lC] h K :=
  calls_of_snd suffixindex_starts_an Try.func42 (c := bodyOf Try.f42) rfl Try.ntmps42 (Nat.le_of_ble_eq_true rfl) (snd_4 F_ok F_mixed) hk

/-! ### suffixindex_Index_rows -/
def suffixindex_Index_rows_an : Ann := .node none (.leaf) (.node none (.leaf) (.node (some [6, 7]) (.node none (.leaf) (.loop [0, 1] [(6, .int .i64), (7, .int .i64), (8, .int .i64)] (.node (some [0, 1, 6, 7, 8]) (.leaf) (.node (some [0, 1, 6, 7, 8]) (.node none (.leaf) (.plan (.qu 0 (.qu 1 (.qu 2 (.qu 3 (.qu 4 (.qu 5 (.qu 8 (.qu 9 (.qu 10 (.qu 11 (.qu 12 (.qu 13 (.wo 6 (.qu 7 (.wo 14 (.qu 15 (.wo 16 (.wo 17 .fin .no) .no)) .no)) .no))))))))))))))) (.leaf))))) (.leaf)))
def suffixindex_Index_rows_K0  (K : Value → Hp → Prop) : Exit → Env → Hp → Prop := retK Try.prog Try.f43.results.toList K
def suffixindex_Index_rows_K1  (K : Value → Hp → Prop) : Exit → Env → Hp → Prop := thenE (fun env h => sx_3 Try.prog F 53 (cp [1, 1, 1] (bodyOf Try.f43)) (ap [1, 1, 1] suffixindex_Index_rows_an) (rs [6, 7] env) h (suffixindex_Index_rows_K0  K)) (suffixindex_Index_rows_K0  K)
def suffixindex_Index_rows_K2  (K : Value → Hp → Prop) : Exit → Env → Hp → Prop := blockE 0 (suffixindex_Index_rows_K1  K)
def suffixindex_Index_rows_K3 (nx0 : Int × Int × Int × Unit → Hp → Prop) (K : Value → Hp → Prop) : Exit → Env → Hp → Prop := thenE (fun env h => getV [(6, .int .i64), (7, .int .i64), (8, .int .i64)] env fun s => nx0 s h) (suffixindex_Index_rows_K2  K)
def suffixindex_Index_rows_b0 (x : Option Addr) (p : ByteArray) (h : Hp)  (K : Value → Hp → Prop) : Prop :=
  sx_4 Try.prog F 53 (cp [] (bodyOf Try.f43)) (ap [] suffixindex_Index_rows_an) [(0, .pointer x), (1, .string p)] h (suffixindex_Index_rows_K0  K)
def suffixindex_Index_rows_b1 (fromv : Int) (to : Int) (i : Int) (x : Option Addr) (p : ByteArray) (h : Hp) (nx0 : Int × Int × Int × Unit → Hp → Prop) (K : Value → Hp → Prop) : Prop :=
  sx_3 Try.prog F 53 (cp [1, 1, 0, 1, 2, 2] (bodyOf Try.f43)) (ap [1, 1, 0, 1, 2] suffixindex_Index_rows_an) [(6, .int .i64 fromv), (7, .int .i64 to), (8, .int .i64 i), (0, .pointer x), (1, .string p)] h (suffixindex_Index_rows_K3 nx0 K)
def suffixindex_Index_rows_b2 (x : Option Addr) (p : ByteArray) (fromv : Int) (to : Int) (i : Int) (h : Hp) (nx0 : Int × Int × Int × Unit → Hp → Prop) (K : Value → Hp → Prop) : Prop :=
  sx_2 Try.prog F 53 (cp [1, 1, 0, 1, 2, 2, 1] (bodyOf Try.f43)) (ap [1, 1, 0, 1, 2, 1] suffixindex_Index_rows_an) [(0, .pointer x), (1, .string p), (6, .int .i64 fromv), (7, .int .i64 to), (8, .int .i64 i)] h (suffixindex_Index_rows_K3 nx0 K)
def suffixindex_Index_rows_b3 (fromv : Int) (to : Int) (h : Hp)  (K : Value → Hp → Prop) : Prop :=
  sx_3 Try.prog F 53 (cp [1, 1, 1] (bodyOf Try.f43)) (ap [1, 1, 1] suffixindex_Index_rows_an) [(6, .int .i64 fromv), (7, .int .i64 to)] h (suffixindex_Index_rows_K0  K)
def suffixindex_Index_rows_b4 (x : Option Addr) (p : ByteArray) (fromv : Int) (to : Int) (i : Int) (h : Hp) (nx0 : Int × Int × Int × Unit → Hp → Prop) (K : Value → Hp → Prop) : Prop :=
  sx_1 Try.prog F 53 (cp [1, 1, 0, 1, 2, 2, 1, 1] (bodyOf Try.f43)) (ap [1, 1, 0, 1, 2, 1, 1] suffixindex_Index_rows_an) [(0, .pointer x), (1, .string p), (6, .int .i64 fromv), (7, .int .i64 to), (8, .int .i64 i)] h (suffixindex_Index_rows_K3 nx0 K)
theorem suffixindex_Index_rows_b0_eq (x : Option Addr) (p : ByteArray) (h : Hp)  (K : Value → Hp → Prop) : suffixindex_Index_rows_b0 x p h  K = (
  NN x fun a1 =>
  ∃ (a2 : Option Addr) (L1 C1 : Nat), cell h (a1.add 1) = some (.slice a2 L1 C1) ∧
  InR ((p.size : Int) - 1) ∧
  LoopVC ((0, (L1 : Int), (p.size : Int) - 1, ()) : Int × Int × Int × Unit) h (fun (nx0 : Int × Int × Int × Unit → Hp → Prop) (s1 : Int × Int × Int × Unit) h1 => suffixindex_Index_rows_b1 s1.1 s1.2.1 s1.2.2.1 x p h1 nx0 K)) := by kernel_rfl
theorem suffixindex_Index_rows_b1_eq (fromv : Int) (to : Int) (i : Int) (x : Option Addr) (p : ByteArray) (h : Hp) (nx0 : Int × Int × Int × Unit → Hp → Prop) (K : Value → Hp → Prop) : suffixindex_Index_rows_b1 fromv to i x p h nx0 K = (
  cond (decide ((0 : Int) ≤ i))
  (cond (decide (fromv < to))
  (suffixindex_Index_rows_b2 x p fromv to i h nx0 K)
  (suffixindex_Index_rows_b3 fromv to h  K))
  (suffixindex_Index_rows_b3 fromv to h  K)) := by kernel_rfl
theorem suffixindex_Index_rows_b2_eq (x : Option Addr) (p : ByteArray) (fromv : Int) (to : Int) (i : Int) (h : Hp) (nx0 : Int × Int × Int × Unit → Hp → Prop) (K : Value → Hp → Prop) : suffixindex_Index_rows_b2 x p fromv to i h nx0 K = (
  (0 ≤ i ∧ i < (p.size : Int)) ∧
  NN x fun a3 =>
  (0 ≤ ((p.data.toList.getD (Int.toNat i) 0).toNat : Int) ∧ ((p.data.toList.getD (Int.toNat i) 0).toNat : Int) < ((257 : Nat) : Int)) ∧
  ∃ n1 : Int, cell h ((a3.add 3).add (Int.toNat ((p.data.toList.getD (Int.toNat i) 0).toNat : Int) * 1)) = some (.int .i64 n1) ∧
  (0 ≤ i ∧ i < (p.size : Int)) ∧
  (0 ≤ i ∧ i < (p.size : Int)) ∧
  HCalls Try.prog 58 #[.pointer x, .int .u8 ((p.data.toList.getD (Int.toNat i) 0).toNat : Int), .int .i64 fromv] h fun v1 h2 => ∃ r1 : Int, v1 = .int .i64 r1 ∧
  ((0 ≤ i ∧ i < (p.size : Int)) ∧
  (.int .u8 ((p.data.toList.getD (Int.toNat i) 0).toNat : Int) : Value) = .int .u8 ((p.data.toList.getD (Int.toNat i) 0).toNat : Int)) ∧
  InR (n1 + r1) ∧
  HCalls Try.prog 58 #[.pointer x, .int .u8 ((p.data.toList.getD (Int.toNat i) 0).toNat : Int), .int .i64 to] h2 fun v2 h3 => ∃ r2 : Int, v2 = .int .i64 r2 ∧
  InR (n1 + r2) ∧
  suffixindex_Index_rows_b4 x p (n1 + r1) (n1 + r2) i h3 nx0 K) := by kernel_rfl
theorem suffixindex_Index_rows_b3_eq (fromv : Int) (to : Int) (h : Hp)  (K : Value → Hp → Prop) : suffixindex_Index_rows_b3 fromv to h  K = (
  K (.tuple #[.int .i64 fromv, .int .i64 to]) h) := by kernel_rfl
theorem suffixindex_Index_rows_b4_eq (x : Option Addr) (p : ByteArray) (fromv : Int) (to : Int) (i : Int) (h : Hp) (nx0 : Int × Int × Int × Unit → Hp → Prop) (K : Value → Hp → Prop) : suffixindex_Index_rows_b4 x p fromv to i h nx0 K = (
  InR (i - 1) ∧
  nx0 (fromv, to, i - 1, ()) h) := by kernel_rfl
theorem suffixindex_Index_rows_call {x : Option Addr} {p : ByteArray} {h : Hp} {K : Value → Hp → Prop} (hk : suffixindex_Index_rows_b0 x p h K) : HCalls Try.prog 43 #[.pointer x, .string p] h K :=
  calls_of_snd suffixindex_Index_rows_an Try.func43 (c := bodyOf Try.f43) rfl Try.ntmps43 (Nat.le_of_ble_eq_true rfl) (snd_4 F_ok F_mixed) hk

/-! ### slices_Sort_Sint_int -/
def slices_Sort_Sint_int_an : Ann := .leaf
def slices_Sort_Sint_int_K0  (K : Value → Hp → Prop) : Exit → Env → Hp → Prop := retK Try.prog Try.f44.results.toList K
def slices_Sort_Sint_int_b0 (x : Option Addr) (xL : Nat) (xC : Nat) (h : Hp)  (K : Value → Hp → Prop) : Prop :=
  sx_1 Try.prog F 11 (cp [] (bodyOf Try.f44)) (ap [] slices_Sort_Sint_int_an) [(0, .slice x xL xC)] h (slices_Sort_Sint_int_K0  K)
theorem slices_Sort_Sint_int_b0_eq (x : Option Addr) (xL : Nat) (xC : Nat) (h : Hp)  (K : Value → Hp → Prop) : slices_Sort_Sint_int_b0 x xL xC h  K = (
  HCalls Try.prog 60 #[.int .u64 (IntKind.u64.wrap (xL : Int))] h fun v1 h1 => ∃ r1 : Int, v1 = .int .i64 r1 ∧
  HCalls Try.prog 59 #[.slice x xL xC, .int .i64 0, .int .i64 (xL : Int), .int .i64 r1] h1 fun v2 h2 => v2 = .tuple #[] ∧
  K (.tuple #[]) h2) := by kernel_rfl
theorem slices_Sort_Sint_int_call {x : Option Addr} {xL : Nat} {xC : Nat} {h : Hp} {K : Value → Hp → Prop} (hk : slices_Sort_Sint_int_b0 x xL xC h K) : HCalls Try.prog 44 #[.slice x xL xC] h K :=
  calls_of_snd slices_Sort_Sint_int_an Try.func44 (c := bodyOf Try.f44) rfl Try.ntmps44 (Nat.le_of_ble_eq_true rfl) (snd_1 F_ok F_mixed) hk

/-! ### internal_stringslite_HasSuffix -/
/-! ### slices_ContainsFunc_Sint_int -/
def slices_ContainsFunc_Sint_int_an : Ann := .leaf
def slices_ContainsFunc_Sint_int_K0  (K : Value → Hp → Prop) : Exit → Env → Hp → Prop := retK Try.prog Try.f46.results.toList K
def slices_ContainsFunc_Sint_int_b0 (s : Option Addr) (sL : Nat) (sC : Nat) (f : Value) (h : Hp)  (K : Value → Hp → Prop) : Prop :=
  sx_1 Try.prog F 9 (cp [] (bodyOf Try.f46)) (ap [] slices_ContainsFunc_Sint_int_an) [(0, .slice s sL sC), (1, f)] h (slices_ContainsFunc_Sint_int_K0  K)
theorem slices_ContainsFunc_Sint_int_b0_eq (s : Option Addr) (sL : Nat) (sC : Nat) (f : Value) (h : Hp)  (K : Value → Hp → Prop) : slices_ContainsFunc_Sint_int_b0 s sL sC f h  K = (
  HCalls Try.prog 61 #[.slice s sL sC, f] h fun v1 h1 => ∃ r1 : Int, v1 = .int .i64 r1 ∧
  K (.bool (decide ((0 : Int) ≤ r1))) h1) := by kernel_rfl
theorem slices_ContainsFunc_Sint_int_call {s : Option Addr} {sL : Nat} {sC : Nat} {f : Value} {h : Hp} {K : Value → Hp → Prop} (hk : slices_ContainsFunc_Sint_int_b0 s sL sC f h K) : HCalls Try.prog 46 #[.slice s sL sC, f] h K :=
  calls_of_snd slices_ContainsFunc_Sint_int_an Try.func46 (c := bodyOf Try.f46) rfl Try.ntmps46 (Nat.le_of_ble_eq_true rfl) (snd_1 F_ok F_mixed) hk

/-! ### suffixindex_Inverse_c1 -/
def suffixindex_Inverse_c1_an : Ann := .leaf
def suffixindex_Inverse_c1_K0  (K : Value → Hp → Prop) : Exit → Env → Hp → Prop := retK Try.prog Try.f47.results.toList K
def suffixindex_Inverse_c1_b0 (c : Int) (h : Hp)  (K : Value → Hp → Prop) : Prop :=
  sx_1 Try.prog F 9 (cp [] (bodyOf Try.f47)) (ap [] suffixindex_Inverse_c1_an) [(0, .int .i64 c)] h (suffixindex_Inverse_c1_K0  K)
theorem suffixindex_Inverse_c1_b0_eq (c : Int) (h : Hp)  (K : Value → Hp → Prop) : suffixindex_Inverse_c1_b0 c h  K = (
  cond (decide (c < (-1)))
  (K (.bool true) h)
  (K (.bool (decide ((255 : Int) < c))) h)) := by kernel_rfl
theorem suffixindex_Inverse_c1_call {c : Int} {h : Hp} {K : Value → Hp → Prop} (hk : suffixindex_Inverse_c1_b0 c h K) : HCalls Try.prog 47 #[.int .i64 c] h K :=
  calls_of_snd suffixindex_Inverse_c1_an Try.func47 (c := bodyOf Try.f47) rfl Try.ntmps47 (Nat.le_of_ble_eq_true rfl) (snd_1 F_ok F_mixed) hk

/-! ### r30_Same -/
def r30_Same_an : Ann := .node none (.leaf) (.node none (.leaf) (.node (some []) (.node none (.leaf) (.loop [0, 1] [(5, .int .i64)] (.node none (.leaf) (.node (some [0, 1, 5]) (.leaf) (.leaf))))) (.leaf)))
def r30_Same_K0  (K : Value → Hp → Prop) : Exit → Env → Hp → Prop := retK Try.prog Try.f48.results.toList K
def r30_Same_K1  (K : Value → Hp → Prop) : Exit → Env → Hp → Prop := thenE (fun env h => sx_2 Try.prog F 26 (cp [1, 1, 1] (bodyOf Try.f48)) (ap [1, 1, 1] r30_Same_an) (rs [] env) h (r30_Same_K0  K)) (r30_Same_K0  K)
def r30_Same_K2  (K : Value → Hp → Prop) : Exit → Env → Hp → Prop := blockE 0 (r30_Same_K1  K)
def r30_Same_K3 (nx0 : Int × Unit → Hp → Prop) (K : Value → Hp → Prop) : Exit → Env → Hp → Prop := thenE (fun env h => getV [(5, .int .i64)] env fun s => nx0 s h) (r30_Same_K2  K)
def r30_Same_b0 (a : Option Addr) (aL : Nat) (aC : Nat) (b : Option Addr) (bL : Nat) (bC : Nat) (h : Hp)  (K : Value → Hp → Prop) : Prop :=
  sx_3 Try.prog F 26 (cp [] (bodyOf Try.f48)) (ap [] r30_Same_an) [(0, .slice a aL aC), (1, .slice b bL bC)] h (r30_Same_K0  K)
def r30_Same_b1 (i : Int) (a : Option Addr) (aL : Nat) (aC : Nat) (b : Option Addr) (bL : Nat) (bC : Nat) (h : Hp) (nx0 : Int × Unit → Hp → Prop) (K : Value → Hp → Prop) : Prop :=
  sx_2 Try.prog F 26 (cp [1, 1, 0, 1, 2, 2] (bodyOf Try.f48)) (ap [1, 1, 0, 1, 2] r30_Same_an) [(5, .int .i64 i), (0, .slice a aL aC), (1, .slice b bL bC)] h (r30_Same_K3 nx0 K)
def r30_Same_b2 (a : Option Addr) (aL : Nat) (aC : Nat) (b : Option Addr) (bL : Nat) (bC : Nat) (i : Int) (h : Hp) (nx0 : Int × Unit → Hp → Prop) (K : Value → Hp → Prop) : Prop :=
  sx_1 Try.prog F 26 (cp [1, 1, 0, 1, 2, 2, 1, 1] (bodyOf Try.f48)) (ap [1, 1, 0, 1, 2, 1, 1] r30_Same_an) [(0, .slice a aL aC), (1, .slice b bL bC), (5, .int .i64 i)] h (r30_Same_K3 nx0 K)
def r30_Same_b3  (h : Hp)  (K : Value → Hp → Prop) : Prop :=
  sx_2 Try.prog F 26 (cp [1, 1, 1] (bodyOf Try.f48)) (ap [1, 1, 1] r30_Same_an) [] h (r30_Same_K0  K)
theorem r30_Same_b0_eq (a : Option Addr) (aL : Nat) (aC : Nat) (b : Option Addr) (bL : Nat) (bC : Nat) (h : Hp)  (K : Value → Hp → Prop) : r30_Same_b0 a aL aC b bL bC h  K = (
  cond (!decide ((aL : Int) = (bL : Int)))
  (K (.bool false) h)
  (LoopVC ((0, ()) : Int × Unit) h (fun (nx0 : Int × Unit → Hp → Prop) (s1 : Int × Unit) h1 => r30_Same_b1 s1.1 a aL aC b bL bC h1 nx0 K))) := by kernel_rfl
theorem r30_Same_b1_eq (i : Int) (a : Option Addr) (aL : Nat) (aC : Nat) (b : Option Addr) (bL : Nat) (bC : Nat) (h : Hp) (nx0 : Int × Unit → Hp → Prop) (K : Value → Hp → Prop) : r30_Same_b1 i a aL aC b bL bC h nx0 K = (
  cond (decide (i < (aL : Int)))
  ((0 ≤ i ∧ i < (aL : Int)) ∧
  NN a fun a1 =>
  ∃ n1 : Int, cell h (a1.add (Int.toNat i * 1)) = some (.int .i64 n1) ∧
  (0 ≤ i ∧ i < (bL : Int)) ∧
  NN b fun a2 =>
  ∃ n2 : Int, cell h (a2.add (Int.toNat i * 1)) = some (.int .i64 n2) ∧
  cond (!decide (n1 = n2))
  (K (.bool false) h)
  (r30_Same_b2 a aL aC b bL bC i h nx0 K))
  (r30_Same_b3  h  K)) := by kernel_rfl
theorem r30_Same_b2_eq (a : Option Addr) (aL : Nat) (aC : Nat) (b : Option Addr) (bL : Nat) (bC : Nat) (i : Int) (h : Hp) (nx0 : Int × Unit → Hp → Prop) (K : Value → Hp → Prop) : r30_Same_b2 a aL aC b bL bC i h nx0 K = (
  InR (i + 1) ∧
  nx0 (i + 1, ()) h) := by kernel_rfl
theorem r30_Same_b3_eq  (h : Hp)  (K : Value → Hp → Prop) : r30_Same_b3  h  K = (
  K (.bool true) h) := by kernel_rfl
theorem r30_Same_call {a : Option Addr} {aL : Nat} {aC : Nat} {b : Option Addr} {bL : Nat} {bC : Nat} {h : Hp} {K : Value → Hp → Prop} (hk : r30_Same_b0 a aL aC b bL bC h K) : HCalls Try.prog 48 #[.slice a aL aC, .slice b bL bC] h K :=
  calls_of_snd r30_Same_an Try.func48 (c := bodyOf Try.f48) rfl Try.ntmps48 (Nat.le_of_ble_eq_true rfl) (snd_3 F_ok F_mixed) hk

/-! ### suffixindex_suffixes_c1 -/
def suffixindex_suffixes_c1_an : Ann := .leaf
def suffixindex_suffixes_c1_K0  (K : Value → Hp → Prop) : Exit → Env → Hp → Prop := retK Try.prog Try.f49.results.toList K
def suffixindex_suffixes_c1_b0 (i : Int) (t1 : Option Addr) (t2 : Option Addr) (t3 : Option Addr) (h : Hp)  (K : Value → Hp → Prop) : Prop :=
  sx_1 Try.prog F 17 (cp [] (bodyOf Try.f49)) (ap [] suffixindex_suffixes_c1_an) [(0, .int .i64 i), (1, .pointer t1), (2, .pointer t2), (3, .pointer t3)] h (suffixindex_suffixes_c1_K0  K)
theorem suffixindex_suffixes_c1_b0_eq (i : Int) (t1 : Option Addr) (t2 : Option Addr) (t3 : Option Addr) (h : Hp)  (K : Value → Hp → Prop) : suffixindex_suffixes_c1_b0 i t1 t2 t3 h  K = (
  NN t1 fun a1 =>
  ∃ n1 : Int, cell h a1 = some (.int .i64 n1) ∧
  InR (i + n1) ∧
  NN t2 fun a2 =>
  ∃ n2 : Int, cell h a2 = some (.int .i64 n2) ∧
  cond (decide ((i + n1) < n2))
  (NN t3 fun a3 =>
  ∃ (a4 : Option Addr) (L1 C1 : Nat), cell h a3 = some (.slice a4 L1 C1) ∧
  NN t1 fun a5 =>
  ∃ n3 : Int, cell h a5 = some (.int .i64 n3) ∧
  InR (i + n3) ∧
  (0 ≤ i + n3 ∧ i + n3 < (L1 : Int)) ∧
  NN a4 fun a6 =>
  ∃ n4 : Int, cell h (a6.add (Int.toNat (i + n3) * 1)) = some (.int .i64 n4) ∧
  K (.int .i64 n4) h)
  (K (.int .i64 (-1)) h)) := by kernel_rfl
theorem suffixindex_suffixes_c1_call {i : Int} {t1 : Option Addr} {t2 : Option Addr} {t3 : Option Addr} {h : Hp} {K : Value → Hp → Prop} (hk : suffixindex_suffixes_c1_b0 i t1 t2 t3 h K) : HCalls Try.prog 49 #[.int .i64 i, .pointer t1, .pointer t2, .pointer t3] h K :=
  calls_of_snd suffixindex_suffixes_c1_an Try.func49 (c := bodyOf Try.f49) rfl Try.ntmps49 (Nat.le_of_ble_eq_true rfl) (snd_1 F_ok F_mixed) hk

/-! ### suffixindex_suffixes_c2 -/
def suffixindex_suffixes_c2_an : Ann := .node none (.leaf) (.node none (.plan (.qu 0 (.qu 1 (.qu 2 (.qu 3 (.qu 4 (.qu 5 (.qu 6 (.qu 7 (.qu 9 (.qu 10 (.qu 12 (.qu 13 (.wo 8 (.wo 11 (.wo 14 (.wo 15 (.wo 16 (.wo 17 (.wo 18 .fin .no) .no) .no) .no) .no) .no) .no)))))))))))))) (.leaf))
def suffixindex_suffixes_c2_K0  (K : Value → Hp → Prop) : Exit → Env → Hp → Prop := retK Try.prog Try.f50.results.toList K
def suffixindex_suffixes_c2_b0 (a : Int) (b : Int) (t2 : Option Addr) (t3 : Option Addr) (h : Hp)  (K : Value → Hp → Prop) : Prop :=
  sx_1 Try.prog F 25 (cp [] (bodyOf Try.f50)) (ap [] suffixindex_suffixes_c2_an) [(0, .int .i64 a), (1, .int .i64 b), (2, .pointer t2), (3, .pointer t3)] h (suffixindex_suffixes_c2_K0  K)
theorem suffixindex_suffixes_c2_b0_eq (a : Int) (b : Int) (t2 : Option Addr) (t3 : Option Addr) (h : Hp)  (K : Value → Hp → Prop) : suffixindex_suffixes_c2_b0 a b t2 t3 h  K = (
  NN t2 fun a1 =>
  ∃ (a2 : Option Addr) (L1 C1 : Nat), cell h a1 = some (.slice a2 L1 C1) ∧
  (0 ≤ a ∧ a < (L1 : Int)) ∧
  NN a2 fun a3 =>
  ∃ n1 : Int, cell h (a3.add (Int.toNat a * 1)) = some (.int .i64 n1) ∧
  NN t2 fun a4 =>
  ∃ (a5 : Option Addr) (L2 C2 : Nat), cell h a4 = some (.slice a5 L2 C2) ∧
  (0 ≤ b ∧ b < (L2 : Int)) ∧
  NN a5 fun a6 =>
  ∃ n2 : Int, cell h (a6.add (Int.toNat b * 1)) = some (.int .i64 n2) ∧
  NN t3 fun a7 =>
  ∃ v1 : Value, cell h a7 = some (v1) ∧
  NN t3 fun a8 =>
  ∃ v2 : Value, cell h a8 = some (v2) ∧
  HCalls Try.prog 52 #[.int .i64 n1, .int .i64 n2] h fun v3 h1 => ∃ r1 : Int, v3 = .int .i64 r1 ∧
  (NN t3 fun a9 =>
  ∃ v4 : Value, cell h1 a9 = some (v4) ∧
  (v4 : Value) = v2) ∧
  (NN t3 fun a10 =>
  ∃ v5 : Value, cell h1 a10 = some (v5) ∧
  (v5 : Value) = v1) ∧
  funV v1 fun fg1 fa1 fc1 => callX Try.prog F fg1 (fa1 ++ (([.int .i64 a] : List Value) ++ fc1)).toArray h1 fun v6 h2 => ∃ r2 : Int, v6 = .int .i64 r2 ∧
  (NN t3 fun a11 =>
  ∃ v7 : Value, cell h2 a11 = some (v7) ∧
  (v7 : Value) = v2) ∧
  funV v2 fun fg2 fa2 fc2 => callX Try.prog F fg2 (fa2 ++ (([.int .i64 b] : List Value) ++ fc2)).toArray h2 fun v8 h3 => ∃ r3 : Int, v8 = .int .i64 r3 ∧
  HCalls Try.prog 52 #[.int .i64 r2, .int .i64 r3] h3 fun v9 h4 => ∃ r4 : Int, v9 = .int .i64 r4 ∧
  New h4 (.cells #[.int .i64 r1, .int .i64 r4] 3) fun b1 h5 =>
  HCalls Try.prog 51 #[.slice (some ⟨b1, 0, none⟩) 2 2] h5 fun v10 h6 => ∃ r5 : Int, v10 = .int .i64 r5 ∧
  K (.int .i64 r5) h6) := by kernel_rfl
theorem suffixindex_suffixes_c2_call {a : Int} {b : Int} {t2 : Option Addr} {t3 : Option Addr} {h : Hp} {K : Value → Hp → Prop} (hk : suffixindex_suffixes_c2_b0 a b t2 t3 h K) : HCalls Try.prog 50 #[.int .i64 a, .int .i64 b, .pointer t2, .pointer t3] h K :=
  calls_of_snd suffixindex_suffixes_c2_an Try.func50 (c := bodyOf Try.f50) rfl Try.ntmps50 (Nat.le_of_ble_eq_true rfl) (snd_1 F_ok F_mixed) hk

/-! ### cmp_Or_int -/
def cmp_Or_int_an : Ann := .node none (.leaf) (.node none (.leaf) (.node (some [3]) (.node none (.leaf) (.loop [3, 6, 7] [(8, .int .i64)] (.node none (.leaf) (.node none (.leaf) (.node (some [3, 6, 7, 8]) (.leaf) (.leaf)))))) (.leaf)))
def cmp_Or_int_K0  (K : Value → Hp → Prop) : Exit → Env → Hp → Prop := retK Try.prog Try.f51.results.toList K
def cmp_Or_int_K1  (K : Value → Hp → Prop) : Exit → Env → Hp → Prop := thenE (fun env h => sx_2 Try.prog F 18 (cp [1, 1, 1] (bodyOf Try.f51)) (ap [1, 1, 1] cmp_Or_int_an) (rs [3] env) h (cmp_Or_int_K0  K)) (cmp_Or_int_K0  K)
def cmp_Or_int_K2  (K : Value → Hp → Prop) : Exit → Env → Hp → Prop := blockE 0 (cmp_Or_int_K1  K)
def cmp_Or_int_K3 (nx0 : Int × Unit → Hp → Prop) (K : Value → Hp → Prop) : Exit → Env → Hp → Prop := thenE (fun env h => getV [(8, .int .i64)] env fun s => nx0 s h) (cmp_Or_int_K2  K)
def cmp_Or_int_b0 (vals : Option Addr) (valsL : Nat) (valsC : Nat) (h : Hp)  (K : Value → Hp → Prop) : Prop :=
  sx_3 Try.prog F 18 (cp [] (bodyOf Try.f51)) (ap [] cmp_Or_int_an) [(0, .slice vals valsL valsC)] h (cmp_Or_int_K0  K)
def cmp_Or_int_b1 (t8 : Int) (zero : Int) (t6 : Option Addr) (t6L : Nat) (t6C : Nat) (t7 : Int) (h : Hp) (nx0 : Int × Unit → Hp → Prop) (K : Value → Hp → Prop) : Prop :=
  sx_2 Try.prog F 18 (cp [1, 1, 0, 1, 2, 2] (bodyOf Try.f51)) (ap [1, 1, 0, 1, 2] cmp_Or_int_an) [(8, .int .i64 t8), (3, .int .i64 zero), (6, .slice t6 t6L t6C), (7, .int .i64 t7)] h (cmp_Or_int_K3 nx0 K)
def cmp_Or_int_b2 (zero : Int) (t6 : Option Addr) (t6L : Nat) (t6C : Nat) (t7 : Int) (t8 : Int) (h : Hp) (nx0 : Int × Unit → Hp → Prop) (K : Value → Hp → Prop) : Prop :=
  sx_1 Try.prog F 18 (cp [1, 1, 0, 1, 2, 2, 1, 1, 1] (bodyOf Try.f51)) (ap [1, 1, 0, 1, 2, 1, 1, 1] cmp_Or_int_an) [(3, .int .i64 zero), (6, .slice t6 t6L t6C), (7, .int .i64 t7), (8, .int .i64 t8)] h (cmp_Or_int_K3 nx0 K)
def cmp_Or_int_b3 (zero : Int) (h : Hp)  (K : Value → Hp → Prop) : Prop :=
  sx_2 Try.prog F 18 (cp [1, 1, 1] (bodyOf Try.f51)) (ap [1, 1, 1] cmp_Or_int_an) [(3, .int .i64 zero)] h (cmp_Or_int_K0  K)
theorem cmp_Or_int_b0_eq (vals : Option Addr) (valsL : Nat) (valsC : Nat) (h : Hp)  (K : Value → Hp → Prop) : cmp_Or_int_b0 vals valsL valsC h  K = (
  LoopVC ((0, ()) : Int × Unit) h (fun (nx0 : Int × Unit → Hp → Prop) (s1 : Int × Unit) h1 => cmp_Or_int_b1 s1.1 0 vals valsL valsC (valsL : Int) h1 nx0 K)) := by kernel_rfl
theorem cmp_Or_int_b1_eq (t8 : Int) (zero : Int) (t6 : Option Addr) (t6L : Nat) (t6C : Nat) (t7 : Int) (h : Hp) (nx0 : Int × Unit → Hp → Prop) (K : Value → Hp → Prop) : cmp_Or_int_b1 t8 zero t6 t6L t6C t7 h nx0 K = (
  cond (decide (t8 < t7))
  ((0 ≤ t8 ∧ t8 < (t6L : Int)) ∧
  NN t6 fun a1 =>
  ∃ n1 : Int, cell h (a1.add (Int.toNat t8 * 1)) = some (.int .i64 n1) ∧
  cond (!decide (n1 = zero))
  (K (.int .i64 n1) h)
  (cmp_Or_int_b2 zero t6 t6L t6C t7 t8 h nx0 K))
  (cmp_Or_int_b3 zero h  K)) := by kernel_rfl
theorem cmp_Or_int_b2_eq (zero : Int) (t6 : Option Addr) (t6L : Nat) (t6C : Nat) (t7 : Int) (t8 : Int) (h : Hp) (nx0 : Int × Unit → Hp → Prop) (K : Value → Hp → Prop) : cmp_Or_int_b2 zero t6 t6L t6C t7 t8 h nx0 K = (
  InR (t8 + 1) ∧
  nx0 (t8 + 1, ()) h) := by kernel_rfl
theorem cmp_Or_int_b3_eq (zero : Int) (h : Hp)  (K : Value → Hp → Prop) : cmp_Or_int_b3 zero h  K = (
  K (.int .i64 zero) h) := by kernel_rfl
theorem cmp_Or_int_call {vals : Option Addr} {valsL : Nat} {valsC : Nat} {h : Hp} {K : Value → Hp → Prop} (hk : cmp_Or_int_b0 vals valsL valsC h K) : HCalls Try.prog 51 #[.slice vals valsL valsC] h K :=
  calls_of_snd cmp_Or_int_an Try.func51 (c := bodyOf Try.f51) rfl Try.ntmps51 (Nat.le_of_ble_eq_true rfl) (snd_3 F_ok F_mixed) hk

/-! ### cmp_Compare_int -/
def cmp_Compare_int_an : Ann := .leaf
def cmp_Compare_int_K0  (K : Value → Hp → Prop) : Exit → Env → Hp → Prop := retK Try.prog Try.f52.results.toList K
def cmp_Compare_int_b0 (x : Int) (y : Int) (h : Hp)  (K : Value → Hp → Prop) : Prop :=
  sx_1 Try.prog F 20 (cp [] (bodyOf Try.f52)) (ap [] cmp_Compare_int_an) [(0, .int .i64 x), (1, .int .i64 y)] h (cmp_Compare_int_K0  K)
theorem cmp_Compare_int_b0_eq (x : Int) (y : Int) (h : Hp)  (K : Value → Hp → Prop) : cmp_Compare_int_b0 x y h  K = (
  HCalls Try.prog 62 #[.int .i64 x] h fun v1 h1 => ∃ r1 : Bool, v1 = .bool r1 ∧
  HCalls Try.prog 62 #[.int .i64 y] h1 fun v2 h2 => ∃ r2 : Bool, v2 = .bool r2 ∧
  cond r1
  (cond r2
  (K (.int .i64 0) h2)
  (K (.int .i64 (-1)) h2))
  (cond r2
  (K (.int .i64 1) h2)
  (cond (decide (x < y))
  (K (.int .i64 (-1)) h2)
  (cond (decide (y < x))
  (K (.int .i64 1) h2)
  (K (.int .i64 0) h2))))) := by kernel_rfl
theorem cmp_Compare_int_call {x : Int} {y : Int} {h : Hp} {K : Value → Hp → Prop} (hk : cmp_Compare_int_b0 x y h K) : HCalls Try.prog 52 #[.int .i64 x, .int .i64 y] h K :=
  calls_of_snd cmp_Compare_int_an Try.func52 (c := bodyOf Try.f52) rfl Try.ntmps52 (Nat.le_of_ble_eq_true rfl) (snd_1 F_ok F_mixed) hk

/-! ### slices_SortFunc_Sint_int -/
def slices_SortFunc_Sint_int_an : Ann := .leaf
def slices_SortFunc_Sint_int_K0  (K : Value → Hp → Prop) : Exit → Env → Hp → Prop := retK Try.prog Try.f53.results.toList K
def slices_SortFunc_Sint_int_b0 (x : Option Addr) (xL : Nat) (xC : Nat) (cmp : Value) (h : Hp)  (K : Value → Hp → Prop) : Prop :=
  sx_1 Try.prog F 14 (cp [] (bodyOf Try.f53)) (ap [] slices_SortFunc_Sint_int_an) [(0, .slice x xL xC), (1, cmp)] h (slices_SortFunc_Sint_int_K0  K)
theorem slices_SortFunc_Sint_int_b0_eq (x : Option Addr) (xL : Nat) (xC : Nat) (cmp : Value) (h : Hp)  (K : Value → Hp → Prop) : slices_SortFunc_Sint_int_b0 x xL xC cmp h  K = (
  HCalls Try.prog 60 #[.int .u64 (IntKind.u64.wrap (xL : Int))] h fun v1 h1 => ∃ r1 : Int, v1 = .int .i64 r1 ∧
  HCalls Try.prog 63 #[.slice x xL xC, .int .i64 0, .int .i64 (xL : Int), .int .i64 r1, cmp] h1 fun v2 h2 => v2 = .tuple #[] ∧
  K (.tuple #[]) h2) := by kernel_rfl
theorem slices_SortFunc_Sint_int_call {x : Option Addr} {xL : Nat} {xC : Nat} {cmp : Value} {h : Hp} {K : Value → Hp → Prop} (hk : slices_SortFunc_Sint_int_b0 x xL xC cmp h K) : HCalls Try.prog 53 #[.slice x xL xC, cmp] h K :=
  calls_of_snd slices_SortFunc_Sint_int_an Try.func53 (c := bodyOf Try.f53) rfl Try.ntmps53 (Nat.le_of_ble_eq_true rfl) (snd_1 F_ok F_mixed) hk

/-! ### wavelet_Make_c1 -/
def wavelet_Make_c1_an : Ann := .leaf
def wavelet_Make_c1_K0  (K : Value → Hp → Prop) : Exit → Env → Hp → Prop := retK Try.prog Try.f54.results.toList K
def wavelet_Make_c1_b0 (x : Int) (t1 : Option Addr) (h : Hp)  (K : Value → Hp → Prop) : Prop :=
  sx_1 Try.prog F 11 (cp [] (bodyOf Try.f54)) (ap [] wavelet_Make_c1_an) [(0, .int .i64 x), (1, .pointer t1)] h (wavelet_Make_c1_K0  K)
theorem wavelet_Make_c1_b0_eq (x : Int) (t1 : Option Addr) (h : Hp)  (K : Value → Hp → Prop) : wavelet_Make_c1_b0 x t1 h  K = (
  cond (decide (x < 0))
  (K (.bool true) h)
  (NN t1 fun a1 =>
  ∃ n1 : Int, cell h a1 = some (.int .i64 n1) ∧
  K (.bool (decide (n1 ≤ x))) h)) := by kernel_rfl
theorem wavelet_Make_c1_call {x : Int} {t1 : Option Addr} {h : Hp} {K : Value → Hp → Prop} (hk : wavelet_Make_c1_b0 x t1 h K) : HCalls Try.prog 54 #[.int .i64 x, .pointer t1] h K :=
  calls_of_snd wavelet_Make_c1_an Try.func54 (c := bodyOf Try.f54) rfl Try.ntmps54 (Nat.le_of_ble_eq_true rfl) (snd_1 F_ok F_mixed) hk

/-! ### Make -/
def Make_an : Ann := .node none (.leaf) (.node none (.leaf) (.node none (.leaf) (.node (some [4]) (.node none (.leaf) (.loop [4, 19, 20] [(21, .int .i64)] (.node none (.leaf) (.node none (.leaf) (.node (some [4, 19, 20, 21]) (.node none (.leaf) (.node none (.leaf) (.node none (.tail 13) (.leaf)))) (.leaf)))))) (.leaf))))
def Make_K0  (K : Value → Hp → Prop) : Exit → Env → Hp → Prop := retK Try.prog Try.f55.results.toList K
def Make_K1  (K : Value → Hp → Prop) : Exit → Env → Hp → Prop := thenE (fun env h => sx_2 Try.prog F 43 (cp [1, 1, 1, 1] (bodyOf Try.f55)) (ap [1, 1, 1, 1] Make_an) (rs [4] env) h (Make_K0  K)) (Make_K0  K)
def Make_K2  (K : Value → Hp → Prop) : Exit → Env → Hp → Prop := blockE 0 (Make_K1  K)
def Make_K3 (nx0 : Int × Unit → Hp → Prop) (K : Value → Hp → Prop) : Exit → Env → Hp → Prop := thenE (fun env h => getV [(21, .int .i64)] env fun s => nx0 s h) (Make_K2  K)
def Make_b0 (l : Option Addr) (lL : Nat) (lC : Nat) (h : Hp)  (K : Value → Hp → Prop) : Prop :=
  sx_3 Try.prog F 43 (cp [] (bodyOf Try.f55)) (ap [] Make_an) [(0, .slice l lL lC)] h (Make_K0  K)
def Make_b1 (t21 : Int) (v : Option Addr) (t19 : Option Addr) (t19L : Nat) (t19C : Nat) (t20 : Int) (h : Hp) (nx0 : Int × Unit → Hp → Prop) (K : Value → Hp → Prop) : Prop :=
  sx_2 Try.prog F 43 (cp [1, 1, 1, 0, 1, 2, 2] (bodyOf Try.f55)) (ap [1, 1, 1, 0, 1, 2] Make_an) [(21, .int .i64 t21), (4, .pointer v), (19, .slice t19 t19L t19C), (20, .int .i64 t20)] h (Make_K3 nx0 K)
def Make_b2 (v : Option Addr) (t19 : Option Addr) (t19L : Nat) (t19C : Nat) (t20 : Int) (t21 : Int) (h : Hp) (nx0 : Int × Unit → Hp → Prop) (K : Value → Hp → Prop) : Prop :=
  sx_1 Try.prog F 43 (cp [1, 1, 1, 0, 1, 2, 2, 1, 1, 1] (bodyOf Try.f55)) (ap [1, 1, 1, 0, 1, 2, 1, 1, 1] Make_an) [(4, .pointer v), (19, .slice t19 t19L t19C), (20, .int .i64 t20), (21, .int .i64 t21)] h (Make_K3 nx0 K)
def Make_b3 (v : Option Addr) (h : Hp)  (K : Value → Hp → Prop) : Prop :=
  sx_2 Try.prog F 43 (cp [1, 1, 1, 1] (bodyOf Try.f55)) (ap [1, 1, 1, 1] Make_an) [(4, .pointer v)] h (Make_K0  K)
theorem Make_b0_eq (l : Option Addr) (lL : Nat) (lC : Nat) (h : Hp)  (K : Value → Hp → Prop) : Make_b0 l lL lC h  K = (
  cond (decide ((65536 : Int) < (lL : Int)))
  (K (.tuple #[.pointer none, .int .i64 4]) h)
  (InR ((lL : Int) + 63) ∧
  ∃ q1 : Int, Sx.Quo .i64 ((lL : Int) + 63) 64 q1 ∧
  (0 ≤ q1 ∧ q1 ≤ q1 ∧ q1 ≤ 281474976710656 ∧ q1 * ((8 : Nat) : Int) ≤ 281474976710656) ∧
  New h (.cells (repL (Int.toNat q1 * 1) [.int .u64 0]).toArray 94) fun b1 h1 =>
  New h1 (.cells #[.int .i64 (lL : Int), .slice (some ⟨b1, 0, none⟩) (Int.toNat q1) (Int.toNat q1), .slice none 0 0] 93) fun b2 h2 =>
  LoopVC ((0, ()) : Int × Unit) h2 (fun (nx0 : Int × Unit → Hp → Prop) (s1 : Int × Unit) h3 => Make_b1 s1.1 (some ⟨b2, 0, none⟩) l lL lC (lL : Int) h3 nx0 K))) := by kernel_rfl
theorem Make_b1_eq (t21 : Int) (v : Option Addr) (t19 : Option Addr) (t19L : Nat) (t19C : Nat) (t20 : Int) (h : Hp) (nx0 : Int × Unit → Hp → Prop) (K : Value → Hp → Prop) : Make_b1 t21 v t19 t19L t19C t20 h nx0 K = (
  cond (decide (t21 < t20))
  ((0 ≤ t21 ∧ t21 < (t19L : Int)) ∧
  NN t19 fun a1 =>
  ∃ b3 : Bool, cell h (a1.add (Int.toNat t21 * 1)) = some (.bool b3) ∧
  cond b3
  (NN v fun a2 =>
  ∃ (a3 : Option Addr) (L1 C1 : Nat), cell h (a2.add 1) = some (.slice a3 L1 C1) ∧
  ∃ q2 : Int, Sx.Quo .i64 t21 64 q2 ∧
  (0 ≤ q2 ∧ q2 < (L1 : Int)) ∧
  NN a3 fun a4 =>
  ∃ n1 : Int, cell h (a4.add (Int.toNat q2 * 1)) = some (.int .u64 n1) ∧
  ∃ r1 : Int, Sx.Rem t21 64 r1 ∧
  ∃ sl1 : Int, Sx.Shl .u64 1 r1 sl1 ∧
  ∃ or1 : Int, Sx.Or .u64 n1 sl1 or1 ∧
  (0 ≤ q2 ∧ q2 < (L1 : Int)) ∧
  NN a3 fun a5 =>
  Wr h (a5.add (Int.toNat q2 * 1)) (.int .u64 or1) fun h4 =>
  Make_b2 v t19 t19L t19C t20 t21 h4 nx0 K)
  (Make_b2 v t19 t19L t19C t20 t21 h nx0 K))
  (Make_b3 v h  K)) := by kernel_rfl
theorem Make_b2_eq (v : Option Addr) (t19 : Option Addr) (t19L : Nat) (t19C : Nat) (t20 : Int) (t21 : Int) (h : Hp) (nx0 : Int × Unit → Hp → Prop) (K : Value → Hp → Prop) : Make_b2 v t19 t19L t19C t20 t21 h nx0 K = (
  InR (t21 + 1) ∧
  nx0 (t21 + 1, ()) h) := by kernel_rfl
theorem Make_b3_eq (v : Option Addr) (h : Hp)  (K : Value → Hp → Prop) : Make_b3 v h  K = (
  HCalls Try.prog 64 #[.pointer v] h fun v1 h5 => ∃ r2 : Option Addr, v1 = .pointer r2 ∧
  K (.tuple #[.pointer r2, .int .i64 0]) h5) := by kernel_rfl
theorem Make_call {l : Option Addr} {lL : Nat} {lC : Nat} {h : Hp} {K : Value → Hp → Prop} (hk : Make_b0 l lL lC h K) : HCalls Try.prog 55 #[.slice l lL lC] h K :=
  calls_of_snd Make_an Try.func55 (c := bodyOf Try.f55) rfl Try.ntmps55 (Nat.le_of_ble_eq_true rfl) (snd_3 F_ok F_mixed) hk

/-! ### slices_SortStableFunc_Sint_int -/
def slices_SortStableFunc_Sint_int_an : Ann := .leaf
def slices_SortStableFunc_Sint_int_K0  (K : Value → Hp → Prop) : Exit → Env → Hp → Prop := retK Try.prog Try.f56.results.toList K
def slices_SortStableFunc_Sint_int_b0 (x : Option Addr) (xL : Nat) (xC : Nat) (cmp : Value) (h : Hp)  (K : Value → Hp → Prop) : Prop :=
  sx_1 Try.prog F 9 (cp [] (bodyOf Try.f56)) (ap [] slices_SortStableFunc_Sint_int_an) [(0, .slice x xL xC), (1, cmp)] h (slices_SortStableFunc_Sint_int_K0  K)
theorem slices_SortStableFunc_Sint_int_b0_eq (x : Option Addr) (xL : Nat) (xC : Nat) (cmp : Value) (h : Hp)  (K : Value → Hp → Prop) : slices_SortStableFunc_Sint_int_b0 x xL xC cmp h  K = (
  HCalls Try.prog 65 #[.slice x xL xC, .int .i64 (xL : Int), cmp] h fun v1 h1 => v1 = .tuple #[] ∧
  K (.tuple #[]) h1) := by kernel_rfl
theorem slices_SortStableFunc_Sint_int_call {x : Option Addr} {xL : Nat} {xC : Nat} {cmp : Value} {h : Hp} {K : Value → Hp → Prop} (hk : slices_SortStableFunc_Sint_int_b0 x xL xC cmp h K) : HCalls Try.prog 56 #[.slice x xL xC, cmp] h K :=
  calls_of_snd slices_SortStableFunc_Sint_int_an Try.func56 (c := bodyOf Try.f56) rfl Try.ntmps56 (Nat.le_of_ble_eq_true rfl) (snd_1 F_ok F_mixed) hk

/-! ### wavelet_Make_c2 -/
def wavelet_Make_c2_an : Ann := .leaf
def wavelet_Make_c2_K0  (K : Value → Hp → Prop) : Exit → Env → Hp → Prop := retK Try.prog Try.f57.results.toList K
def wavelet_Make_c2_b0 (a : Int) (b : Int) (t2 : Option Addr) (h : Hp)  (K : Value → Hp → Prop) : Prop :=
  sx_1 Try.prog F 13 (cp [] (bodyOf Try.f57)) (ap [] wavelet_Make_c2_an) [(0, .int .i64 a), (1, .int .i64 b), (2, .pointer t2)] h (wavelet_Make_c2_K0  K)
theorem wavelet_Make_c2_b0_eq (a : Int) (b : Int) (t2 : Option Addr) (h : Hp)  (K : Value → Hp → Prop) : wavelet_Make_c2_b0 a b t2 h  K = (
  NN t2 fun a1 =>
  ∃ n1 : Int, cell h a1 = some (.int .i64 n1) ∧
  ∃ sr1 : Int, Sx.Shr .i64 a n1 sr1 ∧
  NN t2 fun a2 =>
  ∃ n2 : Int, cell h a2 = some (.int .i64 n2) ∧
  ∃ sr2 : Int, Sx.Shr .i64 b n2 sr2 ∧
  ∃ r1 : Int, HCalls Try.prog 52 #[.int .i64 sr1, .int .i64 sr2] h (fun v1 h1 => v1 = .int .i64 r1 ∧ h1 = h) ∧
  K (.int .i64 r1) h) := by kernel_rfl
theorem wavelet_Make_c2_call {a : Int} {b : Int} {t2 : Option Addr} {h : Hp} {K : Value → Hp → Prop} (hk : wavelet_Make_c2_b0 a b t2 h K) : HCalls Try.prog 57 #[.int .i64 a, .int .i64 b, .pointer t2] h K :=
  calls_of_snd wavelet_Make_c2_an Try.func57 (c := bodyOf Try.f57) rfl Try.ntmps57 (Nat.le_of_ble_eq_true rfl) (snd_1 F_ok F_mixed) hk

/-! ### suffixindex_Index_rank -/
def suffixindex_Index_rank_an : Ann := .node none (.leaf) (.node (some [0, 1, 2]) (.leaf) (.leaf))
def suffixindex_Index_rank_K0  (K : Value → Hp → Prop) : Exit → Env → Hp → Prop := retK Try.prog Try.f58.results.toList K
def suffixindex_Index_rank_b0 (x : Option Addr) (c : Int) (i : Int) (h : Hp)  (K : Value → Hp → Prop) : Prop :=
  sx_2 Try.prog F 29 (cp [] (bodyOf Try.f58)) (ap [] suffixindex_Index_rank_an) [(0, .pointer x), (1, .int .u8 c), (2, .int .i64 i)] h (suffixindex_Index_rank_K0  K)
def suffixindex_Index_rank_b1 (x : Option Addr) (c : Int) (i : Int) (h : Hp)  (K : Value → Hp → Prop) : Prop :=
  sx_1 Try.prog F 29 (cp [1, 1] (bodyOf Try.f58)) (ap [1, 1] suffixindex_Index_rank_an) [(0, .pointer x), (1, .int .u8 c), (2, .int .i64 i)] h (suffixindex_Index_rank_K0  K)
theorem suffixindex_Index_rank_b0_eq (x : Option Addr) (c : Int) (i : Int) (h : Hp)  (K : Value → Hp → Prop) : suffixindex_Index_rank_b0 x c i h  K = (
  NN x fun a1 =>
  ∃ n1 : Int, cell h (a1.add 2) = some (.int .i64 n1) ∧
  cond (decide (n1 < i))
  (InR (i - 1) ∧
  suffixindex_Index_rank_b1 x c (i - 1) h  K)
  (suffixindex_Index_rank_b1 x c i h  K)) := by kernel_rfl
theorem suffixindex_Index_rank_b1_eq (x : Option Addr) (c : Int) (i : Int) (h : Hp)  (K : Value → Hp → Prop) : suffixindex_Index_rank_b1 x c i h  K = (
  NN x fun a2 =>
  ∃ p1 : Option Addr, cell h (a2.add 260) = some (.pointer p1) ∧
  InR c ∧
  HCalls Try.prog 66 #[.pointer p1, .int .i64 c, .int .i64 i] h fun v1 h1 => ∃ r1 : Int, ∃ r2 : Int, v1 = .tuple #[.int .i64 r1, .int .i64 r2] ∧
  K (.int .i64 r1) h1) := by kernel_rfl
theorem suffixindex_Index_rank_call {x : Option Addr} {c : Int} {i : Int} {h : Hp} {K : Value → Hp → Prop} (hk : suffixindex_Index_rank_b0 x c i h K) : HCalls Try.prog 58 #[.pointer x, .int .u8 c, .int .i64 i] h K :=
  calls_of_snd suffixindex_Index_rank_an Try.func58 (c := bodyOf Try.f58) rfl Try.ntmps58 (Nat.le_of_ble_eq_true rfl) (snd_2 F_ok F_mixed) hk

/-! ### slices_pdqsortOrdered_int -/
def slices_pdqsortOrdered_int_an : Ann := .node none (.leaf) (.node none (.leaf) (.loop [0] [(1, .int .i64), (2, .int .i64), (3, .int .i64), (8, .bool), (9, .bool)] (.node none (.leaf) (.node none (.leaf) (.node none (.leaf) (.node (some [0, 1, 2, 3, 8, 9, 10]) (.leaf) (.node none (.leaf) (.node (some [0, 1, 2, 3, 8, 9, 10, 11, 12]) (.leaf) (.node (some [0, 1, 2, 3, 8, 9, 10, 11]) (.leaf) (.node (some [0, 1, 2, 3, 10, 11]) (.leaf) (.leaf)))))))))))
def slices_pdqsortOrdered_int_K0  (K : Value → Hp → Prop) : Exit → Env → Hp → Prop := retK Try.prog Try.f59.results.toList K
def slices_pdqsortOrdered_int_K1  (K : Value → Hp → Prop) : Exit → Env → Hp → Prop := blockE 0 (slices_pdqsortOrdered_int_K0  K)
def slices_pdqsortOrdered_int_K2 (nx0 : Int × Int × Int × Bool × Bool × Unit → Hp → Prop) (K : Value → Hp → Prop) : Exit → Env → Hp → Prop := thenE (fun env h => getV [(1, .int .i64), (2, .int .i64), (3, .int .i64), (8, .bool), (9, .bool)] env fun s => nx0 s h) (slices_pdqsortOrdered_int_K1  K)
def slices_pdqsortOrdered_int_K3 (nx0 : Int × Int × Int × Bool × Bool × Unit → Hp → Prop) (K : Value → Hp → Prop) : Exit → Env → Hp → Prop := blockE 1 (slices_pdqsortOrdered_int_K2 nx0 K)
def slices_pdqsortOrdered_int_b0 (data : Option Addr) (dataL : Nat) (dataC : Nat) (a : Int) (b : Int) (limit : Int) (h : Hp)  (K : Value → Hp → Prop) : Prop :=
  sx_6 Try.prog F 134 (cp [] (bodyOf Try.f59)) (ap [] slices_pdqsortOrdered_int_an) [(0, .slice data dataL dataC), (1, .int .i64 a), (2, .int .i64 b), (3, .int .i64 limit)] h (slices_pdqsortOrdered_int_K0  K)
def slices_pdqsortOrdered_int_b1 (a : Int) (b : Int) (limit : Int) (wasBalanced : Bool) (wasPartitioned : Bool) (data : Option Addr) (dataL : Nat) (dataC : Nat) (h : Hp) (nx0 : Int × Int × Int × Bool × Bool × Unit → Hp → Prop) (K : Value → Hp → Prop) : Prop :=
  sx_5 Try.prog F 134 (cp [1, 1, 2, 2] (bodyOf Try.f59)) (ap [1, 1, 2] slices_pdqsortOrdered_int_an) [(1, .int .i64 a), (2, .int .i64 b), (3, .int .i64 limit), (8, .bool wasBalanced), (9, .bool wasPartitioned), (0, .slice data dataL dataC)] h (slices_pdqsortOrdered_int_K2 nx0 K)
def slices_pdqsortOrdered_int_b2 (data : Option Addr) (dataL : Nat) (dataC : Nat) (a : Int) (b : Int) (limit : Int) (wasBalanced : Bool) (wasPartitioned : Bool) (length : Int) (h : Hp) (nx0 : Int × Int × Int × Bool × Bool × Unit → Hp → Prop) (K : Value → Hp → Prop) : Prop :=
  sx_4 Try.prog F 134 (cp [1, 1, 2, 2, 2, 1, 1, 1, 1] (bodyOf Try.f59)) (ap [1, 1, 2, 1, 1, 1, 1] slices_pdqsortOrdered_int_an) [(0, .slice data dataL dataC), (1, .int .i64 a), (2, .int .i64 b), (3, .int .i64 limit), (8, .bool wasBalanced), (9, .bool wasPartitioned), (10, .int .i64 length)] h (slices_pdqsortOrdered_int_K3 nx0 K)
def slices_pdqsortOrdered_int_b3 (data : Option Addr) (dataL : Nat) (dataC : Nat) (a : Int) (b : Int) (limit : Int) (wasBalanced : Bool) (wasPartitioned : Bool) (length : Int) (pivot : Int) (hint : Int) (h : Hp) (nx0 : Int × Int × Int × Bool × Bool × Unit → Hp → Prop) (K : Value → Hp → Prop) : Prop :=
  sx_3 Try.prog F 134 (cp [1, 1, 2, 2, 2, 1, 1, 1, 1, 1, 1] (bodyOf Try.f59)) (ap [1, 1, 2, 1, 1, 1, 1, 1, 1] slices_pdqsortOrdered_int_an) [(0, .slice data dataL dataC), (1, .int .i64 a), (2, .int .i64 b), (3, .int .i64 limit), (8, .bool wasBalanced), (9, .bool wasPartitioned), (10, .int .i64 length), (11, .int .i64 pivot), (12, .int .i64 hint)] h (slices_pdqsortOrdered_int_K3 nx0 K)
def slices_pdqsortOrdered_int_b4 (data : Option Addr) (dataL : Nat) (dataC : Nat) (a : Int) (b : Int) (limit : Int) (wasBalanced : Bool) (wasPartitioned : Bool) (length : Int) (pivot : Int) (h : Hp) (nx0 : Int × Int × Int × Bool × Bool × Unit → Hp → Prop) (K : Value → Hp → Prop) : Prop :=
  sx_2 Try.prog F 134 (cp [1, 1, 2, 2, 2, 1, 1, 1, 1, 1, 1, 1] (bodyOf Try.f59)) (ap [1, 1, 2, 1, 1, 1, 1, 1, 1, 1] slices_pdqsortOrdered_int_an) [(0, .slice data dataL dataC), (1, .int .i64 a), (2, .int .i64 b), (3, .int .i64 limit), (8, .bool wasBalanced), (9, .bool wasPartitioned), (10, .int .i64 length), (11, .int .i64 pivot)] h (slices_pdqsortOrdered_int_K3 nx0 K)
def slices_pdqsortOrdered_int_b5 (data : Option Addr) (dataL : Nat) (dataC : Nat) (a : Int) (b : Int) (limit : Int) (length : Int) (pivot : Int) (h : Hp) (nx0 : Int × Int × Int × Bool × Bool × Unit → Hp → Prop) (K : Value → Hp → Prop) : Prop :=
  sx_1 Try.prog F 134 (cp [1, 1, 2, 2, 2, 1, 1, 1, 1, 1, 1, 1, 1] (bodyOf Try.f59)) (ap [1, 1, 2, 1, 1, 1, 1, 1, 1, 1, 1] slices_pdqsortOrdered_int_an) [(0, .slice data dataL dataC), (1, .int .i64 a), (2, .int .i64 b), (3, .int .i64 limit), (10, .int .i64 length), (11, .int .i64 pivot)] h (slices_pdqsortOrdered_int_K3 nx0 K)
theorem slices_pdqsortOrdered_int_b0_eq (data : Option Addr) (dataL : Nat) (dataC : Nat) (a : Int) (b : Int) (limit : Int) (h : Hp)  (K : Value → Hp → Prop) : slices_pdqsortOrdered_int_b0 data dataL dataC a b limit h  K = (
  LoopVC ((a, b, limit, true, true, ()) : Int × Int × Int × Bool × Bool × Unit) h (fun (nx0 : Int × Int × Int × Bool × Bool × Unit → Hp → Prop) (s1 : Int × Int × Int × Bool × Bool × Unit) h1 => slices_pdqsortOrdered_int_b1 s1.1 s1.2.1 s1.2.2.1 s1.2.2.2.1 s1.2.2.2.2.1 data dataL dataC h1 nx0 K)) := by kernel_rfl
theorem slices_pdqsortOrdered_int_b1_eq (a : Int) (b : Int) (limit : Int) (wasBalanced : Bool) (wasPartitioned : Bool) (data : Option Addr) (dataL : Nat) (dataC : Nat) (h : Hp) (nx0 : Int × Int × Int × Bool × Bool × Unit → Hp → Prop) (K : Value → Hp → Prop) : slices_pdqsortOrdered_int_b1 a b limit wasBalanced wasPartitioned data dataL dataC h nx0 K = (
  InR (b - a) ∧
  cond (decide ((b - a) ≤ 12))
  (HCalls Try.prog 67 #[.slice data dataL dataC, .int .i64 a, .int .i64 b] h fun v1 h2 => v1 = .tuple #[] ∧
  K (.tuple #[]) h2)
  (cond (decide (limit = 0))
  (HCalls Try.prog 68 #[.slice data dataL dataC, .int .i64 a, .int .i64 b] h fun v2 h3 => v2 = .tuple #[] ∧
  K (.tuple #[]) h3)
  (cond (!wasBalanced)
  (HCalls Try.prog 69 #[.slice data dataL dataC, .int .i64 a, .int .i64 b] h fun v3 h4 => v3 = .tuple #[] ∧
  InR (limit - 1) ∧
  slices_pdqsortOrdered_int_b2 data dataL dataC a b (limit - 1) wasBalanced wasPartitioned (b - a) h4 nx0 K)
  (slices_pdqsortOrdered_int_b2 data dataL dataC a b limit wasBalanced wasPartitioned (b - a) h nx0 K)))) := by kernel_rfl
theorem slices_pdqsortOrdered_int_b2_eq (data : Option Addr) (dataL : Nat) (dataC : Nat) (a : Int) (b : Int) (limit : Int) (wasBalanced : Bool) (wasPartitioned : Bool) (length : Int) (h : Hp) (nx0 : Int × Int × Int × Bool × Bool × Unit → Hp → Prop) (K : Value → Hp → Prop) : slices_pdqsortOrdered_int_b2 data dataL dataC a b limit wasBalanced wasPartitioned length h nx0 K = (
  HCalls Try.prog 70 #[.slice data dataL dataC, .int .i64 a, .int .i64 b] h fun v4 h5 => ∃ r1 : Int, ∃ r2 : Int, v4 = .tuple #[.int .i64 r1, .int .i64 r2] ∧
  cond (decide (r2 = 2))
  (HCalls Try.prog 71 #[.slice data dataL dataC, .int .i64 a, .int .i64 b] h5 fun v5 h6 => v5 = .tuple #[] ∧
  InR (b - 1) ∧
  InR (r1 - a) ∧
  InR ((b - 1) - (r1 - a)) ∧
  slices_pdqsortOrdered_int_b3 data dataL dataC a b limit wasBalanced wasPartitioned length ((b - 1) - (r1 - a)) 1 h6 nx0 K)
  (slices_pdqsortOrdered_int_b3 data dataL dataC a b limit wasBalanced wasPartitioned length r1 r2 h5 nx0 K)) := by kernel_rfl
theorem slices_pdqsortOrdered_int_b3_eq (data : Option Addr) (dataL : Nat) (dataC : Nat) (a : Int) (b : Int) (limit : Int) (wasBalanced : Bool) (wasPartitioned : Bool) (length : Int) (pivot : Int) (hint : Int) (h : Hp) (nx0 : Int × Int × Int × Bool × Bool × Unit → Hp → Prop) (K : Value → Hp → Prop) : slices_pdqsortOrdered_int_b3 data dataL dataC a b limit wasBalanced wasPartitioned length pivot hint h nx0 K = (
  cond wasBalanced
  (cond wasPartitioned
  (cond (decide (hint = 1))
  (HCalls Try.prog 72 #[.slice data dataL dataC, .int .i64 a, .int .i64 b] h fun v6 h7 => ∃ r3 : Bool, v6 = .bool r3 ∧
  cond r3
  (K (.tuple #[]) h7)
  (slices_pdqsortOrdered_int_b4 data dataL dataC a b limit wasBalanced wasPartitioned length pivot h7 nx0 K))
  (slices_pdqsortOrdered_int_b4 data dataL dataC a b limit wasBalanced wasPartitioned length pivot h nx0 K))
  (slices_pdqsortOrdered_int_b4 data dataL dataC a b limit wasBalanced wasPartitioned length pivot h nx0 K))
  (slices_pdqsortOrdered_int_b4 data dataL dataC a b limit wasBalanced wasPartitioned length pivot h nx0 K)) := by kernel_rfl
theorem slices_pdqsortOrdered_int_b4_eq (data : Option Addr) (dataL : Nat) (dataC : Nat) (a : Int) (b : Int) (limit : Int) (wasBalanced : Bool) (wasPartitioned : Bool) (length : Int) (pivot : Int) (h : Hp) (nx0 : Int × Int × Int × Bool × Bool × Unit → Hp → Prop) (K : Value → Hp → Prop) : slices_pdqsortOrdered_int_b4 data dataL dataC a b limit wasBalanced wasPartitioned length pivot h nx0 K = (
  cond (decide ((0 : Int) < a))
  (InR (a - 1) ∧
  (0 ≤ a - 1 ∧ a - 1 < (dataL : Int)) ∧
  NN data fun a1 =>
  ∃ n1 : Int, cell h (a1.add (Int.toNat (a - 1) * 1)) = some (.int .i64 n1) ∧
  (0 ≤ pivot ∧ pivot < (dataL : Int)) ∧
  NN data fun a2 =>
  ∃ n2 : Int, cell h (a2.add (Int.toNat pivot * 1)) = some (.int .i64 n2) ∧
  ∃ r4 : Bool, HCalls Try.prog 73 #[.int .i64 n1, .int .i64 n2] h (fun v7 h8 => v7 = .bool r4 ∧ h8 = h) ∧
  cond (!r4)
  (HCalls Try.prog 74 #[.slice data dataL dataC, .int .i64 a, .int .i64 b, .int .i64 pivot] h fun v8 h9 => ∃ r5 : Int, v8 = .int .i64 r5 ∧
  nx0 (r5, b, limit, wasBalanced, wasPartitioned, ()) h9)
  (slices_pdqsortOrdered_int_b5 data dataL dataC a b limit length pivot h nx0 K))
  (slices_pdqsortOrdered_int_b5 data dataL dataC a b limit length pivot h nx0 K)) := by kernel_rfl
theorem slices_pdqsortOrdered_int_b5_eq (data : Option Addr) (dataL : Nat) (dataC : Nat) (a : Int) (b : Int) (limit : Int) (length : Int) (pivot : Int) (h : Hp) (nx0 : Int × Int × Int × Bool × Bool × Unit → Hp → Prop) (K : Value → Hp → Prop) : slices_pdqsortOrdered_int_b5 data dataL dataC a b limit length pivot h nx0 K = (
  HCalls Try.prog 75 #[.slice data dataL dataC, .int .i64 a, .int .i64 b, .int .i64 pivot] h fun v9 h10 => ∃ r6 : Int, ∃ r7 : Bool, v9 = .tuple #[.int .i64 r6, .bool r7] ∧
  InR (r6 - a) ∧
  InR (b - r6) ∧
  ∃ q1 : Int, Sx.Quo .i64 length 8 q1 ∧
  cond (decide ((r6 - a) < (b - r6)))
  (HCalls Try.prog 59 #[.slice data dataL dataC, .int .i64 a, .int .i64 r6, .int .i64 limit] h10 fun v10 h11 => v10 = .tuple #[] ∧
  InR (r6 + 1) ∧
  nx0 (r6 + 1, b, limit, decide (q1 ≤ (r6 - a)), r7, ()) h11)
  (InR (r6 + 1) ∧
  HCalls Try.prog 59 #[.slice data dataL dataC, .int .i64 (r6 + 1), .int .i64 b, .int .i64 limit] h10 fun v11 h12 => v11 = .tuple #[] ∧
  nx0 (a, r6, limit, decide (q1 ≤ (b - r6)), r7, ()) h12)) := by kernel_rfl
theorem slices_pdqsortOrdered_int_call {data : Option Addr} {dataL : Nat} {dataC : Nat} {a : Int} {b : Int} {limit : Int} {h : Hp} {K : Value → Hp → Prop} (hk : slices_pdqsortOrdered_int_b0 data dataL dataC a b limit h K) : HCalls Try.prog 59 #[.slice data dataL dataC, .int .i64 a, .int .i64 b, .int .i64 limit] h K :=
  calls_of_snd slices_pdqsortOrdered_int_an Try.func59 (c := bodyOf Try.f59) rfl Try.ntmps59 (Nat.le_of_ble_eq_true rfl) (snd_6 F_ok F_mixed) hk

/-! ### math_bits_Len -/
def math_bits_Len_an : Ann := .leaf
def math_bits_Len_K0  (K : Value → Hp → Prop) : Exit → Env → Hp → Prop := retK Try.prog Try.f60.results.toList K
def math_bits_Len_b0 (x : Int) (h : Hp)  (K : Value → Hp → Prop) : Prop :=
  sx_1 Try.prog F 8 (cp [] (bodyOf Try.f60)) (ap [] math_bits_Len_an) [(0, .int .u64 x)] h (math_bits_Len_K0  K)
theorem math_bits_Len_b0_eq (x : Int) (h : Hp)  (K : Value → Hp → Prop) : math_bits_Len_b0 x h  K = (
  HCalls Try.prog 77 #[.int .u64 x] h fun v1 h1 => ∃ r1 : Int, v1 = .int .i64 r1 ∧
  K (.int .i64 r1) h1) := by kernel_rfl
theorem math_bits_Len_call {x : Int} {h : Hp} {K : Value → Hp → Prop} (hk : math_bits_Len_b0 x h K) : HCalls Try.prog 60 #[.int .u64 x] h K :=
  calls_of_snd math_bits_Len_an Try.func60 (c := bodyOf Try.f60) rfl Try.ntmps60 (Nat.le_of_ble_eq_true rfl) (snd_1 F_ok F_mixed) hk

/-! ### slices_IndexFunc_Sint_int -/
def slices_IndexFunc_Sint_int_an : Ann := .node none (.leaf) (.node (some []) (.node none (.leaf) (.loop [0, 1, 7] [(8, .int .i64)] (.node none (.leaf) (.node none (.leaf) (.node (some [0, 1, 7, 8]) (.leaf) (.leaf)))))) (.leaf))
def slices_IndexFunc_Sint_int_K0  (K : Value → Hp → Prop) : Exit → Env → Hp → Prop := retK Try.prog Try.f61.results.toList K
def slices_IndexFunc_Sint_int_K1  (K : Value → Hp → Prop) : Exit → Env → Hp → Prop := thenE (fun env h => sx_2 Try.prog F 19 (cp [1, 1] (bodyOf Try.f61)) (ap [1, 1] slices_IndexFunc_Sint_int_an) (rs [] env) h (slices_IndexFunc_Sint_int_K0  K)) (slices_IndexFunc_Sint_int_K0  K)
def slices_IndexFunc_Sint_int_K2  (K : Value → Hp → Prop) : Exit → Env → Hp → Prop := blockE 0 (slices_IndexFunc_Sint_int_K1  K)
def slices_IndexFunc_Sint_int_K3 (nx0 : Int × Unit → Hp → Prop) (K : Value → Hp → Prop) : Exit → Env → Hp → Prop := thenE (fun env h => getV [(8, .int .i64)] env fun s => nx0 s h) (slices_IndexFunc_Sint_int_K2  K)
def slices_IndexFunc_Sint_int_b0 (s : Option Addr) (sL : Nat) (sC : Nat) (f : Value) (h : Hp)  (K : Value → Hp → Prop) : Prop :=
  sx_3 Try.prog F 19 (cp [] (bodyOf Try.f61)) (ap [] slices_IndexFunc_Sint_int_an) [(0, .slice s sL sC), (1, f)] h (slices_IndexFunc_Sint_int_K0  K)
def slices_IndexFunc_Sint_int_b1 (t8 : Int) (s : Option Addr) (sL : Nat) (sC : Nat) (f : Value) (t7 : Int) (h : Hp) (nx0 : Int × Unit → Hp → Prop) (K : Value → Hp → Prop) : Prop :=
  sx_2 Try.prog F 19 (cp [1, 0, 1, 2, 2] (bodyOf Try.f61)) (ap [1, 0, 1, 2] slices_IndexFunc_Sint_int_an) [(8, .int .i64 t8), (0, .slice s sL sC), (1, f), (7, .int .i64 t7)] h (slices_IndexFunc_Sint_int_K3 nx0 K)
def slices_IndexFunc_Sint_int_b2 (s : Option Addr) (sL : Nat) (sC : Nat) (f : Value) (t7 : Int) (t8 : Int) (h : Hp) (nx0 : Int × Unit → Hp → Prop) (K : Value → Hp → Prop) : Prop :=
  sx_1 Try.prog F 19 (cp [1, 0, 1, 2, 2, 1, 1, 1] (bodyOf Try.f61)) (ap [1, 0, 1, 2, 1, 1, 1] slices_IndexFunc_Sint_int_an) [(0, .slice s sL sC), (1, f), (7, .int .i64 t7), (8, .int .i64 t8)] h (slices_IndexFunc_Sint_int_K3 nx0 K)
def slices_IndexFunc_Sint_int_b3  (h : Hp)  (K : Value → Hp → Prop) : Prop :=
  sx_2 Try.prog F 19 (cp [1, 1] (bodyOf Try.f61)) (ap [1, 1] slices_IndexFunc_Sint_int_an) [] h (slices_IndexFunc_Sint_int_K0  K)
theorem slices_IndexFunc_Sint_int_b0_eq (s : Option Addr) (sL : Nat) (sC : Nat) (f : Value) (h : Hp)  (K : Value → Hp → Prop) : slices_IndexFunc_Sint_int_b0 s sL sC f h  K = (
  LoopVC ((0, ()) : Int × Unit) h (fun (nx0 : Int × Unit → Hp → Prop) (s1 : Int × Unit) h1 => slices_IndexFunc_Sint_int_b1 s1.1 s sL sC f (sL : Int) h1 nx0 K)) := by kernel_rfl
theorem slices_IndexFunc_Sint_int_b1_eq (t8 : Int) (s : Option Addr) (sL : Nat) (sC : Nat) (f : Value) (t7 : Int) (h : Hp) (nx0 : Int × Unit → Hp → Prop) (K : Value → Hp → Prop) : slices_IndexFunc_Sint_int_b1 t8 s sL sC f t7 h nx0 K = (
  cond (decide (t8 < t7))
  ((0 ≤ t8 ∧ t8 < (sL : Int)) ∧
  NN s fun a1 =>
  ∃ n1 : Int, cell h (a1.add (Int.toNat t8 * 1)) = some (.int .i64 n1) ∧
  funV f fun fg1 fa1 fc1 => callX Try.prog F fg1 (fa1 ++ (([.int .i64 n1] : List Value) ++ fc1)).toArray h fun v1 h2 => ∃ r1 : Bool, v1 = .bool r1 ∧
  cond r1
  (K (.int .i64 t8) h2)
  (slices_IndexFunc_Sint_int_b2 s sL sC f t7 t8 h2 nx0 K))
  (slices_IndexFunc_Sint_int_b3  h  K)) := by kernel_rfl
theorem slices_IndexFunc_Sint_int_b2_eq (s : Option Addr) (sL : Nat) (sC : Nat) (f : Value) (t7 : Int) (t8 : Int) (h : Hp) (nx0 : Int × Unit → Hp → Prop) (K : Value → Hp → Prop) : slices_IndexFunc_Sint_int_b2 s sL sC f t7 t8 h nx0 K = (
  InR (t8 + 1) ∧
  nx0 (t8 + 1, ()) h) := by kernel_rfl
theorem slices_IndexFunc_Sint_int_b3_eq  (h : Hp)  (K : Value → Hp → Prop) : slices_IndexFunc_Sint_int_b3  h  K = (
  K (.int .i64 (-1)) h) := by kernel_rfl
theorem slices_IndexFunc_Sint_int_call {s : Option Addr} {sL : Nat} {sC : Nat} {f : Value} {h : Hp} {K : Value → Hp → Prop} (hk : slices_IndexFunc_Sint_int_b0 s sL sC f h K) : HCalls Try.prog 61 #[.slice s sL sC, f] h K :=
  calls_of_snd slices_IndexFunc_Sint_int_an Try.func61 (c := bodyOf Try.f61) rfl Try.ntmps61 (Nat.le_of_ble_eq_true rfl) (snd_3 F_ok F_mixed) hk

/-! ### cmp_isNaN_int -/
def cmp_isNaN_int_an : Ann := .leaf
def cmp_isNaN_int_K0  (K : Value → Hp → Prop) : Exit → Env → Hp → Prop := retK Try.prog Try.f62.results.toList K
def cmp_isNaN_int_b0 (x : Int) (h : Hp)  (K : Value → Hp → Prop) : Prop :=
  sx_1 Try.prog F 6 (cp [] (bodyOf Try.f62)) (ap [] cmp_isNaN_int_an) [(0, .int .i64 x)] h (cmp_isNaN_int_K0  K)
theorem cmp_isNaN_int_b0_eq (x : Int) (h : Hp)  (K : Value → Hp → Prop) : cmp_isNaN_int_b0 x h  K = (
  K (.bool (!decide (x = x))) h) := by kernel_rfl
theorem cmp_isNaN_int_call {x : Int} {h : Hp} {K : Value → Hp → Prop} (hk : cmp_isNaN_int_b0 x h K) : HCalls Try.prog 62 #[.int .i64 x] h K :=
  calls_of_snd cmp_isNaN_int_an Try.func62 (c := bodyOf Try.f62) rfl Try.ntmps62 (Nat.le_of_ble_eq_true rfl) (snd_1 F_ok F_mixed) hk

/-! ### slices_pdqsortCmpFunc_int -/
def slices_pdqsortCmpFunc_int_an : Ann := .node none (.leaf) (.node none (.leaf) (.loop [0, 4] [(1, .int .i64), (2, .int .i64), (3, .int .i64), (10, .bool), (11, .bool)] (.node none (.leaf) (.node none (.leaf) (.node none (.leaf) (.node (some [0, 1, 2, 3, 4, 10, 11, 12]) (.leaf) (.node none (.leaf) (.node (some [0, 1, 2, 3, 4, 10, 11, 12, 13, 14]) (.leaf) (.node (some [0, 1, 2, 3, 4, 10, 11, 12, 13]) (.leaf) (.node (some [0, 1, 2, 3, 4, 12, 13]) (.node none (.tail 13) (.leaf)) (.leaf)))))))))))
def slices_pdqsortCmpFunc_int_K0  (K : Value → Hp → Prop) : Exit → Env → Hp → Prop := retK Try.prog Try.f63.results.toList K
def slices_pdqsortCmpFunc_int_K1  (K : Value → Hp → Prop) : Exit → Env → Hp → Prop := blockE 0 (slices_pdqsortCmpFunc_int_K0  K)
def slices_pdqsortCmpFunc_int_K2 (nx0 : Int × Int × Int × Bool × Bool × Unit → Hp → Prop) (K : Value → Hp → Prop) : Exit → Env → Hp → Prop := thenE (fun env h => getV [(1, .int .i64), (2, .int .i64), (3, .int .i64), (10, .bool), (11, .bool)] env fun s => nx0 s h) (slices_pdqsortCmpFunc_int_K1  K)
def slices_pdqsortCmpFunc_int_K3 (nx0 : Int × Int × Int × Bool × Bool × Unit → Hp → Prop) (K : Value → Hp → Prop) : Exit → Env → Hp → Prop := blockE 1 (slices_pdqsortCmpFunc_int_K2 nx0 K)
def slices_pdqsortCmpFunc_int_b0 (data : Option Addr) (dataL : Nat) (dataC : Nat) (a : Int) (b : Int) (limit : Int) (cmp : Value) (h : Hp)  (K : Value → Hp → Prop) : Prop :=
  sx_6 Try.prog F 148 (cp [] (bodyOf Try.f63)) (ap [] slices_pdqsortCmpFunc_int_an) [(0, .slice data dataL dataC), (1, .int .i64 a), (2, .int .i64 b), (3, .int .i64 limit), (4, cmp)] h (slices_pdqsortCmpFunc_int_K0  K)
def slices_pdqsortCmpFunc_int_b1 (a : Int) (b : Int) (limit : Int) (wasBalanced : Bool) (wasPartitioned : Bool) (data : Option Addr) (dataL : Nat) (dataC : Nat) (cmp : Value) (h : Hp) (nx0 : Int × Int × Int × Bool × Bool × Unit → Hp → Prop) (K : Value → Hp → Prop) : Prop :=
  sx_5 Try.prog F 148 (cp [1, 1, 2, 2] (bodyOf Try.f63)) (ap [1, 1, 2] slices_pdqsortCmpFunc_int_an) [(1, .int .i64 a), (2, .int .i64 b), (3, .int .i64 limit), (10, .bool wasBalanced), (11, .bool wasPartitioned), (0, .slice data dataL dataC), (4, cmp)] h (slices_pdqsortCmpFunc_int_K2 nx0 K)
def slices_pdqsortCmpFunc_int_b2 (data : Option Addr) (dataL : Nat) (dataC : Nat) (a : Int) (b : Int) (limit : Int) (cmp : Value) (wasBalanced : Bool) (wasPartitioned : Bool) (length : Int) (h : Hp) (nx0 : Int × Int × Int × Bool × Bool × Unit → Hp → Prop) (K : Value → Hp → Prop) : Prop :=
  sx_4 Try.prog F 148 (cp [1, 1, 2, 2, 2, 1, 1, 1, 1] (bodyOf Try.f63)) (ap [1, 1, 2, 1, 1, 1, 1] slices_pdqsortCmpFunc_int_an) [(0, .slice data dataL dataC), (1, .int .i64 a), (2, .int .i64 b), (3, .int .i64 limit), (4, cmp), (10, .bool wasBalanced), (11, .bool wasPartitioned), (12, .int .i64 length)] h (slices_pdqsortCmpFunc_int_K3 nx0 K)
def slices_pdqsortCmpFunc_int_b3 (data : Option Addr) (dataL : Nat) (dataC : Nat) (a : Int) (b : Int) (limit : Int) (cmp : Value) (wasBalanced : Bool) (wasPartitioned : Bool) (length : Int) (pivot : Int) (hint : Int) (h : Hp) (nx0 : Int × Int × Int × Bool × Bool × Unit → Hp → Prop) (K : Value → Hp → Prop) : Prop :=
  sx_3 Try.prog F 148 (cp [1, 1, 2, 2, 2, 1, 1, 1, 1, 1, 1] (bodyOf Try.f63)) (ap [1, 1, 2, 1, 1, 1, 1, 1, 1] slices_pdqsortCmpFunc_int_an) [(0, .slice data dataL dataC), (1, .int .i64 a), (2, .int .i64 b), (3, .int .i64 limit), (4, cmp), (10, .bool wasBalanced), (11, .bool wasPartitioned), (12, .int .i64 length), (13, .int .i64 pivot), (14, .int .i64 hint)] h (slices_pdqsortCmpFunc_int_K3 nx0 K)
def slices_pdqsortCmpFunc_int_b4 (data : Option Addr) (dataL : Nat) (dataC : Nat) (a : Int) (b : Int) (limit : Int) (cmp : Value) (wasBalanced : Bool) (wasPartitioned : Bool) (length : Int) (pivot : Int) (h : Hp) (nx0 : Int × Int × Int × Bool × Bool × Unit → Hp → Prop) (K : Value → Hp → Prop) : Prop :=
  sx_2 Try.prog F 148 (cp [1, 1, 2, 2, 2, 1, 1, 1, 1, 1, 1, 1] (bodyOf Try.f63)) (ap [1, 1, 2, 1, 1, 1, 1, 1, 1, 1] slices_pdqsortCmpFunc_int_an) [(0, .slice data dataL dataC), (1, .int .i64 a), (2, .int .i64 b), (3, .int .i64 limit), (4, cmp), (10, .bool wasBalanced), (11, .bool wasPartitioned), (12, .int .i64 length), (13, .int .i64 pivot)] h (slices_pdqsortCmpFunc_int_K3 nx0 K)
def slices_pdqsortCmpFunc_int_b5 (data : Option Addr) (dataL : Nat) (dataC : Nat) (a : Int) (b : Int) (limit : Int) (cmp : Value) (length : Int) (pivot : Int) (h : Hp) (nx0 : Int × Int × Int × Bool × Bool × Unit → Hp → Prop) (K : Value → Hp → Prop) : Prop :=
  sx_1 Try.prog F 148 (cp [1, 1, 2, 2, 2, 1, 1, 1, 1, 1, 1, 1, 1] (bodyOf Try.f63)) (ap [1, 1, 2, 1, 1, 1, 1, 1, 1, 1, 1] slices_pdqsortCmpFunc_int_an) [(0, .slice data dataL dataC), (1, .int .i64 a), (2, .int .i64 b), (3, .int .i64 limit), (4, cmp), (12, .int .i64 length), (13, .int .i64 pivot)] h (slices_pdqsortCmpFunc_int_K3 nx0 K)
theorem slices_pdqsortCmpFunc_int_b0_eq (data : Option Addr) (dataL : Nat) (dataC : Nat) (a : Int) (b : Int) (limit : Int) (cmp : Value) (h : Hp)  (K : Value → Hp → Prop) : slices_pdqsortCmpFunc_int_b0 data dataL dataC a b limit cmp h  K = (
  LoopVC ((a, b, limit, true, true, ()) : Int × Int × Int × Bool × Bool × Unit) h (fun (nx0 : Int × Int × Int × Bool × Bool × Unit → Hp → Prop) (s1 : Int × Int × Int × Bool × Bool × Unit) h1 => slices_pdqsortCmpFunc_int_b1 s1.1 s1.2.1 s1.2.2.1 s1.2.2.2.1 s1.2.2.2.2.1 data dataL dataC cmp h1 nx0 K)) := by kernel_rfl
theorem slices_pdqsortCmpFunc_int_b1_eq (a : Int) (b : Int) (limit : Int) (wasBalanced : Bool) (wasPartitioned : Bool) (data : Option Addr) (dataL : Nat) (dataC : Nat) (cmp : Value) (h : Hp) (nx0 : Int × Int × Int × Bool × Bool × Unit → Hp → Prop) (K : Value → Hp → Prop) : slices_pdqsortCmpFunc_int_b1 a b limit wasBalanced wasPartitioned data dataL dataC cmp h nx0 K = (
  InR (b - a) ∧
  cond (decide ((b - a) ≤ 12))
  (HCalls Try.prog 78 #[.slice data dataL dataC, .int .i64 a, .int .i64 b, cmp] h fun v1 h2 => v1 = .tuple #[] ∧
  K (.tuple #[]) h2)
  (cond (decide (limit = 0))
  (HCalls Try.prog 79 #[.slice data dataL dataC, .int .i64 a, .int .i64 b, cmp] h fun v2 h3 => v2 = .tuple #[] ∧
  K (.tuple #[]) h3)
  (cond (!wasBalanced)
  (HCalls Try.prog 80 #[.slice data dataL dataC, .int .i64 a, .int .i64 b, cmp] h fun v3 h4 => v3 = .tuple #[] ∧
  InR (limit - 1) ∧
  slices_pdqsortCmpFunc_int_b2 data dataL dataC a b (limit - 1) cmp wasBalanced wasPartitioned (b - a) h4 nx0 K)
  (slices_pdqsortCmpFunc_int_b2 data dataL dataC a b limit cmp wasBalanced wasPartitioned (b - a) h nx0 K)))) := by kernel_rfl
theorem slices_pdqsortCmpFunc_int_b2_eq (data : Option Addr) (dataL : Nat) (dataC : Nat) (a : Int) (b : Int) (limit : Int) (cmp : Value) (wasBalanced : Bool) (wasPartitioned : Bool) (length : Int) (h : Hp) (nx0 : Int × Int × Int × Bool × Bool × Unit → Hp → Prop) (K : Value → Hp → Prop) : slices_pdqsortCmpFunc_int_b2 data dataL dataC a b limit cmp wasBalanced wasPartitioned length h nx0 K = (
  HCalls Try.prog 81 #[.slice data dataL dataC, .int .i64 a, .int .i64 b, cmp] h fun v4 h5 => ∃ r1 : Int, ∃ r2 : Int, v4 = .tuple #[.int .i64 r1, .int .i64 r2] ∧
  cond (decide (r2 = 2))
  (HCalls Try.prog 82 #[.slice data dataL dataC, .int .i64 a, .int .i64 b, cmp] h5 fun v5 h6 => v5 = .tuple #[] ∧
  InR (b - 1) ∧
  InR (r1 - a) ∧
  InR ((b - 1) - (r1 - a)) ∧
  slices_pdqsortCmpFunc_int_b3 data dataL dataC a b limit cmp wasBalanced wasPartitioned length ((b - 1) - (r1 - a)) 1 h6 nx0 K)
  (slices_pdqsortCmpFunc_int_b3 data dataL dataC a b limit cmp wasBalanced wasPartitioned length r1 r2 h5 nx0 K)) := by kernel_rfl
theorem slices_pdqsortCmpFunc_int_b3_eq (data : Option Addr) (dataL : Nat) (dataC : Nat) (a : Int) (b : Int) (limit : Int) (cmp : Value) (wasBalanced : Bool) (wasPartitioned : Bool) (length : Int) (pivot : Int) (hint : Int) (h : Hp) (nx0 : Int × Int × Int × Bool × Bool × Unit → Hp → Prop) (K : Value → Hp → Prop) : slices_pdqsortCmpFunc_int_b3 data dataL dataC a b limit cmp wasBalanced wasPartitioned length pivot hint h nx0 K = (
  cond wasBalanced
  (cond wasPartitioned
  (cond (decide (hint = 1))
  (HCalls Try.prog 83 #[.slice data dataL dataC, .int .i64 a, .int .i64 b, cmp] h fun v6 h7 => ∃ r3 : Bool, v6 = .bool r3 ∧
  cond r3
  (K (.tuple #[]) h7)
  (slices_pdqsortCmpFunc_int_b4 data dataL dataC a b limit cmp wasBalanced wasPartitioned length pivot h7 nx0 K))
  (slices_pdqsortCmpFunc_int_b4 data dataL dataC a b limit cmp wasBalanced wasPartitioned length pivot h nx0 K))
  (slices_pdqsortCmpFunc_int_b4 data dataL dataC a b limit cmp wasBalanced wasPartitioned length pivot h nx0 K))
  (slices_pdqsortCmpFunc_int_b4 data dataL dataC a b limit cmp wasBalanced wasPartitioned length pivot h nx0 K)) := by kernel_rfl
theorem slices_pdqsortCmpFunc_int_b4_eq (data : Option Addr) (dataL : Nat) (dataC : Nat) (a : Int) (b : Int) (limit : Int) (cmp : Value) (wasBalanced : Bool) (wasPartitioned : Bool) (length : Int) (pivot : Int) (h : Hp) (nx0 : Int × Int × Int × Bool × Bool × Unit → Hp → Prop) (K : Value → Hp → Prop) : slices_pdqsortCmpFunc_int_b4 data dataL dataC a b limit cmp wasBalanced wasPartitioned length pivot h nx0 K = (
  cond (decide ((0 : Int) < a))
  (InR (a - 1) ∧
  (0 ≤ a - 1 ∧ a - 1 < (dataL : Int)) ∧
  NN data fun a1 =>
  ∃ n1 : Int, cell h (a1.add (Int.toNat (a - 1) * 1)) = some (.int .i64 n1) ∧
  (0 ≤ pivot ∧ pivot < (dataL : Int)) ∧
  NN data fun a2 =>
  ∃ n2 : Int, cell h (a2.add (Int.toNat pivot * 1)) = some (.int .i64 n2) ∧
  funV cmp fun fg1 fa1 fc1 => callX Try.prog F fg1 (fa1 ++ (([.int .i64 n1, .int .i64 n2] : List Value) ++ fc1)).toArray h fun v7 h8 => ∃ r4 : Int, v7 = .int .i64 r4 ∧
  cond (!(decide (r4 < 0)))
  (HCalls Try.prog 84 #[.slice data dataL dataC, .int .i64 a, .int .i64 b, .int .i64 pivot, cmp] h8 fun v8 h9 => ∃ r5 : Int, v8 = .int .i64 r5 ∧
  nx0 (r5, b, limit, wasBalanced, wasPartitioned, ()) h9)
  (slices_pdqsortCmpFunc_int_b5 data dataL dataC a b limit cmp length pivot h8 nx0 K))
  (slices_pdqsortCmpFunc_int_b5 data dataL dataC a b limit cmp length pivot h nx0 K)) := by kernel_rfl
theorem slices_pdqsortCmpFunc_int_b5_eq (data : Option Addr) (dataL : Nat) (dataC : Nat) (a : Int) (b : Int) (limit : Int) (cmp : Value) (length : Int) (pivot : Int) (h : Hp) (nx0 : Int × Int × Int × Bool × Bool × Unit → Hp → Prop) (K : Value → Hp → Prop) : slices_pdqsortCmpFunc_int_b5 data dataL dataC a b limit cmp length pivot h nx0 K = (
  HCalls Try.prog 85 #[.slice data dataL dataC, .int .i64 a, .int .i64 b, .int .i64 pivot, cmp] h fun v9 h10 => ∃ r6 : Int, ∃ r7 : Bool, v9 = .tuple #[.int .i64 r6, .bool r7] ∧
  InR (r6 - a) ∧
  InR (b - r6) ∧
  ∃ q1 : Int, Sx.Quo .i64 length 8 q1 ∧
  cond (decide ((r6 - a) < (b - r6)))
  (HCalls Try.prog 63 #[.slice data dataL dataC, .int .i64 a, .int .i64 r6, .int .i64 limit, cmp] h10 fun v10 h11 => v10 = .tuple #[] ∧
  InR (r6 + 1) ∧
  nx0 (r6 + 1, b, limit, decide (q1 ≤ (r6 - a)), r7, ()) h11)
  (InR (r6 + 1) ∧
  HCalls Try.prog 63 #[.slice data dataL dataC, .int .i64 (r6 + 1), .int .i64 b, .int .i64 limit, cmp] h10 fun v11 h12 => v11 = .tuple #[] ∧
  nx0 (a, r6, limit, decide (q1 ≤ (b - r6)), r7, ()) h12)) := by kernel_rfl
theorem slices_pdqsortCmpFunc_int_call {data : Option Addr} {dataL : Nat} {dataC : Nat} {a : Int} {b : Int} {limit : Int} {cmp : Value} {h : Hp} {K : Value → Hp → Prop} (hk : slices_pdqsortCmpFunc_int_b0 data dataL dataC a b limit cmp h K) : HCalls Try.prog 63 #[.slice data dataL dataC, .int .i64 a, .int .i64 b, .int .i64 limit, cmp] h K :=
  calls_of_snd slices_pdqsortCmpFunc_int_an Try.func63 (c := bodyOf Try.f63) rfl Try.ntmps63 (Nat.le_of_ble_eq_true rfl) (snd_6 F_ok F_mixed) hk

/-! ### build -/
def build_an : Ann := .node none (.leaf) (.node none (.leaf) (.node (some [0, 3]) (.node none (.leaf) (.loop [0, 9, 10] [(3, .int .i64), (11, .int .i64)] (.node none (.leaf) (.node none (.leaf) (.node (some [0, 3, 9, 10, 11]) (.leaf) (.leaf)))))) (.leaf)))
def build_K0  (K : Value → Hp → Prop) : Exit → Env → Hp → Prop := retK Try.prog Try.f64.results.toList K
def build_K1  (K : Value → Hp → Prop) : Exit → Env → Hp → Prop := thenE (fun env h => sx_2 Try.prog F 41 (cp [1, 1, 1] (bodyOf Try.f64)) (ap [1, 1, 1] build_an) (rs [0, 3] env) h (build_K0  K)) (build_K0  K)
def build_K2  (K : Value → Hp → Prop) : Exit → Env → Hp → Prop := blockE 0 (build_K1  K)
def build_K3 (nx0 : Int × Int × Unit → Hp → Prop) (K : Value → Hp → Prop) : Exit → Env → Hp → Prop := thenE (fun env h => getV [(3, .int .i64), (11, .int .i64)] env fun s => nx0 s h) (build_K2  K)
def build_b0 (v : Option Addr) (h : Hp)  (K : Value → Hp → Prop) : Prop :=
  sx_3 Try.prog F 41 (cp [] (bodyOf Try.f64)) (ap [] build_an) [(0, .pointer v)] h (build_K0  K)
def build_b1 (total : Int) (t11 : Int) (v : Option Addr) (t9 : Option Addr) (t9L : Nat) (t9C : Nat) (t10 : Int) (h : Hp) (nx0 : Int × Int × Unit → Hp → Prop) (K : Value → Hp → Prop) : Prop :=
  sx_2 Try.prog F 41 (cp [1, 1, 0, 1, 2, 2] (bodyOf Try.f64)) (ap [1, 1, 0, 1, 2] build_an) [(3, .int .i64 total), (11, .int .i64 t11), (0, .pointer v), (9, .slice t9 t9L t9C), (10, .int .i64 t10)] h (build_K3 nx0 K)
def build_b2 (v : Option Addr) (total : Int) (t9 : Option Addr) (t9L : Nat) (t9C : Nat) (t10 : Int) (t11 : Int) (h : Hp) (nx0 : Int × Int × Unit → Hp → Prop) (K : Value → Hp → Prop) : Prop :=
  sx_1 Try.prog F 41 (cp [1, 1, 0, 1, 2, 2, 1, 1, 1] (bodyOf Try.f64)) (ap [1, 1, 0, 1, 2, 1, 1, 1] build_an) [(0, .pointer v), (3, .int .i64 total), (9, .slice t9 t9L t9C), (10, .int .i64 t10), (11, .int .i64 t11)] h (build_K3 nx0 K)
def build_b3 (v : Option Addr) (total : Int) (h : Hp)  (K : Value → Hp → Prop) : Prop :=
  sx_2 Try.prog F 41 (cp [1, 1, 1] (bodyOf Try.f64)) (ap [1, 1, 1] build_an) [(0, .pointer v), (3, .int .i64 total)] h (build_K0  K)
theorem build_b0_eq (v : Option Addr) (h : Hp)  (K : Value → Hp → Prop) : build_b0 v h  K = (
  NN v fun a1 =>
  ∃ (a2 : Option Addr) (L1 C1 : Nat), cell h (a1.add 1) = some (.slice a2 L1 C1) ∧
  LoopVC ((0, 0, ()) : Int × Int × Unit) h (fun (nx0 : Int × Int × Unit → Hp → Prop) (s1 : Int × Int × Unit) h1 => build_b1 s1.1 s1.2.1 v a2 L1 C1 (L1 : Int) h1 nx0 K)) := by kernel_rfl
theorem build_b1_eq (total : Int) (t11 : Int) (v : Option Addr) (t9 : Option Addr) (t9L : Nat) (t9C : Nat) (t10 : Int) (h : Hp) (nx0 : Int × Int × Unit → Hp → Prop) (K : Value → Hp → Prop) : build_b1 total t11 v t9 t9L t9C t10 h nx0 K = (
  cond (decide (t11 < t10))
  ((0 ≤ t11 ∧ t11 < (t9L : Int)) ∧
  NN t9 fun a3 =>
  ∃ n1 : Int, cell h (a3.add (Int.toNat t11 * 1)) = some (.int .u64 n1) ∧
  NN v fun a4 =>
  ∃ (a5 : Option Addr) (L2 C2 : Nat), cell h (a4.add 2) = some (.slice a5 L2 C2) ∧
  New h (.cells #[.int .i64 total] 3) fun b1 h2 =>
  appendV Try.prog 24 24 (.slice a5 L2 C2) (.slice (some ⟨b1, 0, none⟩) 1 1) h2 (slK fun a6 l1 c1 h3 =>
  NN v fun a7 =>
  Wr h3 (a7.add 2) (.slice a6 l1 c1) fun h4 =>
  HCalls Try.prog 86 #[.int .u64 n1] h4 fun v1 h5 => ∃ r1 : Int, v1 = .int .i64 r1 ∧
  InR (total + r1) ∧
  build_b2 v (total + r1) t9 t9L t9C t10 t11 h5 nx0 K))
  (build_b3 v total h  K)) := by kernel_rfl
theorem build_b2_eq (v : Option Addr) (total : Int) (t9 : Option Addr) (t9L : Nat) (t9C : Nat) (t10 : Int) (t11 : Int) (h : Hp) (nx0 : Int × Int × Unit → Hp → Prop) (K : Value → Hp → Prop) : build_b2 v total t9 t9L t9C t10 t11 h nx0 K = (
  InR (t11 + 1) ∧
  nx0 (total, t11 + 1, ()) h) := by kernel_rfl
theorem build_b3_eq (v : Option Addr) (total : Int) (h : Hp)  (K : Value → Hp → Prop) : build_b3 v total h  K = (
  NN v fun a8 =>
  ∃ (a9 : Option Addr) (L3 C3 : Nat), cell h (a8.add 2) = some (.slice a9 L3 C3) ∧
  New h (.cells #[.int .i64 total] 3) fun b2 h6 =>
  appendV Try.prog 24 24 (.slice a9 L3 C3) (.slice (some ⟨b2, 0, none⟩) 1 1) h6 (slK fun a10 l2 c2 h7 =>
  NN v fun a11 =>
  Wr h7 (a11.add 2) (.slice a10 l2 c2) fun h8 =>
  K (.pointer v) h8)) := by kernel_rfl
theorem build_call {v : Option Addr} {h : Hp} {K : Value → Hp → Prop} (hk : build_b0 v h K) : HCalls Try.prog 64 #[.pointer v] h K :=
  calls_of_snd build_an Try.func64 (c := bodyOf Try.f64) rfl Try.ntmps64 (Nat.le_of_ble_eq_true rfl) (snd_3 F_ok F_mixed) hk

/-! ### slices_stableCmpFunc_int -/
def slices_stableCmpFunc_int_an : Ann := .node none (.leaf) (.node none (.leaf) (.node (some [0, 1, 2, 6, 7]) (.loop [0, 1, 2, 6] [(7, .int .i64), (8, .int .i64)] (.leaf)) (.node none (.leaf) (.loop [0, 1, 2] [(6, .int .i64)] (.node none (.leaf) (.node none (.leaf) (.node (some [0, 1, 2, 6, 7]) (.loop [0, 1, 2, 6] [(7, .int .i64), (8, .int .i64)] (.leaf)) (.node (some [0, 1, 2, 6]) (.leaf) (.leaf)))))))))
def slices_stableCmpFunc_int_K0  (K : Value → Hp → Prop) : Exit → Env → Hp → Prop := retK Try.prog Try.f65.results.toList K
def slices_stableCmpFunc_int_K1  (K : Value → Hp → Prop) : Exit → Env → Hp → Prop := thenE (fun env h => sx_4 Try.prog F 63 (cp [1, 1, 1] (bodyOf Try.f65)) (ap [1, 1, 1] slices_stableCmpFunc_int_an) (rs [0, 1, 2, 6, 7] env) h (slices_stableCmpFunc_int_K0  K)) (slices_stableCmpFunc_int_K0  K)
def slices_stableCmpFunc_int_K2  (K : Value → Hp → Prop) : Exit → Env → Hp → Prop := blockE 0 (slices_stableCmpFunc_int_K1  K)
def slices_stableCmpFunc_int_K3 (nx0 : Int × Int × Unit → Hp → Prop) (K : Value → Hp → Prop) : Exit → Env → Hp → Prop := thenE (fun env h => getV [(7, .int .i64), (8, .int .i64)] env fun s => nx0 s h) (slices_stableCmpFunc_int_K2  K)
def slices_stableCmpFunc_int_K4  (K : Value → Hp → Prop) : Exit → Env → Hp → Prop := blockE 2 (slices_stableCmpFunc_int_K0  K)
def slices_stableCmpFunc_int_K5 (nx0 : Int × Unit → Hp → Prop) (K : Value → Hp → Prop) : Exit → Env → Hp → Prop := thenE (fun env h => getV [(6, .int .i64)] env fun s => nx0 s h) (slices_stableCmpFunc_int_K4  K)
def slices_stableCmpFunc_int_K6 (nx0 : Int × Unit → Hp → Prop) (K : Value → Hp → Prop) : Exit → Env → Hp → Prop := blockE 3 (slices_stableCmpFunc_int_K5 nx0 K)
def slices_stableCmpFunc_int_K7 (nx0 : Int × Unit → Hp → Prop) (K : Value → Hp → Prop) : Exit → Env → Hp → Prop := thenE (fun env h => sx_2 Try.prog F 63 (cp [1, 1, 1, 1, 2, 2, 1, 2, 1, 1] (bodyOf Try.f65)) (ap [1, 1, 1, 1, 2, 1, 1, 1] slices_stableCmpFunc_int_an) (rs [0, 1, 2, 6, 7] env) h (slices_stableCmpFunc_int_K6 nx0 K)) (slices_stableCmpFunc_int_K6 nx0 K)
def slices_stableCmpFunc_int_K8 (nx0 : Int × Unit → Hp → Prop) (K : Value → Hp → Prop) : Exit → Env → Hp → Prop := blockE 4 (slices_stableCmpFunc_int_K7 nx0 K)
def slices_stableCmpFunc_int_K9 (nx0 : Int × Unit → Hp → Prop) (nx1 : Int × Int × Unit → Hp → Prop) (K : Value → Hp → Prop) : Exit → Env → Hp → Prop := thenE (fun env h => getV [(7, .int .i64), (8, .int .i64)] env fun s => nx1 s h) (slices_stableCmpFunc_int_K8 nx0 K)
def slices_stableCmpFunc_int_b0 (data : Option Addr) (dataL : Nat) (dataC : Nat) (nv : Int) (cmp : Value) (h : Hp)  (K : Value → Hp → Prop) : Prop :=
  sx_5 Try.prog F 63 (cp [] (bodyOf Try.f65)) (ap [] slices_stableCmpFunc_int_an) [(0, .slice data dataL dataC), (1, .int .i64 nv), (2, cmp)] h (slices_stableCmpFunc_int_K0  K)
def slices_stableCmpFunc_int_b1 (a : Int) (b : Int) (data : Option Addr) (dataL : Nat) (dataC : Nat) (nv : Int) (cmp : Value) (blockSize : Int) (h : Hp) (nx0 : Int × Int × Unit → Hp → Prop) (K : Value → Hp → Prop) : Prop :=
  sx_4 Try.prog F 63 (cp [1, 1, 0, 2, 2] (bodyOf Try.f65)) (ap [1, 1, 0, 2] slices_stableCmpFunc_int_an) [(7, .int .i64 a), (8, .int .i64 b), (0, .slice data dataL dataC), (1, .int .i64 nv), (2, cmp), (6, .int .i64 blockSize)] h (slices_stableCmpFunc_int_K3 nx0 K)
def slices_stableCmpFunc_int_b2 (data : Option Addr) (dataL : Nat) (dataC : Nat) (nv : Int) (cmp : Value) (blockSize : Int) (a : Int) (h : Hp)  (K : Value → Hp → Prop) : Prop :=
  sx_4 Try.prog F 63 (cp [1, 1, 1] (bodyOf Try.f65)) (ap [1, 1, 1] slices_stableCmpFunc_int_an) [(0, .slice data dataL dataC), (1, .int .i64 nv), (2, cmp), (6, .int .i64 blockSize), (7, .int .i64 a)] h (slices_stableCmpFunc_int_K0  K)
def slices_stableCmpFunc_int_b3 (blockSize : Int) (data : Option Addr) (dataL : Nat) (dataC : Nat) (nv : Int) (cmp : Value) (h : Hp) (nx0 : Int × Unit → Hp → Prop) (K : Value → Hp → Prop) : Prop :=
  sx_3 Try.prog F 63 (cp [1, 1, 1, 1, 2, 2] (bodyOf Try.f65)) (ap [1, 1, 1, 1, 2] slices_stableCmpFunc_int_an) [(6, .int .i64 blockSize), (0, .slice data dataL dataC), (1, .int .i64 nv), (2, cmp)] h (slices_stableCmpFunc_int_K5 nx0 K)
def slices_stableCmpFunc_int_b4 (a : Int) (b : Int) (data : Option Addr) (dataL : Nat) (dataC : Nat) (nv : Int) (cmp : Value) (blockSize : Int) (h : Hp) (nx0 : Int × Unit → Hp → Prop) (nx1 : Int × Int × Unit → Hp → Prop) (K : Value → Hp → Prop) : Prop :=
  sx_2 Try.prog F 63 (cp [1, 1, 1, 1, 2, 2, 1, 2, 1, 0, 2, 2] (bodyOf Try.f65)) (ap [1, 1, 1, 1, 2, 1, 1, 0, 2] slices_stableCmpFunc_int_an) [(7, .int .i64 a), (8, .int .i64 b), (0, .slice data dataL dataC), (1, .int .i64 nv), (2, cmp), (6, .int .i64 blockSize)] h (slices_stableCmpFunc_int_K9 nx0 nx1 K)
def slices_stableCmpFunc_int_b5 (data : Option Addr) (dataL : Nat) (dataC : Nat) (nv : Int) (cmp : Value) (blockSize : Int) (a : Int) (h : Hp) (nx0 : Int × Unit → Hp → Prop) (K : Value → Hp → Prop) : Prop :=
  sx_2 Try.prog F 63 (cp [1, 1, 1, 1, 2, 2, 1, 2, 1, 1] (bodyOf Try.f65)) (ap [1, 1, 1, 1, 2, 1, 1, 1] slices_stableCmpFunc_int_an) [(0, .slice data dataL dataC), (1, .int .i64 nv), (2, cmp), (6, .int .i64 blockSize), (7, .int .i64 a)] h (slices_stableCmpFunc_int_K6 nx0 K)
def slices_stableCmpFunc_int_b6 (data : Option Addr) (dataL : Nat) (dataC : Nat) (nv : Int) (cmp : Value) (blockSize : Int) (h : Hp) (nx0 : Int × Unit → Hp → Prop) (K : Value → Hp → Prop) : Prop :=
  sx_1 Try.prog F 63 (cp [1, 1, 1, 1, 2, 2, 1, 2, 1, 1, 1] (bodyOf Try.f65)) (ap [1, 1, 1, 1, 2, 1, 1, 1, 1] slices_stableCmpFunc_int_an) [(0, .slice data dataL dataC), (1, .int .i64 nv), (2, cmp), (6, .int .i64 blockSize)] h (slices_stableCmpFunc_int_K6 nx0 K)
theorem slices_stableCmpFunc_int_b0_eq (data : Option Addr) (dataL : Nat) (dataC : Nat) (nv : Int) (cmp : Value) (h : Hp)  (K : Value → Hp → Prop) : slices_stableCmpFunc_int_b0 data dataL dataC nv cmp h  K = (
  LoopVC ((0, 20, ()) : Int × Int × Unit) h (fun (nx0 : Int × Int × Unit → Hp → Prop) (s1 : Int × Int × Unit) h1 => slices_stableCmpFunc_int_b1 s1.1 s1.2.1 data dataL dataC nv cmp 20 h1 nx0 K)) := by kernel_rfl
theorem slices_stableCmpFunc_int_b1_eq (a : Int) (b : Int) (data : Option Addr) (dataL : Nat) (dataC : Nat) (nv : Int) (cmp : Value) (blockSize : Int) (h : Hp) (nx0 : Int × Int × Unit → Hp → Prop) (K : Value → Hp → Prop) : slices_stableCmpFunc_int_b1 a b data dataL dataC nv cmp blockSize h nx0 K = (
  cond (decide (b ≤ nv))
  (HCalls Try.prog 78 #[.slice data dataL dataC, .int .i64 a, .int .i64 b, cmp] h fun v1 h2 => v1 = .tuple #[] ∧
  InR (b + blockSize) ∧
  nx0 (b, b + blockSize, ()) h2)
  (slices_stableCmpFunc_int_b2 data dataL dataC nv cmp blockSize a h  K)) := by kernel_rfl
theorem slices_stableCmpFunc_int_b2_eq (data : Option Addr) (dataL : Nat) (dataC : Nat) (nv : Int) (cmp : Value) (blockSize : Int) (a : Int) (h : Hp)  (K : Value → Hp → Prop) : slices_stableCmpFunc_int_b2 data dataL dataC nv cmp blockSize a h  K = (
  HCalls Try.prog 78 #[.slice data dataL dataC, .int .i64 a, .int .i64 nv, cmp] h fun v2 h3 => v2 = .tuple #[] ∧
  LoopVC ((blockSize, ()) : Int × Unit) h3 (fun (nx0 : Int × Unit → Hp → Prop) (s2 : Int × Unit) h4 => slices_stableCmpFunc_int_b3 s2.1 data dataL dataC nv cmp h4 nx0 K)) := by kernel_rfl
theorem slices_stableCmpFunc_int_b3_eq (blockSize : Int) (data : Option Addr) (dataL : Nat) (dataC : Nat) (nv : Int) (cmp : Value) (h : Hp) (nx0 : Int × Unit → Hp → Prop) (K : Value → Hp → Prop) : slices_stableCmpFunc_int_b3 blockSize data dataL dataC nv cmp h nx0 K = (
  cond (decide (blockSize < nv))
  (InR (2 * blockSize) ∧
  LoopVC ((0, 2 * blockSize, ()) : Int × Int × Unit) h (fun (nx1 : Int × Int × Unit → Hp → Prop) (s3 : Int × Int × Unit) h5 => slices_stableCmpFunc_int_b4 s3.1 s3.2.1 data dataL dataC nv cmp blockSize h5 nx0 nx1 K))
  (K (.tuple #[]) h)) := by kernel_rfl
theorem slices_stableCmpFunc_int_b4_eq (a : Int) (b : Int) (data : Option Addr) (dataL : Nat) (dataC : Nat) (nv : Int) (cmp : Value) (blockSize : Int) (h : Hp) (nx0 : Int × Unit → Hp → Prop) (nx1 : Int × Int × Unit → Hp → Prop) (K : Value → Hp → Prop) : slices_stableCmpFunc_int_b4 a b data dataL dataC nv cmp blockSize h nx0 nx1 K = (
  cond (decide (b ≤ nv))
  (InR (a + blockSize) ∧
  HCalls Try.prog 87 #[.slice data dataL dataC, .int .i64 a, .int .i64 (a + blockSize), .int .i64 b, cmp] h fun v3 h6 => v3 = .tuple #[] ∧
  InR (2 * blockSize) ∧
  InR (b + (2 * blockSize)) ∧
  nx1 (b, b + (2 * blockSize), ()) h6)
  (slices_stableCmpFunc_int_b5 data dataL dataC nv cmp blockSize a h nx0 K)) := by kernel_rfl
theorem slices_stableCmpFunc_int_b5_eq (data : Option Addr) (dataL : Nat) (dataC : Nat) (nv : Int) (cmp : Value) (blockSize : Int) (a : Int) (h : Hp) (nx0 : Int × Unit → Hp → Prop) (K : Value → Hp → Prop) : slices_stableCmpFunc_int_b5 data dataL dataC nv cmp blockSize a h nx0 K = (
  InR (a + blockSize) ∧
  cond (decide ((a + blockSize) < nv))
  (HCalls Try.prog 87 #[.slice data dataL dataC, .int .i64 a, .int .i64 (a + blockSize), .int .i64 nv, cmp] h fun v4 h7 => v4 = .tuple #[] ∧
  slices_stableCmpFunc_int_b6 data dataL dataC nv cmp blockSize h7 nx0 K)
  (slices_stableCmpFunc_int_b6 data dataL dataC nv cmp blockSize h nx0 K)) := by kernel_rfl
theorem slices_stableCmpFunc_int_b6_eq (data : Option Addr) (dataL : Nat) (dataC : Nat) (nv : Int) (cmp : Value) (blockSize : Int) (h : Hp) (nx0 : Int × Unit → Hp → Prop) (K : Value → Hp → Prop) : slices_stableCmpFunc_int_b6 data dataL dataC nv cmp blockSize h nx0 K = (
  InR (blockSize * 2) ∧
  nx0 (blockSize * 2, ()) h) := by kernel_rfl
theorem slices_stableCmpFunc_int_call {data : Option Addr} {dataL : Nat} {dataC : Nat} {nv : Int} {cmp : Value} {h : Hp} {K : Value → Hp → Prop} (hk : slices_stableCmpFunc_int_b0 data dataL dataC nv cmp h K) : HCalls Try.prog 65 #[.slice data dataL dataC, .int .i64 nv, cmp] h K :=
  calls_of_snd slices_stableCmpFunc_int_an Try.func65 (c := bodyOf Try.f65) rfl Try.ntmps65 (Nat.le_of_ble_eq_true rfl) (snd_5 F_ok F_mixed) hk

/-! ### wavelet_Tree_Rank -/
def wavelet_Tree_Rank_an : Ann := .node none (.leaf) (.node (some [0, 1, 2]) (.leaf) (.leaf))
def wavelet_Tree_Rank_K0  (K : Value → Hp → Prop) : Exit → Env → Hp → Prop := retK Try.prog Try.f66.results.toList K
def wavelet_Tree_Rank_b0 (t : Option Addr) (v : Int) (i : Int) (h : Hp)  (K : Value → Hp → Prop) : Prop :=
  sx_2 Try.prog F 44 (cp [] (bodyOf Try.f66)) (ap [] wavelet_Tree_Rank_an) [(0, .pointer t), (1, .int .i64 v), (2, .int .i64 i)] h (wavelet_Tree_Rank_K0  K)
def wavelet_Tree_Rank_b1 (t : Option Addr) (v : Int) (i : Int) (h : Hp)  (K : Value → Hp → Prop) : Prop :=
  sx_1 Try.prog F 44 (cp [1, 1] (bodyOf Try.f66)) (ap [1, 1] wavelet_Tree_Rank_an) [(0, .pointer t), (1, .int .i64 v), (2, .int .i64 i)] h (wavelet_Tree_Rank_K0  K)
theorem wavelet_Tree_Rank_b0_eq (t : Option Addr) (v : Int) (i : Int) (h : Hp)  (K : Value → Hp → Prop) : wavelet_Tree_Rank_b0 t v i h  K = (
  cond t.isNone
  (K (.tuple #[.int .i64 0, .int .i64 1]) h)
  (cond (decide (v < 0))
  (K (.tuple #[.int .i64 0, .int .i64 2]) h)
  (NN t fun a1 =>
  ∃ n1 : Int, cell h (a1.add 1) = some (.int .i64 n1) ∧
  cond (decide (n1 ≤ v))
  (K (.tuple #[.int .i64 0, .int .i64 2]) h)
  (cond (decide (i < 0))
  (K (.tuple #[.int .i64 0, .int .i64 2]) h)
  (NN t fun a2 =>
  ∃ n2 : Int, cell h a2 = some (.int .i64 n2) ∧
  cond (decide (n2 < i))
  (K (.tuple #[.int .i64 0, .int .i64 2]) h)
  (wavelet_Tree_Rank_b1 t v i h  K)))))) := by kernel_rfl
theorem wavelet_Tree_Rank_b1_eq (t : Option Addr) (v : Int) (i : Int) (h : Hp)  (K : Value → Hp → Prop) : wavelet_Tree_Rank_b1 t v i h  K = (
  HCalls Try.prog 88 #[.pointer t, .int .i64 v, .int .i64 0, .int .i64 i] h fun v1 h1 => ∃ r1 : Int, ∃ r2 : Int, ∃ r3 : Int, ∃ r4 : Int, ∃ r5 : Int, ∃ r6 : Int, v1 = .agg #[.int .i64 r1, .int .i64 r2, .int .i64 r3, .int .i64 r4, .int .i64 r5, .int .i64 r6] ∧
  New h1 (.cells #[.int .i64 0, .int .i64 0, .int .i64 0, .int .i64 0, .int .i64 0, .int .i64 0] 116) fun b1 h2 =>
  Wr h2 ⟨b1, 0, none⟩ (.int .i64 r1) fun h3 =>
  Wr h3 ((⟨b1, 0, none⟩ : Addr).add 1) (.int .i64 r2) fun h4 =>
  Wr h4 ((⟨b1, 0, none⟩ : Addr).add 2) (.int .i64 r3) fun h5 =>
  Wr h5 ((⟨b1, 0, none⟩ : Addr).add 3) (.int .i64 r4) fun h6 =>
  Wr h6 ((⟨b1, 0, none⟩ : Addr).add 4) (.int .i64 r5) fun h7 =>
  Wr h7 ((⟨b1, 0, none⟩ : Addr).add 5) (.int .i64 r6) fun h8 =>
  ∃ n3 : Int, cell h8 ((⟨b1, 0, none⟩ : Addr).add 4) = some (.int .i64 n3) ∧
  ∃ n4 : Int, cell h8 ((⟨b1, 0, none⟩ : Addr).add 3) = some (.int .i64 n4) ∧
  InR (n3 - n4) ∧
  K (.tuple #[.int .i64 (n3 - n4), .int .i64 0]) h8) := by kernel_rfl
theorem wavelet_Tree_Rank_call {t : Option Addr} {v : Int} {i : Int} {h : Hp} {K : Value → Hp → Prop} (hk : wavelet_Tree_Rank_b0 t v i h K) : HCalls Try.prog 66 #[.pointer t, .int .i64 v, .int .i64 i] h K :=
  calls_of_snd wavelet_Tree_Rank_an Try.func66 (c := bodyOf Try.f66) rfl Try.ntmps66 (Nat.le_of_ble_eq_true rfl) (snd_2 F_ok F_mixed) hk

/-! ### slices_insertionSortOrdered_int -/
def slices_insertionSortOrdered_int_an : Ann := .node none (.leaf) (.loop [0, 1, 2] [(6, .int .i64)] (.node none (.leaf) (.node (some [0, 1, 2, 6]) (.node none (.leaf) (.loop [0, 1, 2, 6] [(7, .int .i64)] (.node (some [0, 1, 2, 6, 7]) (.leaf) (.node (some [0, 1, 2, 6, 7]) (.plan (.qu 0 (.qu 1 (.qu 2 (.qu 3 (.qu 4 (.qu 5 (.qu 6 (.qu 7 (.qu 8 (.qu 9 (.qu 10 (.qu 11 (.qu 12 (.qu 13 (.qu 14 (.wo 15 (.qu 16 (.wo 17 .fin .no)) .no))))))))))))))))) (.leaf))))) (.leaf))))
def slices_insertionSortOrdered_int_K0  (K : Value → Hp → Prop) : Exit → Env → Hp → Prop := retK Try.prog Try.f67.results.toList K
def slices_insertionSortOrdered_int_K1  (K : Value → Hp → Prop) : Exit → Env → Hp → Prop := blockE 0 (slices_insertionSortOrdered_int_K0  K)
def slices_insertionSortOrdered_int_K2 (nx0 : Int × Unit → Hp → Prop) (K : Value → Hp → Prop) : Exit → Env → Hp → Prop := thenE (fun env h => getV [(6, .int .i64)] env fun s => nx0 s h) (slices_insertionSortOrdered_int_K1  K)
def slices_insertionSortOrdered_int_K3 (nx0 : Int × Unit → Hp → Prop) (K : Value → Hp → Prop) : Exit → Env → Hp → Prop := thenE (fun env h => sx_3 Try.prog F 49 (cp [1, 2, 2, 1, 1] (bodyOf Try.f67)) (ap [1, 2, 1, 1] slices_insertionSortOrdered_int_an) (rs [0, 1, 2, 6] env) h (slices_insertionSortOrdered_int_K2 nx0 K)) (slices_insertionSortOrdered_int_K2 nx0 K)
def slices_insertionSortOrdered_int_K4 (nx0 : Int × Unit → Hp → Prop) (K : Value → Hp → Prop) : Exit → Env → Hp → Prop := blockE 1 (slices_insertionSortOrdered_int_K3 nx0 K)
def slices_insertionSortOrdered_int_K5 (nx0 : Int × Unit → Hp → Prop) (K : Value → Hp → Prop) : Exit → Env → Hp → Prop := blockE 2 (slices_insertionSortOrdered_int_K4 nx0 K)
def slices_insertionSortOrdered_int_K6 (nx0 : Int × Unit → Hp → Prop) (nx1 : Int × Unit → Hp → Prop) (K : Value → Hp → Prop) : Exit → Env → Hp → Prop := thenE (fun env h => getV [(7, .int .i64)] env fun s => nx1 s h) (slices_insertionSortOrdered_int_K5 nx0 K)
def slices_insertionSortOrdered_int_b0 (data : Option Addr) (dataL : Nat) (dataC : Nat) (a : Int) (b : Int) (h : Hp)  (K : Value → Hp → Prop) : Prop :=
  sx_5 Try.prog F 49 (cp [] (bodyOf Try.f67)) (ap [] slices_insertionSortOrdered_int_an) [(0, .slice data dataL dataC), (1, .int .i64 a), (2, .int .i64 b)] h (slices_insertionSortOrdered_int_K0  K)
def slices_insertionSortOrdered_int_b1 (i : Int) (data : Option Addr) (dataL : Nat) (dataC : Nat) (a : Int) (b : Int) (h : Hp) (nx0 : Int × Unit → Hp → Prop) (K : Value → Hp → Prop) : Prop :=
  sx_4 Try.prog F 49 (cp [1, 2, 2] (bodyOf Try.f67)) (ap [1, 2] slices_insertionSortOrdered_int_an) [(6, .int .i64 i), (0, .slice data dataL dataC), (1, .int .i64 a), (2, .int .i64 b)] h (slices_insertionSortOrdered_int_K2 nx0 K)
def slices_insertionSortOrdered_int_b2 (j : Int) (data : Option Addr) (dataL : Nat) (dataC : Nat) (a : Int) (b : Int) (i : Int) (h : Hp) (nx0 : Int × Unit → Hp → Prop) (nx1 : Int × Unit → Hp → Prop) (K : Value → Hp → Prop) : Prop :=
  sx_3 Try.prog F 49 (cp [1, 2, 2, 1, 0, 2, 1, 2, 2] (bodyOf Try.f67)) (ap [1, 2, 1, 0, 1, 2] slices_insertionSortOrdered_int_an) [(7, .int .i64 j), (0, .slice data dataL dataC), (1, .int .i64 a), (2, .int .i64 b), (6, .int .i64 i)] h (slices_insertionSortOrdered_int_K6 nx0 nx1 K)
def slices_insertionSortOrdered_int_b3 (data : Option Addr) (dataL : Nat) (dataC : Nat) (a : Int) (b : Int) (i : Int) (j : Int) (h : Hp) (nx0 : Int × Unit → Hp → Prop) (nx1 : Int × Unit → Hp → Prop) (K : Value → Hp → Prop) : Prop :=
  sx_2 Try.prog F 49 (cp [1, 2, 2, 1, 0, 2, 1, 2, 2, 1] (bodyOf Try.f67)) (ap [1, 2, 1, 0, 1, 2, 1] slices_insertionSortOrdered_int_an) [(0, .slice data dataL dataC), (1, .int .i64 a), (2, .int .i64 b), (6, .int .i64 i), (7, .int .i64 j)] h (slices_insertionSortOrdered_int_K6 nx0 nx1 K)
def slices_insertionSortOrdered_int_b4 (data : Option Addr) (dataL : Nat) (dataC : Nat) (a : Int) (b : Int) (i : Int) (h : Hp) (nx0 : Int × Unit → Hp → Prop) (K : Value → Hp → Prop) : Prop :=
  sx_3 Try.prog F 49 (cp [1, 2, 2, 1, 1] (bodyOf Try.f67)) (ap [1, 2, 1, 1] slices_insertionSortOrdered_int_an) [(0, .slice data dataL dataC), (1, .int .i64 a), (2, .int .i64 b), (6, .int .i64 i)] h (slices_insertionSortOrdered_int_K2 nx0 K)
def slices_insertionSortOrdered_int_b5 (data : Option Addr) (dataL : Nat) (dataC : Nat) (a : Int) (b : Int) (i : Int) (j : Int) (h : Hp) (nx0 : Int × Unit → Hp → Prop) (nx1 : Int × Unit → Hp → Prop) (K : Value → Hp → Prop) : Prop :=
  sx_1 Try.prog F 49 (cp [1, 2, 2, 1, 0, 2, 1, 2, 2, 1, 1] (bodyOf Try.f67)) (ap [1, 2, 1, 0, 1, 2, 1, 1] slices_insertionSortOrdered_int_an) [(0, .slice data dataL dataC), (1, .int .i64 a), (2, .int .i64 b), (6, .int .i64 i), (7, .int .i64 j)] h (slices_insertionSortOrdered_int_K6 nx0 nx1 K)
theorem slices_insertionSortOrdered_int_b0_eq (data : Option Addr) (dataL : Nat) (dataC : Nat) (a : Int) (b : Int) (h : Hp)  (K : Value → Hp → Prop) : slices_insertionSortOrdered_int_b0 data dataL dataC a b h  K = (
  InR (a + 1) ∧
  LoopVC ((a + 1, ()) : Int × Unit) h (fun (nx0 : Int × Unit → Hp → Prop) (s1 : Int × Unit) h1 => slices_insertionSortOrdered_int_b1 s1.1 data dataL dataC a b h1 nx0 K)) := by kernel_rfl
theorem slices_insertionSortOrdered_int_b1_eq (i : Int) (data : Option Addr) (dataL : Nat) (dataC : Nat) (a : Int) (b : Int) (h : Hp) (nx0 : Int × Unit → Hp → Prop) (K : Value → Hp → Prop) : slices_insertionSortOrdered_int_b1 i data dataL dataC a b h nx0 K = (
  cond (decide (i < b))
  (LoopVC ((i, ()) : Int × Unit) h (fun (nx1 : Int × Unit → Hp → Prop) (s2 : Int × Unit) h2 => slices_insertionSortOrdered_int_b2 s2.1 data dataL dataC a b i h2 nx0 nx1 K))
  (K (.tuple #[]) h)) := by kernel_rfl
theorem slices_insertionSortOrdered_int_b2_eq (j : Int) (data : Option Addr) (dataL : Nat) (dataC : Nat) (a : Int) (b : Int) (i : Int) (h : Hp) (nx0 : Int × Unit → Hp → Prop) (nx1 : Int × Unit → Hp → Prop) (K : Value → Hp → Prop) : slices_insertionSortOrdered_int_b2 j data dataL dataC a b i h nx0 nx1 K = (
  cond (decide (a < j))
  ((0 ≤ j ∧ j < (dataL : Int)) ∧
  NN data fun a1 =>
  ∃ n1 : Int, cell h (a1.add (Int.toNat j * 1)) = some (.int .i64 n1) ∧
  InR (j - 1) ∧
  (0 ≤ j - 1 ∧ j - 1 < (dataL : Int)) ∧
  NN data fun a2 =>
  ∃ n2 : Int, cell h (a2.add (Int.toNat (j - 1) * 1)) = some (.int .i64 n2) ∧
  ∃ r1 : Bool, HCalls Try.prog 73 #[.int .i64 n1, .int .i64 n2] h (fun v1 h3 => v1 = .bool r1 ∧ h3 = h) ∧
  cond r1
  (slices_insertionSortOrdered_int_b3 data dataL dataC a b i j h nx0 nx1 K)
  (slices_insertionSortOrdered_int_b4 data dataL dataC a b i h nx0 K))
  (slices_insertionSortOrdered_int_b4 data dataL dataC a b i h nx0 K)) := by kernel_rfl
theorem slices_insertionSortOrdered_int_b3_eq (data : Option Addr) (dataL : Nat) (dataC : Nat) (a : Int) (b : Int) (i : Int) (j : Int) (h : Hp) (nx0 : Int × Unit → Hp → Prop) (nx1 : Int × Unit → Hp → Prop) (K : Value → Hp → Prop) : slices_insertionSortOrdered_int_b3 data dataL dataC a b i j h nx0 nx1 K = (
  InR (j - 1) ∧
  InR (j - 1) ∧
  (0 ≤ j - 1 ∧ j - 1 < (dataL : Int)) ∧
  NN data fun a3 =>
  ∃ n3 : Int, cell h (a3.add (Int.toNat (j - 1) * 1)) = some (.int .i64 n3) ∧
  (0 ≤ j ∧ j < (dataL : Int)) ∧
  NN data fun a4 =>
  ∃ n4 : Int, cell h (a4.add (Int.toNat j * 1)) = some (.int .i64 n4) ∧
  (0 ≤ j ∧ j < (dataL : Int)) ∧
  NN data fun a5 =>
  Wr h (a5.add (Int.toNat j * 1)) (.int .i64 n3) fun h4 =>
  (0 ≤ j - 1 ∧ j - 1 < (dataL : Int)) ∧
  NN data fun a6 =>
  Wr h4 (a6.add (Int.toNat (j - 1) * 1)) (.int .i64 n4) fun h5 =>
  slices_insertionSortOrdered_int_b5 data dataL dataC a b i j h5 nx0 nx1 K) := by kernel_rfl
theorem slices_insertionSortOrdered_int_b4_eq (data : Option Addr) (dataL : Nat) (dataC : Nat) (a : Int) (b : Int) (i : Int) (h : Hp) (nx0 : Int × Unit → Hp → Prop) (K : Value → Hp → Prop) : slices_insertionSortOrdered_int_b4 data dataL dataC a b i h nx0 K = (
  InR (i + 1) ∧
  nx0 (i + 1, ()) h) := by kernel_rfl
theorem slices_insertionSortOrdered_int_b5_eq (data : Option Addr) (dataL : Nat) (dataC : Nat) (a : Int) (b : Int) (i : Int) (j : Int) (h : Hp) (nx0 : Int × Unit → Hp → Prop) (nx1 : Int × Unit → Hp → Prop) (K : Value → Hp → Prop) : slices_insertionSortOrdered_int_b5 data dataL dataC a b i j h nx0 nx1 K = (
  InR (j - 1) ∧
  nx1 (j - 1, ()) h) := by kernel_rfl
theorem slices_insertionSortOrdered_int_call {data : Option Addr} {dataL : Nat} {dataC : Nat} {a : Int} {b : Int} {h : Hp} {K : Value → Hp → Prop} (hk : slices_insertionSortOrdered_int_b0 data dataL dataC a b h K) : HCalls Try.prog 67 #[.slice data dataL dataC, .int .i64 a, .int .i64 b] h K :=
  calls_of_snd slices_insertionSortOrdered_int_an Try.func67 (c := bodyOf Try.f67) rfl Try.ntmps67 (Nat.le_of_ble_eq_true rfl) (snd_5 F_ok F_mixed) hk

end Go.Proofs.Ytipmcfpjdebpdaa
