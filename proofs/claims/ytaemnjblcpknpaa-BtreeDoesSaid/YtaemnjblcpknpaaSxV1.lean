/- Plain statements of what each block of code of this seat asks; printed by a program, checked by Lean. -/
import Derived.Test.YtaemnjblcpknpaaSxV0
set_option maxRecDepth 10000
namespace Go.Proofs.Ytaemnjblcpknpaa
open Go Go.Sx

/-! ### l43_BtreeLoads -/
def l43_BtreeLoads_an : Ann := .node none (.leaf) (.node (some [0, 1, 2]) (.leaf) (.node none (.leaf) (.node none (.leaf) (.node (some [1, 2, 7, 8]) (.leaf) (.node (some [1, 2, 7, 8]) (.leaf) (.node none (.leaf) (.node none (.leaf) (.node (some [1, 2, 7, 8, 13, 14]) (.leaf) (.node none (.node none (.leaf) (.node none (.node none (.leaf) (.node (some [8, 13, 14, 15]) (.leaf) (.leaf))) (.leaf))) (.node none (.leaf) (.node (some [1, 16]) (.leaf) (.node (some [1, 16]) (.leaf) (.leaf)))))))))))))
def l43_BtreeLoads_K0  (K : Value → Hp → Prop) : Exit → Env → Hp → Prop := retK Try.prog Try.f3.results.toList K
def l43_BtreeLoads_K1  (K : Value → Hp → Prop) : Exit → Env → Hp → Prop := thenE (fun env h => sx0 Try.prog F 131 (sx_2 Try.prog F 131) (cp [1, 1, 1, 1, 1, 1, 1, 1, 1, 1] (bodyOf Try.f3)) (ap [1, 1, 1, 1, 1, 1, 1, 1, 1, 1] l43_BtreeLoads_an) env h (l43_BtreeLoads_K0  K)) (l43_BtreeLoads_K0  K)
def l43_BtreeLoads_b0 (order : Int) (l : Option Addr) (lL : Nat) (lC : Nat) (filled : Bool) (h : Hp)  (K : Value → Hp → Prop) : Prop :=
  sx_7 Try.prog F 131 (cp [] (bodyOf Try.f3)) (ap [] l43_BtreeLoads_an) [(0, .int .u8 order), (1, .slice l lL lC), (2, .bool filled)] h (l43_BtreeLoads_K0  K)
def l43_BtreeLoads_b1 (order : Int) (l : Option Addr) (lL : Nat) (lC : Nat) (filled : Bool) (h : Hp)  (K : Value → Hp → Prop) : Prop :=
  sx_6 Try.prog F 131 (cp [1, 1] (bodyOf Try.f3)) (ap [1, 1] l43_BtreeLoads_an) [(0, .int .u8 order), (1, .slice l lL lC), (2, .bool filled)] h (l43_BtreeLoads_K0  K)
def l43_BtreeLoads_b2 (l : Option Addr) (lL : Nat) (lC : Nat) (filled : Bool) (m : Int) (t : Option Addr) (h : Hp)  (K : Value → Hp → Prop) : Prop :=
  sx_5 Try.prog F 131 (cp [1, 1, 1, 1, 1] (bodyOf Try.f3)) (ap [1, 1, 1, 1, 1] l43_BtreeLoads_an) [(1, .slice l lL lC), (2, .bool filled), (7, .int .i64 m), (8, .pointer t)] h (l43_BtreeLoads_K0  K)
def l43_BtreeLoads_b3 (l : Option Addr) (lL : Nat) (lC : Nat) (filled : Bool) (m : Int) (t : Option Addr) (h : Hp)  (K : Value → Hp → Prop) : Prop :=
  sx_4 Try.prog F 131 (cp [1, 1, 1, 1, 1, 1] (bodyOf Try.f3)) (ap [1, 1, 1, 1, 1, 1] l43_BtreeLoads_an) [(1, .slice l lL lC), (2, .bool filled), (7, .int .i64 m), (8, .pointer t)] h (l43_BtreeLoads_K0  K)
def l43_BtreeLoads_b4 (l : Option Addr) (lL : Nat) (lC : Nat) (filled : Bool) (m : Int) (t : Option Addr) (f : Int) (want : Int) (h : Hp)  (K : Value → Hp → Prop) : Prop :=
  sx_3 Try.prog F 131 (cp [1, 1, 1, 1, 1, 1, 1, 1, 1] (bodyOf Try.f3)) (ap [1, 1, 1, 1, 1, 1, 1, 1, 1] l43_BtreeLoads_an) [(1, .slice l lL lC), (2, .bool filled), (7, .int .i64 m), (8, .pointer t), (13, .int .i64 f), (14, .int .i64 want)] h (l43_BtreeLoads_K0  K)
def l43_BtreeLoads_b5 (t : Option Addr) (f : Int) (want : Int) (left : Int) (h : Hp)  (K : Value → Hp → Prop) : Prop :=
  sx_2 Try.prog F 131 (cp [1, 1, 1, 1, 1, 1, 1, 1, 1, 0, 1, 0, 1, 1] (bodyOf Try.f3)) (ap [1, 1, 1, 1, 1, 1, 1, 1, 1, 0, 1, 0, 1, 1] l43_BtreeLoads_an) [(8, .pointer t), (13, .int .i64 f), (14, .int .i64 want), (15, .int .i64 left)] h (l43_BtreeLoads_K1  K)
def l43_BtreeLoads_b6 (l : Option Addr) (lL : Nat) (lC : Nat) (x : Option Addr) (xL : Nat) (xC : Nat) (h : Hp)  (K : Value → Hp → Prop) : Prop :=
  sx_2 Try.prog F 131 (cp [1, 1, 1, 1, 1, 1, 1, 1, 1, 1, 1, 1] (bodyOf Try.f3)) (ap [1, 1, 1, 1, 1, 1, 1, 1, 1, 1, 1, 1] l43_BtreeLoads_an) [(1, .slice l lL lC), (16, .slice x xL xC)] h (l43_BtreeLoads_K0  K)
def l43_BtreeLoads_b7 (l : Option Addr) (lL : Nat) (lC : Nat) (x : Option Addr) (xL : Nat) (xC : Nat) (h : Hp)  (K : Value → Hp → Prop) : Prop :=
  sx_1 Try.prog F 131 (cp [1, 1, 1, 1, 1, 1, 1, 1, 1, 1, 1, 1, 1] (bodyOf Try.f3)) (ap [1, 1, 1, 1, 1, 1, 1, 1, 1, 1, 1, 1, 1] l43_BtreeLoads_an) [(1, .slice l lL lC), (16, .slice x xL xC)] h (l43_BtreeLoads_K0  K)
theorem l43_BtreeLoads_b0_eq (order : Int) (l : Option Addr) (lL : Nat) (lC : Nat) (filled : Bool) (h : Hp)  (K : Value → Hp → Prop) : l43_BtreeLoads_b0 order l lL lC filled h  K = (
  HCalls Try.prog 8 #[] h fun v1 h1 => ∃ r1 : Bool, v1 = .bool r1 ∧
  cond (!r1)
  (HCalls Try.prog 8 #[] h1 fun v2 h2 => ∃ r2 : Bool, v2 = .bool r2 ∧
  K (.bool r2) h2)
  (cond (decide ((150 : Int) < (lL : Int)))
  (cond (decide ((lL : Int) ≤ 2000))
  (HCalls Try.prog 8 #[] h1 fun v3 h3 => ∃ r3 : Bool, v3 = .bool r3 ∧
  K (.bool r3) h3)
  (cond (decide ((2005 : Int) < (lL : Int)))
  (HCalls Try.prog 8 #[] h1 fun v4 h4 => ∃ r4 : Bool, v4 = .bool r4 ∧
  K (.bool r4) h4)
  (l43_BtreeLoads_b1 order l lL lC filled h1  K)))
  (cond (decide ((2005 : Int) < (lL : Int)))
  (HCalls Try.prog 8 #[] h1 fun v5 h5 => ∃ r5 : Bool, v5 = .bool r5 ∧
  K (.bool r5) h5)
  (l43_BtreeLoads_b1 order l lL lC filled h1  K)))) := by kernel_rfl
theorem l43_BtreeLoads_b1_eq (order : Int) (l : Option Addr) (lL : Nat) (lC : Nat) (filled : Bool) (h : Hp)  (K : Value → Hp → Prop) : l43_BtreeLoads_b1 order l lL lC filled h  K = (
  InR order ∧
  ∃ r6 : Int, Sx.Rem order 10 r6 ∧
  InR (3 + r6) ∧
  HCalls Try.prog 9 #[.int .i64 (3 + r6)] h fun v6 h6 => ∃ r7 : Option Addr, ∃ r8 : Int, v6 = .tuple #[.pointer r7, .int .i64 r8] ∧
  cond r7.isNone
  (K (.bool false) h6)
  (cond (!decide (r8 = 0))
  (K (.bool false) h6)
  (l43_BtreeLoads_b2 l lL lC filled (3 + r6) r7 h6  K))) := by kernel_rfl
theorem l43_BtreeLoads_b2_eq (l : Option Addr) (lL : Nat) (lC : Nat) (filled : Bool) (m : Int) (t : Option Addr) (h : Hp)  (K : Value → Hp → Prop) : l43_BtreeLoads_b2 l lL lC filled m t h  K = (
  cond filled
  (HCalls Try.prog 10 #[.pointer t, .int .i64 5, .int .i64 5] h fun v7 h7 => ∃ r9 : Int, ∃ r10 : Bool, ∃ r11 : Int, v7 = .tuple #[.int .i64 r9, .bool r10, .int .i64 r11] ∧
  cond (!decide (r11 = 0))
  (K (.bool false) h7)
  (l43_BtreeLoads_b3 l lL lC filled m t h7  K))
  (l43_BtreeLoads_b3 l lL lC filled m t h  K)) := by kernel_rfl
theorem l43_BtreeLoads_b3_eq (l : Option Addr) (lL : Nat) (lC : Nat) (filled : Bool) (m : Int) (t : Option Addr) (h : Hp)  (K : Value → Hp → Prop) : l43_BtreeLoads_b3 l lL lC filled m t h  K = (
  HCalls Try.prog 11 #[.pointer t, .slice l lL lC] h fun v8 h8 => ∃ r12 : Int, v8 = .int .i64 r12 ∧
  HCalls Try.prog 12 #[.slice l lL lC] h8 fun v9 h9 => ∃ r13 : Int, v9 = .int .i64 r13 ∧
  cond (decide (r13 = 0))
  (cond filled
  (l43_BtreeLoads_b4 l lL lC filled m t r12 13 h9  K)
  (l43_BtreeLoads_b4 l lL lC filled m t r12 r13 h9  K))
  (l43_BtreeLoads_b4 l lL lC filled m t r12 r13 h9  K)) := by kernel_rfl
theorem l43_BtreeLoads_b4_eq (l : Option Addr) (lL : Nat) (lC : Nat) (filled : Bool) (m : Int) (t : Option Addr) (f : Int) (want : Int) (h : Hp)  (K : Value → Hp → Prop) : l43_BtreeLoads_b4 l lL lC filled m t f want h  K = (
  cond (!decide (want = 0))
  (cond filled
  (l43_BtreeLoads_b5 t f want 1 h  K)
  (l43_BtreeLoads_b5 t f want 0 h  K))
  (HCalls Try.prog 14 #[.pointer t, .int .i64 (-1048576), .int .i64 1048576] h fun v10 h10 => ∃ (r14 : Option Addr) (rL1 rC1 : Nat), ∃ r15 : Int, v10 = .tuple #[.slice r14 rL1 rC1, .int .i64 r15] ∧
  cond (!decide (f = 0))
  (K (.bool false) h10)
  (cond (!decide (r15 = 0))
  (K (.bool false) h10)
  (HCalls Try.prog 13 #[.pointer t] h10 fun v11 h11 => ∃ r16 : Int, v11 = .int .i64 r16 ∧
  cond (!decide (r16 = (lL : Int)))
  (K (.bool false) h11)
  (HCalls Try.prog 16 #[.pointer t] h11 fun v12 h12 => ∃ (r17 : Option Addr) (rL2 rC2 : Nat), v12 = .slice r17 rL2 rC2 ∧
  HCalls Try.prog 17 #[.slice l lL lC] h12 fun v13 h13 => ∃ (r18 : Option Addr) (rL3 rC3 : Nat), v13 = .slice r18 rL3 rC3 ∧
  HCalls Try.prog 15 #[.int .i64 m, .slice r17 rL2 rC2, .slice r18 rL3 rC3] h13 fun v14 h14 => ∃ r19 : Bool, v14 = .bool r19 ∧
  cond (!r19)
  (K (.bool false) h14)
  (l43_BtreeLoads_b6 l lL lC r14 rL1 rC1 h14  K)))))) := by kernel_rfl
theorem l43_BtreeLoads_b5_eq (t : Option Addr) (f : Int) (want : Int) (left : Int) (h : Hp)  (K : Value → Hp → Prop) : l43_BtreeLoads_b5 t f want left h  K = (
  cond (decide (f = want))
  (HCalls Try.prog 13 #[.pointer t] h fun v15 h15 => ∃ r20 : Int, v15 = .int .i64 r20 ∧
  K (.bool (decide (r20 = left))) h15)
  (K (.bool false) h)) := by kernel_rfl
theorem l43_BtreeLoads_b6_eq (l : Option Addr) (lL : Nat) (lC : Nat) (x : Option Addr) (xL : Nat) (xC : Nat) (h : Hp)  (K : Value → Hp → Prop) : l43_BtreeLoads_b6 l lL lC x xL xC h  K = (
  cond (decide ((0 : Int) < (lL : Int)))
  (InR ((lL : Int) - 1) ∧
  (0 ≤ (lL : Int) - 1 ∧ (lL : Int) - 1 < (lL : Int)) ∧
  NN l fun a1 =>
  (0 ≤ (0 : Int) ∧ (0 : Int) < ((2 : Nat) : Int)) ∧
  ∃ n1 : Int, cell h ((a1.add (Int.toNat ((lL : Int) - 1) * 2)).add (Int.toNat (0 : Int) * 1)) = some (.int .i64 n1) ∧
  cond (decide (n1 = 1048576))
  (InR ((lL : Int) - 1) ∧
  (0 ≤ (0 : Int) ∧ (0 : Int) ≤ (lL : Int) - 1 ∧ (lL : Int) - 1 ≤ (lC : Int)) ∧
  HCalls Try.prog 18 #[.slice x xL xC, .slice (subAddr l lC (Int.toNat (0 : Int)) 2) (Int.toNat ((lL : Int) - 1) - Int.toNat (0 : Int)) (lC - Int.toNat (0 : Int))] h fun v16 h16 => ∃ r21 : Bool, v16 = .bool r21 ∧
  K (.bool r21) h16)
  (l43_BtreeLoads_b7 l lL lC x xL xC h  K))
  (l43_BtreeLoads_b7 l lL lC x xL xC h  K)) := by kernel_rfl
theorem l43_BtreeLoads_b7_eq (l : Option Addr) (lL : Nat) (lC : Nat) (x : Option Addr) (xL : Nat) (xC : Nat) (h : Hp)  (K : Value → Hp → Prop) : l43_BtreeLoads_b7 l lL lC x xL xC h  K = (
  HCalls Try.prog 18 #[.slice x xL xC, .slice l lL lC] h fun v17 h17 => ∃ r22 : Bool, v17 = .bool r22 ∧
  K (.bool r22) h17) := by kernel_rfl
theorem l43_BtreeLoads_call {order : Int} {l : Option Addr} {lL : Nat} {lC : Nat} {filled : Bool} {h : Hp} {K : Value → Hp → Prop} (hk : l43_BtreeLoads_b0 order l lL lC filled h K) : HCalls Try.prog 3 #[.int .u8 order, .slice l lL lC, .bool filled] h K :=
  calls_of_snd l43_BtreeLoads_an Try.func3 (c := bodyOf Try.f3) rfl Try.ntmps3 (Nat.le_of_ble_eq_true rfl) (snd_7 F_ok F_mixed) hk

/-! ### l43_BtreeHeights -/
def l43_BtreeHeights_an : Ann := .node none (.leaf) (.node (some [0, 1, 2]) (.leaf) (.node none (.leaf) (.node none (.leaf) (.node (some [1, 2, 7, 8]) (.leaf) (.node (some [1, 2, 7, 8]) (.node none (.leaf) (.loop [1, 2, 7, 8, 47, 48] [(49, .int .i64)] (.node none (.leaf) (.node none (.leaf) (.node (some [1, 2, 7, 8, 47, 48, 49]) (.leaf) (.leaf)))))) (.node (some [7, 8]) (.node none (.leaf) (.loop [7, 8, 71, 72] [(73, .int .i64)] (.node none (.leaf) (.node none (.leaf) (.node (some [7, 8, 71, 72, 73]) (.leaf) (.leaf)))))) (.node none (.leaf) (.node (some [7, 19, 20]) (.leaf) (.node none (.leaf) (.node (some [19, 20, 21, 22]) (.node none (.leaf) (.loop [7, 19, 20, 119] [(21, .int .i64), (22, .int .i64), (120, .int .i64)] (.node none (.leaf) (.node none (.leaf) (.node (some [7, 19, 20, 21, 22, 119, 120]) (.leaf) (.leaf)))))) (.node (some [20, 21, 22]) (.leaf) (.leaf))))))))))))
def l43_BtreeHeights_K0  (K : Value → Hp → Prop) : Exit → Env → Hp → Prop := retK Try.prog Try.f4.results.toList K
def l43_BtreeHeights_K1  (K : Value → Hp → Prop) : Exit → Env → Hp → Prop := thenE (fun env h => sx_5 Try.prog F 146 (cp [1, 1, 1, 1, 1, 1] (bodyOf Try.f4)) (ap [1, 1, 1, 1, 1, 1] l43_BtreeHeights_an) (rs [1, 2, 7, 8] env) h (l43_BtreeHeights_K0  K)) (l43_BtreeHeights_K0  K)
def l43_BtreeHeights_K2  (K : Value → Hp → Prop) : Exit → Env → Hp → Prop := blockE 0 (l43_BtreeHeights_K1  K)
def l43_BtreeHeights_K3 (nx0 : Int × Unit → Hp → Prop) (K : Value → Hp → Prop) : Exit → Env → Hp → Prop := thenE (fun env h => getV [(49, .int .i64)] env fun s => nx0 s h) (l43_BtreeHeights_K2  K)
def l43_BtreeHeights_K4  (K : Value → Hp → Prop) : Exit → Env → Hp → Prop := thenE (fun env h => sx_4 Try.prog F 146 (cp [1, 1, 1, 1, 1, 1, 1] (bodyOf Try.f4)) (ap [1, 1, 1, 1, 1, 1, 1] l43_BtreeHeights_an) (rs [7, 8] env) h (l43_BtreeHeights_K0  K)) (l43_BtreeHeights_K0  K)
def l43_BtreeHeights_K5  (K : Value → Hp → Prop) : Exit → Env → Hp → Prop := blockE 2 (l43_BtreeHeights_K4  K)
def l43_BtreeHeights_K6 (nx0 : Int × Unit → Hp → Prop) (K : Value → Hp → Prop) : Exit → Env → Hp → Prop := thenE (fun env h => getV [(73, .int .i64)] env fun s => nx0 s h) (l43_BtreeHeights_K5  K)
def l43_BtreeHeights_K7  (K : Value → Hp → Prop) : Exit → Env → Hp → Prop := thenE (fun env h => sx_2 Try.prog F 146 (cp [1, 1, 1, 1, 1, 1, 1, 1, 1, 1, 1] (bodyOf Try.f4)) (ap [1, 1, 1, 1, 1, 1, 1, 1, 1, 1, 1] l43_BtreeHeights_an) (rs [19, 20, 21, 22] env) h (l43_BtreeHeights_K0  K)) (l43_BtreeHeights_K0  K)
def l43_BtreeHeights_K8  (K : Value → Hp → Prop) : Exit → Env → Hp → Prop := blockE 4 (l43_BtreeHeights_K7  K)
def l43_BtreeHeights_K9 (nx0 : Int × Int × Int × Unit → Hp → Prop) (K : Value → Hp → Prop) : Exit → Env → Hp → Prop := thenE (fun env h => getV [(21, .int .i64), (22, .int .i64), (120, .int .i64)] env fun s => nx0 s h) (l43_BtreeHeights_K8  K)
def l43_BtreeHeights_b0 (order : Int) (l : Option Addr) (lL : Nat) (lC : Nat) (gone : Int) (h : Hp)  (K : Value → Hp → Prop) : Prop :=
  sx_8 Try.prog F 146 (cp [] (bodyOf Try.f4)) (ap [] l43_BtreeHeights_an) [(0, .int .u8 order), (1, .slice l lL lC), (2, .int .u8 gone)] h (l43_BtreeHeights_K0  K)
def l43_BtreeHeights_b1 (order : Int) (l : Option Addr) (lL : Nat) (lC : Nat) (gone : Int) (h : Hp)  (K : Value → Hp → Prop) : Prop :=
  sx_7 Try.prog F 146 (cp [1, 1] (bodyOf Try.f4)) (ap [1, 1] l43_BtreeHeights_an) [(0, .int .u8 order), (1, .slice l lL lC), (2, .int .u8 gone)] h (l43_BtreeHeights_K0  K)
def l43_BtreeHeights_b2 (l : Option Addr) (lL : Nat) (lC : Nat) (gone : Int) (m : Int) (t : Option Addr) (h : Hp)  (K : Value → Hp → Prop) : Prop :=
  sx_6 Try.prog F 146 (cp [1, 1, 1, 1, 1] (bodyOf Try.f4)) (ap [1, 1, 1, 1, 1] l43_BtreeHeights_an) [(1, .slice l lL lC), (2, .int .u8 gone), (7, .int .i64 m), (8, .pointer t)] h (l43_BtreeHeights_K0  K)
def l43_BtreeHeights_b3 (t49 : Int) (l : Option Addr) (lL : Nat) (lC : Nat) (gone : Int) (m : Int) (t : Option Addr) (t47 : Option Addr) (t47L : Nat) (t47C : Nat) (t48 : Int) (h : Hp) (nx0 : Int × Unit → Hp → Prop) (K : Value → Hp → Prop) : Prop :=
  sx_5 Try.prog F 146 (cp [1, 1, 1, 1, 1, 0, 1, 2, 2] (bodyOf Try.f4)) (ap [1, 1, 1, 1, 1, 0, 1, 2] l43_BtreeHeights_an) [(49, .int .i64 t49), (1, .slice l lL lC), (2, .int .u8 gone), (7, .int .i64 m), (8, .pointer t), (47, .slice t47 t47L t47C), (48, .int .i64 t48)] h (l43_BtreeHeights_K3 nx0 K)
def l43_BtreeHeights_b4 (l : Option Addr) (lL : Nat) (lC : Nat) (gone : Int) (m : Int) (t : Option Addr) (t47 : Option Addr) (t47L : Nat) (t47C : Nat) (t48 : Int) (t49 : Int) (h : Hp) (nx0 : Int × Unit → Hp → Prop) (K : Value → Hp → Prop) : Prop :=
  sx_4 Try.prog F 146 (cp [1, 1, 1, 1, 1, 0, 1, 2, 2, 1, 1, 1] (bodyOf Try.f4)) (ap [1, 1, 1, 1, 1, 0, 1, 2, 1, 1, 1] l43_BtreeHeights_an) [(1, .slice l lL lC), (2, .int .u8 gone), (7, .int .i64 m), (8, .pointer t), (47, .slice t47 t47L t47C), (48, .int .i64 t48), (49, .int .i64 t49)] h (l43_BtreeHeights_K3 nx0 K)
def l43_BtreeHeights_b5 (l : Option Addr) (lL : Nat) (lC : Nat) (gone : Int) (m : Int) (t : Option Addr) (h : Hp)  (K : Value → Hp → Prop) : Prop :=
  sx_5 Try.prog F 146 (cp [1, 1, 1, 1, 1, 1] (bodyOf Try.f4)) (ap [1, 1, 1, 1, 1, 1] l43_BtreeHeights_an) [(1, .slice l lL lC), (2, .int .u8 gone), (7, .int .i64 m), (8, .pointer t)] h (l43_BtreeHeights_K0  K)
def l43_BtreeHeights_b6 (t73 : Int) (m : Int) (t : Option Addr) (t71 : Option Addr) (t71L : Nat) (t71C : Nat) (t72 : Int) (h : Hp) (nx0 : Int × Unit → Hp → Prop) (K : Value → Hp → Prop) : Prop :=
  sx_4 Try.prog F 146 (cp [1, 1, 1, 1, 1, 1, 0, 1, 2, 2] (bodyOf Try.f4)) (ap [1, 1, 1, 1, 1, 1, 0, 1, 2] l43_BtreeHeights_an) [(73, .int .i64 t73), (7, .int .i64 m), (8, .pointer t), (71, .slice t71 t71L t71C), (72, .int .i64 t72)] h (l43_BtreeHeights_K6 nx0 K)
def l43_BtreeHeights_b7 (m : Int) (t : Option Addr) (t71 : Option Addr) (t71L : Nat) (t71C : Nat) (t72 : Int) (t73 : Int) (h : Hp) (nx0 : Int × Unit → Hp → Prop) (K : Value → Hp → Prop) : Prop :=
  sx_3 Try.prog F 146 (cp [1, 1, 1, 1, 1, 1, 0, 1, 2, 2, 1, 1, 1] (bodyOf Try.f4)) (ap [1, 1, 1, 1, 1, 1, 0, 1, 2, 1, 1, 1] l43_BtreeHeights_an) [(7, .int .i64 m), (8, .pointer t), (71, .slice t71 t71L t71C), (72, .int .i64 t72), (73, .int .i64 t73)] h (l43_BtreeHeights_K6 nx0 K)
def l43_BtreeHeights_b8 (m : Int) (t : Option Addr) (h : Hp)  (K : Value → Hp → Prop) : Prop :=
  sx_4 Try.prog F 146 (cp [1, 1, 1, 1, 1, 1, 1] (bodyOf Try.f4)) (ap [1, 1, 1, 1, 1, 1, 1] l43_BtreeHeights_an) [(7, .int .i64 m), (8, .pointer t)] h (l43_BtreeHeights_K0  K)
def l43_BtreeHeights_b9 (m : Int) (hv : Int) (nv : Int) (h : Hp)  (K : Value → Hp → Prop) : Prop :=
  sx_3 Try.prog F 146 (cp [1, 1, 1, 1, 1, 1, 1, 1, 1] (bodyOf Try.f4)) (ap [1, 1, 1, 1, 1, 1, 1, 1, 1] l43_BtreeHeights_an) [(7, .int .i64 m), (19, .int .i64 hv), (20, .int .i64 nv)] h (l43_BtreeHeights_K0  K)
def l43_BtreeHeights_b10 (low : Int) (high : Int) (t120 : Int) (m : Int) (hv : Int) (nv : Int) (t119 : Int) (h : Hp) (nx0 : Int × Int × Int × Unit → Hp → Prop) (K : Value → Hp → Prop) : Prop :=
  sx_2 Try.prog F 146 (cp [1, 1, 1, 1, 1, 1, 1, 1, 1, 1, 0, 1, 2, 2] (bodyOf Try.f4)) (ap [1, 1, 1, 1, 1, 1, 1, 1, 1, 1, 0, 1, 2] l43_BtreeHeights_an) [(21, .int .i64 low), (22, .int .i64 high), (120, .int .i64 t120), (7, .int .i64 m), (19, .int .i64 hv), (20, .int .i64 nv), (119, .int .i64 t119)] h (l43_BtreeHeights_K9 nx0 K)
def l43_BtreeHeights_b11 (m : Int) (hv : Int) (nv : Int) (low : Int) (high : Int) (t119 : Int) (t120 : Int) (h : Hp) (nx0 : Int × Int × Int × Unit → Hp → Prop) (K : Value → Hp → Prop) : Prop :=
  sx_1 Try.prog F 146 (cp [1, 1, 1, 1, 1, 1, 1, 1, 1, 1, 0, 1, 2, 2, 1, 1, 1] (bodyOf Try.f4)) (ap [1, 1, 1, 1, 1, 1, 1, 1, 1, 1, 0, 1, 2, 1, 1, 1] l43_BtreeHeights_an) [(7, .int .i64 m), (19, .int .i64 hv), (20, .int .i64 nv), (21, .int .i64 low), (22, .int .i64 high), (119, .int .i64 t119), (120, .int .i64 t120)] h (l43_BtreeHeights_K9 nx0 K)
def l43_BtreeHeights_b12 (hv : Int) (nv : Int) (low : Int) (high : Int) (h : Hp)  (K : Value → Hp → Prop) : Prop :=
  sx_2 Try.prog F 146 (cp [1, 1, 1, 1, 1, 1, 1, 1, 1, 1, 1] (bodyOf Try.f4)) (ap [1, 1, 1, 1, 1, 1, 1, 1, 1, 1, 1] l43_BtreeHeights_an) [(19, .int .i64 hv), (20, .int .i64 nv), (21, .int .i64 low), (22, .int .i64 high)] h (l43_BtreeHeights_K0  K)
def l43_BtreeHeights_b13 (nv : Int) (low : Int) (high : Int) (h : Hp)  (K : Value → Hp → Prop) : Prop :=
  sx_1 Try.prog F 146 (cp [1, 1, 1, 1, 1, 1, 1, 1, 1, 1, 1, 1] (bodyOf Try.f4)) (ap [1, 1, 1, 1, 1, 1, 1, 1, 1, 1, 1, 1] l43_BtreeHeights_an) [(20, .int .i64 nv), (21, .int .i64 low), (22, .int .i64 high)] h (l43_BtreeHeights_K0  K)
theorem l43_BtreeHeights_b0_eq (order : Int) (l : Option Addr) (lL : Nat) (lC : Nat) (gone : Int) (h : Hp)  (K : Value → Hp → Prop) : l43_BtreeHeights_b0 order l lL lC gone h  K = (
  HCalls Try.prog 8 #[] h fun v1 h1 => ∃ r1 : Bool, v1 = .bool r1 ∧
  cond (!r1)
  (HCalls Try.prog 8 #[] h1 fun v2 h2 => ∃ r2 : Bool, v2 = .bool r2 ∧
  K (.bool r2) h2)
  (cond (decide ((80 : Int) < (lL : Int)))
  (HCalls Try.prog 8 #[] h1 fun v3 h3 => ∃ r3 : Bool, v3 = .bool r3 ∧
  K (.bool r3) h3)
  (l43_BtreeHeights_b1 order l lL lC gone h1  K))) := by kernel_rfl
theorem l43_BtreeHeights_b1_eq (order : Int) (l : Option Addr) (lL : Nat) (lC : Nat) (gone : Int) (h : Hp)  (K : Value → Hp → Prop) : l43_BtreeHeights_b1 order l lL lC gone h  K = (
  InR order ∧
  ∃ r4 : Int, Sx.Rem order 6 r4 ∧
  InR (3 + r4) ∧
  HCalls Try.prog 9 #[.int .i64 (3 + r4)] h fun v4 h4 => ∃ r5 : Option Addr, ∃ r6 : Int, v4 = .tuple #[.pointer r5, .int .i64 r6] ∧
  cond r5.isNone
  (K (.bool false) h4)
  (cond (!decide (r6 = 0))
  (K (.bool false) h4)
  (l43_BtreeHeights_b2 l lL lC gone (3 + r4) r5 h4  K))) := by kernel_rfl
theorem l43_BtreeHeights_b2_eq (l : Option Addr) (lL : Nat) (lC : Nat) (gone : Int) (m : Int) (t : Option Addr) (h : Hp)  (K : Value → Hp → Prop) : l43_BtreeHeights_b2 l lL lC gone m t h  K = (
  LoopVC ((0, ()) : Int × Unit) h (fun (nx0 : Int × Unit → Hp → Prop) (s1 : Int × Unit) h5 => l43_BtreeHeights_b3 s1.1 l lL lC gone m t l lL lC (lL : Int) h5 nx0 K)) := by kernel_rfl
theorem l43_BtreeHeights_b3_eq (t49 : Int) (l : Option Addr) (lL : Nat) (lC : Nat) (gone : Int) (m : Int) (t : Option Addr) (t47 : Option Addr) (t47L : Nat) (t47C : Nat) (t48 : Int) (h : Hp) (nx0 : Int × Unit → Hp → Prop) (K : Value → Hp → Prop) : l43_BtreeHeights_b3 t49 l lL lC gone m t t47 t47L t47C t48 h nx0 K = (
  cond (decide (t49 < t48))
  ((0 ≤ t49 ∧ t49 < (t47L : Int)) ∧
  NN t47 fun a1 =>
  ∃ n1 : Int, cell h (a1.add (Int.toNat t49 * 1)) = some (.int .i16 n1) ∧
  InR n1 ∧
  HCalls Try.prog 10 #[.pointer t, .int .i64 n1, .int .i64 1] h fun v5 h6 => ∃ r7 : Int, ∃ r8 : Bool, ∃ r9 : Int, v5 = .tuple #[.int .i64 r7, .bool r8, .int .i64 r9] ∧
  cond (!decide (r9 = 0))
  (K (.bool false) h6)
  (l43_BtreeHeights_b4 l lL lC gone m t t47 t47L t47C t48 t49 h6 nx0 K))
  (l43_BtreeHeights_b5 l lL lC gone m t h  K)) := by kernel_rfl
theorem l43_BtreeHeights_b4_eq (l : Option Addr) (lL : Nat) (lC : Nat) (gone : Int) (m : Int) (t : Option Addr) (t47 : Option Addr) (t47L : Nat) (t47C : Nat) (t48 : Int) (t49 : Int) (h : Hp) (nx0 : Int × Unit → Hp → Prop) (K : Value → Hp → Prop) : l43_BtreeHeights_b4 l lL lC gone m t t47 t47L t47C t48 t49 h nx0 K = (
  InR (t49 + 1) ∧
  nx0 (t49 + 1, ()) h) := by kernel_rfl
theorem l43_BtreeHeights_b5_eq (l : Option Addr) (lL : Nat) (lC : Nat) (gone : Int) (m : Int) (t : Option Addr) (h : Hp)  (K : Value → Hp → Prop) : l43_BtreeHeights_b5 l lL lC gone m t h  K = (
  InR gone ∧
  InR ((lL : Int) + 1) ∧
  ∃ r10 : Int, Sx.Rem gone ((lL : Int) + 1) r10 ∧
  (0 ≤ (0 : Int) ∧ (0 : Int) ≤ r10 ∧ r10 ≤ (lC : Int)) ∧
  LoopVC ((0, ()) : Int × Unit) h (fun (nx0 : Int × Unit → Hp → Prop) (s2 : Int × Unit) h7 => l43_BtreeHeights_b6 s2.1 m t (subAddr l lC (Int.toNat (0 : Int)) 1) (Int.toNat r10 - Int.toNat (0 : Int)) (lC - Int.toNat (0 : Int)) ((Int.toNat r10 - Int.toNat (0 : Int) : Nat) : Int) h7 nx0 K)) := by kernel_rfl
theorem l43_BtreeHeights_b6_eq (t73 : Int) (m : Int) (t : Option Addr) (t71 : Option Addr) (t71L : Nat) (t71C : Nat) (t72 : Int) (h : Hp) (nx0 : Int × Unit → Hp → Prop) (K : Value → Hp → Prop) : l43_BtreeHeights_b6 t73 m t t71 t71L t71C t72 h nx0 K = (
  cond (decide (t73 < t72))
  ((0 ≤ t73 ∧ t73 < (t71L : Int)) ∧
  NN t71 fun a2 =>
  ∃ n2 : Int, cell h (a2.add (Int.toNat t73 * 1)) = some (.int .i16 n2) ∧
  InR n2 ∧
  HCalls Try.prog 19 #[.pointer t, .int .i64 n2] h fun v6 h8 => ∃ r11 : Int, ∃ r12 : Int, v6 = .tuple #[.int .i64 r11, .int .i64 r12] ∧
  cond (!decide (r12 = 0))
  (cond (!decide (r12 = 12))
  (K (.bool false) h8)
  (cond (decide (r12 = 0))
  (cond (!decide (r11 = 1))
  (K (.bool false) h8)
  (l43_BtreeHeights_b7 m t t71 t71L t71C t72 t73 h8 nx0 K))
  (l43_BtreeHeights_b7 m t t71 t71L t71C t72 t73 h8 nx0 K)))
  (cond (decide (r12 = 0))
  (cond (!decide (r11 = 1))
  (K (.bool false) h8)
  (l43_BtreeHeights_b7 m t t71 t71L t71C t72 t73 h8 nx0 K))
  (l43_BtreeHeights_b7 m t t71 t71L t71C t72 t73 h8 nx0 K)))
  (l43_BtreeHeights_b8 m t h  K)) := by kernel_rfl
theorem l43_BtreeHeights_b7_eq (m : Int) (t : Option Addr) (t71 : Option Addr) (t71L : Nat) (t71C : Nat) (t72 : Int) (t73 : Int) (h : Hp) (nx0 : Int × Unit → Hp → Prop) (K : Value → Hp → Prop) : l43_BtreeHeights_b7 m t t71 t71L t71C t72 t73 h nx0 K = (
  InR (t73 + 1) ∧
  nx0 (t73 + 1, ()) h) := by kernel_rfl
theorem l43_BtreeHeights_b8_eq (m : Int) (t : Option Addr) (h : Hp)  (K : Value → Hp → Prop) : l43_BtreeHeights_b8 m t h  K = (
  HCalls Try.prog 20 #[.pointer t] h fun v7 h9 => ∃ r13 : Int, v7 = .int .i64 r13 ∧
  HCalls Try.prog 13 #[.pointer t] h9 fun v8 h10 => ∃ r14 : Int, v8 = .int .i64 r14 ∧
  cond (decide (r14 = 0))
  (cond (decide (r14 = 0))
  (K (.bool (decide (r13 = 0))) h10)
  (K (.bool false) h10))
  (cond (decide (r13 < 1))
  (cond (decide (r14 = 0))
  (K (.bool (decide (r13 = 0))) h10)
  (K (.bool false) h10))
  (cond (decide ((10 : Int) < r13))
  (cond (decide (r14 = 0))
  (K (.bool (decide (r13 = 0))) h10)
  (K (.bool false) h10))
  (l43_BtreeHeights_b9 m r13 r14 h10  K)))) := by kernel_rfl
theorem l43_BtreeHeights_b9_eq (m : Int) (hv : Int) (nv : Int) (h : Hp)  (K : Value → Hp → Prop) : l43_BtreeHeights_b9 m hv nv h  K = (
  LoopVC ((2, 1, 0, ()) : Int × Int × Int × Unit) h (fun (nx0 : Int × Int × Int × Unit → Hp → Prop) (s3 : Int × Int × Int × Unit) h11 => l43_BtreeHeights_b10 s3.1 s3.2.1 s3.2.2.1 m hv nv hv h11 nx0 K)) := by kernel_rfl
theorem l43_BtreeHeights_b10_eq (low : Int) (high : Int) (t120 : Int) (m : Int) (hv : Int) (nv : Int) (t119 : Int) (h : Hp) (nx0 : Int × Int × Int × Unit → Hp → Prop) (K : Value → Hp → Prop) : l43_BtreeHeights_b10 low high t120 m hv nv t119 h nx0 K = (
  cond (decide (t120 < t119))
  (InR (high * m) ∧
  cond (decide ((0 : Int) < t120))
  (InR (m + 1) ∧
  ∃ q1 : Int, Sx.Quo .i64 (m + 1) 2 q1 ∧
  InR (low * q1) ∧
  l43_BtreeHeights_b11 m hv nv (low * q1) (high * m) t119 t120 h nx0 K)
  (l43_BtreeHeights_b11 m hv nv low (high * m) t119 t120 h nx0 K))
  (l43_BtreeHeights_b12 hv nv low high h  K)) := by kernel_rfl
theorem l43_BtreeHeights_b11_eq (m : Int) (hv : Int) (nv : Int) (low : Int) (high : Int) (t119 : Int) (t120 : Int) (h : Hp) (nx0 : Int × Int × Int × Unit → Hp → Prop) (K : Value → Hp → Prop) : l43_BtreeHeights_b11 m hv nv low high t119 t120 h nx0 K = (
  InR (t120 + 1) ∧
  nx0 (low, high, t120 + 1, ()) h) := by kernel_rfl
theorem l43_BtreeHeights_b12_eq (hv : Int) (nv : Int) (low : Int) (high : Int) (h : Hp)  (K : Value → Hp → Prop) : l43_BtreeHeights_b12 hv nv low high h  K = (
  cond (decide (hv = 1))
  (l43_BtreeHeights_b13 nv 2 high h  K)
  (l43_BtreeHeights_b13 nv low high h  K)) := by kernel_rfl
theorem l43_BtreeHeights_b13_eq (nv : Int) (low : Int) (high : Int) (h : Hp)  (K : Value → Hp → Prop) : l43_BtreeHeights_b13 nv low high h  K = (
  InR (low - 1) ∧
  cond (decide ((low - 1) ≤ nv))
  (InR (high - 1) ∧
  K (.bool (decide (nv ≤ (high - 1)))) h)
  (K (.bool false) h)) := by kernel_rfl
theorem l43_BtreeHeights_call {order : Int} {l : Option Addr} {lL : Nat} {lC : Nat} {gone : Int} {h : Hp} {K : Value → Hp → Prop} (hk : l43_BtreeHeights_b0 order l lL lC gone h K) : HCalls Try.prog 4 #[.int .u8 order, .slice l lL lC, .int .u8 gone] h K :=
  calls_of_snd l43_BtreeHeights_an Try.func4 (c := bodyOf Try.f4) rfl Try.ntmps4 (Nat.le_of_ble_eq_true rfl) (snd_8 F_ok F_mixed) hk

/-! ### l43_BtreePlays -/
def l43_BtreePlays_an : Ann := .node none (.leaf) (.node (some [0, 1]) (.leaf) (.node none (.leaf) (.node (some [0, 1, 5, 6]) (.leaf) (.node (some [0, 1, 5]) (.leaf) (.node none (.leaf) (.node (some [5, 7]) (.node none (.leaf) (.loop [0, 5, 61, 62] [(7, .slice), (63, .int .i64)] (.node none (.leaf) (.node none (.leaf) (.node (some [0, 5, 7, 61, 62, 63]) (.node none (.leaf) (.node none (.leaf) (.node (some [0, 5, 7, 61, 62, 63]) (.leaf) (.leaf)))) (.leaf)))))) (.node none (.leaf) (.node (some [6, 7, 12]) (.leaf) (.leaf)))))))))
def l43_BtreePlays_K0  (K : Value → Hp → Prop) : Exit → Env → Hp → Prop := retK Try.prog Try.f5.results.toList K
def l43_BtreePlays_K1  (K : Value → Hp → Prop) : Exit → Env → Hp → Prop := thenE (fun env h => sx_2 Try.prog F 128 (cp [1, 1, 1, 1, 1, 1, 1] (bodyOf Try.f5)) (ap [1, 1, 1, 1, 1, 1, 1] l43_BtreePlays_an) (rs [5, 7] env) h (l43_BtreePlays_K0  K)) (l43_BtreePlays_K0  K)
def l43_BtreePlays_K2  (K : Value → Hp → Prop) : Exit → Env → Hp → Prop := blockE 0 (l43_BtreePlays_K1  K)
def l43_BtreePlays_K3 (nx0 : (Option Addr × Nat × Nat) × Int × Unit → Hp → Prop) (K : Value → Hp → Prop) : Exit → Env → Hp → Prop := thenE (fun env h => getV [(7, .slice), (63, .int .i64)] env fun s => nx0 s h) (l43_BtreePlays_K2  K)
def l43_BtreePlays_K4 (nx0 : (Option Addr × Nat × Nat) × Int × Unit → Hp → Prop) (K : Value → Hp → Prop) : Exit → Env → Hp → Prop := thenE (fun env h => sx_1 Try.prog F 128 (cp [1, 1, 1, 1, 1, 1, 0, 1, 2, 2, 1, 1, 1] (bodyOf Try.f5)) (ap [1, 1, 1, 1, 1, 1, 0, 1, 2, 1, 1, 1] l43_BtreePlays_an) (rs [0, 5, 7, 61, 62, 63] env) h (l43_BtreePlays_K3 nx0 K)) (l43_BtreePlays_K3 nx0 K)
def l43_BtreePlays_K5 (nx0 : (Option Addr × Nat × Nat) × Int × Unit → Hp → Prop) (K : Value → Hp → Prop) : Exit → Env → Hp → Prop := blockE 1 (l43_BtreePlays_K4 nx0 K)
def l43_BtreePlays_b0 (order : Int) (l : Option Addr) (lL : Nat) (lC : Nat) (h : Hp)  (K : Value → Hp → Prop) : Prop :=
  sx_6 Try.prog F 128 (cp [] (bodyOf Try.f5)) (ap [] l43_BtreePlays_an) [(0, .int .i64 order), (1, .slice l lL lC)] h (l43_BtreePlays_K0  K)
def l43_BtreePlays_b1 (order : Int) (l : Option Addr) (lL : Nat) (lC : Nat) (h : Hp)  (K : Value → Hp → Prop) : Prop :=
  sx_5 Try.prog F 128 (cp [1, 1] (bodyOf Try.f5)) (ap [1, 1] l43_BtreePlays_an) [(0, .int .i64 order), (1, .slice l lL lC)] h (l43_BtreePlays_K0  K)
def l43_BtreePlays_b2 (order : Int) (l : Option Addr) (lL : Nat) (lC : Nat) (t : Option Addr) (e : Int) (h : Hp)  (K : Value → Hp → Prop) : Prop :=
  sx_4 Try.prog F 128 (cp [1, 1, 1, 1] (bodyOf Try.f5)) (ap [1, 1, 1, 1] l43_BtreePlays_an) [(0, .int .i64 order), (1, .slice l lL lC), (5, .pointer t), (6, .int .i64 e)] h (l43_BtreePlays_K0  K)
def l43_BtreePlays_b3 (order : Int) (l : Option Addr) (lL : Nat) (lC : Nat) (t : Option Addr) (h : Hp)  (K : Value → Hp → Prop) : Prop :=
  sx_3 Try.prog F 128 (cp [1, 1, 1, 1, 1] (bodyOf Try.f5)) (ap [1, 1, 1, 1, 1] l43_BtreePlays_an) [(0, .int .i64 order), (1, .slice l lL lC), (5, .pointer t)] h (l43_BtreePlays_K0  K)
def l43_BtreePlays_b4 (m : Option Addr) (mL : Nat) (mC : Nat) (t63 : Int) (order : Int) (t : Option Addr) (t61 : Option Addr) (t61L : Nat) (t61C : Nat) (t62 : Int) (h : Hp) (nx0 : (Option Addr × Nat × Nat) × Int × Unit → Hp → Prop) (K : Value → Hp → Prop) : Prop :=
  sx_2 Try.prog F 128 (cp [1, 1, 1, 1, 1, 1, 0, 1, 2, 2] (bodyOf Try.f5)) (ap [1, 1, 1, 1, 1, 1, 0, 1, 2] l43_BtreePlays_an) [(7, .slice m mL mC), (63, .int .i64 t63), (0, .int .i64 order), (5, .pointer t), (61, .slice t61 t61L t61C), (62, .int .i64 t62)] h (l43_BtreePlays_K3 nx0 K)
def l43_BtreePlays_b5 (order : Int) (t : Option Addr) (m : Option Addr) (mL : Nat) (mC : Nat) (t61 : Option Addr) (t61L : Nat) (t61C : Nat) (t62 : Int) (t63 : Int) (h : Hp) (nx0 : (Option Addr × Nat × Nat) × Int × Unit → Hp → Prop) (K : Value → Hp → Prop) : Prop :=
  sx_1 Try.prog F 128 (cp [1, 1, 1, 1, 1, 1, 0, 1, 2, 2, 1, 1, 0, 2, 1, 1, 1] (bodyOf Try.f5)) (ap [1, 1, 1, 1, 1, 1, 0, 1, 2, 1, 1, 0, 1, 1, 1] l43_BtreePlays_an) [(0, .int .i64 order), (5, .pointer t), (7, .slice m mL mC), (61, .slice t61 t61L t61C), (62, .int .i64 t62), (63, .int .i64 t63)] h (l43_BtreePlays_K5 nx0 K)
def l43_BtreePlays_b6 (t : Option Addr) (m : Option Addr) (mL : Nat) (mC : Nat) (h : Hp)  (K : Value → Hp → Prop) : Prop :=
  sx_2 Try.prog F 128 (cp [1, 1, 1, 1, 1, 1, 1] (bodyOf Try.f5)) (ap [1, 1, 1, 1, 1, 1, 1] l43_BtreePlays_an) [(5, .pointer t), (7, .slice m mL mC)] h (l43_BtreePlays_K0  K)
def l43_BtreePlays_b7 (order : Int) (t : Option Addr) (m : Option Addr) (mL : Nat) (mC : Nat) (t61 : Option Addr) (t61L : Nat) (t61C : Nat) (t62 : Int) (t63 : Int) (h : Hp) (nx0 : (Option Addr × Nat × Nat) × Int × Unit → Hp → Prop) (K : Value → Hp → Prop) : Prop :=
  sx_1 Try.prog F 128 (cp [1, 1, 1, 1, 1, 1, 0, 1, 2, 2, 1, 1, 1] (bodyOf Try.f5)) (ap [1, 1, 1, 1, 1, 1, 0, 1, 2, 1, 1, 1] l43_BtreePlays_an) [(0, .int .i64 order), (5, .pointer t), (7, .slice m mL mC), (61, .slice t61 t61L t61C), (62, .int .i64 t62), (63, .int .i64 t63)] h (l43_BtreePlays_K3 nx0 K)
def l43_BtreePlays_b8 (e : Int) (m : Option Addr) (mL : Nat) (mC : Nat) (all : Option Addr) (allL : Nat) (allC : Nat) (h : Hp)  (K : Value → Hp → Prop) : Prop :=
  sx_1 Try.prog F 128 (cp [1, 1, 1, 1, 1, 1, 1, 1, 1] (bodyOf Try.f5)) (ap [1, 1, 1, 1, 1, 1, 1, 1, 1] l43_BtreePlays_an) [(6, .int .i64 e), (7, .slice m mL mC), (12, .slice all allL allC)] h (l43_BtreePlays_K0  K)
theorem l43_BtreePlays_b0_eq (order : Int) (l : Option Addr) (lL : Nat) (lC : Nat) (h : Hp)  (K : Value → Hp → Prop) : l43_BtreePlays_b0 order l lL lC h  K = (
  HCalls Try.prog 8 #[] h fun v1 h1 => ∃ r1 : Bool, v1 = .bool r1 ∧
  cond (!r1)
  (HCalls Try.prog 8 #[] h1 fun v2 h2 => ∃ r2 : Bool, v2 = .bool r2 ∧
  K (.bool r2) h2)
  (HCalls Try.prog 21 #[.slice l lL lC] h1 fun v3 h3 => ∃ r3 : Bool, v3 = .bool r3 ∧
  cond (!r3)
  (HCalls Try.prog 8 #[] h3 fun v4 h4 => ∃ r4 : Bool, v4 = .bool r4 ∧
  K (.bool r4) h4)
  (l43_BtreePlays_b1 order l lL lC h3  K))) := by kernel_rfl
theorem l43_BtreePlays_b1_eq (order : Int) (l : Option Addr) (lL : Nat) (lC : Nat) (h : Hp)  (K : Value → Hp → Prop) : l43_BtreePlays_b1 order l lL lC h  K = (
  HCalls Try.prog 9 #[.int .i64 order] h fun v5 h5 => ∃ r5 : Option Addr, ∃ r6 : Int, v5 = .tuple #[.pointer r5, .int .i64 r6] ∧
  cond (decide (order < 3))
  (cond r5.isNone
  (K (.bool (decide (r6 = 2))) h5)
  (K (.bool false) h5))
  (cond (decide ((64 : Int) < order))
  (cond r5.isNone
  (K (.bool (decide (r6 = 2))) h5)
  (K (.bool false) h5))
  (l43_BtreePlays_b2 order l lL lC r5 r6 h5  K))) := by kernel_rfl
theorem l43_BtreePlays_b2_eq (order : Int) (l : Option Addr) (lL : Nat) (lC : Nat) (t : Option Addr) (e : Int) (h : Hp)  (K : Value → Hp → Prop) : l43_BtreePlays_b2 order l lL lC t e h  K = (
  cond t.isNone
  (K (.bool false) h)
  (cond (!decide (e = 0))
  (K (.bool false) h)
  (HCalls Try.prog 13 #[.pointer t] h fun v6 h6 => ∃ r7 : Int, v6 = .int .i64 r7 ∧
  cond (!decide (r7 = 0))
  (K (.bool false) h6)
  (HCalls Try.prog 20 #[.pointer t] h6 fun v7 h7 => ∃ r8 : Int, v7 = .int .i64 r8 ∧
  cond (!decide (r8 = 0))
  (K (.bool false) h7)
  (HCalls Try.prog 16 #[.pointer t] h7 fun v8 h8 => ∃ (r9 : Option Addr) (rL1 rC1 : Nat), v8 = .slice r9 rL1 rC1 ∧
  cond (!decide ((rL1 : Int) = 0))
  (K (.bool false) h8)
  (l43_BtreePlays_b3 order l lL lC t h8  K)))))) := by kernel_rfl
theorem l43_BtreePlays_b3_eq (order : Int) (l : Option Addr) (lL : Nat) (lC : Nat) (t : Option Addr) (h : Hp)  (K : Value → Hp → Prop) : l43_BtreePlays_b3 order l lL lC t h  K = (
  LoopVC (((none, 0, 0), 0, ()) : (Option Addr × Nat × Nat) × Int × Unit) h (fun (nx0 : (Option Addr × Nat × Nat) × Int × Unit → Hp → Prop) (s1 : (Option Addr × Nat × Nat) × Int × Unit) h9 => l43_BtreePlays_b4 s1.1.1 s1.1.2.1 s1.1.2.2 s1.2.1 order t l lL lC (lL : Int) h9 nx0 K)) := by kernel_rfl
theorem l43_BtreePlays_b4_eq (m : Option Addr) (mL : Nat) (mC : Nat) (t63 : Int) (order : Int) (t : Option Addr) (t61 : Option Addr) (t61L : Nat) (t61C : Nat) (t62 : Int) (h : Hp) (nx0 : (Option Addr × Nat × Nat) × Int × Unit → Hp → Prop) (K : Value → Hp → Prop) : l43_BtreePlays_b4 m mL mC t63 order t t61 t61L t61C t62 h nx0 K = (
  cond (decide (t63 < t62))
  ((0 ≤ t63 ∧ t63 < (t61L : Int)) ∧
  NN t61 fun a1 =>
  ∃ n1 : Int, ∃ n2 : Int, ∃ n3 : Int, cell h (a1.add (Int.toNat t63 * 3)) = some (.int .i64 n1) ∧
  cell h ((a1.add (Int.toNat t63 * 3)).add 1) = some (.int .i64 n2) ∧
  cell h ((a1.add (Int.toNat t63 * 3)).add 2) = some (.int .i64 n3) ∧
  New h (.cells #[.int .i64 0, .int .i64 0, .int .i64 0] 51) fun b1 h10 =>
  Wr h10 ⟨b1, 0, none⟩ (.int .i64 n1) fun h11 =>
  Wr h11 ((⟨b1, 0, none⟩ : Addr).add 1) (.int .i64 n2) fun h12 =>
  Wr h12 ((⟨b1, 0, none⟩ : Addr).add 2) (.int .i64 n3) fun h13 =>
  ∃ n4 : Int, ∃ n5 : Int, ∃ n6 : Int, cell h13 ⟨b1, 0, none⟩ = some (.int .i64 n4) ∧
  cell h13 ((⟨b1, 0, none⟩ : Addr).add 1) = some (.int .i64 n5) ∧
  cell h13 ((⟨b1, 0, none⟩ : Addr).add 2) = some (.int .i64 n6) ∧
  HCalls Try.prog 22 #[.pointer t, .slice m mL mC, .agg #[.int .i64 n4, .int .i64 n5, .int .i64 n6]] h13 fun v9 h14 => ∃ (r10 : Option Addr) (rL2 rC2 : Nat), ∃ r11 : Bool, v9 = .tuple #[.slice r10 rL2 rC2, .bool r11] ∧
  cond (!r11)
  (K (.bool false) h14)
  (HCalls Try.prog 13 #[.pointer t] h14 fun v10 h15 => ∃ r12 : Int, v10 = .int .i64 r12 ∧
  cond (!decide (r12 = (rL2 : Int)))
  (K (.bool false) h15)
  (l43_BtreePlays_b5 order t r10 rL2 rC2 t61 t61L t61C t62 t63 h15 nx0 K)))
  (l43_BtreePlays_b6 t m mL mC h  K)) := by kernel_rfl
theorem l43_BtreePlays_b5_eq (order : Int) (t : Option Addr) (m : Option Addr) (mL : Nat) (mC : Nat) (t61 : Option Addr) (t61L : Nat) (t61C : Nat) (t62 : Int) (t63 : Int) (h : Hp) (nx0 : (Option Addr × Nat × Nat) × Int × Unit → Hp → Prop) (K : Value → Hp → Prop) : l43_BtreePlays_b5 order t m mL mC t61 t61L t61C t62 t63 h nx0 K = (
  HCalls Try.prog 16 #[.pointer t] h fun v11 h16 => ∃ (r13 : Option Addr) (rL3 rC3 : Nat), v11 = .slice r13 rL3 rC3 ∧
  HCalls Try.prog 20 #[.pointer t] h16 fun v12 h17 => ∃ r14 : Int, v12 = .int .i64 r14 ∧
  cond (!decide (r14 = (rL3 : Int)))
  (K (.bool false) h17)
  (HCalls Try.prog 17 #[.slice m mL mC] h17 fun v13 h18 => ∃ (r15 : Option Addr) (rL4 rC4 : Nat), v13 = .slice r15 rL4 rC4 ∧
  HCalls Try.prog 15 #[.int .i64 order, .slice r13 rL3 rC3, .slice r15 rL4 rC4] h18 fun v14 h19 => ∃ r16 : Bool, v14 = .bool r16 ∧
  cond (!r16)
  (K (.bool false) h19)
  (l43_BtreePlays_b7 order t m mL mC t61 t61L t61C t62 t63 h19 nx0 K))) := by kernel_rfl
theorem l43_BtreePlays_b6_eq (t : Option Addr) (m : Option Addr) (mL : Nat) (mC : Nat) (h : Hp)  (K : Value → Hp → Prop) : l43_BtreePlays_b6 t m mL mC h  K = (
  HCalls Try.prog 14 #[.pointer t, .int .i64 (-1048576), .int .i64 1048576] h fun v15 h20 => ∃ (r17 : Option Addr) (rL5 rC5 : Nat), ∃ r18 : Int, v15 = .tuple #[.slice r17 rL5 rC5, .int .i64 r18] ∧
  cond (decide ((0 : Int) < (mL : Int)))
  (InR ((mL : Int) - 1) ∧
  (0 ≤ (mL : Int) - 1 ∧ (mL : Int) - 1 < (mL : Int)) ∧
  NN m fun a2 =>
  (0 ≤ (0 : Int) ∧ (0 : Int) < ((2 : Nat) : Int)) ∧
  ∃ n7 : Int, cell h20 ((a2.add (Int.toNat ((mL : Int) - 1) * 2)).add (Int.toNat (0 : Int) * 1)) = some (.int .i64 n7) ∧
  cond (decide (n7 = 1048576))
  (InR ((mL : Int) - 1) ∧
  (0 ≤ (0 : Int) ∧ (0 : Int) ≤ (mL : Int) - 1 ∧ (mL : Int) - 1 ≤ (mC : Int)) ∧
  l43_BtreePlays_b8 r18 (subAddr m mC (Int.toNat (0 : Int)) 2) (Int.toNat ((mL : Int) - 1) - Int.toNat (0 : Int)) (mC - Int.toNat (0 : Int)) r17 rL5 rC5 h20  K)
  (l43_BtreePlays_b8 r18 m mL mC r17 rL5 rC5 h20  K))
  (l43_BtreePlays_b8 r18 m mL mC r17 rL5 rC5 h20  K)) := by kernel_rfl
theorem l43_BtreePlays_b7_eq (order : Int) (t : Option Addr) (m : Option Addr) (mL : Nat) (mC : Nat) (t61 : Option Addr) (t61L : Nat) (t61C : Nat) (t62 : Int) (t63 : Int) (h : Hp) (nx0 : (Option Addr × Nat × Nat) × Int × Unit → Hp → Prop) (K : Value → Hp → Prop) : l43_BtreePlays_b7 order t m mL mC t61 t61L t61C t62 t63 h nx0 K = (
  InR (t63 + 1) ∧
  nx0 ((m, mL, mC), t63 + 1, ()) h) := by kernel_rfl
theorem l43_BtreePlays_b8_eq (e : Int) (m : Option Addr) (mL : Nat) (mC : Nat) (all : Option Addr) (allL : Nat) (allC : Nat) (h : Hp)  (K : Value → Hp → Prop) : l43_BtreePlays_b8 e m mL mC all allL allC h  K = (
  cond (decide (e = 0))
  (HCalls Try.prog 18 #[.slice all allL allC, .slice m mL mC] h fun v16 h21 => ∃ r19 : Bool, v16 = .bool r19 ∧
  K (.bool r19) h21)
  (K (.bool false) h)) := by kernel_rfl
theorem l43_BtreePlays_call {order : Int} {l : Option Addr} {lL : Nat} {lC : Nat} {h : Hp} {K : Value → Hp → Prop} (hk : l43_BtreePlays_b0 order l lL lC h K) : HCalls Try.prog 5 #[.int .i64 order, .slice l lL lC] h K :=
  calls_of_snd l43_BtreePlays_an Try.func5 (c := bodyOf Try.f5) rfl Try.ntmps5 (Nat.le_of_ble_eq_true rfl) (snd_6 F_ok F_mixed) hk

/-! ### l43_BtreeDoes -/
def l43_BtreeDoes_an : Ann := .node none (.leaf) (.node (some [0, 1]) (.leaf) (.node none (.leaf) (.node (some [0, 1, 5]) (.leaf) (.node none (.leaf) (.node (some [0, 5, 7]) (.node none (.leaf) (.loop [0, 5, 40, 41] [(7, .slice), (42, .int .i64)] (.node none (.leaf) (.node none (.leaf) (.node (some [0, 5, 7, 40, 41, 42]) (.node none (.leaf) (.node none (.leaf) (.node none (.leaf) (.node none (.leaf) (.node (some [0, 5, 12, 40, 41, 42]) (.leaf) (.leaf)))))) (.leaf)))))) (.leaf))))))
def l43_BtreeDoes_K0  (K : Value → Hp → Prop) : Exit → Env → Hp → Prop := retK Try.prog Try.f6.results.toList K
def l43_BtreeDoes_K1  (K : Value → Hp → Prop) : Exit → Env → Hp → Prop := thenE (fun env h => sx_2 Try.prog F 95 (cp [1, 1, 1, 1, 1, 1] (bodyOf Try.f6)) (ap [1, 1, 1, 1, 1, 1] l43_BtreeDoes_an) (rs [0, 5, 7] env) h (l43_BtreeDoes_K0  K)) (l43_BtreeDoes_K0  K)
def l43_BtreeDoes_K2  (K : Value → Hp → Prop) : Exit → Env → Hp → Prop := blockE 0 (l43_BtreeDoes_K1  K)
def l43_BtreeDoes_K3 (nx0 : (Option Addr × Nat × Nat) × Int × Unit → Hp → Prop) (K : Value → Hp → Prop) : Exit → Env → Hp → Prop := thenE (fun env h => getV [(7, .slice), (42, .int .i64)] env fun s => nx0 s h) (l43_BtreeDoes_K2  K)
def l43_BtreeDoes_K4 (nx0 : (Option Addr × Nat × Nat) × Int × Unit → Hp → Prop) (K : Value → Hp → Prop) : Exit → Env → Hp → Prop := thenE (fun env h => sx_1 Try.prog F 95 (cp [1, 1, 1, 1, 1, 0, 1, 2, 2, 1, 1, 1] (bodyOf Try.f6)) (ap [1, 1, 1, 1, 1, 0, 1, 2, 1, 1, 1] l43_BtreeDoes_an) (rs [0, 5, 7, 40, 41, 42] env) h (l43_BtreeDoes_K3 nx0 K)) (l43_BtreeDoes_K3 nx0 K)
def l43_BtreeDoes_K5 (nx0 : (Option Addr × Nat × Nat) × Int × Unit → Hp → Prop) (K : Value → Hp → Prop) : Exit → Env → Hp → Prop := blockE 1 (l43_BtreeDoes_K4 nx0 K)
def l43_BtreeDoes_b0 (order : Int) (l : Option Addr) (lL : Nat) (lC : Nat) (h : Hp)  (K : Value → Hp → Prop) : Prop :=
  sx_5 Try.prog F 95 (cp [] (bodyOf Try.f6)) (ap [] l43_BtreeDoes_an) [(0, .int .u8 order), (1, .slice l lL lC)] h (l43_BtreeDoes_K0  K)
def l43_BtreeDoes_b1 (order : Int) (l : Option Addr) (lL : Nat) (lC : Nat) (h : Hp)  (K : Value → Hp → Prop) : Prop :=
  sx_4 Try.prog F 95 (cp [1, 1] (bodyOf Try.f6)) (ap [1, 1] l43_BtreeDoes_an) [(0, .int .u8 order), (1, .slice l lL lC)] h (l43_BtreeDoes_K0  K)
def l43_BtreeDoes_b2 (order : Int) (l : Option Addr) (lL : Nat) (lC : Nat) (t : Option Addr) (h : Hp)  (K : Value → Hp → Prop) : Prop :=
  sx_3 Try.prog F 95 (cp [1, 1, 1, 1] (bodyOf Try.f6)) (ap [1, 1, 1, 1] l43_BtreeDoes_an) [(0, .int .u8 order), (1, .slice l lL lC), (5, .pointer t)] h (l43_BtreeDoes_K0  K)
def l43_BtreeDoes_b3 (m : Option Addr) (mL : Nat) (mC : Nat) (t42 : Int) (order : Int) (t : Option Addr) (t40 : Option Addr) (t40L : Nat) (t40C : Nat) (t41 : Int) (h : Hp) (nx0 : (Option Addr × Nat × Nat) × Int × Unit → Hp → Prop) (K : Value → Hp → Prop) : Prop :=
  sx_2 Try.prog F 95 (cp [1, 1, 1, 1, 1, 0, 1, 2, 2] (bodyOf Try.f6)) (ap [1, 1, 1, 1, 1, 0, 1, 2] l43_BtreeDoes_an) [(7, .slice m mL mC), (42, .int .i64 t42), (0, .int .u8 order), (5, .pointer t), (40, .slice t40 t40L t40C), (41, .int .i64 t41)] h (l43_BtreeDoes_K3 nx0 K)
def l43_BtreeDoes_b4 (order : Int) (t : Option Addr) (m : Option Addr) (mL : Nat) (mC : Nat) (t40 : Option Addr) (t40L : Nat) (t40C : Nat) (t41 : Int) (t42 : Int) (h : Hp) (nx0 : (Option Addr × Nat × Nat) × Int × Unit → Hp → Prop) (K : Value → Hp → Prop) : Prop :=
  sx_1 Try.prog F 95 (cp [1, 1, 1, 1, 1, 0, 1, 2, 2, 1, 1, 1] (bodyOf Try.f6)) (ap [1, 1, 1, 1, 1, 0, 1, 2, 1, 1, 1] l43_BtreeDoes_an) [(0, .int .u8 order), (5, .pointer t), (7, .slice m mL mC), (40, .slice t40 t40L t40C), (41, .int .i64 t41), (42, .int .i64 t42)] h (l43_BtreeDoes_K3 nx0 K)
def l43_BtreeDoes_b5 (order : Int) (t : Option Addr) (next : Option Addr) (nextL : Nat) (nextC : Nat) (t40 : Option Addr) (t40L : Nat) (t40C : Nat) (t41 : Int) (t42 : Int) (h : Hp) (nx0 : (Option Addr × Nat × Nat) × Int × Unit → Hp → Prop) (K : Value → Hp → Prop) : Prop :=
  sx_1 Try.prog F 95 (cp [1, 1, 1, 1, 1, 0, 1, 2, 2, 1, 1, 0, 2, 1, 1, 1, 1, 1] (bodyOf Try.f6)) (ap [1, 1, 1, 1, 1, 0, 1, 2, 1, 1, 0, 1, 1, 1, 1, 1] l43_BtreeDoes_an) [(0, .int .u8 order), (5, .pointer t), (12, .slice next nextL nextC), (40, .slice t40 t40L t40C), (41, .int .i64 t41), (42, .int .i64 t42)] h (l43_BtreeDoes_K5 nx0 K)
def l43_BtreeDoes_b6 (order : Int) (t : Option Addr) (m : Option Addr) (mL : Nat) (mC : Nat) (h : Hp)  (K : Value → Hp → Prop) : Prop :=
  sx_2 Try.prog F 95 (cp [1, 1, 1, 1, 1, 1] (bodyOf Try.f6)) (ap [1, 1, 1, 1, 1, 1] l43_BtreeDoes_an) [(0, .int .u8 order), (5, .pointer t), (7, .slice m mL mC)] h (l43_BtreeDoes_K0  K)
theorem l43_BtreeDoes_b0_eq (order : Int) (l : Option Addr) (lL : Nat) (lC : Nat) (h : Hp)  (K : Value → Hp → Prop) : l43_BtreeDoes_b0 order l lL lC h  K = (
  HCalls Try.prog 8 #[] h fun v1 h1 => ∃ r1 : Bool, v1 = .bool r1 ∧
  cond (!r1)
  (HCalls Try.prog 8 #[] h1 fun v2 h2 => ∃ r2 : Bool, v2 = .bool r2 ∧
  K (.bool r2) h2)
  (cond (decide ((40 : Int) < (lL : Int)))
  (HCalls Try.prog 8 #[] h1 fun v3 h3 => ∃ r3 : Bool, v3 = .bool r3 ∧
  K (.bool r3) h3)
  (HCalls Try.prog 23 #[.slice l lL lC, .func (.func 24) #[] #[]] h1 fun v4 h4 => ∃ r4 : Bool, v4 = .bool r4 ∧
  cond r4
  (HCalls Try.prog 8 #[] h4 fun v5 h5 => ∃ r5 : Bool, v5 = .bool r5 ∧
  K (.bool r5) h5)
  (l43_BtreeDoes_b1 order l lL lC h4  K)))) := by kernel_rfl
theorem l43_BtreeDoes_b1_eq (order : Int) (l : Option Addr) (lL : Nat) (lC : Nat) (h : Hp)  (K : Value → Hp → Prop) : l43_BtreeDoes_b1 order l lL lC h  K = (
  InR order ∧
  ∃ r6 : Int, Sx.Rem order 10 r6 ∧
  InR (3 + r6) ∧
  HCalls Try.prog 9 #[.int .i64 (3 + r6)] h fun v6 h6 => ∃ r7 : Option Addr, ∃ r8 : Int, v6 = .tuple #[.pointer r7, .int .i64 r8] ∧
  cond r7.isNone
  (K (.bool false) h6)
  (cond (!decide (r8 = 0))
  (K (.bool false) h6)
  (l43_BtreeDoes_b2 order l lL lC r7 h6  K))) := by kernel_rfl
theorem l43_BtreeDoes_b2_eq (order : Int) (l : Option Addr) (lL : Nat) (lC : Nat) (t : Option Addr) (h : Hp)  (K : Value → Hp → Prop) : l43_BtreeDoes_b2 order l lL lC t h  K = (
  LoopVC (((none, 0, 0), 0, ()) : (Option Addr × Nat × Nat) × Int × Unit) h (fun (nx0 : (Option Addr × Nat × Nat) × Int × Unit → Hp → Prop) (s1 : (Option Addr × Nat × Nat) × Int × Unit) h7 => l43_BtreeDoes_b3 s1.1.1 s1.1.2.1 s1.1.2.2 s1.2.1 order t l lL lC (lL : Int) h7 nx0 K)) := by kernel_rfl
theorem l43_BtreeDoes_b3_eq (m : Option Addr) (mL : Nat) (mC : Nat) (t42 : Int) (order : Int) (t : Option Addr) (t40 : Option Addr) (t40L : Nat) (t40C : Nat) (t41 : Int) (h : Hp) (nx0 : (Option Addr × Nat × Nat) × Int × Unit → Hp → Prop) (K : Value → Hp → Prop) : l43_BtreeDoes_b3 m mL mC t42 order t t40 t40L t40C t41 h nx0 K = (
  cond (decide (t42 < t41))
  ((0 ≤ t42 ∧ t42 < (t40L : Int)) ∧
  NN t40 fun a1 =>
  ∃ n1 : Int, ∃ (a2 : Option Addr) (L1 C1 : Nat), cell h (a1.add (Int.toNat t42 * 2)) = some (.int .i64 n1) ∧
  cell h ((a1.add (Int.toNat t42 * 2)).add 1) = some (.slice a2 L1 C1) ∧
  New h (.cells #[.int .i64 0, .slice none 0 0] 58) fun b1 h8 =>
  Wr h8 ⟨b1, 0, none⟩ (.int .i64 n1) fun h9 =>
  Wr h9 ((⟨b1, 0, none⟩ : Addr).add 1) (.slice a2 L1 C1) fun h10 =>
  ∃ n2 : Int, ∃ (a3 : Option Addr) (L2 C2 : Nat), cell h10 ⟨b1, 0, none⟩ = some (.int .i64 n2) ∧
  cell h10 ((⟨b1, 0, none⟩ : Addr).add 1) = some (.slice a3 L2 C2) ∧
  HCalls Try.prog 25 #[.pointer t, .agg #[.int .i64 n2, .slice a3 L2 C2]] h10 fun v7 h11 => ∃ r9 : Int, ∃ r10 : Int, ∃ (r11 : Option Addr) (rL1 rC1 : Nat), ∃ r12 : Int, v7 = .tuple #[.agg #[.int .i64 r9, .int .i64 r10, .slice r11 rL1 rC1], .int .i64 r12] ∧
  New h11 (.cells #[.int .i64 0, .int .i64 0, .slice none 0 0] 61) fun b2 h12 =>
  Wr h12 ⟨b2, 0, none⟩ (.int .i64 r9) fun h13 =>
  Wr h13 ((⟨b2, 0, none⟩ : Addr).add 1) (.int .i64 r10) fun h14 =>
  Wr h14 ((⟨b2, 0, none⟩ : Addr).add 2) (.slice r11 rL1 rC1) fun h15 =>
  ∃ n3 : Int, ∃ (a4 : Option Addr) (L3 C3 : Nat), cell h15 ⟨b1, 0, none⟩ = some (.int .i64 n3) ∧
  cell h15 ((⟨b1, 0, none⟩ : Addr).add 1) = some (.slice a4 L3 C3) ∧
  HCalls Try.prog 26 #[.int .i64 1, .agg #[.int .i64 n3, .slice a4 L3 C3]] h15 fun v8 h16 => ∃ r13 : Bool, v8 = .bool r13 ∧
  cond (!r13)
  (cond (!decide (r12 = 1))
  (K (.bool false) h16)
  (∃ n4 : Int, ∃ n5 : Int, ∃ (a5 : Option Addr) (L4 C4 : Nat), cell h16 ⟨b2, 0, none⟩ = some (.int .i64 n4) ∧
  cell h16 ((⟨b2, 0, none⟩ : Addr).add 1) = some (.int .i64 n5) ∧
  cell h16 ((⟨b2, 0, none⟩ : Addr).add 2) = some (.slice a5 L4 C4) ∧
  HCalls Try.prog 27 #[.agg #[.int .i64 n4, .int .i64 n5, .slice a5 L4 C4], .agg #[.int .i64 0, .int .i64 0, .slice none 0 0]] h16 fun v9 h17 => ∃ r14 : Bool, v9 = .bool r14 ∧
  cond (!r14)
  (K (.bool false) h17)
  (l43_BtreeDoes_b4 order t m mL mC t40 t40L t40C t41 t42 h17 nx0 K)))
  (∃ n6 : Int, ∃ (a6 : Option Addr) (L5 C5 : Nat), cell h16 ⟨b1, 0, none⟩ = some (.int .i64 n6) ∧
  cell h16 ((⟨b1, 0, none⟩ : Addr).add 1) = some (.slice a6 L5 C5) ∧
  HCalls Try.prog 28 #[.slice m mL mC, .agg #[.int .i64 n6, .slice a6 L5 C5]] h16 fun v10 h18 => ∃ (r15 : Option Addr) (rL2 rC2 : Nat), ∃ r16 : Int, ∃ r17 : Int, ∃ (r18 : Option Addr) (rL3 rC3 : Nat), v10 = .tuple #[.slice r15 rL2 rC2, .agg #[.int .i64 r16, .int .i64 r17, .slice r18 rL3 rC3]] ∧
  New h18 (.cells #[.int .i64 0, .int .i64 0, .slice none 0 0] 61) fun b3 h19 =>
  Wr h19 ⟨b3, 0, none⟩ (.int .i64 r16) fun h20 =>
  Wr h20 ((⟨b3, 0, none⟩ : Addr).add 1) (.int .i64 r17) fun h21 =>
  Wr h21 ((⟨b3, 0, none⟩ : Addr).add 2) (.slice r18 rL3 rC3) fun h22 =>
  cond (!decide (r12 = 0))
  (K (.bool false) h22)
  (∃ n7 : Int, ∃ n8 : Int, ∃ (a7 : Option Addr) (L6 C6 : Nat), cell h22 ⟨b2, 0, none⟩ = some (.int .i64 n7) ∧
  cell h22 ((⟨b2, 0, none⟩ : Addr).add 1) = some (.int .i64 n8) ∧
  cell h22 ((⟨b2, 0, none⟩ : Addr).add 2) = some (.slice a7 L6 C6) ∧
  ∃ n9 : Int, ∃ n10 : Int, ∃ (a8 : Option Addr) (L7 C7 : Nat), cell h22 ⟨b3, 0, none⟩ = some (.int .i64 n9) ∧
  cell h22 ((⟨b3, 0, none⟩ : Addr).add 1) = some (.int .i64 n10) ∧
  cell h22 ((⟨b3, 0, none⟩ : Addr).add 2) = some (.slice a8 L7 C7) ∧
  HCalls Try.prog 27 #[.agg #[.int .i64 n7, .int .i64 n8, .slice a7 L6 C6], .agg #[.int .i64 n9, .int .i64 n10, .slice a8 L7 C7]] h22 fun v11 h23 => ∃ r19 : Bool, v11 = .bool r19 ∧
  cond (!r19)
  (K (.bool false) h23)
  (l43_BtreeDoes_b5 order t r15 rL2 rC2 t40 t40L t40C t41 t42 h23 nx0 K))))
  (l43_BtreeDoes_b6 order t m mL mC h  K)) := by kernel_rfl
theorem l43_BtreeDoes_b4_eq (order : Int) (t : Option Addr) (m : Option Addr) (mL : Nat) (mC : Nat) (t40 : Option Addr) (t40L : Nat) (t40C : Nat) (t41 : Int) (t42 : Int) (h : Hp) (nx0 : (Option Addr × Nat × Nat) × Int × Unit → Hp → Prop) (K : Value → Hp → Prop) : l43_BtreeDoes_b4 order t m mL mC t40 t40L t40C t41 t42 h nx0 K = (
  InR (t42 + 1) ∧
  nx0 ((m, mL, mC), t42 + 1, ()) h) := by kernel_rfl
theorem l43_BtreeDoes_b5_eq (order : Int) (t : Option Addr) (next : Option Addr) (nextL : Nat) (nextC : Nat) (t40 : Option Addr) (t40L : Nat) (t40C : Nat) (t41 : Int) (t42 : Int) (h : Hp) (nx0 : (Option Addr × Nat × Nat) × Int × Unit → Hp → Prop) (K : Value → Hp → Prop) : l43_BtreeDoes_b5 order t next nextL nextC t40 t40L t40C t41 t42 h nx0 K = (
  l43_BtreeDoes_b4 order t next nextL nextC t40 t40L t40C t41 t42 h nx0 K) := by kernel_rfl
theorem l43_BtreeDoes_b6_eq (order : Int) (t : Option Addr) (m : Option Addr) (mL : Nat) (mC : Nat) (h : Hp)  (K : Value → Hp → Prop) : l43_BtreeDoes_b6 order t m mL mC h  K = (
  HCalls Try.prog 13 #[.pointer t] h fun v12 h24 => ∃ r20 : Int, v12 = .int .i64 r20 ∧
  cond (decide (r20 = (mL : Int)))
  (InR order ∧
  ∃ r21 : Int, Sx.Rem order 10 r21 ∧
  InR (3 + r21) ∧
  HCalls Try.prog 16 #[.pointer t] h24 fun v13 h25 => ∃ (r22 : Option Addr) (rL4 rC4 : Nat), v13 = .slice r22 rL4 rC4 ∧
  HCalls Try.prog 17 #[.slice m mL mC] h25 fun v14 h26 => ∃ (r23 : Option Addr) (rL5 rC5 : Nat), v14 = .slice r23 rL5 rC5 ∧
  HCalls Try.prog 15 #[.int .i64 (3 + r21), .slice r22 rL4 rC4, .slice r23 rL5 rC5] h26 fun v15 h27 => ∃ r24 : Bool, v15 = .bool r24 ∧
  K (.bool r24) h27)
  (K (.bool false) h24)) := by kernel_rfl
theorem l43_BtreeDoes_call {order : Int} {l : Option Addr} {lL : Nat} {lC : Nat} {h : Hp} {K : Value → Hp → Prop} (hk : l43_BtreeDoes_b0 order l lL lC h K) : HCalls Try.prog 6 #[.int .u8 order, .slice l lL lC] h K :=
  calls_of_snd l43_BtreeDoes_an Try.func6 (c := bodyOf Try.f6) rfl Try.ntmps6 (Nat.le_of_ble_eq_true rfl) (snd_5 F_ok F_mixed) hk

/-! ### l43_BtreeFull -/
def l43_BtreeFull_an : Ann := .node none (.leaf) (.node none (.leaf) (.node none (.leaf) (.node none (.leaf) (.node none (.leaf) (.node none (.leaf) (.node none (.leaf) (.node none (.leaf) (.node none (.leaf) (.node none (.leaf) (.node (some [0, 1, 5]) (.leaf) (.node (some [0, 1]) (.leaf) (.node none (.leaf) (.node (some [1, 23]) (.leaf) (.node none (.leaf) (.node (some [1, 23, 25]) (.node none (.leaf) (.loop [1, 23] [(25, .slice), (184, .int .i64)] (.node none (.leaf) (.node none (.leaf) (.node (some [1, 23, 25, 184]) (.leaf) (.leaf)))))) (.node none (.leaf) (.node none (.leaf) (.node none (.leaf) (.node none (.leaf) (.node (some [23]) (.leaf) (.leaf)))))))))))))))))))))
def l43_BtreeFull_K0  (K : Value → Hp → Prop) : Exit → Env → Hp → Prop := retK Try.prog Try.f7.results.toList K
def l43_BtreeFull_K1  (K : Value → Hp → Prop) : Exit → Env → Hp → Prop := thenE (fun env h => sx_2 Try.prog F 287 (cp [1, 1, 1, 1, 1, 1, 1, 1, 1, 1, 1, 1, 1, 1, 1, 1] (bodyOf Try.f7)) (ap [1, 1, 1, 1, 1, 1, 1, 1, 1, 1, 1, 1, 1, 1, 1, 1] l43_BtreeFull_an) (rs [1, 23, 25] env) h (l43_BtreeFull_K0  K)) (l43_BtreeFull_K0  K)
def l43_BtreeFull_K2  (K : Value → Hp → Prop) : Exit → Env → Hp → Prop := blockE 0 (l43_BtreeFull_K1  K)
def l43_BtreeFull_K3 (nx0 : (Option Addr × Nat × Nat) × Int × Unit → Hp → Prop) (K : Value → Hp → Prop) : Exit → Env → Hp → Prop := thenE (fun env h => getV [(25, .slice), (184, .int .i64)] env fun s => nx0 s h) (l43_BtreeFull_K2  K)
def l43_BtreeFull_b0 (order : Int) (key : Int) (h : Hp)  (K : Value → Hp → Prop) : Prop :=
  sx_6 Try.prog F 287 (cp [] (bodyOf Try.f7)) (ap [] l43_BtreeFull_an) [(0, .int .u8 order), (1, .int .u16 key)] h (l43_BtreeFull_K0  K)
def l43_BtreeFull_b1 (order : Int) (key : Int) (no : Option Addr) (h : Hp)  (K : Value → Hp → Prop) : Prop :=
  sx_5 Try.prog F 287 (cp [1, 1, 1, 1, 1, 1, 1, 1, 1, 1, 1] (bodyOf Try.f7)) (ap [1, 1, 1, 1, 1, 1, 1, 1, 1, 1, 1] l43_BtreeFull_an) [(0, .int .u8 order), (1, .int .u16 key), (5, .pointer no)] h (l43_BtreeFull_K0  K)
def l43_BtreeFull_b2 (order : Int) (key : Int) (h : Hp)  (K : Value → Hp → Prop) : Prop :=
  sx_4 Try.prog F 287 (cp [1, 1, 1, 1, 1, 1, 1, 1, 1, 1, 1, 1] (bodyOf Try.f7)) (ap [1, 1, 1, 1, 1, 1, 1, 1, 1, 1, 1, 1] l43_BtreeFull_an) [(0, .int .u8 order), (1, .int .u16 key)] h (l43_BtreeFull_K0  K)
def l43_BtreeFull_b3 (key : Int) (t : Option Addr) (h : Hp)  (K : Value → Hp → Prop) : Prop :=
  sx_3 Try.prog F 287 (cp [1, 1, 1, 1, 1, 1, 1, 1, 1, 1, 1, 1, 1, 1] (bodyOf Try.f7)) (ap [1, 1, 1, 1, 1, 1, 1, 1, 1, 1, 1, 1, 1, 1] l43_BtreeFull_an) [(1, .int .u16 key), (23, .pointer t)] h (l43_BtreeFull_K0  K)
def l43_BtreeFull_b4 (l : Option Addr) (lL : Nat) (lC : Nat) (t184 : Int) (key : Int) (t : Option Addr) (h : Hp) (nx0 : (Option Addr × Nat × Nat) × Int × Unit → Hp → Prop) (K : Value → Hp → Prop) : Prop :=
  sx_2 Try.prog F 287 (cp [1, 1, 1, 1, 1, 1, 1, 1, 1, 1, 1, 1, 1, 1, 1, 0, 1, 2, 2] (bodyOf Try.f7)) (ap [1, 1, 1, 1, 1, 1, 1, 1, 1, 1, 1, 1, 1, 1, 1, 0, 1, 2] l43_BtreeFull_an) [(25, .slice l lL lC), (184, .int .i64 t184), (1, .int .u16 key), (23, .pointer t)] h (l43_BtreeFull_K3 nx0 K)
def l43_BtreeFull_b5 (key : Int) (t : Option Addr) (l : Option Addr) (lL : Nat) (lC : Nat) (t184 : Int) (h : Hp) (nx0 : (Option Addr × Nat × Nat) × Int × Unit → Hp → Prop) (K : Value → Hp → Prop) : Prop :=
  sx_1 Try.prog F 287 (cp [1, 1, 1, 1, 1, 1, 1, 1, 1, 1, 1, 1, 1, 1, 1, 0, 1, 2, 2, 1, 1, 1] (bodyOf Try.f7)) (ap [1, 1, 1, 1, 1, 1, 1, 1, 1, 1, 1, 1, 1, 1, 1, 0, 1, 2, 1, 1, 1] l43_BtreeFull_an) [(1, .int .u16 key), (23, .pointer t), (25, .slice l lL lC), (184, .int .i64 t184)] h (l43_BtreeFull_K3 nx0 K)
def l43_BtreeFull_b6 (key : Int) (t : Option Addr) (l : Option Addr) (lL : Nat) (lC : Nat) (h : Hp)  (K : Value → Hp → Prop) : Prop :=
  sx_2 Try.prog F 287 (cp [1, 1, 1, 1, 1, 1, 1, 1, 1, 1, 1, 1, 1, 1, 1, 1] (bodyOf Try.f7)) (ap [1, 1, 1, 1, 1, 1, 1, 1, 1, 1, 1, 1, 1, 1, 1, 1] l43_BtreeFull_an) [(1, .int .u16 key), (23, .pointer t), (25, .slice l lL lC)] h (l43_BtreeFull_K0  K)
def l43_BtreeFull_b7 (t : Option Addr) (h : Hp)  (K : Value → Hp → Prop) : Prop :=
  sx_1 Try.prog F 287 (cp [1, 1, 1, 1, 1, 1, 1, 1, 1, 1, 1, 1, 1, 1, 1, 1, 1, 1, 1, 1, 1] (bodyOf Try.f7)) (ap [1, 1, 1, 1, 1, 1, 1, 1, 1, 1, 1, 1, 1, 1, 1, 1, 1, 1, 1, 1, 1] l43_BtreeFull_an) [(23, .pointer t)] h (l43_BtreeFull_K0  K)
theorem l43_BtreeFull_b0_eq (order : Int) (key : Int) (h : Hp)  (K : Value → Hp → Prop) : l43_BtreeFull_b0 order key h  K = (
  HCalls Try.prog 8 #[] h fun v1 h1 => ∃ r1 : Bool, v1 = .bool r1 ∧
  cond (!r1)
  (K (.bool false) h1)
  (HCalls Try.prog 10 #[.pointer none, .int .i64 1, .int .i64 1] h1 fun v2 h2 => ∃ r2 : Int, ∃ r3 : Bool, ∃ r4 : Int, v2 = .tuple #[.int .i64 r2, .bool r3, .int .i64 r4] ∧
  HCalls Try.prog 29 #[.pointer none, .int .i64 1] h2 fun v3 h3 => ∃ r5 : Int, ∃ r6 : Int, v3 = .tuple #[.int .i64 r5, .int .i64 r6] ∧
  HCalls Try.prog 19 #[.pointer none, .int .i64 1] h3 fun v4 h4 => ∃ r7 : Int, ∃ r8 : Int, v4 = .tuple #[.int .i64 r7, .int .i64 r8] ∧
  HCalls Try.prog 30 #[.pointer none, .int .i64 1] h4 fun v5 h5 => ∃ r9 : Int, ∃ r10 : Int, ∃ r11 : Int, v5 = .tuple #[.int .i64 r9, .int .i64 r10, .int .i64 r11] ∧
  HCalls Try.prog 31 #[.pointer none, .int .i64 1] h5 fun v6 h6 => ∃ r12 : Int, ∃ r13 : Int, ∃ r14 : Int, v6 = .tuple #[.int .i64 r12, .int .i64 r13, .int .i64 r14] ∧
  HCalls Try.prog 14 #[.pointer none, .int .i64 1, .int .i64 2] h6 fun v7 h7 => ∃ (r15 : Option Addr) (rL1 rC1 : Nat), ∃ r16 : Int, v7 = .tuple #[.slice r15 rL1 rC1, .int .i64 r16] ∧
  HCalls Try.prog 25 #[.pointer none, .agg #[.int .i64 8, .slice none 0 0]] h7 fun v8 h8 => ∃ r17 : Int, ∃ r18 : Int, ∃ (r19 : Option Addr) (rL2 rC2 : Nat), ∃ r20 : Int, v8 = .tuple #[.agg #[.int .i64 r17, .int .i64 r18, .slice r19 rL2 rC2], .int .i64 r20] ∧
  New h8 (.cells #[.int .i64 0, .int .i64 0, .slice none 0 0] 61) fun b1 h9 =>
  Wr h9 ⟨b1, 0, none⟩ (.int .i64 r17) fun h10 =>
  Wr h10 ((⟨b1, 0, none⟩ : Addr).add 1) (.int .i64 r18) fun h11 =>
  Wr h11 ((⟨b1, 0, none⟩ : Addr).add 2) (.slice r19 rL2 rC2) fun h12 =>
  cond (!decide (r2 = 0))
  (K (.bool false) h12)
  (cond r3
  (K (.bool false) h12)
  (cond (!decide (r4 = 1))
  (K (.bool false) h12)
  (cond (!decide (r5 = 0))
  (K (.bool false) h12)
  (cond (!decide (r6 = 1))
  (K (.bool false) h12)
  (cond (!decide (r7 = 0))
  (K (.bool false) h12)
  (cond (!decide (r8 = 1))
  (K (.bool false) h12)
  (cond (!decide (r9 = 0))
  (K (.bool false) h12)
  (cond (!decide (r10 = 0))
  (K (.bool false) h12)
  (cond (!decide (r11 = 1))
  (K (.bool false) h12)
  (cond (!decide (r12 = 0))
  (K (.bool false) h12)
  (cond (!decide (r13 = 0))
  (K (.bool false) h12)
  (cond (!decide (r14 = 1))
  (K (.bool false) h12)
  (cond (!decide ((rL1 : Int) = 0))
  (K (.bool false) h12)
  (cond (!decide (r16 = 1))
  (K (.bool false) h12)
  (∃ n1 : Int, ∃ n2 : Int, ∃ (a1 : Option Addr) (L1 C1 : Nat), cell h12 ⟨b1, 0, none⟩ = some (.int .i64 n1) ∧
  cell h12 ((⟨b1, 0, none⟩ : Addr).add 1) = some (.int .i64 n2) ∧
  cell h12 ((⟨b1, 0, none⟩ : Addr).add 2) = some (.slice a1 L1 C1) ∧
  HCalls Try.prog 27 #[.agg #[.int .i64 n1, .int .i64 n2, .slice a1 L1 C1], .agg #[.int .i64 0, .int .i64 0, .slice none 0 0]] h12 fun v9 h13 => ∃ r21 : Bool, v9 = .bool r21 ∧
  cond (!r21)
  (K (.bool false) h13)
  (cond (!decide (r20 = 1))
  (K (.bool false) h13)
  (l43_BtreeFull_b1 order key none h13  K))))))))))))))))))) := by kernel_rfl
theorem l43_BtreeFull_b1_eq (order : Int) (key : Int) (no : Option Addr) (h : Hp)  (K : Value → Hp → Prop) : l43_BtreeFull_b1 order key no h  K = (
  HCalls Try.prog 11 #[.pointer no, .slice none 0 0] h fun v10 h14 => ∃ r22 : Int, v10 = .int .i64 r22 ∧
  cond (!decide (r22 = 1))
  (K (.bool false) h14)
  (HCalls Try.prog 13 #[.pointer no] h14 fun v11 h15 => ∃ r23 : Int, v11 = .int .i64 r23 ∧
  cond (!decide (r23 = 0))
  (K (.bool false) h15)
  (HCalls Try.prog 20 #[.pointer no] h15 fun v12 h16 => ∃ r24 : Int, v12 = .int .i64 r24 ∧
  cond (!decide (r24 = 0))
  (K (.bool false) h16)
  (HCalls Try.prog 16 #[.pointer no] h16 fun v13 h17 => ∃ (r25 : Option Addr) (rL3 rC3 : Nat), v13 = .slice r25 rL3 rC3 ∧
  cond (!decide ((rL3 : Int) = 0))
  (K (.bool false) h17)
  (HCalls Try.prog 32 #[.pointer no] h17 fun v14 h18 => ∃ r26 : Int, v14 = .int .i64 r26 ∧
  cond (!decide (r26 = 0))
  (K (.bool false) h18)
  (l43_BtreeFull_b2 order key h18  K)))))) := by kernel_rfl
theorem l43_BtreeFull_b2_eq (order : Int) (key : Int) (h : Hp)  (K : Value → Hp → Prop) : l43_BtreeFull_b2 order key h  K = (
  InR order ∧
  ∃ r27 : Int, Sx.Rem order 30 r27 ∧
  InR (3 + r27) ∧
  HCalls Try.prog 9 #[.int .i64 (3 + r27)] h fun v15 h19 => ∃ r28 : Option Addr, ∃ r29 : Int, v15 = .tuple #[.pointer r28, .int .i64 r29] ∧
  cond r28.isNone
  (K (.bool false) h19)
  (cond (!decide (r29 = 0))
  (K (.bool false) h19)
  (l43_BtreeFull_b3 key r28 h19  K))) := by kernel_rfl
theorem l43_BtreeFull_b3_eq (key : Int) (t : Option Addr) (h : Hp)  (K : Value → Hp → Prop) : l43_BtreeFull_b3 key t h  K = (
  LoopVC (((none, 0, 0), 0, ()) : (Option Addr × Nat × Nat) × Int × Unit) h (fun (nx0 : (Option Addr × Nat × Nat) × Int × Unit → Hp → Prop) (s1 : (Option Addr × Nat × Nat) × Int × Unit) h20 => l43_BtreeFull_b4 s1.1.1 s1.1.2.1 s1.1.2.2 s1.2.1 key t h20 nx0 K)) := by kernel_rfl
theorem l43_BtreeFull_b4_eq (l : Option Addr) (lL : Nat) (lC : Nat) (t184 : Int) (key : Int) (t : Option Addr) (h : Hp) (nx0 : (Option Addr × Nat × Nat) × Int × Unit → Hp → Prop) (K : Value → Hp → Prop) : l43_BtreeFull_b4 l lL lC t184 key t h nx0 K = (
  cond (decide (t184 < 2000))
  (InR (2 * t184) ∧
  New h (.cells #[.int .i64 (2 * t184), .int .i64 t184] 40) fun b2 h21 =>
  appendV Try.prog 22 22 (.slice l lL lC) (.slice (some ⟨b2, 0, none⟩) 1 1) h21 (slK fun a2 l1 c1 h22 =>
  l43_BtreeFull_b5 key t a2 l1 c1 t184 h22 nx0 K))
  (l43_BtreeFull_b6 key t l lL lC h  K)) := by kernel_rfl
theorem l43_BtreeFull_b5_eq (key : Int) (t : Option Addr) (l : Option Addr) (lL : Nat) (lC : Nat) (t184 : Int) (h : Hp) (nx0 : (Option Addr × Nat × Nat) × Int × Unit → Hp → Prop) (K : Value → Hp → Prop) : l43_BtreeFull_b5 key t l lL lC t184 h nx0 K = (
  InR (t184 + 1) ∧
  nx0 ((l, lL, lC), t184 + 1, ()) h) := by kernel_rfl
theorem l43_BtreeFull_b6_eq (key : Int) (t : Option Addr) (l : Option Addr) (lL : Nat) (lC : Nat) (h : Hp)  (K : Value → Hp → Prop) : l43_BtreeFull_b6 key t l lL lC h  K = (
  HCalls Try.prog 11 #[.pointer t, .slice l lL lC] h fun v16 h23 => ∃ r30 : Int, v16 = .int .i64 r30 ∧
  cond (!decide (r30 = 0))
  (K (.bool false) h23)
  (InR key ∧
  InR (2 * key) ∧
  InR ((2 * key) + 1) ∧
  HCalls Try.prog 10 #[.pointer t, .int .i64 ((2 * key) + 1), .int .i64 0] h23 fun v17 h24 => ∃ r31 : Int, ∃ r32 : Bool, ∃ r33 : Int, v17 = .tuple #[.int .i64 r31, .bool r32, .int .i64 r33] ∧
  InR key ∧
  ∃ r34 : Int, Sx.Rem key 2000 r34 ∧
  InR (2 * r34) ∧
  HCalls Try.prog 10 #[.pointer t, .int .i64 (2 * r34), .int .i64 7] h24 fun v18 h25 => ∃ r35 : Int, ∃ r36 : Bool, ∃ r37 : Int, v18 = .tuple #[.int .i64 r35, .bool r36, .int .i64 r37] ∧
  InR key ∧
  ∃ r38 : Int, Sx.Rem key 2000 r38 ∧
  InR (2 * r38) ∧
  HCalls Try.prog 29 #[.pointer t, .int .i64 (2 * r38)] h25 fun v19 h26 => ∃ r39 : Int, ∃ r40 : Int, v19 = .tuple #[.int .i64 r39, .int .i64 r40] ∧
  cond r32
  (K (.bool false) h26)
  (cond (!decide (r33 = 4))
  (K (.bool false) h26)
  (cond (!r36)
  (K (.bool false) h26)
  (cond (!decide (r37 = 0))
  (K (.bool false) h26)
  (InR key ∧
  ∃ r41 : Int, Sx.Rem key 2000 r41 ∧
  cond (!decide (r35 = r41))
  (K (.bool false) h26)
  (cond (!decide (r39 = 7))
  (K (.bool false) h26)
  (cond (!decide (r40 = 0))
  (K (.bool false) h26)
  (HCalls Try.prog 13 #[.pointer t] h26 fun v20 h27 => ∃ r42 : Int, v20 = .int .i64 r42 ∧
  cond (!decide (r42 = 2000))
  (K (.bool false) h27)
  (l43_BtreeFull_b7 t h27  K)))))))))) := by kernel_rfl
theorem l43_BtreeFull_b7_eq (t : Option Addr) (h : Hp)  (K : Value → Hp → Prop) : l43_BtreeFull_b7 t h  K = (
  HCalls Try.prog 14 #[.pointer t, .int .i64 0, .int .i64 2001] h fun v21 h28 => ∃ (r43 : Option Addr) (rL4 rC4 : Nat), ∃ r44 : Int, v21 = .tuple #[.slice r43 rL4 rC4, .int .i64 r44] ∧
  HCalls Try.prog 14 #[.pointer t, .int .i64 0, .int .i64 2000] h28 fun v22 h29 => ∃ (r45 : Option Addr) (rL5 rC5 : Nat), ∃ r46 : Int, v22 = .tuple #[.slice r45 rL5 rC5, .int .i64 r46] ∧
  cond (decide ((rL4 : Int) = 0))
  (cond (decide (r44 = 4))
  (cond (decide ((rL5 : Int) = 1000))
  (K (.bool (decide (r46 = 0))) h29)
  (K (.bool false) h29))
  (K (.bool false) h29))
  (K (.bool false) h29)) := by kernel_rfl
theorem l43_BtreeFull_call {order : Int} {key : Int} {h : Hp} {K : Value → Hp → Prop} (hk : l43_BtreeFull_b0 order key h K) : HCalls Try.prog 7 #[.int .u8 order, .int .u16 key] h K :=
  calls_of_snd l43_BtreeFull_an Try.func7 (c := bodyOf Try.f7) rfl Try.ntmps7 (Nat.le_of_ble_eq_true rfl) (snd_6 F_ok F_mixed) hk

/-! ### l43_awake -/
def l43_awake_an : Ann := .node none (.leaf) (.node none (.leaf) (.node (some [1]) (.leaf) (.node (some [1]) (.node none (.leaf) (.loop [1] [(3, .int .i64)] (.node none (.leaf) (.node (some [1, 3]) (.leaf) (.leaf))))) (.leaf))))
def l43_awake_K0  (K : Value → Hp → Prop) : Exit → Env → Hp → Prop := retK Try.prog Try.f8.results.toList K
def l43_awake_K1  (K : Value → Hp → Prop) : Exit → Env → Hp → Prop := thenE (fun env h => sx_2 Try.prog F 69 (cp [1, 1, 1, 1] (bodyOf Try.f8)) (ap [1, 1, 1, 1] l43_awake_an) (rs [1] env) h (l43_awake_K0  K)) (l43_awake_K0  K)
def l43_awake_K2  (K : Value → Hp → Prop) : Exit → Env → Hp → Prop := blockE 0 (l43_awake_K1  K)
def l43_awake_K3 (nx0 : Int × Unit → Hp → Prop) (K : Value → Hp → Prop) : Exit → Env → Hp → Prop := thenE (fun env h => getV [(3, .int .i64)] env fun s => nx0 s h) (l43_awake_K2  K)
def l43_awake_b0  (h : Hp)  (K : Value → Hp → Prop) : Prop :=
  sx_4 Try.prog F 69 (cp [] (bodyOf Try.f8)) (ap [] l43_awake_an) [] h (l43_awake_K0  K)
def l43_awake_b1 (t : Option Addr) (h : Hp)  (K : Value → Hp → Prop) : Prop :=
  sx_3 Try.prog F 69 (cp [1, 1, 1] (bodyOf Try.f8)) (ap [1, 1, 1] l43_awake_an) [(1, .pointer t)] h (l43_awake_K0  K)
def l43_awake_b2 (k : Int) (t : Option Addr) (h : Hp) (nx0 : Int × Unit → Hp → Prop) (K : Value → Hp → Prop) : Prop :=
  sx_2 Try.prog F 69 (cp [1, 1, 1, 0, 1, 2, 2] (bodyOf Try.f8)) (ap [1, 1, 1, 0, 1, 2] l43_awake_an) [(3, .int .i64 k), (1, .pointer t)] h (l43_awake_K3 nx0 K)
def l43_awake_b3 (t : Option Addr) (k : Int) (h : Hp) (nx0 : Int × Unit → Hp → Prop) (K : Value → Hp → Prop) : Prop :=
  sx_1 Try.prog F 69 (cp [1, 1, 1, 0, 1, 2, 2, 1, 1] (bodyOf Try.f8)) (ap [1, 1, 1, 0, 1, 2, 1, 1] l43_awake_an) [(1, .pointer t), (3, .int .i64 k)] h (l43_awake_K3 nx0 K)
def l43_awake_b4 (t : Option Addr) (h : Hp)  (K : Value → Hp → Prop) : Prop :=
  sx_2 Try.prog F 69 (cp [1, 1, 1, 1] (bodyOf Try.f8)) (ap [1, 1, 1, 1] l43_awake_an) [(1, .pointer t)] h (l43_awake_K0  K)
theorem l43_awake_b0_eq  (h : Hp)  (K : Value → Hp → Prop) : l43_awake_b0  h  K = (
  HCalls Try.prog 9 #[.int .i64 3] h fun v1 h1 => ∃ r1 : Option Addr, ∃ r2 : Int, v1 = .tuple #[.pointer r1, .int .i64 r2] ∧
  cond (!decide (r2 = 0))
  (K (.bool false) h1)
  (cond r1.isNone
  (K (.bool false) h1)
  (l43_awake_b1 r1 h1  K))) := by kernel_rfl
theorem l43_awake_b1_eq (t : Option Addr) (h : Hp)  (K : Value → Hp → Prop) : l43_awake_b1 t h  K = (
  LoopVC ((1, ()) : Int × Unit) h (fun (nx0 : Int × Unit → Hp → Prop) (s1 : Int × Unit) h2 => l43_awake_b2 s1.1 t h2 nx0 K)) := by kernel_rfl
theorem l43_awake_b2_eq (k : Int) (t : Option Addr) (h : Hp) (nx0 : Int × Unit → Hp → Prop) (K : Value → Hp → Prop) : l43_awake_b2 k t h nx0 K = (
  cond (decide (k ≤ 3))
  (InR (10 * k) ∧
  HCalls Try.prog 10 #[.pointer t, .int .i64 k, .int .i64 (10 * k)] h fun v2 h3 => ∃ r3 : Int, ∃ r4 : Bool, ∃ r5 : Int, v2 = .tuple #[.int .i64 r3, .bool r4, .int .i64 r5] ∧
  cond r4
  (K (.bool false) h3)
  (cond (!decide (r5 = 0))
  (K (.bool false) h3)
  (l43_awake_b3 t k h3 nx0 K)))
  (l43_awake_b4 t h  K)) := by kernel_rfl
theorem l43_awake_b3_eq (t : Option Addr) (k : Int) (h : Hp) (nx0 : Int × Unit → Hp → Prop) (K : Value → Hp → Prop) : l43_awake_b3 t k h nx0 K = (
  InR (k + 1) ∧
  nx0 (k + 1, ()) h) := by kernel_rfl
theorem l43_awake_b4_eq (t : Option Addr) (h : Hp)  (K : Value → Hp → Prop) : l43_awake_b4 t h  K = (
  HCalls Try.prog 29 #[.pointer t, .int .i64 2] h fun v3 h4 => ∃ r6 : Int, ∃ r7 : Int, v3 = .tuple #[.int .i64 r6, .int .i64 r7] ∧
  HCalls Try.prog 13 #[.pointer t] h4 fun v4 h5 => ∃ r8 : Int, v4 = .int .i64 r8 ∧
  cond (decide (r8 = 3))
  (HCalls Try.prog 20 #[.pointer t] h5 fun v5 h6 => ∃ r9 : Int, v5 = .int .i64 r9 ∧
  cond (decide (r9 = 2))
  (cond (decide (r6 = 20))
  (cond (decide (r7 = 0))
  (HCalls Try.prog 16 #[.pointer t] h6 fun v6 h7 => ∃ (r10 : Option Addr) (rL1 rC1 : Nat), v6 = .slice r10 rL1 rC1 ∧
  New h7 (.cells #[.int .i64 1, .int .i64 2, .int .i64 3] 3) fun b1 h8 =>
  HCalls Try.prog 15 #[.int .i64 3, .slice r10 rL1 rC1, .slice (some ⟨b1, 0, none⟩) 3 3] h8 fun v7 h9 => ∃ r11 : Bool, v7 = .bool r11 ∧
  cond r11
  (HCalls Try.prog 32 #[.pointer t] h9 fun v8 h10 => ∃ r12 : Int, v8 = .int .i64 r12 ∧
  K (.bool (decide ((0 : Int) < r12))) h10)
  (K (.bool false) h9))
  (K (.bool false) h6))
  (K (.bool false) h6))
  (K (.bool false) h6))
  (K (.bool false) h5)) := by kernel_rfl
theorem l43_awake_call  {h : Hp} {K : Value → Hp → Prop} (hk : l43_awake_b0  h K) : HCalls Try.prog 8 #[] h K :=
  calls_of_snd l43_awake_an Try.func8 (c := bodyOf Try.f8) rfl Try.ntmps8 (Nat.le_of_ble_eq_true rfl) (snd_4 F_ok F_mixed) hk

/-! ### btree_New -/
def btree_New_an : Ann := .node none (.leaf) (.node (some [0]) (.leaf) (.leaf))
def btree_New_K0  (K : Value → Hp → Prop) : Exit → Env → Hp → Prop := retK Try.prog Try.f9.results.toList K
def btree_New_b0 (order : Int) (h : Hp)  (K : Value → Hp → Prop) : Prop :=
  sx_2 Try.prog F 13 (cp [] (bodyOf Try.f9)) (ap [] btree_New_an) [(0, .int .i64 order)] h (btree_New_K0  K)
def btree_New_b1 (order : Int) (h : Hp)  (K : Value → Hp → Prop) : Prop :=
  sx_1 Try.prog F 13 (cp [1, 1] (bodyOf Try.f9)) (ap [1, 1] btree_New_an) [(0, .int .i64 order)] h (btree_New_K0  K)
theorem btree_New_b0_eq (order : Int) (h : Hp)  (K : Value → Hp → Prop) : btree_New_b0 order h  K = (
  cond (decide (order < 3))
  (K (.tuple #[.pointer none, .int .i64 2]) h)
  (cond (decide ((64 : Int) < order))
  (K (.tuple #[.pointer none, .int .i64 2]) h)
  (btree_New_b1 order h  K))) := by kernel_rfl
theorem btree_New_b1_eq (order : Int) (h : Hp)  (K : Value → Hp → Prop) : btree_New_b1 order h  K = (
  New h (.cells #[.int .i64 order, .int .i64 0, .pointer none, .int .i64 0] 75) fun b1 h1 =>
  K (.tuple #[.pointer (some ⟨b1, 0, none⟩), .int .i64 0]) h1) := by kernel_rfl
theorem btree_New_call {order : Int} {h : Hp} {K : Value → Hp → Prop} (hk : btree_New_b0 order h K) : HCalls Try.prog 9 #[.int .i64 order] h K :=
  calls_of_snd btree_New_an Try.func9 (c := bodyOf Try.f9) rfl Try.ntmps9 (Nat.le_of_ble_eq_true rfl) (snd_2 F_ok F_mixed) hk

/-! ### btree_Tree_Put -/
def btree_Tree_Put_an : Ann := .node none (.leaf) (.node (some [0, 1, 2]) (.leaf) (.leaf))
def btree_Tree_Put_K0  (K : Value → Hp → Prop) : Exit → Env → Hp → Prop := retK Try.prog Try.f10.results.toList K
def btree_Tree_Put_b0 (t : Option Addr) (key : Int) (value : Int) (h : Hp)  (K : Value → Hp → Prop) : Prop :=
  sx_2 Try.prog F 42 (cp [] (bodyOf Try.f10)) (ap [] btree_Tree_Put_an) [(0, .pointer t), (1, .int .i64 key), (2, .int .i64 value)] h (btree_Tree_Put_K0  K)
def btree_Tree_Put_b1 (t : Option Addr) (key : Int) (value : Int) (h : Hp)  (K : Value → Hp → Prop) : Prop :=
  sx_1 Try.prog F 42 (cp [1, 1] (bodyOf Try.f10)) (ap [1, 1] btree_Tree_Put_an) [(0, .pointer t), (1, .int .i64 key), (2, .int .i64 value)] h (btree_Tree_Put_K0  K)
theorem btree_Tree_Put_b0_eq (t : Option Addr) (key : Int) (value : Int) (h : Hp)  (K : Value → Hp → Prop) : btree_Tree_Put_b0 t key value h  K = (
  cond t.isNone
  (K (.tuple #[.int .i64 0, .bool false, .int .i64 1]) h)
  (New h (.cells #[.int .i64 key, .int .i64 value] 3) fun b1 h1 =>
  HCalls Try.prog 33 #[.slice (some ⟨b1, 0, none⟩) 2 2] h1 fun v1 h2 => ∃ r1 : Bool, v1 = .bool r1 ∧
  cond (!r1)
  (K (.tuple #[.int .i64 0, .bool false, .int .i64 1]) h2)
  (btree_Tree_Put_b1 t key value h2  K))) := by kernel_rfl
theorem btree_Tree_Put_b1_eq (t : Option Addr) (key : Int) (value : Int) (h : Hp)  (K : Value → Hp → Prop) : btree_Tree_Put_b1 t key value h  K = (
  HCalls Try.prog 34 #[.pointer t, .int .i64 key, .int .i64 value] h fun v2 h3 => ∃ r2 : Int, ∃ r3 : Bool, ∃ r4 : Int, ∃ r5 : Int, v2 = .tuple #[.int .i64 r2, .bool r3, .int .i64 r4, .int .i64 r5] ∧
  NN t fun a1 =>
  ∃ n1 : Int, cell h3 (a1.add 3) = some (.int .i64 n1) ∧
  InR (n1 + r4) ∧
  NN t fun a2 =>
  Wr h3 (a2.add 3) (.int .i64 (n1 + r4)) fun h4 =>
  K (.tuple #[.int .i64 r2, .bool r3, .int .i64 r5]) h4) := by kernel_rfl
theorem btree_Tree_Put_call {t : Option Addr} {key : Int} {value : Int} {h : Hp} {K : Value → Hp → Prop} (hk : btree_Tree_Put_b0 t key value h K) : HCalls Try.prog 10 #[.pointer t, .int .i64 key, .int .i64 value] h K :=
  calls_of_snd btree_Tree_Put_an Try.func10 (c := bodyOf Try.f10) rfl Try.ntmps10 (Nat.le_of_ble_eq_true rfl) (snd_2 F_ok F_mixed) hk

/-! ### btree_Tree_Load -/
def btree_Tree_Load_an : Ann := .node none (.leaf) (.node none (.leaf) (.node (some [0, 1]) (.node none (.leaf) (.loop [0, 1, 11, 12] [(13, .int .i64)] (.node none (.leaf) (.node none (.leaf) (.node (some [0, 1, 11, 12, 13]) (.node none (.leaf) (.node none (.plan (.qu 0 (.qu 1 (.qu 2 (.qu 3 (.wo 4 (.wo 5 (.qu 6 (.qu 7 (.qu 8 (.qu 9 (.qu 10 (.qu 11 (.qu 12 (.qu 13 (.qu 14 (.qu 15 (.qu 16 (.qu 17 (.qu 18 (.qu 19 (.qu 20 (.qu 21 .fin)))))))))))))))) .no) .no)))))) (.leaf))) (.leaf)))))) (.node (some [0, 1]) (.leaf) (.node (some []) (.node none (.leaf) (.loop [0, 51, 52] [(53, .int .i64)] (.node none (.leaf) (.node none (.leaf) (.node (some [0, 51, 52, 53]) (.leaf) (.leaf)))))) (.leaf)))))
def btree_Tree_Load_K0  (K : Value → Hp → Prop) : Exit → Env → Hp → Prop := retK Try.prog Try.f11.results.toList K
def btree_Tree_Load_K1  (K : Value → Hp → Prop) : Exit → Env → Hp → Prop := thenE (fun env h => sx_4 Try.prog F 64 (cp [1, 1, 1] (bodyOf Try.f11)) (ap [1, 1, 1] btree_Tree_Load_an) (rs [0, 1] env) h (btree_Tree_Load_K0  K)) (btree_Tree_Load_K0  K)
def btree_Tree_Load_K2  (K : Value → Hp → Prop) : Exit → Env → Hp → Prop := blockE 0 (btree_Tree_Load_K1  K)
def btree_Tree_Load_K3 (nx0 : Int × Unit → Hp → Prop) (K : Value → Hp → Prop) : Exit → Env → Hp → Prop := thenE (fun env h => getV [(13, .int .i64)] env fun s => nx0 s h) (btree_Tree_Load_K2  K)
def btree_Tree_Load_K4  (K : Value → Hp → Prop) : Exit → Env → Hp → Prop := thenE (fun env h => sx_2 Try.prog F 64 (cp [1, 1, 1, 1, 1] (bodyOf Try.f11)) (ap [1, 1, 1, 1, 1] btree_Tree_Load_an) (rs [] env) h (btree_Tree_Load_K0  K)) (btree_Tree_Load_K0  K)
def btree_Tree_Load_K5  (K : Value → Hp → Prop) : Exit → Env → Hp → Prop := blockE 3 (btree_Tree_Load_K4  K)
def btree_Tree_Load_K6 (nx0 : Int × Unit → Hp → Prop) (K : Value → Hp → Prop) : Exit → Env → Hp → Prop := thenE (fun env h => getV [(53, .int .i64)] env fun s => nx0 s h) (btree_Tree_Load_K5  K)
def btree_Tree_Load_b0 (t : Option Addr) (l : Option Addr) (lL : Nat) (lC : Nat) (h : Hp)  (K : Value → Hp → Prop) : Prop :=
  sx_5 Try.prog F 64 (cp [] (bodyOf Try.f11)) (ap [] btree_Tree_Load_an) [(0, .pointer t), (1, .slice l lL lC)] h (btree_Tree_Load_K0  K)
def btree_Tree_Load_b1 (t13 : Int) (t : Option Addr) (l : Option Addr) (lL : Nat) (lC : Nat) (t11 : Option Addr) (t11L : Nat) (t11C : Nat) (t12 : Int) (h : Hp) (nx0 : Int × Unit → Hp → Prop) (K : Value → Hp → Prop) : Prop :=
  sx_4 Try.prog F 64 (cp [1, 1, 0, 1, 2, 2] (bodyOf Try.f11)) (ap [1, 1, 0, 1, 2] btree_Tree_Load_an) [(13, .int .i64 t13), (0, .pointer t), (1, .slice l lL lC), (11, .slice t11 t11L t11C), (12, .int .i64 t12)] h (btree_Tree_Load_K3 nx0 K)
def btree_Tree_Load_b2 (t : Option Addr) (l : Option Addr) (lL : Nat) (lC : Nat) (t11 : Option Addr) (t11L : Nat) (t11C : Nat) (t12 : Int) (t13 : Int) (h : Hp) (nx0 : Int × Unit → Hp → Prop) (K : Value → Hp → Prop) : Prop :=
  sx_3 Try.prog F 64 (cp [1, 1, 0, 1, 2, 2, 1, 1, 1] (bodyOf Try.f11)) (ap [1, 1, 0, 1, 2, 1, 1, 1] btree_Tree_Load_an) [(0, .pointer t), (1, .slice l lL lC), (11, .slice t11 t11L t11C), (12, .int .i64 t12), (13, .int .i64 t13)] h (btree_Tree_Load_K3 nx0 K)
def btree_Tree_Load_b3 (t : Option Addr) (l : Option Addr) (lL : Nat) (lC : Nat) (h : Hp)  (K : Value → Hp → Prop) : Prop :=
  sx_4 Try.prog F 64 (cp [1, 1, 1] (bodyOf Try.f11)) (ap [1, 1, 1] btree_Tree_Load_an) [(0, .pointer t), (1, .slice l lL lC)] h (btree_Tree_Load_K0  K)
def btree_Tree_Load_b4 (t : Option Addr) (l : Option Addr) (lL : Nat) (lC : Nat) (h : Hp)  (K : Value → Hp → Prop) : Prop :=
  sx_3 Try.prog F 64 (cp [1, 1, 1, 1] (bodyOf Try.f11)) (ap [1, 1, 1, 1] btree_Tree_Load_an) [(0, .pointer t), (1, .slice l lL lC)] h (btree_Tree_Load_K0  K)
def btree_Tree_Load_b5 (t53 : Int) (t : Option Addr) (t51 : Option Addr) (t51L : Nat) (t51C : Nat) (t52 : Int) (h : Hp) (nx0 : Int × Unit → Hp → Prop) (K : Value → Hp → Prop) : Prop :=
  sx_2 Try.prog F 64 (cp [1, 1, 1, 1, 0, 1, 2, 2] (bodyOf Try.f11)) (ap [1, 1, 1, 1, 0, 1, 2] btree_Tree_Load_an) [(53, .int .i64 t53), (0, .pointer t), (51, .slice t51 t51L t51C), (52, .int .i64 t52)] h (btree_Tree_Load_K6 nx0 K)
def btree_Tree_Load_b6 (t : Option Addr) (t51 : Option Addr) (t51L : Nat) (t51C : Nat) (t52 : Int) (t53 : Int) (h : Hp) (nx0 : Int × Unit → Hp → Prop) (K : Value → Hp → Prop) : Prop :=
  sx_1 Try.prog F 64 (cp [1, 1, 1, 1, 0, 1, 2, 2, 1, 1, 1] (bodyOf Try.f11)) (ap [1, 1, 1, 1, 0, 1, 2, 1, 1, 1] btree_Tree_Load_an) [(0, .pointer t), (51, .slice t51 t51L t51C), (52, .int .i64 t52), (53, .int .i64 t53)] h (btree_Tree_Load_K6 nx0 K)
def btree_Tree_Load_b7  (h : Hp)  (K : Value → Hp → Prop) : Prop :=
  sx_2 Try.prog F 64 (cp [1, 1, 1, 1, 1] (bodyOf Try.f11)) (ap [1, 1, 1, 1, 1] btree_Tree_Load_an) [] h (btree_Tree_Load_K0  K)
theorem btree_Tree_Load_b0_eq (t : Option Addr) (l : Option Addr) (lL : Nat) (lC : Nat) (h : Hp)  (K : Value → Hp → Prop) : btree_Tree_Load_b0 t l lL lC h  K = (
  cond t.isNone
  (K (.int .i64 1) h)
  (LoopVC ((0, ()) : Int × Unit) h (fun (nx0 : Int × Unit → Hp → Prop) (s1 : Int × Unit) h1 => btree_Tree_Load_b1 s1.1 t l lL lC l lL lC (lL : Int) h1 nx0 K))) := by kernel_rfl
theorem btree_Tree_Load_b1_eq (t13 : Int) (t : Option Addr) (l : Option Addr) (lL : Nat) (lC : Nat) (t11 : Option Addr) (t11L : Nat) (t11C : Nat) (t12 : Int) (h : Hp) (nx0 : Int × Unit → Hp → Prop) (K : Value → Hp → Prop) : btree_Tree_Load_b1 t13 t l lL lC t11 t11L t11C t12 h nx0 K = (
  cond (decide (t13 < t12))
  ((0 ≤ t13 ∧ t13 < (t11L : Int)) ∧
  NN t11 fun a1 =>
  ∃ n1 : Int, ∃ n2 : Int, cell h (a1.add (Int.toNat t13 * 2)) = some (.int .i64 n1) ∧
  cell h ((a1.add (Int.toNat t13 * 2)).add 1) = some (.int .i64 n2) ∧
  New h (.cells #[.int .i64 0, .int .i64 0] 40) fun b1 h2 =>
  Wr h2 ⟨b1, 0, none⟩ (.int .i64 n1) fun h3 =>
  Wr h3 ((⟨b1, 0, none⟩ : Addr).add 1) (.int .i64 n2) fun h4 =>
  (0 ≤ (0 : Int) ∧ (0 : Int) < ((2 : Nat) : Int)) ∧
  ∃ n3 : Int, cell h4 ((⟨b1, 0, none⟩ : Addr).add (Int.toNat (0 : Int) * 1)) = some (.int .i64 n3) ∧
  (0 ≤ (1 : Int) ∧ (1 : Int) < ((2 : Nat) : Int)) ∧
  ∃ n4 : Int, cell h4 ((⟨b1, 0, none⟩ : Addr).add (Int.toNat (1 : Int) * 1)) = some (.int .i64 n4) ∧
  New h4 (.cells #[.int .i64 n3, .int .i64 n4] 3) fun b2 h5 =>
  HCalls Try.prog 33 #[.slice (some ⟨b2, 0, none⟩) 2 2] h5 fun v1 h6 => ∃ r1 : Bool, v1 = .bool r1 ∧
  cond (!r1)
  (K (.int .i64 1) h6)
  (cond (decide ((0 : Int) < t13))
  (InR (t13 - 1) ∧
  (0 ≤ t13 - 1 ∧ t13 - 1 < (lL : Int)) ∧
  NN l fun a2 =>
  (0 ≤ (0 : Int) ∧ (0 : Int) < ((2 : Nat) : Int)) ∧
  ∃ n5 : Int, cell h6 ((a2.add (Int.toNat (t13 - 1) * 2)).add (Int.toNat (0 : Int) * 1)) = some (.int .i64 n5) ∧
  (0 ≤ (0 : Int) ∧ (0 : Int) < ((2 : Nat) : Int)) ∧
  ∃ n6 : Int, cell h6 ((⟨b1, 0, none⟩ : Addr).add (Int.toNat (0 : Int) * 1)) = some (.int .i64 n6) ∧
  cond (decide (n6 ≤ n5))
  (K (.int .i64 1) h6)
  (btree_Tree_Load_b2 t l lL lC t11 t11L t11C t12 t13 h6 nx0 K))
  (btree_Tree_Load_b2 t l lL lC t11 t11L t11C t12 t13 h6 nx0 K)))
  (btree_Tree_Load_b3 t l lL lC h  K)) := by kernel_rfl
theorem btree_Tree_Load_b2_eq (t : Option Addr) (l : Option Addr) (lL : Nat) (lC : Nat) (t11 : Option Addr) (t11L : Nat) (t11C : Nat) (t12 : Int) (t13 : Int) (h : Hp) (nx0 : Int × Unit → Hp → Prop) (K : Value → Hp → Prop) : btree_Tree_Load_b2 t l lL lC t11 t11L t11C t12 t13 h nx0 K = (
  InR (t13 + 1) ∧
  nx0 (t13 + 1, ()) h) := by kernel_rfl
theorem btree_Tree_Load_b3_eq (t : Option Addr) (l : Option Addr) (lL : Nat) (lC : Nat) (h : Hp)  (K : Value → Hp → Prop) : btree_Tree_Load_b3 t l lL lC h  K = (
  cond (decide ((2000 : Int) < (lL : Int)))
  (K (.int .i64 4) h)
  (NN t fun a3 =>
  ∃ n7 : Int, cell h (a3.add 1) = some (.int .i64 n7) ∧
  cond (decide ((0 : Int) < n7))
  (K (.int .i64 13) h)
  (btree_Tree_Load_b4 t l lL lC h  K))) := by kernel_rfl
theorem btree_Tree_Load_b4_eq (t : Option Addr) (l : Option Addr) (lL : Nat) (lC : Nat) (h : Hp)  (K : Value → Hp → Prop) : btree_Tree_Load_b4 t l lL lC h  K = (
  LoopVC ((0, ()) : Int × Unit) h (fun (nx0 : Int × Unit → Hp → Prop) (s2 : Int × Unit) h7 => btree_Tree_Load_b5 s2.1 t l lL lC (lL : Int) h7 nx0 K)) := by kernel_rfl
theorem btree_Tree_Load_b5_eq (t53 : Int) (t : Option Addr) (t51 : Option Addr) (t51L : Nat) (t51C : Nat) (t52 : Int) (h : Hp) (nx0 : Int × Unit → Hp → Prop) (K : Value → Hp → Prop) : btree_Tree_Load_b5 t53 t t51 t51L t51C t52 h nx0 K = (
  cond (decide (t53 < t52))
  ((0 ≤ t53 ∧ t53 < (t51L : Int)) ∧
  NN t51 fun a4 =>
  ∃ n8 : Int, ∃ n9 : Int, cell h (a4.add (Int.toNat t53 * 2)) = some (.int .i64 n8) ∧
  cell h ((a4.add (Int.toNat t53 * 2)).add 1) = some (.int .i64 n9) ∧
  New h (.cells #[.int .i64 0, .int .i64 0] 40) fun b3 h8 =>
  Wr h8 ⟨b3, 0, none⟩ (.int .i64 n8) fun h9 =>
  Wr h9 ((⟨b3, 0, none⟩ : Addr).add 1) (.int .i64 n9) fun h10 =>
  (0 ≤ (0 : Int) ∧ (0 : Int) < ((2 : Nat) : Int)) ∧
  ∃ n10 : Int, cell h10 ((⟨b3, 0, none⟩ : Addr).add (Int.toNat (0 : Int) * 1)) = some (.int .i64 n10) ∧
  (0 ≤ (1 : Int) ∧ (1 : Int) < ((2 : Nat) : Int)) ∧
  ∃ n11 : Int, cell h10 ((⟨b3, 0, none⟩ : Addr).add (Int.toNat (1 : Int) * 1)) = some (.int .i64 n11) ∧
  HCalls Try.prog 34 #[.pointer t, .int .i64 n10, .int .i64 n11] h10 fun v2 h11 => ∃ r2 : Int, ∃ r3 : Bool, ∃ r4 : Int, ∃ r5 : Int, v2 = .tuple #[.int .i64 r2, .bool r3, .int .i64 r4, .int .i64 r5] ∧
  btree_Tree_Load_b6 t t51 t51L t51C t52 t53 h11 nx0 K)
  (btree_Tree_Load_b7  h  K)) := by kernel_rfl
theorem btree_Tree_Load_b6_eq (t : Option Addr) (t51 : Option Addr) (t51L : Nat) (t51C : Nat) (t52 : Int) (t53 : Int) (h : Hp) (nx0 : Int × Unit → Hp → Prop) (K : Value → Hp → Prop) : btree_Tree_Load_b6 t t51 t51L t51C t52 t53 h nx0 K = (
  InR (t53 + 1) ∧
  nx0 (t53 + 1, ()) h) := by kernel_rfl
theorem btree_Tree_Load_b7_eq  (h : Hp)  (K : Value → Hp → Prop) : btree_Tree_Load_b7  h  K = (
  K (.int .i64 0) h) := by kernel_rfl
theorem btree_Tree_Load_call {t : Option Addr} {l : Option Addr} {lL : Nat} {lC : Nat} {h : Hp} {K : Value → Hp → Prop} (hk : btree_Tree_Load_b0 t l lL lC h K) : HCalls Try.prog 11 #[.pointer t, .slice l lL lC] h K :=
  calls_of_snd btree_Tree_Load_an Try.func11 (c := bodyOf Try.f11) rfl Try.ntmps11 (Nat.le_of_ble_eq_true rfl) (snd_5 F_ok F_mixed) hk

/-! ### r43_Loaded -/
def r43_Loaded_an : Ann := .node none (.leaf) (.node (some [0]) (.node none (.leaf) (.loop [0] [(3, .int .i64)] (.node none (.leaf) (.node (some [0, 3]) (.leaf) (.leaf))))) (.leaf))
def r43_Loaded_K0  (K : Value → Hp → Prop) : Exit → Env → Hp → Prop := retK Try.prog Try.f12.results.toList K
def r43_Loaded_K1  (K : Value → Hp → Prop) : Exit → Env → Hp → Prop := thenE (fun env h => sx_2 Try.prog F 47 (cp [1, 1] (bodyOf Try.f12)) (ap [1, 1] r43_Loaded_an) (rs [0] env) h (r43_Loaded_K0  K)) (r43_Loaded_K0  K)
def r43_Loaded_K2  (K : Value → Hp → Prop) : Exit → Env → Hp → Prop := blockE 0 (r43_Loaded_K1  K)
def r43_Loaded_K3 (nx0 : Int × Unit → Hp → Prop) (K : Value → Hp → Prop) : Exit → Env → Hp → Prop := thenE (fun env h => getV [(3, .int .i64)] env fun s => nx0 s h) (r43_Loaded_K2  K)
def r43_Loaded_b0 (l : Option Addr) (lL : Nat) (lC : Nat) (h : Hp)  (K : Value → Hp → Prop) : Prop :=
  sx_3 Try.prog F 47 (cp [] (bodyOf Try.f12)) (ap [] r43_Loaded_an) [(0, .slice l lL lC)] h (r43_Loaded_K0  K)
def r43_Loaded_b1 (i : Int) (l : Option Addr) (lL : Nat) (lC : Nat) (h : Hp) (nx0 : Int × Unit → Hp → Prop) (K : Value → Hp → Prop) : Prop :=
  sx_2 Try.prog F 47 (cp [1, 0, 1, 2, 2] (bodyOf Try.f12)) (ap [1, 0, 1, 2] r43_Loaded_an) [(3, .int .i64 i), (0, .slice l lL lC)] h (r43_Loaded_K3 nx0 K)
def r43_Loaded_b2 (l : Option Addr) (lL : Nat) (lC : Nat) (i : Int) (h : Hp) (nx0 : Int × Unit → Hp → Prop) (K : Value → Hp → Prop) : Prop :=
  sx_1 Try.prog F 47 (cp [1, 0, 1, 2, 2, 1, 1] (bodyOf Try.f12)) (ap [1, 0, 1, 2, 1, 1] r43_Loaded_an) [(0, .slice l lL lC), (3, .int .i64 i)] h (r43_Loaded_K3 nx0 K)
def r43_Loaded_b3 (l : Option Addr) (lL : Nat) (lC : Nat) (h : Hp)  (K : Value → Hp → Prop) : Prop :=
  sx_2 Try.prog F 47 (cp [1, 1] (bodyOf Try.f12)) (ap [1, 1] r43_Loaded_an) [(0, .slice l lL lC)] h (r43_Loaded_K0  K)
theorem r43_Loaded_b0_eq (l : Option Addr) (lL : Nat) (lC : Nat) (h : Hp)  (K : Value → Hp → Prop) : r43_Loaded_b0 l lL lC h  K = (
  LoopVC ((0, ()) : Int × Unit) h (fun (nx0 : Int × Unit → Hp → Prop) (s1 : Int × Unit) h1 => r43_Loaded_b1 s1.1 l lL lC h1 nx0 K)) := by kernel_rfl
theorem r43_Loaded_b1_eq (i : Int) (l : Option Addr) (lL : Nat) (lC : Nat) (h : Hp) (nx0 : Int × Unit → Hp → Prop) (K : Value → Hp → Prop) : r43_Loaded_b1 i l lL lC h nx0 K = (
  cond (decide (i < (lL : Int)))
  ((0 ≤ i ∧ i < (lL : Int)) ∧
  NN l fun a1 =>
  (0 ≤ (0 : Int) ∧ (0 : Int) < ((2 : Nat) : Int)) ∧
  ∃ n1 : Int, cell h ((a1.add (Int.toNat i * 2)).add (Int.toNat (0 : Int) * 1)) = some (.int .i64 n1) ∧
  ∃ r1 : Bool, HCalls Try.prog 35 #[.int .i64 n1] h (fun v1 h2 => v1 = .bool r1 ∧ h2 = h) ∧
  cond (!r1)
  (K (.int .i64 1) h)
  ((0 ≤ i ∧ i < (lL : Int)) ∧
  NN l fun a2 =>
  (0 ≤ (1 : Int) ∧ (1 : Int) < ((2 : Nat) : Int)) ∧
  ∃ n2 : Int, cell h ((a2.add (Int.toNat i * 2)).add (Int.toNat (1 : Int) * 1)) = some (.int .i64 n2) ∧
  ∃ r2 : Bool, HCalls Try.prog 35 #[.int .i64 n2] h (fun v2 h3 => v2 = .bool r2 ∧ h3 = h) ∧
  cond (!r2)
  (K (.int .i64 1) h)
  (cond (decide ((0 : Int) < i))
  (InR (i - 1) ∧
  (0 ≤ i - 1 ∧ i - 1 < (lL : Int)) ∧
  NN l fun a3 =>
  (0 ≤ (0 : Int) ∧ (0 : Int) < ((2 : Nat) : Int)) ∧
  ∃ n3 : Int, cell h ((a3.add (Int.toNat (i - 1) * 2)).add (Int.toNat (0 : Int) * 1)) = some (.int .i64 n3) ∧
  (0 ≤ i ∧ i < (lL : Int)) ∧
  NN l fun a4 =>
  (0 ≤ (0 : Int) ∧ (0 : Int) < ((2 : Nat) : Int)) ∧
  ∃ n4 : Int, cell h ((a4.add (Int.toNat i * 2)).add (Int.toNat (0 : Int) * 1)) = some (.int .i64 n4) ∧
  cond (decide (n4 ≤ n3))
  (K (.int .i64 1) h)
  (r43_Loaded_b2 l lL lC i h nx0 K))
  (r43_Loaded_b2 l lL lC i h nx0 K))))
  (r43_Loaded_b3 l lL lC h  K)) := by kernel_rfl
theorem r43_Loaded_b2_eq (l : Option Addr) (lL : Nat) (lC : Nat) (i : Int) (h : Hp) (nx0 : Int × Unit → Hp → Prop) (K : Value → Hp → Prop) : r43_Loaded_b2 l lL lC i h nx0 K = (
  InR (i + 1) ∧
  nx0 (i + 1, ()) h) := by kernel_rfl
theorem r43_Loaded_b3_eq (l : Option Addr) (lL : Nat) (lC : Nat) (h : Hp)  (K : Value → Hp → Prop) : r43_Loaded_b3 l lL lC h  K = (
  cond (decide ((2000 : Int) < (lL : Int)))
  (K (.int .i64 4) h)
  (K (.int .i64 0) h)) := by kernel_rfl
theorem r43_Loaded_call {l : Option Addr} {lL : Nat} {lC : Nat} {h : Hp} {K : Value → Hp → Prop} (hk : r43_Loaded_b0 l lL lC h K) : HCalls Try.prog 12 #[.slice l lL lC] h K :=
  calls_of_snd r43_Loaded_an Try.func12 (c := bodyOf Try.f12) rfl Try.ntmps12 (Nat.le_of_ble_eq_true rfl) (snd_3 F_ok F_mixed) hk

/-! ### btree_Tree_Len -/
def btree_Tree_Len_an : Ann := .leaf
def btree_Tree_Len_K0  (K : Value → Hp → Prop) : Exit → Env → Hp → Prop := retK Try.prog Try.f13.results.toList K
def btree_Tree_Len_b0 (t : Option Addr) (h : Hp)  (K : Value → Hp → Prop) : Prop :=
  sx_1 Try.prog F 9 (cp [] (bodyOf Try.f13)) (ap [] btree_Tree_Len_an) [(0, .pointer t)] h (btree_Tree_Len_K0  K)
theorem btree_Tree_Len_b0_eq (t : Option Addr) (h : Hp)  (K : Value → Hp → Prop) : btree_Tree_Len_b0 t h  K = (
  cond t.isNone
  (K (.int .i64 0) h)
  (NN t fun a1 =>
  ∃ n1 : Int, cell h (a1.add 1) = some (.int .i64 n1) ∧
  K (.int .i64 n1) h)) := by kernel_rfl
theorem btree_Tree_Len_call {t : Option Addr} {h : Hp} {K : Value → Hp → Prop} (hk : btree_Tree_Len_b0 t h K) : HCalls Try.prog 13 #[.pointer t] h K :=
  calls_of_snd btree_Tree_Len_an Try.func13 (c := bodyOf Try.f13) rfl Try.ntmps13 (Nat.le_of_ble_eq_true rfl) (snd_1 F_ok F_mixed) hk

/-! ### btree_Tree_Scan -/
def btree_Tree_Scan_an : Ann := .node none (.leaf) (.node (some [0, 4, 5]) (.leaf) (.leaf))
def btree_Tree_Scan_K0  (K : Value → Hp → Prop) : Exit → Env → Hp → Prop := retK Try.prog Try.f14.results.toList K
def btree_Tree_Scan_b0 (t : Option Addr) (fromv : Int) (to : Int) (h : Hp)  (K : Value → Hp → Prop) : Prop :=
  sx_2 Try.prog F 28 (cp [] (bodyOf Try.f14)) (ap [] btree_Tree_Scan_an) [(0, .pointer t), (1, .int .i64 fromv), (2, .int .i64 to)] h (btree_Tree_Scan_K0  K)
def btree_Tree_Scan_b1 (t : Option Addr) (fromv : Option Addr) (to : Option Addr) (h : Hp)  (K : Value → Hp → Prop) : Prop :=
  sx_1 Try.prog F 28 (cp [1, 1] (bodyOf Try.f14)) (ap [1, 1] btree_Tree_Scan_an) [(0, .pointer t), (4, .pointer fromv), (5, .pointer to)] h (btree_Tree_Scan_K0  K)
theorem btree_Tree_Scan_b0_eq (t : Option Addr) (fromv : Int) (to : Int) (h : Hp)  (K : Value → Hp → Prop) : btree_Tree_Scan_b0 t fromv to h  K = (
  New h (.cells #[.int .i64 fromv] 3) fun b1 h1 =>
  New h1 (.cells #[.int .i64 to] 3) fun b2 h2 =>
  cond t.isNone
  (K (.tuple #[.slice none 0 0, .int .i64 1]) h2)
  (∃ n1 : Int, cell h2 ⟨b1, 0, none⟩ = some (.int .i64 n1) ∧
  ∃ n2 : Int, cell h2 ⟨b2, 0, none⟩ = some (.int .i64 n2) ∧
  New h2 (.cells #[.int .i64 n1, .int .i64 n2] 3) fun b3 h3 =>
  HCalls Try.prog 33 #[.slice (some ⟨b3, 0, none⟩) 2 2] h3 fun v1 h4 => ∃ r1 : Bool, v1 = .bool r1 ∧
  cond (!r1)
  (K (.tuple #[.slice none 0 0, .int .i64 1]) h4)
  (btree_Tree_Scan_b1 t (some ⟨b1, 0, none⟩) (some ⟨b2, 0, none⟩) h4  K))) := by kernel_rfl
theorem btree_Tree_Scan_b1_eq (t : Option Addr) (fromv : Option Addr) (to : Option Addr) (h : Hp)  (K : Value → Hp → Prop) : btree_Tree_Scan_b1 t fromv to h  K = (
  New h (.cells #[.slice none 0 0] 22) fun b4 h5 =>
  NN t fun a1 =>
  ∃ p1 : Option Addr, cell h5 (a1.add 2) = some (.pointer p1) ∧
  HCalls Try.prog 36 #[.pointer p1, .func (.func 37) #[] #[.pointer fromv, .pointer to, .pointer (some ⟨b4, 0, none⟩)]] h5 fun v2 h6 => ∃ r2 : Bool, v2 = .bool r2 ∧
  ∃ (a2 : Option Addr) (L1 C1 : Nat), cell h6 ⟨b4, 0, none⟩ = some (.slice a2 L1 C1) ∧
  cond (decide ((1000 : Int) < (L1 : Int)))
  (K (.tuple #[.slice none 0 0, .int .i64 4]) h6)
  (∃ (a3 : Option Addr) (L2 C2 : Nat), cell h6 ⟨b4, 0, none⟩ = some (.slice a3 L2 C2) ∧
  K (.tuple #[.slice a3 L2 C2, .int .i64 0]) h6)) := by kernel_rfl
theorem btree_Tree_Scan_call {t : Option Addr} {fromv : Int} {to : Int} {h : Hp} {K : Value → Hp → Prop} (hk : btree_Tree_Scan_b0 t fromv to h K) : HCalls Try.prog 14 #[.pointer t, .int .i64 fromv, .int .i64 to] h K :=
  calls_of_snd btree_Tree_Scan_an Try.func14 (c := bodyOf Try.f14) rfl Try.ntmps14 (Nat.le_of_ble_eq_true rfl) (snd_2 F_ok F_mixed) hk

/-! ### r43_Shaped -/
def r43_Shaped_an : Ann := .node none (.leaf) (.node (some [0, 1, 2]) (.leaf) (.node (some [0, 1, 2]) (.leaf) (.node none (.leaf) (.node none (.leaf) (.node (some [1, 7]) (.leaf) (.node (some []) (.node none (.leaf) (.loop [1, 7] [(10, .int .i64)] (.node none (.leaf) (.node (some [1, 7, 10]) (.leaf) (.leaf))))) (.leaf)))))))
def r43_Shaped_K0  (K : Value → Hp → Prop) : Exit → Env → Hp → Prop := retK Try.prog Try.f15.results.toList K
def r43_Shaped_K1  (K : Value → Hp → Prop) : Exit → Env → Hp → Prop := thenE (fun env h => sx_2 Try.prog F 71 (cp [1, 1, 1, 1, 1, 1, 1] (bodyOf Try.f15)) (ap [1, 1, 1, 1, 1, 1, 1] r43_Shaped_an) (rs [] env) h (r43_Shaped_K0  K)) (r43_Shaped_K0  K)
def r43_Shaped_K2  (K : Value → Hp → Prop) : Exit → Env → Hp → Prop := blockE 0 (r43_Shaped_K1  K)
def r43_Shaped_K3 (nx0 : Int × Unit → Hp → Prop) (K : Value → Hp → Prop) : Exit → Env → Hp → Prop := thenE (fun env h => getV [(10, .int .i64)] env fun s => nx0 s h) (r43_Shaped_K2  K)
def r43_Shaped_b0 (order : Int) (levels : Option Addr) (levelsL : Nat) (levelsC : Nat) (keys : Option Addr) (keysL : Nat) (keysC : Nat) (h : Hp)  (K : Value → Hp → Prop) : Prop :=
  sx_6 Try.prog F 71 (cp [] (bodyOf Try.f15)) (ap [] r43_Shaped_an) [(0, .int .i64 order), (1, .slice levels levelsL levelsC), (2, .slice keys keysL keysC)] h (r43_Shaped_K0  K)
def r43_Shaped_b1 (order : Int) (levels : Option Addr) (levelsL : Nat) (levelsC : Nat) (keys : Option Addr) (keysL : Nat) (keysC : Nat) (h : Hp)  (K : Value → Hp → Prop) : Prop :=
  sx_5 Try.prog F 71 (cp [1, 1] (bodyOf Try.f15)) (ap [1, 1] r43_Shaped_an) [(0, .int .i64 order), (1, .slice levels levelsL levelsC), (2, .slice keys keysL keysC)] h (r43_Shaped_K0  K)
def r43_Shaped_b2 (order : Int) (levels : Option Addr) (levelsL : Nat) (levelsC : Nat) (keys : Option Addr) (keysL : Nat) (keysC : Nat) (h : Hp)  (K : Value → Hp → Prop) : Prop :=
  sx_4 Try.prog F 71 (cp [1, 1, 1] (bodyOf Try.f15)) (ap [1, 1, 1] r43_Shaped_an) [(0, .int .i64 order), (1, .slice levels levelsL levelsC), (2, .slice keys keysL keysC)] h (r43_Shaped_K0  K)
def r43_Shaped_b3 (levels : Option Addr) (levelsL : Nat) (levelsC : Nat) (next : Option Addr) (nextL : Nat) (nextC : Nat) (h : Hp)  (K : Value → Hp → Prop) : Prop :=
  sx_3 Try.prog F 71 (cp [1, 1, 1, 1, 1, 1] (bodyOf Try.f15)) (ap [1, 1, 1, 1, 1, 1] r43_Shaped_an) [(1, .slice levels levelsL levelsC), (7, .slice next nextL nextC)] h (r43_Shaped_K0  K)
def r43_Shaped_b4 (i : Int) (levels : Option Addr) (levelsL : Nat) (levelsC : Nat) (next : Option Addr) (nextL : Nat) (nextC : Nat) (h : Hp) (nx0 : Int × Unit → Hp → Prop) (K : Value → Hp → Prop) : Prop :=
  sx_2 Try.prog F 71 (cp [1, 1, 1, 1, 1, 1, 0, 1, 2, 2] (bodyOf Try.f15)) (ap [1, 1, 1, 1, 1, 1, 0, 1, 2] r43_Shaped_an) [(10, .int .i64 i), (1, .slice levels levelsL levelsC), (7, .slice next nextL nextC)] h (r43_Shaped_K3 nx0 K)
def r43_Shaped_b5 (levels : Option Addr) (levelsL : Nat) (levelsC : Nat) (next : Option Addr) (nextL : Nat) (nextC : Nat) (i : Int) (h : Hp) (nx0 : Int × Unit → Hp → Prop) (K : Value → Hp → Prop) : Prop :=
  sx_1 Try.prog F 71 (cp [1, 1, 1, 1, 1, 1, 0, 1, 2, 2, 1, 1] (bodyOf Try.f15)) (ap [1, 1, 1, 1, 1, 1, 0, 1, 2, 1, 1] r43_Shaped_an) [(1, .slice levels levelsL levelsC), (7, .slice next nextL nextC), (10, .int .i64 i)] h (r43_Shaped_K3 nx0 K)
def r43_Shaped_b6  (h : Hp)  (K : Value → Hp → Prop) : Prop :=
  sx_2 Try.prog F 71 (cp [1, 1, 1, 1, 1, 1, 1] (bodyOf Try.f15)) (ap [1, 1, 1, 1, 1, 1, 1] r43_Shaped_an) [] h (r43_Shaped_K0  K)
theorem r43_Shaped_b0_eq (order : Int) (levels : Option Addr) (levelsL : Nat) (levelsC : Nat) (keys : Option Addr) (keysL : Nat) (keysC : Nat) (h : Hp)  (K : Value → Hp → Prop) : r43_Shaped_b0 order levels levelsL levelsC keys keysL keysC h  K = (
  cond (decide ((keysL : Int) = 0))
  (cond (decide ((keysL : Int) = 0))
  (K (.bool (decide ((levelsL : Int) = 0))) h)
  (K (.bool false) h))
  (cond (decide ((levelsL : Int) = 0))
  (cond (decide ((keysL : Int) = 0))
  (K (.bool (decide ((levelsL : Int) = 0))) h)
  (K (.bool false) h))
  (r43_Shaped_b1 order levels levelsL levelsC keys keysL keysC h  K))) := by kernel_rfl
theorem r43_Shaped_b1_eq (order : Int) (levels : Option Addr) (levelsL : Nat) (levelsC : Nat) (keys : Option Addr) (keysL : Nat) (keysC : Nat) (h : Hp)  (K : Value → Hp → Prop) : r43_Shaped_b1 order levels levelsL levelsC keys keysL keysC h  K = (
  cond (decide ((20 : Int) < (levelsL : Int)))
  (K (.bool false) h)
  ((0 ≤ (0 : Int) ∧ (0 : Int) < (levelsL : Int)) ∧
  NN levels fun a1 =>
  ∃ (a2 : Option Addr) (L1 C1 : Nat), cell h (a1.add (Int.toNat (0 : Int) * 1)) = some (.slice a2 L1 C1) ∧
  cond (!decide ((L1 : Int) = 1))
  (K (.bool false) h)
  (r43_Shaped_b2 order levels levelsL levelsC keys keysL keysC h  K))) := by kernel_rfl
theorem r43_Shaped_b2_eq (order : Int) (levels : Option Addr) (levelsL : Nat) (levelsC : Nat) (keys : Option Addr) (keysL : Nat) (keysC : Nat) (h : Hp)  (K : Value → Hp → Prop) : r43_Shaped_b2 order levels levelsL levelsC keys keysL keysC h  K = (
  (0 ≤ (levelsL : Int) ∧ (levelsL : Int) ≤ (levelsL : Int) ∧ (levelsL : Int) ≤ 281474976710656 ∧ (levelsL : Int) * ((8 : Nat) : Int) ≤ 281474976710656) ∧
  New h (.cells (repL (Int.toNat (levelsL : Int) * 1) [.int .i64 0]).toArray 3) fun b1 h1 =>
  HCalls Try.prog 38 #[.int .i64 order, .slice levels levelsL levelsC, .int .i64 0, .slice (some ⟨b1, 0, none⟩) (Int.toNat (levelsL : Int)) (Int.toNat (levelsL : Int))] h1 fun v1 h2 => ∃ (r1 : Option Addr) (rL1 rC1 : Nat), ∃ r2 : Bool, v1 = .tuple #[.slice r1 rL1 rC1, .bool r2] ∧
  cond (!r2)
  (K (.bool false) h2)
  (HCalls Try.prog 39 #[.slice r1 rL1 rC1, .slice keys keysL keysC] h2 fun v2 h3 => ∃ r3 : Bool, v2 = .bool r3 ∧
  cond (!r3)
  (K (.bool false) h3)
  (r43_Shaped_b3 levels levelsL levelsC (some ⟨b1, 0, none⟩) (Int.toNat (levelsL : Int)) (Int.toNat (levelsL : Int)) h3  K))) := by kernel_rfl
theorem r43_Shaped_b3_eq (levels : Option Addr) (levelsL : Nat) (levelsC : Nat) (next : Option Addr) (nextL : Nat) (nextC : Nat) (h : Hp)  (K : Value → Hp → Prop) : r43_Shaped_b3 levels levelsL levelsC next nextL nextC h  K = (
  LoopVC ((0, ()) : Int × Unit) h (fun (nx0 : Int × Unit → Hp → Prop) (s1 : Int × Unit) h4 => r43_Shaped_b4 s1.1 levels levelsL levelsC next nextL nextC h4 nx0 K)) := by kernel_rfl
theorem r43_Shaped_b4_eq (i : Int) (levels : Option Addr) (levelsL : Nat) (levelsC : Nat) (next : Option Addr) (nextL : Nat) (nextC : Nat) (h : Hp) (nx0 : Int × Unit → Hp → Prop) (K : Value → Hp → Prop) : r43_Shaped_b4 i levels levelsL levelsC next nextL nextC h nx0 K = (
  cond (decide (i < (levelsL : Int)))
  ((0 ≤ i ∧ i < (nextL : Int)) ∧
  NN next fun a3 =>
  ∃ n1 : Int, cell h (a3.add (Int.toNat i * 1)) = some (.int .i64 n1) ∧
  (0 ≤ i ∧ i < (levelsL : Int)) ∧
  NN levels fun a4 =>
  ∃ (a5 : Option Addr) (L2 C2 : Nat), cell h (a4.add (Int.toNat i * 1)) = some (.slice a5 L2 C2) ∧
  cond (!decide (n1 = (L2 : Int)))
  (K (.bool false) h)
  (r43_Shaped_b5 levels levelsL levelsC next nextL nextC i h nx0 K))
  (r43_Shaped_b6  h  K)) := by kernel_rfl
theorem r43_Shaped_b5_eq (levels : Option Addr) (levelsL : Nat) (levelsC : Nat) (next : Option Addr) (nextL : Nat) (nextC : Nat) (i : Int) (h : Hp) (nx0 : Int × Unit → Hp → Prop) (K : Value → Hp → Prop) : r43_Shaped_b5 levels levelsL levelsC next nextL nextC i h nx0 K = (
  InR (i + 1) ∧
  nx0 (i + 1, ()) h) := by kernel_rfl
theorem r43_Shaped_b6_eq  (h : Hp)  (K : Value → Hp → Prop) : r43_Shaped_b6  h  K = (
  K (.bool true) h) := by kernel_rfl
theorem r43_Shaped_call {order : Int} {levels : Option Addr} {levelsL : Nat} {levelsC : Nat} {keys : Option Addr} {keysL : Nat} {keysC : Nat} {h : Hp} {K : Value → Hp → Prop} (hk : r43_Shaped_b0 order levels levelsL levelsC keys keysL keysC h K) : HCalls Try.prog 15 #[.int .i64 order, .slice levels levelsL levelsC, .slice keys keysL keysC] h K :=
  calls_of_snd r43_Shaped_an Try.func15 (c := bodyOf Try.f15) rfl Try.ntmps15 (Nat.le_of_ble_eq_true rfl) (snd_6 F_ok F_mixed) hk

/-! ### btree_Tree_Levels -/
def btree_Tree_Levels_an : Ann := .node none (.leaf) (.node (some [0]) (.leaf) (.node none (.leaf) (.node (some [3]) (.node none (.leaf) (.loop [] [(3, .slice), (4, .slice)] (.node none (.leaf) (.node none (.leaf) (.node none (.leaf) (.node (some [3, 5, 6]) (.node none (.leaf) (.loop [3, 26, 27] [(5, .slice), (6, .slice), (28, .int .i64)] (.node none (.leaf) (.node none (.leaf) (.node (some [3, 5, 6, 26, 27, 28]) (.leaf) (.leaf)))))) (.leaf))))))) (.leaf))))
def btree_Tree_Levels_K0  (K : Value → Hp → Prop) : Exit → Env → Hp → Prop := retK Try.prog Try.f16.results.toList K
def btree_Tree_Levels_K1  (K : Value → Hp → Prop) : Exit → Env → Hp → Prop := thenE (fun env h => sx_3 Try.prog F 53 (cp [1, 1, 1, 1] (bodyOf Try.f16)) (ap [1, 1, 1, 1] btree_Tree_Levels_an) (rs [3] env) h (btree_Tree_Levels_K0  K)) (btree_Tree_Levels_K0  K)
def btree_Tree_Levels_K2  (K : Value → Hp → Prop) : Exit → Env → Hp → Prop := blockE 0 (btree_Tree_Levels_K1  K)
def btree_Tree_Levels_K3 (nx0 : (Option Addr × Nat × Nat) × (Option Addr × Nat × Nat) × Unit → Hp → Prop) (K : Value → Hp → Prop) : Exit → Env → Hp → Prop := thenE (fun env h => getV [(3, .slice), (4, .slice)] env fun s => nx0 s h) (btree_Tree_Levels_K2  K)
def btree_Tree_Levels_K4 (nx0 : (Option Addr × Nat × Nat) × (Option Addr × Nat × Nat) × Unit → Hp → Prop) (K : Value → Hp → Prop) : Exit → Env → Hp → Prop := blockE 1 (btree_Tree_Levels_K3 nx0 K)
def btree_Tree_Levels_K5 (nx0 : (Option Addr × Nat × Nat) × (Option Addr × Nat × Nat) × Unit → Hp → Prop) (K : Value → Hp → Prop) : Exit → Env → Hp → Prop := thenE (fun env h => sx_2 Try.prog F 53 (cp [1, 1, 1, 0, 1, 2, 2, 1, 2, 1, 1, 1] (bodyOf Try.f16)) (ap [1, 1, 1, 0, 1, 2, 1, 1, 1, 1] btree_Tree_Levels_an) (rs [3, 5, 6] env) h (btree_Tree_Levels_K4 nx0 K)) (btree_Tree_Levels_K4 nx0 K)
def btree_Tree_Levels_K6 (nx0 : (Option Addr × Nat × Nat) × (Option Addr × Nat × Nat) × Unit → Hp → Prop) (K : Value → Hp → Prop) : Exit → Env → Hp → Prop := blockE 2 (btree_Tree_Levels_K5 nx0 K)
def btree_Tree_Levels_K7 (nx0 : (Option Addr × Nat × Nat) × (Option Addr × Nat × Nat) × Unit → Hp → Prop) (nx1 : (Option Addr × Nat × Nat) × (Option Addr × Nat × Nat) × Int × Unit → Hp → Prop) (K : Value → Hp → Prop) : Exit → Env → Hp → Prop := thenE (fun env h => getV [(5, .slice), (6, .slice), (28, .int .i64)] env fun s => nx1 s h) (btree_Tree_Levels_K6 nx0 K)
def btree_Tree_Levels_b0 (t : Option Addr) (h : Hp)  (K : Value → Hp → Prop) : Prop :=
  sx_5 Try.prog F 53 (cp [] (bodyOf Try.f16)) (ap [] btree_Tree_Levels_an) [(0, .pointer t)] h (btree_Tree_Levels_K0  K)
def btree_Tree_Levels_b1 (t : Option Addr) (h : Hp)  (K : Value → Hp → Prop) : Prop :=
  sx_4 Try.prog F 53 (cp [1, 1] (bodyOf Try.f16)) (ap [1, 1] btree_Tree_Levels_an) [(0, .pointer t)] h (btree_Tree_Levels_K0  K)
def btree_Tree_Levels_b2 (out : Option Addr) (outL : Nat) (outC : Nat) (l : Option Addr) (lL : Nat) (lC : Nat) (h : Hp) (nx0 : (Option Addr × Nat × Nat) × (Option Addr × Nat × Nat) × Unit → Hp → Prop) (K : Value → Hp → Prop) : Prop :=
  sx_3 Try.prog F 53 (cp [1, 1, 1, 0, 1, 2, 2] (bodyOf Try.f16)) (ap [1, 1, 1, 0, 1, 2] btree_Tree_Levels_an) [(3, .slice out outL outC), (4, .slice l lL lC)] h (btree_Tree_Levels_K3 nx0 K)
def btree_Tree_Levels_b3 (level : Option Addr) (levelL : Nat) (levelC : Nat) (next : Option Addr) (nextL : Nat) (nextC : Nat) (t28 : Int) (out : Option Addr) (outL : Nat) (outC : Nat) (t26 : Option Addr) (t26L : Nat) (t26C : Nat) (t27 : Int) (h : Hp) (nx0 : (Option Addr × Nat × Nat) × (Option Addr × Nat × Nat) × Unit → Hp → Prop) (nx1 : (Option Addr × Nat × Nat) × (Option Addr × Nat × Nat) × Int × Unit → Hp → Prop) (K : Value → Hp → Prop) : Prop :=
  sx_2 Try.prog F 53 (cp [1, 1, 1, 0, 1, 2, 2, 1, 2, 1, 1, 0, 1, 2, 2] (bodyOf Try.f16)) (ap [1, 1, 1, 0, 1, 2, 1, 1, 1, 0, 1, 2] btree_Tree_Levels_an) [(5, .slice level levelL levelC), (6, .slice next nextL nextC), (28, .int .i64 t28), (3, .slice out outL outC), (26, .slice t26 t26L t26C), (27, .int .i64 t27)] h (btree_Tree_Levels_K7 nx0 nx1 K)
def btree_Tree_Levels_b4 (out : Option Addr) (outL : Nat) (outC : Nat) (h : Hp)  (K : Value → Hp → Prop) : Prop :=
  sx_3 Try.prog F 53 (cp [1, 1, 1, 1] (bodyOf Try.f16)) (ap [1, 1, 1, 1] btree_Tree_Levels_an) [(3, .slice out outL outC)] h (btree_Tree_Levels_K0  K)
def btree_Tree_Levels_b5 (out : Option Addr) (outL : Nat) (outC : Nat) (level : Option Addr) (levelL : Nat) (levelC : Nat) (next : Option Addr) (nextL : Nat) (nextC : Nat) (t26 : Option Addr) (t26L : Nat) (t26C : Nat) (t27 : Int) (t28 : Int) (h : Hp) (nx0 : (Option Addr × Nat × Nat) × (Option Addr × Nat × Nat) × Unit → Hp → Prop) (nx1 : (Option Addr × Nat × Nat) × (Option Addr × Nat × Nat) × Int × Unit → Hp → Prop) (K : Value → Hp → Prop) : Prop :=
  sx_1 Try.prog F 53 (cp [1, 1, 1, 0, 1, 2, 2, 1, 2, 1, 1, 0, 1, 2, 2, 1, 1, 1] (bodyOf Try.f16)) (ap [1, 1, 1, 0, 1, 2, 1, 1, 1, 0, 1, 2, 1, 1, 1] btree_Tree_Levels_an) [(3, .slice out outL outC), (5, .slice level levelL levelC), (6, .slice next nextL nextC), (26, .slice t26 t26L t26C), (27, .int .i64 t27), (28, .int .i64 t28)] h (btree_Tree_Levels_K7 nx0 nx1 K)
def btree_Tree_Levels_b6 (out : Option Addr) (outL : Nat) (outC : Nat) (level : Option Addr) (levelL : Nat) (levelC : Nat) (next : Option Addr) (nextL : Nat) (nextC : Nat) (h : Hp) (nx0 : (Option Addr × Nat × Nat) × (Option Addr × Nat × Nat) × Unit → Hp → Prop) (K : Value → Hp → Prop) : Prop :=
  sx_2 Try.prog F 53 (cp [1, 1, 1, 0, 1, 2, 2, 1, 2, 1, 1, 1] (bodyOf Try.f16)) (ap [1, 1, 1, 0, 1, 2, 1, 1, 1, 1] btree_Tree_Levels_an) [(3, .slice out outL outC), (5, .slice level levelL levelC), (6, .slice next nextL nextC)] h (btree_Tree_Levels_K4 nx0 K)
theorem btree_Tree_Levels_b0_eq (t : Option Addr) (h : Hp)  (K : Value → Hp → Prop) : btree_Tree_Levels_b0 t h  K = (
  cond t.isNone
  (K (.slice none 0 0) h)
  (NN t fun a1 =>
  ∃ p1 : Option Addr, cell h (a1.add 2) = some (.pointer p1) ∧
  cond p1.isNone
  (K (.slice none 0 0) h)
  (btree_Tree_Levels_b1 t h  K))) := by kernel_rfl
theorem btree_Tree_Levels_b1_eq (t : Option Addr) (h : Hp)  (K : Value → Hp → Prop) : btree_Tree_Levels_b1 t h  K = (
  NN t fun a2 =>
  ∃ p2 : Option Addr, cell h (a2.add 2) = some (.pointer p2) ∧
  New h (.cells #[.pointer p2] 73) fun b1 h1 =>
  LoopVC (((none, 0, 0), (some ⟨b1, 0, none⟩, 1, 1), ()) : (Option Addr × Nat × Nat) × (Option Addr × Nat × Nat) × Unit) h1 (fun (nx0 : (Option Addr × Nat × Nat) × (Option Addr × Nat × Nat) × Unit → Hp → Prop) (s1 : (Option Addr × Nat × Nat) × (Option Addr × Nat × Nat) × Unit) h2 => btree_Tree_Levels_b2 s1.1.1 s1.1.2.1 s1.1.2.2 s1.2.1.1 s1.2.1.2.1 s1.2.1.2.2 h2 nx0 K)) := by kernel_rfl
theorem btree_Tree_Levels_b2_eq (out : Option Addr) (outL : Nat) (outC : Nat) (l : Option Addr) (lL : Nat) (lC : Nat) (h : Hp) (nx0 : (Option Addr × Nat × Nat) × (Option Addr × Nat × Nat) × Unit → Hp → Prop) (K : Value → Hp → Prop) : btree_Tree_Levels_b2 out outL outC l lL lC h nx0 K = (
  cond (decide ((0 : Int) < (lL : Int)))
  (LoopVC (((none, 0, 0), (none, 0, 0), 0, ()) : (Option Addr × Nat × Nat) × (Option Addr × Nat × Nat) × Int × Unit) h (fun (nx1 : (Option Addr × Nat × Nat) × (Option Addr × Nat × Nat) × Int × Unit → Hp → Prop) (s2 : (Option Addr × Nat × Nat) × (Option Addr × Nat × Nat) × Int × Unit) h3 => btree_Tree_Levels_b3 s2.1.1 s2.1.2.1 s2.1.2.2 s2.2.1.1 s2.2.1.2.1 s2.2.1.2.2 s2.2.2.1 out outL outC l lL lC (lL : Int) h3 nx0 nx1 K))
  (btree_Tree_Levels_b4 out outL outC h  K)) := by kernel_rfl
theorem btree_Tree_Levels_b3_eq (level : Option Addr) (levelL : Nat) (levelC : Nat) (next : Option Addr) (nextL : Nat) (nextC : Nat) (t28 : Int) (out : Option Addr) (outL : Nat) (outC : Nat) (t26 : Option Addr) (t26L : Nat) (t26C : Nat) (t27 : Int) (h : Hp) (nx0 : (Option Addr × Nat × Nat) × (Option Addr × Nat × Nat) × Unit → Hp → Prop) (nx1 : (Option Addr × Nat × Nat) × (Option Addr × Nat × Nat) × Int × Unit → Hp → Prop) (K : Value → Hp → Prop) : btree_Tree_Levels_b3 level levelL levelC next nextL nextC t28 out outL outC t26 t26L t26C t27 h nx0 nx1 K = (
  cond (decide (t28 < t27))
  ((0 ≤ t28 ∧ t28 < (t26L : Int)) ∧
  NN t26 fun a3 =>
  ∃ p3 : Option Addr, cell h (a3.add (Int.toNat t28 * 1)) = some (.pointer p3) ∧
  NN p3 fun a4 =>
  ∃ (a5 : Option Addr) (L1 C1 : Nat), cell h a4 = some (.slice a5 L1 C1) ∧
  HCalls Try.prog 40 #[.slice a5 L1 C1] h fun v1 h4 => ∃ (r1 : Option Addr) (rL1 rC1 : Nat), v1 = .slice r1 rL1 rC1 ∧
  New h4 (.cells #[.slice r1 rL1 rC1] 38) fun b2 h5 =>
  appendV Try.prog 82 82 (.slice level levelL levelC) (.slice (some ⟨b2, 0, none⟩) 1 1) h5 (slK fun a6 l1 c1 h6 =>
  NN p3 fun a7 =>
  ∃ (a8 : Option Addr) (L2 C2 : Nat), cell h6 (a7.add 2) = some (.slice a8 L2 C2) ∧
  appendV Try.prog 86 86 (.slice next nextL nextC) (.slice a8 L2 C2) h6 (slK fun a9 l2 c2 h7 =>
  btree_Tree_Levels_b5 out outL outC a6 l1 c1 a9 l2 c2 t26 t26L t26C t27 t28 h7 nx0 nx1 K)))
  (btree_Tree_Levels_b6 out outL outC level levelL levelC next nextL nextC h nx0 K)) := by kernel_rfl
theorem btree_Tree_Levels_b4_eq (out : Option Addr) (outL : Nat) (outC : Nat) (h : Hp)  (K : Value → Hp → Prop) : btree_Tree_Levels_b4 out outL outC h  K = (
  K (.slice out outL outC) h) := by kernel_rfl
theorem btree_Tree_Levels_b5_eq (out : Option Addr) (outL : Nat) (outC : Nat) (level : Option Addr) (levelL : Nat) (levelC : Nat) (next : Option Addr) (nextL : Nat) (nextC : Nat) (t26 : Option Addr) (t26L : Nat) (t26C : Nat) (t27 : Int) (t28 : Int) (h : Hp) (nx0 : (Option Addr × Nat × Nat) × (Option Addr × Nat × Nat) × Unit → Hp → Prop) (nx1 : (Option Addr × Nat × Nat) × (Option Addr × Nat × Nat) × Int × Unit → Hp → Prop) (K : Value → Hp → Prop) : btree_Tree_Levels_b5 out outL outC level levelL levelC next nextL nextC t26 t26L t26C t27 t28 h nx0 nx1 K = (
  InR (t28 + 1) ∧
  nx1 ((level, levelL, levelC), (next, nextL, nextC), t28 + 1, ()) h) := by kernel_rfl
theorem btree_Tree_Levels_b6_eq (out : Option Addr) (outL : Nat) (outC : Nat) (level : Option Addr) (levelL : Nat) (levelC : Nat) (next : Option Addr) (nextL : Nat) (nextC : Nat) (h : Hp) (nx0 : (Option Addr × Nat × Nat) × (Option Addr × Nat × Nat) × Unit → Hp → Prop) (K : Value → Hp → Prop) : btree_Tree_Levels_b6 out outL outC level levelL levelC next nextL nextC h nx0 K = (
  New h (.cells #[.slice level levelL levelC] 82) fun b3 h8 =>
  appendV Try.prog 36 36 (.slice out outL outC) (.slice (some ⟨b3, 0, none⟩) 1 1) h8 (slK fun a10 l3 c3 h9 =>
  nx0 ((a10, l3, c3), (next, nextL, nextC), ()) h9)) := by kernel_rfl
theorem btree_Tree_Levels_call {t : Option Addr} {h : Hp} {K : Value → Hp → Prop} (hk : btree_Tree_Levels_b0 t h K) : HCalls Try.prog 16 #[.pointer t] h K :=
  calls_of_snd btree_Tree_Levels_an Try.func16 (c := bodyOf Try.f16) rfl Try.ntmps16 (Nat.le_of_ble_eq_true rfl) (snd_5 F_ok F_mixed) hk

/-! ### l43_keys -/
def l43_keys_an : Ann := .node none (.leaf) (.node none (.leaf) (.node (some [3]) (.node none (.leaf) (.loop [6, 7] [(3, .slice), (8, .int .i64)] (.node none (.leaf) (.node none (.leaf) (.node (some [3, 6, 7, 8]) (.leaf) (.leaf)))))) (.leaf)))
def l43_keys_K0  (K : Value → Hp → Prop) : Exit → Env → Hp → Prop := retK Try.prog Try.f17.results.toList K
def l43_keys_K1  (K : Value → Hp → Prop) : Exit → Env → Hp → Prop := thenE (fun env h => sx_2 Try.prog F 19 (cp [1, 1, 1] (bodyOf Try.f17)) (ap [1, 1, 1] l43_keys_an) (rs [3] env) h (l43_keys_K0  K)) (l43_keys_K0  K)
def l43_keys_K2  (K : Value → Hp → Prop) : Exit → Env → Hp → Prop := blockE 0 (l43_keys_K1  K)
def l43_keys_K3 (nx0 : (Option Addr × Nat × Nat) × Int × Unit → Hp → Prop) (K : Value → Hp → Prop) : Exit → Env → Hp → Prop := thenE (fun env h => getV [(3, .slice), (8, .int .i64)] env fun s => nx0 s h) (l43_keys_K2  K)
def l43_keys_b0 (l : Option Addr) (lL : Nat) (lC : Nat) (h : Hp)  (K : Value → Hp → Prop) : Prop :=
  sx_3 Try.prog F 19 (cp [] (bodyOf Try.f17)) (ap [] l43_keys_an) [(0, .slice l lL lC)] h (l43_keys_K0  K)
def l43_keys_b1 (out : Option Addr) (outL : Nat) (outC : Nat) (t8 : Int) (t6 : Option Addr) (t6L : Nat) (t6C : Nat) (t7 : Int) (h : Hp) (nx0 : (Option Addr × Nat × Nat) × Int × Unit → Hp → Prop) (K : Value → Hp → Prop) : Prop :=
  sx_2 Try.prog F 19 (cp [1, 1, 0, 1, 2, 2] (bodyOf Try.f17)) (ap [1, 1, 0, 1, 2] l43_keys_an) [(3, .slice out outL outC), (8, .int .i64 t8), (6, .slice t6 t6L t6C), (7, .int .i64 t7)] h (l43_keys_K3 nx0 K)
def l43_keys_b2 (out : Option Addr) (outL : Nat) (outC : Nat) (t6 : Option Addr) (t6L : Nat) (t6C : Nat) (t7 : Int) (t8 : Int) (h : Hp) (nx0 : (Option Addr × Nat × Nat) × Int × Unit → Hp → Prop) (K : Value → Hp → Prop) : Prop :=
  sx_1 Try.prog F 19 (cp [1, 1, 0, 1, 2, 2, 1, 1, 1] (bodyOf Try.f17)) (ap [1, 1, 0, 1, 2, 1, 1, 1] l43_keys_an) [(3, .slice out outL outC), (6, .slice t6 t6L t6C), (7, .int .i64 t7), (8, .int .i64 t8)] h (l43_keys_K3 nx0 K)
def l43_keys_b3 (out : Option Addr) (outL : Nat) (outC : Nat) (h : Hp)  (K : Value → Hp → Prop) : Prop :=
  sx_2 Try.prog F 19 (cp [1, 1, 1] (bodyOf Try.f17)) (ap [1, 1, 1] l43_keys_an) [(3, .slice out outL outC)] h (l43_keys_K0  K)
theorem l43_keys_b0_eq (l : Option Addr) (lL : Nat) (lC : Nat) (h : Hp)  (K : Value → Hp → Prop) : l43_keys_b0 l lL lC h  K = (
  LoopVC (((none, 0, 0), 0, ()) : (Option Addr × Nat × Nat) × Int × Unit) h (fun (nx0 : (Option Addr × Nat × Nat) × Int × Unit → Hp → Prop) (s1 : (Option Addr × Nat × Nat) × Int × Unit) h1 => l43_keys_b1 s1.1.1 s1.1.2.1 s1.1.2.2 s1.2.1 l lL lC (lL : Int) h1 nx0 K)) := by kernel_rfl
theorem l43_keys_b1_eq (out : Option Addr) (outL : Nat) (outC : Nat) (t8 : Int) (t6 : Option Addr) (t6L : Nat) (t6C : Nat) (t7 : Int) (h : Hp) (nx0 : (Option Addr × Nat × Nat) × Int × Unit → Hp → Prop) (K : Value → Hp → Prop) : l43_keys_b1 out outL outC t8 t6 t6L t6C t7 h nx0 K = (
  cond (decide (t8 < t7))
  ((0 ≤ t8 ∧ t8 < (t6L : Int)) ∧
  NN t6 fun a1 =>
  ∃ n1 : Int, ∃ n2 : Int, cell h (a1.add (Int.toNat t8 * 2)) = some (.int .i64 n1) ∧
  cell h ((a1.add (Int.toNat t8 * 2)).add 1) = some (.int .i64 n2) ∧
  New h (.cells #[.int .i64 0, .int .i64 0] 40) fun b1 h2 =>
  Wr h2 ⟨b1, 0, none⟩ (.int .i64 n1) fun h3 =>
  Wr h3 ((⟨b1, 0, none⟩ : Addr).add 1) (.int .i64 n2) fun h4 =>
  (0 ≤ (0 : Int) ∧ (0 : Int) < ((2 : Nat) : Int)) ∧
  ∃ n3 : Int, cell h4 ((⟨b1, 0, none⟩ : Addr).add (Int.toNat (0 : Int) * 1)) = some (.int .i64 n3) ∧
  New h4 (.cells #[.int .i64 n3] 3) fun b2 h5 =>
  appendV Try.prog 38 38 (.slice out outL outC) (.slice (some ⟨b2, 0, none⟩) 1 1) h5 (slK fun a2 l1 c1 h6 =>
  l43_keys_b2 a2 l1 c1 t6 t6L t6C t7 t8 h6 nx0 K))
  (l43_keys_b3 out outL outC h  K)) := by kernel_rfl
theorem l43_keys_b2_eq (out : Option Addr) (outL : Nat) (outC : Nat) (t6 : Option Addr) (t6L : Nat) (t6C : Nat) (t7 : Int) (t8 : Int) (h : Hp) (nx0 : (Option Addr × Nat × Nat) × Int × Unit → Hp → Prop) (K : Value → Hp → Prop) : l43_keys_b2 out outL outC t6 t6L t6C t7 t8 h nx0 K = (
  InR (t8 + 1) ∧
  nx0 ((out, outL, outC), t8 + 1, ()) h) := by kernel_rfl
theorem l43_keys_b3_eq (out : Option Addr) (outL : Nat) (outC : Nat) (h : Hp)  (K : Value → Hp → Prop) : l43_keys_b3 out outL outC h  K = (
  K (.slice out outL outC) h) := by kernel_rfl
theorem l43_keys_call {l : Option Addr} {lL : Nat} {lC : Nat} {h : Hp} {K : Value → Hp → Prop} (hk : l43_keys_b0 l lL lC h K) : HCalls Try.prog 17 #[.slice l lL lC] h K :=
  calls_of_snd l43_keys_an Try.func17 (c := bodyOf Try.f17) rfl Try.ntmps17 (Nat.le_of_ble_eq_true rfl) (snd_3 F_ok F_mixed) hk

/-! ### slices_Equal_2_int_2_int -/
def slices_Equal_2_int_2_int_an : Ann := .node none (.leaf) (.node none (.leaf) (.node (some []) (.node none (.leaf) (.loop [0, 1, 12] [(13, .int .i64)] (.node none (.leaf) (.node none (.leaf) (.node (some [0, 1, 12, 13]) (.leaf) (.leaf)))))) (.leaf)))
def slices_Equal_2_int_2_int_K0  (K : Value → Hp → Prop) : Exit → Env → Hp → Prop := retK Try.prog Try.f18.results.toList K
def slices_Equal_2_int_2_int_K1  (K : Value → Hp → Prop) : Exit → Env → Hp → Prop := thenE (fun env h => sx_2 Try.prog F 26 (cp [1, 1, 1] (bodyOf Try.f18)) (ap [1, 1, 1] slices_Equal_2_int_2_int_an) (rs [] env) h (slices_Equal_2_int_2_int_K0  K)) (slices_Equal_2_int_2_int_K0  K)
def slices_Equal_2_int_2_int_K2  (K : Value → Hp → Prop) : Exit → Env → Hp → Prop := blockE 0 (slices_Equal_2_int_2_int_K1  K)
def slices_Equal_2_int_2_int_K3 (nx0 : Int × Unit → Hp → Prop) (K : Value → Hp → Prop) : Exit → Env → Hp → Prop := thenE (fun env h => getV [(13, .int .i64)] env fun s => nx0 s h) (slices_Equal_2_int_2_int_K2  K)
def slices_Equal_2_int_2_int_b0 (s1 : Option Addr) (s1L : Nat) (s1C : Nat) (s2 : Option Addr) (s2L : Nat) (s2C : Nat) (h : Hp)  (K : Value → Hp → Prop) : Prop :=
  sx_3 Try.prog F 26 (cp [] (bodyOf Try.f18)) (ap [] slices_Equal_2_int_2_int_an) [(0, .slice s1 s1L s1C), (1, .slice s2 s2L s2C)] h (slices_Equal_2_int_2_int_K0  K)
def slices_Equal_2_int_2_int_b1 (t13 : Int) (s1 : Option Addr) (s1L : Nat) (s1C : Nat) (s2 : Option Addr) (s2L : Nat) (s2C : Nat) (t12 : Int) (h : Hp) (nx0 : Int × Unit → Hp → Prop) (K : Value → Hp → Prop) : Prop :=
  sx_2 Try.prog F 26 (cp [1, 1, 0, 1, 2, 2] (bodyOf Try.f18)) (ap [1, 1, 0, 1, 2] slices_Equal_2_int_2_int_an) [(13, .int .i64 t13), (0, .slice s1 s1L s1C), (1, .slice s2 s2L s2C), (12, .int .i64 t12)] h (slices_Equal_2_int_2_int_K3 nx0 K)
def slices_Equal_2_int_2_int_b2 (s1 : Option Addr) (s1L : Nat) (s1C : Nat) (s2 : Option Addr) (s2L : Nat) (s2C : Nat) (t12 : Int) (t13 : Int) (h : Hp) (nx0 : Int × Unit → Hp → Prop) (K : Value → Hp → Prop) : Prop :=
  sx_1 Try.prog F 26 (cp [1, 1, 0, 1, 2, 2, 1, 1, 1] (bodyOf Try.f18)) (ap [1, 1, 0, 1, 2, 1, 1, 1] slices_Equal_2_int_2_int_an) [(0, .slice s1 s1L s1C), (1, .slice s2 s2L s2C), (12, .int .i64 t12), (13, .int .i64 t13)] h (slices_Equal_2_int_2_int_K3 nx0 K)
def slices_Equal_2_int_2_int_b3  (h : Hp)  (K : Value → Hp → Prop) : Prop :=
  sx_2 Try.prog F 26 (cp [1, 1, 1] (bodyOf Try.f18)) (ap [1, 1, 1] slices_Equal_2_int_2_int_an) [] h (slices_Equal_2_int_2_int_K0  K)
theorem slices_Equal_2_int_2_int_b0_eq (s1 : Option Addr) (s1L : Nat) (s1C : Nat) (s2 : Option Addr) (s2L : Nat) (s2C : Nat) (h : Hp)  (K : Value → Hp → Prop) : slices_Equal_2_int_2_int_b0 s1 s1L s1C s2 s2L s2C h  K = (
  cond (!decide ((s1L : Int) = (s2L : Int)))
  (K (.bool false) h)
  (LoopVC ((0, ()) : Int × Unit) h (fun (nx0 : Int × Unit → Hp → Prop) (s3 : Int × Unit) h1 => slices_Equal_2_int_2_int_b1 s3.1 s1 s1L s1C s2 s2L s2C (s1L : Int) h1 nx0 K))) := by kernel_rfl
theorem slices_Equal_2_int_2_int_b1_eq (t13 : Int) (s1 : Option Addr) (s1L : Nat) (s1C : Nat) (s2 : Option Addr) (s2L : Nat) (s2C : Nat) (t12 : Int) (h : Hp) (nx0 : Int × Unit → Hp → Prop) (K : Value → Hp → Prop) : slices_Equal_2_int_2_int_b1 t13 s1 s1L s1C s2 s2L s2C t12 h nx0 K = (
  cond (decide (t13 < t12))
  ((0 ≤ t13 ∧ t13 < (s1L : Int)) ∧
  NN s1 fun a1 =>
  ∃ n1 : Int, ∃ n2 : Int, cell h (a1.add (Int.toNat t13 * 2)) = some (.int .i64 n1) ∧
  cell h ((a1.add (Int.toNat t13 * 2)).add 1) = some (.int .i64 n2) ∧
  (0 ≤ t13 ∧ t13 < (s2L : Int)) ∧
  NN s2 fun a2 =>
  ∃ n3 : Int, ∃ n4 : Int, cell h (a2.add (Int.toNat t13 * 2)) = some (.int .i64 n3) ∧
  cell h ((a2.add (Int.toNat t13 * 2)).add 1) = some (.int .i64 n4) ∧
  ∃ b1 : Bool, eqC Try.prog .neq 40 (.tmp 19) (.tmp 23) (.agg #[.int .i64 n1, .int .i64 n2]) (.agg #[.int .i64 n3, .int .i64 n4]) h b1 ∧
  cond b1
  (K (.bool false) h)
  (slices_Equal_2_int_2_int_b2 s1 s1L s1C s2 s2L s2C t12 t13 h nx0 K))
  (slices_Equal_2_int_2_int_b3  h  K)) := by kernel_rfl
theorem slices_Equal_2_int_2_int_b2_eq (s1 : Option Addr) (s1L : Nat) (s1C : Nat) (s2 : Option Addr) (s2L : Nat) (s2C : Nat) (t12 : Int) (t13 : Int) (h : Hp) (nx0 : Int × Unit → Hp → Prop) (K : Value → Hp → Prop) : slices_Equal_2_int_2_int_b2 s1 s1L s1C s2 s2L s2C t12 t13 h nx0 K = (
  InR (t13 + 1) ∧
  nx0 (t13 + 1, ()) h) := by kernel_rfl
theorem slices_Equal_2_int_2_int_b3_eq  (h : Hp)  (K : Value → Hp → Prop) : slices_Equal_2_int_2_int_b3  h  K = (
  K (.bool true) h) := by kernel_rfl
theorem slices_Equal_2_int_2_int_call {s1 : Option Addr} {s1L : Nat} {s1C : Nat} {s2 : Option Addr} {s2L : Nat} {s2C : Nat} {h : Hp} {K : Value → Hp → Prop} (hk : slices_Equal_2_int_2_int_b0 s1 s1L s1C s2 s2L s2C h K) : HCalls Try.prog 18 #[.slice s1 s1L s1C, .slice s2 s2L s2C] h K :=
  calls_of_snd slices_Equal_2_int_2_int_an Try.func18 (c := bodyOf Try.f18) rfl Try.ntmps18 (Nat.le_of_ble_eq_true rfl) (snd_3 F_ok F_mixed) hk

end Go.Proofs.Ytaemnjblcpknpaa
