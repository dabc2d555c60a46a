/- Plain statements of what each block of code of this seat asks; printed by a program, checked by Lean. -/
import Derived.Test.YtmlfoefadmlhpaaSxV0
set_option maxRecDepth 10000
namespace Go.Proofs.Ytmlfoefadmlhpaa
open Go Go.Sx

/-! ### l48_SuccinctLists -/
def l48_SuccinctLists_an : Ann := .node none (.leaf) (.node none (.leaf) (.node none (.leaf) (.node none (.leaf) (.node none (.leaf) (.node (some [0, 1, 2, 7]) (.leaf) (.node none (.leaf) (.node none (.leaf) (.node none (.leaf) (.node none (.leaf) (.node (some [0, 1, 10, 11]) (.leaf) (.node (some [0, 1, 10, 11]) (.leaf) (.leaf))))))))))))
def l48_SuccinctLists_K0  (K : Value → Hp → Prop) : Exit → Env → Hp → Prop := retK Try.prog Try.f3.results.toList K
def l48_SuccinctLists_b0 (l : Option Addr) (lL : Nat) (lC : Nat) (i : Int) (x : Int) (h : Hp)  (K : Value → Hp → Prop) : Prop :=
  sx_4 Try.prog F 112 (cp [] (bodyOf Try.f3)) (ap [] l48_SuccinctLists_an) [(0, .slice l lL lC), (1, .int .i64 i), (2, .int .i64 x)] h (l48_SuccinctLists_K0  K)
def l48_SuccinctLists_b1 (l : Option Addr) (lL : Nat) (lC : Nat) (i : Int) (x : Int) (m : Option Addr) (h : Hp)  (K : Value → Hp → Prop) : Prop :=
  sx_3 Try.prog F 112 (cp [1, 1, 1, 1, 1, 1] (bodyOf Try.f3)) (ap [1, 1, 1, 1, 1, 1] l48_SuccinctLists_an) [(0, .slice l lL lC), (1, .int .i64 i), (2, .int .i64 x), (7, .pointer m)] h (l48_SuccinctLists_K0  K)
def l48_SuccinctLists_b2 (l : Option Addr) (lL : Nat) (lC : Nat) (i : Int) (nv : Int) (g : Int) (h : Hp)  (K : Value → Hp → Prop) : Prop :=
  sx_2 Try.prog F 112 (cp [1, 1, 1, 1, 1, 1, 1, 1, 1, 1, 1] (bodyOf Try.f3)) (ap [1, 1, 1, 1, 1, 1, 1, 1, 1, 1, 1] l48_SuccinctLists_an) [(0, .slice l lL lC), (1, .int .i64 i), (10, .int .i64 nv), (11, .int .i64 g)] h (l48_SuccinctLists_K0  K)
def l48_SuccinctLists_b3 (l : Option Addr) (lL : Nat) (lC : Nat) (i : Int) (nv : Int) (g : Int) (h : Hp)  (K : Value → Hp → Prop) : Prop :=
  sx_1 Try.prog F 112 (cp [1, 1, 1, 1, 1, 1, 1, 1, 1, 1, 1, 1] (bodyOf Try.f3)) (ap [1, 1, 1, 1, 1, 1, 1, 1, 1, 1, 1, 1] l48_SuccinctLists_an) [(0, .slice l lL lC), (1, .int .i64 i), (10, .int .i64 nv), (11, .int .i64 g)] h (l48_SuccinctLists_K0  K)
theorem l48_SuccinctLists_b0_eq (l : Option Addr) (lL : Nat) (lC : Nat) (i : Int) (x : Int) (h : Hp)  (K : Value → Hp → Prop) : l48_SuccinctLists_b0 l lL lC i x h  K = (
  HCalls Try.prog 11 #[] h fun v1 h1 => ∃ r1 : Bool, v1 = .bool r1 ∧
  cond (!r1)
  (K (.bool false) h1)
  (HCalls Try.prog 12 #[.slice l lL lC] h1 fun v2 h2 => ∃ r2 : Bool, v2 = .bool r2 ∧
  cond r2
  (K (.bool true) h2)
  (HCalls Try.prog 13 #[.slice l lL lC] h2 fun v3 h3 => ∃ r3 : Option Addr, ∃ r4 : Int, v3 = .tuple #[.pointer r3, .int .i64 r4] ∧
  HCalls Try.prog 14 #[.slice l lL lC] h3 fun v4 h4 => ∃ r5 : Int, v4 = .int .i64 r5 ∧
  cond (!decide (r4 = r5))
  (K (.bool false) h4)
  (cond (!(r3.isNone == (!decide (r5 = 0))))
  (K (.bool false) h4)
  (l48_SuccinctLists_b1 l lL lC i x r3 h4  K))))) := by kernel_rfl
theorem l48_SuccinctLists_b1_eq (l : Option Addr) (lL : Nat) (lC : Nat) (i : Int) (x : Int) (m : Option Addr) (h : Hp)  (K : Value → Hp → Prop) : l48_SuccinctLists_b1 l lL lC i x m h  K = (
  cond m.isNone
  (K (.bool true) h)
  (HCalls Try.prog 15 #[.pointer m, .int .i64 i] h fun v5 h5 => ∃ r6 : Int, ∃ r7 : Int, v5 = .tuple #[.int .i64 r6, .int .i64 r7] ∧
  HCalls Try.prog 16 #[.pointer m, .int .i64 x] h5 fun v6 h6 => ∃ r8 : Int, ∃ r9 : Int, ∃ r10 : Int, v6 = .tuple #[.int .i64 r8, .int .i64 r9, .int .i64 r10] ∧
  HCalls Try.prog 17 #[.slice l lL lC, .int .i64 x] h6 fun v7 h7 => ∃ r11 : Int, ∃ r12 : Int, ∃ r13 : Int, v7 = .tuple #[.int .i64 r11, .int .i64 r12, .int .i64 r13] ∧
  HCalls Try.prog 18 #[.pointer m] h7 fun v8 h8 => ∃ r14 : Int, v8 = .int .i64 r14 ∧
  cond (!decide (r14 = (lL : Int)))
  (K (.bool false) h8)
  (HCalls Try.prog 19 #[.pointer m] h8 fun v9 h9 => ∃ r15 : Int, v9 = .int .i64 r15 ∧
  HCalls Try.prog 20 #[.slice l lL lC] h9 fun v10 h10 => ∃ r16 : Int, v10 = .int .i64 r16 ∧
  cond (!decide (r15 = r16))
  (K (.bool false) h10)
  (cond (!decide (r8 = r11))
  (K (.bool false) h10)
  (cond (!decide (r9 = r12))
  (K (.bool false) h10)
  (cond (!decide (r10 = r13))
  (K (.bool false) h10)
  (l48_SuccinctLists_b2 l lL lC i r6 r7 h10  K))))))) := by kernel_rfl
theorem l48_SuccinctLists_b2_eq (l : Option Addr) (lL : Nat) (lC : Nat) (i : Int) (nv : Int) (g : Int) (h : Hp)  (K : Value → Hp → Prop) : l48_SuccinctLists_b2 l lL lC i nv g h  K = (
  cond (decide (i < 0))
  (cond (decide (nv = 0))
  (K (.bool (decide (g = 2))) h)
  (K (.bool false) h))
  (cond (decide ((lL : Int) ≤ i))
  (cond (decide (nv = 0))
  (K (.bool (decide (g = 2))) h)
  (K (.bool false) h))
  (l48_SuccinctLists_b3 l lL lC i nv g h  K))) := by kernel_rfl
theorem l48_SuccinctLists_b3_eq (l : Option Addr) (lL : Nat) (lC : Nat) (i : Int) (nv : Int) (g : Int) (h : Hp)  (K : Value → Hp → Prop) : l48_SuccinctLists_b3 l lL lC i nv g h  K = (
  cond (decide (g = 0))
  ((0 ≤ i ∧ i < (lL : Int)) ∧
  NN l fun a1 =>
  ∃ n1 : Int, cell h (a1.add (Int.toNat i * 1)) = some (.int .i64 n1) ∧
  K (.bool (decide (nv = n1))) h)
  (K (.bool false) h)) := by kernel_rfl
theorem l48_SuccinctLists_call {l : Option Addr} {lL : Nat} {lC : Nat} {i : Int} {x : Int} {h : Hp} {K : Value → Hp → Prop} (hk : l48_SuccinctLists_b0 l lL lC i x h K) : HCalls Try.prog 3 #[.slice l lL lC, .int .i64 i, .int .i64 x] h K :=
  calls_of_snd l48_SuccinctLists_an Try.func3 (c := bodyOf Try.f3) rfl Try.ntmps3 (Nat.le_of_ble_eq_true rfl) (snd_4 F_ok F_mixed) hk

/-! ### l48_SuccinctFinds -/
def l48_SuccinctFinds_an : Ann := .node none (.leaf) (.node none (.leaf) (.node none (.leaf) (.node none (.leaf) (.node none (.leaf) (.node (some [0, 1, 5]) (.leaf) (.node none (.leaf) (.node (some [0, 1, 5, 7]) (.leaf) (.node (some [0, 5]) (.leaf) (.node (some []) (.node none (.leaf) (.loop [0, 5, 98] [(99, .int .i64)] (.node none (.leaf) (.node none (.leaf) (.node (some [0, 5, 98, 99]) (.leaf) (.leaf)))))) (.leaf))))))))))
def l48_SuccinctFinds_K0  (K : Value → Hp → Prop) : Exit → Env → Hp → Prop := retK Try.prog Try.f4.results.toList K
def l48_SuccinctFinds_K1  (K : Value → Hp → Prop) : Exit → Env → Hp → Prop := thenE (fun env h => sx_2 Try.prog F 157 (cp [1, 1, 1, 1, 1, 1, 1, 1, 1, 1] (bodyOf Try.f4)) (ap [1, 1, 1, 1, 1, 1, 1, 1, 1, 1] l48_SuccinctFinds_an) (rs [] env) h (l48_SuccinctFinds_K0  K)) (l48_SuccinctFinds_K0  K)
def l48_SuccinctFinds_K2  (K : Value → Hp → Prop) : Exit → Env → Hp → Prop := blockE 0 (l48_SuccinctFinds_K1  K)
def l48_SuccinctFinds_K3 (nx0 : Int × Unit → Hp → Prop) (K : Value → Hp → Prop) : Exit → Env → Hp → Prop := thenE (fun env h => getV [(99, .int .i64)] env fun s => nx0 s h) (l48_SuccinctFinds_K2  K)
def l48_SuccinctFinds_b0 (l : Option Addr) (lL : Nat) (lC : Nat) (x : Int) (h : Hp)  (K : Value → Hp → Prop) : Prop :=
  sx_6 Try.prog F 157 (cp [] (bodyOf Try.f4)) (ap [] l48_SuccinctFinds_an) [(0, .slice l lL lC), (1, .int .i64 x)] h (l48_SuccinctFinds_K0  K)
def l48_SuccinctFinds_b1 (l : Option Addr) (lL : Nat) (lC : Nat) (x : Int) (m : Option Addr) (h : Hp)  (K : Value → Hp → Prop) : Prop :=
  sx_5 Try.prog F 157 (cp [1, 1, 1, 1, 1, 1] (bodyOf Try.f4)) (ap [1, 1, 1, 1, 1, 1] l48_SuccinctFinds_an) [(0, .slice l lL lC), (1, .int .i64 x), (5, .pointer m)] h (l48_SuccinctFinds_K0  K)
def l48_SuccinctFinds_b2 (l : Option Addr) (lL : Nat) (lC : Nat) (x : Int) (m : Option Addr) (i : Int) (h : Hp)  (K : Value → Hp → Prop) : Prop :=
  sx_4 Try.prog F 157 (cp [1, 1, 1, 1, 1, 1, 1, 1] (bodyOf Try.f4)) (ap [1, 1, 1, 1, 1, 1, 1, 1] l48_SuccinctFinds_an) [(0, .slice l lL lC), (1, .int .i64 x), (5, .pointer m), (7, .int .i64 i)] h (l48_SuccinctFinds_K0  K)
def l48_SuccinctFinds_b3 (l : Option Addr) (lL : Nat) (lC : Nat) (m : Option Addr) (h : Hp)  (K : Value → Hp → Prop) : Prop :=
  sx_3 Try.prog F 157 (cp [1, 1, 1, 1, 1, 1, 1, 1, 1] (bodyOf Try.f4)) (ap [1, 1, 1, 1, 1, 1, 1, 1, 1] l48_SuccinctFinds_an) [(0, .slice l lL lC), (5, .pointer m)] h (l48_SuccinctFinds_K0  K)
def l48_SuccinctFinds_b4 (t99 : Int) (l : Option Addr) (lL : Nat) (lC : Nat) (m : Option Addr) (t98 : Int) (h : Hp) (nx0 : Int × Unit → Hp → Prop) (K : Value → Hp → Prop) : Prop :=
  sx_2 Try.prog F 157 (cp [1, 1, 1, 1, 1, 1, 1, 1, 1, 0, 1, 2, 2] (bodyOf Try.f4)) (ap [1, 1, 1, 1, 1, 1, 1, 1, 1, 0, 1, 2] l48_SuccinctFinds_an) [(99, .int .i64 t99), (0, .slice l lL lC), (5, .pointer m), (98, .int .i64 t98)] h (l48_SuccinctFinds_K3 nx0 K)
def l48_SuccinctFinds_b5 (l : Option Addr) (lL : Nat) (lC : Nat) (m : Option Addr) (t98 : Int) (t99 : Int) (h : Hp) (nx0 : Int × Unit → Hp → Prop) (K : Value → Hp → Prop) : Prop :=
  sx_1 Try.prog F 157 (cp [1, 1, 1, 1, 1, 1, 1, 1, 1, 0, 1, 2, 2, 1, 1, 1] (bodyOf Try.f4)) (ap [1, 1, 1, 1, 1, 1, 1, 1, 1, 0, 1, 2, 1, 1, 1] l48_SuccinctFinds_an) [(0, .slice l lL lC), (5, .pointer m), (98, .int .i64 t98), (99, .int .i64 t99)] h (l48_SuccinctFinds_K3 nx0 K)
def l48_SuccinctFinds_b6  (h : Hp)  (K : Value → Hp → Prop) : Prop :=
  sx_2 Try.prog F 157 (cp [1, 1, 1, 1, 1, 1, 1, 1, 1, 1] (bodyOf Try.f4)) (ap [1, 1, 1, 1, 1, 1, 1, 1, 1, 1] l48_SuccinctFinds_an) [] h (l48_SuccinctFinds_K0  K)
theorem l48_SuccinctFinds_b0_eq (l : Option Addr) (lL : Nat) (lC : Nat) (x : Int) (h : Hp)  (K : Value → Hp → Prop) : l48_SuccinctFinds_b0 l lL lC x h  K = (
  HCalls Try.prog 11 #[] h fun v1 h1 => ∃ r1 : Bool, v1 = .bool r1 ∧
  cond (!r1)
  (K (.bool false) h1)
  (HCalls Try.prog 12 #[.slice l lL lC] h1 fun v2 h2 => ∃ r2 : Bool, v2 = .bool r2 ∧
  cond r2
  (K (.bool true) h2)
  (HCalls Try.prog 13 #[.slice l lL lC] h2 fun v3 h3 => ∃ r3 : Option Addr, ∃ r4 : Int, v3 = .tuple #[.pointer r3, .int .i64 r4] ∧
  cond (!decide (r4 = 0))
  (K (.bool r3.isNone) h3)
  (cond r3.isNone
  (K (.bool false) h3)
  (HCalls Try.prog 18 #[.pointer r3] h3 fun v4 h4 => ∃ r5 : Int, v4 = .int .i64 r5 ∧
  cond (!decide (r5 = (lL : Int)))
  (K (.bool false) h4)
  (l48_SuccinctFinds_b1 l lL lC x r3 h4  K)))))) := by kernel_rfl
theorem l48_SuccinctFinds_b1_eq (l : Option Addr) (lL : Nat) (lC : Nat) (x : Int) (m : Option Addr) (h : Hp)  (K : Value → Hp → Prop) : l48_SuccinctFinds_b1 l lL lC x m h  K = (
  HCalls Try.prog 16 #[.pointer m, .int .i64 x] h fun v5 h5 => ∃ r6 : Int, ∃ r7 : Int, ∃ r8 : Int, v5 = .tuple #[.int .i64 r6, .int .i64 r7, .int .i64 r8] ∧
  cond (decide (r8 = 0))
  (HCalls Try.prog 15 #[.pointer m, .int .i64 r6] h5 fun v6 h6 => ∃ r9 : Int, ∃ r10 : Int, v6 = .tuple #[.int .i64 r9, .int .i64 r10] ∧
  cond (!decide (r10 = 0))
  (K (.bool false) h6)
  (cond (!decide (r9 = r7))
  (K (.bool false) h6)
  (cond (decide (r7 < x))
  (K (.bool false) h6)
  (l48_SuccinctFinds_b2 l lL lC x m r6 h6  K))))
  (cond (!decide (r8 = 12))
  (K (.bool false) h5)
  (cond (!decide (r6 = 0))
  (K (.bool false) h5)
  (cond (!decide (r7 = 0))
  (K (.bool false) h5)
  (l48_SuccinctFinds_b2 l lL lC x m (lL : Int) h5  K))))) := by kernel_rfl
theorem l48_SuccinctFinds_b2_eq (l : Option Addr) (lL : Nat) (lC : Nat) (x : Int) (m : Option Addr) (i : Int) (h : Hp)  (K : Value → Hp → Prop) : l48_SuccinctFinds_b2 l lL lC x m i h  K = (
  cond (decide ((0 : Int) < i))
  (InR (i - 1) ∧
  HCalls Try.prog 15 #[.pointer m, .int .i64 (i - 1)] h fun v7 h7 => ∃ r11 : Int, ∃ r12 : Int, v7 = .tuple #[.int .i64 r11, .int .i64 r12] ∧
  cond (!decide (r12 = 0))
  (K (.bool false) h7)
  (cond (decide (x ≤ r11))
  (K (.bool false) h7)
  (l48_SuccinctFinds_b3 l lL lC m h7  K)))
  (l48_SuccinctFinds_b3 l lL lC m h  K)) := by kernel_rfl
theorem l48_SuccinctFinds_b3_eq (l : Option Addr) (lL : Nat) (lC : Nat) (m : Option Addr) (h : Hp)  (K : Value → Hp → Prop) : l48_SuccinctFinds_b3 l lL lC m h  K = (
  LoopVC ((0, ()) : Int × Unit) h (fun (nx0 : Int × Unit → Hp → Prop) (s1 : Int × Unit) h8 => l48_SuccinctFinds_b4 s1.1 l lL lC m (lL : Int) h8 nx0 K)) := by kernel_rfl
theorem l48_SuccinctFinds_b4_eq (t99 : Int) (l : Option Addr) (lL : Nat) (lC : Nat) (m : Option Addr) (t98 : Int) (h : Hp) (nx0 : Int × Unit → Hp → Prop) (K : Value → Hp → Prop) : l48_SuccinctFinds_b4 t99 l lL lC m t98 h nx0 K = (
  cond (decide (t99 < t98))
  (HCalls Try.prog 15 #[.pointer m, .int .i64 t99] h fun v8 h9 => ∃ r13 : Int, ∃ r14 : Int, v8 = .tuple #[.int .i64 r13, .int .i64 r14] ∧
  HCalls Try.prog 16 #[.pointer m, .int .i64 r13] h9 fun v9 h10 => ∃ r15 : Int, ∃ r16 : Int, ∃ r17 : Int, v9 = .tuple #[.int .i64 r15, .int .i64 r16, .int .i64 r17] ∧
  cond (!decide (r14 = 0))
  (K (.bool false) h10)
  (cond (!decide (r17 = 0))
  (K (.bool false) h10)
  (cond (!decide (r16 = r13))
  (K (.bool false) h10)
  (cond (decide (t99 < r15))
  (K (.bool false) h10)
  (cond (decide (r15 < 0))
  (K (.bool false) h10)
  ((0 ≤ r15 ∧ r15 < (lL : Int)) ∧
  NN l fun a1 =>
  ∃ n1 : Int, cell h10 (a1.add (Int.toNat r15 * 1)) = some (.int .i64 n1) ∧
  cond (!decide (n1 = r13))
  (K (.bool false) h10)
  (cond (decide ((0 : Int) < r15))
  (InR (r15 - 1) ∧
  (0 ≤ r15 - 1 ∧ r15 - 1 < (lL : Int)) ∧
  NN l fun a2 =>
  ∃ n2 : Int, cell h10 (a2.add (Int.toNat (r15 - 1) * 1)) = some (.int .i64 n2) ∧
  cond (decide (r13 ≤ n2))
  (K (.bool false) h10)
  (l48_SuccinctFinds_b5 l lL lC m t98 t99 h10 nx0 K))
  (l48_SuccinctFinds_b5 l lL lC m t98 t99 h10 nx0 K))))))))
  (l48_SuccinctFinds_b6  h  K)) := by kernel_rfl
theorem l48_SuccinctFinds_b5_eq (l : Option Addr) (lL : Nat) (lC : Nat) (m : Option Addr) (t98 : Int) (t99 : Int) (h : Hp) (nx0 : Int × Unit → Hp → Prop) (K : Value → Hp → Prop) : l48_SuccinctFinds_b5 l lL lC m t98 t99 h nx0 K = (
  InR (t99 + 1) ∧
  nx0 (t99 + 1, ()) h) := by kernel_rfl
theorem l48_SuccinctFinds_b6_eq  (h : Hp)  (K : Value → Hp → Prop) : l48_SuccinctFinds_b6  h  K = (
  K (.bool true) h) := by kernel_rfl
theorem l48_SuccinctFinds_call {l : Option Addr} {lL : Nat} {lC : Nat} {x : Int} {h : Hp} {K : Value → Hp → Prop} (hk : l48_SuccinctFinds_b0 l lL lC x h K) : HCalls Try.prog 4 #[.slice l lL lC, .int .i64 x] h K :=
  calls_of_snd l48_SuccinctFinds_an Try.func4 (c := bodyOf Try.f4) rfl Try.ntmps4 (Nat.le_of_ble_eq_true rfl) (snd_6 F_ok F_mixed) hk

/-! ### l48_SuccinctMakes -/
def l48_SuccinctMakes_an : Ann := .node none (.leaf) (.node none (.leaf) (.node (some [0, 1]) (.leaf) (.node none (.leaf) (.node (some [1]) (.leaf) (.node none (.leaf) (.node none (.leaf) (.node (some [1, 8]) (.leaf) (.leaf))))))))
def l48_SuccinctMakes_K0  (K : Value → Hp → Prop) : Exit → Env → Hp → Prop := retK Try.prog Try.f5.results.toList K
def l48_SuccinctMakes_b0 (parents : Option Addr) (parentsL : Nat) (parentsC : Nat) (s : ByteArray) (h : Hp)  (K : Value → Hp → Prop) : Prop :=
  sx_4 Try.prog F 95 (cp [] (bodyOf Try.f5)) (ap [] l48_SuccinctMakes_an) [(0, .slice parents parentsL parentsC), (1, .string s)] h (l48_SuccinctMakes_K0  K)
def l48_SuccinctMakes_b1 (parents : Option Addr) (parentsL : Nat) (parentsC : Nat) (s : ByteArray) (h : Hp)  (K : Value → Hp → Prop) : Prop :=
  sx_3 Try.prog F 95 (cp [1, 1, 1] (bodyOf Try.f5)) (ap [1, 1, 1] l48_SuccinctMakes_an) [(0, .slice parents parentsL parentsC), (1, .string s)] h (l48_SuccinctMakes_K0  K)
def l48_SuccinctMakes_b2 (s : ByteArray) (h : Hp)  (K : Value → Hp → Prop) : Prop :=
  sx_2 Try.prog F 95 (cp [1, 1, 1, 1, 1] (bodyOf Try.f5)) (ap [1, 1, 1, 1, 1] l48_SuccinctMakes_an) [(1, .string s)] h (l48_SuccinctMakes_K0  K)
def l48_SuccinctMakes_b3 (s : ByteArray) (u : Option Addr) (h : Hp)  (K : Value → Hp → Prop) : Prop :=
  sx_1 Try.prog F 95 (cp [1, 1, 1, 1, 1, 1, 1, 1] (bodyOf Try.f5)) (ap [1, 1, 1, 1, 1, 1, 1, 1] l48_SuccinctMakes_an) [(1, .string s), (8, .pointer u)] h (l48_SuccinctMakes_K0  K)
theorem l48_SuccinctMakes_b0_eq (parents : Option Addr) (parentsL : Nat) (parentsC : Nat) (s : ByteArray) (h : Hp)  (K : Value → Hp → Prop) : l48_SuccinctMakes_b0 parents parentsL parentsC s h  K = (
  HCalls Try.prog 11 #[] h fun v1 h1 => ∃ r1 : Bool, v1 = .bool r1 ∧
  cond (!r1)
  (K (.bool false) h1)
  (HCalls Try.prog 12 #[.slice parents parentsL parentsC] h1 fun v2 h2 => ∃ r2 : Bool, v2 = .bool r2 ∧
  cond r2
  (K (.bool true) h2)
  (cond (decide ((200 : Int) < (s.size : Int)))
  (cond (decide ((s.size : Int) ≤ 2000))
  (K (.bool true) h2)
  (cond (decide ((2100 : Int) < (s.size : Int)))
  (K (.bool true) h2)
  (l48_SuccinctMakes_b1 parents parentsL parentsC s h2  K)))
  (cond (decide ((2100 : Int) < (s.size : Int)))
  (K (.bool true) h2)
  (l48_SuccinctMakes_b1 parents parentsL parentsC s h2  K))))) := by kernel_rfl
theorem l48_SuccinctMakes_b1_eq (parents : Option Addr) (parentsL : Nat) (parentsC : Nat) (s : ByteArray) (h : Hp)  (K : Value → Hp → Prop) : l48_SuccinctMakes_b1 parents parentsL parentsC s h  K = (
  HCalls Try.prog 21 #[.slice parents parentsL parentsC] h fun v3 h3 => ∃ r3 : Option Addr, ∃ r4 : ByteArray, ∃ r5 : Bool, v3 = .tuple #[.pointer r3, .string r4, .bool r5] ∧
  cond (!r5)
  (K (.bool false) h3)
  (cond (!r3.isNone)
  (HCalls Try.prog 22 #[.pointer r3] h3 fun v4 h4 => ∃ r6 : ByteArray, v4 = .string r6 ∧
  cond (!strEq r6 r4)
  (K (.bool false) h4)
  (HCalls Try.prog 23 #[.pointer r3] h4 fun v5 h5 => ∃ r7 : Int, v5 = .int .i64 r7 ∧
  cond (!decide (r7 = (parentsL : Int)))
  (K (.bool false) h5)
  (HCalls Try.prog 24 #[.pointer r3] h5 fun v6 h6 => ∃ r8 : Int, v6 = .int .i64 r8 ∧
  InR (2 * (parentsL : Int)) ∧
  cond (!decide (r8 = (2 * (parentsL : Int))))
  (K (.bool false) h6)
  (l48_SuccinctMakes_b2 s h6  K))))
  (l48_SuccinctMakes_b2 s h3  K))) := by kernel_rfl
theorem l48_SuccinctMakes_b2_eq (s : ByteArray) (h : Hp)  (K : Value → Hp → Prop) : l48_SuccinctMakes_b2 s h  K = (
  HCalls Try.prog 25 #[.string s] h fun v7 h7 => ∃ r9 : Option Addr, ∃ r10 : Int, v7 = .tuple #[.pointer r9, .int .i64 r10] ∧
  HCalls Try.prog 26 #[.string s] h7 fun v8 h8 => ∃ r11 : Int, v8 = .int .i64 r11 ∧
  cond (!decide (r10 = r11))
  (K (.bool false) h8)
  (cond (!(r9.isNone == (!decide (r11 = 0))))
  (K (.bool false) h8)
  (l48_SuccinctMakes_b3 s r9 h8  K))) := by kernel_rfl
theorem l48_SuccinctMakes_b3_eq (s : ByteArray) (u : Option Addr) (h : Hp)  (K : Value → Hp → Prop) : l48_SuccinctMakes_b3 s u h  K = (
  cond u.isNone
  (K (.bool true) h)
  (HCalls Try.prog 22 #[.pointer u] h fun v9 h9 => ∃ r12 : ByteArray, v9 = .string r12 ∧
  cond (strEq r12 s)
  (HCalls Try.prog 23 #[.pointer u] h9 fun v10 h10 => ∃ r13 : Int, v10 = .int .i64 r13 ∧
  HCalls Try.prog 27 #[.string s] h10 fun v11 h11 => ∃ r14 : Int, v11 = .int .i64 r14 ∧
  K (.bool (decide (r13 = r14))) h11)
  (K (.bool false) h9))) := by kernel_rfl
theorem l48_SuccinctMakes_call {parents : Option Addr} {parentsL : Nat} {parentsC : Nat} {s : ByteArray} {h : Hp} {K : Value → Hp → Prop} (hk : l48_SuccinctMakes_b0 parents parentsL parentsC s h K) : HCalls Try.prog 5 #[.slice parents parentsL parentsC, .string s] h K :=
  calls_of_snd l48_SuccinctMakes_an Try.func5 (c := bodyOf Try.f5) rfl Try.ntmps5 (Nat.le_of_ble_eq_true rfl) (snd_4 F_ok F_mixed) hk

/-! ### l48_SuccinctVersions -/
def l48_SuccinctVersions_an : Ann := .node none (.leaf) (.node none (.leaf) (.node none (.leaf) (.node (some [0, 1, 2, 7]) (.leaf) (.node none (.leaf) (.node (some [0, 1, 2, 7, 8]) (.leaf) (.node none (.leaf) (.node none (.leaf) (.node none (.leaf) (.node (some [0, 1, 2, 7, 8, 10]) (.node none (.leaf) (.loop [0, 1, 2, 7, 8, 10, 11, 62, 63] [(12, .int .i64), (64, .int .i64)] (.node none (.leaf) (.node none (.leaf) (.node (some [0, 1, 2, 7, 8, 10, 11, 12, 62, 63, 64]) (.leaf) (.leaf)))))) (.node none (.leaf) (.node none (.plan (.qu 0 (.qu 1 (.qu 2 (.qu 3 (.qu 4 (.qu 5 (.qu 6 (.qu 7 (.qu 8 (.wo 9 (.qu 10 (.qu 11 (.qu 12 (.qu 13 (.qu 14 .fin))))) .no))))))))))) (.node none (.leaf) (.node (some [0, 1, 10, 19]) (.leaf) (.leaf))))))))))))))
def l48_SuccinctVersions_K0  (K : Value → Hp → Prop) : Exit → Env → Hp → Prop := retK Try.prog Try.f6.results.toList K
def l48_SuccinctVersions_K1  (K : Value → Hp → Prop) : Exit → Env → Hp → Prop := thenE (fun env h => sx_2 Try.prog F 160 (cp [1, 1, 1, 1, 1, 1, 1, 1, 1, 1] (bodyOf Try.f6)) (ap [1, 1, 1, 1, 1, 1, 1, 1, 1, 1] l48_SuccinctVersions_an) (rs [0, 1, 2, 7, 8, 10] env) h (l48_SuccinctVersions_K0  K)) (l48_SuccinctVersions_K0  K)
def l48_SuccinctVersions_K2  (K : Value → Hp → Prop) : Exit → Env → Hp → Prop := blockE 0 (l48_SuccinctVersions_K1  K)
def l48_SuccinctVersions_K3 (nx0 : Int × Int × Unit → Hp → Prop) (K : Value → Hp → Prop) : Exit → Env → Hp → Prop := thenE (fun env h => getV [(12, .int .i64), (64, .int .i64)] env fun s => nx0 s h) (l48_SuccinctVersions_K2  K)
def l48_SuccinctVersions_b0 (parents : Option Addr) (parentsL : Nat) (parentsC : Nat) (a : Int) (b : Int) (h : Hp)  (K : Value → Hp → Prop) : Prop :=
  sx_5 Try.prog F 160 (cp [] (bodyOf Try.f6)) (ap [] l48_SuccinctVersions_an) [(0, .slice parents parentsL parentsC), (1, .int .i64 a), (2, .int .i64 b)] h (l48_SuccinctVersions_K0  K)
def l48_SuccinctVersions_b1 (parents : Option Addr) (parentsL : Nat) (parentsC : Nat) (a : Int) (b : Int) (tree : Option Addr) (h : Hp)  (K : Value → Hp → Prop) : Prop :=
  sx_4 Try.prog F 160 (cp [1, 1, 1, 1] (bodyOf Try.f6)) (ap [1, 1, 1, 1] l48_SuccinctVersions_an) [(0, .slice parents parentsL parentsC), (1, .int .i64 a), (2, .int .i64 b), (7, .pointer tree)] h (l48_SuccinctVersions_K0  K)
def l48_SuccinctVersions_b2 (parents : Option Addr) (parentsL : Nat) (parentsC : Nat) (a : Int) (b : Int) (tree : Option Addr) (t : Option Addr) (h : Hp)  (K : Value → Hp → Prop) : Prop :=
  sx_3 Try.prog F 160 (cp [1, 1, 1, 1, 1, 1] (bodyOf Try.f6)) (ap [1, 1, 1, 1, 1, 1] l48_SuccinctVersions_an) [(0, .slice parents parentsL parentsC), (1, .int .i64 a), (2, .int .i64 b), (7, .pointer tree), (8, .pointer t)] h (l48_SuccinctVersions_K0  K)
def l48_SuccinctVersions_b3 (nv : Int) (t64 : Int) (parents : Option Addr) (parentsL : Nat) (parentsC : Nat) (a : Int) (b : Int) (tree : Option Addr) (t : Option Addr) (number : Option Addr) (numberL : Nat) (numberC : Nat) (seen : Option Addr) (seenL : Nat) (seenC : Nat) (t62 : Option Addr) (t62L : Nat) (t62C : Nat) (t63 : Int) (h : Hp) (nx0 : Int × Int × Unit → Hp → Prop) (K : Value → Hp → Prop) : Prop :=
  sx_2 Try.prog F 160 (cp [1, 1, 1, 1, 1, 1, 1, 1, 1, 0, 1, 2, 2] (bodyOf Try.f6)) (ap [1, 1, 1, 1, 1, 1, 1, 1, 1, 0, 1, 2] l48_SuccinctVersions_an) [(12, .int .i64 nv), (64, .int .i64 t64), (0, .slice parents parentsL parentsC), (1, .int .i64 a), (2, .int .i64 b), (7, .pointer tree), (8, .pointer t), (10, .slice number numberL numberC), (11, .slice seen seenL seenC), (62, .slice t62 t62L t62C), (63, .int .i64 t63)] h (l48_SuccinctVersions_K3 nx0 K)
def l48_SuccinctVersions_b4 (parents : Option Addr) (parentsL : Nat) (parentsC : Nat) (a : Int) (b : Int) (tree : Option Addr) (t : Option Addr) (number : Option Addr) (numberL : Nat) (numberC : Nat) (seen : Option Addr) (seenL : Nat) (seenC : Nat) (nv : Int) (t62 : Option Addr) (t62L : Nat) (t62C : Nat) (t63 : Int) (t64 : Int) (h : Hp) (nx0 : Int × Int × Unit → Hp → Prop) (K : Value → Hp → Prop) : Prop :=
  sx_1 Try.prog F 160 (cp [1, 1, 1, 1, 1, 1, 1, 1, 1, 0, 1, 2, 2, 1, 1, 1] (bodyOf Try.f6)) (ap [1, 1, 1, 1, 1, 1, 1, 1, 1, 0, 1, 2, 1, 1, 1] l48_SuccinctVersions_an) [(0, .slice parents parentsL parentsC), (1, .int .i64 a), (2, .int .i64 b), (7, .pointer tree), (8, .pointer t), (10, .slice number numberL numberC), (11, .slice seen seenL seenC), (12, .int .i64 nv), (62, .slice t62 t62L t62C), (63, .int .i64 t63), (64, .int .i64 t64)] h (l48_SuccinctVersions_K3 nx0 K)
def l48_SuccinctVersions_b5 (parents : Option Addr) (parentsL : Nat) (parentsC : Nat) (a : Int) (b : Int) (tree : Option Addr) (t : Option Addr) (number : Option Addr) (numberL : Nat) (numberC : Nat) (h : Hp)  (K : Value → Hp → Prop) : Prop :=
  sx_2 Try.prog F 160 (cp [1, 1, 1, 1, 1, 1, 1, 1, 1, 1] (bodyOf Try.f6)) (ap [1, 1, 1, 1, 1, 1, 1, 1, 1, 1] l48_SuccinctVersions_an) [(0, .slice parents parentsL parentsC), (1, .int .i64 a), (2, .int .i64 b), (7, .pointer tree), (8, .pointer t), (10, .slice number numberL numberC)] h (l48_SuccinctVersions_K0  K)
def l48_SuccinctVersions_b6 (parents : Option Addr) (parentsL : Nat) (parentsC : Nat) (a : Int) (number : Option Addr) (numberL : Nat) (numberC : Nat) (p : Int) (h : Hp)  (K : Value → Hp → Prop) : Prop :=
  sx_1 Try.prog F 160 (cp [1, 1, 1, 1, 1, 1, 1, 1, 1, 1, 1, 1, 1, 1] (bodyOf Try.f6)) (ap [1, 1, 1, 1, 1, 1, 1, 1, 1, 1, 1, 1, 1, 1] l48_SuccinctVersions_an) [(0, .slice parents parentsL parentsC), (1, .int .i64 a), (10, .slice number numberL numberC), (19, .int .i64 p)] h (l48_SuccinctVersions_K0  K)
theorem l48_SuccinctVersions_b0_eq (parents : Option Addr) (parentsL : Nat) (parentsC : Nat) (a : Int) (b : Int) (h : Hp)  (K : Value → Hp → Prop) : l48_SuccinctVersions_b0 parents parentsL parentsC a b h  K = (
  HCalls Try.prog 11 #[] h fun v1 h1 => ∃ r1 : Bool, v1 = .bool r1 ∧
  cond (!r1)
  (K (.bool false) h1)
  (New h1 (.cells #[.slice none 0 0] 48) fun b1 h2 =>
  Wr h2 ⟨b1, 0, none⟩ (.slice parents parentsL parentsC) fun h3 =>
  HCalls Try.prog 12 #[.slice parents parentsL parentsC] h3 fun v2 h4 => ∃ r2 : Bool, v2 = .bool r2 ∧
  cond r2
  (K (.bool true) h4)
  (∃ (a1 : Option Addr) (L1 C1 : Nat), cell h4 ⟨b1, 0, none⟩ = some (.slice a1 L1 C1) ∧
  HCalls Try.prog 28 #[.agg #[.slice a1 L1 C1]] h4 fun v3 h5 => ∃ r3 : Bool, v3 = .bool r3 ∧
  cond (!r3)
  (K (.bool true) h5)
  (∃ (a2 : Option Addr) (L2 C2 : Nat), cell h5 ⟨b1, 0, none⟩ = some (.slice a2 L2 C2) ∧
  HCalls Try.prog 29 #[.agg #[.slice a2 L2 C2], .int .i64 a] h5 fun v4 h6 => ∃ r4 : Bool, v4 = .bool r4 ∧
  cond (!r4)
  (K (.bool true) h6)
  (∃ (a3 : Option Addr) (L3 C3 : Nat), cell h6 ⟨b1, 0, none⟩ = some (.slice a3 L3 C3) ∧
  HCalls Try.prog 29 #[.agg #[.slice a3 L3 C3], .int .i64 b] h6 fun v5 h7 => ∃ r5 : Bool, v5 = .bool r5 ∧
  cond (!r5)
  (K (.bool true) h7)
  (l48_SuccinctVersions_b1 parents parentsL parentsC a b (some ⟨b1, 0, none⟩) h7  K)))))) := by kernel_rfl
theorem l48_SuccinctVersions_b1_eq (parents : Option Addr) (parentsL : Nat) (parentsC : Nat) (a : Int) (b : Int) (tree : Option Addr) (h : Hp)  (K : Value → Hp → Prop) : l48_SuccinctVersions_b1 parents parentsL parentsC a b tree h  K = (
  HCalls Try.prog 30 #[.slice parents parentsL parentsC] h fun v6 h8 => ∃ r6 : Option Addr, ∃ r7 : Int, v6 = .tuple #[.pointer r6, .int .i64 r7] ∧
  cond (!decide (r7 = 0))
  (K (.bool false) h8)
  (cond r6.isNone
  (K (.bool false) h8)
  (l48_SuccinctVersions_b2 parents parentsL parentsC a b tree r6 h8  K))) := by kernel_rfl
theorem l48_SuccinctVersions_b2_eq (parents : Option Addr) (parentsL : Nat) (parentsC : Nat) (a : Int) (b : Int) (tree : Option Addr) (t : Option Addr) (h : Hp)  (K : Value → Hp → Prop) : l48_SuccinctVersions_b2 parents parentsL parentsC a b tree t h  K = (
  (0 ≤ (parentsL : Int) ∧ (parentsL : Int) ≤ (parentsL : Int) ∧ (parentsL : Int) ≤ 281474976710656 ∧ (parentsL : Int) * ((8 : Nat) : Int) ≤ 281474976710656) ∧
  New h (.cells (repL (Int.toNat (parentsL : Int) * 1) [.int .i64 0]).toArray 3) fun b2 h9 =>
  (0 ≤ (parentsL : Int) ∧ (parentsL : Int) ≤ (parentsL : Int) ∧ (parentsL : Int) ≤ 281474976710656 ∧ (parentsL : Int) * ((1 : Nat) : Int) ≤ 281474976710656) ∧
  New h9 (.cells (repL (Int.toNat (parentsL : Int) * 1) [.bool false]).toArray 4) fun b3 h10 =>
  NN tree fun a4 =>
  ∃ (a5 : Option Addr) (L4 C4 : Nat), cell h10 a4 = some (.slice a5 L4 C4) ∧
  HCalls Try.prog 31 #[.agg #[.slice a5 L4 C4]] h10 fun v7 h11 => ∃ (r8 : Option Addr) (rL1 rC1 : Nat), v7 = .slice r8 rL1 rC1 ∧
  LoopVC ((0, 0, ()) : Int × Int × Unit) h11 (fun (nx0 : Int × Int × Unit → Hp → Prop) (s1 : Int × Int × Unit) h12 => l48_SuccinctVersions_b3 s1.1 s1.2.1 parents parentsL parentsC a b tree t (some ⟨b2, 0, none⟩) (Int.toNat (parentsL : Int)) (Int.toNat (parentsL : Int)) (some ⟨b3, 0, none⟩) (Int.toNat (parentsL : Int)) (Int.toNat (parentsL : Int)) r8 rL1 rC1 (rL1 : Int) h12 nx0 K)) := by kernel_rfl
theorem l48_SuccinctVersions_b3_eq (nv : Int) (t64 : Int) (parents : Option Addr) (parentsL : Nat) (parentsC : Nat) (a : Int) (b : Int) (tree : Option Addr) (t : Option Addr) (number : Option Addr) (numberL : Nat) (numberC : Nat) (seen : Option Addr) (seenL : Nat) (seenC : Nat) (t62 : Option Addr) (t62L : Nat) (t62C : Nat) (t63 : Int) (h : Hp) (nx0 : Int × Int × Unit → Hp → Prop) (K : Value → Hp → Prop) : l48_SuccinctVersions_b3 nv t64 parents parentsL parentsC a b tree t number numberL numberC seen seenL seenC t62 t62L t62C t63 h nx0 K = (
  cond (decide (t64 < t63))
  ((0 ≤ t64 ∧ t64 < (t62L : Int)) ∧
  NN t62 fun a6 =>
  ∃ n1 : Int, cell h (a6.add (Int.toNat t64 * 1)) = some (.int .i64 n1) ∧
  (0 ≤ n1 ∧ n1 < (seenL : Int)) ∧
  NN seen fun a7 =>
  ∃ b4 : Bool, cell h (a7.add (Int.toNat n1 * 1)) = some (.bool b4) ∧
  cond (!b4)
  ((0 ≤ n1 ∧ n1 < (seenL : Int)) ∧
  NN seen fun a8 =>
  Wr h (a8.add (Int.toNat n1 * 1)) (.bool true) fun h13 =>
  (0 ≤ n1 ∧ n1 < (numberL : Int)) ∧
  NN number fun a9 =>
  Wr h13 (a9.add (Int.toNat n1 * 1)) (.int .i64 nv) fun h14 =>
  InR (nv + 1) ∧
  l48_SuccinctVersions_b4 parents parentsL parentsC a b tree t number numberL numberC seen seenL seenC (nv + 1) t62 t62L t62C t63 t64 h14 nx0 K)
  (l48_SuccinctVersions_b4 parents parentsL parentsC a b tree t number numberL numberC seen seenL seenC nv t62 t62L t62C t63 t64 h nx0 K))
  (l48_SuccinctVersions_b5 parents parentsL parentsC a b tree t number numberL numberC h  K)) := by kernel_rfl
theorem l48_SuccinctVersions_b4_eq (parents : Option Addr) (parentsL : Nat) (parentsC : Nat) (a : Int) (b : Int) (tree : Option Addr) (t : Option Addr) (number : Option Addr) (numberL : Nat) (numberC : Nat) (seen : Option Addr) (seenL : Nat) (seenC : Nat) (nv : Int) (t62 : Option Addr) (t62L : Nat) (t62C : Nat) (t63 : Int) (t64 : Int) (h : Hp) (nx0 : Int × Int × Unit → Hp → Prop) (K : Value → Hp → Prop) : l48_SuccinctVersions_b4 parents parentsL parentsC a b tree t number numberL numberC seen seenL seenC nv t62 t62L t62C t63 t64 h nx0 K = (
  InR (t64 + 1) ∧
  nx0 (nv, t64 + 1, ()) h) := by kernel_rfl
theorem l48_SuccinctVersions_b5_eq (parents : Option Addr) (parentsL : Nat) (parentsC : Nat) (a : Int) (b : Int) (tree : Option Addr) (t : Option Addr) (number : Option Addr) (numberL : Nat) (numberC : Nat) (h : Hp)  (K : Value → Hp → Prop) : l48_SuccinctVersions_b5 parents parentsL parentsC a b tree t number numberL numberC h  K = (
  (0 ≤ a ∧ a < (numberL : Int)) ∧
  NN number fun a10 =>
  ∃ n2 : Int, cell h (a10.add (Int.toNat a * 1)) = some (.int .i64 n2) ∧
  HCalls Try.prog 32 #[.pointer t, .int .i64 n2] h fun v8 h15 => ∃ r9 : Int, ∃ r10 : Int, v8 = .tuple #[.int .i64 r9, .int .i64 r10] ∧
  (0 ≤ a ∧ a < (numberL : Int)) ∧
  NN number fun a11 =>
  ∃ n3 : Int, cell h15 (a11.add (Int.toNat a * 1)) = some (.int .i64 n3) ∧
  (0 ≤ b ∧ b < (numberL : Int)) ∧
  NN number fun a12 =>
  ∃ n4 : Int, cell h15 (a12.add (Int.toNat b * 1)) = some (.int .i64 n4) ∧
  HCalls Try.prog 33 #[.pointer t, .int .i64 n3, .int .i64 n4] h15 fun v9 h16 => ∃ r11 : Int, ∃ r12 : Int, v9 = .tuple #[.int .i64 r11, .int .i64 r12] ∧
  (0 ≤ a ∧ a < (numberL : Int)) ∧
  NN number fun a13 =>
  ∃ n5 : Int, cell h16 (a13.add (Int.toNat a * 1)) = some (.int .i64 n5) ∧
  HCalls Try.prog 34 #[.pointer t, .int .i64 n5] h16 fun v10 h17 => ∃ r13 : Int, ∃ r14 : Int, v10 = .tuple #[.int .i64 r13, .int .i64 r14] ∧
  cond (!decide (r10 = 0))
  (K (.bool false) h17)
  (NN tree fun a14 =>
  ∃ (a15 : Option Addr) (L5 C5 : Nat), cell h17 a14 = some (.slice a15 L5 C5) ∧
  HCalls Try.prog 35 #[.agg #[.slice a15 L5 C5], .int .i64 a] h17 fun v11 h18 => ∃ (r15 : Option Addr) (rL2 rC2 : Nat), v11 = .slice r15 rL2 rC2 ∧
  InR ((rL2 : Int) - 1) ∧
  cond (!decide (r9 = ((rL2 : Int) - 1)))
  (K (.bool false) h18)
  (cond (!decide (r12 = 0))
  (K (.bool false) h18)
  (NN tree fun a16 =>
  ∃ (a17 : Option Addr) (L6 C6 : Nat), cell h18 a16 = some (.slice a17 L6 C6) ∧
  HCalls Try.prog 36 #[.agg #[.slice a17 L6 C6], .int .i64 a, .int .i64 b] h18 fun v12 h19 => ∃ r16 : Int, v12 = .int .i64 r16 ∧
  (0 ≤ r16 ∧ r16 < (numberL : Int)) ∧
  NN number fun a18 =>
  ∃ n6 : Int, cell h19 (a18.add (Int.toNat r16 * 1)) = some (.int .i64 n6) ∧
  cond (!decide (r11 = n6))
  (K (.bool false) h19)
  (cond (!decide (r14 = 0))
  (K (.bool false) h19)
  (l48_SuccinctVersions_b6 parents parentsL parentsC a number numberL numberC r13 h19  K)))))) := by kernel_rfl
theorem l48_SuccinctVersions_b6_eq (parents : Option Addr) (parentsL : Nat) (parentsC : Nat) (a : Int) (number : Option Addr) (numberL : Nat) (numberC : Nat) (p : Int) (h : Hp)  (K : Value → Hp → Prop) : l48_SuccinctVersions_b6 parents parentsL parentsC a number numberL numberC p h  K = (
  (0 ≤ a ∧ a < (parentsL : Int)) ∧
  NN parents fun a19 =>
  ∃ n7 : Int, cell h (a19.add (Int.toNat a * 1)) = some (.int .i64 n7) ∧
  cond (decide (n7 < 0))
  (K (.bool (decide (p = (-1)))) h)
  ((0 ≤ a ∧ a < (parentsL : Int)) ∧
  NN parents fun a20 =>
  ∃ n8 : Int, cell h (a20.add (Int.toNat a * 1)) = some (.int .i64 n8) ∧
  (0 ≤ n8 ∧ n8 < (numberL : Int)) ∧
  NN number fun a21 =>
  ∃ n9 : Int, cell h (a21.add (Int.toNat n8 * 1)) = some (.int .i64 n9) ∧
  K (.bool (decide (p = n9))) h)) := by kernel_rfl
theorem l48_SuccinctVersions_call {parents : Option Addr} {parentsL : Nat} {parentsC : Nat} {a : Int} {b : Int} {h : Hp} {K : Value → Hp → Prop} (hk : l48_SuccinctVersions_b0 parents parentsL parentsC a b h K) : HCalls Try.prog 6 #[.slice parents parentsL parentsC, .int .i64 a, .int .i64 b] h K :=
  calls_of_snd l48_SuccinctVersions_an Try.func6 (c := bodyOf Try.f6) rfl Try.ntmps6 (Nat.le_of_ble_eq_true rfl) (snd_5 F_ok F_mixed) hk

/-! ### l48_SuccinctBack -/
def l48_SuccinctBack_an : Ann := .node none (.leaf) (.node none (.leaf) (.node none (.leaf) (.node none (.leaf) (.node (some [0, 3]) (.leaf) (.node none (.leaf) (.node (some [0, 3, 6]) (.leaf) (.node none (.leaf) (.node (some [3, 8]) (.node none (.leaf) (.loop [3, 6, 60] [(8, .slice), (61, .int .i64)] (.node none (.leaf) (.node none (.leaf) (.node (some [3, 6, 8, 60, 61]) (.node none (.leaf) (.node none (.leaf) (.node none (.leaf) (.node (some [3, 6, 8, 10, 60, 61]) (.leaf) (.leaf))))) (.leaf)))))) (.leaf)))))))))
def l48_SuccinctBack_K0  (K : Value → Hp → Prop) : Exit → Env → Hp → Prop := retK Try.prog Try.f7.results.toList K
def l48_SuccinctBack_K1  (K : Value → Hp → Prop) : Exit → Env → Hp → Prop := thenE (fun env h => sx_2 Try.prog F 115 (cp [1, 1, 1, 1, 1, 1, 1, 1, 1] (bodyOf Try.f7)) (ap [1, 1, 1, 1, 1, 1, 1, 1, 1] l48_SuccinctBack_an) (rs [3, 8] env) h (l48_SuccinctBack_K0  K)) (l48_SuccinctBack_K0  K)
def l48_SuccinctBack_K2  (K : Value → Hp → Prop) : Exit → Env → Hp → Prop := blockE 0 (l48_SuccinctBack_K1  K)
def l48_SuccinctBack_K3 (nx0 : (Option Addr × Nat × Nat) × Int × Unit → Hp → Prop) (K : Value → Hp → Prop) : Exit → Env → Hp → Prop := thenE (fun env h => getV [(8, .slice), (61, .int .i64)] env fun s => nx0 s h) (l48_SuccinctBack_K2  K)
def l48_SuccinctBack_K4 (nx0 : (Option Addr × Nat × Nat) × Int × Unit → Hp → Prop) (K : Value → Hp → Prop) : Exit → Env → Hp → Prop := thenE (fun env h => sx_1 Try.prog F 115 (cp [1, 1, 1, 1, 1, 1, 1, 1, 0, 1, 2, 2, 1, 1, 1] (bodyOf Try.f7)) (ap [1, 1, 1, 1, 1, 1, 1, 1, 0, 1, 2, 1, 1, 1] l48_SuccinctBack_an) (rs [3, 6, 8, 60, 61] env) h (l48_SuccinctBack_K3 nx0 K)) (l48_SuccinctBack_K3 nx0 K)
def l48_SuccinctBack_K5 (nx0 : (Option Addr × Nat × Nat) × Int × Unit → Hp → Prop) (K : Value → Hp → Prop) : Exit → Env → Hp → Prop := blockE 1 (l48_SuccinctBack_K4 nx0 K)
def l48_SuccinctBack_b0 (parents : Option Addr) (parentsL : Nat) (parentsC : Nat) (h : Hp)  (K : Value → Hp → Prop) : Prop :=
  sx_5 Try.prog F 115 (cp [] (bodyOf Try.f7)) (ap [] l48_SuccinctBack_an) [(0, .slice parents parentsL parentsC)] h (l48_SuccinctBack_K0  K)
def l48_SuccinctBack_b1 (parents : Option Addr) (parentsL : Nat) (parentsC : Nat) (t : Option Addr) (h : Hp)  (K : Value → Hp → Prop) : Prop :=
  sx_4 Try.prog F 115 (cp [1, 1, 1, 1, 1] (bodyOf Try.f7)) (ap [1, 1, 1, 1, 1] l48_SuccinctBack_an) [(0, .slice parents parentsL parentsC), (3, .pointer t)] h (l48_SuccinctBack_K0  K)
def l48_SuccinctBack_b2 (parents : Option Addr) (parentsL : Nat) (parentsC : Nat) (t : Option Addr) (u : Option Addr) (h : Hp)  (K : Value → Hp → Prop) : Prop :=
  sx_3 Try.prog F 115 (cp [1, 1, 1, 1, 1, 1, 1] (bodyOf Try.f7)) (ap [1, 1, 1, 1, 1, 1, 1] l48_SuccinctBack_an) [(0, .slice parents parentsL parentsC), (3, .pointer t), (6, .pointer u)] h (l48_SuccinctBack_K0  K)
def l48_SuccinctBack_b3 (l : Option Addr) (lL : Nat) (lC : Nat) (t61 : Int) (t : Option Addr) (u : Option Addr) (t60 : Int) (h : Hp) (nx0 : (Option Addr × Nat × Nat) × Int × Unit → Hp → Prop) (K : Value → Hp → Prop) : Prop :=
  sx_2 Try.prog F 115 (cp [1, 1, 1, 1, 1, 1, 1, 1, 0, 1, 2, 2] (bodyOf Try.f7)) (ap [1, 1, 1, 1, 1, 1, 1, 1, 0, 1, 2] l48_SuccinctBack_an) [(8, .slice l lL lC), (61, .int .i64 t61), (3, .pointer t), (6, .pointer u), (60, .int .i64 t60)] h (l48_SuccinctBack_K3 nx0 K)
def l48_SuccinctBack_b4 (t : Option Addr) (u : Option Addr) (l : Option Addr) (lL : Nat) (lC : Nat) (p : Int) (t60 : Int) (t61 : Int) (h : Hp) (nx0 : (Option Addr × Nat × Nat) × Int × Unit → Hp → Prop) (K : Value → Hp → Prop) : Prop :=
  sx_1 Try.prog F 115 (cp [1, 1, 1, 1, 1, 1, 1, 1, 0, 1, 2, 2, 1, 1, 0, 2, 1, 1, 1, 1] (bodyOf Try.f7)) (ap [1, 1, 1, 1, 1, 1, 1, 1, 0, 1, 2, 1, 1, 0, 1, 1, 1, 1] l48_SuccinctBack_an) [(3, .pointer t), (6, .pointer u), (8, .slice l lL lC), (10, .int .i64 p), (60, .int .i64 t60), (61, .int .i64 t61)] h (l48_SuccinctBack_K5 nx0 K)
def l48_SuccinctBack_b5 (t : Option Addr) (l : Option Addr) (lL : Nat) (lC : Nat) (h : Hp)  (K : Value → Hp → Prop) : Prop :=
  sx_2 Try.prog F 115 (cp [1, 1, 1, 1, 1, 1, 1, 1, 1] (bodyOf Try.f7)) (ap [1, 1, 1, 1, 1, 1, 1, 1, 1] l48_SuccinctBack_an) [(3, .pointer t), (8, .slice l lL lC)] h (l48_SuccinctBack_K0  K)
def l48_SuccinctBack_b6 (t : Option Addr) (u : Option Addr) (l : Option Addr) (lL : Nat) (lC : Nat) (t60 : Int) (t61 : Int) (h : Hp) (nx0 : (Option Addr × Nat × Nat) × Int × Unit → Hp → Prop) (K : Value → Hp → Prop) : Prop :=
  sx_1 Try.prog F 115 (cp [1, 1, 1, 1, 1, 1, 1, 1, 0, 1, 2, 2, 1, 1, 1] (bodyOf Try.f7)) (ap [1, 1, 1, 1, 1, 1, 1, 1, 0, 1, 2, 1, 1, 1] l48_SuccinctBack_an) [(3, .pointer t), (6, .pointer u), (8, .slice l lL lC), (60, .int .i64 t60), (61, .int .i64 t61)] h (l48_SuccinctBack_K3 nx0 K)
theorem l48_SuccinctBack_b0_eq (parents : Option Addr) (parentsL : Nat) (parentsC : Nat) (h : Hp)  (K : Value → Hp → Prop) : l48_SuccinctBack_b0 parents parentsL parentsC h  K = (
  HCalls Try.prog 11 #[] h fun v1 h1 => ∃ r1 : Bool, v1 = .bool r1 ∧
  cond (!r1)
  (K (.bool false) h1)
  (HCalls Try.prog 12 #[.slice parents parentsL parentsC] h1 fun v2 h2 => ∃ r2 : Bool, v2 = .bool r2 ∧
  cond r2
  (K (.bool true) h2)
  (HCalls Try.prog 21 #[.slice parents parentsL parentsC] h2 fun v3 h3 => ∃ r3 : Option Addr, ∃ r4 : ByteArray, ∃ r5 : Bool, v3 = .tuple #[.pointer r3, .string r4, .bool r5] ∧
  cond (!r5)
  (K (.bool r5) h3)
  (cond r3.isNone
  (K (.bool r5) h3)
  (l48_SuccinctBack_b1 parents parentsL parentsC r3 h3  K))))) := by kernel_rfl
theorem l48_SuccinctBack_b1_eq (parents : Option Addr) (parentsL : Nat) (parentsC : Nat) (t : Option Addr) (h : Hp)  (K : Value → Hp → Prop) : l48_SuccinctBack_b1 parents parentsL parentsC t h  K = (
  HCalls Try.prog 22 #[.pointer t] h fun v4 h4 => ∃ r6 : ByteArray, v4 = .string r6 ∧
  HCalls Try.prog 25 #[.string r6] h4 fun v5 h5 => ∃ r7 : Option Addr, ∃ r8 : Int, v5 = .tuple #[.pointer r7, .int .i64 r8] ∧
  cond (!decide (r8 = 0))
  (K (.bool false) h5)
  (cond r7.isNone
  (K (.bool false) h5)
  (HCalls Try.prog 23 #[.pointer r7] h5 fun v6 h6 => ∃ r9 : Int, v6 = .int .i64 r9 ∧
  HCalls Try.prog 23 #[.pointer t] h6 fun v7 h7 => ∃ r10 : Int, v7 = .int .i64 r10 ∧
  cond (!decide (r9 = r10))
  (K (.bool false) h7)
  (HCalls Try.prog 23 #[.pointer t] h7 fun v8 h8 => ∃ r11 : Int, v8 = .int .i64 r11 ∧
  cond (!decide (r11 = (parentsL : Int)))
  (K (.bool false) h8)
  (l48_SuccinctBack_b2 parents parentsL parentsC t r7 h8  K))))) := by kernel_rfl
theorem l48_SuccinctBack_b2_eq (parents : Option Addr) (parentsL : Nat) (parentsC : Nat) (t : Option Addr) (u : Option Addr) (h : Hp)  (K : Value → Hp → Prop) : l48_SuccinctBack_b2 parents parentsL parentsC t u h  K = (
  LoopVC (((none, 0, 0), 0, ()) : (Option Addr × Nat × Nat) × Int × Unit) h (fun (nx0 : (Option Addr × Nat × Nat) × Int × Unit → Hp → Prop) (s1 : (Option Addr × Nat × Nat) × Int × Unit) h9 => l48_SuccinctBack_b3 s1.1.1 s1.1.2.1 s1.1.2.2 s1.2.1 t u (parentsL : Int) h9 nx0 K)) := by kernel_rfl
theorem l48_SuccinctBack_b3_eq (l : Option Addr) (lL : Nat) (lC : Nat) (t61 : Int) (t : Option Addr) (u : Option Addr) (t60 : Int) (h : Hp) (nx0 : (Option Addr × Nat × Nat) × Int × Unit → Hp → Prop) (K : Value → Hp → Prop) : l48_SuccinctBack_b3 l lL lC t61 t u t60 h nx0 K = (
  cond (decide (t61 < t60))
  (HCalls Try.prog 34 #[.pointer t, .int .i64 t61] h fun v9 h10 => ∃ r12 : Int, ∃ r13 : Int, v9 = .tuple #[.int .i64 r12, .int .i64 r13] ∧
  HCalls Try.prog 34 #[.pointer u, .int .i64 t61] h10 fun v10 h11 => ∃ r14 : Int, ∃ r15 : Int, v10 = .tuple #[.int .i64 r14, .int .i64 r15] ∧
  cond (!decide (r13 = 0))
  (K (.bool false) h11)
  (cond (!decide (r15 = 0))
  (K (.bool false) h11)
  (cond (!decide (r12 = r14))
  (K (.bool false) h11)
  (cond (decide (t61 ≤ r12))
  (K (.bool false) h11)
  (l48_SuccinctBack_b4 t u l lL lC r12 t60 t61 h11 nx0 K)))))
  (l48_SuccinctBack_b5 t l lL lC h  K)) := by kernel_rfl
theorem l48_SuccinctBack_b4_eq (t : Option Addr) (u : Option Addr) (l : Option Addr) (lL : Nat) (lC : Nat) (p : Int) (t60 : Int) (t61 : Int) (h : Hp) (nx0 : (Option Addr × Nat × Nat) × Int × Unit → Hp → Prop) (K : Value → Hp → Prop) : l48_SuccinctBack_b4 t u l lL lC p t60 t61 h nx0 K = (
  New h (.cells #[.int .i64 p] 3) fun b1 h12 =>
  appendV Try.prog 22 22 (.slice l lL lC) (.slice (some ⟨b1, 0, none⟩) 1 1) h12 (slK fun a1 l1 c1 h13 =>
  l48_SuccinctBack_b6 t u a1 l1 c1 t60 t61 h13 nx0 K)) := by kernel_rfl
theorem l48_SuccinctBack_b5_eq (t : Option Addr) (l : Option Addr) (lL : Nat) (lC : Nat) (h : Hp)  (K : Value → Hp → Prop) : l48_SuccinctBack_b5 t l lL lC h  K = (
  HCalls Try.prog 30 #[.slice l lL lC] h fun v11 h14 => ∃ r16 : Option Addr, ∃ r17 : Int, v11 = .tuple #[.pointer r16, .int .i64 r17] ∧
  cond (decide (r17 = 0))
  (cond (!r16.isNone)
  (HCalls Try.prog 22 #[.pointer r16] h14 fun v12 h15 => ∃ r18 : ByteArray, v12 = .string r18 ∧
  HCalls Try.prog 22 #[.pointer t] h15 fun v13 h16 => ∃ r19 : ByteArray, v13 = .string r19 ∧
  K (.bool (strEq r18 r19)) h16)
  (K (.bool false) h14))
  (K (.bool false) h14)) := by kernel_rfl
theorem l48_SuccinctBack_b6_eq (t : Option Addr) (u : Option Addr) (l : Option Addr) (lL : Nat) (lC : Nat) (t60 : Int) (t61 : Int) (h : Hp) (nx0 : (Option Addr × Nat × Nat) × Int × Unit → Hp → Prop) (K : Value → Hp → Prop) : l48_SuccinctBack_b6 t u l lL lC t60 t61 h nx0 K = (
  InR (t61 + 1) ∧
  nx0 ((l, lL, lC), t61 + 1, ()) h) := by kernel_rfl
theorem l48_SuccinctBack_call {parents : Option Addr} {parentsL : Nat} {parentsC : Nat} {h : Hp} {K : Value → Hp → Prop} (hk : l48_SuccinctBack_b0 parents parentsL parentsC h K) : HCalls Try.prog 7 #[.slice parents parentsL parentsC] h K :=
  calls_of_snd l48_SuccinctBack_an Try.func7 (c := bodyOf Try.f7) rfl Try.ntmps7 (Nat.le_of_ble_eq_true rfl) (snd_5 F_ok F_mixed) hk

/-! ### l48_SuccinctNodes -/
def l48_SuccinctNodes_an : Ann := .node none (.leaf) (.node none (.leaf) (.node none (.leaf) (.node none (.leaf) (.node (some [1, 2, 3, 4, 11, 12]) (.leaf) (.node none (.leaf) (.node none (.leaf) (.node none (.leaf) (.node none (.leaf) (.node (some [2, 3, 11, 12]) (.leaf) (.node none (.leaf) (.node none (.leaf) (.node none (.leaf) (.node none (.leaf) (.node none (.leaf) (.node (some [2, 3, 12, 26, 27]) (.leaf) (.leaf))))))))))))))))
def l48_SuccinctNodes_K0  (K : Value → Hp → Prop) : Exit → Env → Hp → Prop := retK Try.prog Try.f8.results.toList K
def l48_SuccinctNodes_b0 (parents : Option Addr) (parentsL : Nat) (parentsC : Nat) (i : Int) (v : Int) (w : Int) (k : Int) (h : Hp)  (K : Value → Hp → Prop) : Prop :=
  sx_4 Try.prog F 199 (cp [] (bodyOf Try.f8)) (ap [] l48_SuccinctNodes_an) [(0, .slice parents parentsL parentsC), (1, .int .i64 i), (2, .int .i64 v), (3, .int .i64 w), (4, .int .i64 k)] h (l48_SuccinctNodes_K0  K)
def l48_SuccinctNodes_b1 (i : Int) (v : Int) (w : Int) (k : Int) (t : Option Addr) (s : ByteArray) (h : Hp)  (K : Value → Hp → Prop) : Prop :=
  sx_3 Try.prog F 199 (cp [1, 1, 1, 1, 1] (bodyOf Try.f8)) (ap [1, 1, 1, 1, 1] l48_SuccinctNodes_an) [(1, .int .i64 i), (2, .int .i64 v), (3, .int .i64 w), (4, .int .i64 k), (11, .pointer t), (12, .string s)] h (l48_SuccinctNodes_K0  K)
def l48_SuccinctNodes_b2 (v : Int) (w : Int) (t : Option Addr) (s : ByteArray) (h : Hp)  (K : Value → Hp → Prop) : Prop :=
  sx_2 Try.prog F 199 (cp [1, 1, 1, 1, 1, 1, 1, 1, 1, 1] (bodyOf Try.f8)) (ap [1, 1, 1, 1, 1, 1, 1, 1, 1, 1] l48_SuccinctNodes_an) [(2, .int .i64 v), (3, .int .i64 w), (11, .pointer t), (12, .string s)] h (l48_SuccinctNodes_K0  K)
def l48_SuccinctNodes_b3 (v : Int) (w : Int) (s : ByteArray) (m : Int) (l : Int) (h : Hp)  (K : Value → Hp → Prop) : Prop :=
  sx_1 Try.prog F 199 (cp [1, 1, 1, 1, 1, 1, 1, 1, 1, 1, 1, 1, 1, 1, 1, 1] (bodyOf Try.f8)) (ap [1, 1, 1, 1, 1, 1, 1, 1, 1, 1, 1, 1, 1, 1, 1, 1] l48_SuccinctNodes_an) [(2, .int .i64 v), (3, .int .i64 w), (12, .string s), (26, .int .i64 m), (27, .int .i64 l)] h (l48_SuccinctNodes_K0  K)
theorem l48_SuccinctNodes_b0_eq (parents : Option Addr) (parentsL : Nat) (parentsC : Nat) (i : Int) (v : Int) (w : Int) (k : Int) (h : Hp)  (K : Value → Hp → Prop) : l48_SuccinctNodes_b0 parents parentsL parentsC i v w k h  K = (
  HCalls Try.prog 11 #[] h fun v1 h1 => ∃ r1 : Bool, v1 = .bool r1 ∧
  cond (!r1)
  (K (.bool false) h1)
  (HCalls Try.prog 12 #[.slice parents parentsL parentsC] h1 fun v2 h2 => ∃ r2 : Bool, v2 = .bool r2 ∧
  cond r2
  (K (.bool true) h2)
  (HCalls Try.prog 21 #[.slice parents parentsL parentsC] h2 fun v3 h3 => ∃ r3 : Option Addr, ∃ r4 : ByteArray, ∃ r5 : Bool, v3 = .tuple #[.pointer r3, .string r4, .bool r5] ∧
  cond (!r5)
  (K (.bool r5) h3)
  (cond r3.isNone
  (K (.bool r5) h3)
  (l48_SuccinctNodes_b1 i v w k r3 r4 h3  K))))) := by kernel_rfl
theorem l48_SuccinctNodes_b1_eq (i : Int) (v : Int) (w : Int) (k : Int) (t : Option Addr) (s : ByteArray) (h : Hp)  (K : Value → Hp → Prop) : l48_SuccinctNodes_b1 i v w k t s h  K = (
  HCalls Try.prog 37 #[.pointer t, .int .i64 i] h fun v4 h4 => ∃ r6 : Int, ∃ r7 : Int, v4 = .tuple #[.int .i64 r6, .int .i64 r7] ∧
  HCalls Try.prog 38 #[.string s, .int .i64 i] h4 fun v5 h5 => ∃ r8 : Int, ∃ r9 : Int, v5 = .tuple #[.int .i64 r8, .int .i64 r9] ∧
  HCalls Try.prog 39 #[.pointer t, .int .i64 v, .int .i64 k] h5 fun v6 h6 => ∃ r10 : Int, ∃ r11 : Int, v6 = .tuple #[.int .i64 r10, .int .i64 r11] ∧
  HCalls Try.prog 40 #[.string s, .int .i64 v, .int .i64 k] h6 fun v7 h7 => ∃ r12 : Int, ∃ r13 : Int, v7 = .tuple #[.int .i64 r12, .int .i64 r13] ∧
  cond (!decide (r6 = r8))
  (K (.bool false) h7)
  (cond (!decide (r7 = r9))
  (K (.bool false) h7)
  (cond (!decide (r10 = r12))
  (K (.bool false) h7)
  (cond (!decide (r11 = r13))
  (K (.bool false) h7)
  (l48_SuccinctNodes_b2 v w t s h7  K))))) := by kernel_rfl
theorem l48_SuccinctNodes_b2_eq (v : Int) (w : Int) (t : Option Addr) (s : ByteArray) (h : Hp)  (K : Value → Hp → Prop) : l48_SuccinctNodes_b2 v w t s h  K = (
  HCalls Try.prog 34 #[.pointer t, .int .i64 v] h fun v8 h8 => ∃ r14 : Int, ∃ r15 : Int, v8 = .tuple #[.int .i64 r14, .int .i64 r15] ∧
  HCalls Try.prog 32 #[.pointer t, .int .i64 v] h8 fun v9 h9 => ∃ r16 : Int, ∃ r17 : Int, v9 = .tuple #[.int .i64 r16, .int .i64 r17] ∧
  HCalls Try.prog 41 #[.pointer t, .int .i64 v] h9 fun v10 h10 => ∃ r18 : Int, ∃ r19 : Int, v10 = .tuple #[.int .i64 r18, .int .i64 r19] ∧
  HCalls Try.prog 33 #[.pointer t, .int .i64 v, .int .i64 w] h10 fun v11 h11 => ∃ r20 : Int, ∃ r21 : Int, v11 = .tuple #[.int .i64 r20, .int .i64 r21] ∧
  HCalls Try.prog 42 #[.string s, .int .i64 v] h11 fun v12 h12 => ∃ r22 : Bool, v12 = .bool r22 ∧
  cond (!r22)
  (cond (decide (r14 = 0))
  (cond (decide (r15 = 2))
  (cond (decide (r16 = 0))
  (cond (decide (r17 = 2))
  (cond (decide (r18 = 0))
  (cond (decide (r19 = 2))
  (cond (decide (r20 = 0))
  (K (.bool (decide (r21 = 2))) h12)
  (K (.bool false) h12))
  (K (.bool false) h12))
  (K (.bool false) h12))
  (K (.bool false) h12))
  (K (.bool false) h12))
  (K (.bool false) h12))
  (K (.bool false) h12))
  (cond (!decide (r15 = 0))
  (K (.bool false) h12)
  (HCalls Try.prog 43 #[.string s, .int .i64 v] h12 fun v13 h13 => ∃ r23 : Int, v13 = .int .i64 r23 ∧
  cond (!decide (r14 = r23))
  (K (.bool false) h13)
  (cond (!decide (r17 = 0))
  (K (.bool false) h13)
  (HCalls Try.prog 44 #[.string s, .int .i64 v] h13 fun v14 h14 => ∃ r24 : Int, v14 = .int .i64 r24 ∧
  cond (!decide (r16 = r24))
  (K (.bool false) h14)
  (cond (!decide (r19 = 0))
  (K (.bool false) h14)
  (HCalls Try.prog 45 #[.string s, .int .i64 v] h14 fun v15 h15 => ∃ r25 : Int, v15 = .int .i64 r25 ∧
  cond (!decide (r18 = r25))
  (K (.bool false) h15)
  (l48_SuccinctNodes_b3 v w s r20 r21 h15  K)))))))) := by kernel_rfl
theorem l48_SuccinctNodes_b3_eq (v : Int) (w : Int) (s : ByteArray) (m : Int) (l : Int) (h : Hp)  (K : Value → Hp → Prop) : l48_SuccinctNodes_b3 v w s m l h  K = (
  HCalls Try.prog 42 #[.string s, .int .i64 w] h fun v16 h16 => ∃ r26 : Bool, v16 = .bool r26 ∧
  cond (!r26)
  (cond (decide (m = 0))
  (K (.bool (decide (l = 2))) h16)
  (K (.bool false) h16))
  (cond (decide (l = 0))
  (HCalls Try.prog 46 #[.string s, .int .i64 v, .int .i64 w] h16 fun v17 h17 => ∃ r27 : Int, v17 = .int .i64 r27 ∧
  K (.bool (decide (m = r27))) h17)
  (K (.bool false) h16))) := by kernel_rfl
theorem l48_SuccinctNodes_call {parents : Option Addr} {parentsL : Nat} {parentsC : Nat} {i : Int} {v : Int} {w : Int} {k : Int} {h : Hp} {K : Value → Hp → Prop} (hk : l48_SuccinctNodes_b0 parents parentsL parentsC i v w k h K) : HCalls Try.prog 8 #[.slice parents parentsL parentsC, .int .i64 i, .int .i64 v, .int .i64 w, .int .i64 k] h K :=
  calls_of_snd l48_SuccinctNodes_an Try.func8 (c := bodyOf Try.f8) rfl Try.ntmps8 (Nat.le_of_ble_eq_true rfl) (snd_4 F_ok F_mixed) hk

/-! ### l48_SuccinctRanges -/
def l48_SuccinctRanges_an : Ann := .node none (.leaf) (.node none (.leaf) (.node none (.leaf) (.node none (.leaf) (.node (some [0, 1, 2, 7]) (.leaf) (.node none (.leaf) (.node none (.leaf) (.node (some [0, 1, 2, 7, 10, 12]) (.leaf) (.node none (.leaf) (.node (some [0, 1, 2, 7, 10, 14]) (.node none (.leaf) (.loop [0, 1, 2, 7, 10, 12, 98] [(14, .int .i64), (99, .int .i64)] (.node none (.leaf) (.node none (.leaf) (.node (some [0, 1, 2, 7, 10, 12, 14, 98, 99]) (.node none (.leaf) (.node none (.leaf) (.node none (.leaf) (.node none (.leaf) (.node none (.leaf) (.node none (.leaf) (.node (some [0, 1, 2, 7, 10, 12, 14, 20, 98, 99]) (.leaf) (.leaf)))))))) (.leaf)))))) (.node none (.leaf) (.node none (.leaf) (.node (some [1, 2, 7, 10, 24]) (.node none (.leaf) (.loop [0, 1, 2, 7, 10, 184] [(24, .int .i64), (185, .int .i64)] (.node none (.leaf) (.node none (.leaf) (.node (some [0, 1, 2, 7, 10, 24, 184, 185]) (.node (some [0, 1, 2, 7, 10, 24, 184, 185]) (.leaf) (.leaf)) (.leaf)))))) (.leaf)))))))))))))
def l48_SuccinctRanges_K0  (K : Value → Hp → Prop) : Exit → Env → Hp → Prop := retK Try.prog Try.f9.results.toList K
def l48_SuccinctRanges_K1  (K : Value → Hp → Prop) : Exit → Env → Hp → Prop := thenE (fun env h => sx_3 Try.prog F 244 (cp [1, 1, 1, 1, 1, 1, 1, 1, 1, 1] (bodyOf Try.f9)) (ap [1, 1, 1, 1, 1, 1, 1, 1, 1, 1] l48_SuccinctRanges_an) (rs [0, 1, 2, 7, 10, 14] env) h (l48_SuccinctRanges_K0  K)) (l48_SuccinctRanges_K0  K)
def l48_SuccinctRanges_K2  (K : Value → Hp → Prop) : Exit → Env → Hp → Prop := blockE 0 (l48_SuccinctRanges_K1  K)
def l48_SuccinctRanges_K3 (nx0 : Int × Int × Unit → Hp → Prop) (K : Value → Hp → Prop) : Exit → Env → Hp → Prop := thenE (fun env h => getV [(14, .int .i64), (99, .int .i64)] env fun s => nx0 s h) (l48_SuccinctRanges_K2  K)
def l48_SuccinctRanges_K4 (nx0 : Int × Int × Unit → Hp → Prop) (K : Value → Hp → Prop) : Exit → Env → Hp → Prop := thenE (fun env h => sx_2 Try.prog F 244 (cp [1, 1, 1, 1, 1, 1, 1, 1, 1, 0, 1, 2, 2, 1, 1, 1] (bodyOf Try.f9)) (ap [1, 1, 1, 1, 1, 1, 1, 1, 1, 0, 1, 2, 1, 1, 1] l48_SuccinctRanges_an) (rs [0, 1, 2, 7, 10, 12, 14, 98, 99] env) h (l48_SuccinctRanges_K3 nx0 K)) (l48_SuccinctRanges_K3 nx0 K)
def l48_SuccinctRanges_K5 (nx0 : Int × Int × Unit → Hp → Prop) (K : Value → Hp → Prop) : Exit → Env → Hp → Prop := blockE 1 (l48_SuccinctRanges_K4 nx0 K)
def l48_SuccinctRanges_K6  (K : Value → Hp → Prop) : Exit → Env → Hp → Prop := thenE (fun env h => sx_2 Try.prog F 244 (cp [1, 1, 1, 1, 1, 1, 1, 1, 1, 1, 1, 1, 1] (bodyOf Try.f9)) (ap [1, 1, 1, 1, 1, 1, 1, 1, 1, 1, 1, 1, 1] l48_SuccinctRanges_an) (rs [1, 2, 7, 10, 24] env) h (l48_SuccinctRanges_K0  K)) (l48_SuccinctRanges_K0  K)
def l48_SuccinctRanges_K7  (K : Value → Hp → Prop) : Exit → Env → Hp → Prop := blockE 2 (l48_SuccinctRanges_K6  K)
def l48_SuccinctRanges_K8 (nx0 : Int × Int × Unit → Hp → Prop) (K : Value → Hp → Prop) : Exit → Env → Hp → Prop := thenE (fun env h => getV [(24, .int .i64), (185, .int .i64)] env fun s => nx0 s h) (l48_SuccinctRanges_K7  K)
def l48_SuccinctRanges_K9 (nx0 : Int × Int × Unit → Hp → Prop) (K : Value → Hp → Prop) : Exit → Env → Hp → Prop := thenE (fun env h => sx_1 Try.prog F 244 (cp [1, 1, 1, 1, 1, 1, 1, 1, 1, 1, 1, 1, 0, 1, 2, 2, 1, 1, 1] (bodyOf Try.f9)) (ap [1, 1, 1, 1, 1, 1, 1, 1, 1, 1, 1, 1, 0, 1, 2, 1, 1, 1] l48_SuccinctRanges_an) (rs [0, 1, 2, 7, 10, 24, 184, 185] env) h (l48_SuccinctRanges_K8 nx0 K)) (l48_SuccinctRanges_K8 nx0 K)
def l48_SuccinctRanges_K10 (nx0 : Int × Int × Unit → Hp → Prop) (K : Value → Hp → Prop) : Exit → Env → Hp → Prop := blockE 3 (l48_SuccinctRanges_K9 nx0 K)
def l48_SuccinctRanges_b0 (parents : Option Addr) (parentsL : Nat) (parentsC : Nat) (v : Int) (w : Int) (h : Hp)  (K : Value → Hp → Prop) : Prop :=
  sx_6 Try.prog F 244 (cp [] (bodyOf Try.f9)) (ap [] l48_SuccinctRanges_an) [(0, .slice parents parentsL parentsC), (1, .int .i64 v), (2, .int .i64 w)] h (l48_SuccinctRanges_K0  K)
def l48_SuccinctRanges_b1 (parents : Option Addr) (parentsL : Nat) (parentsC : Nat) (v : Int) (w : Int) (t : Option Addr) (h : Hp)  (K : Value → Hp → Prop) : Prop :=
  sx_5 Try.prog F 244 (cp [1, 1, 1, 1, 1] (bodyOf Try.f9)) (ap [1, 1, 1, 1, 1] l48_SuccinctRanges_an) [(0, .slice parents parentsL parentsC), (1, .int .i64 v), (2, .int .i64 w), (7, .pointer t)] h (l48_SuccinctRanges_K0  K)
def l48_SuccinctRanges_b2 (parents : Option Addr) (parentsL : Nat) (parentsC : Nat) (v : Int) (w : Int) (t : Option Addr) (nv : Int) (d : Int) (h : Hp)  (K : Value → Hp → Prop) : Prop :=
  sx_4 Try.prog F 244 (cp [1, 1, 1, 1, 1, 1, 1, 1] (bodyOf Try.f9)) (ap [1, 1, 1, 1, 1, 1, 1, 1] l48_SuccinctRanges_an) [(0, .slice parents parentsL parentsC), (1, .int .i64 v), (2, .int .i64 w), (7, .pointer t), (10, .int .i64 nv), (12, .int .i64 d)] h (l48_SuccinctRanges_K0  K)
def l48_SuccinctRanges_b3 (next : Int) (t99 : Int) (parents : Option Addr) (parentsL : Nat) (parentsC : Nat) (v : Int) (w : Int) (t : Option Addr) (nv : Int) (d : Int) (t98 : Int) (h : Hp) (nx0 : Int × Int × Unit → Hp → Prop) (K : Value → Hp → Prop) : Prop :=
  sx_3 Try.prog F 244 (cp [1, 1, 1, 1, 1, 1, 1, 1, 1, 0, 1, 2, 2] (bodyOf Try.f9)) (ap [1, 1, 1, 1, 1, 1, 1, 1, 1, 0, 1, 2] l48_SuccinctRanges_an) [(14, .int .i64 next), (99, .int .i64 t99), (0, .slice parents parentsL parentsC), (1, .int .i64 v), (2, .int .i64 w), (7, .pointer t), (10, .int .i64 nv), (12, .int .i64 d), (98, .int .i64 t98)] h (l48_SuccinctRanges_K3 nx0 K)
def l48_SuccinctRanges_b4 (parents : Option Addr) (parentsL : Nat) (parentsC : Nat) (v : Int) (w : Int) (t : Option Addr) (nv : Int) (next : Int) (h : Hp)  (K : Value → Hp → Prop) : Prop :=
  sx_3 Try.prog F 244 (cp [1, 1, 1, 1, 1, 1, 1, 1, 1, 1] (bodyOf Try.f9)) (ap [1, 1, 1, 1, 1, 1, 1, 1, 1, 1] l48_SuccinctRanges_an) [(0, .slice parents parentsL parentsC), (1, .int .i64 v), (2, .int .i64 w), (7, .pointer t), (10, .int .i64 nv), (14, .int .i64 next)] h (l48_SuccinctRanges_K0  K)
def l48_SuccinctRanges_b5 (parents : Option Addr) (parentsL : Nat) (parentsC : Nat) (v : Int) (w : Int) (t : Option Addr) (nv : Int) (d : Int) (next : Int) (m : Int) (t98 : Int) (t99 : Int) (h : Hp) (nx0 : Int × Int × Unit → Hp → Prop) (K : Value → Hp → Prop) : Prop :=
  sx_2 Try.prog F 244 (cp [1, 1, 1, 1, 1, 1, 1, 1, 1, 0, 1, 2, 2, 1, 1, 0, 2, 1, 1, 1, 1, 1, 1, 1] (bodyOf Try.f9)) (ap [1, 1, 1, 1, 1, 1, 1, 1, 1, 0, 1, 2, 1, 1, 0, 1, 1, 1, 1, 1, 1, 1] l48_SuccinctRanges_an) [(0, .slice parents parentsL parentsC), (1, .int .i64 v), (2, .int .i64 w), (7, .pointer t), (10, .int .i64 nv), (12, .int .i64 d), (14, .int .i64 next), (20, .int .i64 m), (98, .int .i64 t98), (99, .int .i64 t99)] h (l48_SuccinctRanges_K5 nx0 K)
def l48_SuccinctRanges_b6 (up : Int) (t185 : Int) (parents : Option Addr) (parentsL : Nat) (parentsC : Nat) (v : Int) (w : Int) (t : Option Addr) (nv : Int) (t184 : Int) (h : Hp) (nx0 : Int × Int × Unit → Hp → Prop) (K : Value → Hp → Prop) : Prop :=
  sx_2 Try.prog F 244 (cp [1, 1, 1, 1, 1, 1, 1, 1, 1, 1, 1, 1, 0, 1, 2, 2] (bodyOf Try.f9)) (ap [1, 1, 1, 1, 1, 1, 1, 1, 1, 1, 1, 1, 0, 1, 2] l48_SuccinctRanges_an) [(24, .int .i64 up), (185, .int .i64 t185), (0, .slice parents parentsL parentsC), (1, .int .i64 v), (2, .int .i64 w), (7, .pointer t), (10, .int .i64 nv), (184, .int .i64 t184)] h (l48_SuccinctRanges_K8 nx0 K)
def l48_SuccinctRanges_b7 (parents : Option Addr) (parentsL : Nat) (parentsC : Nat) (v : Int) (w : Int) (t : Option Addr) (nv : Int) (d : Int) (next : Int) (t98 : Int) (t99 : Int) (h : Hp) (nx0 : Int × Int × Unit → Hp → Prop) (K : Value → Hp → Prop) : Prop :=
  sx_2 Try.prog F 244 (cp [1, 1, 1, 1, 1, 1, 1, 1, 1, 0, 1, 2, 2, 1, 1, 1] (bodyOf Try.f9)) (ap [1, 1, 1, 1, 1, 1, 1, 1, 1, 0, 1, 2, 1, 1, 1] l48_SuccinctRanges_an) [(0, .slice parents parentsL parentsC), (1, .int .i64 v), (2, .int .i64 w), (7, .pointer t), (10, .int .i64 nv), (12, .int .i64 d), (14, .int .i64 next), (98, .int .i64 t98), (99, .int .i64 t99)] h (l48_SuccinctRanges_K3 nx0 K)
def l48_SuccinctRanges_b8 (v : Int) (w : Int) (t : Option Addr) (nv : Int) (up : Int) (h : Hp)  (K : Value → Hp → Prop) : Prop :=
  sx_2 Try.prog F 244 (cp [1, 1, 1, 1, 1, 1, 1, 1, 1, 1, 1, 1, 1] (bodyOf Try.f9)) (ap [1, 1, 1, 1, 1, 1, 1, 1, 1, 1, 1, 1, 1] l48_SuccinctRanges_an) [(1, .int .i64 v), (2, .int .i64 w), (7, .pointer t), (10, .int .i64 nv), (24, .int .i64 up)] h (l48_SuccinctRanges_K0  K)
def l48_SuccinctRanges_b9 (parents : Option Addr) (parentsL : Nat) (parentsC : Nat) (v : Int) (w : Int) (t : Option Addr) (nv : Int) (up : Int) (t184 : Int) (t185 : Int) (h : Hp) (nx0 : Int × Int × Unit → Hp → Prop) (K : Value → Hp → Prop) : Prop :=
  sx_1 Try.prog F 244 (cp [1, 1, 1, 1, 1, 1, 1, 1, 1, 1, 1, 1, 0, 1, 2, 2, 1, 1, 0, 2, 1] (bodyOf Try.f9)) (ap [1, 1, 1, 1, 1, 1, 1, 1, 1, 1, 1, 1, 0, 1, 2, 1, 1, 0, 1] l48_SuccinctRanges_an) [(0, .slice parents parentsL parentsC), (1, .int .i64 v), (2, .int .i64 w), (7, .pointer t), (10, .int .i64 nv), (24, .int .i64 up), (184, .int .i64 t184), (185, .int .i64 t185)] h (l48_SuccinctRanges_K10 nx0 K)
def l48_SuccinctRanges_b10 (parents : Option Addr) (parentsL : Nat) (parentsC : Nat) (v : Int) (w : Int) (t : Option Addr) (nv : Int) (up : Int) (t184 : Int) (t185 : Int) (h : Hp) (nx0 : Int × Int × Unit → Hp → Prop) (K : Value → Hp → Prop) : Prop :=
  sx_1 Try.prog F 244 (cp [1, 1, 1, 1, 1, 1, 1, 1, 1, 1, 1, 1, 0, 1, 2, 2, 1, 1, 1] (bodyOf Try.f9)) (ap [1, 1, 1, 1, 1, 1, 1, 1, 1, 1, 1, 1, 0, 1, 2, 1, 1, 1] l48_SuccinctRanges_an) [(0, .slice parents parentsL parentsC), (1, .int .i64 v), (2, .int .i64 w), (7, .pointer t), (10, .int .i64 nv), (24, .int .i64 up), (184, .int .i64 t184), (185, .int .i64 t185)] h (l48_SuccinctRanges_K8 nx0 K)
theorem l48_SuccinctRanges_b0_eq (parents : Option Addr) (parentsL : Nat) (parentsC : Nat) (v : Int) (w : Int) (h : Hp)  (K : Value → Hp → Prop) : l48_SuccinctRanges_b0 parents parentsL parentsC v w h  K = (
  HCalls Try.prog 11 #[] h fun v1 h1 => ∃ r1 : Bool, v1 = .bool r1 ∧
  cond (!r1)
  (K (.bool false) h1)
  (HCalls Try.prog 12 #[.slice parents parentsL parentsC] h1 fun v2 h2 => ∃ r2 : Bool, v2 = .bool r2 ∧
  cond r2
  (K (.bool true) h2)
  (HCalls Try.prog 21 #[.slice parents parentsL parentsC] h2 fun v3 h3 => ∃ r3 : Option Addr, ∃ r4 : ByteArray, ∃ r5 : Bool, v3 = .tuple #[.pointer r3, .string r4, .bool r5] ∧
  cond (!r5)
  (K (.bool r5) h3)
  (cond r3.isNone
  (K (.bool r5) h3)
  (cond (decide (v < 0))
  (K (.bool r5) h3)
  (cond (decide (w < 0))
  (K (.bool r5) h3)
  (cond (decide ((parentsL : Int) ≤ v))
  (K (.bool r5) h3)
  (cond (decide ((parentsL : Int) ≤ w))
  (K (.bool r5) h3)
  (l48_SuccinctRanges_b1 parents parentsL parentsC v w r3 h3  K))))))))) := by kernel_rfl
theorem l48_SuccinctRanges_b1_eq (parents : Option Addr) (parentsL : Nat) (parentsC : Nat) (v : Int) (w : Int) (t : Option Addr) (h : Hp)  (K : Value → Hp → Prop) : l48_SuccinctRanges_b1 parents parentsL parentsC v w t h  K = (
  HCalls Try.prog 41 #[.pointer t, .int .i64 v] h fun v4 h4 => ∃ r6 : Int, ∃ r7 : Int, v4 = .tuple #[.int .i64 r6, .int .i64 r7] ∧
  HCalls Try.prog 32 #[.pointer t, .int .i64 v] h4 fun v5 h5 => ∃ r8 : Int, ∃ r9 : Int, v5 = .tuple #[.int .i64 r8, .int .i64 r9] ∧
  cond (!decide (r7 = 0))
  (K (.bool false) h5)
  (cond (!decide (r9 = 0))
  (K (.bool false) h5)
  (cond (decide (r6 < 1))
  (K (.bool false) h5)
  (InR ((parentsL : Int) - v) ∧
  cond (decide (((parentsL : Int) - v) < r6))
  (K (.bool false) h5)
  (l48_SuccinctRanges_b2 parents parentsL parentsC v w t r6 r8 h5  K))))) := by kernel_rfl
theorem l48_SuccinctRanges_b2_eq (parents : Option Addr) (parentsL : Nat) (parentsC : Nat) (v : Int) (w : Int) (t : Option Addr) (nv : Int) (d : Int) (h : Hp)  (K : Value → Hp → Prop) : l48_SuccinctRanges_b2 parents parentsL parentsC v w t nv d h  K = (
  InR (v + 1) ∧
  LoopVC ((v + 1, 0, ()) : Int × Int × Unit) h (fun (nx0 : Int × Int × Unit → Hp → Prop) (s1 : Int × Int × Unit) h6 => l48_SuccinctRanges_b3 s1.1 s1.2.1 parents parentsL parentsC v w t nv d nv h6 nx0 K)) := by kernel_rfl
theorem l48_SuccinctRanges_b3_eq (next : Int) (t99 : Int) (parents : Option Addr) (parentsL : Nat) (parentsC : Nat) (v : Int) (w : Int) (t : Option Addr) (nv : Int) (d : Int) (t98 : Int) (h : Hp) (nx0 : Int × Int × Unit → Hp → Prop) (K : Value → Hp → Prop) : l48_SuccinctRanges_b3 next t99 parents parentsL parentsC v w t nv d t98 h nx0 K = (
  cond (decide (t99 < t98))
  (HCalls Try.prog 39 #[.pointer t, .int .i64 v, .int .i64 t99] h fun v6 h7 => ∃ r10 : Int, ∃ r11 : Int, v6 = .tuple #[.int .i64 r10, .int .i64 r11] ∧
  cond (!decide (r11 = 0))
  (cond (!decide (r11 = 12))
  (K (.bool false) h7)
  (InR (v + nv) ∧
  cond (!decide (next = (v + nv)))
  (K (.bool false) h7)
  (l48_SuccinctRanges_b4 parents parentsL parentsC v w t nv next h7  K)))
  (HCalls Try.prog 34 #[.pointer t, .int .i64 r10] h7 fun v7 h8 => ∃ r12 : Int, ∃ r13 : Int, v7 = .tuple #[.int .i64 r12, .int .i64 r13] ∧
  HCalls Try.prog 41 #[.pointer t, .int .i64 r10] h8 fun v8 h9 => ∃ r14 : Int, ∃ r15 : Int, v8 = .tuple #[.int .i64 r14, .int .i64 r15] ∧
  HCalls Try.prog 32 #[.pointer t, .int .i64 r10] h9 fun v9 h10 => ∃ r16 : Int, ∃ r17 : Int, v9 = .tuple #[.int .i64 r16, .int .i64 r17] ∧
  cond (!decide (r10 = next))
  (K (.bool false) h10)
  (cond (!decide (r13 = 0))
  (K (.bool false) h10)
  (cond (!decide (r12 = v))
  (K (.bool false) h10)
  (cond (!decide (r15 = 0))
  (K (.bool false) h10)
  (cond (decide (r14 < 1))
  (K (.bool false) h10)
  (cond (decide (nv < r14))
  (K (.bool false) h10)
  (cond (!decide (r17 = 0))
  (K (.bool false) h10)
  (InR (d + 1) ∧
  cond (!decide (r16 = (d + 1)))
  (K (.bool false) h10)
  (l48_SuccinctRanges_b5 parents parentsL parentsC v w t nv d next r14 t98 t99 h10 nx0 K))))))))))
  (l48_SuccinctRanges_b4 parents parentsL parentsC v w t nv next h  K)) := by kernel_rfl
theorem l48_SuccinctRanges_b4_eq (parents : Option Addr) (parentsL : Nat) (parentsC : Nat) (v : Int) (w : Int) (t : Option Addr) (nv : Int) (next : Int) (h : Hp)  (K : Value → Hp → Prop) : l48_SuccinctRanges_b4 parents parentsL parentsC v w t nv next h  K = (
  InR (v + nv) ∧
  cond (!decide (next = (v + nv)))
  (K (.bool false) h)
  (LoopVC ((w, 0, ()) : Int × Int × Unit) h (fun (nx0 : Int × Int × Unit → Hp → Prop) (s2 : Int × Int × Unit) h11 => l48_SuccinctRanges_b6 s2.1 s2.2.1 parents parentsL parentsC v w t nv (parentsL : Int) h11 nx0 K))) := by kernel_rfl
theorem l48_SuccinctRanges_b5_eq (parents : Option Addr) (parentsL : Nat) (parentsC : Nat) (v : Int) (w : Int) (t : Option Addr) (nv : Int) (d : Int) (next : Int) (m : Int) (t98 : Int) (t99 : Int) (h : Hp) (nx0 : Int × Int × Unit → Hp → Prop) (K : Value → Hp → Prop) : l48_SuccinctRanges_b5 parents parentsL parentsC v w t nv d next m t98 t99 h nx0 K = (
  InR (next + m) ∧
  l48_SuccinctRanges_b7 parents parentsL parentsC v w t nv d (next + m) t98 t99 h nx0 K) := by kernel_rfl
theorem l48_SuccinctRanges_b6_eq (up : Int) (t185 : Int) (parents : Option Addr) (parentsL : Nat) (parentsC : Nat) (v : Int) (w : Int) (t : Option Addr) (nv : Int) (t184 : Int) (h : Hp) (nx0 : Int × Int × Unit → Hp → Prop) (K : Value → Hp → Prop) : l48_SuccinctRanges_b6 up t185 parents parentsL parentsC v w t nv t184 h nx0 K = (
  cond (decide (t185 < t184))
  (cond (decide (up = v))
  (l48_SuccinctRanges_b8 v w t nv up h  K)
  (cond (decide (up < 0))
  (l48_SuccinctRanges_b8 v w t nv up h  K)
  (cond (decide ((parentsL : Int) ≤ up))
  (l48_SuccinctRanges_b8 v w t nv up h  K)
  (l48_SuccinctRanges_b9 parents parentsL parentsC v w t nv up t184 t185 h nx0 K))))
  (l48_SuccinctRanges_b8 v w t nv up h  K)) := by kernel_rfl
theorem l48_SuccinctRanges_b7_eq (parents : Option Addr) (parentsL : Nat) (parentsC : Nat) (v : Int) (w : Int) (t : Option Addr) (nv : Int) (d : Int) (next : Int) (t98 : Int) (t99 : Int) (h : Hp) (nx0 : Int × Int × Unit → Hp → Prop) (K : Value → Hp → Prop) : l48_SuccinctRanges_b7 parents parentsL parentsC v w t nv d next t98 t99 h nx0 K = (
  InR (t99 + 1) ∧
  nx0 (next, t99 + 1, ()) h) := by kernel_rfl
theorem l48_SuccinctRanges_b8_eq (v : Int) (w : Int) (t : Option Addr) (nv : Int) (up : Int) (h : Hp)  (K : Value → Hp → Prop) : l48_SuccinctRanges_b8 v w t nv up h  K = (
  HCalls Try.prog 33 #[.pointer t, .int .i64 v, .int .i64 w] h fun v10 h12 => ∃ r18 : Int, ∃ r19 : Int, v10 = .tuple #[.int .i64 r18, .int .i64 r19] ∧
  cond (decide (v ≤ w))
  (InR (v + nv) ∧
  cond ((decide (up = v)) == (decide (w < (v + nv))))
  (cond (decide (r19 = 0))
  (K (.bool ((decide (r18 = v)) == (decide (up = v)))) h12)
  (K (.bool false) h12))
  (K (.bool false) h12))
  (cond ((decide (up = v)) == false)
  (cond (decide (r19 = 0))
  (K (.bool ((decide (r18 = v)) == (decide (up = v)))) h12)
  (K (.bool false) h12))
  (K (.bool false) h12))) := by kernel_rfl
theorem l48_SuccinctRanges_b9_eq (parents : Option Addr) (parentsL : Nat) (parentsC : Nat) (v : Int) (w : Int) (t : Option Addr) (nv : Int) (up : Int) (t184 : Int) (t185 : Int) (h : Hp) (nx0 : Int × Int × Unit → Hp → Prop) (K : Value → Hp → Prop) : l48_SuccinctRanges_b9 parents parentsL parentsC v w t nv up t184 t185 h nx0 K = (
  HCalls Try.prog 34 #[.pointer t, .int .i64 up] h fun v11 h13 => ∃ r20 : Int, ∃ r21 : Int, v11 = .tuple #[.int .i64 r20, .int .i64 r21] ∧
  cond (!decide (r21 = 0))
  (K (.bool false) h13)
  (l48_SuccinctRanges_b10 parents parentsL parentsC v w t nv r20 t184 t185 h13 nx0 K)) := by kernel_rfl
theorem l48_SuccinctRanges_b10_eq (parents : Option Addr) (parentsL : Nat) (parentsC : Nat) (v : Int) (w : Int) (t : Option Addr) (nv : Int) (up : Int) (t184 : Int) (t185 : Int) (h : Hp) (nx0 : Int × Int × Unit → Hp → Prop) (K : Value → Hp → Prop) : l48_SuccinctRanges_b10 parents parentsL parentsC v w t nv up t184 t185 h nx0 K = (
  InR (t185 + 1) ∧
  nx0 (up, t185 + 1, ()) h) := by kernel_rfl
theorem l48_SuccinctRanges_call {parents : Option Addr} {parentsL : Nat} {parentsC : Nat} {v : Int} {w : Int} {h : Hp} {K : Value → Hp → Prop} (hk : l48_SuccinctRanges_b0 parents parentsL parentsC v w h K) : HCalls Try.prog 9 #[.slice parents parentsL parentsC, .int .i64 v, .int .i64 w] h K :=
  calls_of_snd l48_SuccinctRanges_an Try.func9 (c := bodyOf Try.f9) rfl Try.ntmps9 (Nat.le_of_ble_eq_true rfl) (snd_6 F_ok F_mixed) hk

/-! ### l48_SuccinctApart -/
def l48_SuccinctApart_an : Ann := .node none (.leaf) (.node none (.leaf) (.node none (.leaf) (.node none (.leaf) (.node none (.leaf) (.node none (.leaf) (.node none (.leaf) (.node none (.leaf) (.node none (.leaf) (.node none (.leaf) (.node none (.leaf) (.node none (.leaf) (.node (some [0, 1, 5, 6]) (.node none (.leaf) (.loop [0, 1, 5, 6, 85, 86] [(87, .int .i64)] (.node none (.leaf) (.node none (.leaf) (.node (some [0, 1, 5, 6, 85, 86, 87]) (.leaf) (.leaf)))))) (.node (some [0, 1]) (.leaf) (.node (some [0, 1]) (.leaf) (.node none (.leaf) (.node none (.leaf) (.node none (.leaf) (.node none (.leaf) (.node none (.leaf) (.node (some [1, 31]) (.leaf) (.node (some [1, 31]) (.leaf) (.leaf))))))))))))))))))))))
def l48_SuccinctApart_K0  (K : Value → Hp → Prop) : Exit → Env → Hp → Prop := retK Try.prog Try.f10.results.toList K
def l48_SuccinctApart_K1  (K : Value → Hp → Prop) : Exit → Env → Hp → Prop := thenE (fun env h => sx_5 Try.prog F 181 (cp [1, 1, 1, 1, 1, 1, 1, 1, 1, 1, 1, 1, 1] (bodyOf Try.f10)) (ap [1, 1, 1, 1, 1, 1, 1, 1, 1, 1, 1, 1, 1] l48_SuccinctApart_an) (rs [0, 1, 5, 6] env) h (l48_SuccinctApart_K0  K)) (l48_SuccinctApart_K0  K)
def l48_SuccinctApart_K2  (K : Value → Hp → Prop) : Exit → Env → Hp → Prop := blockE 0 (l48_SuccinctApart_K1  K)
def l48_SuccinctApart_K3 (nx0 : Int × Unit → Hp → Prop) (K : Value → Hp → Prop) : Exit → Env → Hp → Prop := thenE (fun env h => getV [(87, .int .i64)] env fun s => nx0 s h) (l48_SuccinctApart_K2  K)
def l48_SuccinctApart_b0 (parents : Option Addr) (parentsL : Nat) (parentsC : Nat) (l : Option Addr) (lL : Nat) (lC : Nat) (h : Hp)  (K : Value → Hp → Prop) : Prop :=
  sx_6 Try.prog F 181 (cp [] (bodyOf Try.f10)) (ap [] l48_SuccinctApart_an) [(0, .slice parents parentsL parentsC), (1, .slice l lL lC)] h (l48_SuccinctApart_K0  K)
def l48_SuccinctApart_b1 (t87 : Int) (parents : Option Addr) (parentsL : Nat) (parentsC : Nat) (l : Option Addr) (lL : Nat) (lC : Nat) (t : Option Addr) (m : Option Addr) (t85 : Option Addr) (t85L : Nat) (t85C : Nat) (t86 : Int) (h : Hp) (nx0 : Int × Unit → Hp → Prop) (K : Value → Hp → Prop) : Prop :=
  sx_5 Try.prog F 181 (cp [1, 1, 1, 1, 1, 1, 1, 1, 1, 1, 1, 1, 0, 1, 2, 2] (bodyOf Try.f10)) (ap [1, 1, 1, 1, 1, 1, 1, 1, 1, 1, 1, 1, 0, 1, 2] l48_SuccinctApart_an) [(87, .int .i64 t87), (0, .slice parents parentsL parentsC), (1, .slice l lL lC), (5, .pointer t), (6, .pointer m), (85, .slice t85 t85L t85C), (86, .int .i64 t86)] h (l48_SuccinctApart_K3 nx0 K)
def l48_SuccinctApart_b2 (parents : Option Addr) (parentsL : Nat) (parentsC : Nat) (l : Option Addr) (lL : Nat) (lC : Nat) (t : Option Addr) (m : Option Addr) (t85 : Option Addr) (t85L : Nat) (t85C : Nat) (t86 : Int) (t87 : Int) (h : Hp) (nx0 : Int × Unit → Hp → Prop) (K : Value → Hp → Prop) : Prop :=
  sx_4 Try.prog F 181 (cp [1, 1, 1, 1, 1, 1, 1, 1, 1, 1, 1, 1, 0, 1, 2, 2, 1, 1, 1] (bodyOf Try.f10)) (ap [1, 1, 1, 1, 1, 1, 1, 1, 1, 1, 1, 1, 0, 1, 2, 1, 1, 1] l48_SuccinctApart_an) [(0, .slice parents parentsL parentsC), (1, .slice l lL lC), (5, .pointer t), (6, .pointer m), (85, .slice t85 t85L t85C), (86, .int .i64 t86), (87, .int .i64 t87)] h (l48_SuccinctApart_K3 nx0 K)
def l48_SuccinctApart_b3 (parents : Option Addr) (parentsL : Nat) (parentsC : Nat) (l : Option Addr) (lL : Nat) (lC : Nat) (t : Option Addr) (m : Option Addr) (h : Hp)  (K : Value → Hp → Prop) : Prop :=
  sx_5 Try.prog F 181 (cp [1, 1, 1, 1, 1, 1, 1, 1, 1, 1, 1, 1, 1] (bodyOf Try.f10)) (ap [1, 1, 1, 1, 1, 1, 1, 1, 1, 1, 1, 1, 1] l48_SuccinctApart_an) [(0, .slice parents parentsL parentsC), (1, .slice l lL lC), (5, .pointer t), (6, .pointer m)] h (l48_SuccinctApart_K0  K)
def l48_SuccinctApart_b4 (parents : Option Addr) (parentsL : Nat) (parentsC : Nat) (l : Option Addr) (lL : Nat) (lC : Nat) (h : Hp)  (K : Value → Hp → Prop) : Prop :=
  sx_4 Try.prog F 181 (cp [1, 1, 1, 1, 1, 1, 1, 1, 1, 1, 1, 1, 1, 1] (bodyOf Try.f10)) (ap [1, 1, 1, 1, 1, 1, 1, 1, 1, 1, 1, 1, 1, 1] l48_SuccinctApart_an) [(0, .slice parents parentsL parentsC), (1, .slice l lL lC)] h (l48_SuccinctApart_K0  K)
def l48_SuccinctApart_b5 (parents : Option Addr) (parentsL : Nat) (parentsC : Nat) (l : Option Addr) (lL : Nat) (lC : Nat) (h : Hp)  (K : Value → Hp → Prop) : Prop :=
  sx_3 Try.prog F 181 (cp [1, 1, 1, 1, 1, 1, 1, 1, 1, 1, 1, 1, 1, 1, 1] (bodyOf Try.f10)) (ap [1, 1, 1, 1, 1, 1, 1, 1, 1, 1, 1, 1, 1, 1, 1] l48_SuccinctApart_an) [(0, .slice parents parentsL parentsC), (1, .slice l lL lC)] h (l48_SuccinctApart_K0  K)
def l48_SuccinctApart_b6 (l : Option Addr) (lL : Nat) (lC : Nat) (v : Option Addr) (h : Hp)  (K : Value → Hp → Prop) : Prop :=
  sx_2 Try.prog F 181 (cp [1, 1, 1, 1, 1, 1, 1, 1, 1, 1, 1, 1, 1, 1, 1, 1, 1, 1, 1, 1, 1] (bodyOf Try.f10)) (ap [1, 1, 1, 1, 1, 1, 1, 1, 1, 1, 1, 1, 1, 1, 1, 1, 1, 1, 1, 1, 1] l48_SuccinctApart_an) [(1, .slice l lL lC), (31, .pointer v)] h (l48_SuccinctApart_K0  K)
def l48_SuccinctApart_b7 (l : Option Addr) (lL : Nat) (lC : Nat) (v : Option Addr) (h : Hp)  (K : Value → Hp → Prop) : Prop :=
  sx_1 Try.prog F 181 (cp [1, 1, 1, 1, 1, 1, 1, 1, 1, 1, 1, 1, 1, 1, 1, 1, 1, 1, 1, 1, 1, 1] (bodyOf Try.f10)) (ap [1, 1, 1, 1, 1, 1, 1, 1, 1, 1, 1, 1, 1, 1, 1, 1, 1, 1, 1, 1, 1, 1] l48_SuccinctApart_an) [(1, .slice l lL lC), (31, .pointer v)] h (l48_SuccinctApart_K0  K)
theorem l48_SuccinctApart_b0_eq (parents : Option Addr) (parentsL : Nat) (parentsC : Nat) (l : Option Addr) (lL : Nat) (lC : Nat) (h : Hp)  (K : Value → Hp → Prop) : l48_SuccinctApart_b0 parents parentsL parentsC l lL lC h  K = (
  HCalls Try.prog 11 #[] h fun v1 h1 => ∃ r1 : Bool, v1 = .bool r1 ∧
  cond (!r1)
  (K (.bool false) h1)
  (HCalls Try.prog 37 #[.pointer none, .int .i64 0] h1 fun v2 h2 => ∃ r2 : Int, ∃ r3 : Int, v2 = .tuple #[.int .i64 r2, .int .i64 r3] ∧
  HCalls Try.prog 34 #[.pointer none, .int .i64 0] h2 fun v3 h3 => ∃ r4 : Int, ∃ r5 : Int, v3 = .tuple #[.int .i64 r4, .int .i64 r5] ∧
  HCalls Try.prog 39 #[.pointer none, .int .i64 0, .int .i64 0] h3 fun v4 h4 => ∃ r6 : Int, ∃ r7 : Int, v4 = .tuple #[.int .i64 r6, .int .i64 r7] ∧
  HCalls Try.prog 32 #[.pointer none, .int .i64 0] h4 fun v5 h5 => ∃ r8 : Int, ∃ r9 : Int, v5 = .tuple #[.int .i64 r8, .int .i64 r9] ∧
  HCalls Try.prog 41 #[.pointer none, .int .i64 0] h5 fun v6 h6 => ∃ r10 : Int, ∃ r11 : Int, v6 = .tuple #[.int .i64 r10, .int .i64 r11] ∧
  HCalls Try.prog 33 #[.pointer none, .int .i64 0, .int .i64 0] h6 fun v7 h7 => ∃ r12 : Int, ∃ r13 : Int, v7 = .tuple #[.int .i64 r12, .int .i64 r13] ∧
  HCalls Try.prog 15 #[.pointer none, .int .i64 0] h7 fun v8 h8 => ∃ r14 : Int, ∃ r15 : Int, v8 = .tuple #[.int .i64 r14, .int .i64 r15] ∧
  HCalls Try.prog 16 #[.pointer none, .int .i64 0] h8 fun v9 h9 => ∃ r16 : Int, ∃ r17 : Int, ∃ r18 : Int, v9 = .tuple #[.int .i64 r16, .int .i64 r17, .int .i64 r18] ∧
  New h9 (.cells #[.int .i64 r3, .int .i64 r5, .int .i64 r7, .int .i64 r9, .int .i64 r11, .int .i64 r13, .int .i64 r15, .int .i64 r18] 26) fun b1 h10 =>
  LoopVC ((0, ()) : Int × Unit) h10 (fun (nx0 : Int × Unit → Hp → Prop) (s1 : Int × Unit) h11 => l48_SuccinctApart_b1 s1.1 parents parentsL parentsC l lL lC none none (some ⟨b1, 0, none⟩) 8 8 ((8 : Nat) : Int) h11 nx0 K))) := by kernel_rfl
theorem l48_SuccinctApart_b1_eq (t87 : Int) (parents : Option Addr) (parentsL : Nat) (parentsC : Nat) (l : Option Addr) (lL : Nat) (lC : Nat) (t : Option Addr) (m : Option Addr) (t85 : Option Addr) (t85L : Nat) (t85C : Nat) (t86 : Int) (h : Hp) (nx0 : Int × Unit → Hp → Prop) (K : Value → Hp → Prop) : l48_SuccinctApart_b1 t87 parents parentsL parentsC l lL lC t m t85 t85L t85C t86 h nx0 K = (
  cond (decide (t87 < t86))
  ((0 ≤ t87 ∧ t87 < (t85L : Int)) ∧
  NN t85 fun a1 =>
  ∃ n1 : Int, cell h (a1.add (Int.toNat t87 * 1)) = some (.int .i64 n1) ∧
  cond (!decide (n1 = 1))
  (K (.bool false) h)
  (l48_SuccinctApart_b2 parents parentsL parentsC l lL lC t m t85 t85L t85C t86 t87 h nx0 K))
  (l48_SuccinctApart_b3 parents parentsL parentsC l lL lC t m h  K)) := by kernel_rfl
theorem l48_SuccinctApart_b2_eq (parents : Option Addr) (parentsL : Nat) (parentsC : Nat) (l : Option Addr) (lL : Nat) (lC : Nat) (t : Option Addr) (m : Option Addr) (t85 : Option Addr) (t85L : Nat) (t85C : Nat) (t86 : Int) (t87 : Int) (h : Hp) (nx0 : Int × Unit → Hp → Prop) (K : Value → Hp → Prop) : l48_SuccinctApart_b2 parents parentsL parentsC l lL lC t m t85 t85L t85C t86 t87 h nx0 K = (
  InR (t87 + 1) ∧
  nx0 (t87 + 1, ()) h) := by kernel_rfl
theorem l48_SuccinctApart_b3_eq (parents : Option Addr) (parentsL : Nat) (parentsC : Nat) (l : Option Addr) (lL : Nat) (lC : Nat) (t : Option Addr) (m : Option Addr) (h : Hp)  (K : Value → Hp → Prop) : l48_SuccinctApart_b3 parents parentsL parentsC l lL lC t m h  K = (
  HCalls Try.prog 23 #[.pointer t] h fun v10 h12 => ∃ r19 : Int, v10 = .int .i64 r19 ∧
  cond (!decide (r19 = 0))
  (K (.bool false) h12)
  (HCalls Try.prog 22 #[.pointer t] h12 fun v11 h13 => ∃ r20 : ByteArray, v11 = .string r20 ∧
  cond (!strEq r20 (⟨#[]⟩ : ByteArray))
  (K (.bool false) h13)
  (HCalls Try.prog 24 #[.pointer t] h13 fun v12 h14 => ∃ r21 : Int, v12 = .int .i64 r21 ∧
  cond (!decide (r21 = 0))
  (K (.bool false) h14)
  (HCalls Try.prog 18 #[.pointer m] h14 fun v13 h15 => ∃ r22 : Int, v13 = .int .i64 r22 ∧
  cond (!decide (r22 = 0))
  (K (.bool false) h15)
  (HCalls Try.prog 19 #[.pointer m] h15 fun v14 h16 => ∃ r23 : Int, v14 = .int .i64 r23 ∧
  cond (!decide (r23 = 0))
  (K (.bool false) h16)
  (l48_SuccinctApart_b4 parents parentsL parentsC l lL lC h16  K)))))) := by kernel_rfl
theorem l48_SuccinctApart_b4_eq (parents : Option Addr) (parentsL : Nat) (parentsC : Nat) (l : Option Addr) (lL : Nat) (lC : Nat) (h : Hp)  (K : Value → Hp → Prop) : l48_SuccinctApart_b4 parents parentsL parentsC l lL lC h  K = (
  HCalls Try.prog 12 #[.slice parents parentsL parentsC] h fun v15 h17 => ∃ r24 : Bool, v15 = .bool r24 ∧
  cond r24
  (K (.bool true) h17)
  (HCalls Try.prog 12 #[.slice l lL lC] h17 fun v16 h18 => ∃ r25 : Bool, v16 = .bool r25 ∧
  cond r25
  (K (.bool true) h18)
  (l48_SuccinctApart_b5 parents parentsL parentsC l lL lC h18  K))) := by kernel_rfl
theorem l48_SuccinctApart_b5_eq (parents : Option Addr) (parentsL : Nat) (parentsC : Nat) (l : Option Addr) (lL : Nat) (lC : Nat) (h : Hp)  (K : Value → Hp → Prop) : l48_SuccinctApart_b5 parents parentsL parentsC l lL lC h  K = (
  New h (.cells #[] 3) fun b2 h19 =>
  appendV Try.prog 22 22 (.slice (some ⟨b2, 0, none⟩) 0 0) (.slice parents parentsL parentsC) h19 (slK fun a2 l1 c1 h20 =>
  New h20 (.cells #[] 3) fun b3 h21 =>
  appendV Try.prog 22 22 (.slice (some ⟨b3, 0, none⟩) 0 0) (.slice l lL lC) h21 (slK fun a3 l2 c2 h22 =>
  HCalls Try.prog 21 #[.slice a2 l1 c1] h22 fun v17 h23 => ∃ r26 : Option Addr, ∃ r27 : ByteArray, ∃ r28 : Bool, v17 = .tuple #[.pointer r26, .string r27, .bool r28] ∧
  HCalls Try.prog 13 #[.slice a3 l2 c2] h23 fun v18 h24 => ∃ r29 : Option Addr, ∃ r30 : Int, v18 = .tuple #[.pointer r29, .int .i64 r30] ∧
  clearV Try.prog 22 (.slice a2 l1 c1) h24 fun h25 =>
  clearV Try.prog 22 (.slice a3 l2 c2) h25 fun h26 =>
  cond (!r28)
  (K (.bool false) h26)
  (cond (!r26.isNone)
  (HCalls Try.prog 22 #[.pointer r26] h26 fun v19 h27 => ∃ r31 : ByteArray, v19 = .string r31 ∧
  cond (!strEq r31 r27)
  (K (.bool false) h27)
  (l48_SuccinctApart_b6 l lL lC r29 h27  K))
  (l48_SuccinctApart_b6 l lL lC r29 h26  K))))) := by kernel_rfl
theorem l48_SuccinctApart_b6_eq (l : Option Addr) (lL : Nat) (lC : Nat) (v : Option Addr) (h : Hp)  (K : Value → Hp → Prop) : l48_SuccinctApart_b6 l lL lC v h  K = (
  cond v.isNone
  (K (.bool true) h)
  (cond (decide ((lL : Int) = 0))
  (K (.bool true) h)
  (l48_SuccinctApart_b7 l lL lC v h  K))) := by kernel_rfl
theorem l48_SuccinctApart_b7_eq (l : Option Addr) (lL : Nat) (lC : Nat) (v : Option Addr) (h : Hp)  (K : Value → Hp → Prop) : l48_SuccinctApart_b7 l lL lC v h  K = (
  InR ((lL : Int) - 1) ∧
  HCalls Try.prog 15 #[.pointer v, .int .i64 ((lL : Int) - 1)] h fun v20 h28 => ∃ r32 : Int, ∃ r33 : Int, v20 = .tuple #[.int .i64 r32, .int .i64 r33] ∧
  cond (decide (r33 = 0))
  (InR ((lL : Int) - 1) ∧
  (0 ≤ (lL : Int) - 1 ∧ (lL : Int) - 1 < (lL : Int)) ∧
  NN l fun a4 =>
  ∃ n2 : Int, cell h28 (a4.add (Int.toNat ((lL : Int) - 1) * 1)) = some (.int .i64 n2) ∧
  K (.bool (decide (r32 = n2))) h28)
  (K (.bool false) h28)) := by kernel_rfl
theorem l48_SuccinctApart_call {parents : Option Addr} {parentsL : Nat} {parentsC : Nat} {l : Option Addr} {lL : Nat} {lC : Nat} {h : Hp} {K : Value → Hp → Prop} (hk : l48_SuccinctApart_b0 parents parentsL parentsC l lL lC h K) : HCalls Try.prog 10 #[.slice parents parentsL parentsC, .slice l lL lC] h K :=
  calls_of_snd l48_SuccinctApart_an Try.func10 (c := bodyOf Try.f10) rfl Try.ntmps10 (Nat.le_of_ble_eq_true rfl) (snd_6 F_ok F_mixed) hk

/-! ### l48_awake -/
def l48_awake_an : Ann := .node none (.leaf) (.node none (.leaf) (.node none (.leaf) (.node (some [1, 3]) (.leaf) (.leaf))))
def l48_awake_K0  (K : Value → Hp → Prop) : Exit → Env → Hp → Prop := retK Try.prog Try.f11.results.toList K
def l48_awake_b0  (h : Hp)  (K : Value → Hp → Prop) : Prop :=
  sx_2 Try.prog F 73 (cp [] (bodyOf Try.f11)) (ap [] l48_awake_an) [] h (l48_awake_K0  K)
def l48_awake_b1 (t : Option Addr) (m : Option Addr) (h : Hp)  (K : Value → Hp → Prop) : Prop :=
  sx_1 Try.prog F 73 (cp [1, 1, 1, 1] (bodyOf Try.f11)) (ap [1, 1, 1, 1] l48_awake_an) [(1, .pointer t), (3, .pointer m)] h (l48_awake_K0  K)
theorem l48_awake_b0_eq  (h : Hp)  (K : Value → Hp → Prop) : l48_awake_b0  h  K = (
  New h (.cells #[.int .i64 (-1), .int .i64 0, .int .i64 1, .int .i64 0] 3) fun b1 h1 =>
  HCalls Try.prog 30 #[.slice (some ⟨b1, 0, none⟩) 4 4] h1 fun v1 h2 => ∃ r1 : Option Addr, ∃ r2 : Int, v1 = .tuple #[.pointer r1, .int .i64 r2] ∧
  New h2 (.cells #[.int .i64 2, .int .i64 3, .int .i64 5, .int .i64 7, .int .i64 11, .int .i64 13, .int .i64 24] 3) fun b2 h3 =>
  HCalls Try.prog 13 #[.slice (some ⟨b2, 0, none⟩) 7 7] h3 fun v2 h4 => ∃ r3 : Option Addr, ∃ r4 : Int, v2 = .tuple #[.pointer r3, .int .i64 r4] ∧
  cond (!decide (r2 = 0))
  (K (.bool false) h4)
  (cond r1.isNone
  (K (.bool false) h4)
  (cond (!decide (r4 = 0))
  (K (.bool false) h4)
  (cond r3.isNone
  (K (.bool false) h4)
  (l48_awake_b1 r1 r3 h4  K))))) := by kernel_rfl
theorem l48_awake_b1_eq (t : Option Addr) (m : Option Addr) (h : Hp)  (K : Value → Hp → Prop) : l48_awake_b1 t m h  K = (
  HCalls Try.prog 37 #[.pointer t, .int .i64 1] h fun v3 h5 => ∃ r5 : Int, ∃ r6 : Int, v3 = .tuple #[.int .i64 r5, .int .i64 r6] ∧
  HCalls Try.prog 16 #[.pointer m, .int .i64 6] h5 fun v4 h6 => ∃ r7 : Int, ∃ r8 : Int, ∃ r9 : Int, v4 = .tuple #[.int .i64 r7, .int .i64 r8, .int .i64 r9] ∧
  HCalls Try.prog 22 #[.pointer t] h6 fun v5 h7 => ∃ r10 : ByteArray, v5 = .string r10 ∧
  cond (strEq r10 (⟨#[40, 40, 40, 41, 41, 40, 41, 41]⟩ : ByteArray))
  (cond (decide (r6 = 0))
  (cond (decide (r5 = 4))
  (HCalls Try.prog 19 #[.pointer m] h7 fun v6 h8 => ∃ r11 : Int, v6 = .int .i64 r11 ∧
  cond (decide (r11 = 27))
  (cond (decide (r9 = 0))
  (cond (decide (r7 = 3))
  (K (.bool (decide (r8 = 7))) h8)
  (K (.bool false) h8))
  (K (.bool false) h8))
  (K (.bool false) h8))
  (K (.bool false) h7))
  (K (.bool false) h7))
  (K (.bool false) h7)) := by kernel_rfl
theorem l48_awake_call  {h : Hp} {K : Value → Hp → Prop} (hk : l48_awake_b0  h K) : HCalls Try.prog 11 #[] h K :=
  calls_of_snd l48_awake_an Try.func11 (c := bodyOf Try.f11) rfl Try.ntmps11 (Nat.le_of_ble_eq_true rfl) (snd_2 F_ok F_mixed) hk

/-! ### l48_many -/
def l48_many_an : Ann := .leaf
def l48_many_K0  (K : Value → Hp → Prop) : Exit → Env → Hp → Prop := retK Try.prog Try.f12.results.toList K
def l48_many_b0 (l : Option Addr) (lL : Nat) (lC : Nat) (h : Hp)  (K : Value → Hp → Prop) : Prop :=
  sx_1 Try.prog F 16 (cp [] (bodyOf Try.f12)) (ap [] l48_many_an) [(0, .slice l lL lC)] h (l48_many_K0  K)
theorem l48_many_b0_eq (l : Option Addr) (lL : Nat) (lC : Nat) (h : Hp)  (K : Value → Hp → Prop) : l48_many_b0 l lL lC h  K = (
  cond (decide ((60 : Int) < (lL : Int)))
  (cond (decide ((lL : Int) ≤ 1000))
  (K (.bool true) h)
  (K (.bool (decide ((1100 : Int) < (lL : Int)))) h))
  (K (.bool (decide ((1100 : Int) < (lL : Int)))) h)) := by kernel_rfl
theorem l48_many_call {l : Option Addr} {lL : Nat} {lC : Nat} {h : Hp} {K : Value → Hp → Prop} (hk : l48_many_b0 l lL lC h K) : HCalls Try.prog 12 #[.slice l lL lC] h K :=
  calls_of_snd l48_many_an Try.func12 (c := bodyOf Try.f12) rfl Try.ntmps12 (Nat.le_of_ble_eq_true rfl) (snd_1 F_ok F_mixed) hk

/-! ### succinct_MakeMonotone -/
def succinct_MakeMonotone_an : Ann := .node none (.leaf) (.node (some [0]) (.node none (.leaf) (.loop [0, 14, 15] [(16, .int .i64)] (.node none (.leaf) (.node none (.leaf) (.node (some [0, 14, 15, 16]) (.leaf) (.leaf)))))) (.node none (.leaf) (.node none (.leaf) (.node none (.leaf) (.node none (.leaf) (.node (some [0, 7, 8]) (.node none (.leaf) (.node none (.node none (.leaf) (.node (some [0, 6, 7, 9]) (.leaf) (.leaf))) (.leaf))) (.node (some [7, 8]) (.node none (.leaf) (.loop [7, 8, 89, 90] [(91, .int .i64)] (.node none (.leaf) (.node none (.leaf) (.node (some [7, 8, 89, 90, 91]) (.node none (.leaf) (.node none (.leaf) (.plan (.qu 0 (.qu 1 (.qu 2 (.qu 3 (.qu 4 (.qu 5 (.qu 6 (.qu 7 (.qu 8 (.qu 9 (.qu 10 (.qu 11 (.qu 12 (.wo 13 (.wo 14 (.qu 15 (.qu 16 (.wo 17 .fin .no))) .no) .no))))))))))))))))) (.leaf)))))) (.leaf))))))))
def succinct_MakeMonotone_K0  (K : Value → Hp → Prop) : Exit → Env → Hp → Prop := retK Try.prog Try.f13.results.toList K
def succinct_MakeMonotone_K1  (K : Value → Hp → Prop) : Exit → Env → Hp → Prop := thenE (fun env h => sx_4 Try.prog F 137 (cp [1, 1] (bodyOf Try.f13)) (ap [1, 1] succinct_MakeMonotone_an) (rs [0] env) h (succinct_MakeMonotone_K0  K)) (succinct_MakeMonotone_K0  K)
def succinct_MakeMonotone_K2  (K : Value → Hp → Prop) : Exit → Env → Hp → Prop := blockE 0 (succinct_MakeMonotone_K1  K)
def succinct_MakeMonotone_K3 (nx0 : Int × Unit → Hp → Prop) (K : Value → Hp → Prop) : Exit → Env → Hp → Prop := thenE (fun env h => getV [(16, .int .i64)] env fun s => nx0 s h) (succinct_MakeMonotone_K2  K)
def succinct_MakeMonotone_K4  (K : Value → Hp → Prop) : Exit → Env → Hp → Prop := thenE (fun env h => sx_3 Try.prog F 137 (cp [1, 1, 1, 1, 1, 1, 1] (bodyOf Try.f13)) (ap [1, 1, 1, 1, 1, 1, 1] succinct_MakeMonotone_an) (rs [0, 7, 8] env) h (succinct_MakeMonotone_K0  K)) (succinct_MakeMonotone_K0  K)
def succinct_MakeMonotone_K5  (K : Value → Hp → Prop) : Exit → Env → Hp → Prop := thenE (fun env h => sx_2 Try.prog F 137 (cp [1, 1, 1, 1, 1, 1, 1, 1] (bodyOf Try.f13)) (ap [1, 1, 1, 1, 1, 1, 1, 1] succinct_MakeMonotone_an) (rs [7, 8] env) h (succinct_MakeMonotone_K0  K)) (succinct_MakeMonotone_K0  K)
def succinct_MakeMonotone_K6  (K : Value → Hp → Prop) : Exit → Env → Hp → Prop := blockE 2 (succinct_MakeMonotone_K5  K)
def succinct_MakeMonotone_K7 (nx0 : Int × Unit → Hp → Prop) (K : Value → Hp → Prop) : Exit → Env → Hp → Prop := thenE (fun env h => getV [(91, .int .i64)] env fun s => nx0 s h) (succinct_MakeMonotone_K6  K)
def succinct_MakeMonotone_b0 (l : Option Addr) (lL : Nat) (lC : Nat) (h : Hp)  (K : Value → Hp → Prop) : Prop :=
  sx_5 Try.prog F 137 (cp [] (bodyOf Try.f13)) (ap [] succinct_MakeMonotone_an) [(0, .slice l lL lC)] h (succinct_MakeMonotone_K0  K)
def succinct_MakeMonotone_b1 (t16 : Int) (l : Option Addr) (lL : Nat) (lC : Nat) (t14 : Option Addr) (t14L : Nat) (t14C : Nat) (t15 : Int) (h : Hp) (nx0 : Int × Unit → Hp → Prop) (K : Value → Hp → Prop) : Prop :=
  sx_4 Try.prog F 137 (cp [1, 0, 1, 2, 2] (bodyOf Try.f13)) (ap [1, 0, 1, 2] succinct_MakeMonotone_an) [(16, .int .i64 t16), (0, .slice l lL lC), (14, .slice t14 t14L t14C), (15, .int .i64 t15)] h (succinct_MakeMonotone_K3 nx0 K)
def succinct_MakeMonotone_b2 (l : Option Addr) (lL : Nat) (lC : Nat) (t14 : Option Addr) (t14L : Nat) (t14C : Nat) (t15 : Int) (t16 : Int) (h : Hp) (nx0 : Int × Unit → Hp → Prop) (K : Value → Hp → Prop) : Prop :=
  sx_3 Try.prog F 137 (cp [1, 0, 1, 2, 2, 1, 1, 1] (bodyOf Try.f13)) (ap [1, 0, 1, 2, 1, 1, 1] succinct_MakeMonotone_an) [(0, .slice l lL lC), (14, .slice t14 t14L t14C), (15, .int .i64 t15), (16, .int .i64 t16)] h (succinct_MakeMonotone_K3 nx0 K)
def succinct_MakeMonotone_b3 (l : Option Addr) (lL : Nat) (lC : Nat) (h : Hp)  (K : Value → Hp → Prop) : Prop :=
  sx_4 Try.prog F 137 (cp [1, 1] (bodyOf Try.f13)) (ap [1, 1] succinct_MakeMonotone_an) [(0, .slice l lL lC)] h (succinct_MakeMonotone_K0  K)
def succinct_MakeMonotone_b4 (l : Option Addr) (lL : Nat) (lC : Nat) (nv : Int) (m : Option Addr) (u : Int) (h : Hp)  (K : Value → Hp → Prop) : Prop :=
  sx_3 Try.prog F 137 (cp [1, 1, 1, 1, 1, 1, 0, 1, 0, 1, 1] (bodyOf Try.f13)) (ap [1, 1, 1, 1, 1, 1, 0, 1, 0, 1, 1] succinct_MakeMonotone_an) [(0, .slice l lL lC), (6, .int .i64 nv), (7, .pointer m), (9, .int .i64 u)] h (succinct_MakeMonotone_K4  K)
def succinct_MakeMonotone_b5 (l : Option Addr) (lL : Nat) (lC : Nat) (m : Option Addr) (bits : Option Addr) (bitsL : Nat) (bitsC : Nat) (h : Hp)  (K : Value → Hp → Prop) : Prop :=
  sx_3 Try.prog F 137 (cp [1, 1, 1, 1, 1, 1, 1] (bodyOf Try.f13)) (ap [1, 1, 1, 1, 1, 1, 1] succinct_MakeMonotone_an) [(0, .slice l lL lC), (7, .pointer m), (8, .slice bits bitsL bitsC)] h (succinct_MakeMonotone_K0  K)
def succinct_MakeMonotone_b6 (t91 : Int) (m : Option Addr) (bits : Option Addr) (bitsL : Nat) (bitsC : Nat) (t89 : Option Addr) (t89L : Nat) (t89C : Nat) (t90 : Int) (h : Hp) (nx0 : Int × Unit → Hp → Prop) (K : Value → Hp → Prop) : Prop :=
  sx_2 Try.prog F 137 (cp [1, 1, 1, 1, 1, 1, 1, 0, 1, 2, 2] (bodyOf Try.f13)) (ap [1, 1, 1, 1, 1, 1, 1, 0, 1, 2] succinct_MakeMonotone_an) [(91, .int .i64 t91), (7, .pointer m), (8, .slice bits bitsL bitsC), (89, .slice t89 t89L t89C), (90, .int .i64 t90)] h (succinct_MakeMonotone_K7 nx0 K)
def succinct_MakeMonotone_b7 (m : Option Addr) (bits : Option Addr) (bitsL : Nat) (bitsC : Nat) (t89 : Option Addr) (t89L : Nat) (t89C : Nat) (t90 : Int) (t91 : Int) (h : Hp) (nx0 : Int × Unit → Hp → Prop) (K : Value → Hp → Prop) : Prop :=
  sx_1 Try.prog F 137 (cp [1, 1, 1, 1, 1, 1, 1, 0, 1, 2, 2, 1, 1, 1] (bodyOf Try.f13)) (ap [1, 1, 1, 1, 1, 1, 1, 0, 1, 2, 1, 1, 1] succinct_MakeMonotone_an) [(7, .pointer m), (8, .slice bits bitsL bitsC), (89, .slice t89 t89L t89C), (90, .int .i64 t90), (91, .int .i64 t91)] h (succinct_MakeMonotone_K7 nx0 K)
def succinct_MakeMonotone_b8 (m : Option Addr) (bits : Option Addr) (bitsL : Nat) (bitsC : Nat) (h : Hp)  (K : Value → Hp → Prop) : Prop :=
  sx_2 Try.prog F 137 (cp [1, 1, 1, 1, 1, 1, 1, 1] (bodyOf Try.f13)) (ap [1, 1, 1, 1, 1, 1, 1, 1] succinct_MakeMonotone_an) [(7, .pointer m), (8, .slice bits bitsL bitsC)] h (succinct_MakeMonotone_K0  K)
theorem succinct_MakeMonotone_b0_eq (l : Option Addr) (lL : Nat) (lC : Nat) (h : Hp)  (K : Value → Hp → Prop) : succinct_MakeMonotone_b0 l lL lC h  K = (
  LoopVC ((0, ()) : Int × Unit) h (fun (nx0 : Int × Unit → Hp → Prop) (s1 : Int × Unit) h1 => succinct_MakeMonotone_b1 s1.1 l lL lC l lL lC (lL : Int) h1 nx0 K)) := by kernel_rfl
theorem succinct_MakeMonotone_b1_eq (t16 : Int) (l : Option Addr) (lL : Nat) (lC : Nat) (t14 : Option Addr) (t14L : Nat) (t14C : Nat) (t15 : Int) (h : Hp) (nx0 : Int × Unit → Hp → Prop) (K : Value → Hp → Prop) : succinct_MakeMonotone_b1 t16 l lL lC t14 t14L t14C t15 h nx0 K = (
  cond (decide (t16 < t15))
  ((0 ≤ t16 ∧ t16 < (t14L : Int)) ∧
  NN t14 fun a1 =>
  ∃ n1 : Int, cell h (a1.add (Int.toNat t16 * 1)) = some (.int .i64 n1) ∧
  cond (decide (n1 < 0))
  (K (.tuple #[.pointer none, .int .i64 1]) h)
  (cond (decide ((1099511627776 : Int) < n1))
  (K (.tuple #[.pointer none, .int .i64 1]) h)
  (cond (decide ((0 : Int) < t16))
  (InR (t16 - 1) ∧
  (0 ≤ t16 - 1 ∧ t16 - 1 < (lL : Int)) ∧
  NN l fun a2 =>
  ∃ n2 : Int, cell h (a2.add (Int.toNat (t16 - 1) * 1)) = some (.int .i64 n2) ∧
  cond (decide (n1 < n2))
  (K (.tuple #[.pointer none, .int .i64 1]) h)
  (succinct_MakeMonotone_b2 l lL lC t14 t14L t14C t15 t16 h nx0 K))
  (succinct_MakeMonotone_b2 l lL lC t14 t14L t14C t15 t16 h nx0 K))))
  (succinct_MakeMonotone_b3 l lL lC h  K)) := by kernel_rfl
theorem succinct_MakeMonotone_b2_eq (l : Option Addr) (lL : Nat) (lC : Nat) (t14 : Option Addr) (t14L : Nat) (t14C : Nat) (t15 : Int) (t16 : Int) (h : Hp) (nx0 : Int × Unit → Hp → Prop) (K : Value → Hp → Prop) : succinct_MakeMonotone_b2 l lL lC t14 t14L t14C t15 t16 h nx0 K = (
  InR (t16 + 1) ∧
  nx0 (t16 + 1, ()) h) := by kernel_rfl
theorem succinct_MakeMonotone_b3_eq (l : Option Addr) (lL : Nat) (lC : Nat) (h : Hp)  (K : Value → Hp → Prop) : succinct_MakeMonotone_b3 l lL lC h  K = (
  cond (decide ((1000 : Int) < (lL : Int)))
  (K (.tuple #[.pointer none, .int .i64 4]) h)
  (New h (.cells #[.pointer none, .slice none 0 0, .int .i64 0, .int .i64 0] 68) fun b1 h2 =>
  cond (decide ((0 : Int) < (lL : Int)))
  (InR ((lL : Int) - 1) ∧
  (0 ≤ (lL : Int) - 1 ∧ (lL : Int) - 1 < (lL : Int)) ∧
  NN l fun a3 =>
  ∃ n3 : Int, cell h2 (a3.add (Int.toNat ((lL : Int) - 1) * 1)) = some (.int .i64 n3) ∧
  cond (decide ((lL : Int) ≤ n3))
  (∃ q1 : Int, Sx.Quo .i64 n3 (lL : Int) q1 ∧
  HCalls Try.prog 47 #[.int .i64 q1] h2 fun v1 h3 => ∃ r1 : Int, ∃ r2 : Int, v1 = .tuple #[.int .i64 r1, .int .i64 r2] ∧
  Wr h3 ((⟨b1, 0, none⟩ : Addr).add 2) (.int .i64 r1) fun h4 =>
  succinct_MakeMonotone_b4 l lL lC (lL : Int) (some ⟨b1, 0, none⟩) n3 h4  K)
  (succinct_MakeMonotone_b4 l lL lC (lL : Int) (some ⟨b1, 0, none⟩) n3 h2  K))
  (succinct_MakeMonotone_b5 l lL lC (some ⟨b1, 0, none⟩) none 0 0 h2  K))) := by kernel_rfl
theorem succinct_MakeMonotone_b4_eq (l : Option Addr) (lL : Nat) (lC : Nat) (nv : Int) (m : Option Addr) (u : Int) (h : Hp)  (K : Value → Hp → Prop) : succinct_MakeMonotone_b4 l lL lC nv m u h  K = (
  InR (nv + 1) ∧
  NN m fun a4 =>
  ∃ n4 : Int, cell h (a4.add 2) = some (.int .i64 n4) ∧
  ∃ sr1 : Int, Sx.Shr .i64 u n4 sr1 ∧
  InR ((nv + 1) + sr1) ∧
  (0 ≤ (nv + 1) + sr1 ∧ (nv + 1) + sr1 ≤ (nv + 1) + sr1 ∧ (nv + 1) + sr1 ≤ 281474976710656 ∧ ((nv + 1) + sr1) * ((1 : Nat) : Int) ≤ 281474976710656) ∧
  New h (.cells (repL (Int.toNat ((nv + 1) + sr1) * 1) [.bool false]).toArray 4) fun b2 h5 =>
  NN m fun a5 =>
  ∃ n5 : Int, cell h5 (a5.add 2) = some (.int .i64 n5) ∧
  InR (nv * n5) ∧
  InR ((nv * n5) + ((Int.toNat ((nv + 1) + sr1) : Nat) : Int)) ∧
  NN m fun a6 =>
  Wr h5 (a6.add 3) (.int .i64 ((nv * n5) + ((Int.toNat ((nv + 1) + sr1) : Nat) : Int))) fun h6 =>
  succinct_MakeMonotone_b5 l lL lC m (some ⟨b2, 0, none⟩) (Int.toNat ((nv + 1) + sr1)) (Int.toNat ((nv + 1) + sr1)) h6  K) := by kernel_rfl
theorem succinct_MakeMonotone_b5_eq (l : Option Addr) (lL : Nat) (lC : Nat) (m : Option Addr) (bits : Option Addr) (bitsL : Nat) (bitsC : Nat) (h : Hp)  (K : Value → Hp → Prop) : succinct_MakeMonotone_b5 l lL lC m bits bitsL bitsC h  K = (
  LoopVC ((0, ()) : Int × Unit) h (fun (nx0 : Int × Unit → Hp → Prop) (s2 : Int × Unit) h7 => succinct_MakeMonotone_b6 s2.1 m bits bitsL bitsC l lL lC (lL : Int) h7 nx0 K)) := by kernel_rfl
theorem succinct_MakeMonotone_b6_eq (t91 : Int) (m : Option Addr) (bits : Option Addr) (bitsL : Nat) (bitsC : Nat) (t89 : Option Addr) (t89L : Nat) (t89C : Nat) (t90 : Int) (h : Hp) (nx0 : Int × Unit → Hp → Prop) (K : Value → Hp → Prop) : succinct_MakeMonotone_b6 t91 m bits bitsL bitsC t89 t89L t89C t90 h nx0 K = (
  cond (decide (t91 < t90))
  ((0 ≤ t91 ∧ t91 < (t89L : Int)) ∧
  NN t89 fun a7 =>
  ∃ n6 : Int, cell h (a7.add (Int.toNat t91 * 1)) = some (.int .i64 n6) ∧
  NN m fun a8 =>
  ∃ n7 : Int, cell h (a8.add 2) = some (.int .i64 n7) ∧
  ∃ sr2 : Int, Sx.Shr .i64 n6 n7 sr2 ∧
  InR (t91 + sr2) ∧
  (0 ≤ t91 + sr2 ∧ t91 + sr2 < (bitsL : Int)) ∧
  NN bits fun a9 =>
  Wr h (a9.add (Int.toNat (t91 + sr2) * 1)) (.bool true) fun h8 =>
  NN m fun a10 =>
  ∃ (a11 : Option Addr) (L1 C1 : Nat), cell h8 (a10.add 1) = some (.slice a11 L1 C1) ∧
  NN m fun a12 =>
  ∃ n8 : Int, cell h8 (a12.add 2) = some (.int .i64 n8) ∧
  ∃ sl1 : Int, Sx.Shl .i64 1 n8 sl1 ∧
  InR (sl1 - 1) ∧
  ∃ an1 : Int, Sx.And .i64 n6 (sl1 - 1) an1 ∧
  New h8 (.cells #[.int .i64 an1] 3) fun b3 h9 =>
  (∃ (a13 : Option Addr) (L2 C2 : Nat), cell h9 (a10.add 1) = some (.slice a13 L2 C2) ∧
  (.slice a13 L2 C2 : Value) = .slice a11 L1 C1) ∧
  appendV Try.prog 22 22 (.slice a11 L1 C1) (.slice (some ⟨b3, 0, none⟩) 1 1) h9 (slK fun a14 l1 c1 h10 =>
  NN m fun a15 =>
  Wr h10 (a15.add 1) (.slice a14 l1 c1) fun h11 =>
  succinct_MakeMonotone_b7 m bits bitsL bitsC t89 t89L t89C t90 t91 h11 nx0 K))
  (succinct_MakeMonotone_b8 m bits bitsL bitsC h  K)) := by kernel_rfl
theorem succinct_MakeMonotone_b7_eq (m : Option Addr) (bits : Option Addr) (bitsL : Nat) (bitsC : Nat) (t89 : Option Addr) (t89L : Nat) (t89C : Nat) (t90 : Int) (t91 : Int) (h : Hp) (nx0 : Int × Unit → Hp → Prop) (K : Value → Hp → Prop) : succinct_MakeMonotone_b7 m bits bitsL bitsC t89 t89L t89C t90 t91 h nx0 K = (
  InR (t91 + 1) ∧
  nx0 (t91 + 1, ()) h) := by kernel_rfl
theorem succinct_MakeMonotone_b8_eq (m : Option Addr) (bits : Option Addr) (bitsL : Nat) (bitsC : Nat) (h : Hp)  (K : Value → Hp → Prop) : succinct_MakeMonotone_b8 m bits bitsL bitsC h  K = (
  HCalls Try.prog 48 #[.slice bits bitsL bitsC] h fun v2 h12 => ∃ r3 : Option Addr, ∃ r4 : Int, v2 = .tuple #[.pointer r3, .int .i64 r4] ∧
  cond (!decide (r4 = 0))
  (K (.tuple #[.pointer none, .int .i64 r4]) h12)
  (NN m fun a16 =>
  Wr h12 a16 (.pointer r3) fun h13 =>
  K (.tuple #[.pointer m, .int .i64 0]) h13)) := by kernel_rfl
theorem succinct_MakeMonotone_call {l : Option Addr} {lL : Nat} {lC : Nat} {h : Hp} {K : Value → Hp → Prop} (hk : succinct_MakeMonotone_b0 l lL lC h K) : HCalls Try.prog 13 #[.slice l lL lC] h K :=
  calls_of_snd succinct_MakeMonotone_an Try.func13 (c := bodyOf Try.f13) rfl Try.ntmps13 (Nat.le_of_ble_eq_true rfl) (snd_5 F_ok F_mixed) hk

/-! ### r48_List -/
def r48_List_an : Ann := .node none (.leaf) (.node (some [0]) (.node none (.leaf) (.loop [0] [(3, .int .i64)] (.node none (.leaf) (.node (some [0, 3]) (.leaf) (.leaf))))) (.leaf))
def r48_List_K0  (K : Value → Hp → Prop) : Exit → Env → Hp → Prop := retK Try.prog Try.f14.results.toList K
def r48_List_K1  (K : Value → Hp → Prop) : Exit → Env → Hp → Prop := thenE (fun env h => sx_2 Try.prog F 41 (cp [1, 1] (bodyOf Try.f14)) (ap [1, 1] r48_List_an) (rs [0] env) h (r48_List_K0  K)) (r48_List_K0  K)
def r48_List_K2  (K : Value → Hp → Prop) : Exit → Env → Hp → Prop := blockE 0 (r48_List_K1  K)
def r48_List_K3 (nx0 : Int × Unit → Hp → Prop) (K : Value → Hp → Prop) : Exit → Env → Hp → Prop := thenE (fun env h => getV [(3, .int .i64)] env fun s => nx0 s h) (r48_List_K2  K)
def r48_List_b0 (l : Option Addr) (lL : Nat) (lC : Nat) (h : Hp)  (K : Value → Hp → Prop) : Prop :=
  sx_3 Try.prog F 41 (cp [] (bodyOf Try.f14)) (ap [] r48_List_an) [(0, .slice l lL lC)] h (r48_List_K0  K)
def r48_List_b1 (i : Int) (l : Option Addr) (lL : Nat) (lC : Nat) (h : Hp) (nx0 : Int × Unit → Hp → Prop) (K : Value → Hp → Prop) : Prop :=
  sx_2 Try.prog F 41 (cp [1, 0, 1, 2, 2] (bodyOf Try.f14)) (ap [1, 0, 1, 2] r48_List_an) [(3, .int .i64 i), (0, .slice l lL lC)] h (r48_List_K3 nx0 K)
def r48_List_b2 (l : Option Addr) (lL : Nat) (lC : Nat) (i : Int) (h : Hp) (nx0 : Int × Unit → Hp → Prop) (K : Value → Hp → Prop) : Prop :=
  sx_1 Try.prog F 41 (cp [1, 0, 1, 2, 2, 1, 1] (bodyOf Try.f14)) (ap [1, 0, 1, 2, 1, 1] r48_List_an) [(0, .slice l lL lC), (3, .int .i64 i)] h (r48_List_K3 nx0 K)
def r48_List_b3 (l : Option Addr) (lL : Nat) (lC : Nat) (h : Hp)  (K : Value → Hp → Prop) : Prop :=
  sx_2 Try.prog F 41 (cp [1, 1] (bodyOf Try.f14)) (ap [1, 1] r48_List_an) [(0, .slice l lL lC)] h (r48_List_K0  K)
theorem r48_List_b0_eq (l : Option Addr) (lL : Nat) (lC : Nat) (h : Hp)  (K : Value → Hp → Prop) : r48_List_b0 l lL lC h  K = (
  LoopVC ((0, ()) : Int × Unit) h (fun (nx0 : Int × Unit → Hp → Prop) (s1 : Int × Unit) h1 => r48_List_b1 s1.1 l lL lC h1 nx0 K)) := by kernel_rfl
theorem r48_List_b1_eq (i : Int) (l : Option Addr) (lL : Nat) (lC : Nat) (h : Hp) (nx0 : Int × Unit → Hp → Prop) (K : Value → Hp → Prop) : r48_List_b1 i l lL lC h nx0 K = (
  cond (decide (i < (lL : Int)))
  ((0 ≤ i ∧ i < (lL : Int)) ∧
  NN l fun a1 =>
  ∃ n1 : Int, cell h (a1.add (Int.toNat i * 1)) = some (.int .i64 n1) ∧
  cond (decide (n1 < 0))
  (K (.int .i64 1) h)
  ((0 ≤ i ∧ i < (lL : Int)) ∧
  NN l fun a2 =>
  ∃ n2 : Int, cell h (a2.add (Int.toNat i * 1)) = some (.int .i64 n2) ∧
  cond (decide ((1099511627776 : Int) < n2))
  (K (.int .i64 1) h)
  (cond (decide ((0 : Int) < i))
  ((0 ≤ i ∧ i < (lL : Int)) ∧
  NN l fun a3 =>
  ∃ n3 : Int, cell h (a3.add (Int.toNat i * 1)) = some (.int .i64 n3) ∧
  InR (i - 1) ∧
  (0 ≤ i - 1 ∧ i - 1 < (lL : Int)) ∧
  NN l fun a4 =>
  ∃ n4 : Int, cell h (a4.add (Int.toNat (i - 1) * 1)) = some (.int .i64 n4) ∧
  cond (decide (n3 < n4))
  (K (.int .i64 1) h)
  (r48_List_b2 l lL lC i h nx0 K))
  (r48_List_b2 l lL lC i h nx0 K))))
  (r48_List_b3 l lL lC h  K)) := by kernel_rfl
theorem r48_List_b2_eq (l : Option Addr) (lL : Nat) (lC : Nat) (i : Int) (h : Hp) (nx0 : Int × Unit → Hp → Prop) (K : Value → Hp → Prop) : r48_List_b2 l lL lC i h nx0 K = (
  InR (i + 1) ∧
  nx0 (i + 1, ()) h) := by kernel_rfl
theorem r48_List_b3_eq (l : Option Addr) (lL : Nat) (lC : Nat) (h : Hp)  (K : Value → Hp → Prop) : r48_List_b3 l lL lC h  K = (
  cond (decide ((1000 : Int) < (lL : Int)))
  (K (.int .i64 4) h)
  (K (.int .i64 0) h)) := by kernel_rfl
theorem r48_List_call {l : Option Addr} {lL : Nat} {lC : Nat} {h : Hp} {K : Value → Hp → Prop} (hk : r48_List_b0 l lL lC h K) : HCalls Try.prog 14 #[.slice l lL lC] h K :=
  calls_of_snd r48_List_an Try.func14 (c := bodyOf Try.f14) rfl Try.ntmps14 (Nat.le_of_ble_eq_true rfl) (snd_3 F_ok F_mixed) hk

/-! ### succinct_Monotone_Get -/
def succinct_Monotone_Get_an : Ann := .node none (.leaf) (.node (some [0, 1]) (.leaf) (.leaf))
def succinct_Monotone_Get_K0  (K : Value → Hp → Prop) : Exit → Env → Hp → Prop := retK Try.prog Try.f15.results.toList K
def succinct_Monotone_Get_b0 (m : Option Addr) (i : Int) (h : Hp)  (K : Value → Hp → Prop) : Prop :=
  sx_2 Try.prog F 24 (cp [] (bodyOf Try.f15)) (ap [] succinct_Monotone_Get_an) [(0, .pointer m), (1, .int .i64 i)] h (succinct_Monotone_Get_K0  K)
def succinct_Monotone_Get_b1 (m : Option Addr) (i : Int) (h : Hp)  (K : Value → Hp → Prop) : Prop :=
  sx_1 Try.prog F 24 (cp [1, 1] (bodyOf Try.f15)) (ap [1, 1] succinct_Monotone_Get_an) [(0, .pointer m), (1, .int .i64 i)] h (succinct_Monotone_Get_K0  K)
theorem succinct_Monotone_Get_b0_eq (m : Option Addr) (i : Int) (h : Hp)  (K : Value → Hp → Prop) : succinct_Monotone_Get_b0 m i h  K = (
  cond m.isNone
  (K (.tuple #[.int .i64 0, .int .i64 1]) h)
  (cond (decide (i < 0))
  (K (.tuple #[.int .i64 0, .int .i64 2]) h)
  (NN m fun a1 =>
  ∃ (a2 : Option Addr) (L1 C1 : Nat), cell h (a1.add 1) = some (.slice a2 L1 C1) ∧
  cond (decide ((L1 : Int) ≤ i))
  (K (.tuple #[.int .i64 0, .int .i64 2]) h)
  (succinct_Monotone_Get_b1 m i h  K)))) := by kernel_rfl
theorem succinct_Monotone_Get_b1_eq (m : Option Addr) (i : Int) (h : Hp)  (K : Value → Hp → Prop) : succinct_Monotone_Get_b1 m i h  K = (
  HCalls Try.prog 49 #[.pointer m, .int .i64 i] h fun v1 h1 => ∃ r1 : Int, v1 = .int .i64 r1 ∧
  K (.tuple #[.int .i64 r1, .int .i64 0]) h1) := by kernel_rfl
theorem succinct_Monotone_Get_call {m : Option Addr} {i : Int} {h : Hp} {K : Value → Hp → Prop} (hk : succinct_Monotone_Get_b0 m i h K) : HCalls Try.prog 15 #[.pointer m, .int .i64 i] h K :=
  calls_of_snd succinct_Monotone_Get_an Try.func15 (c := bodyOf Try.f15) rfl Try.ntmps15 (Nat.le_of_ble_eq_true rfl) (snd_2 F_ok F_mixed) hk

/-! ### succinct_Monotone_Next -/
def succinct_Monotone_Next_an : Ann := .leaf
def succinct_Monotone_Next_K0  (K : Value → Hp → Prop) : Exit → Env → Hp → Prop := retK Try.prog Try.f16.results.toList K
def succinct_Monotone_Next_b0 (m : Option Addr) (x : Int) (h : Hp)  (K : Value → Hp → Prop) : Prop :=
  sx_1 Try.prog F 28 (cp [] (bodyOf Try.f16)) (ap [] succinct_Monotone_Next_an) [(0, .pointer m), (1, .int .i64 x)] h (succinct_Monotone_Next_K0  K)
theorem succinct_Monotone_Next_b0_eq (m : Option Addr) (x : Int) (h : Hp)  (K : Value → Hp → Prop) : succinct_Monotone_Next_b0 m x h  K = (
  New h (.cells #[.pointer m] 25) fun b1 h1 =>
  New h1 (.cells #[.int .i64 x] 3) fun b2 h2 =>
  ∃ p1 : Option Addr, cell h2 ⟨b1, 0, none⟩ = some (.pointer p1) ∧
  cond p1.isNone
  (K (.tuple #[.int .i64 0, .int .i64 0, .int .i64 1]) h2)
  (∃ p2 : Option Addr, cell h2 ⟨b1, 0, none⟩ = some (.pointer p2) ∧
  NN p2 fun a1 =>
  ∃ (a2 : Option Addr) (L1 C1 : Nat), cell h2 (a1.add 1) = some (.slice a2 L1 C1) ∧
  HCalls Try.prog 50 #[.int .i64 (L1 : Int), .func (.func 51) #[] #[.pointer (some ⟨b1, 0, none⟩), .pointer (some ⟨b2, 0, none⟩)]] h2 fun v1 h3 => ∃ r1 : Int, v1 = .int .i64 r1 ∧
  ∃ p3 : Option Addr, cell h3 ⟨b1, 0, none⟩ = some (.pointer p3) ∧
  NN p3 fun a3 =>
  ∃ (a4 : Option Addr) (L2 C2 : Nat), cell h3 (a3.add 1) = some (.slice a4 L2 C2) ∧
  cond (decide (r1 = (L2 : Int)))
  (K (.tuple #[.int .i64 0, .int .i64 0, .int .i64 12]) h3)
  (∃ p4 : Option Addr, cell h3 ⟨b1, 0, none⟩ = some (.pointer p4) ∧
  HCalls Try.prog 49 #[.pointer p4, .int .i64 r1] h3 fun v2 h4 => ∃ r2 : Int, v2 = .int .i64 r2 ∧
  K (.tuple #[.int .i64 r1, .int .i64 r2, .int .i64 0]) h4))) := by kernel_rfl
theorem succinct_Monotone_Next_call {m : Option Addr} {x : Int} {h : Hp} {K : Value → Hp → Prop} (hk : succinct_Monotone_Next_b0 m x h K) : HCalls Try.prog 16 #[.pointer m, .int .i64 x] h K :=
  calls_of_snd succinct_Monotone_Next_an Try.func16 (c := bodyOf Try.f16) rfl Try.ntmps16 (Nat.le_of_ble_eq_true rfl) (snd_1 F_ok F_mixed) hk

/-! ### r48_Next -/
def r48_Next_an : Ann := .node none (.leaf) (.node (some []) (.node none (.leaf) (.loop [0, 1] [(7, .int .i64)] (.node none (.leaf) (.node (some [0, 1, 7]) (.leaf) (.leaf))))) (.leaf))
def r48_Next_K0  (K : Value → Hp → Prop) : Exit → Env → Hp → Prop := retK Try.prog Try.f17.results.toList K
def r48_Next_K1  (K : Value → Hp → Prop) : Exit → Env → Hp → Prop := thenE (fun env h => sx_2 Try.prog F 25 (cp [1, 1] (bodyOf Try.f17)) (ap [1, 1] r48_Next_an) (rs [] env) h (r48_Next_K0  K)) (r48_Next_K0  K)
def r48_Next_K2  (K : Value → Hp → Prop) : Exit → Env → Hp → Prop := blockE 0 (r48_Next_K1  K)
def r48_Next_K3 (nx0 : Int × Unit → Hp → Prop) (K : Value → Hp → Prop) : Exit → Env → Hp → Prop := thenE (fun env h => getV [(7, .int .i64)] env fun s => nx0 s h) (r48_Next_K2  K)
def r48_Next_b0 (l : Option Addr) (lL : Nat) (lC : Nat) (x : Int) (h : Hp)  (K : Value → Hp → Prop) : Prop :=
  sx_3 Try.prog F 25 (cp [] (bodyOf Try.f17)) (ap [] r48_Next_an) [(0, .slice l lL lC), (1, .int .i64 x)] h (r48_Next_K0  K)
def r48_Next_b1 (i : Int) (l : Option Addr) (lL : Nat) (lC : Nat) (x : Int) (h : Hp) (nx0 : Int × Unit → Hp → Prop) (K : Value → Hp → Prop) : Prop :=
  sx_2 Try.prog F 25 (cp [1, 0, 1, 2, 2] (bodyOf Try.f17)) (ap [1, 0, 1, 2] r48_Next_an) [(7, .int .i64 i), (0, .slice l lL lC), (1, .int .i64 x)] h (r48_Next_K3 nx0 K)
def r48_Next_b2 (l : Option Addr) (lL : Nat) (lC : Nat) (x : Int) (i : Int) (h : Hp) (nx0 : Int × Unit → Hp → Prop) (K : Value → Hp → Prop) : Prop :=
  sx_1 Try.prog F 25 (cp [1, 0, 1, 2, 2, 1, 1] (bodyOf Try.f17)) (ap [1, 0, 1, 2, 1, 1] r48_Next_an) [(0, .slice l lL lC), (1, .int .i64 x), (7, .int .i64 i)] h (r48_Next_K3 nx0 K)
def r48_Next_b3  (h : Hp)  (K : Value → Hp → Prop) : Prop :=
  sx_2 Try.prog F 25 (cp [1, 1] (bodyOf Try.f17)) (ap [1, 1] r48_Next_an) [] h (r48_Next_K0  K)
theorem r48_Next_b0_eq (l : Option Addr) (lL : Nat) (lC : Nat) (x : Int) (h : Hp)  (K : Value → Hp → Prop) : r48_Next_b0 l lL lC x h  K = (
  LoopVC ((0, ()) : Int × Unit) h (fun (nx0 : Int × Unit → Hp → Prop) (s1 : Int × Unit) h1 => r48_Next_b1 s1.1 l lL lC x h1 nx0 K)) := by kernel_rfl
theorem r48_Next_b1_eq (i : Int) (l : Option Addr) (lL : Nat) (lC : Nat) (x : Int) (h : Hp) (nx0 : Int × Unit → Hp → Prop) (K : Value → Hp → Prop) : r48_Next_b1 i l lL lC x h nx0 K = (
  cond (decide (i < (lL : Int)))
  ((0 ≤ i ∧ i < (lL : Int)) ∧
  NN l fun a1 =>
  ∃ n1 : Int, cell h (a1.add (Int.toNat i * 1)) = some (.int .i64 n1) ∧
  cond (decide (x ≤ n1))
  ((0 ≤ i ∧ i < (lL : Int)) ∧
  NN l fun a2 =>
  ∃ n2 : Int, cell h (a2.add (Int.toNat i * 1)) = some (.int .i64 n2) ∧
  K (.tuple #[.int .i64 i, .int .i64 n2, .int .i64 0]) h)
  (r48_Next_b2 l lL lC x i h nx0 K))
  (r48_Next_b3  h  K)) := by kernel_rfl
theorem r48_Next_b2_eq (l : Option Addr) (lL : Nat) (lC : Nat) (x : Int) (i : Int) (h : Hp) (nx0 : Int × Unit → Hp → Prop) (K : Value → Hp → Prop) : r48_Next_b2 l lL lC x i h nx0 K = (
  InR (i + 1) ∧
  nx0 (i + 1, ()) h) := by kernel_rfl
theorem r48_Next_b3_eq  (h : Hp)  (K : Value → Hp → Prop) : r48_Next_b3  h  K = (
  K (.tuple #[.int .i64 0, .int .i64 0, .int .i64 12]) h) := by kernel_rfl
theorem r48_Next_call {l : Option Addr} {lL : Nat} {lC : Nat} {x : Int} {h : Hp} {K : Value → Hp → Prop} (hk : r48_Next_b0 l lL lC x h K) : HCalls Try.prog 17 #[.slice l lL lC, .int .i64 x] h K :=
  calls_of_snd r48_Next_an Try.func17 (c := bodyOf Try.f17) rfl Try.ntmps17 (Nat.le_of_ble_eq_true rfl) (snd_3 F_ok F_mixed) hk

/-! ### succinct_Monotone_Len -/
def succinct_Monotone_Len_an : Ann := .leaf
def succinct_Monotone_Len_K0  (K : Value → Hp → Prop) : Exit → Env → Hp → Prop := retK Try.prog Try.f18.results.toList K
def succinct_Monotone_Len_b0 (m : Option Addr) (h : Hp)  (K : Value → Hp → Prop) : Prop :=
  sx_1 Try.prog F 10 (cp [] (bodyOf Try.f18)) (ap [] succinct_Monotone_Len_an) [(0, .pointer m)] h (succinct_Monotone_Len_K0  K)
theorem succinct_Monotone_Len_b0_eq (m : Option Addr) (h : Hp)  (K : Value → Hp → Prop) : succinct_Monotone_Len_b0 m h  K = (
  cond m.isNone
  (K (.int .i64 0) h)
  (NN m fun a1 =>
  ∃ (a2 : Option Addr) (L1 C1 : Nat), cell h (a1.add 1) = some (.slice a2 L1 C1) ∧
  K (.int .i64 (L1 : Int)) h)) := by kernel_rfl
theorem succinct_Monotone_Len_call {m : Option Addr} {h : Hp} {K : Value → Hp → Prop} (hk : succinct_Monotone_Len_b0 m h K) : HCalls Try.prog 18 #[.pointer m] h K :=
  calls_of_snd succinct_Monotone_Len_an Try.func18 (c := bodyOf Try.f18) rfl Try.ntmps18 (Nat.le_of_ble_eq_true rfl) (snd_1 F_ok F_mixed) hk

/-! ### succinct_Monotone_Space -/
def succinct_Monotone_Space_an : Ann := .leaf
def succinct_Monotone_Space_K0  (K : Value → Hp → Prop) : Exit → Env → Hp → Prop := retK Try.prog Try.f19.results.toList K
def succinct_Monotone_Space_b0 (m : Option Addr) (h : Hp)  (K : Value → Hp → Prop) : Prop :=
  sx_1 Try.prog F 9 (cp [] (bodyOf Try.f19)) (ap [] succinct_Monotone_Space_an) [(0, .pointer m)] h (succinct_Monotone_Space_K0  K)
theorem succinct_Monotone_Space_b0_eq (m : Option Addr) (h : Hp)  (K : Value → Hp → Prop) : succinct_Monotone_Space_b0 m h  K = (
  cond m.isNone
  (K (.int .i64 0) h)
  (NN m fun a1 =>
  ∃ n1 : Int, cell h (a1.add 3) = some (.int .i64 n1) ∧
  K (.int .i64 n1) h)) := by kernel_rfl
theorem succinct_Monotone_Space_call {m : Option Addr} {h : Hp} {K : Value → Hp → Prop} (hk : succinct_Monotone_Space_b0 m h K) : HCalls Try.prog 19 #[.pointer m] h K :=
  calls_of_snd succinct_Monotone_Space_an Try.func19 (c := bodyOf Try.f19) rfl Try.ntmps19 (Nat.le_of_ble_eq_true rfl) (snd_1 F_ok F_mixed) hk

/-! ### r48_Space -/
def r48_Space_an : Ann := .node none (.leaf) (.node none (.leaf) (.node none (.leaf) (.node none (.leaf) (.node none (.leaf) (.node (some [3, 4, 5]) (.leaf) (.node none (.leaf) (.node (some [3, 5, 6]) (.node none (.leaf) (.loop [3, 5] [(6, .int .i64), (7, .int .i64)] (.node none (.leaf) (.node (some [3, 5, 6, 7]) (.leaf) (.leaf))))) (.leaf))))))))
def r48_Space_K0  (K : Value → Hp → Prop) : Exit → Env → Hp → Prop := retK Try.prog Try.f20.results.toList K
def r48_Space_K1  (K : Value → Hp → Prop) : Exit → Env → Hp → Prop := thenE (fun env h => sx_2 Try.prog F 40 (cp [1, 1, 1, 1, 1, 1, 1, 1] (bodyOf Try.f20)) (ap [1, 1, 1, 1, 1, 1, 1, 1] r48_Space_an) (rs [3, 5, 6] env) h (r48_Space_K0  K)) (r48_Space_K0  K)
def r48_Space_K2  (K : Value → Hp → Prop) : Exit → Env → Hp → Prop := blockE 0 (r48_Space_K1  K)
def r48_Space_K3 (nx0 : Int × Int × Unit → Hp → Prop) (K : Value → Hp → Prop) : Exit → Env → Hp → Prop := thenE (fun env h => getV [(6, .int .i64), (7, .int .i64)] env fun s => nx0 s h) (r48_Space_K2  K)
def r48_Space_b0 (l : Option Addr) (lL : Nat) (lC : Nat) (h : Hp)  (K : Value → Hp → Prop) : Prop :=
  sx_4 Try.prog F 40 (cp [] (bodyOf Try.f20)) (ap [] r48_Space_an) [(0, .slice l lL lC)] h (r48_Space_K0  K)
def r48_Space_b1 (nv : Int) (u : Int) (low : Int) (h : Hp)  (K : Value → Hp → Prop) : Prop :=
  sx_3 Try.prog F 40 (cp [1, 1, 1, 1, 1, 1] (bodyOf Try.f20)) (ap [1, 1, 1, 1, 1, 1] r48_Space_an) [(3, .int .i64 nv), (4, .int .i64 u), (5, .int .i64 low)] h (r48_Space_K0  K)
def r48_Space_b2 (high : Int) (i : Int) (nv : Int) (low : Int) (h : Hp) (nx0 : Int × Int × Unit → Hp → Prop) (K : Value → Hp → Prop) : Prop :=
  sx_2 Try.prog F 40 (cp [1, 1, 1, 1, 1, 1, 1, 0, 1, 2, 2] (bodyOf Try.f20)) (ap [1, 1, 1, 1, 1, 1, 1, 0, 1, 2] r48_Space_an) [(6, .int .i64 high), (7, .int .i64 i), (3, .int .i64 nv), (5, .int .i64 low)] h (r48_Space_K3 nx0 K)
def r48_Space_b3 (nv : Int) (low : Int) (high : Int) (i : Int) (h : Hp) (nx0 : Int × Int × Unit → Hp → Prop) (K : Value → Hp → Prop) : Prop :=
  sx_1 Try.prog F 40 (cp [1, 1, 1, 1, 1, 1, 1, 0, 1, 2, 2, 1, 1] (bodyOf Try.f20)) (ap [1, 1, 1, 1, 1, 1, 1, 0, 1, 2, 1, 1] r48_Space_an) [(3, .int .i64 nv), (5, .int .i64 low), (6, .int .i64 high), (7, .int .i64 i)] h (r48_Space_K3 nx0 K)
def r48_Space_b4 (nv : Int) (low : Int) (high : Int) (h : Hp)  (K : Value → Hp → Prop) : Prop :=
  sx_2 Try.prog F 40 (cp [1, 1, 1, 1, 1, 1, 1, 1] (bodyOf Try.f20)) (ap [1, 1, 1, 1, 1, 1, 1, 1] r48_Space_an) [(3, .int .i64 nv), (5, .int .i64 low), (6, .int .i64 high)] h (r48_Space_K0  K)
theorem r48_Space_b0_eq (l : Option Addr) (lL : Nat) (lC : Nat) (h : Hp)  (K : Value → Hp → Prop) : r48_Space_b0 l lL lC h  K = (
  cond (decide ((lL : Int) = 0))
  (K (.int .i64 0) h)
  (InR ((lL : Int) - 1) ∧
  (0 ≤ (lL : Int) - 1 ∧ (lL : Int) - 1 < (lL : Int)) ∧
  NN l fun a1 =>
  ∃ n1 : Int, cell h (a1.add (Int.toNat ((lL : Int) - 1) * 1)) = some (.int .i64 n1) ∧
  cond (decide ((lL : Int) ≤ n1))
  (∃ q1 : Int, Sx.Quo .i64 n1 (lL : Int) q1 ∧
  HCalls Try.prog 52 #[.int .i64 q1] h fun v1 h1 => ∃ r1 : Int, v1 = .int .i64 r1 ∧
  r48_Space_b1 (lL : Int) n1 r1 h1  K)
  (r48_Space_b1 (lL : Int) n1 0 h  K))) := by kernel_rfl
theorem r48_Space_b1_eq (nv : Int) (u : Int) (low : Int) (h : Hp)  (K : Value → Hp → Prop) : r48_Space_b1 nv u low h  K = (
  LoopVC ((u, 0, ()) : Int × Int × Unit) h (fun (nx0 : Int × Int × Unit → Hp → Prop) (s1 : Int × Int × Unit) h2 => r48_Space_b2 s1.1 s1.2.1 nv low h2 nx0 K)) := by kernel_rfl
theorem r48_Space_b2_eq (high : Int) (i : Int) (nv : Int) (low : Int) (h : Hp) (nx0 : Int × Int × Unit → Hp → Prop) (K : Value → Hp → Prop) : r48_Space_b2 high i nv low h nx0 K = (
  cond (decide (i < low))
  (∃ q2 : Int, Sx.Quo .i64 high 2 q2 ∧
  r48_Space_b3 nv low q2 i h nx0 K)
  (r48_Space_b4 nv low high h  K)) := by kernel_rfl
theorem r48_Space_b3_eq (nv : Int) (low : Int) (high : Int) (i : Int) (h : Hp) (nx0 : Int × Int × Unit → Hp → Prop) (K : Value → Hp → Prop) : r48_Space_b3 nv low high i h nx0 K = (
  InR (i + 1) ∧
  nx0 (high, i + 1, ()) h) := by kernel_rfl
theorem r48_Space_b4_eq (nv : Int) (low : Int) (high : Int) (h : Hp)  (K : Value → Hp → Prop) : r48_Space_b4 nv low high h  K = (
  InR (nv * low) ∧
  InR ((nv * low) + nv) ∧
  InR (((nv * low) + nv) + 1) ∧
  InR ((((nv * low) + nv) + 1) + high) ∧
  K (.int .i64 ((((nv * low) + nv) + 1) + high)) h) := by kernel_rfl
theorem r48_Space_call {l : Option Addr} {lL : Nat} {lC : Nat} {h : Hp} {K : Value → Hp → Prop} (hk : r48_Space_b0 l lL lC h K) : HCalls Try.prog 20 #[.slice l lL lC] h K :=
  calls_of_snd r48_Space_an Try.func20 (c := bodyOf Try.f20) rfl Try.ntmps20 (Nat.le_of_ble_eq_true rfl) (snd_4 F_ok F_mixed) hk

/-! ### l48_made -/
def l48_made_an : Ann := .leaf
def l48_made_K0  (K : Value → Hp → Prop) : Exit → Env → Hp → Prop := retK Try.prog Try.f21.results.toList K
def l48_made_b0 (parents : Option Addr) (parentsL : Nat) (parentsC : Nat) (h : Hp)  (K : Value → Hp → Prop) : Prop :=
  sx_1 Try.prog F 31 (cp [] (bodyOf Try.f21)) (ap [] l48_made_an) [(0, .slice parents parentsL parentsC)] h (l48_made_K0  K)
theorem l48_made_b0_eq (parents : Option Addr) (parentsL : Nat) (parentsC : Nat) (h : Hp)  (K : Value → Hp → Prop) : l48_made_b0 parents parentsL parentsC h  K = (
  HCalls Try.prog 30 #[.slice parents parentsL parentsC] h fun v1 h1 => ∃ r1 : Option Addr, ∃ r2 : Int, v1 = .tuple #[.pointer r1, .int .i64 r2] ∧
  HCalls Try.prog 53 #[.slice parents parentsL parentsC] h1 fun v2 h2 => ∃ r3 : ByteArray, ∃ r4 : Int, v2 = .tuple #[.string r3, .int .i64 r4] ∧
  cond (decide (r2 = r4))
  (K (.tuple #[.pointer r1, .string r3, .bool (r1.isNone == (!decide (r4 = 0)))]) h2)
  (K (.tuple #[.pointer r1, .string r3, .bool false]) h2)) := by kernel_rfl
theorem l48_made_call {parents : Option Addr} {parentsL : Nat} {parentsC : Nat} {h : Hp} {K : Value → Hp → Prop} (hk : l48_made_b0 parents parentsL parentsC h K) : HCalls Try.prog 21 #[.slice parents parentsL parentsC] h K :=
  calls_of_snd l48_made_an Try.func21 (c := bodyOf Try.f21) rfl Try.ntmps21 (Nat.le_of_ble_eq_true rfl) (snd_1 F_ok F_mixed) hk

end Go.Proofs.Ytmlfoefadmlhpaa
