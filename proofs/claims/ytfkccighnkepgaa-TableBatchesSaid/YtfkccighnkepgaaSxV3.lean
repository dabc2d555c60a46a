/- Plain statements of what each block of code of this seat asks; printed by a program, checked by Lean. -/
import Derived.Test.YtfkccighnkepgaaSxV0
set_option maxRecDepth 10000
namespace Go.Proofs.Ytfkccighnkepgaa
open Go Go.Sx

/-! ### table_Table_scan -/
def table_Table_scan_an : Ann := .node none (.leaf) (.node none (.leaf) (.node (some [0, 2, 3, 4, 5, 13]) (.node none (.leaf) (.loop [0, 2, 3, 4, 5, 21, 22] [(13, .slice), (23, .int .i64)] (.node none (.leaf) (.node none (.leaf) (.node (some [0, 2, 3, 4, 5, 13, 21, 22, 23]) (.leaf) (.leaf)))))) (.node (some [13]) (.node none (.leaf) (.loop [0, 2, 3, 4, 5, 63, 64] [(13, .slice), (65, .int .i64)] (.node none (.leaf) (.node none (.leaf) (.node (some [0, 2, 3, 4, 5, 13, 63, 64, 65]) (.leaf) (.leaf)))))) (.leaf))))
def table_Table_scan_K0  (K : Value → Hp → Prop) : Exit → Env → Hp → Prop := retK Try.prog Try.f39.results.toList K
def table_Table_scan_K1  (K : Value → Hp → Prop) : Exit → Env → Hp → Prop := thenE (fun env h => sx_3 Try.prog F 98 (cp [1, 1, 1] (bodyOf Try.f39)) (ap [1, 1, 1] table_Table_scan_an) (rs [0, 2, 3, 4, 5, 13] env) h (table_Table_scan_K0  K)) (table_Table_scan_K0  K)
def table_Table_scan_K2  (K : Value → Hp → Prop) : Exit → Env → Hp → Prop := blockE 0 (table_Table_scan_K1  K)
def table_Table_scan_K3 (nx0 : (Option Addr × Nat × Nat) × Int × Unit → Hp → Prop) (K : Value → Hp → Prop) : Exit → Env → Hp → Prop := thenE (fun env h => getV [(13, .slice), (23, .int .i64)] env fun s => nx0 s h) (table_Table_scan_K2  K)
def table_Table_scan_K4  (K : Value → Hp → Prop) : Exit → Env → Hp → Prop := thenE (fun env h => sx_2 Try.prog F 98 (cp [1, 1, 1, 1] (bodyOf Try.f39)) (ap [1, 1, 1, 1] table_Table_scan_an) (rs [13] env) h (table_Table_scan_K0  K)) (table_Table_scan_K0  K)
def table_Table_scan_K5  (K : Value → Hp → Prop) : Exit → Env → Hp → Prop := blockE 2 (table_Table_scan_K4  K)
def table_Table_scan_K6 (nx0 : (Option Addr × Nat × Nat) × Int × Unit → Hp → Prop) (K : Value → Hp → Prop) : Exit → Env → Hp → Prop := thenE (fun env h => getV [(13, .slice), (65, .int .i64)] env fun s => nx0 s h) (table_Table_scan_K5  K)
def table_Table_scan_b0 (t : Option Addr) (index : Option Addr) (indexL : Nat) (indexC : Nat) (value : Value) (fromv : Int) (to : Int) (is : Value) (h : Hp)  (K : Value → Hp → Prop) : Prop :=
  sx_4 Try.prog F 98 (cp [] (bodyOf Try.f39)) (ap [] table_Table_scan_an) [(0, .pointer t), (1, .slice index indexL indexC), (2, value), (3, .int .i64 fromv), (4, .int .i64 to), (5, is)] h (table_Table_scan_K0  K)
def table_Table_scan_b1 (out : Option Addr) (outL : Nat) (outC : Nat) (t23 : Int) (t : Option Addr) (value : Value) (fromv : Int) (to : Int) (is : Value) (t21 : Option Addr) (t21L : Nat) (t21C : Nat) (t22 : Int) (h : Hp) (nx0 : (Option Addr × Nat × Nat) × Int × Unit → Hp → Prop) (K : Value → Hp → Prop) : Prop :=
  sx_3 Try.prog F 98 (cp [1, 1, 0, 1, 2, 2] (bodyOf Try.f39)) (ap [1, 1, 0, 1, 2] table_Table_scan_an) [(13, .slice out outL outC), (23, .int .i64 t23), (0, .pointer t), (2, value), (3, .int .i64 fromv), (4, .int .i64 to), (5, is), (21, .slice t21 t21L t21C), (22, .int .i64 t22)] h (table_Table_scan_K3 nx0 K)
def table_Table_scan_b2 (t : Option Addr) (value : Value) (fromv : Int) (to : Int) (is : Value) (out : Option Addr) (outL : Nat) (outC : Nat) (t21 : Option Addr) (t21L : Nat) (t21C : Nat) (t22 : Int) (t23 : Int) (h : Hp) (nx0 : (Option Addr × Nat × Nat) × Int × Unit → Hp → Prop) (K : Value → Hp → Prop) : Prop :=
  sx_2 Try.prog F 98 (cp [1, 1, 0, 1, 2, 2, 1, 1, 1] (bodyOf Try.f39)) (ap [1, 1, 0, 1, 2, 1, 1, 1] table_Table_scan_an) [(0, .pointer t), (2, value), (3, .int .i64 fromv), (4, .int .i64 to), (5, is), (13, .slice out outL outC), (21, .slice t21 t21L t21C), (22, .int .i64 t22), (23, .int .i64 t23)] h (table_Table_scan_K3 nx0 K)
def table_Table_scan_b3 (t : Option Addr) (value : Value) (fromv : Int) (to : Int) (is : Value) (out : Option Addr) (outL : Nat) (outC : Nat) (h : Hp)  (K : Value → Hp → Prop) : Prop :=
  sx_3 Try.prog F 98 (cp [1, 1, 1] (bodyOf Try.f39)) (ap [1, 1, 1] table_Table_scan_an) [(0, .pointer t), (2, value), (3, .int .i64 fromv), (4, .int .i64 to), (5, is), (13, .slice out outL outC)] h (table_Table_scan_K0  K)
def table_Table_scan_b4 (out : Option Addr) (outL : Nat) (outC : Nat) (t65 : Int) (t : Option Addr) (value : Value) (fromv : Int) (to : Int) (is : Value) (t63 : Option Addr) (t63L : Nat) (t63C : Nat) (t64 : Int) (h : Hp) (nx0 : (Option Addr × Nat × Nat) × Int × Unit → Hp → Prop) (K : Value → Hp → Prop) : Prop :=
  sx_2 Try.prog F 98 (cp [1, 1, 1, 0, 1, 2, 2] (bodyOf Try.f39)) (ap [1, 1, 1, 0, 1, 2] table_Table_scan_an) [(13, .slice out outL outC), (65, .int .i64 t65), (0, .pointer t), (2, value), (3, .int .i64 fromv), (4, .int .i64 to), (5, is), (63, .slice t63 t63L t63C), (64, .int .i64 t64)] h (table_Table_scan_K6 nx0 K)
def table_Table_scan_b5 (t : Option Addr) (value : Value) (fromv : Int) (to : Int) (is : Value) (out : Option Addr) (outL : Nat) (outC : Nat) (t63 : Option Addr) (t63L : Nat) (t63C : Nat) (t64 : Int) (t65 : Int) (h : Hp) (nx0 : (Option Addr × Nat × Nat) × Int × Unit → Hp → Prop) (K : Value → Hp → Prop) : Prop :=
  sx_1 Try.prog F 98 (cp [1, 1, 1, 0, 1, 2, 2, 1, 1, 1] (bodyOf Try.f39)) (ap [1, 1, 1, 0, 1, 2, 1, 1, 1] table_Table_scan_an) [(0, .pointer t), (2, value), (3, .int .i64 fromv), (4, .int .i64 to), (5, is), (13, .slice out outL outC), (63, .slice t63 t63L t63C), (64, .int .i64 t64), (65, .int .i64 t65)] h (table_Table_scan_K6 nx0 K)
def table_Table_scan_b6 (out : Option Addr) (outL : Nat) (outC : Nat) (h : Hp)  (K : Value → Hp → Prop) : Prop :=
  sx_2 Try.prog F 98 (cp [1, 1, 1, 1] (bodyOf Try.f39)) (ap [1, 1, 1, 1] table_Table_scan_an) [(13, .slice out outL outC)] h (table_Table_scan_K0  K)
theorem table_Table_scan_b0_eq (t : Option Addr) (index : Option Addr) (indexL : Nat) (indexC : Nat) (value : Value) (fromv : Int) (to : Int) (is : Value) (h : Hp)  (K : Value → Hp → Prop) : table_Table_scan_b0 t index indexL indexC value fromv to is h  K = (
  LoopVC (((none, 0, 0), 0, ()) : (Option Addr × Nat × Nat) × Int × Unit) h (fun (nx0 : (Option Addr × Nat × Nat) × Int × Unit → Hp → Prop) (s1 : (Option Addr × Nat × Nat) × Int × Unit) h1 => table_Table_scan_b1 s1.1.1 s1.1.2.1 s1.1.2.2 s1.2.1 t value fromv to is index indexL indexC (indexL : Int) h1 nx0 K)) := by kernel_rfl
theorem table_Table_scan_b1_eq (out : Option Addr) (outL : Nat) (outC : Nat) (t23 : Int) (t : Option Addr) (value : Value) (fromv : Int) (to : Int) (is : Value) (t21 : Option Addr) (t21L : Nat) (t21C : Nat) (t22 : Int) (h : Hp) (nx0 : (Option Addr × Nat × Nat) × Int × Unit → Hp → Prop) (K : Value → Hp → Prop) : table_Table_scan_b1 out outL outC t23 t value fromv to is t21 t21L t21C t22 h nx0 K = (
  cond (decide (t23 < t22))
  ((0 ≤ t23 ∧ t23 < (t21L : Int)) ∧
  NN t21 fun a1 =>
  ∃ n1 : Int, cell h (a1.add (Int.toNat t23 * 1)) = some (.int .i64 n1) ∧
  NN t fun a2 =>
  ∃ v1 : Value, cell h ((a2.add 5).add 1) = some (v1) ∧
  lookV Try.prog 77 v1 (.int .i64 n1) false h fun v2 => ∃ r1 : Bool, v2 = .bool r1 ∧
  cond r1
  (table_Table_scan_b2 t value fromv to is out outL outC t21 t21L t21C t22 t23 h nx0 K)
  (NN t fun a3 =>
  ∃ v3 : Value, cell h a3 = some (v3) ∧
  lookV Try.prog 75 v3 (.int .i64 n1) false h fun v4 => ∃ r2 : Option Addr, v4 = .pointer r2 ∧
  funV value fun fg1 fa1 fc1 => callX Try.prog F fg1 (fa1 ++ (([.pointer r2] : List Value) ++ fc1)).toArray h fun v5 h2 => ∃ r3 : Int, v5 = .int .i64 r3 ∧
  cond (decide (to < r3))
  (table_Table_scan_b3 t value fromv to is out outL outC h2  K)
  (cond (decide (fromv ≤ r3))
  (funV is fun fg2 fa2 fc2 => callX Try.prog F fg2 (fa2 ++ (([.pointer r2] : List Value) ++ fc2)).toArray h2 fun v6 h3 => ∃ r4 : Bool, v6 = .bool r4 ∧
  cond r4
  (New h3 (.cells #[.int .i64 n1] 3) fun b1 h4 =>
  appendV Try.prog 26 26 (.slice out outL outC) (.slice (some ⟨b1, 0, none⟩) 1 1) h4 (slK fun a4 l1 c1 h5 =>
  table_Table_scan_b2 t value fromv to is a4 l1 c1 t21 t21L t21C t22 t23 h5 nx0 K))
  (table_Table_scan_b2 t value fromv to is out outL outC t21 t21L t21C t22 t23 h3 nx0 K))
  (table_Table_scan_b2 t value fromv to is out outL outC t21 t21L t21C t22 t23 h2 nx0 K))))
  (table_Table_scan_b3 t value fromv to is out outL outC h  K)) := by kernel_rfl
theorem table_Table_scan_b2_eq (t : Option Addr) (value : Value) (fromv : Int) (to : Int) (is : Value) (out : Option Addr) (outL : Nat) (outC : Nat) (t21 : Option Addr) (t21L : Nat) (t21C : Nat) (t22 : Int) (t23 : Int) (h : Hp) (nx0 : (Option Addr × Nat × Nat) × Int × Unit → Hp → Prop) (K : Value → Hp → Prop) : table_Table_scan_b2 t value fromv to is out outL outC t21 t21L t21C t22 t23 h nx0 K = (
  InR (t23 + 1) ∧
  nx0 ((out, outL, outC), t23 + 1, ()) h) := by kernel_rfl
theorem table_Table_scan_b3_eq (t : Option Addr) (value : Value) (fromv : Int) (to : Int) (is : Value) (out : Option Addr) (outL : Nat) (outC : Nat) (h : Hp)  (K : Value → Hp → Prop) : table_Table_scan_b3 t value fromv to is out outL outC h  K = (
  NN t fun a5 =>
  ∃ (a6 : Option Addr) (L1 C1 : Nat), cell h (a5.add 5) = some (.slice a6 L1 C1) ∧
  LoopVC (((out, outL, outC), 0, ()) : (Option Addr × Nat × Nat) × Int × Unit) h (fun (nx0 : (Option Addr × Nat × Nat) × Int × Unit → Hp → Prop) (s2 : (Option Addr × Nat × Nat) × Int × Unit) h6 => table_Table_scan_b4 s2.1.1 s2.1.2.1 s2.1.2.2 s2.2.1 t value fromv to is a6 L1 C1 (L1 : Int) h6 nx0 K)) := by kernel_rfl
theorem table_Table_scan_b4_eq (out : Option Addr) (outL : Nat) (outC : Nat) (t65 : Int) (t : Option Addr) (value : Value) (fromv : Int) (to : Int) (is : Value) (t63 : Option Addr) (t63L : Nat) (t63C : Nat) (t64 : Int) (h : Hp) (nx0 : (Option Addr × Nat × Nat) × Int × Unit → Hp → Prop) (K : Value → Hp → Prop) : table_Table_scan_b4 out outL outC t65 t value fromv to is t63 t63L t63C t64 h nx0 K = (
  cond (decide (t65 < t64))
  ((0 ≤ t65 ∧ t65 < (t63L : Int)) ∧
  NN t63 fun a7 =>
  ∃ n2 : Int, cell h (a7.add (Int.toNat t65 * 1)) = some (.int .i64 n2) ∧
  NN t fun a8 =>
  ∃ v7 : Value, cell h a8 = some (v7) ∧
  lookV Try.prog 75 v7 (.int .i64 n2) false h fun v8 => ∃ r5 : Option Addr, v8 = .pointer r5 ∧
  funV value fun fg3 fa3 fc3 => callX Try.prog F fg3 (fa3 ++ (([.pointer r5] : List Value) ++ fc3)).toArray h fun v9 h7 => ∃ r6 : Int, v9 = .int .i64 r6 ∧
  cond (decide (fromv ≤ r6))
  (funV value fun fg4 fa4 fc4 => callX Try.prog F fg4 (fa4 ++ (([.pointer r5] : List Value) ++ fc4)).toArray h7 fun v10 h8 => ∃ r7 : Int, v10 = .int .i64 r7 ∧
  cond (decide (r7 ≤ to))
  (funV is fun fg5 fa5 fc5 => callX Try.prog F fg5 (fa5 ++ (([.pointer r5] : List Value) ++ fc5)).toArray h8 fun v11 h9 => ∃ r8 : Bool, v11 = .bool r8 ∧
  cond r8
  (New h9 (.cells #[.int .i64 n2] 3) fun b2 h10 =>
  appendV Try.prog 26 26 (.slice out outL outC) (.slice (some ⟨b2, 0, none⟩) 1 1) h10 (slK fun a9 l2 c2 h11 =>
  table_Table_scan_b5 t value fromv to is a9 l2 c2 t63 t63L t63C t64 t65 h11 nx0 K))
  (table_Table_scan_b5 t value fromv to is out outL outC t63 t63L t63C t64 t65 h9 nx0 K))
  (table_Table_scan_b5 t value fromv to is out outL outC t63 t63L t63C t64 t65 h8 nx0 K))
  (table_Table_scan_b5 t value fromv to is out outL outC t63 t63L t63C t64 t65 h7 nx0 K))
  (table_Table_scan_b6 out outL outC h  K)) := by kernel_rfl
theorem table_Table_scan_b5_eq (t : Option Addr) (value : Value) (fromv : Int) (to : Int) (is : Value) (out : Option Addr) (outL : Nat) (outC : Nat) (t63 : Option Addr) (t63L : Nat) (t63C : Nat) (t64 : Int) (t65 : Int) (h : Hp) (nx0 : (Option Addr × Nat × Nat) × Int × Unit → Hp → Prop) (K : Value → Hp → Prop) : table_Table_scan_b5 t value fromv to is out outL outC t63 t63L t63C t64 t65 h nx0 K = (
  InR (t65 + 1) ∧
  nx0 ((out, outL, outC), t65 + 1, ()) h) := by kernel_rfl
theorem table_Table_scan_b6_eq (out : Option Addr) (outL : Nat) (outC : Nat) (h : Hp)  (K : Value → Hp → Prop) : table_Table_scan_b6 out outL outC h  K = (
  K (.slice out outL outC) h) := by kernel_rfl
theorem table_Table_scan_call {t : Option Addr} {index : Option Addr} {indexL : Nat} {indexC : Nat} {value : Value} {fromv : Int} {to : Int} {is : Value} {h : Hp} {K : Value → Hp → Prop} (hk : table_Table_scan_b0 t index indexL indexC value fromv to is h K) : HCalls Try.prog 39 #[.pointer t, .slice index indexL indexC, value, .int .i64 fromv, .int .i64 to, is] h K :=
  calls_of_snd table_Table_scan_an Try.func39 (c := bodyOf Try.f39) rfl Try.ntmps39 (Nat.le_of_ble_eq_true rfl) (snd_4 F_ok F_mixed) hk

/-! ### table_Table_ByKey_c1 -/
def table_Table_ByKey_c1_an : Ann := .leaf
def table_Table_ByKey_c1_K0  (K : Value → Hp → Prop) : Exit → Env → Hp → Prop := retK Try.prog Try.f40.results.toList K
def table_Table_ByKey_c1_b0 (r : Option Addr) (h : Hp)  (K : Value → Hp → Prop) : Prop :=
  sx_1 Try.prog F 7 (cp [] (bodyOf Try.f40)) (ap [] table_Table_ByKey_c1_an) [(0, .pointer r)] h (table_Table_ByKey_c1_K0  K)
theorem table_Table_ByKey_c1_b0_eq (r : Option Addr) (h : Hp)  (K : Value → Hp → Prop) : table_Table_ByKey_c1_b0 r h  K = (
  NN r fun a1 =>
  ∃ n1 : Int, cell h a1 = some (.int .i64 n1) ∧
  K (.int .i64 n1) h) := by kernel_rfl
theorem table_Table_ByKey_c1_call {r : Option Addr} {h : Hp} {K : Value → Hp → Prop} (hk : table_Table_ByKey_c1_b0 r h K) : HCalls Try.prog 40 #[.pointer r] h K :=
  calls_of_snd table_Table_ByKey_c1_an Try.func40 (c := bodyOf Try.f40) rfl Try.ntmps40 (Nat.le_of_ble_eq_true rfl) (snd_1 F_ok F_mixed) hk

/-! ### table_Table_ByKey_c2 -/
def table_Table_ByKey_c2_an : Ann := .leaf
def table_Table_ByKey_c2_K0  (K : Value → Hp → Prop) : Exit → Env → Hp → Prop := retK Try.prog Try.f41.results.toList K
def table_Table_ByKey_c2_b0 (t0 : Option Addr) (h : Hp)  (K : Value → Hp → Prop) : Prop :=
  sx_1 Try.prog F 3 (cp [] (bodyOf Try.f41)) (ap [] table_Table_ByKey_c2_an) [(0, .pointer t0)] h (table_Table_ByKey_c2_K0  K)
theorem table_Table_ByKey_c2_b0_eq (t0 : Option Addr) (h : Hp)  (K : Value → Hp → Prop) : table_Table_ByKey_c2_b0 t0 h  K = (
  K (.bool true) h) := by kernel_rfl
theorem table_Table_ByKey_c2_call {t0 : Option Addr} {h : Hp} {K : Value → Hp → Prop} (hk : table_Table_ByKey_c2_b0 t0 h K) : HCalls Try.prog 41 #[.pointer t0] h K :=
  calls_of_snd table_Table_ByKey_c2_an Try.func41 (c := bodyOf Try.f41) rfl Try.ntmps41 (Nat.le_of_ble_eq_true rfl) (snd_1 F_ok F_mixed) hk

/-! ### slices_SortFunc_Sint_int -/
def slices_SortFunc_Sint_int_an : Ann := .leaf
def slices_SortFunc_Sint_int_K0  (K : Value → Hp → Prop) : Exit → Env → Hp → Prop := retK Try.prog Try.f42.results.toList K
def slices_SortFunc_Sint_int_b0 (x : Option Addr) (xL : Nat) (xC : Nat) (cmp : Value) (h : Hp)  (K : Value → Hp → Prop) : Prop :=
  sx_1 Try.prog F 14 (cp [] (bodyOf Try.f42)) (ap [] slices_SortFunc_Sint_int_an) [(0, .slice x xL xC), (1, cmp)] h (slices_SortFunc_Sint_int_K0  K)
theorem slices_SortFunc_Sint_int_b0_eq (x : Option Addr) (xL : Nat) (xC : Nat) (cmp : Value) (h : Hp)  (K : Value → Hp → Prop) : slices_SortFunc_Sint_int_b0 x xL xC cmp h  K = (
  HCalls Try.prog 68 #[.int .u64 (IntKind.u64.wrap (xL : Int))] h fun v1 h1 => ∃ r1 : Int, v1 = .int .i64 r1 ∧
  HCalls Try.prog 67 #[.slice x xL xC, .int .i64 0, .int .i64 (xL : Int), .int .i64 r1, cmp] h1 fun v2 h2 => v2 = .tuple #[] ∧
  K (.tuple #[]) h2) := by kernel_rfl
theorem slices_SortFunc_Sint_int_call {x : Option Addr} {xL : Nat} {xC : Nat} {cmp : Value} {h : Hp} {K : Value → Hp → Prop} (hk : slices_SortFunc_Sint_int_b0 x xL xC cmp h K) : HCalls Try.prog 42 #[.slice x xL xC, cmp] h K :=
  calls_of_snd slices_SortFunc_Sint_int_an Try.func42 (c := bodyOf Try.f42) rfl Try.ntmps42 (Nat.le_of_ble_eq_true rfl) (snd_1 F_ok F_mixed) hk

/-! ### table_Table_ByKey_c3 -/
def table_Table_ByKey_c3_an : Ann := .node none (.leaf) (.node none (.plan (.qu 0 (.qu 1 (.qu 2 (.qu 3 (.qu 4 (.qu 9 (.qu 10 (.qu 11 (.qu 12 (.qu 13 (.wo 5 (.qu 6 (.qu 7 (.qu 8 (.wo 14 (.qu 15 (.qu 16 (.qu 17 (.wo 18 (.wo 19 .fin .no) .no)))) .no)))) (.wo 14 (.qu 15 (.qu 16 (.qu 17 (.wo 5 (.qu 6 (.qu 7 (.qu 8 (.wo 18 (.wo 19 .fin .no) .no)))) .no)))) .no))))))))))))) (.leaf))
def table_Table_ByKey_c3_K0  (K : Value → Hp → Prop) : Exit → Env → Hp → Prop := retK Try.prog Try.f43.results.toList K
def table_Table_ByKey_c3_b0 (a : Int) (b : Int) (t2 : Option Addr) (h : Hp)  (K : Value → Hp → Prop) : Prop :=
  sx_1 Try.prog F 25 (cp [] (bodyOf Try.f43)) (ap [] table_Table_ByKey_c3_an) [(0, .int .i64 a), (1, .int .i64 b), (2, .pointer t2)] h (table_Table_ByKey_c3_K0  K)
theorem table_Table_ByKey_c3_b0_eq (a : Int) (b : Int) (t2 : Option Addr) (h : Hp)  (K : Value → Hp → Prop) : table_Table_ByKey_c3_b0 a b t2 h  K = (
  NN t2 fun a1 =>
  ∃ p1 : Option Addr, cell h a1 = some (.pointer p1) ∧
  NN p1 fun a2 =>
  ∃ v1 : Value, cell h a2 = some (v1) ∧
  NN t2 fun a3 =>
  ∃ p2 : Option Addr, cell h a3 = some (.pointer p2) ∧
  NN p2 fun a4 =>
  ∃ v2 : Value, cell h a4 = some (v2) ∧
  (lookV Try.prog 75 v1 (.int .i64 a) false h fun v3 => ∃ r1 : Option Addr, v3 = .pointer r1 ∧
  (∃ v4 : Value, cell h a4 = some (v4) ∧
  (v4 : Value) = v2) ∧
  (NN t2 fun a5 =>
  ∃ p3 : Option Addr, cell h a5 = some (.pointer p3) ∧
  (.pointer p3 : Value) = .pointer p2) ∧
  NN r1 fun a6 =>
  ∃ n1 : Int, cell h a6 = some (.int .i64 n1) ∧
  lookV Try.prog 75 v2 (.int .i64 b) false h fun v5 => ∃ r2 : Option Addr, v5 = .pointer r2 ∧
  (∃ n2 : Int, cell h a6 = some (.int .i64 n2) ∧
  (.int .i64 n2 : Value) = .int .i64 n1) ∧
  NN r2 fun a7 =>
  ∃ n3 : Int, cell h a7 = some (.int .i64 n3) ∧
  HCalls Try.prog 44 #[.int .i64 n1, .int .i64 n3] h fun v6 h1 => ∃ r3 : Int, v6 = .int .i64 r3 ∧
  K (.int .i64 r3) h1) ∧
  (lookV Try.prog 75 v2 (.int .i64 b) false h fun v7 => ∃ r4 : Option Addr, v7 = .pointer r4 ∧
  (∃ v8 : Value, cell h a2 = some (v8) ∧
  (v8 : Value) = v1) ∧
  (NN t2 fun a8 =>
  ∃ p4 : Option Addr, cell h a8 = some (.pointer p4) ∧
  (.pointer p4 : Value) = .pointer p1) ∧
  NN r4 fun a9 =>
  ∃ n4 : Int, cell h a9 = some (.int .i64 n4) ∧
  lookV Try.prog 75 v1 (.int .i64 a) false h fun v9 => ∃ r5 : Option Addr, v9 = .pointer r5 ∧
  (∃ n5 : Int, cell h a9 = some (.int .i64 n5) ∧
  (.int .i64 n5 : Value) = .int .i64 n4) ∧
  NN r5 fun a10 =>
  ∃ n6 : Int, cell h a10 = some (.int .i64 n6) ∧
  HCalls Try.prog 44 #[.int .i64 n6, .int .i64 n4] h fun v10 h2 => ∃ r6 : Int, v10 = .int .i64 r6 ∧
  K (.int .i64 r6) h2)) := by kernel_rfl
theorem table_Table_ByKey_c3_call {a : Int} {b : Int} {t2 : Option Addr} {h : Hp} {K : Value → Hp → Prop} (hk : table_Table_ByKey_c3_b0 a b t2 h K) : HCalls Try.prog 43 #[.int .i64 a, .int .i64 b, .pointer t2] h K :=
  calls_of_snd table_Table_ByKey_c3_an Try.func43 (c := bodyOf Try.f43) rfl Try.ntmps43 (Nat.le_of_ble_eq_true rfl) (snd_1 F_ok F_mixed) hk

/-! ### cmp_Compare_int -/
def cmp_Compare_int_an : Ann := .leaf
def cmp_Compare_int_K0  (K : Value → Hp → Prop) : Exit → Env → Hp → Prop := retK Try.prog Try.f44.results.toList K
def cmp_Compare_int_b0 (x : Int) (y : Int) (h : Hp)  (K : Value → Hp → Prop) : Prop :=
  sx_1 Try.prog F 20 (cp [] (bodyOf Try.f44)) (ap [] cmp_Compare_int_an) [(0, .int .i64 x), (1, .int .i64 y)] h (cmp_Compare_int_K0  K)
theorem cmp_Compare_int_b0_eq (x : Int) (y : Int) (h : Hp)  (K : Value → Hp → Prop) : cmp_Compare_int_b0 x y h  K = (
  HCalls Try.prog 69 #[.int .i64 x] h fun v1 h1 => ∃ r1 : Bool, v1 = .bool r1 ∧
  HCalls Try.prog 69 #[.int .i64 y] h1 fun v2 h2 => ∃ r2 : Bool, v2 = .bool r2 ∧
  cond r1
  (cond r2
  (K (.int .i64 0) h2)
  (K (.int .i64 (-1)) h2))
  (cond r2
  (K (.int .i64 1) h2)
  (cond (decide (x < y))
  (K (.int .i64 (-1)) h2)
  (cond (decide (y < x))
  (K (.int .i64 1) h2)
  (K (.int .i64 0) h2))))) := by kernel_rfl
theorem cmp_Compare_int_call {x : Int} {y : Int} {h : Hp} {K : Value → Hp → Prop} (hk : cmp_Compare_int_b0 x y h K) : HCalls Try.prog 44 #[.int .i64 x, .int .i64 y] h K :=
  calls_of_snd cmp_Compare_int_an Try.func44 (c := bodyOf Try.f44) rfl Try.ntmps44 (Nat.le_of_ble_eq_true rfl) (snd_1 F_ok F_mixed) hk

/-! ### table_Table_ByPlace_c1 -/
def table_Table_ByPlace_c1_an : Ann := .leaf
def table_Table_ByPlace_c1_K0  (K : Value → Hp → Prop) : Exit → Env → Hp → Prop := retK Try.prog Try.f45.results.toList K
def table_Table_ByPlace_c1_b0 (r : Option Addr) (h : Hp)  (K : Value → Hp → Prop) : Prop :=
  sx_1 Try.prog F 7 (cp [] (bodyOf Try.f45)) (ap [] table_Table_ByPlace_c1_an) [(0, .pointer r)] h (table_Table_ByPlace_c1_K0  K)
theorem table_Table_ByPlace_c1_b0_eq (r : Option Addr) (h : Hp)  (K : Value → Hp → Prop) : table_Table_ByPlace_c1_b0 r h  K = (
  NN r fun a1 =>
  ∃ n1 : Int, cell h (a1.add 1) = some (.int .i64 n1) ∧
  K (.int .i64 n1) h) := by kernel_rfl
theorem table_Table_ByPlace_c1_call {r : Option Addr} {h : Hp} {K : Value → Hp → Prop} (hk : table_Table_ByPlace_c1_b0 r h K) : HCalls Try.prog 45 #[.pointer r] h K :=
  calls_of_snd table_Table_ByPlace_c1_an Try.func45 (c := bodyOf Try.f45) rfl Try.ntmps45 (Nat.le_of_ble_eq_true rfl) (snd_1 F_ok F_mixed) hk

/-! ### table_Table_ByPlace_c2 -/
def table_Table_ByPlace_c2_an : Ann := .leaf
def table_Table_ByPlace_c2_K0  (K : Value → Hp → Prop) : Exit → Env → Hp → Prop := retK Try.prog Try.f46.results.toList K
def table_Table_ByPlace_c2_b0 (r : Option Addr) (t1 : Option Addr) (t2 : Option Addr) (h : Hp)  (K : Value → Hp → Prop) : Prop :=
  sx_1 Try.prog F 19 (cp [] (bodyOf Try.f46)) (ap [] table_Table_ByPlace_c2_an) [(0, .pointer r), (1, .pointer t1), (2, .pointer t2)] h (table_Table_ByPlace_c2_K0  K)
theorem table_Table_ByPlace_c2_b0_eq (r : Option Addr) (t1 : Option Addr) (t2 : Option Addr) (h : Hp)  (K : Value → Hp → Prop) : table_Table_ByPlace_c2_b0 r t1 t2 h  K = (
  NN r fun a1 =>
  ∃ n1 : Int, cell h (a1.add 2) = some (.int .i64 n1) ∧
  NN t1 fun a2 =>
  ∃ n2 : Int, cell h a2 = some (.int .i64 n2) ∧
  cond (decide (n2 ≤ n1))
  (NN r fun a3 =>
  ∃ n3 : Int, cell h (a3.add 2) = some (.int .i64 n3) ∧
  NN t2 fun a4 =>
  ∃ n4 : Int, cell h a4 = some (.int .i64 n4) ∧
  K (.bool (decide (n3 ≤ n4))) h)
  (K (.bool false) h)) := by kernel_rfl
theorem table_Table_ByPlace_c2_call {r : Option Addr} {t1 : Option Addr} {t2 : Option Addr} {h : Hp} {K : Value → Hp → Prop} (hk : table_Table_ByPlace_c2_b0 r t1 t2 h K) : HCalls Try.prog 46 #[.pointer r, .pointer t1, .pointer t2] h K :=
  calls_of_snd table_Table_ByPlace_c2_an Try.func46 (c := bodyOf Try.f46) rfl Try.ntmps46 (Nat.le_of_ble_eq_true rfl) (snd_1 F_ok F_mixed) hk

/-! ### slices_Sort_Sint_int -/
def slices_Sort_Sint_int_an : Ann := .leaf
def slices_Sort_Sint_int_K0  (K : Value → Hp → Prop) : Exit → Env → Hp → Prop := retK Try.prog Try.f47.results.toList K
def slices_Sort_Sint_int_b0 (x : Option Addr) (xL : Nat) (xC : Nat) (h : Hp)  (K : Value → Hp → Prop) : Prop :=
  sx_1 Try.prog F 11 (cp [] (bodyOf Try.f47)) (ap [] slices_Sort_Sint_int_an) [(0, .slice x xL xC)] h (slices_Sort_Sint_int_K0  K)
theorem slices_Sort_Sint_int_b0_eq (x : Option Addr) (xL : Nat) (xC : Nat) (h : Hp)  (K : Value → Hp → Prop) : slices_Sort_Sint_int_b0 x xL xC h  K = (
  HCalls Try.prog 68 #[.int .u64 (IntKind.u64.wrap (xL : Int))] h fun v1 h1 => ∃ r1 : Int, v1 = .int .i64 r1 ∧
  HCalls Try.prog 70 #[.slice x xL xC, .int .i64 0, .int .i64 (xL : Int), .int .i64 r1] h1 fun v2 h2 => v2 = .tuple #[] ∧
  K (.tuple #[]) h2) := by kernel_rfl
theorem slices_Sort_Sint_int_call {x : Option Addr} {xL : Nat} {xC : Nat} {h : Hp} {K : Value → Hp → Prop} (hk : slices_Sort_Sint_int_b0 x xL xC h K) : HCalls Try.prog 47 #[.slice x xL xC] h K :=
  calls_of_snd slices_Sort_Sint_int_an Try.func47 (c := bodyOf Try.f47) rfl Try.ntmps47 (Nat.le_of_ble_eq_true rfl) (snd_1 F_ok F_mixed) hk

/-! ### table_Table_find -/
def table_Table_find_an : Ann := .node none (.leaf) (.node none (.leaf) (.node (some [5]) (.node none (.leaf) (.loop [1, 12] [(5, .slice)] (.leaf))) (.leaf)))
def table_Table_find_K0  (K : Value → Hp → Prop) : Exit → Env → Hp → Prop := retK Try.prog Try.f48.results.toList K
def table_Table_find_K1  (K : Value → Hp → Prop) : Exit → Env → Hp → Prop := thenE (fun env h => sx_1 Try.prog F 28 (cp [1, 1, 1] (bodyOf Try.f48)) (ap [1, 1, 1] table_Table_find_an) (rs [5] env) h (table_Table_find_K0  K)) (table_Table_find_K0  K)
def table_Table_find_K2  (K : Value → Hp → Prop) : Exit → Env → Hp → Prop := blockE 0 (table_Table_find_K1  K)
def table_Table_find_K3 (nx0 : (Option Addr × Nat × Nat) × Unit → Hp → Prop) (K : Value → Hp → Prop) : Exit → Env → Hp → Prop := thenE (fun env h => getV [(5, .slice)] env fun s => nx0 s h) (table_Table_find_K2  K)
def table_Table_find_b0 (t : Option Addr) (is : Value) (h : Hp)  (K : Value → Hp → Prop) : Prop :=
  sx_2 Try.prog F 28 (cp [] (bodyOf Try.f48)) (ap [] table_Table_find_an) [(0, .pointer t), (1, is)] h (table_Table_find_K0  K)
def table_Table_find_b1 (out : Option Addr) (outL : Nat) (outC : Nat) (is : Value) (t12 : Value) (h : Hp) (nx0 : (Option Addr × Nat × Nat) × Unit → Hp → Prop) (K : Value → Hp → Prop) : Prop :=
  sx_1 Try.prog F 28 (cp [1, 1, 0, 1, 2, 2] (bodyOf Try.f48)) (ap [1, 1, 0, 1, 2] table_Table_find_an) [(5, .slice out outL outC), (1, is), (12, t12)] h (table_Table_find_K3 nx0 K)
def table_Table_find_b2 (out : Option Addr) (outL : Nat) (outC : Nat) (h : Hp)  (K : Value → Hp → Prop) : Prop :=
  sx_1 Try.prog F 28 (cp [1, 1, 1] (bodyOf Try.f48)) (ap [1, 1, 1] table_Table_find_an) [(5, .slice out outL outC)] h (table_Table_find_K0  K)
theorem table_Table_find_b0_eq (t : Option Addr) (is : Value) (h : Hp)  (K : Value → Hp → Prop) : table_Table_find_b0 t is h  K = (
  NN t fun a1 =>
  ∃ v1 : Value, cell h a1 = some (v1) ∧
  rangeV Try.prog 75 v1 h fun it1 h1 =>
  LoopVC (((none, 0, 0), ()) : (Option Addr × Nat × Nat) × Unit) h1 (fun (nx0 : (Option Addr × Nat × Nat) × Unit → Hp → Prop) (s1 : (Option Addr × Nat × Nat) × Unit) h2 => table_Table_find_b1 s1.1.1 s1.1.2.1 s1.1.2.2 is (.pointer (some ⟨it1, 0, none⟩)) h2 nx0 K)) := by kernel_rfl
theorem table_Table_find_b1_eq (out : Option Addr) (outL : Nat) (outC : Nat) (is : Value) (t12 : Value) (h : Hp) (nx0 : (Option Addr × Nat × Nat) × Unit → Hp → Prop) (K : Value → Hp → Prop) : table_Table_find_b1 out outL outC is t12 h nx0 K = (
  nextV Try.prog t12 false h (fun h3 =>
  table_Table_find_b2 out outL outC h3  K) fun x1 y1 h4 =>
  entryV Try.prog t12 h4 fun v2 => ∃ k1 : Int, ∃ e1 : Option Addr, v2 = .tuple #[.int .i64 k1, .pointer e1] ∧
  funV is fun fg1 fa1 fc1 => callX Try.prog F fg1 (fa1 ++ (([.pointer e1] : List Value) ++ fc1)).toArray h4 fun v3 h5 => ∃ r1 : Bool, v3 = .bool r1 ∧
  cond r1
  (New h5 (.cells #[.int .i64 k1] 3) fun b1 h6 =>
  appendV Try.prog 26 26 (.slice out outL outC) (.slice (some ⟨b1, 0, none⟩) 1 1) h6 (slK fun a2 l1 c1 h7 =>
  nx0 ((a2, l1, c1), ()) h7))
  (nx0 ((out, outL, outC), ()) h5)) := by kernel_rfl
theorem table_Table_find_b2_eq (out : Option Addr) (outL : Nat) (outC : Nat) (h : Hp)  (K : Value → Hp → Prop) : table_Table_find_b2 out outL outC h  K = (
  HCalls Try.prog 47 #[.slice out outL outC] h fun v4 h8 => v4 = .tuple #[] ∧
  K (.slice out outL outC) h8) := by kernel_rfl
theorem table_Table_find_call {t : Option Addr} {is : Value} {h : Hp} {K : Value → Hp → Prop} (hk : table_Table_find_b0 t is h K) : HCalls Try.prog 48 #[.pointer t, is] h K :=
  calls_of_snd table_Table_find_an Try.func48 (c := bodyOf Try.f48) rfl Try.ntmps48 (Nat.le_of_ble_eq_true rfl) (snd_2 F_ok F_mixed) hk

/-! ### table_Table_ByName_c1 -/
def table_Table_ByName_c1_an : Ann := .node none (.leaf) (.node none (.tail 5) (.leaf))
def table_Table_ByName_c1_K0  (K : Value → Hp → Prop) : Exit → Env → Hp → Prop := retK Try.prog Try.f49.results.toList K
def table_Table_ByName_c1_b0 (r : Option Addr) (t1 : Option Addr) (h : Hp)  (K : Value → Hp → Prop) : Prop :=
  sx_1 Try.prog F 10 (cp [] (bodyOf Try.f49)) (ap [] table_Table_ByName_c1_an) [(0, .pointer r), (1, .pointer t1)] h (table_Table_ByName_c1_K0  K)
theorem table_Table_ByName_c1_b0_eq (r : Option Addr) (t1 : Option Addr) (h : Hp)  (K : Value → Hp → Prop) : table_Table_ByName_c1_b0 r t1 h  K = (
  NN r fun a1 =>
  ∃ s1 : ByteArray, cell h (a1.add 4) = some (.string s1) ∧
  NN t1 fun a2 =>
  ∃ s2 : ByteArray, cell h a2 = some (.string s2) ∧
  HCalls Try.prog 50 #[.string s1, .string s2] h fun v1 h1 => ∃ r1 : Bool, v1 = .bool r1 ∧
  K (.bool r1) h1) := by kernel_rfl
theorem table_Table_ByName_c1_call {r : Option Addr} {t1 : Option Addr} {h : Hp} {K : Value → Hp → Prop} (hk : table_Table_ByName_c1_b0 r t1 h K) : HCalls Try.prog 49 #[.pointer r, .pointer t1] h K :=
  calls_of_snd table_Table_ByName_c1_an Try.func49 (c := bodyOf Try.f49) rfl Try.ntmps49 (Nat.le_of_ble_eq_true rfl) (snd_1 F_ok F_mixed) hk

/-! ### r50_within -/
/-! ### r50_contains -/
/-! ### table_Table_Batch_c1 -/
def table_Table_Batch_c1_an : Ann := .leaf
def table_Table_Batch_c1_K0  (K : Value → Hp → Prop) : Exit → Env → Hp → Prop := retK Try.prog Try.f53.results.toList K
def table_Table_Batch_c1_b0 (r_0 : Int) (r_1 : Int) (r_2 : Int) (r_3 : Int) (r_4 : ByteArray) (h : Hp)  (K : Value → Hp → Prop) : Prop :=
  sx_1 Try.prog F 6 (cp [] (bodyOf Try.f53)) (ap [] table_Table_Batch_c1_an) [(0, .agg #[.int .i64 r_0, .int .i64 r_1, .int .i64 r_2, .int .i64 r_3, .string r_4])] h (table_Table_Batch_c1_K0  K)
theorem table_Table_Batch_c1_b0_eq (r_0 : Int) (r_1 : Int) (r_2 : Int) (r_3 : Int) (r_4 : ByteArray) (h : Hp)  (K : Value → Hp → Prop) : table_Table_Batch_c1_b0 r_0 r_1 r_2 r_3 r_4 h  K = (
  New h (.cells #[.int .i64 r_0, .int .i64 r_1, .int .i64 r_2, .int .i64 r_3, .string r_4] 46) fun b1 h1 =>
  ∃ n1 : Int, ∃ n2 : Int, ∃ n3 : Int, ∃ n4 : Int, ∃ s1 : ByteArray, cell h1 ⟨b1, 0, none⟩ = some (.int .i64 n1) ∧
  cell h1 ((⟨b1, 0, none⟩ : Addr).add 1) = some (.int .i64 n2) ∧
  cell h1 ((⟨b1, 0, none⟩ : Addr).add 2) = some (.int .i64 n3) ∧
  cell h1 ((⟨b1, 0, none⟩ : Addr).add 3) = some (.int .i64 n4) ∧
  cell h1 ((⟨b1, 0, none⟩ : Addr).add 4) = some (.string s1) ∧
  HCalls Try.prog 27 #[.agg #[.int .i64 n1, .int .i64 n2, .int .i64 n3, .int .i64 n4, .string s1]] h1 fun v1 h2 => ∃ r1 : Bool, v1 = .bool r1 ∧
  K (.bool (!r1)) h2) := by kernel_rfl
theorem table_Table_Batch_c1_call {r_0 : Int} {r_1 : Int} {r_2 : Int} {r_3 : Int} {r_4 : ByteArray} {h : Hp} {K : Value → Hp → Prop} (hk : table_Table_Batch_c1_b0 r_0 r_1 r_2 r_3 r_4 h K) : HCalls Try.prog 53 #[.agg #[.int .i64 r_0, .int .i64 r_1, .int .i64 r_2, .int .i64 r_3, .string r_4]] h K :=
  calls_of_snd table_Table_Batch_c1_an Try.func53 (c := bodyOf Try.f53) rfl Try.ntmps53 (Nat.le_of_ble_eq_true rfl) (snd_1 F_ok F_mixed) hk

/-! ### table_Table_drop -/
def table_Table_drop_an : Ann := .node none (.plan (.qu 0 (.qu 1 (.qu 2 (.qu 3 (.qu 4 (.qu 5 (.qu 6 (.qu 7 (.qu 8 (.wo 9 (.qu 10 (.qu 11 (.qu 12 (.wo 13 .fin .no)))) .no))))))))))) (.leaf)
def table_Table_drop_K0  (K : Value → Hp → Prop) : Exit → Env → Hp → Prop := retK Try.prog Try.f54.results.toList K
def table_Table_drop_b0 (t : Option Addr) (id : Int) (h : Hp)  (K : Value → Hp → Prop) : Prop :=
  sx_1 Try.prog F 51 (cp [] (bodyOf Try.f54)) (ap [] table_Table_drop_an) [(0, .pointer t), (1, .int .i64 id)] h (table_Table_drop_K0  K)
theorem table_Table_drop_b0_eq (t : Option Addr) (id : Int) (h : Hp)  (K : Value → Hp → Prop) : table_Table_drop_b0 t id h  K = (
  NN t fun a1 =>
  ∃ v1 : Value, cell h (a1.add 1) = some (v1) ∧
  NN t fun a2 =>
  ∃ v2 : Value, cell h a2 = some (v2) ∧
  lookV Try.prog 75 v2 (.int .i64 id) false h fun v3 => ∃ r1 : Option Addr, v3 = .pointer r1 ∧
  (∃ v4 : Value, cell h (a1.add 1) = some (v4) ∧
  (v4 : Value) = v1) ∧
  NN r1 fun a3 =>
  ∃ n1 : Int, cell h a3 = some (.int .i64 n1) ∧
  mapDelV Try.prog 76 v1 (.int .i64 n1) h fun h1 =>
  NN t fun a4 =>
  ∃ v5 : Value, cell h1 a4 = some (v5) ∧
  mapDelV Try.prog 75 v5 (.int .i64 id) h1 fun h2 =>
  NN t fun a5 =>
  ∃ (a6 : Option Addr) (L1 C1 : Nat), cell h2 (a5.add 5) = some (.slice a6 L1 C1) ∧
  HCalls Try.prog 72 #[.slice a6 L1 C1, .int .i64 id] h2 fun v6 h3 => ∃ r2 : Int, v6 = .int .i64 r2 ∧
  cond (decide ((0 : Int) ≤ r2))
  (NN t fun a7 =>
  ∃ (a8 : Option Addr) (L2 C2 : Nat), cell h3 (a7.add 5) = some (.slice a8 L2 C2) ∧
  InR (r2 + 1) ∧
  HCalls Try.prog 73 #[.slice a8 L2 C2, .int .i64 r2, .int .i64 (r2 + 1)] h3 fun v7 h4 => ∃ (r3 : Option Addr) (rL1 rC1 : Nat), v7 = .slice r3 rL1 rC1 ∧
  NN t fun a9 =>
  Wr h4 (a9.add 5) (.slice r3 rL1 rC1) fun h5 =>
  K (.tuple #[]) h5)
  (NN t fun a10 =>
  ∃ v8 : Value, cell h3 ((a10.add 5).add 1) = some (v8) ∧
  mapSetV Try.prog 77 v8 (.int .i64 id) (.bool true) h3 fun h6 =>
  K (.tuple #[]) h6)) := by kernel_rfl
theorem table_Table_drop_call {t : Option Addr} {id : Int} {h : Hp} {K : Value → Hp → Prop} (hk : table_Table_drop_b0 t id h K) : HCalls Try.prog 54 #[.pointer t, .int .i64 id] h K :=
  calls_of_snd table_Table_drop_an Try.func54 (c := bodyOf Try.f54) rfl Try.ntmps54 (Nat.le_of_ble_eq_true rfl) (snd_1 F_ok F_mixed) hk

/-! ### table_Table_put -/
def table_Table_put_an : Ann := .node none (.leaf) (.node none (.leaf) (.node none (.tail 7) (.leaf)))
def table_Table_put_K0  (K : Value → Hp → Prop) : Exit → Env → Hp → Prop := retK Try.prog Try.f55.results.toList K
def table_Table_put_b0 (t : Option Addr) (id : Int) (r_0 : Int) (r_1 : Int) (r_2 : Int) (r_3 : Int) (r_4 : ByteArray) (h : Hp)  (K : Value → Hp → Prop) : Prop :=
  sx_1 Try.prog F 30 (cp [] (bodyOf Try.f55)) (ap [] table_Table_put_an) [(0, .pointer t), (1, .int .i64 id), (2, .agg #[.int .i64 r_0, .int .i64 r_1, .int .i64 r_2, .int .i64 r_3, .string r_4])] h (table_Table_put_K0  K)
theorem table_Table_put_b0_eq (t : Option Addr) (id : Int) (r_0 : Int) (r_1 : Int) (r_2 : Int) (r_3 : Int) (r_4 : ByteArray) (h : Hp)  (K : Value → Hp → Prop) : table_Table_put_b0 t id r_0 r_1 r_2 r_3 r_4 h  K = (
  New h (.cells #[.int .i64 r_0, .int .i64 r_1, .int .i64 r_2, .int .i64 r_3, .string r_4] 46) fun b1 h1 =>
  NN t fun a1 =>
  ∃ v1 : Value, cell h1 a1 = some (v1) ∧
  mapSetV Try.prog 75 v1 (.int .i64 id) (.pointer (some ⟨b1, 0, none⟩)) h1 fun h2 =>
  NN t fun a2 =>
  ∃ v2 : Value, cell h2 (a2.add 1) = some (v2) ∧
  ∃ n1 : Int, cell h2 ⟨b1, 0, none⟩ = some (.int .i64 n1) ∧
  mapSetV Try.prog 76 v2 (.int .i64 n1) (.int .i64 id) h2 fun h3 =>
  NN t fun a3 =>
  ∃ (a4 : Option Addr) (L1 C1 : Nat), cell h3 (a3.add 5) = some (.slice a4 L1 C1) ∧
  New h3 (.cells #[.int .i64 id] 3) fun b2 h4 =>
  appendV Try.prog 26 26 (.slice a4 L1 C1) (.slice (some ⟨b2, 0, none⟩) 1 1) h4 (slK fun a5 l1 c1 h5 =>
  NN t fun a6 =>
  Wr h5 (a6.add 5) (.slice a5 l1 c1) fun h6 =>
  K (.tuple #[]) h6)) := by kernel_rfl
theorem table_Table_put_call {t : Option Addr} {id : Int} {r_0 : Int} {r_1 : Int} {r_2 : Int} {r_3 : Int} {r_4 : ByteArray} {h : Hp} {K : Value → Hp → Prop} (hk : table_Table_put_b0 t id r_0 r_1 r_2 r_3 r_4 h K) : HCalls Try.prog 55 #[.pointer t, .int .i64 id, .agg #[.int .i64 r_0, .int .i64 r_1, .int .i64 r_2, .int .i64 r_3, .string r_4]] h K :=
  calls_of_snd table_Table_put_an Try.func55 (c := bodyOf Try.f55) rfl Try.ntmps55 (Nat.le_of_ble_eq_true rfl) (snd_1 F_ok F_mixed) hk

/-! ### table_Table_build -/
def table_Table_build_an : Ann := .node none (.leaf) (.node none (.node none (.plan (.qu 0 (.qu 1 (.qu 2 (.qu 3 (.qu 4 (.qu 5 (.qu 6 (.qu 7 (.qu 8 (.qu 9 (.qu 10 (.wo 11 (.qu 12 (.qu 13 .fin)) .no))))))))))))) (.leaf)) (.node none (.plan (.qu 0 (.qu 1 (.qu 2 (.qu 4 (.wo 3 (.wo 5 (.qu 6 (.qu 7 (.wo 8 (.qu 9 (.qu 10 (.wo 11 .fin .no))) .no))) .no) .no)))))) (.leaf)))
def table_Table_build_K0  (K : Value → Hp → Prop) : Exit → Env → Hp → Prop := retK Try.prog Try.f56.results.toList K
def table_Table_build_b0 (t : Option Addr) (h : Hp)  (K : Value → Hp → Prop) : Prop :=
  sx_1 Try.prog F 43 (cp [] (bodyOf Try.f56)) (ap [] table_Table_build_an) [(0, .pointer t)] h (table_Table_build_K0  K)
theorem table_Table_build_b0_eq (t : Option Addr) (h : Hp)  (K : Value → Hp → Prop) : table_Table_build_b0 t h  K = (
  New h (.cells #[.pointer t] 25) fun b1 h1 =>
  ∃ p1 : Option Addr, cell h1 ⟨b1, 0, none⟩ = some (.pointer p1) ∧
  NN p1 fun a1 =>
  ∃ (a2 : Option Addr) (L1 C1 : Nat), cell h1 (a1.add 5) = some (.slice a2 L1 C1) ∧
  ∃ p2 : Option Addr, cell h1 ⟨b1, 0, none⟩ = some (.pointer p2) ∧
  NN p2 fun a3 =>
  ∃ v1 : Value, cell h1 ((a3.add 5).add 1) = some (v1) ∧
  mapLenV v1 h1 fun n1 =>
  (∃ (a4 : Option Addr) (L2 C2 : Nat), cell h1 (a1.add 5) = some (.slice a4 L2 C2) ∧
  (.slice a4 L2 C2 : Value) = .slice a2 L1 C1) ∧
  (∃ p3 : Option Addr, cell h1 ⟨b1, 0, none⟩ = some (.pointer p3) ∧
  (.pointer p3 : Value) = .pointer p1) ∧
  InR ((L1 : Int) + n1) ∧
  cond (decide (((L1 : Int) + n1) ≤ 16))
  (K (.tuple #[]) h1)
  (∃ p4 : Option Addr, cell h1 ⟨b1, 0, none⟩ = some (.pointer p4) ∧
  ∃ p5 : Option Addr, cell h1 ⟨b1, 0, none⟩ = some (.pointer p5) ∧
  ∃ p6 : Option Addr, cell h1 ⟨b1, 0, none⟩ = some (.pointer p6) ∧
  ∃ p7 : Option Addr, cell h1 ⟨b1, 0, none⟩ = some (.pointer p7) ∧
  HCalls Try.prog 20 #[.pointer p6] h1 fun v2 h2 => ∃ (r1 : Option Addr) (rL1 rC1 : Nat), v2 = .slice r1 rL1 rC1 ∧
  (∃ p8 : Option Addr, cell h2 ⟨b1, 0, none⟩ = some (.pointer p8) ∧
  (.pointer p8 : Value) = .pointer p7) ∧
  (∃ p9 : Option Addr, cell h2 ⟨b1, 0, none⟩ = some (.pointer p9) ∧
  (.pointer p9 : Value) = .pointer p5) ∧
  (∃ p10 : Option Addr, cell h2 ⟨b1, 0, none⟩ = some (.pointer p10) ∧
  (.pointer p10 : Value) = .pointer p4) ∧
  HCalls Try.prog 20 #[.pointer p7] h2 fun v3 h3 => ∃ (r2 : Option Addr) (rL2 rC2 : Nat), v3 = .slice r2 rL2 rC2 ∧
  (∃ p11 : Option Addr, cell h3 ⟨b1, 0, none⟩ = some (.pointer p11) ∧
  (.pointer p11 : Value) = .pointer p5) ∧
  (∃ p12 : Option Addr, cell h3 ⟨b1, 0, none⟩ = some (.pointer p12) ∧
  (.pointer p12 : Value) = .pointer p4) ∧
  NN p4 fun a5 =>
  Wr h3 (a5.add 3) (.slice r1 rL1 rC1) fun h4 =>
  (∃ p13 : Option Addr, cell h4 ⟨b1, 0, none⟩ = some (.pointer p13) ∧
  (.pointer p13 : Value) = .pointer p5) ∧
  NN p5 fun a6 =>
  Wr h4 (a6.add 4) (.slice r2 rL2 rC2) fun h5 =>
  ∃ p14 : Option Addr, cell h5 ⟨b1, 0, none⟩ = some (.pointer p14) ∧
  NN p14 fun a7 =>
  ∃ (a8 : Option Addr) (L3 C3 : Nat), cell h5 (a7.add 3) = some (.slice a8 L3 C3) ∧
  HCalls Try.prog 42 #[.slice a8 L3 C3, .func (.func 74) #[] #[.pointer (some ⟨b1, 0, none⟩)]] h5 fun v4 h6 => v4 = .tuple #[] ∧
  ∃ p15 : Option Addr, cell h6 ⟨b1, 0, none⟩ = some (.pointer p15) ∧
  NN p15 fun a9 =>
  ∃ (a10 : Option Addr) (L4 C4 : Nat), cell h6 (a9.add 4) = some (.slice a10 L4 C4) ∧
  HCalls Try.prog 42 #[.slice a10 L4 C4, .func (.func 75) #[] #[.pointer (some ⟨b1, 0, none⟩)]] h6 fun v5 h7 => v5 = .tuple #[] ∧
  ∃ p16 : Option Addr, cell h7 ⟨b1, 0, none⟩ = some (.pointer p16) ∧
  New h7 (.map #[] 0) fun b2 h8 =>
  NN p16 fun a11 =>
  Wr h8 (a11.add 5) (.slice none 0 0) fun h9 =>
  Wr h9 ((a11.add 5).add 1) (.map (some b2)) fun h10 =>
  K (.tuple #[]) h10)) := by kernel_rfl
theorem table_Table_build_call {t : Option Addr} {h : Hp} {K : Value → Hp → Prop} (hk : table_Table_build_b0 t h K) : HCalls Try.prog 56 #[.pointer t] h K :=
  calls_of_snd table_Table_build_an Try.func56 (c := bodyOf Try.f56) rfl Try.ntmps56 (Nat.le_of_ble_eq_true rfl) (snd_1 F_ok F_mixed) hk

/-! ### table_Table_List_c1 -/
def table_Table_List_c1_an : Ann := .leaf
def table_Table_List_c1_K0  (K : Value → Hp → Prop) : Exit → Env → Hp → Prop := retK Try.prog Try.f57.results.toList K
def table_Table_List_c1_b0 (t0 : Option Addr) (h : Hp)  (K : Value → Hp → Prop) : Prop :=
  sx_1 Try.prog F 3 (cp [] (bodyOf Try.f57)) (ap [] table_Table_List_c1_an) [(0, .pointer t0)] h (table_Table_List_c1_K0  K)
theorem table_Table_List_c1_b0_eq (t0 : Option Addr) (h : Hp)  (K : Value → Hp → Prop) : table_Table_List_c1_b0 t0 h  K = (
  K (.bool true) h) := by kernel_rfl
theorem table_Table_List_c1_call {t0 : Option Addr} {h : Hp} {K : Value → Hp → Prop} (hk : table_Table_List_c1_b0 t0 h K) : HCalls Try.prog 57 #[.pointer t0] h K :=
  calls_of_snd table_Table_List_c1_an Try.func57 (c := bodyOf Try.f57) rfl Try.ntmps57 (Nat.le_of_ble_eq_true rfl) (snd_1 F_ok F_mixed) hk

/-! ### table_outside -/
def table_outside_an : Ann := .leaf
def table_outside_K0  (K : Value → Hp → Prop) : Exit → Env → Hp → Prop := retK Try.prog Try.f58.results.toList K
def table_outside_b0 (nv : Int) (h : Hp)  (K : Value → Hp → Prop) : Prop :=
  sx_1 Try.prog F 9 (cp [] (bodyOf Try.f58)) (ap [] table_outside_an) [(0, .int .i64 nv)] h (table_outside_K0  K)
theorem table_outside_b0_eq (nv : Int) (h : Hp)  (K : Value → Hp → Prop) : table_outside_b0 nv h  K = (
  cond (decide (nv < (-1048576)))
  (K (.bool true) h)
  (K (.bool (decide ((1048576 : Int) < nv))) h)) := by kernel_rfl
theorem table_outside_call {nv : Int} {h : Hp} {K : Value → Hp → Prop} (hk : table_outside_b0 nv h K) : HCalls Try.prog 58 #[.int .i64 nv] h K :=
  calls_of_snd table_outside_an Try.func58 (c := bodyOf Try.f58) rfl Try.ntmps58 (Nat.le_of_ble_eq_true rfl) (snd_1 F_ok F_mixed) hk

/-! ### r50_key -/
def r50_key_an : Ann := .leaf
def r50_key_K0  (K : Value → Hp → Prop) : Exit → Env → Hp → Prop := retK Try.prog Try.f59.results.toList K
def r50_key_b0 (nv : Int) (h : Hp)  (K : Value → Hp → Prop) : Prop :=
  sx_1 Try.prog F 9 (cp [] (bodyOf Try.f59)) (ap [] r50_key_an) [(0, .int .i64 nv)] h (r50_key_K0  K)
theorem r50_key_b0_eq (nv : Int) (h : Hp)  (K : Value → Hp → Prop) : r50_key_b0 nv h  K = (
  cond (decide (((-1048576) : Int) ≤ nv))
  (K (.bool (decide (nv ≤ 1048576))) h)
  (K (.bool false) h)) := by kernel_rfl
theorem r50_key_call {nv : Int} {h : Hp} {K : Value → Hp → Prop} (hk : r50_key_b0 nv h K) : HCalls Try.prog 59 #[.int .i64 nv] h K :=
  calls_of_snd r50_key_an Try.func59 (c := bodyOf Try.f59) rfl Try.ntmps59 (Nat.le_of_ble_eq_true rfl) (snd_1 F_ok F_mixed) hk

/-! ### slices_IndexFunc_Sl50_Step_l50_Step -/
def slices_IndexFunc_Sl50_Step_l50_Step_an : Ann := .node none (.leaf) (.node (some []) (.node none (.leaf) (.loop [0, 1, 7] [(8, .int .i64)] (.node none (.leaf) (.node none (.leaf) (.node (some [0, 1, 7, 8]) (.leaf) (.leaf)))))) (.leaf))
def slices_IndexFunc_Sl50_Step_l50_Step_K0  (K : Value → Hp → Prop) : Exit → Env → Hp → Prop := retK Try.prog Try.f60.results.toList K
def slices_IndexFunc_Sl50_Step_l50_Step_K1  (K : Value → Hp → Prop) : Exit → Env → Hp → Prop := thenE (fun env h => sx_2 Try.prog F 19 (cp [1, 1] (bodyOf Try.f60)) (ap [1, 1] slices_IndexFunc_Sl50_Step_l50_Step_an) (rs [] env) h (slices_IndexFunc_Sl50_Step_l50_Step_K0  K)) (slices_IndexFunc_Sl50_Step_l50_Step_K0  K)
def slices_IndexFunc_Sl50_Step_l50_Step_K2  (K : Value → Hp → Prop) : Exit → Env → Hp → Prop := blockE 0 (slices_IndexFunc_Sl50_Step_l50_Step_K1  K)
def slices_IndexFunc_Sl50_Step_l50_Step_K3 (nx0 : Int × Unit → Hp → Prop) (K : Value → Hp → Prop) : Exit → Env → Hp → Prop := thenE (fun env h => getV [(8, .int .i64)] env fun s => nx0 s h) (slices_IndexFunc_Sl50_Step_l50_Step_K2  K)
def slices_IndexFunc_Sl50_Step_l50_Step_b0 (s : Option Addr) (sL : Nat) (sC : Nat) (f : Value) (h : Hp)  (K : Value → Hp → Prop) : Prop :=
  sx_3 Try.prog F 19 (cp [] (bodyOf Try.f60)) (ap [] slices_IndexFunc_Sl50_Step_l50_Step_an) [(0, .slice s sL sC), (1, f)] h (slices_IndexFunc_Sl50_Step_l50_Step_K0  K)
def slices_IndexFunc_Sl50_Step_l50_Step_b1 (t8 : Int) (s : Option Addr) (sL : Nat) (sC : Nat) (f : Value) (t7 : Int) (h : Hp) (nx0 : Int × Unit → Hp → Prop) (K : Value → Hp → Prop) : Prop :=
  sx_2 Try.prog F 19 (cp [1, 0, 1, 2, 2] (bodyOf Try.f60)) (ap [1, 0, 1, 2] slices_IndexFunc_Sl50_Step_l50_Step_an) [(8, .int .i64 t8), (0, .slice s sL sC), (1, f), (7, .int .i64 t7)] h (slices_IndexFunc_Sl50_Step_l50_Step_K3 nx0 K)
def slices_IndexFunc_Sl50_Step_l50_Step_b2 (s : Option Addr) (sL : Nat) (sC : Nat) (f : Value) (t7 : Int) (t8 : Int) (h : Hp) (nx0 : Int × Unit → Hp → Prop) (K : Value → Hp → Prop) : Prop :=
  sx_1 Try.prog F 19 (cp [1, 0, 1, 2, 2, 1, 1, 1] (bodyOf Try.f60)) (ap [1, 0, 1, 2, 1, 1, 1] slices_IndexFunc_Sl50_Step_l50_Step_an) [(0, .slice s sL sC), (1, f), (7, .int .i64 t7), (8, .int .i64 t8)] h (slices_IndexFunc_Sl50_Step_l50_Step_K3 nx0 K)
def slices_IndexFunc_Sl50_Step_l50_Step_b3  (h : Hp)  (K : Value → Hp → Prop) : Prop :=
  sx_2 Try.prog F 19 (cp [1, 1] (bodyOf Try.f60)) (ap [1, 1] slices_IndexFunc_Sl50_Step_l50_Step_an) [] h (slices_IndexFunc_Sl50_Step_l50_Step_K0  K)
theorem slices_IndexFunc_Sl50_Step_l50_Step_b0_eq (s : Option Addr) (sL : Nat) (sC : Nat) (f : Value) (h : Hp)  (K : Value → Hp → Prop) : slices_IndexFunc_Sl50_Step_l50_Step_b0 s sL sC f h  K = (
  LoopVC ((0, ()) : Int × Unit) h (fun (nx0 : Int × Unit → Hp → Prop) (s1 : Int × Unit) h1 => slices_IndexFunc_Sl50_Step_l50_Step_b1 s1.1 s sL sC f (sL : Int) h1 nx0 K)) := by kernel_rfl
theorem slices_IndexFunc_Sl50_Step_l50_Step_b1_eq (t8 : Int) (s : Option Addr) (sL : Nat) (sC : Nat) (f : Value) (t7 : Int) (h : Hp) (nx0 : Int × Unit → Hp → Prop) (K : Value → Hp → Prop) : slices_IndexFunc_Sl50_Step_l50_Step_b1 t8 s sL sC f t7 h nx0 K = (
  cond (decide (t8 < t7))
  ((0 ≤ t8 ∧ t8 < (sL : Int)) ∧
  NN s fun a1 =>
  ∃ n1 : Int, ∃ n2 : Int, ∃ n3 : Int, ∃ n4 : Int, ∃ n5 : Int, ∃ n6 : Int, ∃ s2 : ByteArray, ∃ (a2 : Option Addr) (L1 C1 : Nat), ∃ (a3 : Option Addr) (L2 C2 : Nat), cell h (a1.add (Int.toNat t8 * 9)) = some (.int .u8 n1) ∧
  cell h ((a1.add (Int.toNat t8 * 9)).add 1) = some (.int .i64 n2) ∧
  cell h ((a1.add (Int.toNat t8 * 9)).add 2) = some (.int .i64 n3) ∧
  cell h ((a1.add (Int.toNat t8 * 9)).add 3) = some (.int .i64 n4) ∧
  cell h ((a1.add (Int.toNat t8 * 9)).add 4) = some (.int .i64 n5) ∧
  cell h ((a1.add (Int.toNat t8 * 9)).add 5) = some (.int .i64 n6) ∧
  cell h ((a1.add (Int.toNat t8 * 9)).add 6) = some (.string s2) ∧
  cell h ((a1.add (Int.toNat t8 * 9)).add 7) = some (.slice a2 L1 C1) ∧
  cell h ((a1.add (Int.toNat t8 * 9)).add 8) = some (.slice a3 L2 C2) ∧
  funV f fun fg1 fa1 fc1 => callX Try.prog F fg1 (fa1 ++ (([.agg #[.int .u8 n1, .int .i64 n2, .int .i64 n3, .int .i64 n4, .int .i64 n5, .int .i64 n6, .string s2, .slice a2 L1 C1, .slice a3 L2 C2]] : List Value) ++ fc1)).toArray h fun v1 h2 => ∃ r1 : Bool, v1 = .bool r1 ∧
  cond r1
  (K (.int .i64 t8) h2)
  (slices_IndexFunc_Sl50_Step_l50_Step_b2 s sL sC f t7 t8 h2 nx0 K))
  (slices_IndexFunc_Sl50_Step_l50_Step_b3  h  K)) := by kernel_rfl
theorem slices_IndexFunc_Sl50_Step_l50_Step_b2_eq (s : Option Addr) (sL : Nat) (sC : Nat) (f : Value) (t7 : Int) (t8 : Int) (h : Hp) (nx0 : Int × Unit → Hp → Prop) (K : Value → Hp → Prop) : slices_IndexFunc_Sl50_Step_l50_Step_b2 s sL sC f t7 t8 h nx0 K = (
  InR (t8 + 1) ∧
  nx0 (t8 + 1, ()) h) := by kernel_rfl
theorem slices_IndexFunc_Sl50_Step_l50_Step_b3_eq  (h : Hp)  (K : Value → Hp → Prop) : slices_IndexFunc_Sl50_Step_l50_Step_b3  h  K = (
  K (.int .i64 (-1)) h) := by kernel_rfl
theorem slices_IndexFunc_Sl50_Step_l50_Step_call {s : Option Addr} {sL : Nat} {sC : Nat} {f : Value} {h : Hp} {K : Value → Hp → Prop} (hk : slices_IndexFunc_Sl50_Step_l50_Step_b0 s sL sC f h K) : HCalls Try.prog 60 #[.slice s sL sC, f] h K :=
  calls_of_snd slices_IndexFunc_Sl50_Step_l50_Step_an Try.func60 (c := bodyOf Try.f60) rfl Try.ntmps60 (Nat.le_of_ble_eq_true rfl) (snd_3 F_ok F_mixed) hk

/-! ### slices_IndexFunc_Sapi_Record_api_Record -/
def slices_IndexFunc_Sapi_Record_api_Record_an : Ann := .node none (.leaf) (.node (some []) (.node none (.leaf) (.loop [0, 1, 7] [(8, .int .i64)] (.node none (.leaf) (.node none (.leaf) (.node (some [0, 1, 7, 8]) (.leaf) (.leaf)))))) (.leaf))
def slices_IndexFunc_Sapi_Record_api_Record_K0  (K : Value → Hp → Prop) : Exit → Env → Hp → Prop := retK Try.prog Try.f61.results.toList K
def slices_IndexFunc_Sapi_Record_api_Record_K1  (K : Value → Hp → Prop) : Exit → Env → Hp → Prop := thenE (fun env h => sx_2 Try.prog F 19 (cp [1, 1] (bodyOf Try.f61)) (ap [1, 1] slices_IndexFunc_Sapi_Record_api_Record_an) (rs [] env) h (slices_IndexFunc_Sapi_Record_api_Record_K0  K)) (slices_IndexFunc_Sapi_Record_api_Record_K0  K)
def slices_IndexFunc_Sapi_Record_api_Record_K2  (K : Value → Hp → Prop) : Exit → Env → Hp → Prop := blockE 0 (slices_IndexFunc_Sapi_Record_api_Record_K1  K)
def slices_IndexFunc_Sapi_Record_api_Record_K3 (nx0 : Int × Unit → Hp → Prop) (K : Value → Hp → Prop) : Exit → Env → Hp → Prop := thenE (fun env h => getV [(8, .int .i64)] env fun s => nx0 s h) (slices_IndexFunc_Sapi_Record_api_Record_K2  K)
def slices_IndexFunc_Sapi_Record_api_Record_b0 (s : Option Addr) (sL : Nat) (sC : Nat) (f : Value) (h : Hp)  (K : Value → Hp → Prop) : Prop :=
  sx_3 Try.prog F 19 (cp [] (bodyOf Try.f61)) (ap [] slices_IndexFunc_Sapi_Record_api_Record_an) [(0, .slice s sL sC), (1, f)] h (slices_IndexFunc_Sapi_Record_api_Record_K0  K)
def slices_IndexFunc_Sapi_Record_api_Record_b1 (t8 : Int) (s : Option Addr) (sL : Nat) (sC : Nat) (f : Value) (t7 : Int) (h : Hp) (nx0 : Int × Unit → Hp → Prop) (K : Value → Hp → Prop) : Prop :=
  sx_2 Try.prog F 19 (cp [1, 0, 1, 2, 2] (bodyOf Try.f61)) (ap [1, 0, 1, 2] slices_IndexFunc_Sapi_Record_api_Record_an) [(8, .int .i64 t8), (0, .slice s sL sC), (1, f), (7, .int .i64 t7)] h (slices_IndexFunc_Sapi_Record_api_Record_K3 nx0 K)
def slices_IndexFunc_Sapi_Record_api_Record_b2 (s : Option Addr) (sL : Nat) (sC : Nat) (f : Value) (t7 : Int) (t8 : Int) (h : Hp) (nx0 : Int × Unit → Hp → Prop) (K : Value → Hp → Prop) : Prop :=
  sx_1 Try.prog F 19 (cp [1, 0, 1, 2, 2, 1, 1, 1] (bodyOf Try.f61)) (ap [1, 0, 1, 2, 1, 1, 1] slices_IndexFunc_Sapi_Record_api_Record_an) [(0, .slice s sL sC), (1, f), (7, .int .i64 t7), (8, .int .i64 t8)] h (slices_IndexFunc_Sapi_Record_api_Record_K3 nx0 K)
def slices_IndexFunc_Sapi_Record_api_Record_b3  (h : Hp)  (K : Value → Hp → Prop) : Prop :=
  sx_2 Try.prog F 19 (cp [1, 1] (bodyOf Try.f61)) (ap [1, 1] slices_IndexFunc_Sapi_Record_api_Record_an) [] h (slices_IndexFunc_Sapi_Record_api_Record_K0  K)
theorem slices_IndexFunc_Sapi_Record_api_Record_b0_eq (s : Option Addr) (sL : Nat) (sC : Nat) (f : Value) (h : Hp)  (K : Value → Hp → Prop) : slices_IndexFunc_Sapi_Record_api_Record_b0 s sL sC f h  K = (
  LoopVC ((0, ()) : Int × Unit) h (fun (nx0 : Int × Unit → Hp → Prop) (s1 : Int × Unit) h1 => slices_IndexFunc_Sapi_Record_api_Record_b1 s1.1 s sL sC f (sL : Int) h1 nx0 K)) := by kernel_rfl
theorem slices_IndexFunc_Sapi_Record_api_Record_b1_eq (t8 : Int) (s : Option Addr) (sL : Nat) (sC : Nat) (f : Value) (t7 : Int) (h : Hp) (nx0 : Int × Unit → Hp → Prop) (K : Value → Hp → Prop) : slices_IndexFunc_Sapi_Record_api_Record_b1 t8 s sL sC f t7 h nx0 K = (
  cond (decide (t8 < t7))
  ((0 ≤ t8 ∧ t8 < (sL : Int)) ∧
  NN s fun a1 =>
  ∃ n1 : Int, ∃ n2 : Int, ∃ n3 : Int, ∃ n4 : Int, ∃ s2 : ByteArray, cell h (a1.add (Int.toNat t8 * 5)) = some (.int .i64 n1) ∧
  cell h ((a1.add (Int.toNat t8 * 5)).add 1) = some (.int .i64 n2) ∧
  cell h ((a1.add (Int.toNat t8 * 5)).add 2) = some (.int .i64 n3) ∧
  cell h ((a1.add (Int.toNat t8 * 5)).add 3) = some (.int .i64 n4) ∧
  cell h ((a1.add (Int.toNat t8 * 5)).add 4) = some (.string s2) ∧
  funV f fun fg1 fa1 fc1 => callX Try.prog F fg1 (fa1 ++ (([.agg #[.int .i64 n1, .int .i64 n2, .int .i64 n3, .int .i64 n4, .string s2]] : List Value) ++ fc1)).toArray h fun v1 h2 => ∃ r1 : Bool, v1 = .bool r1 ∧
  cond r1
  (K (.int .i64 t8) h2)
  (slices_IndexFunc_Sapi_Record_api_Record_b2 s sL sC f t7 t8 h2 nx0 K))
  (slices_IndexFunc_Sapi_Record_api_Record_b3  h  K)) := by kernel_rfl
theorem slices_IndexFunc_Sapi_Record_api_Record_b2_eq (s : Option Addr) (sL : Nat) (sC : Nat) (f : Value) (t7 : Int) (t8 : Int) (h : Hp) (nx0 : Int × Unit → Hp → Prop) (K : Value → Hp → Prop) : slices_IndexFunc_Sapi_Record_api_Record_b2 s sL sC f t7 t8 h nx0 K = (
  InR (t8 + 1) ∧
  nx0 (t8 + 1, ()) h) := by kernel_rfl
theorem slices_IndexFunc_Sapi_Record_api_Record_b3_eq  (h : Hp)  (K : Value → Hp → Prop) : slices_IndexFunc_Sapi_Record_api_Record_b3  h  K = (
  K (.int .i64 (-1)) h) := by kernel_rfl
theorem slices_IndexFunc_Sapi_Record_api_Record_call {s : Option Addr} {sL : Nat} {sC : Nat} {f : Value} {h : Hp} {K : Value → Hp → Prop} (hk : slices_IndexFunc_Sapi_Record_api_Record_b0 s sL sC f h K) : HCalls Try.prog 61 #[.slice s sL sC, f] h K :=
  calls_of_snd slices_IndexFunc_Sapi_Record_api_Record_an Try.func61 (c := bodyOf Try.f61) rfl Try.ntmps61 (Nat.le_of_ble_eq_true rfl) (snd_3 F_ok F_mixed) hk

/-! ### r50_Insert -/
def r50_Insert_an : Ann := .node none (.leaf) (.node none (.leaf) (.node none (.leaf) (.node none (.leaf) (.node none (.leaf) (.node none (.leaf) (.node (some [2, 4, 7]) (.plan (.qu 1 (.qu 2 (.qu 4 (.wo 0 (.wo 3 (.wo 5 (.wo 6 (.qu 7 (.wo 8 .fin .no)) .no) .no) (.wo 5 (.wo 3 (.wo 6 (.qu 7 (.wo 8 .fin .no)) .no) .no) .no)) (.wo 5 (.wo 0 (.wo 3 (.wo 6 (.qu 7 (.wo 8 .fin .no)) .no) .no) .no) .no)))))) (.leaf)))))))
def r50_Insert_K0  (K : Value → Hp → Prop) : Exit → Env → Hp → Prop := retK Try.prog Try.f62.results.toList K
def r50_Insert_b0 (t_0 : Option Addr) (t_0L : Nat) (t_0C : Nat) (t_1 : Option Addr) (t_1L : Nat) (t_1C : Nat) (t_2 : Int) (r_0 : Int) (r_1 : Int) (r_2 : Int) (r_3 : Int) (r_4 : ByteArray) (h : Hp)  (K : Value → Hp → Prop) : Prop :=
  sx_2 Try.prog F 45 (cp [] (bodyOf Try.f62)) (ap [] r50_Insert_an) [(0, .agg #[.slice t_0 t_0L t_0C, .slice t_1 t_1L t_1C, .int .i64 t_2]), (1, .agg #[.int .i64 r_0, .int .i64 r_1, .int .i64 r_2, .int .i64 r_3, .string r_4])] h (r50_Insert_K0  K)
def r50_Insert_b1 (t : Option Addr) (t4 : Option Addr) (id : Int) (h : Hp)  (K : Value → Hp → Prop) : Prop :=
  sx_1 Try.prog F 45 (cp [1, 1, 1, 1, 1, 1, 1] (bodyOf Try.f62)) (ap [1, 1, 1, 1, 1, 1, 1] r50_Insert_an) [(2, .pointer t), (4, .pointer t4), (7, .int .i64 id)] h (r50_Insert_K0  K)
theorem r50_Insert_b0_eq (t_0 : Option Addr) (t_0L : Nat) (t_0C : Nat) (t_1 : Option Addr) (t_1L : Nat) (t_1C : Nat) (t_2 : Int) (r_0 : Int) (r_1 : Int) (r_2 : Int) (r_3 : Int) (r_4 : ByteArray) (h : Hp)  (K : Value → Hp → Prop) : r50_Insert_b0 t_0 t_0L t_0C t_1 t_1L t_1C t_2 r_0 r_1 r_2 r_3 r_4 h  K = (
  New h (.cells #[.slice t_0 t_0L t_0C, .slice t_1 t_1L t_1C, .int .i64 t_2] 29) fun b1 h1 =>
  New h1 (.cells #[.int .i64 r_0, .int .i64 r_1, .int .i64 r_2, .int .i64 r_3, .string r_4] 46) fun b2 h2 =>
  New h2 (.cells #[.slice none 0 0, .slice none 0 0, .int .i64 0] 29) fun b3 h3 =>
  ∃ n1 : Int, ∃ n2 : Int, ∃ n3 : Int, ∃ n4 : Int, ∃ s1 : ByteArray, cell h3 ⟨b2, 0, none⟩ = some (.int .i64 n1) ∧
  cell h3 ((⟨b2, 0, none⟩ : Addr).add 1) = some (.int .i64 n2) ∧
  cell h3 ((⟨b2, 0, none⟩ : Addr).add 2) = some (.int .i64 n3) ∧
  cell h3 ((⟨b2, 0, none⟩ : Addr).add 3) = some (.int .i64 n4) ∧
  cell h3 ((⟨b2, 0, none⟩ : Addr).add 4) = some (.string s1) ∧
  HCalls Try.prog 28 #[.agg #[.int .i64 n1, .int .i64 n2, .int .i64 n3, .int .i64 n4, .string s1]] h3 fun v1 h4 => ∃ r1 : Bool, v1 = .bool r1 ∧
  cond (!r1)
  (∃ (a1 : Option Addr) (L1 C1 : Nat), ∃ (a2 : Option Addr) (L2 C2 : Nat), ∃ n5 : Int, cell h4 ⟨b1, 0, none⟩ = some (.slice a1 L1 C1) ∧
  cell h4 ((⟨b1, 0, none⟩ : Addr).add 1) = some (.slice a2 L2 C2) ∧
  cell h4 ((⟨b1, 0, none⟩ : Addr).add 2) = some (.int .i64 n5) ∧
  Wr h4 ⟨b3, 0, none⟩ (.slice a1 L1 C1) fun h5 =>
  Wr h5 ((⟨b3, 0, none⟩ : Addr).add 1) (.slice a2 L2 C2) fun h6 =>
  Wr h6 ((⟨b3, 0, none⟩ : Addr).add 2) (.int .i64 n5) fun h7 =>
  ∃ (r2 : Option Addr) (rL1 rC1 : Nat), ∃ (r3 : Option Addr) (rL2 rC2 : Nat), ∃ r4 : Int, cell h7 ⟨b3, 0, none⟩ = some (.slice r2 rL1 rC1) ∧
  cell h7 ((⟨b3, 0, none⟩ : Addr).add 1) = some (.slice r3 rL2 rC2) ∧
  cell h7 ((⟨b3, 0, none⟩ : Addr).add 2) = some (.int .i64 r4) ∧
  K (.tuple #[.agg #[.slice r2 rL1 rC1, .slice r3 rL2 rC2, .int .i64 r4], .int .i64 0, .int .i64 1]) h7)
  (∃ (a3 : Option Addr) (L3 C3 : Nat), ∃ (a4 : Option Addr) (L4 C4 : Nat), ∃ n6 : Int, cell h4 ⟨b1, 0, none⟩ = some (.slice a3 L3 C3) ∧
  cell h4 ((⟨b1, 0, none⟩ : Addr).add 1) = some (.slice a4 L4 C4) ∧
  cell h4 ((⟨b1, 0, none⟩ : Addr).add 2) = some (.int .i64 n6) ∧
  ∃ n7 : Int, cell h4 ⟨b2, 0, none⟩ = some (.int .i64 n7) ∧
  HCalls Try.prog 76 #[.agg #[.slice a3 L3 C3, .slice a4 L4 C4, .int .i64 n6], .int .i64 n7, .int .i64 (-1)] h4 fun v2 h8 => ∃ r5 : Bool, v2 = .bool r5 ∧
  cond r5
  (∃ (a5 : Option Addr) (L5 C5 : Nat), ∃ (a6 : Option Addr) (L6 C6 : Nat), ∃ n8 : Int, cell h8 ⟨b1, 0, none⟩ = some (.slice a5 L5 C5) ∧
  cell h8 ((⟨b1, 0, none⟩ : Addr).add 1) = some (.slice a6 L6 C6) ∧
  cell h8 ((⟨b1, 0, none⟩ : Addr).add 2) = some (.int .i64 n8) ∧
  Wr h8 ⟨b3, 0, none⟩ (.slice a5 L5 C5) fun h9 =>
  Wr h9 ((⟨b3, 0, none⟩ : Addr).add 1) (.slice a6 L6 C6) fun h10 =>
  Wr h10 ((⟨b3, 0, none⟩ : Addr).add 2) (.int .i64 n8) fun h11 =>
  ∃ (r6 : Option Addr) (rL3 rC3 : Nat), ∃ (r7 : Option Addr) (rL4 rC4 : Nat), ∃ r8 : Int, cell h11 ⟨b3, 0, none⟩ = some (.slice r6 rL3 rC3) ∧
  cell h11 ((⟨b3, 0, none⟩ : Addr).add 1) = some (.slice r7 rL4 rC4) ∧
  cell h11 ((⟨b3, 0, none⟩ : Addr).add 2) = some (.int .i64 r8) ∧
  K (.tuple #[.agg #[.slice r6 rL3 rC3, .slice r7 rL4 rC4, .int .i64 r8], .int .i64 0, .int .i64 15]) h11)
  (∃ (a7 : Option Addr) (L7 C7 : Nat), cell h8 ⟨b1, 0, none⟩ = some (.slice a7 L7 C7) ∧
  cond (decide ((1000 : Int) ≤ (L7 : Int)))
  (∃ (a8 : Option Addr) (L8 C8 : Nat), ∃ (a9 : Option Addr) (L9 C9 : Nat), ∃ n9 : Int, cell h8 ⟨b1, 0, none⟩ = some (.slice a8 L8 C8) ∧
  cell h8 ((⟨b1, 0, none⟩ : Addr).add 1) = some (.slice a9 L9 C9) ∧
  cell h8 ((⟨b1, 0, none⟩ : Addr).add 2) = some (.int .i64 n9) ∧
  Wr h8 ⟨b3, 0, none⟩ (.slice a8 L8 C8) fun h12 =>
  Wr h12 ((⟨b3, 0, none⟩ : Addr).add 1) (.slice a9 L9 C9) fun h13 =>
  Wr h13 ((⟨b3, 0, none⟩ : Addr).add 2) (.int .i64 n9) fun h14 =>
  ∃ (r9 : Option Addr) (rL5 rC5 : Nat), ∃ (r10 : Option Addr) (rL6 rC6 : Nat), ∃ r11 : Int, cell h14 ⟨b3, 0, none⟩ = some (.slice r9 rL5 rC5) ∧
  cell h14 ((⟨b3, 0, none⟩ : Addr).add 1) = some (.slice r10 rL6 rC6) ∧
  cell h14 ((⟨b3, 0, none⟩ : Addr).add 2) = some (.int .i64 r11) ∧
  K (.tuple #[.agg #[.slice r9 rL5 rC5, .slice r10 rL6 rC6, .int .i64 r11], .int .i64 0, .int .i64 4]) h14)
  (∃ n10 : Int, cell h8 ((⟨b1, 0, none⟩ : Addr).add 2) = some (.int .i64 n10) ∧
  New h8 (.cells #[] 3) fun b4 h15 =>
  ∃ (a10 : Option Addr) (L10 C10 : Nat), cell h15 ⟨b1, 0, none⟩ = some (.slice a10 L10 C10) ∧
  appendV Try.prog 26 26 (.slice (some ⟨b4, 0, none⟩) 0 0) (.slice a10 L10 C10) h15 (slK fun a11 l1 c1 h16 =>
  New h16 (.cells #[.int .i64 n10] 3) fun b5 h17 =>
  appendV Try.prog 26 26 (.slice a11 l1 c1) (.slice (some ⟨b5, 0, none⟩) 1 1) h17 (slK fun a12 l2 c2 h18 =>
  Wr h18 ⟨b1, 0, none⟩ (.slice a12 l2 c2) fun h19 =>
  ∃ (a13 : Option Addr) (L11 C11 : Nat), cell h19 ((⟨b1, 0, none⟩ : Addr).add 1) = some (.slice a13 L11 C11) ∧
  ∃ n11 : Int, ∃ n12 : Int, ∃ n13 : Int, ∃ n14 : Int, ∃ s2 : ByteArray, cell h19 ⟨b2, 0, none⟩ = some (.int .i64 n11) ∧
  cell h19 ((⟨b2, 0, none⟩ : Addr).add 1) = some (.int .i64 n12) ∧
  cell h19 ((⟨b2, 0, none⟩ : Addr).add 2) = some (.int .i64 n13) ∧
  cell h19 ((⟨b2, 0, none⟩ : Addr).add 3) = some (.int .i64 n14) ∧
  cell h19 ((⟨b2, 0, none⟩ : Addr).add 4) = some (.string s2) ∧
  (New h19 (.cells #[] 46) fun b6 h20 =>
  (∃ n15 : Int, ∃ n16 : Int, ∃ n17 : Int, ∃ n18 : Int, ∃ s3 : ByteArray, cell h20 ⟨b2, 0, none⟩ = some (.int .i64 n15) ∧
  cell h20 ((⟨b2, 0, none⟩ : Addr).add 1) = some (.int .i64 n16) ∧
  cell h20 ((⟨b2, 0, none⟩ : Addr).add 2) = some (.int .i64 n17) ∧
  cell h20 ((⟨b2, 0, none⟩ : Addr).add 3) = some (.int .i64 n18) ∧
  cell h20 ((⟨b2, 0, none⟩ : Addr).add 4) = some (.string s3) ∧
  (.agg #[.int .i64 n15, .int .i64 n16, .int .i64 n17, .int .i64 n18, .string s3] : Value) = .agg #[.int .i64 n11, .int .i64 n12, .int .i64 n13, .int .i64 n14, .string s2]) ∧
  (∃ (a14 : Option Addr) (L12 C12 : Nat), cell h20 ((⟨b1, 0, none⟩ : Addr).add 1) = some (.slice a14 L12 C12) ∧
  (.slice a14 L12 C12 : Value) = .slice a13 L11 C11) ∧
  (appendV Try.prog 27 27 (.slice (some ⟨b6, 0, none⟩) 0 0) (.slice a13 L11 C11) h20 (slK fun a15 l3 c3 h21 =>
  (∃ n19 : Int, ∃ n20 : Int, ∃ n21 : Int, ∃ n22 : Int, ∃ s4 : ByteArray, cell h21 ⟨b2, 0, none⟩ = some (.int .i64 n19) ∧
  cell h21 ((⟨b2, 0, none⟩ : Addr).add 1) = some (.int .i64 n20) ∧
  cell h21 ((⟨b2, 0, none⟩ : Addr).add 2) = some (.int .i64 n21) ∧
  cell h21 ((⟨b2, 0, none⟩ : Addr).add 3) = some (.int .i64 n22) ∧
  cell h21 ((⟨b2, 0, none⟩ : Addr).add 4) = some (.string s4) ∧
  (.agg #[.int .i64 n19, .int .i64 n20, .int .i64 n21, .int .i64 n22, .string s4] : Value) = .agg #[.int .i64 n11, .int .i64 n12, .int .i64 n13, .int .i64 n14, .string s2]) ∧
  New h21 (.cells #[.int .i64 n11, .int .i64 n12, .int .i64 n13, .int .i64 n14, .string s2] 46) fun b7 h22 =>
  appendV Try.prog 27 27 (.slice a15 l3 c3) (.slice (some ⟨b7, 0, none⟩) 1 1) h22 (slK fun a16 l4 c4 h23 =>
  Wr h23 ((⟨b1, 0, none⟩ : Addr).add 1) (.slice a16 l4 c4) fun h24 =>
  r50_Insert_b1 (some ⟨b1, 0, none⟩) (some ⟨b3, 0, none⟩) n10 h24  K))) ∧
  (New h20 (.cells #[.int .i64 n11, .int .i64 n12, .int .i64 n13, .int .i64 n14, .string s2] 46) fun b8 h25 =>
  (∃ (a17 : Option Addr) (L13 C13 : Nat), cell h25 ((⟨b1, 0, none⟩ : Addr).add 1) = some (.slice a17 L13 C13) ∧
  (.slice a17 L13 C13 : Value) = .slice a13 L11 C11) ∧
  appendV Try.prog 27 27 (.slice (some ⟨b6, 0, none⟩) 0 0) (.slice a13 L11 C11) h25 (slK fun a18 l5 c5 h26 =>
  appendV Try.prog 27 27 (.slice a18 l5 c5) (.slice (some ⟨b8, 0, none⟩) 1 1) h26 (slK fun a19 l6 c6 h27 =>
  Wr h27 ((⟨b1, 0, none⟩ : Addr).add 1) (.slice a19 l6 c6) fun h28 =>
  r50_Insert_b1 (some ⟨b1, 0, none⟩) (some ⟨b3, 0, none⟩) n10 h28  K)))) ∧
  (New h19 (.cells #[.int .i64 n11, .int .i64 n12, .int .i64 n13, .int .i64 n14, .string s2] 46) fun b9 h29 =>
  (∃ (a20 : Option Addr) (L14 C14 : Nat), cell h29 ((⟨b1, 0, none⟩ : Addr).add 1) = some (.slice a20 L14 C14) ∧
  (.slice a20 L14 C14 : Value) = .slice a13 L11 C11) ∧
  New h29 (.cells #[] 46) fun b10 h30 =>
  (∃ (a21 : Option Addr) (L15 C15 : Nat), cell h30 ((⟨b1, 0, none⟩ : Addr).add 1) = some (.slice a21 L15 C15) ∧
  (.slice a21 L15 C15 : Value) = .slice a13 L11 C11) ∧
  appendV Try.prog 27 27 (.slice (some ⟨b10, 0, none⟩) 0 0) (.slice a13 L11 C11) h30 (slK fun a22 l7 c7 h31 =>
  appendV Try.prog 27 27 (.slice a22 l7 c7) (.slice (some ⟨b9, 0, none⟩) 1 1) h31 (slK fun a23 l8 c8 h32 =>
  Wr h32 ((⟨b1, 0, none⟩ : Addr).add 1) (.slice a23 l8 c8) fun h33 =>
  r50_Insert_b1 (some ⟨b1, 0, none⟩) (some ⟨b3, 0, none⟩) n10 h33  K))))))))) := by kernel_rfl
theorem r50_Insert_b1_eq (t : Option Addr) (t4 : Option Addr) (id : Int) (h : Hp)  (K : Value → Hp → Prop) : r50_Insert_b1 t t4 id h  K = (
  InR (id + 1) ∧
  NN t fun a24 =>
  Wr h (a24.add 2) (.int .i64 (id + 1)) fun h34 =>
  NN t fun a25 =>
  ∃ (a26 : Option Addr) (L16 C16 : Nat), ∃ (a27 : Option Addr) (L17 C17 : Nat), ∃ n23 : Int, cell h34 a25 = some (.slice a26 L16 C16) ∧
  cell h34 (a25.add 1) = some (.slice a27 L17 C17) ∧
  cell h34 (a25.add 2) = some (.int .i64 n23) ∧
  NN t4 fun a28 =>
  Wr h34 a28 (.slice a26 L16 C16) fun h35 =>
  Wr h35 (a28.add 1) (.slice a27 L17 C17) fun h36 =>
  Wr h36 (a28.add 2) (.int .i64 n23) fun h37 =>
  NN t4 fun a29 =>
  ∃ (r12 : Option Addr) (rL7 rC7 : Nat), ∃ (r13 : Option Addr) (rL8 rC8 : Nat), ∃ r14 : Int, cell h37 a29 = some (.slice r12 rL7 rC7) ∧
  cell h37 (a29.add 1) = some (.slice r13 rL8 rC8) ∧
  cell h37 (a29.add 2) = some (.int .i64 r14) ∧
  K (.tuple #[.agg #[.slice r12 rL7 rC7, .slice r13 rL8 rC8, .int .i64 r14], .int .i64 id, .int .i64 0]) h37) := by kernel_rfl
theorem r50_Insert_call {t_0 : Option Addr} {t_0L : Nat} {t_0C : Nat} {t_1 : Option Addr} {t_1L : Nat} {t_1C : Nat} {t_2 : Int} {r_0 : Int} {r_1 : Int} {r_2 : Int} {r_3 : Int} {r_4 : ByteArray} {h : Hp} {K : Value → Hp → Prop} (hk : r50_Insert_b0 t_0 t_0L t_0C t_1 t_1L t_1C t_2 r_0 r_1 r_2 r_3 r_4 h K) : HCalls Try.prog 62 #[.agg #[.slice t_0 t_0L t_0C, .slice t_1 t_1L t_1C, .int .i64 t_2], .agg #[.int .i64 r_0, .int .i64 r_1, .int .i64 r_2, .int .i64 r_3, .string r_4]] h K :=
  calls_of_snd r50_Insert_an Try.func62 (c := bodyOf Try.f62) rfl Try.ntmps62 (Nat.le_of_ble_eq_true rfl) (snd_2 F_ok F_mixed) hk

/-! ### r50_Update -/
def r50_Update_an : Ann := .leaf
def r50_Update_K0  (K : Value → Hp → Prop) : Exit → Env → Hp → Prop := retK Try.prog Try.f63.results.toList K
def r50_Update_b0 (t_0 : Option Addr) (t_0L : Nat) (t_0C : Nat) (t_1 : Option Addr) (t_1L : Nat) (t_1C : Nat) (t_2 : Int) (id : Int) (r_0 : Int) (r_1 : Int) (r_2 : Int) (r_3 : Int) (r_4 : ByteArray) (h : Hp)  (K : Value → Hp → Prop) : Prop :=
  sx_1 Try.prog F 36 (cp [] (bodyOf Try.f63)) (ap [] r50_Update_an) [(0, .agg #[.slice t_0 t_0L t_0C, .slice t_1 t_1L t_1C, .int .i64 t_2]), (1, .int .i64 id), (2, .agg #[.int .i64 r_0, .int .i64 r_1, .int .i64 r_2, .int .i64 r_3, .string r_4])] h (r50_Update_K0  K)
theorem r50_Update_b0_eq (t_0 : Option Addr) (t_0L : Nat) (t_0C : Nat) (t_1 : Option Addr) (t_1L : Nat) (t_1C : Nat) (t_2 : Int) (id : Int) (r_0 : Int) (r_1 : Int) (r_2 : Int) (r_3 : Int) (r_4 : ByteArray) (h : Hp)  (K : Value → Hp → Prop) : r50_Update_b0 t_0 t_0L t_0C t_1 t_1L t_1C t_2 id r_0 r_1 r_2 r_3 r_4 h  K = (
  New h (.cells #[.slice t_0 t_0L t_0C, .slice t_1 t_1L t_1C, .int .i64 t_2] 29) fun b1 h1 =>
  New h1 (.cells #[.int .i64 r_0, .int .i64 r_1, .int .i64 r_2, .int .i64 r_3, .string r_4] 46) fun b2 h2 =>
  New h2 (.cells #[.slice none 0 0, .slice none 0 0, .int .i64 0] 29) fun b3 h3 =>
  ∃ n1 : Int, ∃ n2 : Int, ∃ n3 : Int, ∃ n4 : Int, ∃ s1 : ByteArray, cell h3 ⟨b2, 0, none⟩ = some (.int .i64 n1) ∧
  cell h3 ((⟨b2, 0, none⟩ : Addr).add 1) = some (.int .i64 n2) ∧
  cell h3 ((⟨b2, 0, none⟩ : Addr).add 2) = some (.int .i64 n3) ∧
  cell h3 ((⟨b2, 0, none⟩ : Addr).add 3) = some (.int .i64 n4) ∧
  cell h3 ((⟨b2, 0, none⟩ : Addr).add 4) = some (.string s1) ∧
  HCalls Try.prog 28 #[.agg #[.int .i64 n1, .int .i64 n2, .int .i64 n3, .int .i64 n4, .string s1]] h3 fun v1 h4 => ∃ r1 : Bool, v1 = .bool r1 ∧
  cond (!r1)
  (∃ (a1 : Option Addr) (L1 C1 : Nat), ∃ (a2 : Option Addr) (L2 C2 : Nat), ∃ n5 : Int, cell h4 ⟨b1, 0, none⟩ = some (.slice a1 L1 C1) ∧
  cell h4 ((⟨b1, 0, none⟩ : Addr).add 1) = some (.slice a2 L2 C2) ∧
  cell h4 ((⟨b1, 0, none⟩ : Addr).add 2) = some (.int .i64 n5) ∧
  Wr h4 ⟨b3, 0, none⟩ (.slice a1 L1 C1) fun h5 =>
  Wr h5 ((⟨b3, 0, none⟩ : Addr).add 1) (.slice a2 L2 C2) fun h6 =>
  Wr h6 ((⟨b3, 0, none⟩ : Addr).add 2) (.int .i64 n5) fun h7 =>
  ∃ (r2 : Option Addr) (rL1 rC1 : Nat), ∃ (r3 : Option Addr) (rL2 rC2 : Nat), ∃ r4 : Int, cell h7 ⟨b3, 0, none⟩ = some (.slice r2 rL1 rC1) ∧
  cell h7 ((⟨b3, 0, none⟩ : Addr).add 1) = some (.slice r3 rL2 rC2) ∧
  cell h7 ((⟨b3, 0, none⟩ : Addr).add 2) = some (.int .i64 r4) ∧
  K (.tuple #[.agg #[.slice r2 rL1 rC1, .slice r3 rL2 rC2, .int .i64 r4], .int .i64 1]) h7)
  (∃ (a3 : Option Addr) (L3 C3 : Nat), ∃ (a4 : Option Addr) (L4 C4 : Nat), ∃ n6 : Int, cell h4 ⟨b1, 0, none⟩ = some (.slice a3 L3 C3) ∧
  cell h4 ((⟨b1, 0, none⟩ : Addr).add 1) = some (.slice a4 L4 C4) ∧
  cell h4 ((⟨b1, 0, none⟩ : Addr).add 2) = some (.int .i64 n6) ∧
  HCalls Try.prog 31 #[.agg #[.slice a3 L3 C3, .slice a4 L4 C4, .int .i64 n6], .int .i64 id] h4 fun v2 h8 => ∃ r5 : Int, v2 = .int .i64 r5 ∧
  cond (decide (r5 < 0))
  (∃ (a5 : Option Addr) (L5 C5 : Nat), ∃ (a6 : Option Addr) (L6 C6 : Nat), ∃ n7 : Int, cell h8 ⟨b1, 0, none⟩ = some (.slice a5 L5 C5) ∧
  cell h8 ((⟨b1, 0, none⟩ : Addr).add 1) = some (.slice a6 L6 C6) ∧
  cell h8 ((⟨b1, 0, none⟩ : Addr).add 2) = some (.int .i64 n7) ∧
  Wr h8 ⟨b3, 0, none⟩ (.slice a5 L5 C5) fun h9 =>
  Wr h9 ((⟨b3, 0, none⟩ : Addr).add 1) (.slice a6 L6 C6) fun h10 =>
  Wr h10 ((⟨b3, 0, none⟩ : Addr).add 2) (.int .i64 n7) fun h11 =>
  ∃ (r6 : Option Addr) (rL3 rC3 : Nat), ∃ (r7 : Option Addr) (rL4 rC4 : Nat), ∃ r8 : Int, cell h11 ⟨b3, 0, none⟩ = some (.slice r6 rL3 rC3) ∧
  cell h11 ((⟨b3, 0, none⟩ : Addr).add 1) = some (.slice r7 rL4 rC4) ∧
  cell h11 ((⟨b3, 0, none⟩ : Addr).add 2) = some (.int .i64 r8) ∧
  K (.tuple #[.agg #[.slice r6 rL3 rC3, .slice r7 rL4 rC4, .int .i64 r8], .int .i64 12]) h11)
  (∃ (a7 : Option Addr) (L7 C7 : Nat), ∃ (a8 : Option Addr) (L8 C8 : Nat), ∃ n8 : Int, cell h8 ⟨b1, 0, none⟩ = some (.slice a7 L7 C7) ∧
  cell h8 ((⟨b1, 0, none⟩ : Addr).add 1) = some (.slice a8 L8 C8) ∧
  cell h8 ((⟨b1, 0, none⟩ : Addr).add 2) = some (.int .i64 n8) ∧
  ∃ n9 : Int, cell h8 ⟨b2, 0, none⟩ = some (.int .i64 n9) ∧
  HCalls Try.prog 76 #[.agg #[.slice a7 L7 C7, .slice a8 L8 C8, .int .i64 n8], .int .i64 n9, .int .i64 id] h8 fun v3 h12 => ∃ r9 : Bool, v3 = .bool r9 ∧
  cond r9
  (∃ (a9 : Option Addr) (L9 C9 : Nat), ∃ (a10 : Option Addr) (L10 C10 : Nat), ∃ n10 : Int, cell h12 ⟨b1, 0, none⟩ = some (.slice a9 L9 C9) ∧
  cell h12 ((⟨b1, 0, none⟩ : Addr).add 1) = some (.slice a10 L10 C10) ∧
  cell h12 ((⟨b1, 0, none⟩ : Addr).add 2) = some (.int .i64 n10) ∧
  Wr h12 ⟨b3, 0, none⟩ (.slice a9 L9 C9) fun h13 =>
  Wr h13 ((⟨b3, 0, none⟩ : Addr).add 1) (.slice a10 L10 C10) fun h14 =>
  Wr h14 ((⟨b3, 0, none⟩ : Addr).add 2) (.int .i64 n10) fun h15 =>
  ∃ (r10 : Option Addr) (rL5 rC5 : Nat), ∃ (r11 : Option Addr) (rL6 rC6 : Nat), ∃ r12 : Int, cell h15 ⟨b3, 0, none⟩ = some (.slice r10 rL5 rC5) ∧
  cell h15 ((⟨b3, 0, none⟩ : Addr).add 1) = some (.slice r11 rL6 rC6) ∧
  cell h15 ((⟨b3, 0, none⟩ : Addr).add 2) = some (.int .i64 r12) ∧
  K (.tuple #[.agg #[.slice r10 rL5 rC5, .slice r11 rL6 rC6, .int .i64 r12], .int .i64 15]) h15)
  (New h12 (.cells #[] 46) fun b4 h16 =>
  ∃ (a11 : Option Addr) (L11 C11 : Nat), cell h16 ((⟨b1, 0, none⟩ : Addr).add 1) = some (.slice a11 L11 C11) ∧
  appendV Try.prog 27 27 (.slice (some ⟨b4, 0, none⟩) 0 0) (.slice a11 L11 C11) h16 (slK fun a12 l1 c1 h17 =>
  Wr h17 ((⟨b1, 0, none⟩ : Addr).add 1) (.slice a12 l1 c1) fun h18 =>
  ∃ (a13 : Option Addr) (L12 C12 : Nat), cell h18 ((⟨b1, 0, none⟩ : Addr).add 1) = some (.slice a13 L12 C12) ∧
  ∃ n11 : Int, ∃ n12 : Int, ∃ n13 : Int, ∃ n14 : Int, ∃ s2 : ByteArray, cell h18 ⟨b2, 0, none⟩ = some (.int .i64 n11) ∧
  cell h18 ((⟨b2, 0, none⟩ : Addr).add 1) = some (.int .i64 n12) ∧
  cell h18 ((⟨b2, 0, none⟩ : Addr).add 2) = some (.int .i64 n13) ∧
  cell h18 ((⟨b2, 0, none⟩ : Addr).add 3) = some (.int .i64 n14) ∧
  cell h18 ((⟨b2, 0, none⟩ : Addr).add 4) = some (.string s2) ∧
  (0 ≤ r5 ∧ r5 < (L12 : Int)) ∧
  NN a13 fun a14 =>
  Wr h18 (a14.add (Int.toNat r5 * 5)) (.int .i64 n11) fun h19 =>
  Wr h19 ((a14.add (Int.toNat r5 * 5)).add 1) (.int .i64 n12) fun h20 =>
  Wr h20 ((a14.add (Int.toNat r5 * 5)).add 2) (.int .i64 n13) fun h21 =>
  Wr h21 ((a14.add (Int.toNat r5 * 5)).add 3) (.int .i64 n14) fun h22 =>
  Wr h22 ((a14.add (Int.toNat r5 * 5)).add 4) (.string s2) fun h23 =>
  ∃ (a15 : Option Addr) (L13 C13 : Nat), ∃ (a16 : Option Addr) (L14 C14 : Nat), ∃ n15 : Int, cell h23 ⟨b1, 0, none⟩ = some (.slice a15 L13 C13) ∧
  cell h23 ((⟨b1, 0, none⟩ : Addr).add 1) = some (.slice a16 L14 C14) ∧
  cell h23 ((⟨b1, 0, none⟩ : Addr).add 2) = some (.int .i64 n15) ∧
  Wr h23 ⟨b3, 0, none⟩ (.slice a15 L13 C13) fun h24 =>
  Wr h24 ((⟨b3, 0, none⟩ : Addr).add 1) (.slice a16 L14 C14) fun h25 =>
  Wr h25 ((⟨b3, 0, none⟩ : Addr).add 2) (.int .i64 n15) fun h26 =>
  ∃ (r13 : Option Addr) (rL7 rC7 : Nat), ∃ (r14 : Option Addr) (rL8 rC8 : Nat), ∃ r15 : Int, cell h26 ⟨b3, 0, none⟩ = some (.slice r13 rL7 rC7) ∧
  cell h26 ((⟨b3, 0, none⟩ : Addr).add 1) = some (.slice r14 rL8 rC8) ∧
  cell h26 ((⟨b3, 0, none⟩ : Addr).add 2) = some (.int .i64 r15) ∧
  K (.tuple #[.agg #[.slice r13 rL7 rC7, .slice r14 rL8 rC8, .int .i64 r15], .int .i64 0]) h26))))) := by kernel_rfl
theorem r50_Update_call {t_0 : Option Addr} {t_0L : Nat} {t_0C : Nat} {t_1 : Option Addr} {t_1L : Nat} {t_1C : Nat} {t_2 : Int} {id : Int} {r_0 : Int} {r_1 : Int} {r_2 : Int} {r_3 : Int} {r_4 : ByteArray} {h : Hp} {K : Value → Hp → Prop} (hk : r50_Update_b0 t_0 t_0L t_0C t_1 t_1L t_1C t_2 id r_0 r_1 r_2 r_3 r_4 h K) : HCalls Try.prog 63 #[.agg #[.slice t_0 t_0L t_0C, .slice t_1 t_1L t_1C, .int .i64 t_2], .int .i64 id, .agg #[.int .i64 r_0, .int .i64 r_1, .int .i64 r_2, .int .i64 r_3, .string r_4]] h K :=
  calls_of_snd r50_Update_an Try.func63 (c := bodyOf Try.f63) rfl Try.ntmps63 (Nat.le_of_ble_eq_true rfl) (snd_1 F_ok F_mixed) hk

/-! ### table_Table_Update -/
def table_Table_Update_an : Ann := .node none (.leaf) (.node (some [0, 1, 5]) (.leaf) (.node none (.leaf) (.node (some [0, 1, 5]) (.node none (.plan (.qu 0 (.qu 1 (.qu 2 (.qu 3 (.qu 4 (.qu 5 (.wo 6 (.qu 7 (.qu 8 (.qu 9 (.wo 10 (.wo 11 .fin .no) .no)))) .no)))))))) (.leaf)) (.leaf))))
def table_Table_Update_K0  (K : Value → Hp → Prop) : Exit → Env → Hp → Prop := retK Try.prog Try.f64.results.toList K
def table_Table_Update_b0 (t : Option Addr) (id : Int) (r_0 : Int) (r_1 : Int) (r_2 : Int) (r_3 : Int) (r_4 : ByteArray) (h : Hp)  (K : Value → Hp → Prop) : Prop :=
  sx_3 Try.prog F 48 (cp [] (bodyOf Try.f64)) (ap [] table_Table_Update_an) [(0, .pointer t), (1, .int .i64 id), (2, .agg #[.int .i64 r_0, .int .i64 r_1, .int .i64 r_2, .int .i64 r_3, .string r_4])] h (table_Table_Update_K0  K)
def table_Table_Update_b1 (t : Option Addr) (id : Int) (r : Option Addr) (h : Hp)  (K : Value → Hp → Prop) : Prop :=
  sx_2 Try.prog F 48 (cp [1, 1] (bodyOf Try.f64)) (ap [1, 1] table_Table_Update_an) [(0, .pointer t), (1, .int .i64 id), (5, .pointer r)] h (table_Table_Update_K0  K)
def table_Table_Update_b2 (t : Option Addr) (id : Int) (r : Option Addr) (h : Hp)  (K : Value → Hp → Prop) : Prop :=
  sx_1 Try.prog F 48 (cp [1, 1, 1, 1] (bodyOf Try.f64)) (ap [1, 1, 1, 1] table_Table_Update_an) [(0, .pointer t), (1, .int .i64 id), (5, .pointer r)] h (table_Table_Update_K0  K)
theorem table_Table_Update_b0_eq (t : Option Addr) (id : Int) (r_0 : Int) (r_1 : Int) (r_2 : Int) (r_3 : Int) (r_4 : ByteArray) (h : Hp)  (K : Value → Hp → Prop) : table_Table_Update_b0 t id r_0 r_1 r_2 r_3 r_4 h  K = (
  New h (.cells #[.int .i64 r_0, .int .i64 r_1, .int .i64 r_2, .int .i64 r_3, .string r_4] 46) fun b1 h1 =>
  cond t.isNone
  (K (.int .i64 1) h1)
  (∃ n1 : Int, ∃ n2 : Int, ∃ n3 : Int, ∃ n4 : Int, ∃ s1 : ByteArray, cell h1 ⟨b1, 0, none⟩ = some (.int .i64 n1) ∧
  cell h1 ((⟨b1, 0, none⟩ : Addr).add 1) = some (.int .i64 n2) ∧
  cell h1 ((⟨b1, 0, none⟩ : Addr).add 2) = some (.int .i64 n3) ∧
  cell h1 ((⟨b1, 0, none⟩ : Addr).add 3) = some (.int .i64 n4) ∧
  cell h1 ((⟨b1, 0, none⟩ : Addr).add 4) = some (.string s1) ∧
  HCalls Try.prog 27 #[.agg #[.int .i64 n1, .int .i64 n2, .int .i64 n3, .int .i64 n4, .string s1]] h1 fun v1 h2 => ∃ r1 : Bool, v1 = .bool r1 ∧
  cond (!r1)
  (K (.int .i64 1) h2)
  (table_Table_Update_b1 t id (some ⟨b1, 0, none⟩) h2  K))) := by kernel_rfl
theorem table_Table_Update_b1_eq (t : Option Addr) (id : Int) (r : Option Addr) (h : Hp)  (K : Value → Hp → Prop) : table_Table_Update_b1 t id r h  K = (
  NN t fun a1 =>
  ∃ v2 : Value, cell h a1 = some (v2) ∧
  lookV Try.prog 75 v2 (.int .i64 id) false h fun v3 => ∃ r2 : Option Addr, v3 = .pointer r2 ∧
  cond r2.isNone
  (K (.int .i64 12) h)
  (NN t fun a2 =>
  ∃ v4 : Value, cell h (a2.add 1) = some (v4) ∧
  NN r fun a3 =>
  ∃ n5 : Int, cell h a3 = some (.int .i64 n5) ∧
  lookV Try.prog 76 v4 (.int .i64 n5) true h fun v5 => ∃ r3 : Int, ∃ r4 : Bool, v5 = .tuple #[.int .i64 r3, .bool r4] ∧
  cond r4
  (cond (!decide (r3 = id))
  (K (.int .i64 15) h)
  (table_Table_Update_b2 t id r h  K))
  (table_Table_Update_b2 t id r h  K))) := by kernel_rfl
theorem table_Table_Update_b2_eq (t : Option Addr) (id : Int) (r : Option Addr) (h : Hp)  (K : Value → Hp → Prop) : table_Table_Update_b2 t id r h  K = (
  HCalls Try.prog 54 #[.pointer t, .int .i64 id] h fun v6 h3 => v6 = .tuple #[] ∧
  NN r fun a4 =>
  ∃ n6 : Int, ∃ n7 : Int, ∃ n8 : Int, ∃ n9 : Int, ∃ s2 : ByteArray, cell h3 a4 = some (.int .i64 n6) ∧
  cell h3 (a4.add 1) = some (.int .i64 n7) ∧
  cell h3 (a4.add 2) = some (.int .i64 n8) ∧
  cell h3 (a4.add 3) = some (.int .i64 n9) ∧
  cell h3 (a4.add 4) = some (.string s2) ∧
  HCalls Try.prog 55 #[.pointer t, .int .i64 id, .agg #[.int .i64 n6, .int .i64 n7, .int .i64 n8, .int .i64 n9, .string s2]] h3 fun v7 h4 => v7 = .tuple #[] ∧
  HCalls Try.prog 56 #[.pointer t] h4 fun v8 h5 => v8 = .tuple #[] ∧
  K (.int .i64 0) h5) := by kernel_rfl
theorem table_Table_Update_call {t : Option Addr} {id : Int} {r_0 : Int} {r_1 : Int} {r_2 : Int} {r_3 : Int} {r_4 : ByteArray} {h : Hp} {K : Value → Hp → Prop} (hk : table_Table_Update_b0 t id r_0 r_1 r_2 r_3 r_4 h K) : HCalls Try.prog 64 #[.pointer t, .int .i64 id, .agg #[.int .i64 r_0, .int .i64 r_1, .int .i64 r_2, .int .i64 r_3, .string r_4]] h K :=
  calls_of_snd table_Table_Update_an Try.func64 (c := bodyOf Try.f64) rfl Try.ntmps64 (Nat.le_of_ble_eq_true rfl) (snd_3 F_ok F_mixed) hk

/-! ### r50_Delete -/
def r50_Delete_an : Ann := .node none (.leaf) (.node none (.leaf) (.node none (.leaf) (.node none (.plan (.qu 1 (.qu 2 (.qu 3 (.qu 4 (.qu 6 (.qu 7 (.qu 8 (.qu 9 (.qu 10 (.wo 0 (.wo 5 (.wo 11 (.qu 12 (.wo 13 .fin .no)) .no) .no) .no))))))))))) (.node none (.plan (.qu 1 (.qu 2 (.qu 3 (.qu 4 (.qu 6 (.qu 7 (.qu 8 (.qu 9 (.qu 10 (.wo 0 (.wo 5 (.wo 11 (.qu 12 (.wo 13 .fin .no)) .no) .no) .no))))))))))) (.leaf)))))
def r50_Delete_K0  (K : Value → Hp → Prop) : Exit → Env → Hp → Prop := retK Try.prog Try.f65.results.toList K
def r50_Delete_b0 (t_0 : Option Addr) (t_0L : Nat) (t_0C : Nat) (t_1 : Option Addr) (t_1L : Nat) (t_1C : Nat) (t_2 : Int) (id : Int) (h : Hp)  (K : Value → Hp → Prop) : Prop :=
  sx_1 Try.prog F 40 (cp [] (bodyOf Try.f65)) (ap [] r50_Delete_an) [(0, .agg #[.slice t_0 t_0L t_0C, .slice t_1 t_1L t_1C, .int .i64 t_2]), (1, .int .i64 id)] h (r50_Delete_K0  K)
theorem r50_Delete_b0_eq (t_0 : Option Addr) (t_0L : Nat) (t_0C : Nat) (t_1 : Option Addr) (t_1L : Nat) (t_1C : Nat) (t_2 : Int) (id : Int) (h : Hp)  (K : Value → Hp → Prop) : r50_Delete_b0 t_0 t_0L t_0C t_1 t_1L t_1C t_2 id h  K = (
  New h (.cells #[.slice t_0 t_0L t_0C, .slice t_1 t_1L t_1C, .int .i64 t_2] 29) fun b1 h1 =>
  New h1 (.cells #[.slice none 0 0, .slice none 0 0, .int .i64 0] 29) fun b2 h2 =>
  ∃ (a1 : Option Addr) (L1 C1 : Nat), ∃ (a2 : Option Addr) (L2 C2 : Nat), ∃ n1 : Int, cell h2 ⟨b1, 0, none⟩ = some (.slice a1 L1 C1) ∧
  cell h2 ((⟨b1, 0, none⟩ : Addr).add 1) = some (.slice a2 L2 C2) ∧
  cell h2 ((⟨b1, 0, none⟩ : Addr).add 2) = some (.int .i64 n1) ∧
  HCalls Try.prog 31 #[.agg #[.slice a1 L1 C1, .slice a2 L2 C2, .int .i64 n1], .int .i64 id] h2 fun v1 h3 => ∃ r1 : Int, v1 = .int .i64 r1 ∧
  cond (decide (r1 < 0))
  (∃ (a3 : Option Addr) (L3 C3 : Nat), ∃ (a4 : Option Addr) (L4 C4 : Nat), ∃ n2 : Int, cell h3 ⟨b1, 0, none⟩ = some (.slice a3 L3 C3) ∧
  cell h3 ((⟨b1, 0, none⟩ : Addr).add 1) = some (.slice a4 L4 C4) ∧
  cell h3 ((⟨b1, 0, none⟩ : Addr).add 2) = some (.int .i64 n2) ∧
  Wr h3 ⟨b2, 0, none⟩ (.slice a3 L3 C3) fun h4 =>
  Wr h4 ((⟨b2, 0, none⟩ : Addr).add 1) (.slice a4 L4 C4) fun h5 =>
  Wr h5 ((⟨b2, 0, none⟩ : Addr).add 2) (.int .i64 n2) fun h6 =>
  ∃ (r2 : Option Addr) (rL1 rC1 : Nat), ∃ (r3 : Option Addr) (rL2 rC2 : Nat), ∃ r4 : Int, cell h6 ⟨b2, 0, none⟩ = some (.slice r2 rL1 rC1) ∧
  cell h6 ((⟨b2, 0, none⟩ : Addr).add 1) = some (.slice r3 rL2 rC2) ∧
  cell h6 ((⟨b2, 0, none⟩ : Addr).add 2) = some (.int .i64 r4) ∧
  K (.tuple #[.agg #[.slice r2 rL1 rC1, .slice r3 rL2 rC2, .int .i64 r4], .int .i64 12]) h6)
  (∃ (a5 : Option Addr) (L5 C5 : Nat), cell h3 ⟨b1, 0, none⟩ = some (.slice a5 L5 C5) ∧
  (0 ≤ (0 : Int) ∧ (0 : Int) ≤ r1 ∧ r1 ≤ (C5 : Int)) ∧
  ∃ (a6 : Option Addr) (L6 C6 : Nat), cell h3 ⟨b1, 0, none⟩ = some (.slice a6 L6 C6) ∧
  InR (r1 + 1) ∧
  (0 ≤ r1 + 1 ∧ r1 + 1 ≤ (L6 : Int) ∧ (L6 : Int) ≤ (C6 : Int)) ∧
  New h3 (.cells #[] 3) fun b3 h7 =>
  ((0 ≤ r1 + 1 ∧ r1 + 1 ≤ (L6 : Int) ∧ (L6 : Int) ≤ (C6 : Int)) ∧
  (.slice (subAddr a6 C6 (Int.toNat (r1 + 1)) 1) (Int.toNat (L6 : Int) - Int.toNat (r1 + 1)) (C6 - Int.toNat (r1 + 1)) : Value) = .slice (subAddr a6 C6 (Int.toNat (r1 + 1)) 1) (Int.toNat (L6 : Int) - Int.toNat (r1 + 1)) (C6 - Int.toNat (r1 + 1))) ∧
  (∃ (a7 : Option Addr) (L7 C7 : Nat), cell h7 ⟨b1, 0, none⟩ = some (.slice a7 L7 C7) ∧
  (.slice a7 L7 C7 : Value) = .slice a6 L6 C6) ∧
  ((0 ≤ (0 : Int) ∧ (0 : Int) ≤ r1 ∧ r1 ≤ (C5 : Int)) ∧
  (.slice (subAddr a5 C5 (Int.toNat (0 : Int)) 1) (Int.toNat r1 - Int.toNat (0 : Int)) (C5 - Int.toNat (0 : Int)) : Value) = .slice (subAddr a5 C5 (Int.toNat (0 : Int)) 1) (Int.toNat r1 - Int.toNat (0 : Int)) (C5 - Int.toNat (0 : Int))) ∧
  (∃ (a8 : Option Addr) (L8 C8 : Nat), cell h7 ⟨b1, 0, none⟩ = some (.slice a8 L8 C8) ∧
  (.slice a8 L8 C8 : Value) = .slice a5 L5 C5) ∧
  appendV Try.prog 26 26 (.slice (some ⟨b3, 0, none⟩) 0 0) (.slice (subAddr a5 C5 (Int.toNat (0 : Int)) 1) (Int.toNat r1 - Int.toNat (0 : Int)) (C5 - Int.toNat (0 : Int))) h7 (slK fun a9 l1 c1 h8 =>
  ((0 ≤ r1 + 1 ∧ r1 + 1 ≤ (L6 : Int) ∧ (L6 : Int) ≤ (C6 : Int)) ∧
  (.slice (subAddr a6 C6 (Int.toNat (r1 + 1)) 1) (Int.toNat (L6 : Int) - Int.toNat (r1 + 1)) (C6 - Int.toNat (r1 + 1)) : Value) = .slice (subAddr a6 C6 (Int.toNat (r1 + 1)) 1) (Int.toNat (L6 : Int) - Int.toNat (r1 + 1)) (C6 - Int.toNat (r1 + 1))) ∧
  (∃ (a10 : Option Addr) (L9 C9 : Nat), cell h8 ⟨b1, 0, none⟩ = some (.slice a10 L9 C9) ∧
  (.slice a10 L9 C9 : Value) = .slice a6 L6 C6) ∧
  appendV Try.prog 26 26 (.slice a9 l1 c1) (.slice (subAddr a6 C6 (Int.toNat (r1 + 1)) 1) (Int.toNat (L6 : Int) - Int.toNat (r1 + 1)) (C6 - Int.toNat (r1 + 1))) h8 (slK fun a11 l2 c2 h9 =>
  Wr h9 ⟨b1, 0, none⟩ (.slice a11 l2 c2) fun h10 =>
  ∃ (a12 : Option Addr) (L10 C10 : Nat), cell h10 ((⟨b1, 0, none⟩ : Addr).add 1) = some (.slice a12 L10 C10) ∧
  (0 ≤ (0 : Int) ∧ (0 : Int) ≤ r1 ∧ r1 ≤ (C10 : Int)) ∧
  ∃ (a13 : Option Addr) (L11 C11 : Nat), cell h10 ((⟨b1, 0, none⟩ : Addr).add 1) = some (.slice a13 L11 C11) ∧
  InR (r1 + 1) ∧
  (0 ≤ r1 + 1 ∧ r1 + 1 ≤ (L11 : Int) ∧ (L11 : Int) ≤ (C11 : Int)) ∧
  New h10 (.cells #[] 46) fun b4 h11 =>
  ((0 ≤ r1 + 1 ∧ r1 + 1 ≤ (L11 : Int) ∧ (L11 : Int) ≤ (C11 : Int)) ∧
  (.slice (subAddr a13 C11 (Int.toNat (r1 + 1)) 5) (Int.toNat (L11 : Int) - Int.toNat (r1 + 1)) (C11 - Int.toNat (r1 + 1)) : Value) = .slice (subAddr a13 C11 (Int.toNat (r1 + 1)) 5) (Int.toNat (L11 : Int) - Int.toNat (r1 + 1)) (C11 - Int.toNat (r1 + 1))) ∧
  (∃ (a14 : Option Addr) (L12 C12 : Nat), cell h11 ((⟨b1, 0, none⟩ : Addr).add 1) = some (.slice a14 L12 C12) ∧
  (.slice a14 L12 C12 : Value) = .slice a13 L11 C11) ∧
  ((0 ≤ (0 : Int) ∧ (0 : Int) ≤ r1 ∧ r1 ≤ (C10 : Int)) ∧
  (.slice (subAddr a12 C10 (Int.toNat (0 : Int)) 5) (Int.toNat r1 - Int.toNat (0 : Int)) (C10 - Int.toNat (0 : Int)) : Value) = .slice (subAddr a12 C10 (Int.toNat (0 : Int)) 5) (Int.toNat r1 - Int.toNat (0 : Int)) (C10 - Int.toNat (0 : Int))) ∧
  (∃ (a15 : Option Addr) (L13 C13 : Nat), cell h11 ((⟨b1, 0, none⟩ : Addr).add 1) = some (.slice a15 L13 C13) ∧
  (.slice a15 L13 C13 : Value) = .slice a12 L10 C10) ∧
  appendV Try.prog 27 27 (.slice (some ⟨b4, 0, none⟩) 0 0) (.slice (subAddr a12 C10 (Int.toNat (0 : Int)) 5) (Int.toNat r1 - Int.toNat (0 : Int)) (C10 - Int.toNat (0 : Int))) h11 (slK fun a16 l3 c3 h12 =>
  ((0 ≤ r1 + 1 ∧ r1 + 1 ≤ (L11 : Int) ∧ (L11 : Int) ≤ (C11 : Int)) ∧
  (.slice (subAddr a13 C11 (Int.toNat (r1 + 1)) 5) (Int.toNat (L11 : Int) - Int.toNat (r1 + 1)) (C11 - Int.toNat (r1 + 1)) : Value) = .slice (subAddr a13 C11 (Int.toNat (r1 + 1)) 5) (Int.toNat (L11 : Int) - Int.toNat (r1 + 1)) (C11 - Int.toNat (r1 + 1))) ∧
  (∃ (a17 : Option Addr) (L14 C14 : Nat), cell h12 ((⟨b1, 0, none⟩ : Addr).add 1) = some (.slice a17 L14 C14) ∧
  (.slice a17 L14 C14 : Value) = .slice a13 L11 C11) ∧
  appendV Try.prog 27 27 (.slice a16 l3 c3) (.slice (subAddr a13 C11 (Int.toNat (r1 + 1)) 5) (Int.toNat (L11 : Int) - Int.toNat (r1 + 1)) (C11 - Int.toNat (r1 + 1))) h12 (slK fun a18 l4 c4 h13 =>
  Wr h13 ((⟨b1, 0, none⟩ : Addr).add 1) (.slice a18 l4 c4) fun h14 =>
  ∃ (a19 : Option Addr) (L15 C15 : Nat), ∃ (a20 : Option Addr) (L16 C16 : Nat), ∃ n3 : Int, cell h14 ⟨b1, 0, none⟩ = some (.slice a19 L15 C15) ∧
  cell h14 ((⟨b1, 0, none⟩ : Addr).add 1) = some (.slice a20 L16 C16) ∧
  cell h14 ((⟨b1, 0, none⟩ : Addr).add 2) = some (.int .i64 n3) ∧
  Wr h14 ⟨b2, 0, none⟩ (.slice a19 L15 C15) fun h15 =>
  Wr h15 ((⟨b2, 0, none⟩ : Addr).add 1) (.slice a20 L16 C16) fun h16 =>
  Wr h16 ((⟨b2, 0, none⟩ : Addr).add 2) (.int .i64 n3) fun h17 =>
  ∃ (r5 : Option Addr) (rL3 rC3 : Nat), ∃ (r6 : Option Addr) (rL4 rC4 : Nat), ∃ r7 : Int, cell h17 ⟨b2, 0, none⟩ = some (.slice r5 rL3 rC3) ∧
  cell h17 ((⟨b2, 0, none⟩ : Addr).add 1) = some (.slice r6 rL4 rC4) ∧
  cell h17 ((⟨b2, 0, none⟩ : Addr).add 2) = some (.int .i64 r7) ∧
  K (.tuple #[.agg #[.slice r5 rL3 rC3, .slice r6 rL4 rC4, .int .i64 r7], .int .i64 0]) h17)))))) := by kernel_rfl
theorem r50_Delete_call {t_0 : Option Addr} {t_0L : Nat} {t_0C : Nat} {t_1 : Option Addr} {t_1L : Nat} {t_1C : Nat} {t_2 : Int} {id : Int} {h : Hp} {K : Value → Hp → Prop} (hk : r50_Delete_b0 t_0 t_0L t_0C t_1 t_1L t_1C t_2 id h K) : HCalls Try.prog 65 #[.agg #[.slice t_0 t_0L t_0C, .slice t_1 t_1L t_1C, .int .i64 t_2], .int .i64 id] h K :=
  calls_of_snd r50_Delete_an Try.func65 (c := bodyOf Try.f65) rfl Try.ntmps65 (Nat.le_of_ble_eq_true rfl) (snd_1 F_ok F_mixed) hk

end Go.Proofs.Ytfkccighnkepgaa
