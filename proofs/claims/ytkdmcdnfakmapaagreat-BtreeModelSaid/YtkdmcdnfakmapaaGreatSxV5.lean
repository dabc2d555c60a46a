/- Plain statements of what each block of code of this seat asks; printed by a program, checked by Lean. -/
import Derived.Test.YtkdmcdnfakmapaaGreatSxV0
set_option maxRecDepth 10000
namespace Go.Proofs.YtkdmcdnfakmapaaGreat
open Go Go.Sx

/-! ### slices_BinarySearchFunc_Sint_Sint_Sint -/
def slices_BinarySearchFunc_Sint_Sint_Sint_an : Ann := .node none (.leaf) (.node none (.leaf) (.node none (.leaf) (.node (some [0, 1, 2, 8, 9]) (.loop [0, 1, 2, 8] [(9, .int .i64), (10, .int .i64)] (.leaf)) (.leaf))))
def slices_BinarySearchFunc_Sint_Sint_Sint_K0  (K : Value → Hp → Prop) : Exit → Env → Hp → Prop := retK Tryz.prog Tryz.f99.results.toList K
def slices_BinarySearchFunc_Sint_Sint_Sint_K1  (K : Value → Hp → Prop) : Exit → Env → Hp → Prop := thenE (fun env h => sx_1 Tryz.prog F 49 (cp [1, 1, 1, 1] (bodyOf Tryz.f99)) (ap [1, 1, 1, 1] slices_BinarySearchFunc_Sint_Sint_Sint_an) (rs [0, 1, 2, 8, 9] env) h (slices_BinarySearchFunc_Sint_Sint_Sint_K0  K)) (slices_BinarySearchFunc_Sint_Sint_Sint_K0  K)
def slices_BinarySearchFunc_Sint_Sint_Sint_K2  (K : Value → Hp → Prop) : Exit → Env → Hp → Prop := blockE 0 (slices_BinarySearchFunc_Sint_Sint_Sint_K1  K)
def slices_BinarySearchFunc_Sint_Sint_Sint_K3 (nx0 : Int × Int × Unit → Hp → Prop) (K : Value → Hp → Prop) : Exit → Env → Hp → Prop := thenE (fun env h => getV [(9, .int .i64), (10, .int .i64)] env fun s => nx0 s h) (slices_BinarySearchFunc_Sint_Sint_Sint_K2  K)
def slices_BinarySearchFunc_Sint_Sint_Sint_b0 (x : Option Addr) (xL : Nat) (xC : Nat) (target : Option Addr) (targetL : Nat) (targetC : Nat) (cmp : Value) (h : Hp)  (K : Value → Hp → Prop) : Prop :=
  sx_2 Tryz.prog F 49 (cp [] (bodyOf Tryz.f99)) (ap [] slices_BinarySearchFunc_Sint_Sint_Sint_an) [(0, .slice x xL xC), (1, .slice target targetL targetC), (2, cmp)] h (slices_BinarySearchFunc_Sint_Sint_Sint_K0  K)
def slices_BinarySearchFunc_Sint_Sint_Sint_b1 (i : Int) (j : Int) (x : Option Addr) (xL : Nat) (xC : Nat) (target : Option Addr) (targetL : Nat) (targetC : Nat) (cmp : Value) (nv : Int) (h : Hp) (nx0 : Int × Int × Unit → Hp → Prop) (K : Value → Hp → Prop) : Prop :=
  sx_1 Tryz.prog F 49 (cp [1, 1, 1, 0, 2, 2] (bodyOf Tryz.f99)) (ap [1, 1, 1, 0, 2] slices_BinarySearchFunc_Sint_Sint_Sint_an) [(9, .int .i64 i), (10, .int .i64 j), (0, .slice x xL xC), (1, .slice target targetL targetC), (2, cmp), (8, .int .i64 nv)] h (slices_BinarySearchFunc_Sint_Sint_Sint_K3 nx0 K)
def slices_BinarySearchFunc_Sint_Sint_Sint_b2 (x : Option Addr) (xL : Nat) (xC : Nat) (target : Option Addr) (targetL : Nat) (targetC : Nat) (cmp : Value) (nv : Int) (i : Int) (h : Hp)  (K : Value → Hp → Prop) : Prop :=
  sx_1 Tryz.prog F 49 (cp [1, 1, 1, 1] (bodyOf Tryz.f99)) (ap [1, 1, 1, 1] slices_BinarySearchFunc_Sint_Sint_Sint_an) [(0, .slice x xL xC), (1, .slice target targetL targetC), (2, cmp), (8, .int .i64 nv), (9, .int .i64 i)] h (slices_BinarySearchFunc_Sint_Sint_Sint_K0  K)
theorem slices_BinarySearchFunc_Sint_Sint_Sint_b0_eq (x : Option Addr) (xL : Nat) (xC : Nat) (target : Option Addr) (targetL : Nat) (targetC : Nat) (cmp : Value) (h : Hp)  (K : Value → Hp → Prop) : slices_BinarySearchFunc_Sint_Sint_Sint_b0 x xL xC target targetL targetC cmp h  K = (
  LoopVC ((0, (xL : Int), ()) : Int × Int × Unit) h (fun (nx0 : Int × Int × Unit → Hp → Prop) (s1 : Int × Int × Unit) h1 => slices_BinarySearchFunc_Sint_Sint_Sint_b1 s1.1 s1.2.1 x xL xC target targetL targetC cmp (xL : Int) h1 nx0 K)) := by kernel_rfl
theorem slices_BinarySearchFunc_Sint_Sint_Sint_b1_eq (i : Int) (j : Int) (x : Option Addr) (xL : Nat) (xC : Nat) (target : Option Addr) (targetL : Nat) (targetC : Nat) (cmp : Value) (nv : Int) (h : Hp) (nx0 : Int × Int × Unit → Hp → Prop) (K : Value → Hp → Prop) : slices_BinarySearchFunc_Sint_Sint_Sint_b1 i j x xL xC target targetL targetC cmp nv h nx0 K = (
  cond (decide (i < j))
  (InR (i + j) ∧
  ∃ sr1 : Int, Sx.Shr .u64 (IntKind.u64.wrap (i + j)) 1 sr1 ∧
  InR sr1 ∧
  (0 ≤ sr1 ∧ sr1 < (xL : Int)) ∧
  NN x fun a1 =>
  ∃ (a2 : Option Addr) (L1 C1 : Nat), cell h (a1.add (Int.toNat sr1 * 1)) = some (.slice a2 L1 C1) ∧
  funV cmp fun fg1 fa1 fc1 => callX Tryz.prog F fg1 (fa1 ++ (([.slice a2 L1 C1, .slice target targetL targetC] : List Value) ++ fc1)).toArray h fun v1 h2 => ∃ r1 : Int, v1 = .int .i64 r1 ∧
  cond (decide (r1 < 0))
  (InR (sr1 + 1) ∧
  nx0 (sr1 + 1, j, ()) h2)
  (nx0 (i, sr1, ()) h2))
  (slices_BinarySearchFunc_Sint_Sint_Sint_b2 x xL xC target targetL targetC cmp nv i h  K)) := by kernel_rfl
theorem slices_BinarySearchFunc_Sint_Sint_Sint_b2_eq (x : Option Addr) (xL : Nat) (xC : Nat) (target : Option Addr) (targetL : Nat) (targetC : Nat) (cmp : Value) (nv : Int) (i : Int) (h : Hp)  (K : Value → Hp → Prop) : slices_BinarySearchFunc_Sint_Sint_Sint_b2 x xL xC target targetL targetC cmp nv i h  K = (
  cond (decide (i < nv))
  ((0 ≤ i ∧ i < (xL : Int)) ∧
  NN x fun a3 =>
  ∃ (a4 : Option Addr) (L2 C2 : Nat), cell h (a3.add (Int.toNat i * 1)) = some (.slice a4 L2 C2) ∧
  funV cmp fun fg2 fa2 fc2 => callX Tryz.prog F fg2 (fa2 ++ (([.slice a4 L2 C2, .slice target targetL targetC] : List Value) ++ fc2)).toArray h fun v2 h3 => ∃ r2 : Int, v2 = .int .i64 r2 ∧
  K (.tuple #[.int .i64 i, .bool (decide (r2 = 0))]) h3)
  (K (.tuple #[.int .i64 i, .bool false]) h)) := by kernel_rfl
theorem slices_BinarySearchFunc_Sint_Sint_Sint_call {x : Option Addr} {xL : Nat} {xC : Nat} {target : Option Addr} {targetL : Nat} {targetC : Nat} {cmp : Value} {h : Hp} {K : Value → Hp → Prop} (hk : slices_BinarySearchFunc_Sint_Sint_Sint_b0 x xL xC target targetL targetC cmp h K) : HCalls Tryz.prog 99 #[.slice x xL xC, .slice target targetL targetC, cmp] h K :=
  calls_of_snd slices_BinarySearchFunc_Sint_Sint_Sint_an Tryz.func99 (c := bodyOf Tryz.f99) rfl Tryz.ntmps99 (Nat.le_of_ble_eq_true rfl) (snd_2 F_ok F_mixed) hk

/-! ### model_find_c1 -/
def model_find_c1_an : Ann := .leaf
def model_find_c1_K0  (K : Value → Hp → Prop) : Exit → Env → Hp → Prop := retK Tryz.prog Tryz.f100.results.toList K
def model_find_c1_b0 (row : Option Addr) (rowL : Nat) (rowC : Nat) (key : Option Addr) (keyL : Nat) (keyC : Nat) (h : Hp)  (K : Value → Hp → Prop) : Prop :=
  sx_1 Tryz.prog F 11 (cp [] (bodyOf Tryz.f100)) (ap [] model_find_c1_an) [(0, .slice row rowL rowC), (1, .slice key keyL keyC)] h (model_find_c1_K0  K)
theorem model_find_c1_b0_eq (row : Option Addr) (rowL : Nat) (rowC : Nat) (key : Option Addr) (keyL : Nat) (keyC : Nat) (h : Hp)  (K : Value → Hp → Prop) : model_find_c1_b0 row rowL rowC key keyL keyC h  K = (
  (0 ≤ (0 : Int) ∧ (0 : Int) ≤ (keyL : Int) ∧ (keyL : Int) ≤ (rowC : Int)) ∧
  HCalls Tryz.prog 72 #[.slice (subAddr row rowC (Int.toNat (0 : Int)) 1) (Int.toNat (keyL : Int) - Int.toNat (0 : Int)) (rowC - Int.toNat (0 : Int)), .slice key keyL keyC] h fun v1 h1 => ∃ r1 : Int, v1 = .int .i64 r1 ∧
  K (.int .i64 r1) h1) := by kernel_rfl
theorem model_find_c1_call {row : Option Addr} {rowL : Nat} {rowC : Nat} {key : Option Addr} {keyL : Nat} {keyC : Nat} {h : Hp} {K : Value → Hp → Prop} (hk : model_find_c1_b0 row rowL rowC key keyL keyC h K) : HCalls Tryz.prog 100 #[.slice row rowL rowC, .slice key keyL keyC] h K :=
  calls_of_snd model_find_c1_an Tryz.func100 (c := bodyOf Tryz.f100) rfl Tryz.ntmps100 (Nat.le_of_ble_eq_true rfl) (snd_1 F_ok F_mixed) hk


/-! ### slices_Delete_btree_node_btree_node -/
def slices_Delete_btree_node_btree_node_an : Ann := .node none (.leaf) (.node none (.leaf) (.node none (.leaf) (.node none (.leaf) (.node none (.tail 6) (.leaf)))))
def slices_Delete_btree_node_btree_node_K0  (K : Value → Hp → Prop) : Exit → Env → Hp → Prop := retK Tryz.prog Tryz.f106.results.toList K
def slices_Delete_btree_node_btree_node_b0 (s : Option Addr) (sL : Nat) (sC : Nat) (i : Int) (j : Int) (h : Hp)  (K : Value → Hp → Prop) : Prop :=
  sx_1 Tryz.prog F 33 (cp [] (bodyOf Tryz.f106)) (ap [] slices_Delete_btree_node_btree_node_an) [(0, .slice s sL sC), (1, .int .i64 i), (2, .int .i64 j)] h (slices_Delete_btree_node_btree_node_K0  K)
theorem slices_Delete_btree_node_btree_node_b0_eq (s : Option Addr) (sL : Nat) (sC : Nat) (i : Int) (j : Int) (h : Hp)  (K : Value → Hp → Prop) : slices_Delete_btree_node_btree_node_b0 s sL sC i j h  K = (
  ∃ (a1 : Option Addr) (l1 c1 : Nat), slC Tryz.prog 83 (.slice s sL sC) (some (.int .i64 i)) (some (.int .i64 j)) (.int .i64 (sL : Int)) h a1 l1 c1 ∧
  cond (decide (i = j))
  (K (.slice s sL sC) h)
  ((0 ≤ (0 : Int) ∧ (0 : Int) ≤ i ∧ i ≤ (sC : Int)) ∧
  (0 ≤ j ∧ j ≤ (sL : Int) ∧ (sL : Int) ≤ (sC : Int)) ∧
  appendV Tryz.prog 83 83 (.slice (subAddr s sC (Int.toNat (0 : Int)) 1) (Int.toNat i - Int.toNat (0 : Int)) (sC - Int.toNat (0 : Int))) (.slice (subAddr s sC (Int.toNat j) 1) (Int.toNat (sL : Int) - Int.toNat j) (sC - Int.toNat j)) h (slK fun a2 l2 c2 h1 =>
  (0 ≤ (l2 : Int) ∧ (l2 : Int) ≤ (sL : Int) ∧ (sL : Int) ≤ (c2 : Int)) ∧
  clearV Tryz.prog 83 (.slice (subAddr a2 c2 (Int.toNat (l2 : Int)) 1) (Int.toNat (sL : Int) - Int.toNat (l2 : Int)) (c2 - Int.toNat (l2 : Int))) h1 fun h2 =>
  K (.slice a2 l2 c2) h2))) := by kernel_rfl
theorem slices_Delete_btree_node_btree_node_call {s : Option Addr} {sL : Nat} {sC : Nat} {i : Int} {j : Int} {h : Hp} {K : Value → Hp → Prop} (hk : slices_Delete_btree_node_btree_node_b0 s sL sC i j h K) : HCalls Tryz.prog 106 #[.slice s sL sC, .int .i64 i, .int .i64 j] h K :=
  calls_of_snd slices_Delete_btree_node_btree_node_an Tryz.func106 (c := bodyOf Tryz.f106) rfl Tryz.ntmps106 (Nat.le_of_ble_eq_true rfl) (snd_1 F_ok F_mixed) hk

/-! ### cmp_isNaN_int -/
def cmp_isNaN_int_an : Ann := .leaf
def cmp_isNaN_int_K0  (K : Value → Hp → Prop) : Exit → Env → Hp → Prop := retK Tryz.prog Tryz.f109.results.toList K
def cmp_isNaN_int_b0 (x : Int) (h : Hp)  (K : Value → Hp → Prop) : Prop :=
  sx_1 Tryz.prog F 6 (cp [] (bodyOf Tryz.f109)) (ap [] cmp_isNaN_int_an) [(0, .int .i64 x)] h (cmp_isNaN_int_K0  K)
theorem cmp_isNaN_int_b0_eq (x : Int) (h : Hp)  (K : Value → Hp → Prop) : cmp_isNaN_int_b0 x h  K = (
  K (.bool (!decide (x = x))) h) := by kernel_rfl
theorem cmp_isNaN_int_call {x : Int} {h : Hp} {K : Value → Hp → Prop} (hk : cmp_isNaN_int_b0 x h K) : HCalls Tryz.prog 109 #[.int .i64 x] h K :=
  calls_of_snd cmp_isNaN_int_an Tryz.func109 (c := bodyOf Tryz.f109) rfl Tryz.ntmps109 (Nat.le_of_ble_eq_true rfl) (snd_1 F_ok F_mixed) hk


end Go.Proofs.YtkdmcdnfakmapaaGreat
