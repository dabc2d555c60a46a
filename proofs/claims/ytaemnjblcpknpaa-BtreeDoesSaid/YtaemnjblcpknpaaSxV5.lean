/- Plain statements of what each block of code of this seat asks; printed by a program, checked by Lean. -/
import Derived.Test.YtaemnjblcpknpaaSxV0
set_option maxRecDepth 10000
namespace Go.Proofs.Ytaemnjblcpknpaa
open Go Go.Sx

/-! ### slices_IndexFunc_Sint_int -/
def slices_IndexFunc_Sint_int_an : Ann := .node none (.leaf) (.node (some []) (.node none (.leaf) (.loop [0, 1, 7] [(8, .int .i64)] (.node none (.leaf) (.node none (.leaf) (.node (some [0, 1, 7, 8]) (.leaf) (.leaf)))))) (.leaf))
def slices_IndexFunc_Sint_int_K0  (K : Value → Hp → Prop) : Exit → Env → Hp → Prop := retK Try.prog Try.f86.results.toList K
def slices_IndexFunc_Sint_int_K1  (K : Value → Hp → Prop) : Exit → Env → Hp → Prop := thenE (fun env h => sx_2 Try.prog F 19 (cp [1, 1] (bodyOf Try.f86)) (ap [1, 1] slices_IndexFunc_Sint_int_an) (rs [] env) h (slices_IndexFunc_Sint_int_K0  K)) (slices_IndexFunc_Sint_int_K0  K)
def slices_IndexFunc_Sint_int_K2  (K : Value → Hp → Prop) : Exit → Env → Hp → Prop := blockE 0 (slices_IndexFunc_Sint_int_K1  K)
def slices_IndexFunc_Sint_int_K3 (nx0 : Int × Unit → Hp → Prop) (K : Value → Hp → Prop) : Exit → Env → Hp → Prop := thenE (fun env h => getV [(8, .int .i64)] env fun s => nx0 s h) (slices_IndexFunc_Sint_int_K2  K)
def slices_IndexFunc_Sint_int_b0 (s : Option Addr) (sL : Nat) (sC : Nat) (f : Value) (h : Hp)  (K : Value → Hp → Prop) : Prop :=
  sx_3 Try.prog F 19 (cp [] (bodyOf Try.f86)) (ap [] slices_IndexFunc_Sint_int_an) [(0, .slice s sL sC), (1, f)] h (slices_IndexFunc_Sint_int_K0  K)
def slices_IndexFunc_Sint_int_b1 (t8 : Int) (s : Option Addr) (sL : Nat) (sC : Nat) (f : Value) (t7 : Int) (h : Hp) (nx0 : Int × Unit → Hp → Prop) (K : Value → Hp → Prop) : Prop :=
  sx_2 Try.prog F 19 (cp [1, 0, 1, 2, 2] (bodyOf Try.f86)) (ap [1, 0, 1, 2] slices_IndexFunc_Sint_int_an) [(8, .int .i64 t8), (0, .slice s sL sC), (1, f), (7, .int .i64 t7)] h (slices_IndexFunc_Sint_int_K3 nx0 K)
def slices_IndexFunc_Sint_int_b2 (s : Option Addr) (sL : Nat) (sC : Nat) (f : Value) (t7 : Int) (t8 : Int) (h : Hp) (nx0 : Int × Unit → Hp → Prop) (K : Value → Hp → Prop) : Prop :=
  sx_1 Try.prog F 19 (cp [1, 0, 1, 2, 2, 1, 1, 1] (bodyOf Try.f86)) (ap [1, 0, 1, 2, 1, 1, 1] slices_IndexFunc_Sint_int_an) [(0, .slice s sL sC), (1, f), (7, .int .i64 t7), (8, .int .i64 t8)] h (slices_IndexFunc_Sint_int_K3 nx0 K)
def slices_IndexFunc_Sint_int_b3  (h : Hp)  (K : Value → Hp → Prop) : Prop :=
  sx_2 Try.prog F 19 (cp [1, 1] (bodyOf Try.f86)) (ap [1, 1] slices_IndexFunc_Sint_int_an) [] h (slices_IndexFunc_Sint_int_K0  K)
theorem slices_IndexFunc_Sint_int_b0_eq (s : Option Addr) (sL : Nat) (sC : Nat) (f : Value) (h : Hp)  (K : Value → Hp → Prop) : slices_IndexFunc_Sint_int_b0 s sL sC f h  K = (
  LoopVC ((0, ()) : Int × Unit) h (fun (nx0 : Int × Unit → Hp → Prop) (s1 : Int × Unit) h1 => slices_IndexFunc_Sint_int_b1 s1.1 s sL sC f (sL : Int) h1 nx0 K)) := by kernel_rfl
theorem slices_IndexFunc_Sint_int_b1_eq (t8 : Int) (s : Option Addr) (sL : Nat) (sC : Nat) (f : Value) (t7 : Int) (h : Hp) (nx0 : Int × Unit → Hp → Prop) (K : Value → Hp → Prop) : slices_IndexFunc_Sint_int_b1 t8 s sL sC f t7 h nx0 K = (
  cond (decide (t8 < t7))
  ((0 ≤ t8 ∧ t8 < (sL : Int)) ∧
  NN s fun a1 =>
  ∃ n1 : Int, cell h (a1.add (Int.toNat t8 * 1)) = some (.int .i64 n1) ∧
  funV f fun fg1 fa1 fc1 => callX Try.prog F fg1 (fa1 ++ (([.int .i64 n1] : List Value) ++ fc1)).toArray h fun v1 h2 => ∃ r1 : Bool, v1 = .bool r1 ∧
  cond r1
  (K (.int .i64 t8) h2)
  (slices_IndexFunc_Sint_int_b2 s sL sC f t7 t8 h2 nx0 K))
  (slices_IndexFunc_Sint_int_b3  h  K)) := by kernel_rfl
theorem slices_IndexFunc_Sint_int_b2_eq (s : Option Addr) (sL : Nat) (sC : Nat) (f : Value) (t7 : Int) (t8 : Int) (h : Hp) (nx0 : Int × Unit → Hp → Prop) (K : Value → Hp → Prop) : slices_IndexFunc_Sint_int_b2 s sL sC f t7 t8 h nx0 K = (
  InR (t8 + 1) ∧
  nx0 (t8 + 1, ()) h) := by kernel_rfl
theorem slices_IndexFunc_Sint_int_b3_eq  (h : Hp)  (K : Value → Hp → Prop) : slices_IndexFunc_Sint_int_b3  h  K = (
  K (.int .i64 (-1)) h) := by kernel_rfl
theorem slices_IndexFunc_Sint_int_call {s : Option Addr} {sL : Nat} {sC : Nat} {f : Value} {h : Hp} {K : Value → Hp → Prop} (hk : slices_IndexFunc_Sint_int_b0 s sL sC f h K) : HCalls Try.prog 86 #[.slice s sL sC, f] h K :=
  calls_of_snd slices_IndexFunc_Sint_int_an Try.func86 (c := bodyOf Try.f86) rfl Try.ntmps86 (Nat.le_of_ble_eq_true rfl) (snd_3 F_ok F_mixed) hk


/-! ### slices_Clone_btree_node_btree_node -/
def slices_Clone_btree_node_btree_node_an : Ann := .leaf
def slices_Clone_btree_node_btree_node_K0  (K : Value → Hp → Prop) : Exit → Env → Hp → Prop := retK Try.prog Try.f91.results.toList K
def slices_Clone_btree_node_btree_node_b0 (s : Option Addr) (sL : Nat) (sC : Nat) (h : Hp)  (K : Value → Hp → Prop) : Prop :=
  sx_1 Try.prog F 8 (cp [] (bodyOf Try.f91)) (ap [] slices_Clone_btree_node_btree_node_an) [(0, .slice s sL sC)] h (slices_Clone_btree_node_btree_node_K0  K)
theorem slices_Clone_btree_node_btree_node_b0_eq (s : Option Addr) (sL : Nat) (sC : Nat) (h : Hp)  (K : Value → Hp → Prop) : slices_Clone_btree_node_btree_node_b0 s sL sC h  K = (
  cond (Option.isNone s)
  (K (.slice none 0 0) h)
  (New h (.cells #[] 73) fun b1 h1 =>
  appendV Try.prog 86 86 (.slice (some ⟨b1, 0, none⟩) 0 0) (.slice s sL sC) h1 (slK fun a1 l1 c1 h2 =>
  K (.slice a1 l1 c1) h2))) := by kernel_rfl
theorem slices_Clone_btree_node_btree_node_call {s : Option Addr} {sL : Nat} {sC : Nat} {h : Hp} {K : Value → Hp → Prop} (hk : slices_Clone_btree_node_btree_node_b0 s sL sC h K) : HCalls Try.prog 91 #[.slice s sL sC] h K :=
  calls_of_snd slices_Clone_btree_node_btree_node_an Try.func91 (c := bodyOf Try.f91) rfl Try.ntmps91 (Nat.le_of_ble_eq_true rfl) (snd_1 F_ok F_mixed) hk

/-! ### r43_Least -/
def r43_Least_an : Ann := .leaf
def r43_Least_K0  (K : Value → Hp → Prop) : Exit → Env → Hp → Prop := retK Try.prog Try.f92.results.toList K
def r43_Least_b0 (order : Int) (h : Hp)  (K : Value → Hp → Prop) : Prop :=
  sx_1 Try.prog F 7 (cp [] (bodyOf Try.f92)) (ap [] r43_Least_an) [(0, .int .i64 order)] h (r43_Least_K0  K)
theorem r43_Least_b0_eq (order : Int) (h : Hp)  (K : Value → Hp → Prop) : r43_Least_b0 order h  K = (
  InR (order + 1) ∧
  ∃ q1 : Int, Sx.Quo .i64 (order + 1) 2 q1 ∧
  InR (q1 - 1) ∧
  K (.int .i64 (q1 - 1)) h) := by kernel_rfl
theorem r43_Least_call {order : Int} {h : Hp} {K : Value → Hp → Prop} (hk : r43_Least_b0 order h K) : HCalls Try.prog 92 #[.int .i64 order] h K :=
  calls_of_snd r43_Least_an Try.func92 (c := bodyOf Try.f92) rfl Try.ntmps92 (Nat.le_of_ble_eq_true rfl) (snd_1 F_ok F_mixed) hk

/-! ### cmp_Less_int -/
def cmp_Less_int_an : Ann := .leaf
def cmp_Less_int_K0  (K : Value → Hp → Prop) : Exit → Env → Hp → Prop := retK Try.prog Try.f93.results.toList K
def cmp_Less_int_b0 (x : Int) (y : Int) (h : Hp)  (K : Value → Hp → Prop) : Prop :=
  sx_1 Try.prog F 17 (cp [] (bodyOf Try.f93)) (ap [] cmp_Less_int_an) [(0, .int .i64 x), (1, .int .i64 y)] h (cmp_Less_int_K0  K)
theorem cmp_Less_int_b0_eq (x : Int) (y : Int) (h : Hp)  (K : Value → Hp → Prop) : cmp_Less_int_b0 x y h  K = (
  HCalls Try.prog 108 #[.int .i64 x] h fun v1 h1 => ∃ r1 : Bool, v1 = .bool r1 ∧
  cond r1
  (HCalls Try.prog 108 #[.int .i64 y] h1 fun v2 h2 => ∃ r2 : Bool, v2 = .bool r2 ∧
  cond (!r2)
  (K (.bool true) h2)
  (K (.bool (decide (x < y))) h2))
  (K (.bool (decide (x < y))) h1)) := by kernel_rfl
theorem cmp_Less_int_call {x : Int} {y : Int} {h : Hp} {K : Value → Hp → Prop} (hk : cmp_Less_int_b0 x y h K) : HCalls Try.prog 93 #[.int .i64 x, .int .i64 y] h K :=
  calls_of_snd cmp_Less_int_an Try.func93 (c := bodyOf Try.f93) rfl Try.ntmps93 (Nat.le_of_ble_eq_true rfl) (snd_1 F_ok F_mixed) hk

/-! ### slices_isNaN_int -/
def slices_isNaN_int_an : Ann := .leaf
def slices_isNaN_int_K0  (K : Value → Hp → Prop) : Exit → Env → Hp → Prop := retK Try.prog Try.f94.results.toList K
def slices_isNaN_int_b0 (x : Int) (h : Hp)  (K : Value → Hp → Prop) : Prop :=
  sx_1 Try.prog F 6 (cp [] (bodyOf Try.f94)) (ap [] slices_isNaN_int_an) [(0, .int .i64 x)] h (slices_isNaN_int_K0  K)
theorem slices_isNaN_int_b0_eq (x : Int) (h : Hp)  (K : Value → Hp → Prop) : slices_isNaN_int_b0 x h  K = (
  K (.bool (!decide (x = x))) h) := by kernel_rfl
theorem slices_isNaN_int_call {x : Int} {h : Hp} {K : Value → Hp → Prop} (hk : slices_isNaN_int_b0 x h K) : HCalls Try.prog 94 #[.int .i64 x] h K :=
  calls_of_snd slices_isNaN_int_an Try.func94 (c := bodyOf Try.f94) rfl Try.ntmps94 (Nat.le_of_ble_eq_true rfl) (snd_1 F_ok F_mixed) hk

/-! ### slices_Delete_btree_node_btree_node -/
def slices_Delete_btree_node_btree_node_an : Ann := .node none (.leaf) (.node none (.leaf) (.node none (.leaf) (.node none (.leaf) (.node none (.tail 6) (.leaf)))))
def slices_Delete_btree_node_btree_node_K0  (K : Value → Hp → Prop) : Exit → Env → Hp → Prop := retK Try.prog Try.f95.results.toList K
def slices_Delete_btree_node_btree_node_b0 (s : Option Addr) (sL : Nat) (sC : Nat) (i : Int) (j : Int) (h : Hp)  (K : Value → Hp → Prop) : Prop :=
  sx_1 Try.prog F 33 (cp [] (bodyOf Try.f95)) (ap [] slices_Delete_btree_node_btree_node_an) [(0, .slice s sL sC), (1, .int .i64 i), (2, .int .i64 j)] h (slices_Delete_btree_node_btree_node_K0  K)
theorem slices_Delete_btree_node_btree_node_b0_eq (s : Option Addr) (sL : Nat) (sC : Nat) (i : Int) (j : Int) (h : Hp)  (K : Value → Hp → Prop) : slices_Delete_btree_node_btree_node_b0 s sL sC i j h  K = (
  ∃ (a1 : Option Addr) (l1 c1 : Nat), slC Try.prog 86 (.slice s sL sC) (some (.int .i64 i)) (some (.int .i64 j)) (.int .i64 (sL : Int)) h a1 l1 c1 ∧
  cond (decide (i = j))
  (K (.slice s sL sC) h)
  ((0 ≤ (0 : Int) ∧ (0 : Int) ≤ i ∧ i ≤ (sC : Int)) ∧
  (0 ≤ j ∧ j ≤ (sL : Int) ∧ (sL : Int) ≤ (sC : Int)) ∧
  appendV Try.prog 86 86 (.slice (subAddr s sC (Int.toNat (0 : Int)) 1) (Int.toNat i - Int.toNat (0 : Int)) (sC - Int.toNat (0 : Int))) (.slice (subAddr s sC (Int.toNat j) 1) (Int.toNat (sL : Int) - Int.toNat j) (sC - Int.toNat j)) h (slK fun a2 l2 c2 h1 =>
  (0 ≤ (l2 : Int) ∧ (l2 : Int) ≤ (sL : Int) ∧ (sL : Int) ≤ (c2 : Int)) ∧
  clearV Try.prog 86 (.slice (subAddr a2 c2 (Int.toNat (l2 : Int)) 1) (Int.toNat (sL : Int) - Int.toNat (l2 : Int)) (c2 - Int.toNat (l2 : Int))) h1 fun h2 =>
  K (.slice a2 l2 c2) h2))) := by kernel_rfl
theorem slices_Delete_btree_node_btree_node_call {s : Option Addr} {sL : Nat} {sC : Nat} {i : Int} {j : Int} {h : Hp} {K : Value → Hp → Prop} (hk : slices_Delete_btree_node_btree_node_b0 s sL sC i j h K) : HCalls Try.prog 95 #[.slice s sL sC, .int .i64 i, .int .i64 j] h K :=
  calls_of_snd slices_Delete_btree_node_btree_node_an Try.func95 (c := bodyOf Try.f95) rfl Try.ntmps95 (Nat.le_of_ble_eq_true rfl) (snd_1 F_ok F_mixed) hk

/-! ### r03_row -/
def r03_row_an : Ann := .leaf
def r03_row_K0  (K : Value → Hp → Prop) : Exit → Env → Hp → Prop := retK Try.prog Try.f96.results.toList K
def r03_row_b0 (l : Option Addr) (lL : Nat) (lC : Nat) (h : Hp)  (K : Value → Hp → Prop) : Prop :=
  sx_1 Try.prog F 6 (cp [] (bodyOf Try.f96)) (ap [] r03_row_an) [(0, .slice l lL lC)] h (r03_row_K0  K)
theorem r03_row_b0_eq (l : Option Addr) (lL : Nat) (lC : Nat) (h : Hp)  (K : Value → Hp → Prop) : r03_row_b0 l lL lC h  K = (
  New h (.cells #[] 3) fun b1 h1 =>
  appendV Try.prog 38 38 (.slice (some ⟨b1, 0, none⟩) 0 0) (.slice l lL lC) h1 (slK fun a1 l1 c1 h2 =>
  K (.slice a1 l1 c1) h2)) := by kernel_rfl
theorem r03_row_call {l : Option Addr} {lL : Nat} {lC : Nat} {h : Hp} {K : Value → Hp → Prop} (hk : r03_row_b0 l lL lC h K) : HCalls Try.prog 96 #[.slice l lL lC] h K :=
  calls_of_snd r03_row_an Try.func96 (c := bodyOf Try.f96) rfl Try.ntmps96 (Nat.le_of_ble_eq_true rfl) (snd_1 F_ok F_mixed) hk

end Go.Proofs.Ytaemnjblcpknpaa
