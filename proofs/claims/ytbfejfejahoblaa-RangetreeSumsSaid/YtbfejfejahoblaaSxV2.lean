/- Plain statements of what each block of code of this seat asks; printed by a program, checked by Lean. -/
import Derived.Test.YtbfejfejahoblaaSxV0
set_option maxRecDepth 10000
namespace Go.Proofs.Ytbfejfejahoblaa
open Go Go.Sx

/-! ### r31_Made -/
/-! ### l31_do -/
/-! ### slices_Sort_Sint_int -/
def slices_Sort_Sint_int_an : Ann := .leaf
def slices_Sort_Sint_int_K0  (K : Value → Hp → Prop) : Exit → Env → Hp → Prop := retK Try.prog Try.f25.results.toList K
def slices_Sort_Sint_int_b0 (x : Option Addr) (xL : Nat) (xC : Nat) (h : Hp)  (K : Value → Hp → Prop) : Prop :=
  sx_1 Try.prog F 11 (cp [] (bodyOf Try.f25)) (ap [] slices_Sort_Sint_int_an) [(0, .slice x xL xC)] h (slices_Sort_Sint_int_K0  K)
theorem slices_Sort_Sint_int_b0_eq (x : Option Addr) (xL : Nat) (xC : Nat) (h : Hp)  (K : Value → Hp → Prop) : slices_Sort_Sint_int_b0 x xL xC h  K = (
  HCalls Try.prog 43 #[.int .u64 (IntKind.u64.wrap (xL : Int))] h fun v1 h1 => ∃ r1 : Int, v1 = .int .i64 r1 ∧
  HCalls Try.prog 42 #[.slice x xL xC, .int .i64 0, .int .i64 (xL : Int), .int .i64 r1] h1 fun v2 h2 => v2 = .tuple #[] ∧
  K (.tuple #[]) h2) := by kernel_rfl
theorem slices_Sort_Sint_int_call {x : Option Addr} {xL : Nat} {xC : Nat} {h : Hp} {K : Value → Hp → Prop} (hk : slices_Sort_Sint_int_b0 x xL xC h K) : HCalls Try.prog 25 #[.slice x xL xC] h K :=
  calls_of_snd slices_Sort_Sint_int_an Try.func25 (c := bodyOf Try.f25) rfl Try.ntmps25 (Nat.le_of_ble_eq_true rfl) (snd_1 F_ok F_mixed) hk

/-! ### slices_ContainsFunc_Sapi_Point_api_Point -/
def slices_ContainsFunc_Sapi_Point_api_Point_an : Ann := .leaf
def slices_ContainsFunc_Sapi_Point_api_Point_K0  (K : Value → Hp → Prop) : Exit → Env → Hp → Prop := retK Try.prog Try.f26.results.toList K
def slices_ContainsFunc_Sapi_Point_api_Point_b0 (s : Option Addr) (sL : Nat) (sC : Nat) (f : Value) (h : Hp)  (K : Value → Hp → Prop) : Prop :=
  sx_1 Try.prog F 9 (cp [] (bodyOf Try.f26)) (ap [] slices_ContainsFunc_Sapi_Point_api_Point_an) [(0, .slice s sL sC), (1, f)] h (slices_ContainsFunc_Sapi_Point_api_Point_K0  K)
theorem slices_ContainsFunc_Sapi_Point_api_Point_b0_eq (s : Option Addr) (sL : Nat) (sC : Nat) (f : Value) (h : Hp)  (K : Value → Hp → Prop) : slices_ContainsFunc_Sapi_Point_api_Point_b0 s sL sC f h  K = (
  HCalls Try.prog 44 #[.slice s sL sC, f] h fun v1 h1 => ∃ r1 : Int, v1 = .int .i64 r1 ∧
  K (.bool (decide ((0 : Int) ≤ r1))) h1) := by kernel_rfl
theorem slices_ContainsFunc_Sapi_Point_api_Point_call {s : Option Addr} {sL : Nat} {sC : Nat} {f : Value} {h : Hp} {K : Value → Hp → Prop} (hk : slices_ContainsFunc_Sapi_Point_api_Point_b0 s sL sC f h K) : HCalls Try.prog 26 #[.slice s sL sC, f] h K :=
  calls_of_snd slices_ContainsFunc_Sapi_Point_api_Point_an Try.func26 (c := bodyOf Try.f26) rfl Try.ntmps26 (Nat.le_of_ble_eq_true rfl) (snd_1 F_ok F_mixed) hk

/-! ### rangetree_Make_c1 -/
def rangetree_Make_c1_an : Ann := .leaf
def rangetree_Make_c1_K0  (K : Value → Hp → Prop) : Exit → Env → Hp → Prop := retK Try.prog Try.f27.results.toList K
def rangetree_Make_c1_b0 (p_0 : Int) (p_1 : Int) (p_2 : Int) (h : Hp)  (K : Value → Hp → Prop) : Prop :=
  sx_1 Try.prog F 6 (cp [] (bodyOf Try.f27)) (ap [] rangetree_Make_c1_an) [(0, .agg #[.int .i64 p_0, .int .i64 p_1, .int .i64 p_2])] h (rangetree_Make_c1_K0  K)
theorem rangetree_Make_c1_b0_eq (p_0 : Int) (p_1 : Int) (p_2 : Int) (h : Hp)  (K : Value → Hp → Prop) : rangetree_Make_c1_b0 p_0 p_1 p_2 h  K = (
  New h (.cells #[.int .i64 p_0, .int .i64 p_1, .int .i64 p_2] 33) fun b1 h1 =>
  ∃ n1 : Int, ∃ n2 : Int, ∃ n3 : Int, cell h1 ⟨b1, 0, none⟩ = some (.int .i64 n1) ∧
  cell h1 ((⟨b1, 0, none⟩ : Addr).add 1) = some (.int .i64 n2) ∧
  cell h1 ((⟨b1, 0, none⟩ : Addr).add 2) = some (.int .i64 n3) ∧
  HCalls Try.prog 28 #[.agg #[.int .i64 n1, .int .i64 n2, .int .i64 n3]] h1 fun v1 h2 => ∃ r1 : Bool, v1 = .bool r1 ∧
  K (.bool (!r1)) h2) := by kernel_rfl
theorem rangetree_Make_c1_call {p_0 : Int} {p_1 : Int} {p_2 : Int} {h : Hp} {K : Value → Hp → Prop} (hk : rangetree_Make_c1_b0 p_0 p_1 p_2 h K) : HCalls Try.prog 27 #[.agg #[.int .i64 p_0, .int .i64 p_1, .int .i64 p_2]] h K :=
  calls_of_snd rangetree_Make_c1_an Try.func27 (c := bodyOf Try.f27) rfl Try.ntmps27 (Nat.le_of_ble_eq_true rfl) (snd_1 F_ok F_mixed) hk

/-! ### rangetree_valid -/
def rangetree_valid_an : Ann := .leaf
def rangetree_valid_K0  (K : Value → Hp → Prop) : Exit → Env → Hp → Prop := retK Try.prog Try.f28.results.toList K
def rangetree_valid_b0 (p_0 : Int) (p_1 : Int) (p_2 : Int) (h : Hp)  (K : Value → Hp → Prop) : Prop :=
  sx_1 Try.prog F 21 (cp [] (bodyOf Try.f28)) (ap [] rangetree_valid_an) [(0, .agg #[.int .i64 p_0, .int .i64 p_1, .int .i64 p_2])] h (rangetree_valid_K0  K)
theorem rangetree_valid_b0_eq (p_0 : Int) (p_1 : Int) (p_2 : Int) (h : Hp)  (K : Value → Hp → Prop) : rangetree_valid_b0 p_0 p_1 p_2 h  K = (
  New h (.cells #[.int .i64 p_0, .int .i64 p_1, .int .i64 p_2] 33) fun b1 h1 =>
  ∃ n1 : Int, cell h1 ⟨b1, 0, none⟩ = some (.int .i64 n1) ∧
  ∃ n2 : Int, cell h1 ((⟨b1, 0, none⟩ : Addr).add 1) = some (.int .i64 n2) ∧
  ∃ n3 : Int, cell h1 ((⟨b1, 0, none⟩ : Addr).add 2) = some (.int .i64 n3) ∧
  cond (decide ((if (if n1 < n2 then n2 else n1) < n3 then n3 else (if n1 < n2 then n2 else n1)) ≤ 1048576))
  (∃ n4 : Int, cell h1 ⟨b1, 0, none⟩ = some (.int .i64 n4) ∧
  ∃ n5 : Int, cell h1 ((⟨b1, 0, none⟩ : Addr).add 1) = some (.int .i64 n5) ∧
  ∃ n6 : Int, cell h1 ((⟨b1, 0, none⟩ : Addr).add 2) = some (.int .i64 n6) ∧
  K (.bool (decide (((-1048576) : Int) ≤ (if n6 < (if n5 < n4 then n5 else n4) then n6 else (if n5 < n4 then n5 else n4))))) h1)
  (K (.bool false) h1)) := by kernel_rfl
theorem rangetree_valid_call {p_0 : Int} {p_1 : Int} {p_2 : Int} {h : Hp} {K : Value → Hp → Prop} (hk : rangetree_valid_b0 p_0 p_1 p_2 h K) : HCalls Try.prog 28 #[.agg #[.int .i64 p_0, .int .i64 p_1, .int .i64 p_2]] h K :=
  calls_of_snd rangetree_valid_an Try.func28 (c := bodyOf Try.f28) rfl Try.ntmps28 (Nat.le_of_ble_eq_true rfl) (snd_1 F_ok F_mixed) hk

/-! ### rangetree_Tree_renew -/
def rangetree_Tree_renew_an : Ann := .leaf
def rangetree_Tree_renew_K0  (K : Value → Hp → Prop) : Exit → Env → Hp → Prop := retK Try.prog Try.f29.results.toList K
def rangetree_Tree_renew_b0 (t : Option Addr) (h : Hp)  (K : Value → Hp → Prop) : Prop :=
  sx_1 Try.prog F 20 (cp [] (bodyOf Try.f29)) (ap [] rangetree_Tree_renew_an) [(0, .pointer t)] h (rangetree_Tree_renew_K0  K)
theorem rangetree_Tree_renew_b0_eq (t : Option Addr) (h : Hp)  (K : Value → Hp → Prop) : rangetree_Tree_renew_b0 t h  K = (
  NN t fun a1 =>
  Wr h (a1.add 1) (.slice none 0 0) fun h1 =>
  NN t fun a2 =>
  Wr h1 (a2.add 2) (.slice none 0 0) fun h2 =>
  NN t fun a3 =>
  Wr h2 (a3.add 3) (.int .i64 0) fun h3 =>
  HCalls Try.prog 15 #[.pointer t] h3 fun v1 h4 => ∃ (r1 : Option Addr) (rL1 rC1 : Nat), v1 = .slice r1 rL1 rC1 ∧
  cond (decide ((0 : Int) < (rL1 : Int)))
  (HCalls Try.prog 30 #[.pointer t, .slice r1 rL1 rC1] h4 fun v2 h5 => v2 = .tuple #[] ∧
  K (.tuple #[]) h5)
  (K (.tuple #[]) h4)) := by kernel_rfl
theorem rangetree_Tree_renew_call {t : Option Addr} {h : Hp} {K : Value → Hp → Prop} (hk : rangetree_Tree_renew_b0 t h K) : HCalls Try.prog 29 #[.pointer t] h K :=
  calls_of_snd rangetree_Tree_renew_an Try.func29 (c := bodyOf Try.f29) rfl Try.ntmps29 (Nat.le_of_ble_eq_true rfl) (snd_1 F_ok F_mixed) hk

/-! ### rangetree_Tree_put -/
def rangetree_Tree_put_an : Ann := .node none (.plan (.qu 0 (.qu 1 (.qu 2 (.qu 3 (.qu 4 (.qu 5 (.wo 6 (.wo 7 (.wo 8 (.qu 9 (.qu 10 (.wo 11 .fin .no))) .no) .no) .no)))))))) (.leaf)
def rangetree_Tree_put_K0  (K : Value → Hp → Prop) : Exit → Env → Hp → Prop := retK Try.prog Try.f30.results.toList K
def rangetree_Tree_put_b0 (t : Option Addr) (l : Option Addr) (lL : Nat) (lC : Nat) (h : Hp)  (K : Value → Hp → Prop) : Prop :=
  sx_1 Try.prog F 33 (cp [] (bodyOf Try.f30)) (ap [] rangetree_Tree_put_an) [(0, .pointer t), (1, .slice l lL lC)] h (rangetree_Tree_put_K0  K)
theorem rangetree_Tree_put_b0_eq (t : Option Addr) (l : Option Addr) (lL : Nat) (lC : Nat) (h : Hp)  (K : Value → Hp → Prop) : rangetree_Tree_put_b0 t l lL lC h  K = (
  NN t fun a1 =>
  ∃ (a2 : Option Addr) (L1 C1 : Nat), cell h (a1.add 1) = some (.slice a2 L1 C1) ∧
  HCalls Try.prog 45 #[.slice l lL lC] h fun v1 h1 => ∃ r1 : Option Addr, v1 = .pointer r1 ∧
  (∃ (a3 : Option Addr) (L2 C2 : Nat), cell h1 (a1.add 1) = some (.slice a3 L2 C2) ∧
  (.slice a3 L2 C2 : Value) = .slice a2 L1 C1) ∧
  New h1 (.cells #[.pointer r1] 75) fun b1 h2 =>
  (∃ (a4 : Option Addr) (L3 C3 : Nat), cell h2 (a1.add 1) = some (.slice a4 L3 C3) ∧
  (.slice a4 L3 C3 : Value) = .slice a2 L1 C1) ∧
  appendV Try.prog 66 66 (.slice a2 L1 C1) (.slice (some ⟨b1, 0, none⟩) 1 1) h2 (slK fun a5 l1 c1 h3 =>
  NN t fun a6 =>
  Wr h3 (a6.add 1) (.slice a5 l1 c1) fun h4 =>
  NN t fun a7 =>
  ∃ n1 : Int, cell h4 (a7.add 3) = some (.int .i64 n1) ∧
  InR (n1 + (lL : Int)) ∧
  NN t fun a8 =>
  Wr h4 (a8.add 3) (.int .i64 (n1 + (lL : Int))) fun h5 =>
  NN t fun a9 =>
  ∃ n2 : Int, cell h5 (a9.add 4) = some (.int .i64 n2) ∧
  InR (n2 + (lL : Int)) ∧
  NN t fun a10 =>
  Wr h5 (a10.add 4) (.int .i64 (n2 + (lL : Int))) fun h6 =>
  K (.tuple #[]) h6)) := by kernel_rfl
theorem rangetree_Tree_put_call {t : Option Addr} {l : Option Addr} {lL : Nat} {lC : Nat} {h : Hp} {K : Value → Hp → Prop} (hk : rangetree_Tree_put_b0 t l lL lC h K) : HCalls Try.prog 30 #[.pointer t, .slice l lL lC] h K :=
  calls_of_snd rangetree_Tree_put_an Try.func30 (c := bodyOf Try.f30) rfl Try.ntmps30 (Nat.le_of_ble_eq_true rfl) (snd_1 F_ok F_mixed) hk

/-! ### slices_SortFunc_Sapi_Point_api_Point -/
def slices_SortFunc_Sapi_Point_api_Point_an : Ann := .leaf
def slices_SortFunc_Sapi_Point_api_Point_K0  (K : Value → Hp → Prop) : Exit → Env → Hp → Prop := retK Try.prog Try.f31.results.toList K
def slices_SortFunc_Sapi_Point_api_Point_b0 (x : Option Addr) (xL : Nat) (xC : Nat) (cmp : Value) (h : Hp)  (K : Value → Hp → Prop) : Prop :=
  sx_1 Try.prog F 14 (cp [] (bodyOf Try.f31)) (ap [] slices_SortFunc_Sapi_Point_api_Point_an) [(0, .slice x xL xC), (1, cmp)] h (slices_SortFunc_Sapi_Point_api_Point_K0  K)
theorem slices_SortFunc_Sapi_Point_api_Point_b0_eq (x : Option Addr) (xL : Nat) (xC : Nat) (cmp : Value) (h : Hp)  (K : Value → Hp → Prop) : slices_SortFunc_Sapi_Point_api_Point_b0 x xL xC cmp h  K = (
  HCalls Try.prog 43 #[.int .u64 (IntKind.u64.wrap (xL : Int))] h fun v1 h1 => ∃ r1 : Int, v1 = .int .i64 r1 ∧
  HCalls Try.prog 46 #[.slice x xL xC, .int .i64 0, .int .i64 (xL : Int), .int .i64 r1, cmp] h1 fun v2 h2 => v2 = .tuple #[] ∧
  K (.tuple #[]) h2) := by kernel_rfl
theorem slices_SortFunc_Sapi_Point_api_Point_call {x : Option Addr} {xL : Nat} {xC : Nat} {cmp : Value} {h : Hp} {K : Value → Hp → Prop} (hk : slices_SortFunc_Sapi_Point_api_Point_b0 x xL xC cmp h K) : HCalls Try.prog 31 #[.slice x xL xC, cmp] h K :=
  calls_of_snd slices_SortFunc_Sapi_Point_api_Point_an Try.func31 (c := bodyOf Try.f31) rfl Try.ntmps31 (Nat.le_of_ble_eq_true rfl) (snd_1 F_ok F_mixed) hk

/-! ### rangetree_order -/
def rangetree_order_an : Ann := .node none (.leaf) (.node none (.tail 10) (.leaf))
def rangetree_order_K0  (K : Value → Hp → Prop) : Exit → Env → Hp → Prop := retK Try.prog Try.f32.results.toList K
def rangetree_order_b0 (a_0 : Int) (a_1 : Int) (a_2 : Int) (b_0 : Int) (b_1 : Int) (b_2 : Int) (h : Hp)  (K : Value → Hp → Prop) : Prop :=
  sx_1 Try.prog F 17 (cp [] (bodyOf Try.f32)) (ap [] rangetree_order_an) [(0, .agg #[.int .i64 a_0, .int .i64 a_1, .int .i64 a_2]), (1, .agg #[.int .i64 b_0, .int .i64 b_1, .int .i64 b_2])] h (rangetree_order_K0  K)
theorem rangetree_order_b0_eq (a_0 : Int) (a_1 : Int) (a_2 : Int) (b_0 : Int) (b_1 : Int) (b_2 : Int) (h : Hp)  (K : Value → Hp → Prop) : rangetree_order_b0 a_0 a_1 a_2 b_0 b_1 b_2 h  K = (
  New h (.cells #[.int .i64 a_0, .int .i64 a_1, .int .i64 a_2] 33) fun b1 h1 =>
  New h1 (.cells #[.int .i64 b_0, .int .i64 b_1, .int .i64 b_2] 33) fun b2 h2 =>
  ∃ n1 : Int, cell h2 ⟨b1, 0, none⟩ = some (.int .i64 n1) ∧
  ∃ n2 : Int, cell h2 ⟨b2, 0, none⟩ = some (.int .i64 n2) ∧
  ∃ r1 : Int, HCalls Try.prog 48 #[.int .i64 n1, .int .i64 n2] h2 (fun v1 h3 => v1 = .int .i64 r1 ∧ h3 = h2) ∧
  ∃ n3 : Int, cell h2 ((⟨b1, 0, none⟩ : Addr).add 1) = some (.int .i64 n3) ∧
  ∃ n4 : Int, cell h2 ((⟨b2, 0, none⟩ : Addr).add 1) = some (.int .i64 n4) ∧
  ∃ r2 : Int, HCalls Try.prog 48 #[.int .i64 n3, .int .i64 n4] h2 (fun v2 h4 => v2 = .int .i64 r2 ∧ h4 = h2) ∧
  New h2 (.cells #[.int .i64 r1, .int .i64 r2] 3) fun b3 h5 =>
  HCalls Try.prog 47 #[.slice (some ⟨b3, 0, none⟩) 2 2] h5 fun v3 h6 => ∃ r3 : Int, v3 = .int .i64 r3 ∧
  K (.int .i64 r3) h6) := by kernel_rfl
theorem rangetree_order_call {a_0 : Int} {a_1 : Int} {a_2 : Int} {b_0 : Int} {b_1 : Int} {b_2 : Int} {h : Hp} {K : Value → Hp → Prop} (hk : rangetree_order_b0 a_0 a_1 a_2 b_0 b_1 b_2 h K) : HCalls Try.prog 32 #[.agg #[.int .i64 a_0, .int .i64 a_1, .int .i64 a_2], .agg #[.int .i64 b_0, .int .i64 b_1, .int .i64 b_2]] h K :=
  calls_of_snd rangetree_order_an Try.func32 (c := bodyOf Try.f32) rfl Try.ntmps32 (Nat.le_of_ble_eq_true rfl) (snd_1 F_ok F_mixed) hk

/-! ### rangetree_Tree_ask -/
def rangetree_Tree_ask_an : Ann := .node none (.leaf) (.node (some [0, 1, 2, 3, 4, 10, 11]) (.node none (.leaf) (.loop [0, 1, 2, 3, 4, 21, 22] [(10, .int .i64), (11, .int .i64), (23, .int .i64)] (.node none (.leaf) (.node none (.leaf) (.node (some [0, 1, 2, 3, 4, 10, 11, 21, 22, 23]) (.leaf) (.leaf)))))) (.node (some [10, 11]) (.node none (.leaf) (.loop [1, 2, 3, 4, 46, 47] [(10, .int .i64), (11, .int .i64), (48, .int .i64)] (.node none (.leaf) (.node none (.leaf) (.node (some [1, 2, 3, 4, 10, 11, 46, 47, 48]) (.leaf) (.leaf)))))) (.leaf)))
def rangetree_Tree_ask_K0  (K : Value → Hp → Prop) : Exit → Env → Hp → Prop := retK Try.prog Try.f33.results.toList K
def rangetree_Tree_ask_K1  (K : Value → Hp → Prop) : Exit → Env → Hp → Prop := thenE (fun env h => sx_3 Try.prog F 83 (cp [1, 1] (bodyOf Try.f33)) (ap [1, 1] rangetree_Tree_ask_an) (rs [0, 1, 2, 3, 4, 10, 11] env) h (rangetree_Tree_ask_K0  K)) (rangetree_Tree_ask_K0  K)
def rangetree_Tree_ask_K2  (K : Value → Hp → Prop) : Exit → Env → Hp → Prop := blockE 0 (rangetree_Tree_ask_K1  K)
def rangetree_Tree_ask_K3 (nx0 : Int × Int × Int × Unit → Hp → Prop) (K : Value → Hp → Prop) : Exit → Env → Hp → Prop := thenE (fun env h => getV [(10, .int .i64), (11, .int .i64), (23, .int .i64)] env fun s => nx0 s h) (rangetree_Tree_ask_K2  K)
def rangetree_Tree_ask_K4  (K : Value → Hp → Prop) : Exit → Env → Hp → Prop := thenE (fun env h => sx_2 Try.prog F 83 (cp [1, 1, 1] (bodyOf Try.f33)) (ap [1, 1, 1] rangetree_Tree_ask_an) (rs [10, 11] env) h (rangetree_Tree_ask_K0  K)) (rangetree_Tree_ask_K0  K)
def rangetree_Tree_ask_K5  (K : Value → Hp → Prop) : Exit → Env → Hp → Prop := blockE 2 (rangetree_Tree_ask_K4  K)
def rangetree_Tree_ask_K6 (nx0 : Int × Int × Int × Unit → Hp → Prop) (K : Value → Hp → Prop) : Exit → Env → Hp → Prop := thenE (fun env h => getV [(10, .int .i64), (11, .int .i64), (48, .int .i64)] env fun s => nx0 s h) (rangetree_Tree_ask_K5  K)
def rangetree_Tree_ask_b0 (t : Option Addr) (x1 : Int) (x2 : Int) (y1 : Int) (y2 : Int) (h : Hp)  (K : Value → Hp → Prop) : Prop :=
  sx_4 Try.prog F 83 (cp [] (bodyOf Try.f33)) (ap [] rangetree_Tree_ask_an) [(0, .pointer t), (1, .int .i64 x1), (2, .int .i64 x2), (3, .int .i64 y1), (4, .int .i64 y2)] h (rangetree_Tree_ask_K0  K)
def rangetree_Tree_ask_b1 (count : Int) (sum : Int) (t23 : Int) (t : Option Addr) (x1 : Int) (x2 : Int) (y1 : Int) (y2 : Int) (t21 : Option Addr) (t21L : Nat) (t21C : Nat) (t22 : Int) (h : Hp) (nx0 : Int × Int × Int × Unit → Hp → Prop) (K : Value → Hp → Prop) : Prop :=
  sx_3 Try.prog F 83 (cp [1, 0, 1, 2, 2] (bodyOf Try.f33)) (ap [1, 0, 1, 2] rangetree_Tree_ask_an) [(10, .int .i64 count), (11, .int .i64 sum), (23, .int .i64 t23), (0, .pointer t), (1, .int .i64 x1), (2, .int .i64 x2), (3, .int .i64 y1), (4, .int .i64 y2), (21, .slice t21 t21L t21C), (22, .int .i64 t22)] h (rangetree_Tree_ask_K3 nx0 K)
def rangetree_Tree_ask_b2 (t : Option Addr) (x1 : Int) (x2 : Int) (y1 : Int) (y2 : Int) (count : Int) (sum : Int) (t21 : Option Addr) (t21L : Nat) (t21C : Nat) (t22 : Int) (t23 : Int) (h : Hp) (nx0 : Int × Int × Int × Unit → Hp → Prop) (K : Value → Hp → Prop) : Prop :=
  sx_2 Try.prog F 83 (cp [1, 0, 1, 2, 2, 1, 1, 1] (bodyOf Try.f33)) (ap [1, 0, 1, 2, 1, 1, 1] rangetree_Tree_ask_an) [(0, .pointer t), (1, .int .i64 x1), (2, .int .i64 x2), (3, .int .i64 y1), (4, .int .i64 y2), (10, .int .i64 count), (11, .int .i64 sum), (21, .slice t21 t21L t21C), (22, .int .i64 t22), (23, .int .i64 t23)] h (rangetree_Tree_ask_K3 nx0 K)
def rangetree_Tree_ask_b3 (t : Option Addr) (x1 : Int) (x2 : Int) (y1 : Int) (y2 : Int) (count : Int) (sum : Int) (h : Hp)  (K : Value → Hp → Prop) : Prop :=
  sx_3 Try.prog F 83 (cp [1, 1] (bodyOf Try.f33)) (ap [1, 1] rangetree_Tree_ask_an) [(0, .pointer t), (1, .int .i64 x1), (2, .int .i64 x2), (3, .int .i64 y1), (4, .int .i64 y2), (10, .int .i64 count), (11, .int .i64 sum)] h (rangetree_Tree_ask_K0  K)
def rangetree_Tree_ask_b4 (count : Int) (sum : Int) (t48 : Int) (x1 : Int) (x2 : Int) (y1 : Int) (y2 : Int) (t46 : Option Addr) (t46L : Nat) (t46C : Nat) (t47 : Int) (h : Hp) (nx0 : Int × Int × Int × Unit → Hp → Prop) (K : Value → Hp → Prop) : Prop :=
  sx_2 Try.prog F 83 (cp [1, 1, 0, 1, 2, 2] (bodyOf Try.f33)) (ap [1, 1, 0, 1, 2] rangetree_Tree_ask_an) [(10, .int .i64 count), (11, .int .i64 sum), (48, .int .i64 t48), (1, .int .i64 x1), (2, .int .i64 x2), (3, .int .i64 y1), (4, .int .i64 y2), (46, .slice t46 t46L t46C), (47, .int .i64 t47)] h (rangetree_Tree_ask_K6 nx0 K)
def rangetree_Tree_ask_b5 (x1 : Int) (x2 : Int) (y1 : Int) (y2 : Int) (count : Int) (sum : Int) (t46 : Option Addr) (t46L : Nat) (t46C : Nat) (t47 : Int) (t48 : Int) (h : Hp) (nx0 : Int × Int × Int × Unit → Hp → Prop) (K : Value → Hp → Prop) : Prop :=
  sx_1 Try.prog F 83 (cp [1, 1, 0, 1, 2, 2, 1, 1, 1] (bodyOf Try.f33)) (ap [1, 1, 0, 1, 2, 1, 1, 1] rangetree_Tree_ask_an) [(1, .int .i64 x1), (2, .int .i64 x2), (3, .int .i64 y1), (4, .int .i64 y2), (10, .int .i64 count), (11, .int .i64 sum), (46, .slice t46 t46L t46C), (47, .int .i64 t47), (48, .int .i64 t48)] h (rangetree_Tree_ask_K6 nx0 K)
def rangetree_Tree_ask_b6 (count : Int) (sum : Int) (h : Hp)  (K : Value → Hp → Prop) : Prop :=
  sx_2 Try.prog F 83 (cp [1, 1, 1] (bodyOf Try.f33)) (ap [1, 1, 1] rangetree_Tree_ask_an) [(10, .int .i64 count), (11, .int .i64 sum)] h (rangetree_Tree_ask_K0  K)
theorem rangetree_Tree_ask_b0_eq (t : Option Addr) (x1 : Int) (x2 : Int) (y1 : Int) (y2 : Int) (h : Hp)  (K : Value → Hp → Prop) : rangetree_Tree_ask_b0 t x1 x2 y1 y2 h  K = (
  NN t fun a1 =>
  ∃ (a2 : Option Addr) (L1 C1 : Nat), cell h (a1.add 1) = some (.slice a2 L1 C1) ∧
  LoopVC ((0, 0, 0, ()) : Int × Int × Int × Unit) h (fun (nx0 : Int × Int × Int × Unit → Hp → Prop) (s1 : Int × Int × Int × Unit) h1 => rangetree_Tree_ask_b1 s1.1 s1.2.1 s1.2.2.1 t x1 x2 y1 y2 a2 L1 C1 (L1 : Int) h1 nx0 K)) := by kernel_rfl
theorem rangetree_Tree_ask_b1_eq (count : Int) (sum : Int) (t23 : Int) (t : Option Addr) (x1 : Int) (x2 : Int) (y1 : Int) (y2 : Int) (t21 : Option Addr) (t21L : Nat) (t21C : Nat) (t22 : Int) (h : Hp) (nx0 : Int × Int × Int × Unit → Hp → Prop) (K : Value → Hp → Prop) : rangetree_Tree_ask_b1 count sum t23 t x1 x2 y1 y2 t21 t21L t21C t22 h nx0 K = (
  cond (decide (t23 < t22))
  ((0 ≤ t23 ∧ t23 < (t21L : Int)) ∧
  NN t21 fun a3 =>
  ∃ p1 : Option Addr, cell h (a3.add (Int.toNat t23 * 1)) = some (.pointer p1) ∧
  HCalls Try.prog 49 #[.pointer p1, .int .i64 x1, .int .i64 x2, .int .i64 y1, .int .i64 y2] h fun v1 h2 => ∃ r1 : Int, ∃ r2 : Int, v1 = .tuple #[.int .i64 r1, .int .i64 r2] ∧
  InR (count + r1) ∧
  InR (sum + r2) ∧
  rangetree_Tree_ask_b2 t x1 x2 y1 y2 (count + r1) (sum + r2) t21 t21L t21C t22 t23 h2 nx0 K)
  (rangetree_Tree_ask_b3 t x1 x2 y1 y2 count sum h  K)) := by kernel_rfl
theorem rangetree_Tree_ask_b2_eq (t : Option Addr) (x1 : Int) (x2 : Int) (y1 : Int) (y2 : Int) (count : Int) (sum : Int) (t21 : Option Addr) (t21L : Nat) (t21C : Nat) (t22 : Int) (t23 : Int) (h : Hp) (nx0 : Int × Int × Int × Unit → Hp → Prop) (K : Value → Hp → Prop) : rangetree_Tree_ask_b2 t x1 x2 y1 y2 count sum t21 t21L t21C t22 t23 h nx0 K = (
  InR (t23 + 1) ∧
  nx0 (count, sum, t23 + 1, ()) h) := by kernel_rfl
theorem rangetree_Tree_ask_b3_eq (t : Option Addr) (x1 : Int) (x2 : Int) (y1 : Int) (y2 : Int) (count : Int) (sum : Int) (h : Hp)  (K : Value → Hp → Prop) : rangetree_Tree_ask_b3 t x1 x2 y1 y2 count sum h  K = (
  NN t fun a4 =>
  ∃ (a5 : Option Addr) (L2 C2 : Nat), cell h (a4.add 2) = some (.slice a5 L2 C2) ∧
  LoopVC ((count, sum, 0, ()) : Int × Int × Int × Unit) h (fun (nx0 : Int × Int × Int × Unit → Hp → Prop) (s2 : Int × Int × Int × Unit) h3 => rangetree_Tree_ask_b4 s2.1 s2.2.1 s2.2.2.1 x1 x2 y1 y2 a5 L2 C2 (L2 : Int) h3 nx0 K)) := by kernel_rfl
theorem rangetree_Tree_ask_b4_eq (count : Int) (sum : Int) (t48 : Int) (x1 : Int) (x2 : Int) (y1 : Int) (y2 : Int) (t46 : Option Addr) (t46L : Nat) (t46C : Nat) (t47 : Int) (h : Hp) (nx0 : Int × Int × Int × Unit → Hp → Prop) (K : Value → Hp → Prop) : rangetree_Tree_ask_b4 count sum t48 x1 x2 y1 y2 t46 t46L t46C t47 h nx0 K = (
  cond (decide (t48 < t47))
  ((0 ≤ t48 ∧ t48 < (t46L : Int)) ∧
  NN t46 fun a6 =>
  ∃ n1 : Int, ∃ n2 : Int, ∃ n3 : Int, cell h (a6.add (Int.toNat t48 * 3)) = some (.int .i64 n1) ∧
  cell h ((a6.add (Int.toNat t48 * 3)).add 1) = some (.int .i64 n2) ∧
  cell h ((a6.add (Int.toNat t48 * 3)).add 2) = some (.int .i64 n3) ∧
  New h (.cells #[.int .i64 0, .int .i64 0, .int .i64 0] 33) fun b1 h4 =>
  Wr h4 ⟨b1, 0, none⟩ (.int .i64 n1) fun h5 =>
  Wr h5 ((⟨b1, 0, none⟩ : Addr).add 1) (.int .i64 n2) fun h6 =>
  Wr h6 ((⟨b1, 0, none⟩ : Addr).add 2) (.int .i64 n3) fun h7 =>
  ∃ n4 : Int, cell h7 ⟨b1, 0, none⟩ = some (.int .i64 n4) ∧
  cond (decide (x1 ≤ n4))
  (∃ n5 : Int, cell h7 ⟨b1, 0, none⟩ = some (.int .i64 n5) ∧
  cond (decide (n5 ≤ x2))
  (∃ n6 : Int, cell h7 ((⟨b1, 0, none⟩ : Addr).add 1) = some (.int .i64 n6) ∧
  cond (decide (y1 ≤ n6))
  (∃ n7 : Int, cell h7 ((⟨b1, 0, none⟩ : Addr).add 1) = some (.int .i64 n7) ∧
  cond (decide (n7 ≤ y2))
  (InR (count - 1) ∧
  ∃ n8 : Int, cell h7 ((⟨b1, 0, none⟩ : Addr).add 2) = some (.int .i64 n8) ∧
  InR (sum - n8) ∧
  rangetree_Tree_ask_b5 x1 x2 y1 y2 (count - 1) (sum - n8) t46 t46L t46C t47 t48 h7 nx0 K)
  (rangetree_Tree_ask_b5 x1 x2 y1 y2 count sum t46 t46L t46C t47 t48 h7 nx0 K))
  (rangetree_Tree_ask_b5 x1 x2 y1 y2 count sum t46 t46L t46C t47 t48 h7 nx0 K))
  (rangetree_Tree_ask_b5 x1 x2 y1 y2 count sum t46 t46L t46C t47 t48 h7 nx0 K))
  (rangetree_Tree_ask_b5 x1 x2 y1 y2 count sum t46 t46L t46C t47 t48 h7 nx0 K))
  (rangetree_Tree_ask_b6 count sum h  K)) := by kernel_rfl
theorem rangetree_Tree_ask_b5_eq (x1 : Int) (x2 : Int) (y1 : Int) (y2 : Int) (count : Int) (sum : Int) (t46 : Option Addr) (t46L : Nat) (t46C : Nat) (t47 : Int) (t48 : Int) (h : Hp) (nx0 : Int × Int × Int × Unit → Hp → Prop) (K : Value → Hp → Prop) : rangetree_Tree_ask_b5 x1 x2 y1 y2 count sum t46 t46L t46C t47 t48 h nx0 K = (
  InR (t48 + 1) ∧
  nx0 (count, sum, t48 + 1, ()) h) := by kernel_rfl
theorem rangetree_Tree_ask_b6_eq (count : Int) (sum : Int) (h : Hp)  (K : Value → Hp → Prop) : rangetree_Tree_ask_b6 count sum h  K = (
  K (.tuple #[.int .i64 count, .int .i64 sum]) h) := by kernel_rfl
theorem rangetree_Tree_ask_call {t : Option Addr} {x1 : Int} {x2 : Int} {y1 : Int} {y2 : Int} {h : Hp} {K : Value → Hp → Prop} (hk : rangetree_Tree_ask_b0 t x1 x2 y1 y2 h K) : HCalls Try.prog 33 #[.pointer t, .int .i64 x1, .int .i64 x2, .int .i64 y1, .int .i64 y2] h K :=
  calls_of_snd rangetree_Tree_ask_an Try.func33 (c := bodyOf Try.f33) rfl Try.ntmps33 (Nat.le_of_ble_eq_true rfl) (snd_4 F_ok F_mixed) hk

/-! ### slices_DeleteFunc_Sapi_Point_api_Point -/
def slices_DeleteFunc_Sapi_Point_api_Point_an : Ann := .node none (.leaf) (.node none (.leaf) (.node none (.leaf) (.node (some [0, 5]) (.node none (.leaf) (.loop [0, 1] [(5, .int .i64), (6, .int .i64)] (.node none (.leaf) (.node (some [0, 1, 5, 6]) (.leaf) (.leaf))))) (.leaf))))
def slices_DeleteFunc_Sapi_Point_api_Point_K0  (K : Value → Hp → Prop) : Exit → Env → Hp → Prop := retK Try.prog Try.f34.results.toList K
def slices_DeleteFunc_Sapi_Point_api_Point_K1  (K : Value → Hp → Prop) : Exit → Env → Hp → Prop := thenE (fun env h => sx_2 Try.prog F 42 (cp [1, 1, 1, 1] (bodyOf Try.f34)) (ap [1, 1, 1, 1] slices_DeleteFunc_Sapi_Point_api_Point_an) (rs [0, 5] env) h (slices_DeleteFunc_Sapi_Point_api_Point_K0  K)) (slices_DeleteFunc_Sapi_Point_api_Point_K0  K)
def slices_DeleteFunc_Sapi_Point_api_Point_K2  (K : Value → Hp → Prop) : Exit → Env → Hp → Prop := blockE 0 (slices_DeleteFunc_Sapi_Point_api_Point_K1  K)
def slices_DeleteFunc_Sapi_Point_api_Point_K3 (nx0 : Int × Int × Unit → Hp → Prop) (K : Value → Hp → Prop) : Exit → Env → Hp → Prop := thenE (fun env h => getV [(5, .int .i64), (6, .int .i64)] env fun s => nx0 s h) (slices_DeleteFunc_Sapi_Point_api_Point_K2  K)
def slices_DeleteFunc_Sapi_Point_api_Point_b0 (s : Option Addr) (sL : Nat) (sC : Nat) (del : Value) (h : Hp)  (K : Value → Hp → Prop) : Prop :=
  sx_3 Try.prog F 42 (cp [] (bodyOf Try.f34)) (ap [] slices_DeleteFunc_Sapi_Point_api_Point_an) [(0, .slice s sL sC), (1, del)] h (slices_DeleteFunc_Sapi_Point_api_Point_K0  K)
def slices_DeleteFunc_Sapi_Point_api_Point_b1 (i : Int) (j : Int) (s : Option Addr) (sL : Nat) (sC : Nat) (del : Value) (h : Hp) (nx0 : Int × Int × Unit → Hp → Prop) (K : Value → Hp → Prop) : Prop :=
  sx_2 Try.prog F 42 (cp [1, 1, 1, 0, 1, 2, 2] (bodyOf Try.f34)) (ap [1, 1, 1, 0, 1, 2] slices_DeleteFunc_Sapi_Point_api_Point_an) [(5, .int .i64 i), (6, .int .i64 j), (0, .slice s sL sC), (1, del)] h (slices_DeleteFunc_Sapi_Point_api_Point_K3 nx0 K)
def slices_DeleteFunc_Sapi_Point_api_Point_b2 (s : Option Addr) (sL : Nat) (sC : Nat) (del : Value) (i : Int) (j : Int) (h : Hp) (nx0 : Int × Int × Unit → Hp → Prop) (K : Value → Hp → Prop) : Prop :=
  sx_1 Try.prog F 42 (cp [1, 1, 1, 0, 1, 2, 2, 1, 1] (bodyOf Try.f34)) (ap [1, 1, 1, 0, 1, 2, 1, 1] slices_DeleteFunc_Sapi_Point_api_Point_an) [(0, .slice s sL sC), (1, del), (5, .int .i64 i), (6, .int .i64 j)] h (slices_DeleteFunc_Sapi_Point_api_Point_K3 nx0 K)
def slices_DeleteFunc_Sapi_Point_api_Point_b3 (s : Option Addr) (sL : Nat) (sC : Nat) (i : Int) (h : Hp)  (K : Value → Hp → Prop) : Prop :=
  sx_2 Try.prog F 42 (cp [1, 1, 1, 1] (bodyOf Try.f34)) (ap [1, 1, 1, 1] slices_DeleteFunc_Sapi_Point_api_Point_an) [(0, .slice s sL sC), (5, .int .i64 i)] h (slices_DeleteFunc_Sapi_Point_api_Point_K0  K)
theorem slices_DeleteFunc_Sapi_Point_api_Point_b0_eq (s : Option Addr) (sL : Nat) (sC : Nat) (del : Value) (h : Hp)  (K : Value → Hp → Prop) : slices_DeleteFunc_Sapi_Point_api_Point_b0 s sL sC del h  K = (
  HCalls Try.prog 44 #[.slice s sL sC, del] h fun v1 h1 => ∃ r1 : Int, v1 = .int .i64 r1 ∧
  cond (decide (r1 = (-1)))
  (K (.slice s sL sC) h1)
  (InR (r1 + 1) ∧
  LoopVC ((r1, r1 + 1, ()) : Int × Int × Unit) h1 (fun (nx0 : Int × Int × Unit → Hp → Prop) (s1 : Int × Int × Unit) h2 => slices_DeleteFunc_Sapi_Point_api_Point_b1 s1.1 s1.2.1 s sL sC del h2 nx0 K))) := by kernel_rfl
theorem slices_DeleteFunc_Sapi_Point_api_Point_b1_eq (i : Int) (j : Int) (s : Option Addr) (sL : Nat) (sC : Nat) (del : Value) (h : Hp) (nx0 : Int × Int × Unit → Hp → Prop) (K : Value → Hp → Prop) : slices_DeleteFunc_Sapi_Point_api_Point_b1 i j s sL sC del h nx0 K = (
  cond (decide (j < (sL : Int)))
  ((0 ≤ j ∧ j < (sL : Int)) ∧
  NN s fun a1 =>
  ∃ n1 : Int, ∃ n2 : Int, ∃ n3 : Int, cell h (a1.add (Int.toNat j * 3)) = some (.int .i64 n1) ∧
  cell h ((a1.add (Int.toNat j * 3)).add 1) = some (.int .i64 n2) ∧
  cell h ((a1.add (Int.toNat j * 3)).add 2) = some (.int .i64 n3) ∧
  New h (.cells #[.int .i64 0, .int .i64 0, .int .i64 0] 33) fun b1 h3 =>
  Wr h3 ⟨b1, 0, none⟩ (.int .i64 n1) fun h4 =>
  Wr h4 ((⟨b1, 0, none⟩ : Addr).add 1) (.int .i64 n2) fun h5 =>
  Wr h5 ((⟨b1, 0, none⟩ : Addr).add 2) (.int .i64 n3) fun h6 =>
  ∃ n4 : Int, ∃ n5 : Int, ∃ n6 : Int, cell h6 ⟨b1, 0, none⟩ = some (.int .i64 n4) ∧
  cell h6 ((⟨b1, 0, none⟩ : Addr).add 1) = some (.int .i64 n5) ∧
  cell h6 ((⟨b1, 0, none⟩ : Addr).add 2) = some (.int .i64 n6) ∧
  funV del fun fg1 fa1 fc1 => callX Try.prog F fg1 (fa1 ++ (([.agg #[.int .i64 n4, .int .i64 n5, .int .i64 n6]] : List Value) ++ fc1)).toArray h6 fun v2 h7 => ∃ r2 : Bool, v2 = .bool r2 ∧
  cond (!r2)
  (∃ n7 : Int, ∃ n8 : Int, ∃ n9 : Int, cell h7 ⟨b1, 0, none⟩ = some (.int .i64 n7) ∧
  cell h7 ((⟨b1, 0, none⟩ : Addr).add 1) = some (.int .i64 n8) ∧
  cell h7 ((⟨b1, 0, none⟩ : Addr).add 2) = some (.int .i64 n9) ∧
  (0 ≤ i ∧ i < (sL : Int)) ∧
  NN s fun a2 =>
  Wr h7 (a2.add (Int.toNat i * 3)) (.int .i64 n7) fun h8 =>
  Wr h8 ((a2.add (Int.toNat i * 3)).add 1) (.int .i64 n8) fun h9 =>
  Wr h9 ((a2.add (Int.toNat i * 3)).add 2) (.int .i64 n9) fun h10 =>
  InR (i + 1) ∧
  slices_DeleteFunc_Sapi_Point_api_Point_b2 s sL sC del (i + 1) j h10 nx0 K)
  (slices_DeleteFunc_Sapi_Point_api_Point_b2 s sL sC del i j h7 nx0 K))
  (slices_DeleteFunc_Sapi_Point_api_Point_b3 s sL sC i h  K)) := by kernel_rfl
theorem slices_DeleteFunc_Sapi_Point_api_Point_b2_eq (s : Option Addr) (sL : Nat) (sC : Nat) (del : Value) (i : Int) (j : Int) (h : Hp) (nx0 : Int × Int × Unit → Hp → Prop) (K : Value → Hp → Prop) : slices_DeleteFunc_Sapi_Point_api_Point_b2 s sL sC del i j h nx0 K = (
  InR (j + 1) ∧
  nx0 (i, j + 1, ()) h) := by kernel_rfl
theorem slices_DeleteFunc_Sapi_Point_api_Point_b3_eq (s : Option Addr) (sL : Nat) (sC : Nat) (i : Int) (h : Hp)  (K : Value → Hp → Prop) : slices_DeleteFunc_Sapi_Point_api_Point_b3 s sL sC i h  K = (
  (0 ≤ i ∧ i ≤ (sL : Int) ∧ (sL : Int) ≤ (sC : Int)) ∧
  clearV Try.prog 22 (.slice (subAddr s sC (Int.toNat i) 3) (Int.toNat (sL : Int) - Int.toNat i) (sC - Int.toNat i)) h fun h11 =>
  (0 ≤ (0 : Int) ∧ (0 : Int) ≤ i ∧ i ≤ (sC : Int)) ∧
  K (.slice (subAddr s sC (Int.toNat (0 : Int)) 3) (Int.toNat i - Int.toNat (0 : Int)) (sC - Int.toNat (0 : Int))) h11) := by kernel_rfl
theorem slices_DeleteFunc_Sapi_Point_api_Point_call {s : Option Addr} {sL : Nat} {sC : Nat} {del : Value} {h : Hp} {K : Value → Hp → Prop} (hk : slices_DeleteFunc_Sapi_Point_api_Point_b0 s sL sC del h K) : HCalls Try.prog 34 #[.slice s sL sC, del] h K :=
  calls_of_snd slices_DeleteFunc_Sapi_Point_api_Point_an Try.func34 (c := bodyOf Try.f34) rfl Try.ntmps34 (Nat.le_of_ble_eq_true rfl) (snd_3 F_ok F_mixed) hk

/-! ### rangetree_Tree_Report_c1 -/
def rangetree_Tree_Report_c1_an : Ann := .leaf
def rangetree_Tree_Report_c1_K0  (K : Value → Hp → Prop) : Exit → Env → Hp → Prop := retK Try.prog Try.f35.results.toList K
def rangetree_Tree_Report_c1_b0 (p_0 : Int) (p_1 : Int) (p_2 : Int) (t1 : Option Addr) (t2 : Option Addr) (t3 : Option Addr) (t4 : Option Addr) (h : Hp)  (K : Value → Hp → Prop) : Prop :=
  sx_1 Try.prog F 29 (cp [] (bodyOf Try.f35)) (ap [] rangetree_Tree_Report_c1_an) [(0, .agg #[.int .i64 p_0, .int .i64 p_1, .int .i64 p_2]), (1, .pointer t1), (2, .pointer t2), (3, .pointer t3), (4, .pointer t4)] h (rangetree_Tree_Report_c1_K0  K)
theorem rangetree_Tree_Report_c1_b0_eq (p_0 : Int) (p_1 : Int) (p_2 : Int) (t1 : Option Addr) (t2 : Option Addr) (t3 : Option Addr) (t4 : Option Addr) (h : Hp)  (K : Value → Hp → Prop) : rangetree_Tree_Report_c1_b0 p_0 p_1 p_2 t1 t2 t3 t4 h  K = (
  New h (.cells #[.int .i64 p_0, .int .i64 p_1, .int .i64 p_2] 33) fun b1 h1 =>
  ∃ n1 : Int, cell h1 ⟨b1, 0, none⟩ = some (.int .i64 n1) ∧
  NN t1 fun a1 =>
  ∃ n2 : Int, cell h1 a1 = some (.int .i64 n2) ∧
  cond (decide (n1 < n2))
  (K (.bool true) h1)
  (∃ n3 : Int, cell h1 ⟨b1, 0, none⟩ = some (.int .i64 n3) ∧
  NN t2 fun a2 =>
  ∃ n4 : Int, cell h1 a2 = some (.int .i64 n4) ∧
  cond (decide (n4 < n3))
  (K (.bool true) h1)
  (∃ n5 : Int, cell h1 ((⟨b1, 0, none⟩ : Addr).add 1) = some (.int .i64 n5) ∧
  NN t3 fun a3 =>
  ∃ n6 : Int, cell h1 a3 = some (.int .i64 n6) ∧
  cond (decide (n5 < n6))
  (K (.bool true) h1)
  (∃ n7 : Int, cell h1 ((⟨b1, 0, none⟩ : Addr).add 1) = some (.int .i64 n7) ∧
  NN t4 fun a4 =>
  ∃ n8 : Int, cell h1 a4 = some (.int .i64 n8) ∧
  K (.bool (decide (n8 < n7))) h1)))) := by kernel_rfl
theorem rangetree_Tree_Report_c1_call {p_0 : Int} {p_1 : Int} {p_2 : Int} {t1 : Option Addr} {t2 : Option Addr} {t3 : Option Addr} {t4 : Option Addr} {h : Hp} {K : Value → Hp → Prop} (hk : rangetree_Tree_Report_c1_b0 p_0 p_1 p_2 t1 t2 t3 t4 h K) : HCalls Try.prog 35 #[.agg #[.int .i64 p_0, .int .i64 p_1, .int .i64 p_2], .pointer t1, .pointer t2, .pointer t3, .pointer t4] h K :=
  calls_of_snd rangetree_Tree_Report_c1_an Try.func35 (c := bodyOf Try.f35) rfl Try.ntmps35 (Nat.le_of_ble_eq_true rfl) (snd_1 F_ok F_mixed) hk

/-! ### r31_Valid -/
/-! ### r31_At -/
/-! ### r31_Put -/
/-! ### r31_Report -/
/-! ### r31_Add -/
/-! ### r31_Remove -/
/-! ### slices_pdqsortOrdered_int -/
def slices_pdqsortOrdered_int_an : Ann := .node none (.leaf) (.node none (.leaf) (.loop [0] [(1, .int .i64), (2, .int .i64), (3, .int .i64), (8, .bool), (9, .bool)] (.node none (.leaf) (.node none (.leaf) (.node none (.leaf) (.node (some [0, 1, 2, 3, 8, 9, 10]) (.leaf) (.node none (.leaf) (.node (some [0, 1, 2, 3, 8, 9, 10, 11, 12]) (.leaf) (.node (some [0, 1, 2, 3, 8, 9, 10, 11]) (.leaf) (.node (some [0, 1, 2, 3, 10, 11]) (.leaf) (.leaf)))))))))))
def slices_pdqsortOrdered_int_K0  (K : Value → Hp → Prop) : Exit → Env → Hp → Prop := retK Try.prog Try.f42.results.toList K
def slices_pdqsortOrdered_int_K1  (K : Value → Hp → Prop) : Exit → Env → Hp → Prop := blockE 0 (slices_pdqsortOrdered_int_K0  K)
def slices_pdqsortOrdered_int_K2 (nx0 : Int × Int × Int × Bool × Bool × Unit → Hp → Prop) (K : Value → Hp → Prop) : Exit → Env → Hp → Prop := thenE (fun env h => getV [(1, .int .i64), (2, .int .i64), (3, .int .i64), (8, .bool), (9, .bool)] env fun s => nx0 s h) (slices_pdqsortOrdered_int_K1  K)
def slices_pdqsortOrdered_int_K3 (nx0 : Int × Int × Int × Bool × Bool × Unit → Hp → Prop) (K : Value → Hp → Prop) : Exit → Env → Hp → Prop := blockE 1 (slices_pdqsortOrdered_int_K2 nx0 K)
def slices_pdqsortOrdered_int_b0 (data : Option Addr) (dataL : Nat) (dataC : Nat) (a : Int) (b : Int) (limit : Int) (h : Hp)  (K : Value → Hp → Prop) : Prop :=
  sx_6 Try.prog F 134 (cp [] (bodyOf Try.f42)) (ap [] slices_pdqsortOrdered_int_an) [(0, .slice data dataL dataC), (1, .int .i64 a), (2, .int .i64 b), (3, .int .i64 limit)] h (slices_pdqsortOrdered_int_K0  K)
def slices_pdqsortOrdered_int_b1 (a : Int) (b : Int) (limit : Int) (wasBalanced : Bool) (wasPartitioned : Bool) (data : Option Addr) (dataL : Nat) (dataC : Nat) (h : Hp) (nx0 : Int × Int × Int × Bool × Bool × Unit → Hp → Prop) (K : Value → Hp → Prop) : Prop :=
  sx_5 Try.prog F 134 (cp [1, 1, 2, 2] (bodyOf Try.f42)) (ap [1, 1, 2] slices_pdqsortOrdered_int_an) [(1, .int .i64 a), (2, .int .i64 b), (3, .int .i64 limit), (8, .bool wasBalanced), (9, .bool wasPartitioned), (0, .slice data dataL dataC)] h (slices_pdqsortOrdered_int_K2 nx0 K)
def slices_pdqsortOrdered_int_b2 (data : Option Addr) (dataL : Nat) (dataC : Nat) (a : Int) (b : Int) (limit : Int) (wasBalanced : Bool) (wasPartitioned : Bool) (length : Int) (h : Hp) (nx0 : Int × Int × Int × Bool × Bool × Unit → Hp → Prop) (K : Value → Hp → Prop) : Prop :=
  sx_4 Try.prog F 134 (cp [1, 1, 2, 2, 2, 1, 1, 1, 1] (bodyOf Try.f42)) (ap [1, 1, 2, 1, 1, 1, 1] slices_pdqsortOrdered_int_an) [(0, .slice data dataL dataC), (1, .int .i64 a), (2, .int .i64 b), (3, .int .i64 limit), (8, .bool wasBalanced), (9, .bool wasPartitioned), (10, .int .i64 length)] h (slices_pdqsortOrdered_int_K3 nx0 K)
def slices_pdqsortOrdered_int_b3 (data : Option Addr) (dataL : Nat) (dataC : Nat) (a : Int) (b : Int) (limit : Int) (wasBalanced : Bool) (wasPartitioned : Bool) (length : Int) (pivot : Int) (hint : Int) (h : Hp) (nx0 : Int × Int × Int × Bool × Bool × Unit → Hp → Prop) (K : Value → Hp → Prop) : Prop :=
  sx_3 Try.prog F 134 (cp [1, 1, 2, 2, 2, 1, 1, 1, 1, 1, 1] (bodyOf Try.f42)) (ap [1, 1, 2, 1, 1, 1, 1, 1, 1] slices_pdqsortOrdered_int_an) [(0, .slice data dataL dataC), (1, .int .i64 a), (2, .int .i64 b), (3, .int .i64 limit), (8, .bool wasBalanced), (9, .bool wasPartitioned), (10, .int .i64 length), (11, .int .i64 pivot), (12, .int .i64 hint)] h (slices_pdqsortOrdered_int_K3 nx0 K)
def slices_pdqsortOrdered_int_b4 (data : Option Addr) (dataL : Nat) (dataC : Nat) (a : Int) (b : Int) (limit : Int) (wasBalanced : Bool) (wasPartitioned : Bool) (length : Int) (pivot : Int) (h : Hp) (nx0 : Int × Int × Int × Bool × Bool × Unit → Hp → Prop) (K : Value → Hp → Prop) : Prop :=
  sx_2 Try.prog F 134 (cp [1, 1, 2, 2, 2, 1, 1, 1, 1, 1, 1, 1] (bodyOf Try.f42)) (ap [1, 1, 2, 1, 1, 1, 1, 1, 1, 1] slices_pdqsortOrdered_int_an) [(0, .slice data dataL dataC), (1, .int .i64 a), (2, .int .i64 b), (3, .int .i64 limit), (8, .bool wasBalanced), (9, .bool wasPartitioned), (10, .int .i64 length), (11, .int .i64 pivot)] h (slices_pdqsortOrdered_int_K3 nx0 K)
def slices_pdqsortOrdered_int_b5 (data : Option Addr) (dataL : Nat) (dataC : Nat) (a : Int) (b : Int) (limit : Int) (length : Int) (pivot : Int) (h : Hp) (nx0 : Int × Int × Int × Bool × Bool × Unit → Hp → Prop) (K : Value → Hp → Prop) : Prop :=
  sx_1 Try.prog F 134 (cp [1, 1, 2, 2, 2, 1, 1, 1, 1, 1, 1, 1, 1] (bodyOf Try.f42)) (ap [1, 1, 2, 1, 1, 1, 1, 1, 1, 1, 1] slices_pdqsortOrdered_int_an) [(0, .slice data dataL dataC), (1, .int .i64 a), (2, .int .i64 b), (3, .int .i64 limit), (10, .int .i64 length), (11, .int .i64 pivot)] h (slices_pdqsortOrdered_int_K3 nx0 K)
theorem slices_pdqsortOrdered_int_b0_eq (data : Option Addr) (dataL : Nat) (dataC : Nat) (a : Int) (b : Int) (limit : Int) (h : Hp)  (K : Value → Hp → Prop) : slices_pdqsortOrdered_int_b0 data dataL dataC a b limit h  K = (
  LoopVC ((a, b, limit, true, true, ()) : Int × Int × Int × Bool × Bool × Unit) h (fun (nx0 : Int × Int × Int × Bool × Bool × Unit → Hp → Prop) (s1 : Int × Int × Int × Bool × Bool × Unit) h1 => slices_pdqsortOrdered_int_b1 s1.1 s1.2.1 s1.2.2.1 s1.2.2.2.1 s1.2.2.2.2.1 data dataL dataC h1 nx0 K)) := by kernel_rfl
theorem slices_pdqsortOrdered_int_b1_eq (a : Int) (b : Int) (limit : Int) (wasBalanced : Bool) (wasPartitioned : Bool) (data : Option Addr) (dataL : Nat) (dataC : Nat) (h : Hp) (nx0 : Int × Int × Int × Bool × Bool × Unit → Hp → Prop) (K : Value → Hp → Prop) : slices_pdqsortOrdered_int_b1 a b limit wasBalanced wasPartitioned data dataL dataC h nx0 K = (
  InR (b - a) ∧
  cond (decide ((b - a) ≤ 12))
  (HCalls Try.prog 52 #[.slice data dataL dataC, .int .i64 a, .int .i64 b] h fun v1 h2 => v1 = .tuple #[] ∧
  K (.tuple #[]) h2)
  (cond (decide (limit = 0))
  (HCalls Try.prog 53 #[.slice data dataL dataC, .int .i64 a, .int .i64 b] h fun v2 h3 => v2 = .tuple #[] ∧
  K (.tuple #[]) h3)
  (cond (!wasBalanced)
  (HCalls Try.prog 54 #[.slice data dataL dataC, .int .i64 a, .int .i64 b] h fun v3 h4 => v3 = .tuple #[] ∧
  InR (limit - 1) ∧
  slices_pdqsortOrdered_int_b2 data dataL dataC a b (limit - 1) wasBalanced wasPartitioned (b - a) h4 nx0 K)
  (slices_pdqsortOrdered_int_b2 data dataL dataC a b limit wasBalanced wasPartitioned (b - a) h nx0 K)))) := by kernel_rfl
theorem slices_pdqsortOrdered_int_b2_eq (data : Option Addr) (dataL : Nat) (dataC : Nat) (a : Int) (b : Int) (limit : Int) (wasBalanced : Bool) (wasPartitioned : Bool) (length : Int) (h : Hp) (nx0 : Int × Int × Int × Bool × Bool × Unit → Hp → Prop) (K : Value → Hp → Prop) : slices_pdqsortOrdered_int_b2 data dataL dataC a b limit wasBalanced wasPartitioned length h nx0 K = (
  HCalls Try.prog 55 #[.slice data dataL dataC, .int .i64 a, .int .i64 b] h fun v4 h5 => ∃ r1 : Int, ∃ r2 : Int, v4 = .tuple #[.int .i64 r1, .int .i64 r2] ∧
  cond (decide (r2 = 2))
  (HCalls Try.prog 56 #[.slice data dataL dataC, .int .i64 a, .int .i64 b] h5 fun v5 h6 => v5 = .tuple #[] ∧
  InR (b - 1) ∧
  InR (r1 - a) ∧
  InR ((b - 1) - (r1 - a)) ∧
  slices_pdqsortOrdered_int_b3 data dataL dataC a b limit wasBalanced wasPartitioned length ((b - 1) - (r1 - a)) 1 h6 nx0 K)
  (slices_pdqsortOrdered_int_b3 data dataL dataC a b limit wasBalanced wasPartitioned length r1 r2 h5 nx0 K)) := by kernel_rfl
theorem slices_pdqsortOrdered_int_b3_eq (data : Option Addr) (dataL : Nat) (dataC : Nat) (a : Int) (b : Int) (limit : Int) (wasBalanced : Bool) (wasPartitioned : Bool) (length : Int) (pivot : Int) (hint : Int) (h : Hp) (nx0 : Int × Int × Int × Bool × Bool × Unit → Hp → Prop) (K : Value → Hp → Prop) : slices_pdqsortOrdered_int_b3 data dataL dataC a b limit wasBalanced wasPartitioned length pivot hint h nx0 K = (
  cond wasBalanced
  (cond wasPartitioned
  (cond (decide (hint = 1))
  (HCalls Try.prog 57 #[.slice data dataL dataC, .int .i64 a, .int .i64 b] h fun v6 h7 => ∃ r3 : Bool, v6 = .bool r3 ∧
  cond r3
  (K (.tuple #[]) h7)
  (slices_pdqsortOrdered_int_b4 data dataL dataC a b limit wasBalanced wasPartitioned length pivot h7 nx0 K))
  (slices_pdqsortOrdered_int_b4 data dataL dataC a b limit wasBalanced wasPartitioned length pivot h nx0 K))
  (slices_pdqsortOrdered_int_b4 data dataL dataC a b limit wasBalanced wasPartitioned length pivot h nx0 K))
  (slices_pdqsortOrdered_int_b4 data dataL dataC a b limit wasBalanced wasPartitioned length pivot h nx0 K)) := by kernel_rfl
theorem slices_pdqsortOrdered_int_b4_eq (data : Option Addr) (dataL : Nat) (dataC : Nat) (a : Int) (b : Int) (limit : Int) (wasBalanced : Bool) (wasPartitioned : Bool) (length : Int) (pivot : Int) (h : Hp) (nx0 : Int × Int × Int × Bool × Bool × Unit → Hp → Prop) (K : Value → Hp → Prop) : slices_pdqsortOrdered_int_b4 data dataL dataC a b limit wasBalanced wasPartitioned length pivot h nx0 K = (
  cond (decide ((0 : Int) < a))
  (InR (a - 1) ∧
  (0 ≤ a - 1 ∧ a - 1 < (dataL : Int)) ∧
  NN data fun a1 =>
  ∃ n1 : Int, cell h (a1.add (Int.toNat (a - 1) * 1)) = some (.int .i64 n1) ∧
  (0 ≤ pivot ∧ pivot < (dataL : Int)) ∧
  NN data fun a2 =>
  ∃ n2 : Int, cell h (a2.add (Int.toNat pivot * 1)) = some (.int .i64 n2) ∧
  ∃ r4 : Bool, HCalls Try.prog 58 #[.int .i64 n1, .int .i64 n2] h (fun v7 h8 => v7 = .bool r4 ∧ h8 = h) ∧
  cond (!r4)
  (HCalls Try.prog 59 #[.slice data dataL dataC, .int .i64 a, .int .i64 b, .int .i64 pivot] h fun v8 h9 => ∃ r5 : Int, v8 = .int .i64 r5 ∧
  nx0 (r5, b, limit, wasBalanced, wasPartitioned, ()) h9)
  (slices_pdqsortOrdered_int_b5 data dataL dataC a b limit length pivot h nx0 K))
  (slices_pdqsortOrdered_int_b5 data dataL dataC a b limit length pivot h nx0 K)) := by kernel_rfl
theorem slices_pdqsortOrdered_int_b5_eq (data : Option Addr) (dataL : Nat) (dataC : Nat) (a : Int) (b : Int) (limit : Int) (length : Int) (pivot : Int) (h : Hp) (nx0 : Int × Int × Int × Bool × Bool × Unit → Hp → Prop) (K : Value → Hp → Prop) : slices_pdqsortOrdered_int_b5 data dataL dataC a b limit length pivot h nx0 K = (
  HCalls Try.prog 60 #[.slice data dataL dataC, .int .i64 a, .int .i64 b, .int .i64 pivot] h fun v9 h10 => ∃ r6 : Int, ∃ r7 : Bool, v9 = .tuple #[.int .i64 r6, .bool r7] ∧
  InR (r6 - a) ∧
  InR (b - r6) ∧
  ∃ q1 : Int, Sx.Quo .i64 length 8 q1 ∧
  cond (decide ((r6 - a) < (b - r6)))
  (HCalls Try.prog 42 #[.slice data dataL dataC, .int .i64 a, .int .i64 r6, .int .i64 limit] h10 fun v10 h11 => v10 = .tuple #[] ∧
  InR (r6 + 1) ∧
  nx0 (r6 + 1, b, limit, decide (q1 ≤ (r6 - a)), r7, ()) h11)
  (InR (r6 + 1) ∧
  HCalls Try.prog 42 #[.slice data dataL dataC, .int .i64 (r6 + 1), .int .i64 b, .int .i64 limit] h10 fun v11 h12 => v11 = .tuple #[] ∧
  nx0 (a, r6, limit, decide (q1 ≤ (b - r6)), r7, ()) h12)) := by kernel_rfl
theorem slices_pdqsortOrdered_int_call {data : Option Addr} {dataL : Nat} {dataC : Nat} {a : Int} {b : Int} {limit : Int} {h : Hp} {K : Value → Hp → Prop} (hk : slices_pdqsortOrdered_int_b0 data dataL dataC a b limit h K) : HCalls Try.prog 42 #[.slice data dataL dataC, .int .i64 a, .int .i64 b, .int .i64 limit] h K :=
  calls_of_snd slices_pdqsortOrdered_int_an Try.func42 (c := bodyOf Try.f42) rfl Try.ntmps42 (Nat.le_of_ble_eq_true rfl) (snd_6 F_ok F_mixed) hk

/-! ### math_bits_Len -/
def math_bits_Len_an : Ann := .leaf
def math_bits_Len_K0  (K : Value → Hp → Prop) : Exit → Env → Hp → Prop := retK Try.prog Try.f43.results.toList K
def math_bits_Len_b0 (x : Int) (h : Hp)  (K : Value → Hp → Prop) : Prop :=
  sx_1 Try.prog F 8 (cp [] (bodyOf Try.f43)) (ap [] math_bits_Len_an) [(0, .int .u64 x)] h (math_bits_Len_K0  K)
theorem math_bits_Len_b0_eq (x : Int) (h : Hp)  (K : Value → Hp → Prop) : math_bits_Len_b0 x h  K = (
  HCalls Try.prog 62 #[.int .u64 x] h fun v1 h1 => ∃ r1 : Int, v1 = .int .i64 r1 ∧
  K (.int .i64 r1) h1) := by kernel_rfl
theorem math_bits_Len_call {x : Int} {h : Hp} {K : Value → Hp → Prop} (hk : math_bits_Len_b0 x h K) : HCalls Try.prog 43 #[.int .u64 x] h K :=
  calls_of_snd math_bits_Len_an Try.func43 (c := bodyOf Try.f43) rfl Try.ntmps43 (Nat.le_of_ble_eq_true rfl) (snd_1 F_ok F_mixed) hk

/-! ### slices_IndexFunc_Sapi_Point_api_Point -/
def slices_IndexFunc_Sapi_Point_api_Point_an : Ann := .node none (.leaf) (.node (some []) (.node none (.leaf) (.loop [0, 1, 7] [(8, .int .i64)] (.node none (.leaf) (.node none (.leaf) (.node (some [0, 1, 7, 8]) (.leaf) (.leaf)))))) (.leaf))
def slices_IndexFunc_Sapi_Point_api_Point_K0  (K : Value → Hp → Prop) : Exit → Env → Hp → Prop := retK Try.prog Try.f44.results.toList K
def slices_IndexFunc_Sapi_Point_api_Point_K1  (K : Value → Hp → Prop) : Exit → Env → Hp → Prop := thenE (fun env h => sx_2 Try.prog F 19 (cp [1, 1] (bodyOf Try.f44)) (ap [1, 1] slices_IndexFunc_Sapi_Point_api_Point_an) (rs [] env) h (slices_IndexFunc_Sapi_Point_api_Point_K0  K)) (slices_IndexFunc_Sapi_Point_api_Point_K0  K)
def slices_IndexFunc_Sapi_Point_api_Point_K2  (K : Value → Hp → Prop) : Exit → Env → Hp → Prop := blockE 0 (slices_IndexFunc_Sapi_Point_api_Point_K1  K)
def slices_IndexFunc_Sapi_Point_api_Point_K3 (nx0 : Int × Unit → Hp → Prop) (K : Value → Hp → Prop) : Exit → Env → Hp → Prop := thenE (fun env h => getV [(8, .int .i64)] env fun s => nx0 s h) (slices_IndexFunc_Sapi_Point_api_Point_K2  K)
def slices_IndexFunc_Sapi_Point_api_Point_b0 (s : Option Addr) (sL : Nat) (sC : Nat) (f : Value) (h : Hp)  (K : Value → Hp → Prop) : Prop :=
  sx_3 Try.prog F 19 (cp [] (bodyOf Try.f44)) (ap [] slices_IndexFunc_Sapi_Point_api_Point_an) [(0, .slice s sL sC), (1, f)] h (slices_IndexFunc_Sapi_Point_api_Point_K0  K)
def slices_IndexFunc_Sapi_Point_api_Point_b1 (t8 : Int) (s : Option Addr) (sL : Nat) (sC : Nat) (f : Value) (t7 : Int) (h : Hp) (nx0 : Int × Unit → Hp → Prop) (K : Value → Hp → Prop) : Prop :=
  sx_2 Try.prog F 19 (cp [1, 0, 1, 2, 2] (bodyOf Try.f44)) (ap [1, 0, 1, 2] slices_IndexFunc_Sapi_Point_api_Point_an) [(8, .int .i64 t8), (0, .slice s sL sC), (1, f), (7, .int .i64 t7)] h (slices_IndexFunc_Sapi_Point_api_Point_K3 nx0 K)
def slices_IndexFunc_Sapi_Point_api_Point_b2 (s : Option Addr) (sL : Nat) (sC : Nat) (f : Value) (t7 : Int) (t8 : Int) (h : Hp) (nx0 : Int × Unit → Hp → Prop) (K : Value → Hp → Prop) : Prop :=
  sx_1 Try.prog F 19 (cp [1, 0, 1, 2, 2, 1, 1, 1] (bodyOf Try.f44)) (ap [1, 0, 1, 2, 1, 1, 1] slices_IndexFunc_Sapi_Point_api_Point_an) [(0, .slice s sL sC), (1, f), (7, .int .i64 t7), (8, .int .i64 t8)] h (slices_IndexFunc_Sapi_Point_api_Point_K3 nx0 K)
def slices_IndexFunc_Sapi_Point_api_Point_b3  (h : Hp)  (K : Value → Hp → Prop) : Prop :=
  sx_2 Try.prog F 19 (cp [1, 1] (bodyOf Try.f44)) (ap [1, 1] slices_IndexFunc_Sapi_Point_api_Point_an) [] h (slices_IndexFunc_Sapi_Point_api_Point_K0  K)
theorem slices_IndexFunc_Sapi_Point_api_Point_b0_eq (s : Option Addr) (sL : Nat) (sC : Nat) (f : Value) (h : Hp)  (K : Value → Hp → Prop) : slices_IndexFunc_Sapi_Point_api_Point_b0 s sL sC f h  K = (
  LoopVC ((0, ()) : Int × Unit) h (fun (nx0 : Int × Unit → Hp → Prop) (s1 : Int × Unit) h1 => slices_IndexFunc_Sapi_Point_api_Point_b1 s1.1 s sL sC f (sL : Int) h1 nx0 K)) := by kernel_rfl
theorem slices_IndexFunc_Sapi_Point_api_Point_b1_eq (t8 : Int) (s : Option Addr) (sL : Nat) (sC : Nat) (f : Value) (t7 : Int) (h : Hp) (nx0 : Int × Unit → Hp → Prop) (K : Value → Hp → Prop) : slices_IndexFunc_Sapi_Point_api_Point_b1 t8 s sL sC f t7 h nx0 K = (
  cond (decide (t8 < t7))
  ((0 ≤ t8 ∧ t8 < (sL : Int)) ∧
  NN s fun a1 =>
  ∃ n1 : Int, ∃ n2 : Int, ∃ n3 : Int, cell h (a1.add (Int.toNat t8 * 3)) = some (.int .i64 n1) ∧
  cell h ((a1.add (Int.toNat t8 * 3)).add 1) = some (.int .i64 n2) ∧
  cell h ((a1.add (Int.toNat t8 * 3)).add 2) = some (.int .i64 n3) ∧
  funV f fun fg1 fa1 fc1 => callX Try.prog F fg1 (fa1 ++ (([.agg #[.int .i64 n1, .int .i64 n2, .int .i64 n3]] : List Value) ++ fc1)).toArray h fun v1 h2 => ∃ r1 : Bool, v1 = .bool r1 ∧
  cond r1
  (K (.int .i64 t8) h2)
  (slices_IndexFunc_Sapi_Point_api_Point_b2 s sL sC f t7 t8 h2 nx0 K))
  (slices_IndexFunc_Sapi_Point_api_Point_b3  h  K)) := by kernel_rfl
theorem slices_IndexFunc_Sapi_Point_api_Point_b2_eq (s : Option Addr) (sL : Nat) (sC : Nat) (f : Value) (t7 : Int) (t8 : Int) (h : Hp) (nx0 : Int × Unit → Hp → Prop) (K : Value → Hp → Prop) : slices_IndexFunc_Sapi_Point_api_Point_b2 s sL sC f t7 t8 h nx0 K = (
  InR (t8 + 1) ∧
  nx0 (t8 + 1, ()) h) := by kernel_rfl
theorem slices_IndexFunc_Sapi_Point_api_Point_b3_eq  (h : Hp)  (K : Value → Hp → Prop) : slices_IndexFunc_Sapi_Point_api_Point_b3  h  K = (
  K (.int .i64 (-1)) h) := by kernel_rfl
theorem slices_IndexFunc_Sapi_Point_api_Point_call {s : Option Addr} {sL : Nat} {sC : Nat} {f : Value} {h : Hp} {K : Value → Hp → Prop} (hk : slices_IndexFunc_Sapi_Point_api_Point_b0 s sL sC f h K) : HCalls Try.prog 44 #[.slice s sL sC, f] h K :=
  calls_of_snd slices_IndexFunc_Sapi_Point_api_Point_an Try.func44 (c := bodyOf Try.f44) rfl Try.ntmps44 (Nat.le_of_ble_eq_true rfl) (snd_3 F_ok F_mixed) hk

/-! ### rangetree_newPart -/
def rangetree_newPart_an : Ann := .leaf
def rangetree_newPart_K0  (K : Value → Hp → Prop) : Exit → Env → Hp → Prop := retK Try.prog Try.f45.results.toList K
def rangetree_newPart_b0 (l : Option Addr) (lL : Nat) (lC : Nat) (h : Hp)  (K : Value → Hp → Prop) : Prop :=
  sx_1 Try.prog F 13 (cp [] (bodyOf Try.f45)) (ap [] rangetree_newPart_an) [(0, .slice l lL lC)] h (rangetree_newPart_K0  K)
theorem rangetree_newPart_b0_eq (l : Option Addr) (lL : Nat) (lC : Nat) (h : Hp)  (K : Value → Hp → Prop) : rangetree_newPart_b0 l lL lC h  K = (
  HCalls Try.prog 63 #[.slice l lL lC] h fun v1 h1 => ∃ (r1 : Option Addr) (rL1 rC1 : Nat), v1 = .slice r1 rL1 rC1 ∧
  HCalls Try.prog 64 #[.slice r1 rL1 rC1, .func (.func 32) #[] #[]] h1 fun v2 h2 => v2 = .tuple #[] ∧
  HCalls Try.prog 65 #[.slice r1 rL1 rC1] h2 fun v3 h3 => ∃ r2 : Option Addr, v3 = .pointer r2 ∧
  New h3 (.cells #[.slice r1 rL1 rC1, .pointer r2] 74) fun b1 h4 =>
  K (.pointer (some ⟨b1, 0, none⟩)) h4) := by kernel_rfl
theorem rangetree_newPart_call {l : Option Addr} {lL : Nat} {lC : Nat} {h : Hp} {K : Value → Hp → Prop} (hk : rangetree_newPart_b0 l lL lC h K) : HCalls Try.prog 45 #[.slice l lL lC] h K :=
  calls_of_snd rangetree_newPart_an Try.func45 (c := bodyOf Try.f45) rfl Try.ntmps45 (Nat.le_of_ble_eq_true rfl) (snd_1 F_ok F_mixed) hk

/-! ### slices_pdqsortCmpFunc_api_Point -/
def slices_pdqsortCmpFunc_api_Point_an : Ann := .node none (.leaf) (.node none (.leaf) (.loop [0, 4] [(1, .int .i64), (2, .int .i64), (3, .int .i64), (10, .bool), (11, .bool)] (.node none (.leaf) (.node none (.leaf) (.node none (.leaf) (.node (some [0, 1, 2, 3, 4, 10, 11, 12]) (.leaf) (.node none (.leaf) (.node (some [0, 1, 2, 3, 4, 10, 11, 12, 13, 14]) (.leaf) (.node (some [0, 1, 2, 3, 4, 10, 11, 12, 13]) (.leaf) (.node (some [0, 1, 2, 3, 4, 12, 13]) (.node none (.tail 13) (.leaf)) (.leaf)))))))))))
def slices_pdqsortCmpFunc_api_Point_K0  (K : Value → Hp → Prop) : Exit → Env → Hp → Prop := retK Try.prog Try.f46.results.toList K
def slices_pdqsortCmpFunc_api_Point_K1  (K : Value → Hp → Prop) : Exit → Env → Hp → Prop := blockE 0 (slices_pdqsortCmpFunc_api_Point_K0  K)
def slices_pdqsortCmpFunc_api_Point_K2 (nx0 : Int × Int × Int × Bool × Bool × Unit → Hp → Prop) (K : Value → Hp → Prop) : Exit → Env → Hp → Prop := thenE (fun env h => getV [(1, .int .i64), (2, .int .i64), (3, .int .i64), (10, .bool), (11, .bool)] env fun s => nx0 s h) (slices_pdqsortCmpFunc_api_Point_K1  K)
def slices_pdqsortCmpFunc_api_Point_K3 (nx0 : Int × Int × Int × Bool × Bool × Unit → Hp → Prop) (K : Value → Hp → Prop) : Exit → Env → Hp → Prop := blockE 1 (slices_pdqsortCmpFunc_api_Point_K2 nx0 K)
def slices_pdqsortCmpFunc_api_Point_b0 (data : Option Addr) (dataL : Nat) (dataC : Nat) (a : Int) (b : Int) (limit : Int) (cmp : Value) (h : Hp)  (K : Value → Hp → Prop) : Prop :=
  sx_6 Try.prog F 148 (cp [] (bodyOf Try.f46)) (ap [] slices_pdqsortCmpFunc_api_Point_an) [(0, .slice data dataL dataC), (1, .int .i64 a), (2, .int .i64 b), (3, .int .i64 limit), (4, cmp)] h (slices_pdqsortCmpFunc_api_Point_K0  K)
def slices_pdqsortCmpFunc_api_Point_b1 (a : Int) (b : Int) (limit : Int) (wasBalanced : Bool) (wasPartitioned : Bool) (data : Option Addr) (dataL : Nat) (dataC : Nat) (cmp : Value) (h : Hp) (nx0 : Int × Int × Int × Bool × Bool × Unit → Hp → Prop) (K : Value → Hp → Prop) : Prop :=
  sx_5 Try.prog F 148 (cp [1, 1, 2, 2] (bodyOf Try.f46)) (ap [1, 1, 2] slices_pdqsortCmpFunc_api_Point_an) [(1, .int .i64 a), (2, .int .i64 b), (3, .int .i64 limit), (10, .bool wasBalanced), (11, .bool wasPartitioned), (0, .slice data dataL dataC), (4, cmp)] h (slices_pdqsortCmpFunc_api_Point_K2 nx0 K)
def slices_pdqsortCmpFunc_api_Point_b2 (data : Option Addr) (dataL : Nat) (dataC : Nat) (a : Int) (b : Int) (limit : Int) (cmp : Value) (wasBalanced : Bool) (wasPartitioned : Bool) (length : Int) (h : Hp) (nx0 : Int × Int × Int × Bool × Bool × Unit → Hp → Prop) (K : Value → Hp → Prop) : Prop :=
  sx_4 Try.prog F 148 (cp [1, 1, 2, 2, 2, 1, 1, 1, 1] (bodyOf Try.f46)) (ap [1, 1, 2, 1, 1, 1, 1] slices_pdqsortCmpFunc_api_Point_an) [(0, .slice data dataL dataC), (1, .int .i64 a), (2, .int .i64 b), (3, .int .i64 limit), (4, cmp), (10, .bool wasBalanced), (11, .bool wasPartitioned), (12, .int .i64 length)] h (slices_pdqsortCmpFunc_api_Point_K3 nx0 K)
def slices_pdqsortCmpFunc_api_Point_b3 (data : Option Addr) (dataL : Nat) (dataC : Nat) (a : Int) (b : Int) (limit : Int) (cmp : Value) (wasBalanced : Bool) (wasPartitioned : Bool) (length : Int) (pivot : Int) (hint : Int) (h : Hp) (nx0 : Int × Int × Int × Bool × Bool × Unit → Hp → Prop) (K : Value → Hp → Prop) : Prop :=
  sx_3 Try.prog F 148 (cp [1, 1, 2, 2, 2, 1, 1, 1, 1, 1, 1] (bodyOf Try.f46)) (ap [1, 1, 2, 1, 1, 1, 1, 1, 1] slices_pdqsortCmpFunc_api_Point_an) [(0, .slice data dataL dataC), (1, .int .i64 a), (2, .int .i64 b), (3, .int .i64 limit), (4, cmp), (10, .bool wasBalanced), (11, .bool wasPartitioned), (12, .int .i64 length), (13, .int .i64 pivot), (14, .int .i64 hint)] h (slices_pdqsortCmpFunc_api_Point_K3 nx0 K)
def slices_pdqsortCmpFunc_api_Point_b4 (data : Option Addr) (dataL : Nat) (dataC : Nat) (a : Int) (b : Int) (limit : Int) (cmp : Value) (wasBalanced : Bool) (wasPartitioned : Bool) (length : Int) (pivot : Int) (h : Hp) (nx0 : Int × Int × Int × Bool × Bool × Unit → Hp → Prop) (K : Value → Hp → Prop) : Prop :=
  sx_2 Try.prog F 148 (cp [1, 1, 2, 2, 2, 1, 1, 1, 1, 1, 1, 1] (bodyOf Try.f46)) (ap [1, 1, 2, 1, 1, 1, 1, 1, 1, 1] slices_pdqsortCmpFunc_api_Point_an) [(0, .slice data dataL dataC), (1, .int .i64 a), (2, .int .i64 b), (3, .int .i64 limit), (4, cmp), (10, .bool wasBalanced), (11, .bool wasPartitioned), (12, .int .i64 length), (13, .int .i64 pivot)] h (slices_pdqsortCmpFunc_api_Point_K3 nx0 K)
def slices_pdqsortCmpFunc_api_Point_b5 (data : Option Addr) (dataL : Nat) (dataC : Nat) (a : Int) (b : Int) (limit : Int) (cmp : Value) (length : Int) (pivot : Int) (h : Hp) (nx0 : Int × Int × Int × Bool × Bool × Unit → Hp → Prop) (K : Value → Hp → Prop) : Prop :=
  sx_1 Try.prog F 148 (cp [1, 1, 2, 2, 2, 1, 1, 1, 1, 1, 1, 1, 1] (bodyOf Try.f46)) (ap [1, 1, 2, 1, 1, 1, 1, 1, 1, 1, 1] slices_pdqsortCmpFunc_api_Point_an) [(0, .slice data dataL dataC), (1, .int .i64 a), (2, .int .i64 b), (3, .int .i64 limit), (4, cmp), (12, .int .i64 length), (13, .int .i64 pivot)] h (slices_pdqsortCmpFunc_api_Point_K3 nx0 K)
theorem slices_pdqsortCmpFunc_api_Point_b0_eq (data : Option Addr) (dataL : Nat) (dataC : Nat) (a : Int) (b : Int) (limit : Int) (cmp : Value) (h : Hp)  (K : Value → Hp → Prop) : slices_pdqsortCmpFunc_api_Point_b0 data dataL dataC a b limit cmp h  K = (
  LoopVC ((a, b, limit, true, true, ()) : Int × Int × Int × Bool × Bool × Unit) h (fun (nx0 : Int × Int × Int × Bool × Bool × Unit → Hp → Prop) (s1 : Int × Int × Int × Bool × Bool × Unit) h1 => slices_pdqsortCmpFunc_api_Point_b1 s1.1 s1.2.1 s1.2.2.1 s1.2.2.2.1 s1.2.2.2.2.1 data dataL dataC cmp h1 nx0 K)) := by kernel_rfl
theorem slices_pdqsortCmpFunc_api_Point_b1_eq (a : Int) (b : Int) (limit : Int) (wasBalanced : Bool) (wasPartitioned : Bool) (data : Option Addr) (dataL : Nat) (dataC : Nat) (cmp : Value) (h : Hp) (nx0 : Int × Int × Int × Bool × Bool × Unit → Hp → Prop) (K : Value → Hp → Prop) : slices_pdqsortCmpFunc_api_Point_b1 a b limit wasBalanced wasPartitioned data dataL dataC cmp h nx0 K = (
  InR (b - a) ∧
  cond (decide ((b - a) ≤ 12))
  (HCalls Try.prog 66 #[.slice data dataL dataC, .int .i64 a, .int .i64 b, cmp] h fun v1 h2 => v1 = .tuple #[] ∧
  K (.tuple #[]) h2)
  (cond (decide (limit = 0))
  (HCalls Try.prog 67 #[.slice data dataL dataC, .int .i64 a, .int .i64 b, cmp] h fun v2 h3 => v2 = .tuple #[] ∧
  K (.tuple #[]) h3)
  (cond (!wasBalanced)
  (HCalls Try.prog 68 #[.slice data dataL dataC, .int .i64 a, .int .i64 b, cmp] h fun v3 h4 => v3 = .tuple #[] ∧
  InR (limit - 1) ∧
  slices_pdqsortCmpFunc_api_Point_b2 data dataL dataC a b (limit - 1) cmp wasBalanced wasPartitioned (b - a) h4 nx0 K)
  (slices_pdqsortCmpFunc_api_Point_b2 data dataL dataC a b limit cmp wasBalanced wasPartitioned (b - a) h nx0 K)))) := by kernel_rfl
theorem slices_pdqsortCmpFunc_api_Point_b2_eq (data : Option Addr) (dataL : Nat) (dataC : Nat) (a : Int) (b : Int) (limit : Int) (cmp : Value) (wasBalanced : Bool) (wasPartitioned : Bool) (length : Int) (h : Hp) (nx0 : Int × Int × Int × Bool × Bool × Unit → Hp → Prop) (K : Value → Hp → Prop) : slices_pdqsortCmpFunc_api_Point_b2 data dataL dataC a b limit cmp wasBalanced wasPartitioned length h nx0 K = (
  HCalls Try.prog 69 #[.slice data dataL dataC, .int .i64 a, .int .i64 b, cmp] h fun v4 h5 => ∃ r1 : Int, ∃ r2 : Int, v4 = .tuple #[.int .i64 r1, .int .i64 r2] ∧
  cond (decide (r2 = 2))
  (HCalls Try.prog 70 #[.slice data dataL dataC, .int .i64 a, .int .i64 b, cmp] h5 fun v5 h6 => v5 = .tuple #[] ∧
  InR (b - 1) ∧
  InR (r1 - a) ∧
  InR ((b - 1) - (r1 - a)) ∧
  slices_pdqsortCmpFunc_api_Point_b3 data dataL dataC a b limit cmp wasBalanced wasPartitioned length ((b - 1) - (r1 - a)) 1 h6 nx0 K)
  (slices_pdqsortCmpFunc_api_Point_b3 data dataL dataC a b limit cmp wasBalanced wasPartitioned length r1 r2 h5 nx0 K)) := by kernel_rfl
theorem slices_pdqsortCmpFunc_api_Point_b3_eq (data : Option Addr) (dataL : Nat) (dataC : Nat) (a : Int) (b : Int) (limit : Int) (cmp : Value) (wasBalanced : Bool) (wasPartitioned : Bool) (length : Int) (pivot : Int) (hint : Int) (h : Hp) (nx0 : Int × Int × Int × Bool × Bool × Unit → Hp → Prop) (K : Value → Hp → Prop) : slices_pdqsortCmpFunc_api_Point_b3 data dataL dataC a b limit cmp wasBalanced wasPartitioned length pivot hint h nx0 K = (
  cond wasBalanced
  (cond wasPartitioned
  (cond (decide (hint = 1))
  (HCalls Try.prog 71 #[.slice data dataL dataC, .int .i64 a, .int .i64 b, cmp] h fun v6 h7 => ∃ r3 : Bool, v6 = .bool r3 ∧
  cond r3
  (K (.tuple #[]) h7)
  (slices_pdqsortCmpFunc_api_Point_b4 data dataL dataC a b limit cmp wasBalanced wasPartitioned length pivot h7 nx0 K))
  (slices_pdqsortCmpFunc_api_Point_b4 data dataL dataC a b limit cmp wasBalanced wasPartitioned length pivot h nx0 K))
  (slices_pdqsortCmpFunc_api_Point_b4 data dataL dataC a b limit cmp wasBalanced wasPartitioned length pivot h nx0 K))
  (slices_pdqsortCmpFunc_api_Point_b4 data dataL dataC a b limit cmp wasBalanced wasPartitioned length pivot h nx0 K)) := by kernel_rfl
theorem slices_pdqsortCmpFunc_api_Point_b4_eq (data : Option Addr) (dataL : Nat) (dataC : Nat) (a : Int) (b : Int) (limit : Int) (cmp : Value) (wasBalanced : Bool) (wasPartitioned : Bool) (length : Int) (pivot : Int) (h : Hp) (nx0 : Int × Int × Int × Bool × Bool × Unit → Hp → Prop) (K : Value → Hp → Prop) : slices_pdqsortCmpFunc_api_Point_b4 data dataL dataC a b limit cmp wasBalanced wasPartitioned length pivot h nx0 K = (
  cond (decide ((0 : Int) < a))
  (InR (a - 1) ∧
  (0 ≤ a - 1 ∧ a - 1 < (dataL : Int)) ∧
  NN data fun a1 =>
  ∃ n1 : Int, ∃ n2 : Int, ∃ n3 : Int, cell h (a1.add (Int.toNat (a - 1) * 3)) = some (.int .i64 n1) ∧
  cell h ((a1.add (Int.toNat (a - 1) * 3)).add 1) = some (.int .i64 n2) ∧
  cell h ((a1.add (Int.toNat (a - 1) * 3)).add 2) = some (.int .i64 n3) ∧
  (0 ≤ pivot ∧ pivot < (dataL : Int)) ∧
  NN data fun a2 =>
  ∃ n4 : Int, ∃ n5 : Int, ∃ n6 : Int, cell h (a2.add (Int.toNat pivot * 3)) = some (.int .i64 n4) ∧
  cell h ((a2.add (Int.toNat pivot * 3)).add 1) = some (.int .i64 n5) ∧
  cell h ((a2.add (Int.toNat pivot * 3)).add 2) = some (.int .i64 n6) ∧
  funV cmp fun fg1 fa1 fc1 => callX Try.prog F fg1 (fa1 ++ (([.agg #[.int .i64 n1, .int .i64 n2, .int .i64 n3], .agg #[.int .i64 n4, .int .i64 n5, .int .i64 n6]] : List Value) ++ fc1)).toArray h fun v7 h8 => ∃ r4 : Int, v7 = .int .i64 r4 ∧
  cond (!(decide (r4 < 0)))
  (HCalls Try.prog 72 #[.slice data dataL dataC, .int .i64 a, .int .i64 b, .int .i64 pivot, cmp] h8 fun v8 h9 => ∃ r5 : Int, v8 = .int .i64 r5 ∧
  nx0 (r5, b, limit, wasBalanced, wasPartitioned, ()) h9)
  (slices_pdqsortCmpFunc_api_Point_b5 data dataL dataC a b limit cmp length pivot h8 nx0 K))
  (slices_pdqsortCmpFunc_api_Point_b5 data dataL dataC a b limit cmp length pivot h nx0 K)) := by kernel_rfl
theorem slices_pdqsortCmpFunc_api_Point_b5_eq (data : Option Addr) (dataL : Nat) (dataC : Nat) (a : Int) (b : Int) (limit : Int) (cmp : Value) (length : Int) (pivot : Int) (h : Hp) (nx0 : Int × Int × Int × Bool × Bool × Unit → Hp → Prop) (K : Value → Hp → Prop) : slices_pdqsortCmpFunc_api_Point_b5 data dataL dataC a b limit cmp length pivot h nx0 K = (
  HCalls Try.prog 73 #[.slice data dataL dataC, .int .i64 a, .int .i64 b, .int .i64 pivot, cmp] h fun v9 h10 => ∃ r6 : Int, ∃ r7 : Bool, v9 = .tuple #[.int .i64 r6, .bool r7] ∧
  InR (r6 - a) ∧
  InR (b - r6) ∧
  ∃ q1 : Int, Sx.Quo .i64 length 8 q1 ∧
  cond (decide ((r6 - a) < (b - r6)))
  (HCalls Try.prog 46 #[.slice data dataL dataC, .int .i64 a, .int .i64 r6, .int .i64 limit, cmp] h10 fun v10 h11 => v10 = .tuple #[] ∧
  InR (r6 + 1) ∧
  nx0 (r6 + 1, b, limit, decide (q1 ≤ (r6 - a)), r7, ()) h11)
  (InR (r6 + 1) ∧
  HCalls Try.prog 46 #[.slice data dataL dataC, .int .i64 (r6 + 1), .int .i64 b, .int .i64 limit, cmp] h10 fun v11 h12 => v11 = .tuple #[] ∧
  nx0 (a, r6, limit, decide (q1 ≤ (b - r6)), r7, ()) h12)) := by kernel_rfl
theorem slices_pdqsortCmpFunc_api_Point_call {data : Option Addr} {dataL : Nat} {dataC : Nat} {a : Int} {b : Int} {limit : Int} {cmp : Value} {h : Hp} {K : Value → Hp → Prop} (hk : slices_pdqsortCmpFunc_api_Point_b0 data dataL dataC a b limit cmp h K) : HCalls Try.prog 46 #[.slice data dataL dataC, .int .i64 a, .int .i64 b, .int .i64 limit, cmp] h K :=
  calls_of_snd slices_pdqsortCmpFunc_api_Point_an Try.func46 (c := bodyOf Try.f46) rfl Try.ntmps46 (Nat.le_of_ble_eq_true rfl) (snd_6 F_ok F_mixed) hk

/-! ### cmp_Or_int -/
def cmp_Or_int_an : Ann := .node none (.leaf) (.node none (.leaf) (.node (some [3]) (.node none (.leaf) (.loop [3, 6, 7] [(8, .int .i64)] (.node none (.leaf) (.node none (.leaf) (.node (some [3, 6, 7, 8]) (.leaf) (.leaf)))))) (.leaf)))
def cmp_Or_int_K0  (K : Value → Hp → Prop) : Exit → Env → Hp → Prop := retK Try.prog Try.f47.results.toList K
def cmp_Or_int_K1  (K : Value → Hp → Prop) : Exit → Env → Hp → Prop := thenE (fun env h => sx_2 Try.prog F 18 (cp [1, 1, 1] (bodyOf Try.f47)) (ap [1, 1, 1] cmp_Or_int_an) (rs [3] env) h (cmp_Or_int_K0  K)) (cmp_Or_int_K0  K)
def cmp_Or_int_K2  (K : Value → Hp → Prop) : Exit → Env → Hp → Prop := blockE 0 (cmp_Or_int_K1  K)
def cmp_Or_int_K3 (nx0 : Int × Unit → Hp → Prop) (K : Value → Hp → Prop) : Exit → Env → Hp → Prop := thenE (fun env h => getV [(8, .int .i64)] env fun s => nx0 s h) (cmp_Or_int_K2  K)
def cmp_Or_int_b0 (vals : Option Addr) (valsL : Nat) (valsC : Nat) (h : Hp)  (K : Value → Hp → Prop) : Prop :=
  sx_3 Try.prog F 18 (cp [] (bodyOf Try.f47)) (ap [] cmp_Or_int_an) [(0, .slice vals valsL valsC)] h (cmp_Or_int_K0  K)
def cmp_Or_int_b1 (t8 : Int) (zero : Int) (t6 : Option Addr) (t6L : Nat) (t6C : Nat) (t7 : Int) (h : Hp) (nx0 : Int × Unit → Hp → Prop) (K : Value → Hp → Prop) : Prop :=
  sx_2 Try.prog F 18 (cp [1, 1, 0, 1, 2, 2] (bodyOf Try.f47)) (ap [1, 1, 0, 1, 2] cmp_Or_int_an) [(8, .int .i64 t8), (3, .int .i64 zero), (6, .slice t6 t6L t6C), (7, .int .i64 t7)] h (cmp_Or_int_K3 nx0 K)
def cmp_Or_int_b2 (zero : Int) (t6 : Option Addr) (t6L : Nat) (t6C : Nat) (t7 : Int) (t8 : Int) (h : Hp) (nx0 : Int × Unit → Hp → Prop) (K : Value → Hp → Prop) : Prop :=
  sx_1 Try.prog F 18 (cp [1, 1, 0, 1, 2, 2, 1, 1, 1] (bodyOf Try.f47)) (ap [1, 1, 0, 1, 2, 1, 1, 1] cmp_Or_int_an) [(3, .int .i64 zero), (6, .slice t6 t6L t6C), (7, .int .i64 t7), (8, .int .i64 t8)] h (cmp_Or_int_K3 nx0 K)
def cmp_Or_int_b3 (zero : Int) (h : Hp)  (K : Value → Hp → Prop) : Prop :=
  sx_2 Try.prog F 18 (cp [1, 1, 1] (bodyOf Try.f47)) (ap [1, 1, 1] cmp_Or_int_an) [(3, .int .i64 zero)] h (cmp_Or_int_K0  K)
theorem cmp_Or_int_b0_eq (vals : Option Addr) (valsL : Nat) (valsC : Nat) (h : Hp)  (K : Value → Hp → Prop) : cmp_Or_int_b0 vals valsL valsC h  K = (
  LoopVC ((0, ()) : Int × Unit) h (fun (nx0 : Int × Unit → Hp → Prop) (s1 : Int × Unit) h1 => cmp_Or_int_b1 s1.1 0 vals valsL valsC (valsL : Int) h1 nx0 K)) := by kernel_rfl
theorem cmp_Or_int_b1_eq (t8 : Int) (zero : Int) (t6 : Option Addr) (t6L : Nat) (t6C : Nat) (t7 : Int) (h : Hp) (nx0 : Int × Unit → Hp → Prop) (K : Value → Hp → Prop) : cmp_Or_int_b1 t8 zero t6 t6L t6C t7 h nx0 K = (
  cond (decide (t8 < t7))
  ((0 ≤ t8 ∧ t8 < (t6L : Int)) ∧
  NN t6 fun a1 =>
  ∃ n1 : Int, cell h (a1.add (Int.toNat t8 * 1)) = some (.int .i64 n1) ∧
  cond (!decide (n1 = zero))
  (K (.int .i64 n1) h)
  (cmp_Or_int_b2 zero t6 t6L t6C t7 t8 h nx0 K))
  (cmp_Or_int_b3 zero h  K)) := by kernel_rfl
theorem cmp_Or_int_b2_eq (zero : Int) (t6 : Option Addr) (t6L : Nat) (t6C : Nat) (t7 : Int) (t8 : Int) (h : Hp) (nx0 : Int × Unit → Hp → Prop) (K : Value → Hp → Prop) : cmp_Or_int_b2 zero t6 t6L t6C t7 t8 h nx0 K = (
  InR (t8 + 1) ∧
  nx0 (t8 + 1, ()) h) := by kernel_rfl
theorem cmp_Or_int_b3_eq (zero : Int) (h : Hp)  (K : Value → Hp → Prop) : cmp_Or_int_b3 zero h  K = (
  K (.int .i64 zero) h) := by kernel_rfl
theorem cmp_Or_int_call {vals : Option Addr} {valsL : Nat} {valsC : Nat} {h : Hp} {K : Value → Hp → Prop} (hk : cmp_Or_int_b0 vals valsL valsC h K) : HCalls Try.prog 47 #[.slice vals valsL valsC] h K :=
  calls_of_snd cmp_Or_int_an Try.func47 (c := bodyOf Try.f47) rfl Try.ntmps47 (Nat.le_of_ble_eq_true rfl) (snd_3 F_ok F_mixed) hk

/-! ### cmp_Compare_int -/
def cmp_Compare_int_an : Ann := .leaf
def cmp_Compare_int_K0  (K : Value → Hp → Prop) : Exit → Env → Hp → Prop := retK Try.prog Try.f48.results.toList K
def cmp_Compare_int_b0 (x : Int) (y : Int) (h : Hp)  (K : Value → Hp → Prop) : Prop :=
  sx_1 Try.prog F 20 (cp [] (bodyOf Try.f48)) (ap [] cmp_Compare_int_an) [(0, .int .i64 x), (1, .int .i64 y)] h (cmp_Compare_int_K0  K)
theorem cmp_Compare_int_b0_eq (x : Int) (y : Int) (h : Hp)  (K : Value → Hp → Prop) : cmp_Compare_int_b0 x y h  K = (
  HCalls Try.prog 74 #[.int .i64 x] h fun v1 h1 => ∃ r1 : Bool, v1 = .bool r1 ∧
  HCalls Try.prog 74 #[.int .i64 y] h1 fun v2 h2 => ∃ r2 : Bool, v2 = .bool r2 ∧
  cond r1
  (cond r2
  (K (.int .i64 0) h2)
  (K (.int .i64 (-1)) h2))
  (cond r2
  (K (.int .i64 1) h2)
  (cond (decide (x < y))
  (K (.int .i64 (-1)) h2)
  (cond (decide (y < x))
  (K (.int .i64 1) h2)
  (K (.int .i64 0) h2))))) := by kernel_rfl
theorem cmp_Compare_int_call {x : Int} {y : Int} {h : Hp} {K : Value → Hp → Prop} (hk : cmp_Compare_int_b0 x y h K) : HCalls Try.prog 48 #[.int .i64 x, .int .i64 y] h K :=
  calls_of_snd cmp_Compare_int_an Try.func48 (c := bodyOf Try.f48) rfl Try.ntmps48 (Nat.le_of_ble_eq_true rfl) (snd_1 F_ok F_mixed) hk

/-! ### rangetree_part_rectangle -/
def rangetree_part_rectangle_an : Ann := .node none (.leaf) (.node none (.leaf) (.node none (.leaf) (.node none (.plan (.qu 0 (.qu 1 (.qu 2 (.qu 3 (.qu 4 (.qu 5 (.qu 6 (.qu 7 (.qu 8 (.qu 9 (.qu 10 (.qu 11 (.qu 12 (.wo 13 (.qu 14 (.qu 15 (.wo 16 (.wo 17 .fin .no) .no))) .no))))))))))))))) (.leaf))))
def rangetree_part_rectangle_K0  (K : Value → Hp → Prop) : Exit → Env → Hp → Prop := retK Try.prog Try.f49.results.toList K
def rangetree_part_rectangle_b0 (p : Option Addr) (x1 : Int) (x2 : Int) (y1 : Int) (y2 : Int) (h : Hp)  (K : Value → Hp → Prop) : Prop :=
  sx_1 Try.prog F 50 (cp [] (bodyOf Try.f49)) (ap [] rangetree_part_rectangle_an) [(0, .pointer p), (1, .int .i64 x1), (2, .int .i64 x2), (3, .int .i64 y1), (4, .int .i64 y2)] h (rangetree_part_rectangle_K0  K)
theorem rangetree_part_rectangle_b0_eq (p : Option Addr) (x1 : Int) (x2 : Int) (y1 : Int) (y2 : Int) (h : Hp)  (K : Value → Hp → Prop) : rangetree_part_rectangle_b0 p x1 x2 y1 y2 h  K = (
  NN p fun a1 =>
  ∃ (a2 : Option Addr) (L1 C1 : Nat), cell h a1 = some (.slice a2 L1 C1) ∧
  HCalls Try.prog 75 #[.slice a2 L1 C1, .int .i64 x1, .func (.func 76) #[] #[]] h fun v1 h1 => ∃ r1 : Int, ∃ r2 : Bool, v1 = .tuple #[.int .i64 r1, .bool r2] ∧
  NN p fun a3 =>
  ∃ (a4 : Option Addr) (L2 C2 : Nat), cell h1 a3 = some (.slice a4 L2 C2) ∧
  HCalls Try.prog 75 #[.slice a4 L2 C2, .int .i64 x2, .func (.func 77) #[] #[]] h1 fun v2 h2 => ∃ r3 : Int, ∃ r4 : Bool, v2 = .tuple #[.int .i64 r3, .bool r4] ∧
  NN p fun a5 =>
  ∃ p1 : Option Addr, cell h2 (a5.add 1) = some (.pointer p1) ∧
  NN p fun a6 =>
  ∃ (a7 : Option Addr) (L3 C3 : Nat), cell h2 a6 = some (.slice a7 L3 C3) ∧
  HCalls Try.prog 78 #[.pointer p1, .int .i64 (L3 : Int), .int .i64 r1, .int .i64 r3, .int .i64 y1, .int .i64 y2] h2 fun v3 h3 => ∃ r5 : Int, ∃ r6 : Int, v3 = .tuple #[.int .i64 r5, .int .i64 r6] ∧
  K (.tuple #[.int .i64 r5, .int .i64 r6]) h3) := by kernel_rfl
theorem rangetree_part_rectangle_call {p : Option Addr} {x1 : Int} {x2 : Int} {y1 : Int} {y2 : Int} {h : Hp} {K : Value → Hp → Prop} (hk : rangetree_part_rectangle_b0 p x1 x2 y1 y2 h K) : HCalls Try.prog 49 #[.pointer p, .int .i64 x1, .int .i64 x2, .int .i64 y1, .int .i64 y2] h K :=
  calls_of_snd rangetree_part_rectangle_an Try.func49 (c := bodyOf Try.f49) rfl Try.ntmps49 (Nat.le_of_ble_eq_true rfl) (snd_1 F_ok F_mixed) hk

/-! ### r31_Key -/
/-! ### r31_before -/
end Go.Proofs.Ytbfejfejahoblaa
