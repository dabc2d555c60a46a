/- Plain statements of what each block of code of this seat asks; printed by a program, checked by Lean. -/
import Derived.Test.YtdlkohenamlnaaaGreatSxV0
set_option maxRecDepth 10000
namespace Go.Proofs.YtdlkohenamlnaaaGreat
open Go Go.Sx

/-! ### slices_Insert_Spartialretro_element_partialretro_element -/
def slices_Insert_Spartialretro_element_partialretro_element_an : Ann := .node none (.leaf) (.node none (.leaf) (.node none (.leaf) (.node none (.leaf) (.node none (.leaf) (.node none (.leaf) (.node none (.node none (.leaf) (.node none (.node none (.leaf) (.node none (.leaf) (.node none (.tail 8) (.leaf)))) (.leaf))) (.node none (.leaf) (.node none (.node none (.leaf) (.node none (.node none (.tail 8) (.leaf)) (.leaf))) (.leaf)))))))))
def slices_Insert_Spartialretro_element_partialretro_element_K0  (K : Value → Hp → Prop) : Exit → Env → Hp → Prop := retK Tryz.prog Tryz.f149.results.toList K
def slices_Insert_Spartialretro_element_partialretro_element_b0 (s : Option Addr) (sL : Nat) (sC : Nat) (i : Int) (v : Option Addr) (vL : Nat) (vC : Nat) (h : Hp)  (K : Value → Hp → Prop) : Prop :=
  sx_1 Tryz.prog F 95 (cp [] (bodyOf Tryz.f149)) (ap [] slices_Insert_Spartialretro_element_partialretro_element_an) [(0, .slice s sL sC), (1, .int .i64 i), (2, .slice v vL vC)] h (slices_Insert_Spartialretro_element_partialretro_element_K0  K)
theorem slices_Insert_Spartialretro_element_partialretro_element_b0_eq (s : Option Addr) (sL : Nat) (sC : Nat) (i : Int) (v : Option Addr) (vL : Nat) (vC : Nat) (h : Hp)  (K : Value → Hp → Prop) : slices_Insert_Spartialretro_element_partialretro_element_b0 s sL sC i v vL vC h  K = (
  (0 ≤ i ∧ i ≤ (sL : Int) ∧ (sL : Int) ≤ (sC : Int)) ∧
  cond (decide ((vL : Int) = 0))
  (K (.slice s sL sC) h)
  (cond (decide (i = (sL : Int)))
  (appendV Tryz.prog 94 94 (.slice s sL sC) (.slice v vL vC) h (slK fun a1 l1 c1 h1 =>
  K (.slice a1 l1 c1) h1))
  (InR ((sL : Int) + (vL : Int)) ∧
  cond (decide ((sC : Int) < ((sL : Int) + (vL : Int))))
  ((0 ≤ (0 : Int) ∧ (0 : Int) ≤ i ∧ i ≤ (sC : Int)) ∧
  InR ((sL : Int) + (vL : Int)) ∧
  InR (((sL : Int) + (vL : Int)) - i) ∧
  appendV Tryz.prog 94 3 (.slice (subAddr s sC (Int.toNat (0 : Int)) 2) (Int.toNat i - Int.toNat (0 : Int)) (sC - Int.toNat (0 : Int))) (.int .i64 (((sL : Int) + (vL : Int)) - i)) h (slK fun a2 l2 c2 h2 =>
  (0 ≤ i ∧ i ≤ (l2 : Int) ∧ (l2 : Int) ≤ (c2 : Int)) ∧
  copyV Tryz.prog 94 (.slice (subAddr a2 c2 (Int.toNat i) 2) (Int.toNat (l2 : Int) - Int.toNat i) (c2 - Int.toNat i)) (.slice v vL vC) h2 fun v1 h3 =>
  InR (i + (vL : Int)) ∧
  (0 ≤ i + (vL : Int) ∧ i + (vL : Int) ≤ (l2 : Int) ∧ (l2 : Int) ≤ (c2 : Int)) ∧
  (0 ≤ i ∧ i ≤ (sL : Int) ∧ (sL : Int) ≤ (sC : Int)) ∧
  copyV Tryz.prog 94 (.slice (subAddr a2 c2 (Int.toNat (i + (vL : Int))) 2) (Int.toNat (l2 : Int) - Int.toNat (i + (vL : Int))) (c2 - Int.toNat (i + (vL : Int)))) (.slice (subAddr s sC (Int.toNat i) 2) (Int.toNat (sL : Int) - Int.toNat i) (sC - Int.toNat i)) h3 fun v2 h4 =>
  K (.slice a2 l2 c2) h4))
  (InR ((sL : Int) + (vL : Int)) ∧
  (0 ≤ (0 : Int) ∧ (0 : Int) ≤ (sL : Int) + (vL : Int) ∧ (sL : Int) + (vL : Int) ≤ (sC : Int)) ∧
  InR (i + (vL : Int)) ∧
  (0 ≤ i + (vL : Int) ∧ i + (vL : Int) ≤ ((Int.toNat ((sL : Int) + (vL : Int)) - Int.toNat (0 : Int) : Nat) : Int) ∧ ((Int.toNat ((sL : Int) + (vL : Int)) - Int.toNat (0 : Int) : Nat) : Int) ≤ ((sC - Int.toNat (0 : Int) : Nat) : Int)) ∧
  ExtCall Tryz.prog 173 #[.slice v vL vC, .slice (subAddr (subAddr s sC (Int.toNat (0 : Int)) 2) (sC - Int.toNat (0 : Int)) (Int.toNat (i + (vL : Int))) 2) (Int.toNat ((Int.toNat ((sL : Int) + (vL : Int)) - Int.toNat (0 : Int) : Nat) : Int) - Int.toNat (i + (vL : Int))) ((sC - Int.toNat (0 : Int)) - Int.toNat (i + (vL : Int)))] h fun v3 => ∃ r1 : Bool, v3 = .bool r1 ∧
  cond (!r1)
  (InR (i + (vL : Int)) ∧
  (0 ≤ i + (vL : Int) ∧ i + (vL : Int) ≤ ((Int.toNat ((sL : Int) + (vL : Int)) - Int.toNat (0 : Int) : Nat) : Int) ∧ ((Int.toNat ((sL : Int) + (vL : Int)) - Int.toNat (0 : Int) : Nat) : Int) ≤ ((sC - Int.toNat (0 : Int) : Nat) : Int)) ∧
  (0 ≤ i ∧ i ≤ ((Int.toNat ((sL : Int) + (vL : Int)) - Int.toNat (0 : Int) : Nat) : Int) ∧ ((Int.toNat ((sL : Int) + (vL : Int)) - Int.toNat (0 : Int) : Nat) : Int) ≤ ((sC - Int.toNat (0 : Int) : Nat) : Int)) ∧
  copyV Tryz.prog 94 (.slice (subAddr (subAddr s sC (Int.toNat (0 : Int)) 2) (sC - Int.toNat (0 : Int)) (Int.toNat (i + (vL : Int))) 2) (Int.toNat ((Int.toNat ((sL : Int) + (vL : Int)) - Int.toNat (0 : Int) : Nat) : Int) - Int.toNat (i + (vL : Int))) ((sC - Int.toNat (0 : Int)) - Int.toNat (i + (vL : Int)))) (.slice (subAddr (subAddr s sC (Int.toNat (0 : Int)) 2) (sC - Int.toNat (0 : Int)) (Int.toNat i) 2) (Int.toNat ((Int.toNat ((sL : Int) + (vL : Int)) - Int.toNat (0 : Int) : Nat) : Int) - Int.toNat i) ((sC - Int.toNat (0 : Int)) - Int.toNat i)) h fun v4 h6 =>
  (0 ≤ i ∧ i ≤ ((Int.toNat ((sL : Int) + (vL : Int)) - Int.toNat (0 : Int) : Nat) : Int) ∧ ((Int.toNat ((sL : Int) + (vL : Int)) - Int.toNat (0 : Int) : Nat) : Int) ≤ ((sC - Int.toNat (0 : Int) : Nat) : Int)) ∧
  copyV Tryz.prog 94 (.slice (subAddr (subAddr s sC (Int.toNat (0 : Int)) 2) (sC - Int.toNat (0 : Int)) (Int.toNat i) 2) (Int.toNat ((Int.toNat ((sL : Int) + (vL : Int)) - Int.toNat (0 : Int) : Nat) : Int) - Int.toNat i) ((sC - Int.toNat (0 : Int)) - Int.toNat i)) (.slice v vL vC) h6 fun v5 h7 =>
  K (.slice (subAddr s sC (Int.toNat (0 : Int)) 2) (Int.toNat ((sL : Int) + (vL : Int)) - Int.toNat (0 : Int)) (sC - Int.toNat (0 : Int))) h7)
  ((0 ≤ (sL : Int) ∧ (sL : Int) ≤ ((Int.toNat ((sL : Int) + (vL : Int)) - Int.toNat (0 : Int) : Nat) : Int) ∧ ((Int.toNat ((sL : Int) + (vL : Int)) - Int.toNat (0 : Int) : Nat) : Int) ≤ ((sC - Int.toNat (0 : Int) : Nat) : Int)) ∧
  copyV Tryz.prog 94 (.slice (subAddr (subAddr s sC (Int.toNat (0 : Int)) 2) (sC - Int.toNat (0 : Int)) (Int.toNat (sL : Int)) 2) (Int.toNat ((Int.toNat ((sL : Int) + (vL : Int)) - Int.toNat (0 : Int) : Nat) : Int) - Int.toNat (sL : Int)) ((sC - Int.toNat (0 : Int)) - Int.toNat (sL : Int))) (.slice v vL vC) h fun v6 h8 =>
  (0 ≤ i ∧ i ≤ ((Int.toNat ((sL : Int) + (vL : Int)) - Int.toNat (0 : Int) : Nat) : Int) ∧ ((Int.toNat ((sL : Int) + (vL : Int)) - Int.toNat (0 : Int) : Nat) : Int) ≤ ((sC - Int.toNat (0 : Int) : Nat) : Int)) ∧
  HCalls Tryz.prog 174 #[.slice (subAddr (subAddr s sC (Int.toNat (0 : Int)) 2) (sC - Int.toNat (0 : Int)) (Int.toNat i) 2) (Int.toNat ((Int.toNat ((sL : Int) + (vL : Int)) - Int.toNat (0 : Int) : Nat) : Int) - Int.toNat i) ((sC - Int.toNat (0 : Int)) - Int.toNat i), .int .i64 (vL : Int)] h8 fun v7 h9 => v7 = .tuple #[] ∧
  K (.slice (subAddr s sC (Int.toNat (0 : Int)) 2) (Int.toNat ((sL : Int) + (vL : Int)) - Int.toNat (0 : Int)) (sC - Int.toNat (0 : Int))) h9))))) := by kernel_rfl
theorem slices_Insert_Spartialretro_element_partialretro_element_call {s : Option Addr} {sL : Nat} {sC : Nat} {i : Int} {v : Option Addr} {vL : Nat} {vC : Nat} {h : Hp} {K : Value → Hp → Prop} (hk : slices_Insert_Spartialretro_element_partialretro_element_b0 s sL sC i v vL vC h K) : HCalls Tryz.prog 149 #[.slice s sL sC, .int .i64 i, .slice v vL vC] h K :=
  calls_of_snd slices_Insert_Spartialretro_element_partialretro_element_an Tryz.func149 (c := bodyOf Tryz.f149) rfl Tryz.ntmps149 (Nat.le_of_ble_eq_true rfl) (snd_1 F_ok F_mixed) hk

/-! ### slices_IndexFunc_Sint_int -/
def slices_IndexFunc_Sint_int_an : Ann := .node none (.leaf) (.node (some []) (.node none (.leaf) (.loop [0, 1, 7] [(8, .int .i64)] (.node none (.leaf) (.node none (.leaf) (.node (some [0, 1, 7, 8]) (.leaf) (.leaf)))))) (.leaf))
def slices_IndexFunc_Sint_int_K0  (K : Value → Hp → Prop) : Exit → Env → Hp → Prop := retK Tryz.prog Tryz.f150.results.toList K
def slices_IndexFunc_Sint_int_K1  (K : Value → Hp → Prop) : Exit → Env → Hp → Prop := thenE (fun env h => sx_2 Tryz.prog F 19 (cp [1, 1] (bodyOf Tryz.f150)) (ap [1, 1] slices_IndexFunc_Sint_int_an) (rs [] env) h (slices_IndexFunc_Sint_int_K0  K)) (slices_IndexFunc_Sint_int_K0  K)
def slices_IndexFunc_Sint_int_K2  (K : Value → Hp → Prop) : Exit → Env → Hp → Prop := blockE 0 (slices_IndexFunc_Sint_int_K1  K)
def slices_IndexFunc_Sint_int_K3 (nx0 : Int × Unit → Hp → Prop) (K : Value → Hp → Prop) : Exit → Env → Hp → Prop := thenE (fun env h => getV [(8, .int .i64)] env fun s => nx0 s h) (slices_IndexFunc_Sint_int_K2  K)
def slices_IndexFunc_Sint_int_b0 (s : Option Addr) (sL : Nat) (sC : Nat) (f : Value) (h : Hp)  (K : Value → Hp → Prop) : Prop :=
  sx_3 Tryz.prog F 19 (cp [] (bodyOf Tryz.f150)) (ap [] slices_IndexFunc_Sint_int_an) [(0, .slice s sL sC), (1, f)] h (slices_IndexFunc_Sint_int_K0  K)
def slices_IndexFunc_Sint_int_b1 (t8 : Int) (s : Option Addr) (sL : Nat) (sC : Nat) (f : Value) (t7 : Int) (h : Hp) (nx0 : Int × Unit → Hp → Prop) (K : Value → Hp → Prop) : Prop :=
  sx_2 Tryz.prog F 19 (cp [1, 0, 1, 2, 2] (bodyOf Tryz.f150)) (ap [1, 0, 1, 2] slices_IndexFunc_Sint_int_an) [(8, .int .i64 t8), (0, .slice s sL sC), (1, f), (7, .int .i64 t7)] h (slices_IndexFunc_Sint_int_K3 nx0 K)
def slices_IndexFunc_Sint_int_b2 (s : Option Addr) (sL : Nat) (sC : Nat) (f : Value) (t7 : Int) (t8 : Int) (h : Hp) (nx0 : Int × Unit → Hp → Prop) (K : Value → Hp → Prop) : Prop :=
  sx_1 Tryz.prog F 19 (cp [1, 0, 1, 2, 2, 1, 1, 1] (bodyOf Tryz.f150)) (ap [1, 0, 1, 2, 1, 1, 1] slices_IndexFunc_Sint_int_an) [(0, .slice s sL sC), (1, f), (7, .int .i64 t7), (8, .int .i64 t8)] h (slices_IndexFunc_Sint_int_K3 nx0 K)
def slices_IndexFunc_Sint_int_b3  (h : Hp)  (K : Value → Hp → Prop) : Prop :=
  sx_2 Tryz.prog F 19 (cp [1, 1] (bodyOf Tryz.f150)) (ap [1, 1] slices_IndexFunc_Sint_int_an) [] h (slices_IndexFunc_Sint_int_K0  K)
theorem slices_IndexFunc_Sint_int_b0_eq (s : Option Addr) (sL : Nat) (sC : Nat) (f : Value) (h : Hp)  (K : Value → Hp → Prop) : slices_IndexFunc_Sint_int_b0 s sL sC f h  K = (
  LoopVC ((0, ()) : Int × Unit) h (fun (nx0 : Int × Unit → Hp → Prop) (s1 : Int × Unit) h1 => slices_IndexFunc_Sint_int_b1 s1.1 s sL sC f (sL : Int) h1 nx0 K)) := by kernel_rfl
theorem slices_IndexFunc_Sint_int_b1_eq (t8 : Int) (s : Option Addr) (sL : Nat) (sC : Nat) (f : Value) (t7 : Int) (h : Hp) (nx0 : Int × Unit → Hp → Prop) (K : Value → Hp → Prop) : slices_IndexFunc_Sint_int_b1 t8 s sL sC f t7 h nx0 K = (
  cond (decide (t8 < t7))
  ((0 ≤ t8 ∧ t8 < (sL : Int)) ∧
  NN s fun a1 =>
  ∃ n1 : Int, cell h (a1.add (Int.toNat t8 * 1)) = some (.int .i64 n1) ∧
  funV f fun fg1 fa1 fc1 => callX Tryz.prog F fg1 (fa1 ++ (([.int .i64 n1] : List Value) ++ fc1)).toArray h fun v1 h2 => ∃ r1 : Bool, v1 = .bool r1 ∧
  cond r1
  (K (.int .i64 t8) h2)
  (slices_IndexFunc_Sint_int_b2 s sL sC f t7 t8 h2 nx0 K))
  (slices_IndexFunc_Sint_int_b3  h  K)) := by kernel_rfl
theorem slices_IndexFunc_Sint_int_b2_eq (s : Option Addr) (sL : Nat) (sC : Nat) (f : Value) (t7 : Int) (t8 : Int) (h : Hp) (nx0 : Int × Unit → Hp → Prop) (K : Value → Hp → Prop) : slices_IndexFunc_Sint_int_b2 s sL sC f t7 t8 h nx0 K = (
  InR (t8 + 1) ∧
  nx0 (t8 + 1, ()) h) := by kernel_rfl
theorem slices_IndexFunc_Sint_int_b3_eq  (h : Hp)  (K : Value → Hp → Prop) : slices_IndexFunc_Sint_int_b3  h  K = (
  K (.int .i64 (-1)) h) := by kernel_rfl
theorem slices_IndexFunc_Sint_int_call {s : Option Addr} {sL : Nat} {sC : Nat} {f : Value} {h : Hp} {K : Value → Hp → Prop} (hk : slices_IndexFunc_Sint_int_b0 s sL sC f h K) : HCalls Tryz.prog 150 #[.slice s sL sC, f] h K :=
  calls_of_snd slices_IndexFunc_Sint_int_an Tryz.func150 (c := bodyOf Tryz.f150) rfl Tryz.ntmps150 (Nat.le_of_ble_eq_true rfl) (snd_3 F_ok F_mixed) hk

/-! ### slices_ContainsFunc_Sapi_Op_api_Op -/
def slices_ContainsFunc_Sapi_Op_api_Op_an : Ann := .leaf
def slices_ContainsFunc_Sapi_Op_api_Op_K0  (K : Value → Hp → Prop) : Exit → Env → Hp → Prop := retK Tryz.prog Tryz.f151.results.toList K
def slices_ContainsFunc_Sapi_Op_api_Op_b0 (s : Option Addr) (sL : Nat) (sC : Nat) (f : Value) (h : Hp)  (K : Value → Hp → Prop) : Prop :=
  sx_1 Tryz.prog F 9 (cp [] (bodyOf Tryz.f151)) (ap [] slices_ContainsFunc_Sapi_Op_api_Op_an) [(0, .slice s sL sC), (1, f)] h (slices_ContainsFunc_Sapi_Op_api_Op_K0  K)
theorem slices_ContainsFunc_Sapi_Op_api_Op_b0_eq (s : Option Addr) (sL : Nat) (sC : Nat) (f : Value) (h : Hp)  (K : Value → Hp → Prop) : slices_ContainsFunc_Sapi_Op_api_Op_b0 s sL sC f h  K = (
  HCalls Tryz.prog 175 #[.slice s sL sC, f] h fun v1 h1 => ∃ r1 : Int, v1 = .int .i64 r1 ∧
  K (.bool (decide ((0 : Int) ≤ r1))) h1) := by kernel_rfl
theorem slices_ContainsFunc_Sapi_Op_api_Op_call {s : Option Addr} {sL : Nat} {sC : Nat} {f : Value} {h : Hp} {K : Value → Hp → Prop} (hk : slices_ContainsFunc_Sapi_Op_api_Op_b0 s sL sC f h K) : HCalls Tryz.prog 151 #[.slice s sL sC, f] h K :=
  calls_of_snd slices_ContainsFunc_Sapi_Op_api_Op_an Tryz.func151 (c := bodyOf Tryz.f151) rfl Tryz.ntmps151 (Nat.le_of_ble_eq_true rfl) (snd_1 F_ok F_mixed) hk

/-! ### model_Run_c1 -/
def model_Run_c1_an : Ann := .leaf
def model_Run_c1_K0  (K : Value → Hp → Prop) : Exit → Env → Hp → Prop := retK Tryz.prog Tryz.f152.results.toList K
def model_Run_c1_b0 (o_0 : Int) (o_1 : Option Addr) (o_1L : Nat) (o_1C : Nat) (t1 : Option Addr) (h : Hp)  (K : Value → Hp → Prop) : Prop :=
  sx_1 Tryz.prog F 9 (cp [] (bodyOf Tryz.f152)) (ap [] model_Run_c1_an) [(0, .agg #[.int .i64 o_0, .slice o_1 o_1L o_1C]), (1, .pointer t1)] h (model_Run_c1_K0  K)
theorem model_Run_c1_b0_eq (o_0 : Int) (o_1 : Option Addr) (o_1L : Nat) (o_1C : Nat) (t1 : Option Addr) (h : Hp)  (K : Value → Hp → Prop) : model_Run_c1_b0 o_0 o_1 o_1L o_1C t1 h  K = (
  New h (.cells #[.int .i64 o_0, .slice o_1 o_1L o_1C] 25) fun b1 h1 =>
  NN t1 fun a1 =>
  ∃ n1 : Int, cell h1 a1 = some (.int .i64 n1) ∧
  ∃ n2 : Int, ∃ (a2 : Option Addr) (L1 C1 : Nat), cell h1 ⟨b1, 0, none⟩ = some (.int .i64 n2) ∧
  cell h1 ((⟨b1, 0, none⟩ : Addr).add 1) = some (.slice a2 L1 C1) ∧
  HCalls Tryz.prog 71 #[.int .i64 n1, .agg #[.int .i64 n2, .slice a2 L1 C1]] h1 fun v1 h2 => ∃ r1 : Bool, v1 = .bool r1 ∧
  K (.bool (!r1)) h2) := by kernel_rfl
theorem model_Run_c1_call {o_0 : Int} {o_1 : Option Addr} {o_1L : Nat} {o_1C : Nat} {t1 : Option Addr} {h : Hp} {K : Value → Hp → Prop} (hk : model_Run_c1_b0 o_0 o_1 o_1L o_1C t1 h K) : HCalls Tryz.prog 152 #[.agg #[.int .i64 o_0, .slice o_1 o_1L o_1C], .pointer t1] h K :=
  calls_of_snd model_Run_c1_an Tryz.func152 (c := bodyOf Tryz.f152) rfl Tryz.ntmps152 (Nat.le_of_ble_eq_true rfl) (snd_1 F_ok F_mixed) hk

/-! ### slices_rotateLeft_api_Op -/
/-! ### slices_siftDownCmpFunc_l35_Step -/
def slices_siftDownCmpFunc_l35_Step_an : Ann := .node none (.leaf) (.loop [0, 2, 3, 4] [(10, .int .i64)] (.node none (.leaf) (.node none (.leaf) (.node (some [0, 2, 3, 4, 10, 11]) (.node none (.tail 19) (.leaf)) (.node none (.node none (.tail 13) (.leaf)) (.node none (.plan (.qu 0 (.qu 1 (.qu 2 (.qu 3 (.qu 4 (.qu 5 (.qu 6 (.qu 7 (.qu 8 (.qu 9 (.qu 10 (.qu 11 (.qu 12 (.qu 13 (.qu 14 (.qu 15 (.qu 16 (.qu 17 (.qu 18 (.qu 19 (.qu 20 (.wo 21 (.qu 22 (.wo 23 .fin .no)) .no))))))))))))))))))))))) (.leaf)))))))
def slices_siftDownCmpFunc_l35_Step_K0  (K : Value → Hp → Prop) : Exit → Env → Hp → Prop := retK Tryz.prog Tryz.f154.results.toList K
def slices_siftDownCmpFunc_l35_Step_K1  (K : Value → Hp → Prop) : Exit → Env → Hp → Prop := blockE 0 (slices_siftDownCmpFunc_l35_Step_K0  K)
def slices_siftDownCmpFunc_l35_Step_K2 (nx0 : Int × Unit → Hp → Prop) (K : Value → Hp → Prop) : Exit → Env → Hp → Prop := thenE (fun env h => getV [(10, .int .i64)] env fun s => nx0 s h) (slices_siftDownCmpFunc_l35_Step_K1  K)
def slices_siftDownCmpFunc_l35_Step_K3 (nx0 : Int × Unit → Hp → Prop) (K : Value → Hp → Prop) : Exit → Env → Hp → Prop := blockE 1 (slices_siftDownCmpFunc_l35_Step_K2 nx0 K)
def slices_siftDownCmpFunc_l35_Step_b0 (data : Option Addr) (dataL : Nat) (dataC : Nat) (lo : Int) (hi : Int) (first : Int) (cmp : Value) (h : Hp)  (K : Value → Hp → Prop) : Prop :=
  sx_3 Tryz.prog F 82 (cp [] (bodyOf Tryz.f154)) (ap [] slices_siftDownCmpFunc_l35_Step_an) [(0, .slice data dataL dataC), (1, .int .i64 lo), (2, .int .i64 hi), (3, .int .i64 first), (4, cmp)] h (slices_siftDownCmpFunc_l35_Step_K0  K)
def slices_siftDownCmpFunc_l35_Step_b1 (root : Int) (data : Option Addr) (dataL : Nat) (dataC : Nat) (hi : Int) (first : Int) (cmp : Value) (h : Hp) (nx0 : Int × Unit → Hp → Prop) (K : Value → Hp → Prop) : Prop :=
  sx_2 Tryz.prog F 82 (cp [1, 2, 2] (bodyOf Tryz.f154)) (ap [1, 2] slices_siftDownCmpFunc_l35_Step_an) [(10, .int .i64 root), (0, .slice data dataL dataC), (2, .int .i64 hi), (3, .int .i64 first), (4, cmp)] h (slices_siftDownCmpFunc_l35_Step_K2 nx0 K)
def slices_siftDownCmpFunc_l35_Step_b2 (data : Option Addr) (dataL : Nat) (dataC : Nat) (hi : Int) (first : Int) (cmp : Value) (root : Int) (child : Int) (h : Hp) (nx0 : Int × Unit → Hp → Prop) (K : Value → Hp → Prop) : Prop :=
  sx_1 Tryz.prog F 82 (cp [1, 2, 2, 2, 1, 1, 1] (bodyOf Tryz.f154)) (ap [1, 2, 1, 1, 1] slices_siftDownCmpFunc_l35_Step_an) [(0, .slice data dataL dataC), (2, .int .i64 hi), (3, .int .i64 first), (4, cmp), (10, .int .i64 root), (11, .int .i64 child)] h (slices_siftDownCmpFunc_l35_Step_K3 nx0 K)
theorem slices_siftDownCmpFunc_l35_Step_b0_eq (data : Option Addr) (dataL : Nat) (dataC : Nat) (lo : Int) (hi : Int) (first : Int) (cmp : Value) (h : Hp)  (K : Value → Hp → Prop) : slices_siftDownCmpFunc_l35_Step_b0 data dataL dataC lo hi first cmp h  K = (
  LoopVC ((lo, ()) : Int × Unit) h (fun (nx0 : Int × Unit → Hp → Prop) (s1 : Int × Unit) h1 => slices_siftDownCmpFunc_l35_Step_b1 s1.1 data dataL dataC hi first cmp h1 nx0 K)) := by kernel_rfl
theorem slices_siftDownCmpFunc_l35_Step_b1_eq (root : Int) (data : Option Addr) (dataL : Nat) (dataC : Nat) (hi : Int) (first : Int) (cmp : Value) (h : Hp) (nx0 : Int × Unit → Hp → Prop) (K : Value → Hp → Prop) : slices_siftDownCmpFunc_l35_Step_b1 root data dataL dataC hi first cmp h nx0 K = (
  InR (2 * root) ∧
  InR ((2 * root) + 1) ∧
  cond (decide (hi ≤ ((2 * root) + 1)))
  (K (.tuple #[]) h)
  (InR (((2 * root) + 1) + 1) ∧
  cond (decide ((((2 * root) + 1) + 1) < hi))
  (InR (first + ((2 * root) + 1)) ∧
  (0 ≤ first + ((2 * root) + 1) ∧ first + ((2 * root) + 1) < (dataL : Int)) ∧
  NN data fun a1 =>
  ∃ n1 : Int, ∃ n2 : Int, ∃ n3 : Int, ∃ n4 : Int, ∃ (a2 : Option Addr) (L1 C1 : Nat), cell h (a1.add (Int.toNat (first + ((2 * root) + 1)) * 5)) = some (.int .i64 n1) ∧
  cell h ((a1.add (Int.toNat (first + ((2 * root) + 1)) * 5)).add 1) = some (.int .i64 n2) ∧
  cell h ((a1.add (Int.toNat (first + ((2 * root) + 1)) * 5)).add 2) = some (.int .i64 n3) ∧
  cell h ((a1.add (Int.toNat (first + ((2 * root) + 1)) * 5)).add 3) = some (.int .i64 n4) ∧
  cell h ((a1.add (Int.toNat (first + ((2 * root) + 1)) * 5)).add 4) = some (.slice a2 L1 C1) ∧
  InR (first + ((2 * root) + 1)) ∧
  InR ((first + ((2 * root) + 1)) + 1) ∧
  (0 ≤ (first + ((2 * root) + 1)) + 1 ∧ (first + ((2 * root) + 1)) + 1 < (dataL : Int)) ∧
  NN data fun a3 =>
  ∃ n5 : Int, ∃ n6 : Int, ∃ n7 : Int, ∃ n8 : Int, ∃ (a4 : Option Addr) (L2 C2 : Nat), cell h (a3.add (Int.toNat ((first + ((2 * root) + 1)) + 1) * 5)) = some (.int .i64 n5) ∧
  cell h ((a3.add (Int.toNat ((first + ((2 * root) + 1)) + 1) * 5)).add 1) = some (.int .i64 n6) ∧
  cell h ((a3.add (Int.toNat ((first + ((2 * root) + 1)) + 1) * 5)).add 2) = some (.int .i64 n7) ∧
  cell h ((a3.add (Int.toNat ((first + ((2 * root) + 1)) + 1) * 5)).add 3) = some (.int .i64 n8) ∧
  cell h ((a3.add (Int.toNat ((first + ((2 * root) + 1)) + 1) * 5)).add 4) = some (.slice a4 L2 C2) ∧
  funV cmp fun fg1 fa1 fc1 => callX Tryz.prog F fg1 (fa1 ++ (([.agg #[.int .i64 n1, .int .i64 n2, .int .i64 n3, .int .i64 n4, .slice a2 L1 C1], .agg #[.int .i64 n5, .int .i64 n6, .int .i64 n7, .int .i64 n8, .slice a4 L2 C2]] : List Value) ++ fc1)).toArray h fun v1 h2 => ∃ r1 : Int, v1 = .int .i64 r1 ∧
  cond (decide (r1 < 0))
  (InR (((2 * root) + 1) + 1) ∧
  slices_siftDownCmpFunc_l35_Step_b2 data dataL dataC hi first cmp root (((2 * root) + 1) + 1) h2 nx0 K)
  (slices_siftDownCmpFunc_l35_Step_b2 data dataL dataC hi first cmp root ((2 * root) + 1) h2 nx0 K))
  (slices_siftDownCmpFunc_l35_Step_b2 data dataL dataC hi first cmp root ((2 * root) + 1) h nx0 K))) := by kernel_rfl
theorem slices_siftDownCmpFunc_l35_Step_b2_eq (data : Option Addr) (dataL : Nat) (dataC : Nat) (hi : Int) (first : Int) (cmp : Value) (root : Int) (child : Int) (h : Hp) (nx0 : Int × Unit → Hp → Prop) (K : Value → Hp → Prop) : slices_siftDownCmpFunc_l35_Step_b2 data dataL dataC hi first cmp root child h nx0 K = (
  InR (first + root) ∧
  (0 ≤ first + root ∧ first + root < (dataL : Int)) ∧
  NN data fun a5 =>
  ∃ n9 : Int, ∃ n10 : Int, ∃ n11 : Int, ∃ n12 : Int, ∃ (a6 : Option Addr) (L3 C3 : Nat), cell h (a5.add (Int.toNat (first + root) * 5)) = some (.int .i64 n9) ∧
  cell h ((a5.add (Int.toNat (first + root) * 5)).add 1) = some (.int .i64 n10) ∧
  cell h ((a5.add (Int.toNat (first + root) * 5)).add 2) = some (.int .i64 n11) ∧
  cell h ((a5.add (Int.toNat (first + root) * 5)).add 3) = some (.int .i64 n12) ∧
  cell h ((a5.add (Int.toNat (first + root) * 5)).add 4) = some (.slice a6 L3 C3) ∧
  InR (first + child) ∧
  (0 ≤ first + child ∧ first + child < (dataL : Int)) ∧
  NN data fun a7 =>
  ∃ n13 : Int, ∃ n14 : Int, ∃ n15 : Int, ∃ n16 : Int, ∃ (a8 : Option Addr) (L4 C4 : Nat), cell h (a7.add (Int.toNat (first + child) * 5)) = some (.int .i64 n13) ∧
  cell h ((a7.add (Int.toNat (first + child) * 5)).add 1) = some (.int .i64 n14) ∧
  cell h ((a7.add (Int.toNat (first + child) * 5)).add 2) = some (.int .i64 n15) ∧
  cell h ((a7.add (Int.toNat (first + child) * 5)).add 3) = some (.int .i64 n16) ∧
  cell h ((a7.add (Int.toNat (first + child) * 5)).add 4) = some (.slice a8 L4 C4) ∧
  funV cmp fun fg2 fa2 fc2 => callX Tryz.prog F fg2 (fa2 ++ (([.agg #[.int .i64 n9, .int .i64 n10, .int .i64 n11, .int .i64 n12, .slice a6 L3 C3], .agg #[.int .i64 n13, .int .i64 n14, .int .i64 n15, .int .i64 n16, .slice a8 L4 C4]] : List Value) ++ fc2)).toArray h fun v2 h3 => ∃ r2 : Int, v2 = .int .i64 r2 ∧
  cond (!(decide (r2 < 0)))
  (K (.tuple #[]) h3)
  (InR (first + root) ∧
  InR (first + child) ∧
  InR (first + child) ∧
  (0 ≤ first + child ∧ first + child < (dataL : Int)) ∧
  NN data fun a9 =>
  ∃ n17 : Int, ∃ n18 : Int, ∃ n19 : Int, ∃ n20 : Int, ∃ (a10 : Option Addr) (L5 C5 : Nat), cell h3 (a9.add (Int.toNat (first + child) * 5)) = some (.int .i64 n17) ∧
  cell h3 ((a9.add (Int.toNat (first + child) * 5)).add 1) = some (.int .i64 n18) ∧
  cell h3 ((a9.add (Int.toNat (first + child) * 5)).add 2) = some (.int .i64 n19) ∧
  cell h3 ((a9.add (Int.toNat (first + child) * 5)).add 3) = some (.int .i64 n20) ∧
  cell h3 ((a9.add (Int.toNat (first + child) * 5)).add 4) = some (.slice a10 L5 C5) ∧
  InR (first + root) ∧
  (0 ≤ first + root ∧ first + root < (dataL : Int)) ∧
  NN data fun a11 =>
  ∃ n21 : Int, ∃ n22 : Int, ∃ n23 : Int, ∃ n24 : Int, ∃ (a12 : Option Addr) (L6 C6 : Nat), cell h3 (a11.add (Int.toNat (first + root) * 5)) = some (.int .i64 n21) ∧
  cell h3 ((a11.add (Int.toNat (first + root) * 5)).add 1) = some (.int .i64 n22) ∧
  cell h3 ((a11.add (Int.toNat (first + root) * 5)).add 2) = some (.int .i64 n23) ∧
  cell h3 ((a11.add (Int.toNat (first + root) * 5)).add 3) = some (.int .i64 n24) ∧
  cell h3 ((a11.add (Int.toNat (first + root) * 5)).add 4) = some (.slice a12 L6 C6) ∧
  (0 ≤ first + root ∧ first + root < (dataL : Int)) ∧
  NN data fun a13 =>
  Wr h3 (a13.add (Int.toNat (first + root) * 5)) (.int .i64 n17) fun h4 =>
  Wr h4 ((a13.add (Int.toNat (first + root) * 5)).add 1) (.int .i64 n18) fun h5 =>
  Wr h5 ((a13.add (Int.toNat (first + root) * 5)).add 2) (.int .i64 n19) fun h6 =>
  Wr h6 ((a13.add (Int.toNat (first + root) * 5)).add 3) (.int .i64 n20) fun h7 =>
  Wr h7 ((a13.add (Int.toNat (first + root) * 5)).add 4) (.slice a10 L5 C5) fun h8 =>
  (0 ≤ first + child ∧ first + child < (dataL : Int)) ∧
  NN data fun a14 =>
  Wr h8 (a14.add (Int.toNat (first + child) * 5)) (.int .i64 n21) fun h9 =>
  Wr h9 ((a14.add (Int.toNat (first + child) * 5)).add 1) (.int .i64 n22) fun h10 =>
  Wr h10 ((a14.add (Int.toNat (first + child) * 5)).add 2) (.int .i64 n23) fun h11 =>
  Wr h11 ((a14.add (Int.toNat (first + child) * 5)).add 3) (.int .i64 n24) fun h12 =>
  Wr h12 ((a14.add (Int.toNat (first + child) * 5)).add 4) (.slice a12 L6 C6) fun h13 =>
  nx0 (child, ()) h13)) := by kernel_rfl
theorem slices_siftDownCmpFunc_l35_Step_call {data : Option Addr} {dataL : Nat} {dataC : Nat} {lo : Int} {hi : Int} {first : Int} {cmp : Value} {h : Hp} {K : Value → Hp → Prop} (hk : slices_siftDownCmpFunc_l35_Step_b0 data dataL dataC lo hi first cmp h K) : HCalls Tryz.prog 154 #[.slice data dataL dataC, .int .i64 lo, .int .i64 hi, .int .i64 first, cmp] h K :=
  calls_of_snd slices_siftDownCmpFunc_l35_Step_an Tryz.func154 (c := bodyOf Tryz.f154) rfl Tryz.ntmps154 (Nat.le_of_ble_eq_true rfl) (snd_3 F_ok F_mixed) hk

/-! ### slices_nextPowerOfTwo -/
def slices_nextPowerOfTwo_an : Ann := .leaf
def slices_nextPowerOfTwo_K0  (K : Value → Hp → Prop) : Exit → Env → Hp → Prop := retK Tryz.prog Tryz.f155.results.toList K
def slices_nextPowerOfTwo_b0 (length : Int) (h : Hp)  (K : Value → Hp → Prop) : Prop :=
  sx_1 Tryz.prog F 7 (cp [] (bodyOf Tryz.f155)) (ap [] slices_nextPowerOfTwo_an) [(0, .int .i64 length)] h (slices_nextPowerOfTwo_K0  K)
theorem slices_nextPowerOfTwo_b0_eq (length : Int) (h : Hp)  (K : Value → Hp → Prop) : slices_nextPowerOfTwo_b0 length h  K = (
  HCalls Tryz.prog 89 #[.int .u64 (IntKind.u64.wrap length)] h fun v1 h1 => ∃ r1 : Int, v1 = .int .i64 r1 ∧
  ∃ sl1 : Int, Sx.Shl .u64 1 r1 sl1 ∧
  K (.int .u64 sl1) h1) := by kernel_rfl
theorem slices_nextPowerOfTwo_call {length : Int} {h : Hp} {K : Value → Hp → Prop} (hk : slices_nextPowerOfTwo_b0 length h K) : HCalls Tryz.prog 155 #[.int .i64 length] h K :=
  calls_of_snd slices_nextPowerOfTwo_an Tryz.func155 (c := bodyOf Tryz.f155) rfl Tryz.ntmps155 (Nat.le_of_ble_eq_true rfl) (snd_1 F_ok F_mixed) hk

/-! ### slices_xorshift_Next -/
def slices_xorshift_Next_an : Ann := .node none (.leaf) (.node none (.tail 9) (.node none (.tail 9) (.node none (.tail 9) (.leaf))))
def slices_xorshift_Next_K0  (K : Value → Hp → Prop) : Exit → Env → Hp → Prop := retK Tryz.prog Tryz.f156.results.toList K
def slices_xorshift_Next_b0 (r : Option Addr) (h : Hp)  (K : Value → Hp → Prop) : Prop :=
  sx_1 Tryz.prog F 33 (cp [] (bodyOf Tryz.f156)) (ap [] slices_xorshift_Next_an) [(0, .pointer r)] h (slices_xorshift_Next_K0  K)
theorem slices_xorshift_Next_b0_eq (r : Option Addr) (h : Hp)  (K : Value → Hp → Prop) : slices_xorshift_Next_b0 r h  K = (
  NN r fun a1 =>
  ∃ n1 : Int, cell h a1 = some (.int .u64 n1) ∧
  NN r fun a2 =>
  ∃ n2 : Int, cell h a2 = some (.int .u64 n2) ∧
  ∃ sl1 : Int, Sx.Shl .u64 n2 13 sl1 ∧
  ∃ xo1 : Int, Sx.Xor .u64 n1 sl1 xo1 ∧
  NN r fun a3 =>
  Wr h a3 (.int .u64 xo1) fun h1 =>
  NN r fun a4 =>
  ∃ n3 : Int, cell h1 a4 = some (.int .u64 n3) ∧
  NN r fun a5 =>
  ∃ n4 : Int, cell h1 a5 = some (.int .u64 n4) ∧
  ∃ sr1 : Int, Sx.Shr .u64 n4 7 sr1 ∧
  ∃ xo2 : Int, Sx.Xor .u64 n3 sr1 xo2 ∧
  NN r fun a6 =>
  Wr h1 a6 (.int .u64 xo2) fun h2 =>
  NN r fun a7 =>
  ∃ n5 : Int, cell h2 a7 = some (.int .u64 n5) ∧
  NN r fun a8 =>
  ∃ n6 : Int, cell h2 a8 = some (.int .u64 n6) ∧
  ∃ sl2 : Int, Sx.Shl .u64 n6 17 sl2 ∧
  ∃ xo3 : Int, Sx.Xor .u64 n5 sl2 xo3 ∧
  NN r fun a9 =>
  Wr h2 a9 (.int .u64 xo3) fun h3 =>
  NN r fun a10 =>
  ∃ n7 : Int, cell h3 a10 = some (.int .u64 n7) ∧
  K (.int .u64 n7) h3) := by kernel_rfl
theorem slices_xorshift_Next_call {r : Option Addr} {h : Hp} {K : Value → Hp → Prop} (hk : slices_xorshift_Next_b0 r h K) : HCalls Tryz.prog 156 #[.pointer r] h K :=
  calls_of_snd slices_xorshift_Next_an Tryz.func156 (c := bodyOf Tryz.f156) rfl Tryz.ntmps156 (Nat.le_of_ble_eq_true rfl) (snd_1 F_ok F_mixed) hk

/-! ### slices_medianAdjacentCmpFunc_l35_Step -/
def slices_medianAdjacentCmpFunc_l35_Step_an : Ann := .leaf
def slices_medianAdjacentCmpFunc_l35_Step_K0  (K : Value → Hp → Prop) : Exit → Env → Hp → Prop := retK Tryz.prog Tryz.f157.results.toList K
def slices_medianAdjacentCmpFunc_l35_Step_b0 (data : Option Addr) (dataL : Nat) (dataC : Nat) (a : Int) (swaps : Option Addr) (cmp : Value) (h : Hp)  (K : Value → Hp → Prop) : Prop :=
  sx_1 Tryz.prog F 18 (cp [] (bodyOf Tryz.f157)) (ap [] slices_medianAdjacentCmpFunc_l35_Step_an) [(0, .slice data dataL dataC), (1, .int .i64 a), (2, .pointer swaps), (3, cmp)] h (slices_medianAdjacentCmpFunc_l35_Step_K0  K)
theorem slices_medianAdjacentCmpFunc_l35_Step_b0_eq (data : Option Addr) (dataL : Nat) (dataC : Nat) (a : Int) (swaps : Option Addr) (cmp : Value) (h : Hp)  (K : Value → Hp → Prop) : slices_medianAdjacentCmpFunc_l35_Step_b0 data dataL dataC a swaps cmp h  K = (
  InR (a - 1) ∧
  InR (a + 1) ∧
  HCalls Tryz.prog 158 #[.slice data dataL dataC, .int .i64 (a - 1), .int .i64 a, .int .i64 (a + 1), .pointer swaps, cmp] h fun v1 h1 => ∃ r1 : Int, v1 = .int .i64 r1 ∧
  K (.int .i64 r1) h1) := by kernel_rfl
theorem slices_medianAdjacentCmpFunc_l35_Step_call {data : Option Addr} {dataL : Nat} {dataC : Nat} {a : Int} {swaps : Option Addr} {cmp : Value} {h : Hp} {K : Value → Hp → Prop} (hk : slices_medianAdjacentCmpFunc_l35_Step_b0 data dataL dataC a swaps cmp h K) : HCalls Tryz.prog 157 #[.slice data dataL dataC, .int .i64 a, .pointer swaps, cmp] h K :=
  calls_of_snd slices_medianAdjacentCmpFunc_l35_Step_an Tryz.func157 (c := bodyOf Tryz.f157) rfl Tryz.ntmps157 (Nat.le_of_ble_eq_true rfl) (snd_1 F_ok F_mixed) hk

/-! ### slices_medianCmpFunc_l35_Step -/
def slices_medianCmpFunc_l35_Step_an : Ann := .leaf
def slices_medianCmpFunc_l35_Step_K0  (K : Value → Hp → Prop) : Exit → Env → Hp → Prop := retK Tryz.prog Tryz.f158.results.toList K
def slices_medianCmpFunc_l35_Step_b0 (data : Option Addr) (dataL : Nat) (dataC : Nat) (a : Int) (b : Int) (c : Int) (swaps : Option Addr) (cmp : Value) (h : Hp)  (K : Value → Hp → Prop) : Prop :=
  sx_1 Tryz.prog F 41 (cp [] (bodyOf Tryz.f158)) (ap [] slices_medianCmpFunc_l35_Step_an) [(0, .slice data dataL dataC), (1, .int .i64 a), (2, .int .i64 b), (3, .int .i64 c), (4, .pointer swaps), (5, cmp)] h (slices_medianCmpFunc_l35_Step_K0  K)
theorem slices_medianCmpFunc_l35_Step_b0_eq (data : Option Addr) (dataL : Nat) (dataC : Nat) (a : Int) (b : Int) (c : Int) (swaps : Option Addr) (cmp : Value) (h : Hp)  (K : Value → Hp → Prop) : slices_medianCmpFunc_l35_Step_b0 data dataL dataC a b c swaps cmp h  K = (
  HCalls Tryz.prog 177 #[.slice data dataL dataC, .int .i64 a, .int .i64 b, .pointer swaps, cmp] h fun v1 h1 => ∃ r1 : Int, ∃ r2 : Int, v1 = .tuple #[.int .i64 r1, .int .i64 r2] ∧
  HCalls Tryz.prog 177 #[.slice data dataL dataC, .int .i64 r2, .int .i64 c, .pointer swaps, cmp] h1 fun v2 h2 => ∃ r3 : Int, ∃ r4 : Int, v2 = .tuple #[.int .i64 r3, .int .i64 r4] ∧
  HCalls Tryz.prog 177 #[.slice data dataL dataC, .int .i64 r1, .int .i64 r3, .pointer swaps, cmp] h2 fun v3 h3 => ∃ r5 : Int, ∃ r6 : Int, v3 = .tuple #[.int .i64 r5, .int .i64 r6] ∧
  K (.int .i64 r6) h3) := by kernel_rfl
theorem slices_medianCmpFunc_l35_Step_call {data : Option Addr} {dataL : Nat} {dataC : Nat} {a : Int} {b : Int} {c : Int} {swaps : Option Addr} {cmp : Value} {h : Hp} {K : Value → Hp → Prop} (hk : slices_medianCmpFunc_l35_Step_b0 data dataL dataC a b c swaps cmp h K) : HCalls Tryz.prog 158 #[.slice data dataL dataC, .int .i64 a, .int .i64 b, .int .i64 c, .pointer swaps, cmp] h K :=
  calls_of_snd slices_medianCmpFunc_l35_Step_an Tryz.func158 (c := bodyOf Tryz.f158) rfl Tryz.ntmps158 (Nat.le_of_ble_eq_true rfl) (snd_1 F_ok F_mixed) hk

/-! ### model_width -/
def model_width_an : Ann := .node none (.leaf) (.node (some []) (.leaf) (.leaf))
def model_width_K0  (K : Value → Hp → Prop) : Exit → Env → Hp → Prop := retK Tryz.prog Tryz.f159.results.toList K
def model_width_b0 (kind : Int) (h : Hp)  (K : Value → Hp → Prop) : Prop :=
  sx_2 Tryz.prog F 11 (cp [] (bodyOf Tryz.f159)) (ap [] model_width_an) [(0, .int .i64 kind)] h (model_width_K0  K)
def model_width_b1  (h : Hp)  (K : Value → Hp → Prop) : Prop :=
  sx_1 Tryz.prog F 11 (cp [1, 1] (bodyOf Tryz.f159)) (ap [1, 1] model_width_an) [] h (model_width_K0  K)
theorem model_width_b0_eq (kind : Int) (h : Hp)  (K : Value → Hp → Prop) : model_width_b0 kind h  K = (
  cond (decide (kind = 1))
  (K (.tuple #[.int .i64 2, .int .i64 1]) h)
  (cond (decide (kind = 5))
  (K (.tuple #[.int .i64 3, .int .i64 2]) h)
  (cond (decide (kind = 2))
  (K (.tuple #[.int .i64 1, .int .i64 1]) h)
  (model_width_b1  h  K)))) := by kernel_rfl
theorem model_width_call {kind : Int} {h : Hp} {K : Value → Hp → Prop} (hk : model_width_b0 kind h K) : HCalls Tryz.prog 159 #[.int .i64 kind] h K :=
  calls_of_snd model_width_an Tryz.func159 (c := bodyOf Tryz.f159) rfl Tryz.ntmps159 (Nat.le_of_ble_eq_true rfl) (snd_2 F_ok F_mixed) hk

/-! ### model_validRows_c1 -/
def model_validRows_c1_an : Ann := .leaf
def model_validRows_c1_K0  (K : Value → Hp → Prop) : Exit → Env → Hp → Prop := retK Tryz.prog Tryz.f160.results.toList K
def model_validRows_c1_b0 (nv : Int) (h : Hp)  (K : Value → Hp → Prop) : Prop :=
  sx_1 Tryz.prog F 6 (cp [] (bodyOf Tryz.f160)) (ap [] model_validRows_c1_an) [(0, .int .i64 nv)] h (model_validRows_c1_K0  K)
theorem model_validRows_c1_b0_eq (nv : Int) (h : Hp)  (K : Value → Hp → Prop) : model_validRows_c1_b0 nv h  K = (
  HCalls Tryz.prog 109 #[.int .i64 nv] h fun v1 h1 => ∃ r1 : Bool, v1 = .bool r1 ∧
  K (.bool (!r1)) h1) := by kernel_rfl
theorem model_validRows_c1_call {nv : Int} {h : Hp} {K : Value → Hp → Prop} (hk : model_validRows_c1_b0 nv h K) : HCalls Tryz.prog 160 #[.int .i64 nv] h K :=
  calls_of_snd model_validRows_c1_an Tryz.func160 (c := bodyOf Tryz.f160) rfl Tryz.ntmps160 (Nat.le_of_ble_eq_true rfl) (snd_1 F_ok F_mixed) hk

/-! ### slices_Compare_Sint_int -/
def slices_Compare_Sint_int_an : Ann := .node none (.leaf) (.node (some [0, 1]) (.node none (.leaf) (.loop [0, 1, 9, 10] [(11, .int .i64)] (.node none (.leaf) (.node none (.leaf) (.node (some [0, 1, 9, 10, 11]) (.leaf) (.leaf)))))) (.leaf))
def slices_Compare_Sint_int_K0  (K : Value → Hp → Prop) : Exit → Env → Hp → Prop := retK Tryz.prog Tryz.f161.results.toList K
def slices_Compare_Sint_int_K1  (K : Value → Hp → Prop) : Exit → Env → Hp → Prop := thenE (fun env h => sx_2 Tryz.prog F 36 (cp [1, 1] (bodyOf Tryz.f161)) (ap [1, 1] slices_Compare_Sint_int_an) (rs [0, 1] env) h (slices_Compare_Sint_int_K0  K)) (slices_Compare_Sint_int_K0  K)
def slices_Compare_Sint_int_K2  (K : Value → Hp → Prop) : Exit → Env → Hp → Prop := blockE 0 (slices_Compare_Sint_int_K1  K)
def slices_Compare_Sint_int_K3 (nx0 : Int × Unit → Hp → Prop) (K : Value → Hp → Prop) : Exit → Env → Hp → Prop := thenE (fun env h => getV [(11, .int .i64)] env fun s => nx0 s h) (slices_Compare_Sint_int_K2  K)
def slices_Compare_Sint_int_b0 (s1 : Option Addr) (s1L : Nat) (s1C : Nat) (s2 : Option Addr) (s2L : Nat) (s2C : Nat) (h : Hp)  (K : Value → Hp → Prop) : Prop :=
  sx_3 Tryz.prog F 36 (cp [] (bodyOf Tryz.f161)) (ap [] slices_Compare_Sint_int_an) [(0, .slice s1 s1L s1C), (1, .slice s2 s2L s2C)] h (slices_Compare_Sint_int_K0  K)
def slices_Compare_Sint_int_b1 (t11 : Int) (s1 : Option Addr) (s1L : Nat) (s1C : Nat) (s2 : Option Addr) (s2L : Nat) (s2C : Nat) (t9 : Option Addr) (t9L : Nat) (t9C : Nat) (t10 : Int) (h : Hp) (nx0 : Int × Unit → Hp → Prop) (K : Value → Hp → Prop) : Prop :=
  sx_2 Tryz.prog F 36 (cp [1, 0, 1, 2, 2] (bodyOf Tryz.f161)) (ap [1, 0, 1, 2] slices_Compare_Sint_int_an) [(11, .int .i64 t11), (0, .slice s1 s1L s1C), (1, .slice s2 s2L s2C), (9, .slice t9 t9L t9C), (10, .int .i64 t10)] h (slices_Compare_Sint_int_K3 nx0 K)
def slices_Compare_Sint_int_b2 (s1 : Option Addr) (s1L : Nat) (s1C : Nat) (s2 : Option Addr) (s2L : Nat) (s2C : Nat) (t9 : Option Addr) (t9L : Nat) (t9C : Nat) (t10 : Int) (t11 : Int) (h : Hp) (nx0 : Int × Unit → Hp → Prop) (K : Value → Hp → Prop) : Prop :=
  sx_1 Tryz.prog F 36 (cp [1, 0, 1, 2, 2, 1, 1, 1] (bodyOf Tryz.f161)) (ap [1, 0, 1, 2, 1, 1, 1] slices_Compare_Sint_int_an) [(0, .slice s1 s1L s1C), (1, .slice s2 s2L s2C), (9, .slice t9 t9L t9C), (10, .int .i64 t10), (11, .int .i64 t11)] h (slices_Compare_Sint_int_K3 nx0 K)
def slices_Compare_Sint_int_b3 (s1 : Option Addr) (s1L : Nat) (s1C : Nat) (s2 : Option Addr) (s2L : Nat) (s2C : Nat) (h : Hp)  (K : Value → Hp → Prop) : Prop :=
  sx_2 Tryz.prog F 36 (cp [1, 1] (bodyOf Tryz.f161)) (ap [1, 1] slices_Compare_Sint_int_an) [(0, .slice s1 s1L s1C), (1, .slice s2 s2L s2C)] h (slices_Compare_Sint_int_K0  K)
theorem slices_Compare_Sint_int_b0_eq (s1 : Option Addr) (s1L : Nat) (s1C : Nat) (s2 : Option Addr) (s2L : Nat) (s2C : Nat) (h : Hp)  (K : Value → Hp → Prop) : slices_Compare_Sint_int_b0 s1 s1L s1C s2 s2L s2C h  K = (
  LoopVC ((0, ()) : Int × Unit) h (fun (nx0 : Int × Unit → Hp → Prop) (s3 : Int × Unit) h1 => slices_Compare_Sint_int_b1 s3.1 s1 s1L s1C s2 s2L s2C s1 s1L s1C (s1L : Int) h1 nx0 K)) := by kernel_rfl
theorem slices_Compare_Sint_int_b1_eq (t11 : Int) (s1 : Option Addr) (s1L : Nat) (s1C : Nat) (s2 : Option Addr) (s2L : Nat) (s2C : Nat) (t9 : Option Addr) (t9L : Nat) (t9C : Nat) (t10 : Int) (h : Hp) (nx0 : Int × Unit → Hp → Prop) (K : Value → Hp → Prop) : slices_Compare_Sint_int_b1 t11 s1 s1L s1C s2 s2L s2C t9 t9L t9C t10 h nx0 K = (
  cond (decide (t11 < t10))
  ((0 ≤ t11 ∧ t11 < (t9L : Int)) ∧
  NN t9 fun a1 =>
  ∃ n1 : Int, cell h (a1.add (Int.toNat t11 * 1)) = some (.int .i64 n1) ∧
  cond (decide ((s2L : Int) ≤ t11))
  (K (.int .i64 1) h)
  ((0 ≤ t11 ∧ t11 < (s2L : Int)) ∧
  NN s2 fun a2 =>
  ∃ n2 : Int, cell h (a2.add (Int.toNat t11 * 1)) = some (.int .i64 n2) ∧
  HCalls Tryz.prog 103 #[.int .i64 n1, .int .i64 n2] h fun v1 h2 => ∃ r1 : Int, v1 = .int .i64 r1 ∧
  cond (!decide (r1 = 0))
  (K (.int .i64 r1) h2)
  (slices_Compare_Sint_int_b2 s1 s1L s1C s2 s2L s2C t9 t9L t9C t10 t11 h2 nx0 K)))
  (slices_Compare_Sint_int_b3 s1 s1L s1C s2 s2L s2C h  K)) := by kernel_rfl
theorem slices_Compare_Sint_int_b2_eq (s1 : Option Addr) (s1L : Nat) (s1C : Nat) (s2 : Option Addr) (s2L : Nat) (s2C : Nat) (t9 : Option Addr) (t9L : Nat) (t9C : Nat) (t10 : Int) (t11 : Int) (h : Hp) (nx0 : Int × Unit → Hp → Prop) (K : Value → Hp → Prop) : slices_Compare_Sint_int_b2 s1 s1L s1C s2 s2L s2C t9 t9L t9C t10 t11 h nx0 K = (
  InR (t11 + 1) ∧
  nx0 (t11 + 1, ()) h) := by kernel_rfl
theorem slices_Compare_Sint_int_b3_eq (s1 : Option Addr) (s1L : Nat) (s1C : Nat) (s2 : Option Addr) (s2L : Nat) (s2C : Nat) (h : Hp)  (K : Value → Hp → Prop) : slices_Compare_Sint_int_b3 s1 s1L s1C s2 s2L s2C h  K = (
  cond (decide ((s1L : Int) < (s2L : Int)))
  (K (.int .i64 (-1)) h)
  (K (.int .i64 0) h)) := by kernel_rfl
theorem slices_Compare_Sint_int_call {s1 : Option Addr} {s1L : Nat} {s1C : Nat} {s2 : Option Addr} {s2L : Nat} {s2C : Nat} {h : Hp} {K : Value → Hp → Prop} (hk : slices_Compare_Sint_int_b0 s1 s1L s1C s2 s2L s2C h K) : HCalls Tryz.prog 161 #[.slice s1 s1L s1C, .slice s2 s2L s2C] h K :=
  calls_of_snd slices_Compare_Sint_int_an Tryz.func161 (c := bodyOf Tryz.f161) rfl Tryz.ntmps161 (Nat.le_of_ble_eq_true rfl) (snd_3 F_ok F_mixed) hk

/-! ### slices_Sort_Sint_int -/
/-! ### model_result -/
def model_result_an : Ann := .leaf
def model_result_K0  (K : Value → Hp → Prop) : Exit → Env → Hp → Prop := retK Tryz.prog Tryz.f163.results.toList K
def model_result_b0 (nv : Int) (h : Hp)  (K : Value → Hp → Prop) : Prop :=
  sx_1 Tryz.prog F 5 (cp [] (bodyOf Tryz.f163)) (ap [] model_result_an) [(0, .int .i64 nv)] h (model_result_K0  K)
theorem model_result_b0_eq (nv : Int) (h : Hp)  (K : Value → Hp → Prop) : model_result_b0 nv h  K = (
  New h (.cells #[.int .i64 0, .int .i64 0, .slice none 0 0] 61) fun b1 h1 =>
  Wr h1 ⟨b1, 0, none⟩ (.int .i64 0) fun h2 =>
  Wr h2 ((⟨b1, 0, none⟩ : Addr).add 1) (.int .i64 nv) fun h3 =>
  Wr h3 ((⟨b1, 0, none⟩ : Addr).add 2) (.slice none 0 0) fun h4 =>
  ∃ r1 : Int, ∃ r2 : Int, ∃ (r3 : Option Addr) (rL1 rC1 : Nat), cell h4 ⟨b1, 0, none⟩ = some (.int .i64 r1) ∧
  cell h4 ((⟨b1, 0, none⟩ : Addr).add 1) = some (.int .i64 r2) ∧
  cell h4 ((⟨b1, 0, none⟩ : Addr).add 2) = some (.slice r3 rL1 rC1) ∧
  K (.agg #[.int .i64 r1, .int .i64 r2, .slice r3 rL1 rC1]) h4) := by kernel_rfl
theorem model_result_call {nv : Int} {h : Hp} {K : Value → Hp → Prop} (hk : model_result_b0 nv h K) : HCalls Tryz.prog 163 #[.int .i64 nv] h K :=
  calls_of_snd model_result_an Tryz.func163 (c := bodyOf Tryz.f163) rfl Tryz.ntmps163 (Nat.le_of_ble_eq_true rfl) (snd_1 F_ok F_mixed) hk

/-! ### model_failed -/
def model_failed_an : Ann := .leaf
def model_failed_K0  (K : Value → Hp → Prop) : Exit → Env → Hp → Prop := retK Tryz.prog Tryz.f164.results.toList K
def model_failed_b0 (e : Int) (h : Hp)  (K : Value → Hp → Prop) : Prop :=
  sx_1 Tryz.prog F 5 (cp [] (bodyOf Tryz.f164)) (ap [] model_failed_an) [(0, .int .i64 e)] h (model_failed_K0  K)
theorem model_failed_b0_eq (e : Int) (h : Hp)  (K : Value → Hp → Prop) : model_failed_b0 e h  K = (
  New h (.cells #[.int .i64 0, .int .i64 0, .slice none 0 0] 61) fun b1 h1 =>
  Wr h1 ⟨b1, 0, none⟩ (.int .i64 e) fun h2 =>
  Wr h2 ((⟨b1, 0, none⟩ : Addr).add 1) (.int .i64 0) fun h3 =>
  Wr h3 ((⟨b1, 0, none⟩ : Addr).add 2) (.slice none 0 0) fun h4 =>
  ∃ r1 : Int, ∃ r2 : Int, ∃ (r3 : Option Addr) (rL1 rC1 : Nat), cell h4 ⟨b1, 0, none⟩ = some (.int .i64 r1) ∧
  cell h4 ((⟨b1, 0, none⟩ : Addr).add 1) = some (.int .i64 r2) ∧
  cell h4 ((⟨b1, 0, none⟩ : Addr).add 2) = some (.slice r3 rL1 rC1) ∧
  K (.agg #[.int .i64 r1, .int .i64 r2, .slice r3 rL1 rC1]) h4) := by kernel_rfl
theorem model_failed_call {e : Int} {h : Hp} {K : Value → Hp → Prop} (hk : model_failed_b0 e h K) : HCalls Tryz.prog 164 #[.int .i64 e] h K :=
  calls_of_snd model_failed_an Tryz.func164 (c := bodyOf Tryz.f164) rfl Tryz.ntmps164 (Nat.le_of_ble_eq_true rfl) (snd_1 F_ok F_mixed) hk

/-! ### model_find -/
def model_find_an : Ann := .leaf
def model_find_K0  (K : Value → Hp → Prop) : Exit → Env → Hp → Prop := retK Tryz.prog Tryz.f165.results.toList K
def model_find_b0 (rows : Option Addr) (rowsL : Nat) (rowsC : Nat) (key : Option Addr) (keyL : Nat) (keyC : Nat) (h : Hp)  (K : Value → Hp → Prop) : Prop :=
  sx_1 Tryz.prog F 11 (cp [] (bodyOf Tryz.f165)) (ap [] model_find_an) [(0, .slice rows rowsL rowsC), (1, .slice key keyL keyC)] h (model_find_K0  K)
theorem model_find_b0_eq (rows : Option Addr) (rowsL : Nat) (rowsC : Nat) (key : Option Addr) (keyL : Nat) (keyC : Nat) (h : Hp)  (K : Value → Hp → Prop) : model_find_b0 rows rowsL rowsC key keyL keyC h  K = (
  HCalls Tryz.prog 179 #[.slice rows rowsL rowsC, .slice key keyL keyC, .func (.func 180) #[] #[]] h fun v1 h1 => ∃ r1 : Int, ∃ r2 : Bool, v1 = .tuple #[.int .i64 r1, .bool r2] ∧
  K (.tuple #[.int .i64 r1, .bool r2]) h1) := by kernel_rfl
theorem model_find_call {rows : Option Addr} {rowsL : Nat} {rowsC : Nat} {key : Option Addr} {keyL : Nat} {keyC : Nat} {h : Hp} {K : Value → Hp → Prop} (hk : model_find_b0 rows rowsL rowsC key keyL keyC h K) : HCalls Tryz.prog 165 #[.slice rows rowsL rowsC, .slice key keyL keyC] h K :=
  calls_of_snd model_find_an Tryz.func165 (c := bodyOf Tryz.f165) rfl Tryz.ntmps165 (Nat.le_of_ble_eq_true rfl) (snd_1 F_ok F_mixed) hk

/-! ### slices_Insert_Sint_Sint -/
def slices_Insert_Sint_Sint_an : Ann := .node none (.leaf) (.node none (.leaf) (.node none (.leaf) (.node none (.leaf) (.node none (.leaf) (.node none (.leaf) (.node none (.node none (.leaf) (.node none (.node none (.leaf) (.node none (.leaf) (.node none (.tail 8) (.leaf)))) (.leaf))) (.node none (.leaf) (.node none (.node none (.leaf) (.node none (.node none (.tail 8) (.leaf)) (.leaf))) (.leaf)))))))))
def slices_Insert_Sint_Sint_K0  (K : Value → Hp → Prop) : Exit → Env → Hp → Prop := retK Tryz.prog Tryz.f166.results.toList K
def slices_Insert_Sint_Sint_b0 (s : Option Addr) (sL : Nat) (sC : Nat) (i : Int) (v : Option Addr) (vL : Nat) (vC : Nat) (h : Hp)  (K : Value → Hp → Prop) : Prop :=
  sx_1 Tryz.prog F 95 (cp [] (bodyOf Tryz.f166)) (ap [] slices_Insert_Sint_Sint_an) [(0, .slice s sL sC), (1, .int .i64 i), (2, .slice v vL vC)] h (slices_Insert_Sint_Sint_K0  K)
theorem slices_Insert_Sint_Sint_b0_eq (s : Option Addr) (sL : Nat) (sC : Nat) (i : Int) (v : Option Addr) (vL : Nat) (vC : Nat) (h : Hp)  (K : Value → Hp → Prop) : slices_Insert_Sint_Sint_b0 s sL sC i v vL vC h  K = (
  (0 ≤ i ∧ i ≤ (sL : Int) ∧ (sL : Int) ≤ (sC : Int)) ∧
  cond (decide ((vL : Int) = 0))
  (K (.slice s sL sC) h)
  (cond (decide (i = (sL : Int)))
  (appendV Tryz.prog 64 64 (.slice s sL sC) (.slice v vL vC) h (slK fun a1 l1 c1 h1 =>
  K (.slice a1 l1 c1) h1))
  (InR ((sL : Int) + (vL : Int)) ∧
  cond (decide ((sC : Int) < ((sL : Int) + (vL : Int))))
  ((0 ≤ (0 : Int) ∧ (0 : Int) ≤ i ∧ i ≤ (sC : Int)) ∧
  InR ((sL : Int) + (vL : Int)) ∧
  InR (((sL : Int) + (vL : Int)) - i) ∧
  appendV Tryz.prog 64 3 (.slice (subAddr s sC (Int.toNat (0 : Int)) 1) (Int.toNat i - Int.toNat (0 : Int)) (sC - Int.toNat (0 : Int))) (.int .i64 (((sL : Int) + (vL : Int)) - i)) h (slK fun a2 l2 c2 h2 =>
  (0 ≤ i ∧ i ≤ (l2 : Int) ∧ (l2 : Int) ≤ (c2 : Int)) ∧
  copyV Tryz.prog 64 (.slice (subAddr a2 c2 (Int.toNat i) 1) (Int.toNat (l2 : Int) - Int.toNat i) (c2 - Int.toNat i)) (.slice v vL vC) h2 fun v1 h3 =>
  InR (i + (vL : Int)) ∧
  (0 ≤ i + (vL : Int) ∧ i + (vL : Int) ≤ (l2 : Int) ∧ (l2 : Int) ≤ (c2 : Int)) ∧
  (0 ≤ i ∧ i ≤ (sL : Int) ∧ (sL : Int) ≤ (sC : Int)) ∧
  copyV Tryz.prog 64 (.slice (subAddr a2 c2 (Int.toNat (i + (vL : Int))) 1) (Int.toNat (l2 : Int) - Int.toNat (i + (vL : Int))) (c2 - Int.toNat (i + (vL : Int)))) (.slice (subAddr s sC (Int.toNat i) 1) (Int.toNat (sL : Int) - Int.toNat i) (sC - Int.toNat i)) h3 fun v2 h4 =>
  K (.slice a2 l2 c2) h4))
  (InR ((sL : Int) + (vL : Int)) ∧
  (0 ≤ (0 : Int) ∧ (0 : Int) ≤ (sL : Int) + (vL : Int) ∧ (sL : Int) + (vL : Int) ≤ (sC : Int)) ∧
  InR (i + (vL : Int)) ∧
  (0 ≤ i + (vL : Int) ∧ i + (vL : Int) ≤ ((Int.toNat ((sL : Int) + (vL : Int)) - Int.toNat (0 : Int) : Nat) : Int) ∧ ((Int.toNat ((sL : Int) + (vL : Int)) - Int.toNat (0 : Int) : Nat) : Int) ≤ ((sC - Int.toNat (0 : Int) : Nat) : Int)) ∧
  ExtCall Tryz.prog 181 #[.slice v vL vC, .slice (subAddr (subAddr s sC (Int.toNat (0 : Int)) 1) (sC - Int.toNat (0 : Int)) (Int.toNat (i + (vL : Int))) 1) (Int.toNat ((Int.toNat ((sL : Int) + (vL : Int)) - Int.toNat (0 : Int) : Nat) : Int) - Int.toNat (i + (vL : Int))) ((sC - Int.toNat (0 : Int)) - Int.toNat (i + (vL : Int)))] h fun v3 => ∃ r1 : Bool, v3 = .bool r1 ∧
  cond (!r1)
  (InR (i + (vL : Int)) ∧
  (0 ≤ i + (vL : Int) ∧ i + (vL : Int) ≤ ((Int.toNat ((sL : Int) + (vL : Int)) - Int.toNat (0 : Int) : Nat) : Int) ∧ ((Int.toNat ((sL : Int) + (vL : Int)) - Int.toNat (0 : Int) : Nat) : Int) ≤ ((sC - Int.toNat (0 : Int) : Nat) : Int)) ∧
  (0 ≤ i ∧ i ≤ ((Int.toNat ((sL : Int) + (vL : Int)) - Int.toNat (0 : Int) : Nat) : Int) ∧ ((Int.toNat ((sL : Int) + (vL : Int)) - Int.toNat (0 : Int) : Nat) : Int) ≤ ((sC - Int.toNat (0 : Int) : Nat) : Int)) ∧
  copyV Tryz.prog 64 (.slice (subAddr (subAddr s sC (Int.toNat (0 : Int)) 1) (sC - Int.toNat (0 : Int)) (Int.toNat (i + (vL : Int))) 1) (Int.toNat ((Int.toNat ((sL : Int) + (vL : Int)) - Int.toNat (0 : Int) : Nat) : Int) - Int.toNat (i + (vL : Int))) ((sC - Int.toNat (0 : Int)) - Int.toNat (i + (vL : Int)))) (.slice (subAddr (subAddr s sC (Int.toNat (0 : Int)) 1) (sC - Int.toNat (0 : Int)) (Int.toNat i) 1) (Int.toNat ((Int.toNat ((sL : Int) + (vL : Int)) - Int.toNat (0 : Int) : Nat) : Int) - Int.toNat i) ((sC - Int.toNat (0 : Int)) - Int.toNat i)) h fun v4 h6 =>
  (0 ≤ i ∧ i ≤ ((Int.toNat ((sL : Int) + (vL : Int)) - Int.toNat (0 : Int) : Nat) : Int) ∧ ((Int.toNat ((sL : Int) + (vL : Int)) - Int.toNat (0 : Int) : Nat) : Int) ≤ ((sC - Int.toNat (0 : Int) : Nat) : Int)) ∧
  copyV Tryz.prog 64 (.slice (subAddr (subAddr s sC (Int.toNat (0 : Int)) 1) (sC - Int.toNat (0 : Int)) (Int.toNat i) 1) (Int.toNat ((Int.toNat ((sL : Int) + (vL : Int)) - Int.toNat (0 : Int) : Nat) : Int) - Int.toNat i) ((sC - Int.toNat (0 : Int)) - Int.toNat i)) (.slice v vL vC) h6 fun v5 h7 =>
  K (.slice (subAddr s sC (Int.toNat (0 : Int)) 1) (Int.toNat ((sL : Int) + (vL : Int)) - Int.toNat (0 : Int)) (sC - Int.toNat (0 : Int))) h7)
  ((0 ≤ (sL : Int) ∧ (sL : Int) ≤ ((Int.toNat ((sL : Int) + (vL : Int)) - Int.toNat (0 : Int) : Nat) : Int) ∧ ((Int.toNat ((sL : Int) + (vL : Int)) - Int.toNat (0 : Int) : Nat) : Int) ≤ ((sC - Int.toNat (0 : Int) : Nat) : Int)) ∧
  copyV Tryz.prog 64 (.slice (subAddr (subAddr s sC (Int.toNat (0 : Int)) 1) (sC - Int.toNat (0 : Int)) (Int.toNat (sL : Int)) 1) (Int.toNat ((Int.toNat ((sL : Int) + (vL : Int)) - Int.toNat (0 : Int) : Nat) : Int) - Int.toNat (sL : Int)) ((sC - Int.toNat (0 : Int)) - Int.toNat (sL : Int))) (.slice v vL vC) h fun v6 h8 =>
  (0 ≤ i ∧ i ≤ ((Int.toNat ((sL : Int) + (vL : Int)) - Int.toNat (0 : Int) : Nat) : Int) ∧ ((Int.toNat ((sL : Int) + (vL : Int)) - Int.toNat (0 : Int) : Nat) : Int) ≤ ((sC - Int.toNat (0 : Int) : Nat) : Int)) ∧
  HCalls Tryz.prog 182 #[.slice (subAddr (subAddr s sC (Int.toNat (0 : Int)) 1) (sC - Int.toNat (0 : Int)) (Int.toNat i) 1) (Int.toNat ((Int.toNat ((sL : Int) + (vL : Int)) - Int.toNat (0 : Int) : Nat) : Int) - Int.toNat i) ((sC - Int.toNat (0 : Int)) - Int.toNat i), .int .i64 (vL : Int)] h8 fun v7 h9 => v7 = .tuple #[] ∧
  K (.slice (subAddr s sC (Int.toNat (0 : Int)) 1) (Int.toNat ((sL : Int) + (vL : Int)) - Int.toNat (0 : Int)) (sC - Int.toNat (0 : Int))) h9))))) := by kernel_rfl
theorem slices_Insert_Sint_Sint_call {s : Option Addr} {sL : Nat} {sC : Nat} {i : Int} {v : Option Addr} {vL : Nat} {vC : Nat} {h : Hp} {K : Value → Hp → Prop} (hk : slices_Insert_Sint_Sint_b0 s sL sC i v vL vC h K) : HCalls Tryz.prog 166 #[.slice s sL sC, .int .i64 i, .slice v vL vC] h K :=
  calls_of_snd slices_Insert_Sint_Sint_an Tryz.func166 (c := bodyOf Tryz.f166) rfl Tryz.ntmps166 (Nat.le_of_ble_eq_true rfl) (snd_1 F_ok F_mixed) hk

/-! ### slices_Delete_Sint_Sint -/
def slices_Delete_Sint_Sint_an : Ann := .node none (.leaf) (.node none (.leaf) (.node none (.leaf) (.node none (.leaf) (.node none (.tail 6) (.leaf)))))
def slices_Delete_Sint_Sint_K0  (K : Value → Hp → Prop) : Exit → Env → Hp → Prop := retK Tryz.prog Tryz.f167.results.toList K
def slices_Delete_Sint_Sint_b0 (s : Option Addr) (sL : Nat) (sC : Nat) (i : Int) (j : Int) (h : Hp)  (K : Value → Hp → Prop) : Prop :=
  sx_1 Tryz.prog F 33 (cp [] (bodyOf Tryz.f167)) (ap [] slices_Delete_Sint_Sint_an) [(0, .slice s sL sC), (1, .int .i64 i), (2, .int .i64 j)] h (slices_Delete_Sint_Sint_K0  K)
theorem slices_Delete_Sint_Sint_b0_eq (s : Option Addr) (sL : Nat) (sC : Nat) (i : Int) (j : Int) (h : Hp)  (K : Value → Hp → Prop) : slices_Delete_Sint_Sint_b0 s sL sC i j h  K = (
  ∃ (a1 : Option Addr) (l1 c1 : Nat), slC Tryz.prog 64 (.slice s sL sC) (some (.int .i64 i)) (some (.int .i64 j)) (.int .i64 (sL : Int)) h a1 l1 c1 ∧
  cond (decide (i = j))
  (K (.slice s sL sC) h)
  ((0 ≤ (0 : Int) ∧ (0 : Int) ≤ i ∧ i ≤ (sC : Int)) ∧
  (0 ≤ j ∧ j ≤ (sL : Int) ∧ (sL : Int) ≤ (sC : Int)) ∧
  appendV Tryz.prog 64 64 (.slice (subAddr s sC (Int.toNat (0 : Int)) 1) (Int.toNat i - Int.toNat (0 : Int)) (sC - Int.toNat (0 : Int))) (.slice (subAddr s sC (Int.toNat j) 1) (Int.toNat (sL : Int) - Int.toNat j) (sC - Int.toNat j)) h (slK fun a2 l2 c2 h1 =>
  (0 ≤ (l2 : Int) ∧ (l2 : Int) ≤ (sL : Int) ∧ (sL : Int) ≤ (c2 : Int)) ∧
  clearV Tryz.prog 64 (.slice (subAddr a2 c2 (Int.toNat (l2 : Int)) 1) (Int.toNat (sL : Int) - Int.toNat (l2 : Int)) (c2 - Int.toNat (l2 : Int))) h1 fun h2 =>
  K (.slice a2 l2 c2) h2))) := by kernel_rfl
theorem slices_Delete_Sint_Sint_call {s : Option Addr} {sL : Nat} {sC : Nat} {i : Int} {j : Int} {h : Hp} {K : Value → Hp → Prop} (hk : slices_Delete_Sint_Sint_b0 s sL sC i j h K) : HCalls Tryz.prog 167 #[.slice s sL sC, .int .i64 i, .int .i64 j] h K :=
  calls_of_snd slices_Delete_Sint_Sint_an Tryz.func167 (c := bodyOf Tryz.f167) rfl Tryz.ntmps167 (Nat.le_of_ble_eq_true rfl) (snd_1 F_ok F_mixed) hk

/-! ### slices_Reverse_Sint_Sint -/
/-! ### model_class -/
/-! ### model_truth -/
/-! ### slices_rotateLeft_partialretro_action -/
/-! ### cmp_Or_int -/
def cmp_Or_int_an : Ann := .node none (.leaf) (.node none (.leaf) (.node (some [3]) (.node none (.leaf) (.loop [3, 6, 7] [(8, .int .i64)] (.node none (.leaf) (.node none (.leaf) (.node (some [3, 6, 7, 8]) (.leaf) (.leaf)))))) (.leaf)))
def cmp_Or_int_K0  (K : Value → Hp → Prop) : Exit → Env → Hp → Prop := retK Tryz.prog Tryz.f172.results.toList K
def cmp_Or_int_K1  (K : Value → Hp → Prop) : Exit → Env → Hp → Prop := thenE (fun env h => sx_2 Tryz.prog F 18 (cp [1, 1, 1] (bodyOf Tryz.f172)) (ap [1, 1, 1] cmp_Or_int_an) (rs [3] env) h (cmp_Or_int_K0  K)) (cmp_Or_int_K0  K)
def cmp_Or_int_K2  (K : Value → Hp → Prop) : Exit → Env → Hp → Prop := blockE 0 (cmp_Or_int_K1  K)
def cmp_Or_int_K3 (nx0 : Int × Unit → Hp → Prop) (K : Value → Hp → Prop) : Exit → Env → Hp → Prop := thenE (fun env h => getV [(8, .int .i64)] env fun s => nx0 s h) (cmp_Or_int_K2  K)
def cmp_Or_int_b0 (vals : Option Addr) (valsL : Nat) (valsC : Nat) (h : Hp)  (K : Value → Hp → Prop) : Prop :=
  sx_3 Tryz.prog F 18 (cp [] (bodyOf Tryz.f172)) (ap [] cmp_Or_int_an) [(0, .slice vals valsL valsC)] h (cmp_Or_int_K0  K)
def cmp_Or_int_b1 (t8 : Int) (zero : Int) (t6 : Option Addr) (t6L : Nat) (t6C : Nat) (t7 : Int) (h : Hp) (nx0 : Int × Unit → Hp → Prop) (K : Value → Hp → Prop) : Prop :=
  sx_2 Tryz.prog F 18 (cp [1, 1, 0, 1, 2, 2] (bodyOf Tryz.f172)) (ap [1, 1, 0, 1, 2] cmp_Or_int_an) [(8, .int .i64 t8), (3, .int .i64 zero), (6, .slice t6 t6L t6C), (7, .int .i64 t7)] h (cmp_Or_int_K3 nx0 K)
def cmp_Or_int_b2 (zero : Int) (t6 : Option Addr) (t6L : Nat) (t6C : Nat) (t7 : Int) (t8 : Int) (h : Hp) (nx0 : Int × Unit → Hp → Prop) (K : Value → Hp → Prop) : Prop :=
  sx_1 Tryz.prog F 18 (cp [1, 1, 0, 1, 2, 2, 1, 1, 1] (bodyOf Tryz.f172)) (ap [1, 1, 0, 1, 2, 1, 1, 1] cmp_Or_int_an) [(3, .int .i64 zero), (6, .slice t6 t6L t6C), (7, .int .i64 t7), (8, .int .i64 t8)] h (cmp_Or_int_K3 nx0 K)
def cmp_Or_int_b3 (zero : Int) (h : Hp)  (K : Value → Hp → Prop) : Prop :=
  sx_2 Tryz.prog F 18 (cp [1, 1, 1] (bodyOf Tryz.f172)) (ap [1, 1, 1] cmp_Or_int_an) [(3, .int .i64 zero)] h (cmp_Or_int_K0  K)
theorem cmp_Or_int_b0_eq (vals : Option Addr) (valsL : Nat) (valsC : Nat) (h : Hp)  (K : Value → Hp → Prop) : cmp_Or_int_b0 vals valsL valsC h  K = (
  LoopVC ((0, ()) : Int × Unit) h (fun (nx0 : Int × Unit → Hp → Prop) (s1 : Int × Unit) h1 => cmp_Or_int_b1 s1.1 0 vals valsL valsC (valsL : Int) h1 nx0 K)) := by kernel_rfl
theorem cmp_Or_int_b1_eq (t8 : Int) (zero : Int) (t6 : Option Addr) (t6L : Nat) (t6C : Nat) (t7 : Int) (h : Hp) (nx0 : Int × Unit → Hp → Prop) (K : Value → Hp → Prop) : cmp_Or_int_b1 t8 zero t6 t6L t6C t7 h nx0 K = (
  cond (decide (t8 < t7))
  ((0 ≤ t8 ∧ t8 < (t6L : Int)) ∧
  NN t6 fun a1 =>
  ∃ n1 : Int, cell h (a1.add (Int.toNat t8 * 1)) = some (.int .i64 n1) ∧
  cond (!decide (n1 = zero))
  (K (.int .i64 n1) h)
  (cmp_Or_int_b2 zero t6 t6L t6C t7 t8 h nx0 K))
  (cmp_Or_int_b3 zero h  K)) := by kernel_rfl
theorem cmp_Or_int_b2_eq (zero : Int) (t6 : Option Addr) (t6L : Nat) (t6C : Nat) (t7 : Int) (t8 : Int) (h : Hp) (nx0 : Int × Unit → Hp → Prop) (K : Value → Hp → Prop) : cmp_Or_int_b2 zero t6 t6L t6C t7 t8 h nx0 K = (
  InR (t8 + 1) ∧
  nx0 (t8 + 1, ()) h) := by kernel_rfl
theorem cmp_Or_int_b3_eq (zero : Int) (h : Hp)  (K : Value → Hp → Prop) : cmp_Or_int_b3 zero h  K = (
  K (.int .i64 zero) h) := by kernel_rfl
theorem cmp_Or_int_call {vals : Option Addr} {valsL : Nat} {valsC : Nat} {h : Hp} {K : Value → Hp → Prop} (hk : cmp_Or_int_b0 vals valsL valsC h K) : HCalls Tryz.prog 172 #[.slice vals valsL valsC] h K :=
  calls_of_snd cmp_Or_int_an Tryz.func172 (c := bodyOf Tryz.f172) rfl Tryz.ntmps172 (Nat.le_of_ble_eq_true rfl) (snd_3 F_ok F_mixed) hk


/-! ### slices_rotateRight_partialretro_element -/
/-! ### slices_IndexFunc_Sapi_Op_api_Op -/
def slices_IndexFunc_Sapi_Op_api_Op_an : Ann := .node none (.leaf) (.node (some []) (.node none (.leaf) (.loop [0, 1, 7] [(8, .int .i64)] (.node none (.leaf) (.node none (.leaf) (.node (some [0, 1, 7, 8]) (.leaf) (.leaf)))))) (.leaf))
def slices_IndexFunc_Sapi_Op_api_Op_K0  (K : Value → Hp → Prop) : Exit → Env → Hp → Prop := retK Tryz.prog Tryz.f175.results.toList K
def slices_IndexFunc_Sapi_Op_api_Op_K1  (K : Value → Hp → Prop) : Exit → Env → Hp → Prop := thenE (fun env h => sx_2 Tryz.prog F 19 (cp [1, 1] (bodyOf Tryz.f175)) (ap [1, 1] slices_IndexFunc_Sapi_Op_api_Op_an) (rs [] env) h (slices_IndexFunc_Sapi_Op_api_Op_K0  K)) (slices_IndexFunc_Sapi_Op_api_Op_K0  K)
def slices_IndexFunc_Sapi_Op_api_Op_K2  (K : Value → Hp → Prop) : Exit → Env → Hp → Prop := blockE 0 (slices_IndexFunc_Sapi_Op_api_Op_K1  K)
def slices_IndexFunc_Sapi_Op_api_Op_K3 (nx0 : Int × Unit → Hp → Prop) (K : Value → Hp → Prop) : Exit → Env → Hp → Prop := thenE (fun env h => getV [(8, .int .i64)] env fun s => nx0 s h) (slices_IndexFunc_Sapi_Op_api_Op_K2  K)
def slices_IndexFunc_Sapi_Op_api_Op_b0 (s : Option Addr) (sL : Nat) (sC : Nat) (f : Value) (h : Hp)  (K : Value → Hp → Prop) : Prop :=
  sx_3 Tryz.prog F 19 (cp [] (bodyOf Tryz.f175)) (ap [] slices_IndexFunc_Sapi_Op_api_Op_an) [(0, .slice s sL sC), (1, f)] h (slices_IndexFunc_Sapi_Op_api_Op_K0  K)
def slices_IndexFunc_Sapi_Op_api_Op_b1 (t8 : Int) (s : Option Addr) (sL : Nat) (sC : Nat) (f : Value) (t7 : Int) (h : Hp) (nx0 : Int × Unit → Hp → Prop) (K : Value → Hp → Prop) : Prop :=
  sx_2 Tryz.prog F 19 (cp [1, 0, 1, 2, 2] (bodyOf Tryz.f175)) (ap [1, 0, 1, 2] slices_IndexFunc_Sapi_Op_api_Op_an) [(8, .int .i64 t8), (0, .slice s sL sC), (1, f), (7, .int .i64 t7)] h (slices_IndexFunc_Sapi_Op_api_Op_K3 nx0 K)
def slices_IndexFunc_Sapi_Op_api_Op_b2 (s : Option Addr) (sL : Nat) (sC : Nat) (f : Value) (t7 : Int) (t8 : Int) (h : Hp) (nx0 : Int × Unit → Hp → Prop) (K : Value → Hp → Prop) : Prop :=
  sx_1 Tryz.prog F 19 (cp [1, 0, 1, 2, 2, 1, 1, 1] (bodyOf Tryz.f175)) (ap [1, 0, 1, 2, 1, 1, 1] slices_IndexFunc_Sapi_Op_api_Op_an) [(0, .slice s sL sC), (1, f), (7, .int .i64 t7), (8, .int .i64 t8)] h (slices_IndexFunc_Sapi_Op_api_Op_K3 nx0 K)
def slices_IndexFunc_Sapi_Op_api_Op_b3  (h : Hp)  (K : Value → Hp → Prop) : Prop :=
  sx_2 Tryz.prog F 19 (cp [1, 1] (bodyOf Tryz.f175)) (ap [1, 1] slices_IndexFunc_Sapi_Op_api_Op_an) [] h (slices_IndexFunc_Sapi_Op_api_Op_K0  K)
theorem slices_IndexFunc_Sapi_Op_api_Op_b0_eq (s : Option Addr) (sL : Nat) (sC : Nat) (f : Value) (h : Hp)  (K : Value → Hp → Prop) : slices_IndexFunc_Sapi_Op_api_Op_b0 s sL sC f h  K = (
  LoopVC ((0, ()) : Int × Unit) h (fun (nx0 : Int × Unit → Hp → Prop) (s1 : Int × Unit) h1 => slices_IndexFunc_Sapi_Op_api_Op_b1 s1.1 s sL sC f (sL : Int) h1 nx0 K)) := by kernel_rfl
theorem slices_IndexFunc_Sapi_Op_api_Op_b1_eq (t8 : Int) (s : Option Addr) (sL : Nat) (sC : Nat) (f : Value) (t7 : Int) (h : Hp) (nx0 : Int × Unit → Hp → Prop) (K : Value → Hp → Prop) : slices_IndexFunc_Sapi_Op_api_Op_b1 t8 s sL sC f t7 h nx0 K = (
  cond (decide (t8 < t7))
  ((0 ≤ t8 ∧ t8 < (sL : Int)) ∧
  NN s fun a1 =>
  ∃ n1 : Int, ∃ (a2 : Option Addr) (L1 C1 : Nat), cell h (a1.add (Int.toNat t8 * 2)) = some (.int .i64 n1) ∧
  cell h ((a1.add (Int.toNat t8 * 2)).add 1) = some (.slice a2 L1 C1) ∧
  funV f fun fg1 fa1 fc1 => callX Tryz.prog F fg1 (fa1 ++ (([.agg #[.int .i64 n1, .slice a2 L1 C1]] : List Value) ++ fc1)).toArray h fun v1 h2 => ∃ r1 : Bool, v1 = .bool r1 ∧
  cond r1
  (K (.int .i64 t8) h2)
  (slices_IndexFunc_Sapi_Op_api_Op_b2 s sL sC f t7 t8 h2 nx0 K))
  (slices_IndexFunc_Sapi_Op_api_Op_b3  h  K)) := by kernel_rfl
theorem slices_IndexFunc_Sapi_Op_api_Op_b2_eq (s : Option Addr) (sL : Nat) (sC : Nat) (f : Value) (t7 : Int) (t8 : Int) (h : Hp) (nx0 : Int × Unit → Hp → Prop) (K : Value → Hp → Prop) : slices_IndexFunc_Sapi_Op_api_Op_b2 s sL sC f t7 t8 h nx0 K = (
  InR (t8 + 1) ∧
  nx0 (t8 + 1, ()) h) := by kernel_rfl
theorem slices_IndexFunc_Sapi_Op_api_Op_b3_eq  (h : Hp)  (K : Value → Hp → Prop) : slices_IndexFunc_Sapi_Op_api_Op_b3  h  K = (
  K (.int .i64 (-1)) h) := by kernel_rfl
theorem slices_IndexFunc_Sapi_Op_api_Op_call {s : Option Addr} {sL : Nat} {sC : Nat} {f : Value} {h : Hp} {K : Value → Hp → Prop} (hk : slices_IndexFunc_Sapi_Op_api_Op_b0 s sL sC f h K) : HCalls Tryz.prog 175 #[.slice s sL sC, f] h K :=
  calls_of_snd slices_IndexFunc_Sapi_Op_api_Op_an Tryz.func175 (c := bodyOf Tryz.f175) rfl Tryz.ntmps175 (Nat.le_of_ble_eq_true rfl) (snd_3 F_ok F_mixed) hk

/-! ### slices_Reverse_Sapi_Op_api_Op -/
/-! ### slices_order2CmpFunc_l35_Step -/
def slices_order2CmpFunc_l35_Step_an : Ann := .node none (.leaf) (.node none (.node none (.tail 9) (.leaf)) (.leaf))
def slices_order2CmpFunc_l35_Step_K0  (K : Value → Hp → Prop) : Exit → Env → Hp → Prop := retK Tryz.prog Tryz.f177.results.toList K
def slices_order2CmpFunc_l35_Step_b0 (data : Option Addr) (dataL : Nat) (dataC : Nat) (a : Int) (b : Int) (swaps : Option Addr) (cmp : Value) (h : Hp)  (K : Value → Hp → Prop) : Prop :=
  sx_1 Tryz.prog F 32 (cp [] (bodyOf Tryz.f177)) (ap [] slices_order2CmpFunc_l35_Step_an) [(0, .slice data dataL dataC), (1, .int .i64 a), (2, .int .i64 b), (3, .pointer swaps), (4, cmp)] h (slices_order2CmpFunc_l35_Step_K0  K)
theorem slices_order2CmpFunc_l35_Step_b0_eq (data : Option Addr) (dataL : Nat) (dataC : Nat) (a : Int) (b : Int) (swaps : Option Addr) (cmp : Value) (h : Hp)  (K : Value → Hp → Prop) : slices_order2CmpFunc_l35_Step_b0 data dataL dataC a b swaps cmp h  K = (
  (0 ≤ b ∧ b < (dataL : Int)) ∧
  NN data fun a1 =>
  ∃ n1 : Int, ∃ n2 : Int, ∃ n3 : Int, ∃ n4 : Int, ∃ (a2 : Option Addr) (L1 C1 : Nat), cell h (a1.add (Int.toNat b * 5)) = some (.int .i64 n1) ∧
  cell h ((a1.add (Int.toNat b * 5)).add 1) = some (.int .i64 n2) ∧
  cell h ((a1.add (Int.toNat b * 5)).add 2) = some (.int .i64 n3) ∧
  cell h ((a1.add (Int.toNat b * 5)).add 3) = some (.int .i64 n4) ∧
  cell h ((a1.add (Int.toNat b * 5)).add 4) = some (.slice a2 L1 C1) ∧
  (0 ≤ a ∧ a < (dataL : Int)) ∧
  NN data fun a3 =>
  ∃ n5 : Int, ∃ n6 : Int, ∃ n7 : Int, ∃ n8 : Int, ∃ (a4 : Option Addr) (L2 C2 : Nat), cell h (a3.add (Int.toNat a * 5)) = some (.int .i64 n5) ∧
  cell h ((a3.add (Int.toNat a * 5)).add 1) = some (.int .i64 n6) ∧
  cell h ((a3.add (Int.toNat a * 5)).add 2) = some (.int .i64 n7) ∧
  cell h ((a3.add (Int.toNat a * 5)).add 3) = some (.int .i64 n8) ∧
  cell h ((a3.add (Int.toNat a * 5)).add 4) = some (.slice a4 L2 C2) ∧
  funV cmp fun fg1 fa1 fc1 => callX Tryz.prog F fg1 (fa1 ++ (([.agg #[.int .i64 n1, .int .i64 n2, .int .i64 n3, .int .i64 n4, .slice a2 L1 C1], .agg #[.int .i64 n5, .int .i64 n6, .int .i64 n7, .int .i64 n8, .slice a4 L2 C2]] : List Value) ++ fc1)).toArray h fun v1 h1 => ∃ r1 : Int, v1 = .int .i64 r1 ∧
  cond (decide (r1 < 0))
  (NN swaps fun a5 =>
  ∃ n9 : Int, cell h1 a5 = some (.int .i64 n9) ∧
  InR (n9 + 1) ∧
  NN swaps fun a6 =>
  Wr h1 a6 (.int .i64 (n9 + 1)) fun h2 =>
  K (.tuple #[.int .i64 b, .int .i64 a]) h2)
  (K (.tuple #[.int .i64 a, .int .i64 b]) h1)) := by kernel_rfl
theorem slices_order2CmpFunc_l35_Step_call {data : Option Addr} {dataL : Nat} {dataC : Nat} {a : Int} {b : Int} {swaps : Option Addr} {cmp : Value} {h : Hp} {K : Value → Hp → Prop} (hk : slices_order2CmpFunc_l35_Step_b0 data dataL dataC a b swaps cmp h K) : HCalls Tryz.prog 177 #[.slice data dataL dataC, .int .i64 a, .int .i64 b, .pointer swaps, cmp] h K :=
  calls_of_snd slices_order2CmpFunc_l35_Step_an Tryz.func177 (c := bodyOf Tryz.f177) rfl Tryz.ntmps177 (Nat.le_of_ble_eq_true rfl) (snd_1 F_ok F_mixed) hk

/-! ### slices_pdqsortOrdered_int -/
/-! ### slices_BinarySearchFunc_Sint_Sint_Sint -/
def slices_BinarySearchFunc_Sint_Sint_Sint_an : Ann := .node none (.leaf) (.node none (.leaf) (.node none (.leaf) (.node (some [0, 1, 2, 8, 9]) (.loop [0, 1, 2, 8] [(9, .int .i64), (10, .int .i64)] (.leaf)) (.leaf))))
def slices_BinarySearchFunc_Sint_Sint_Sint_K0  (K : Value → Hp → Prop) : Exit → Env → Hp → Prop := retK Tryz.prog Tryz.f179.results.toList K
def slices_BinarySearchFunc_Sint_Sint_Sint_K1  (K : Value → Hp → Prop) : Exit → Env → Hp → Prop := thenE (fun env h => sx_1 Tryz.prog F 49 (cp [1, 1, 1, 1] (bodyOf Tryz.f179)) (ap [1, 1, 1, 1] slices_BinarySearchFunc_Sint_Sint_Sint_an) (rs [0, 1, 2, 8, 9] env) h (slices_BinarySearchFunc_Sint_Sint_Sint_K0  K)) (slices_BinarySearchFunc_Sint_Sint_Sint_K0  K)
def slices_BinarySearchFunc_Sint_Sint_Sint_K2  (K : Value → Hp → Prop) : Exit → Env → Hp → Prop := blockE 0 (slices_BinarySearchFunc_Sint_Sint_Sint_K1  K)
def slices_BinarySearchFunc_Sint_Sint_Sint_K3 (nx0 : Int × Int × Unit → Hp → Prop) (K : Value → Hp → Prop) : Exit → Env → Hp → Prop := thenE (fun env h => getV [(9, .int .i64), (10, .int .i64)] env fun s => nx0 s h) (slices_BinarySearchFunc_Sint_Sint_Sint_K2  K)
def slices_BinarySearchFunc_Sint_Sint_Sint_b0 (x : Option Addr) (xL : Nat) (xC : Nat) (target : Option Addr) (targetL : Nat) (targetC : Nat) (cmp : Value) (h : Hp)  (K : Value → Hp → Prop) : Prop :=
  sx_2 Tryz.prog F 49 (cp [] (bodyOf Tryz.f179)) (ap [] slices_BinarySearchFunc_Sint_Sint_Sint_an) [(0, .slice x xL xC), (1, .slice target targetL targetC), (2, cmp)] h (slices_BinarySearchFunc_Sint_Sint_Sint_K0  K)
def slices_BinarySearchFunc_Sint_Sint_Sint_b1 (i : Int) (j : Int) (x : Option Addr) (xL : Nat) (xC : Nat) (target : Option Addr) (targetL : Nat) (targetC : Nat) (cmp : Value) (nv : Int) (h : Hp) (nx0 : Int × Int × Unit → Hp → Prop) (K : Value → Hp → Prop) : Prop :=
  sx_1 Tryz.prog F 49 (cp [1, 1, 1, 0, 2, 2] (bodyOf Tryz.f179)) (ap [1, 1, 1, 0, 2] slices_BinarySearchFunc_Sint_Sint_Sint_an) [(9, .int .i64 i), (10, .int .i64 j), (0, .slice x xL xC), (1, .slice target targetL targetC), (2, cmp), (8, .int .i64 nv)] h (slices_BinarySearchFunc_Sint_Sint_Sint_K3 nx0 K)
def slices_BinarySearchFunc_Sint_Sint_Sint_b2 (x : Option Addr) (xL : Nat) (xC : Nat) (target : Option Addr) (targetL : Nat) (targetC : Nat) (cmp : Value) (nv : Int) (i : Int) (h : Hp)  (K : Value → Hp → Prop) : Prop :=
  sx_1 Tryz.prog F 49 (cp [1, 1, 1, 1] (bodyOf Tryz.f179)) (ap [1, 1, 1, 1] slices_BinarySearchFunc_Sint_Sint_Sint_an) [(0, .slice x xL xC), (1, .slice target targetL targetC), (2, cmp), (8, .int .i64 nv), (9, .int .i64 i)] h (slices_BinarySearchFunc_Sint_Sint_Sint_K0  K)
theorem slices_BinarySearchFunc_Sint_Sint_Sint_b0_eq (x : Option Addr) (xL : Nat) (xC : Nat) (target : Option Addr) (targetL : Nat) (targetC : Nat) (cmp : Value) (h : Hp)  (K : Value → Hp → Prop) : slices_BinarySearchFunc_Sint_Sint_Sint_b0 x xL xC target targetL targetC cmp h  K = (
  LoopVC ((0, (xL : Int), ()) : Int × Int × Unit) h (fun (nx0 : Int × Int × Unit → Hp → Prop) (s1 : Int × Int × Unit) h1 => slices_BinarySearchFunc_Sint_Sint_Sint_b1 s1.1 s1.2.1 x xL xC target targetL targetC cmp (xL : Int) h1 nx0 K)) := by kernel_rfl
theorem slices_BinarySearchFunc_Sint_Sint_Sint_b1_eq (i : Int) (j : Int) (x : Option Addr) (xL : Nat) (xC : Nat) (target : Option Addr) (targetL : Nat) (targetC : Nat) (cmp : Value) (nv : Int) (h : Hp) (nx0 : Int × Int × Unit → Hp → Prop) (K : Value → Hp → Prop) : slices_BinarySearchFunc_Sint_Sint_Sint_b1 i j x xL xC target targetL targetC cmp nv h nx0 K = (
  cond (decide (i < j))
  (InR (i + j) ∧
  ∃ sr1 : Int, Sx.Shr .u64 (IntKind.u64.wrap (i + j)) 1 sr1 ∧
  InR sr1 ∧
  (0 ≤ sr1 ∧ sr1 < (xL : Int)) ∧
  NN x fun a1 =>
  ∃ (a2 : Option Addr) (L1 C1 : Nat), cell h (a1.add (Int.toNat sr1 * 1)) = some (.slice a2 L1 C1) ∧
  funV cmp fun fg1 fa1 fc1 => callX Tryz.prog F fg1 (fa1 ++ (([.slice a2 L1 C1, .slice target targetL targetC] : List Value) ++ fc1)).toArray h fun v1 h2 => ∃ r1 : Int, v1 = .int .i64 r1 ∧
  cond (decide (r1 < 0))
  (InR (sr1 + 1) ∧
  nx0 (sr1 + 1, j, ()) h2)
  (nx0 (i, sr1, ()) h2))
  (slices_BinarySearchFunc_Sint_Sint_Sint_b2 x xL xC target targetL targetC cmp nv i h  K)) := by kernel_rfl
theorem slices_BinarySearchFunc_Sint_Sint_Sint_b2_eq (x : Option Addr) (xL : Nat) (xC : Nat) (target : Option Addr) (targetL : Nat) (targetC : Nat) (cmp : Value) (nv : Int) (i : Int) (h : Hp)  (K : Value → Hp → Prop) : slices_BinarySearchFunc_Sint_Sint_Sint_b2 x xL xC target targetL targetC cmp nv i h  K = (
  cond (decide (i < nv))
  ((0 ≤ i ∧ i < (xL : Int)) ∧
  NN x fun a3 =>
  ∃ (a4 : Option Addr) (L2 C2 : Nat), cell h (a3.add (Int.toNat i * 1)) = some (.slice a4 L2 C2) ∧
  funV cmp fun fg2 fa2 fc2 => callX Tryz.prog F fg2 (fa2 ++ (([.slice a4 L2 C2, .slice target targetL targetC] : List Value) ++ fc2)).toArray h fun v2 h3 => ∃ r2 : Int, v2 = .int .i64 r2 ∧
  K (.tuple #[.int .i64 i, .bool (decide (r2 = 0))]) h3)
  (K (.tuple #[.int .i64 i, .bool false]) h)) := by kernel_rfl
theorem slices_BinarySearchFunc_Sint_Sint_Sint_call {x : Option Addr} {xL : Nat} {xC : Nat} {target : Option Addr} {targetL : Nat} {targetC : Nat} {cmp : Value} {h : Hp} {K : Value → Hp → Prop} (hk : slices_BinarySearchFunc_Sint_Sint_Sint_b0 x xL xC target targetL targetC cmp h K) : HCalls Tryz.prog 179 #[.slice x xL xC, .slice target targetL targetC, cmp] h K :=
  calls_of_snd slices_BinarySearchFunc_Sint_Sint_Sint_an Tryz.func179 (c := bodyOf Tryz.f179) rfl Tryz.ntmps179 (Nat.le_of_ble_eq_true rfl) (snd_2 F_ok F_mixed) hk

/-! ### model_find_c1 -/
def model_find_c1_an : Ann := .leaf
def model_find_c1_K0  (K : Value → Hp → Prop) : Exit → Env → Hp → Prop := retK Tryz.prog Tryz.f180.results.toList K
def model_find_c1_b0 (row : Option Addr) (rowL : Nat) (rowC : Nat) (key : Option Addr) (keyL : Nat) (keyC : Nat) (h : Hp)  (K : Value → Hp → Prop) : Prop :=
  sx_1 Tryz.prog F 11 (cp [] (bodyOf Tryz.f180)) (ap [] model_find_c1_an) [(0, .slice row rowL rowC), (1, .slice key keyL keyC)] h (model_find_c1_K0  K)
theorem model_find_c1_b0_eq (row : Option Addr) (rowL : Nat) (rowC : Nat) (key : Option Addr) (keyL : Nat) (keyC : Nat) (h : Hp)  (K : Value → Hp → Prop) : model_find_c1_b0 row rowL rowC key keyL keyC h  K = (
  (0 ≤ (0 : Int) ∧ (0 : Int) ≤ (keyL : Int) ∧ (keyL : Int) ≤ (rowC : Int)) ∧
  HCalls Tryz.prog 161 #[.slice (subAddr row rowC (Int.toNat (0 : Int)) 1) (Int.toNat (keyL : Int) - Int.toNat (0 : Int)) (rowC - Int.toNat (0 : Int)), .slice key keyL keyC] h fun v1 h1 => ∃ r1 : Int, v1 = .int .i64 r1 ∧
  K (.int .i64 r1) h1) := by kernel_rfl
theorem model_find_c1_call {row : Option Addr} {rowL : Nat} {rowC : Nat} {key : Option Addr} {keyL : Nat} {keyC : Nat} {h : Hp} {K : Value → Hp → Prop} (hk : model_find_c1_b0 row rowL rowC key keyL keyC h K) : HCalls Tryz.prog 180 #[.slice row rowL rowC, .slice key keyL keyC] h K :=
  calls_of_snd model_find_c1_an Tryz.func180 (c := bodyOf Tryz.f180) rfl Tryz.ntmps180 (Nat.le_of_ble_eq_true rfl) (snd_1 F_ok F_mixed) hk


/-! ### slices_rotateRight_Sint -/
/-! ### slices_IndexFunc_Sint_Sint -/
/-! ### model_class_c1 -/
/-! ### slices_Reverse_Spartialretro_action_partialretro_action -/
/-! ### slices_rotateLeft_partialretro_element -/
/-! ### slices_insertionSortOrdered_int -/
end Go.Proofs.YtdlkohenamlnaaaGreat
