/- Plain statements of what each block of code of this seat asks; printed by a program, checked by Lean. -/
import Derived.Test.YtdlkohenamlnaaaGreatSxV0
set_option maxRecDepth 10000
namespace Go.Proofs.YtdlkohenamlnaaaGreat
open Go Go.Sx

/-! ### model_validRows -/
def model_validRows_an : Ann := .node none (.leaf) (.node none (.leaf) (.node none (.leaf) (.node (some []) (.node none (.leaf) (.loop [1, 3, 4, 19, 20] [(21, .int .i64)] (.node none (.leaf) (.node none (.leaf) (.node (some [1, 3, 4, 19, 20, 21]) (.node none (.leaf) (.node (some [1, 3, 4, 5, 6, 19, 20, 21]) (.leaf) (.node (some [1, 3, 4, 5, 6, 19, 20, 21]) (.leaf) (.leaf)))) (.leaf)))))) (.leaf))))
def model_validRows_K0  (K : Value → Hp → Prop) : Exit → Env → Hp → Prop := retK Tryz.prog Tryz.f134.results.toList K
def model_validRows_K1  (K : Value → Hp → Prop) : Exit → Env → Hp → Prop := thenE (fun env h => sx_3 Tryz.prog F 64 (cp [1, 1, 1, 1] (bodyOf Tryz.f134)) (ap [1, 1, 1, 1] model_validRows_an) (rs [] env) h (model_validRows_K0  K)) (model_validRows_K0  K)
def model_validRows_K2  (K : Value → Hp → Prop) : Exit → Env → Hp → Prop := blockE 0 (model_validRows_K1  K)
def model_validRows_K3 (nx0 : Int × Unit → Hp → Prop) (K : Value → Hp → Prop) : Exit → Env → Hp → Prop := thenE (fun env h => getV [(21, .int .i64)] env fun s => nx0 s h) (model_validRows_K2  K)
def model_validRows_K4 (nx0 : Int × Unit → Hp → Prop) (K : Value → Hp → Prop) : Exit → Env → Hp → Prop := thenE (fun env h => sx_2 Tryz.prog F 64 (cp [1, 1, 1, 0, 1, 2, 2, 1, 1, 1] (bodyOf Tryz.f134)) (ap [1, 1, 1, 0, 1, 2, 1, 1, 1] model_validRows_an) (rs [1, 3, 4, 19, 20, 21] env) h (model_validRows_K3 nx0 K)) (model_validRows_K3 nx0 K)
def model_validRows_K5 (nx0 : Int × Unit → Hp → Prop) (K : Value → Hp → Prop) : Exit → Env → Hp → Prop := blockE 1 (model_validRows_K4 nx0 K)
def model_validRows_b0 (s_0 : Int) (s_1 : Option Addr) (s_1L : Nat) (s_1C : Nat) (h : Hp)  (K : Value → Hp → Prop) : Prop :=
  sx_4 Tryz.prog F 64 (cp [] (bodyOf Tryz.f134)) (ap [] model_validRows_an) [(0, .agg #[.int .i64 s_0, .slice s_1 s_1L s_1C])] h (model_validRows_K0  K)
def model_validRows_b1 (t21 : Int) (s : Option Addr) (w : Int) (keys : Int) (t19 : Option Addr) (t19L : Nat) (t19C : Nat) (t20 : Int) (h : Hp) (nx0 : Int × Unit → Hp → Prop) (K : Value → Hp → Prop) : Prop :=
  sx_3 Tryz.prog F 64 (cp [1, 1, 1, 0, 1, 2, 2] (bodyOf Tryz.f134)) (ap [1, 1, 1, 0, 1, 2] model_validRows_an) [(21, .int .i64 t21), (1, .pointer s), (3, .int .i64 w), (4, .int .i64 keys), (19, .slice t19 t19L t19C), (20, .int .i64 t20)] h (model_validRows_K3 nx0 K)
def model_validRows_b2 (s : Option Addr) (w : Int) (keys : Int) (i : Int) (row : Option Addr) (rowL : Nat) (rowC : Nat) (t19 : Option Addr) (t19L : Nat) (t19C : Nat) (t20 : Int) (t21 : Int) (h : Hp) (nx0 : Int × Unit → Hp → Prop) (K : Value → Hp → Prop) : Prop :=
  sx_2 Tryz.prog F 64 (cp [1, 1, 1, 0, 1, 2, 2, 1, 1, 0, 2, 1, 1] (bodyOf Tryz.f134)) (ap [1, 1, 1, 0, 1, 2, 1, 1, 0, 1, 1] model_validRows_an) [(1, .pointer s), (3, .int .i64 w), (4, .int .i64 keys), (5, .int .i64 i), (6, .slice row rowL rowC), (19, .slice t19 t19L t19C), (20, .int .i64 t20), (21, .int .i64 t21)] h (model_validRows_K5 nx0 K)
def model_validRows_b3  (h : Hp)  (K : Value → Hp → Prop) : Prop :=
  sx_3 Tryz.prog F 64 (cp [1, 1, 1, 1] (bodyOf Tryz.f134)) (ap [1, 1, 1, 1] model_validRows_an) [] h (model_validRows_K0  K)
def model_validRows_b4 (s : Option Addr) (w : Int) (keys : Int) (t19 : Option Addr) (t19L : Nat) (t19C : Nat) (t20 : Int) (t21 : Int) (h : Hp) (nx0 : Int × Unit → Hp → Prop) (K : Value → Hp → Prop) : Prop :=
  sx_2 Tryz.prog F 64 (cp [1, 1, 1, 0, 1, 2, 2, 1, 1, 1] (bodyOf Tryz.f134)) (ap [1, 1, 1, 0, 1, 2, 1, 1, 1] model_validRows_an) [(1, .pointer s), (3, .int .i64 w), (4, .int .i64 keys), (19, .slice t19 t19L t19C), (20, .int .i64 t20), (21, .int .i64 t21)] h (model_validRows_K3 nx0 K)
def model_validRows_b5 (s : Option Addr) (w : Int) (keys : Int) (i : Int) (row : Option Addr) (rowL : Nat) (rowC : Nat) (t19 : Option Addr) (t19L : Nat) (t19C : Nat) (t20 : Int) (t21 : Int) (h : Hp) (nx0 : Int × Unit → Hp → Prop) (K : Value → Hp → Prop) : Prop :=
  sx_1 Tryz.prog F 64 (cp [1, 1, 1, 0, 1, 2, 2, 1, 1, 0, 2, 1, 1, 1] (bodyOf Tryz.f134)) (ap [1, 1, 1, 0, 1, 2, 1, 1, 0, 1, 1, 1] model_validRows_an) [(1, .pointer s), (3, .int .i64 w), (4, .int .i64 keys), (5, .int .i64 i), (6, .slice row rowL rowC), (19, .slice t19 t19L t19C), (20, .int .i64 t20), (21, .int .i64 t21)] h (model_validRows_K5 nx0 K)
theorem model_validRows_b0_eq (s_0 : Int) (s_1 : Option Addr) (s_1L : Nat) (s_1C : Nat) (h : Hp)  (K : Value → Hp → Prop) : model_validRows_b0 s_0 s_1 s_1L s_1C h  K = (
  New h (.cells #[.int .i64 s_0, .slice s_1 s_1L s_1C] 66) fun b1 h1 =>
  ∃ (a1 : Option Addr) (L1 C1 : Nat), cell h1 ((⟨b1, 0, none⟩ : Addr).add 1) = some (.slice a1 L1 C1) ∧
  cond (decide ((500 : Int) < (L1 : Int)))
  (K (.bool false) h1)
  (∃ n1 : Int, cell h1 ⟨b1, 0, none⟩ = some (.int .i64 n1) ∧
  HCalls Tryz.prog 159 #[.int .i64 n1] h1 fun v1 h2 => ∃ r1 : Int, ∃ r2 : Int, v1 = .tuple #[.int .i64 r1, .int .i64 r2] ∧
  ∃ (a2 : Option Addr) (L2 C2 : Nat), cell h2 ((⟨b1, 0, none⟩ : Addr).add 1) = some (.slice a2 L2 C2) ∧
  LoopVC ((0, ()) : Int × Unit) h2 (fun (nx0 : Int × Unit → Hp → Prop) (s1 : Int × Unit) h3 => model_validRows_b1 s1.1 (some ⟨b1, 0, none⟩) r1 r2 a2 L2 C2 (L2 : Int) h3 nx0 K))) := by kernel_rfl
theorem model_validRows_b1_eq (t21 : Int) (s : Option Addr) (w : Int) (keys : Int) (t19 : Option Addr) (t19L : Nat) (t19C : Nat) (t20 : Int) (h : Hp) (nx0 : Int × Unit → Hp → Prop) (K : Value → Hp → Prop) : model_validRows_b1 t21 s w keys t19 t19L t19C t20 h nx0 K = (
  cond (decide (t21 < t20))
  ((0 ≤ t21 ∧ t21 < (t19L : Int)) ∧
  NN t19 fun a3 =>
  ∃ (a4 : Option Addr) (L3 C3 : Nat), cell h (a3.add (Int.toNat t21 * 1)) = some (.slice a4 L3 C3) ∧
  cond (!decide ((L3 : Int) = w))
  (K (.bool false) h)
  (HCalls Tryz.prog 105 #[.slice a4 L3 C3, .func (.func 160) #[] #[]] h fun v2 h4 => ∃ r3 : Bool, v2 = .bool r3 ∧
  cond r3
  (K (.bool false) h4)
  (model_validRows_b2 s w keys t21 a4 L3 C3 t19 t19L t19C t20 t21 h4 nx0 K)))
  (model_validRows_b3  h  K)) := by kernel_rfl
theorem model_validRows_b2_eq (s : Option Addr) (w : Int) (keys : Int) (i : Int) (row : Option Addr) (rowL : Nat) (rowC : Nat) (t19 : Option Addr) (t19L : Nat) (t19C : Nat) (t20 : Int) (t21 : Int) (h : Hp) (nx0 : Int × Unit → Hp → Prop) (K : Value → Hp → Prop) : model_validRows_b2 s w keys i row rowL rowC t19 t19L t19C t20 t21 h nx0 K = (
  cond (decide (i = 0))
  (model_validRows_b4 s w keys t19 t19L t19C t20 t21 h nx0 K)
  (cond (decide (keys = 0))
  (model_validRows_b4 s w keys t19 t19L t19C t20 t21 h nx0 K)
  (model_validRows_b5 s w keys i row rowL rowC t19 t19L t19C t20 t21 h nx0 K))) := by kernel_rfl
theorem model_validRows_b3_eq  (h : Hp)  (K : Value → Hp → Prop) : model_validRows_b3  h  K = (
  K (.bool true) h) := by kernel_rfl
theorem model_validRows_b4_eq (s : Option Addr) (w : Int) (keys : Int) (t19 : Option Addr) (t19L : Nat) (t19C : Nat) (t20 : Int) (t21 : Int) (h : Hp) (nx0 : Int × Unit → Hp → Prop) (K : Value → Hp → Prop) : model_validRows_b4 s w keys t19 t19L t19C t20 t21 h nx0 K = (
  InR (t21 + 1) ∧
  nx0 (t21 + 1, ()) h) := by kernel_rfl
theorem model_validRows_b5_eq (s : Option Addr) (w : Int) (keys : Int) (i : Int) (row : Option Addr) (rowL : Nat) (rowC : Nat) (t19 : Option Addr) (t19L : Nat) (t19C : Nat) (t20 : Int) (t21 : Int) (h : Hp) (nx0 : Int × Unit → Hp → Prop) (K : Value → Hp → Prop) : model_validRows_b5 s w keys i row rowL rowC t19 t19L t19C t20 t21 h nx0 K = (
  NN s fun a5 =>
  ∃ (a6 : Option Addr) (L4 C4 : Nat), cell h (a5.add 1) = some (.slice a6 L4 C4) ∧
  InR (i - 1) ∧
  (0 ≤ i - 1 ∧ i - 1 < (L4 : Int)) ∧
  NN a6 fun a7 =>
  ∃ (a8 : Option Addr) (L5 C5 : Nat), cell h (a7.add (Int.toNat (i - 1) * 1)) = some (.slice a8 L5 C5) ∧
  (0 ≤ (0 : Int) ∧ (0 : Int) ≤ keys ∧ keys ≤ (C5 : Int)) ∧
  (0 ≤ (0 : Int) ∧ (0 : Int) ≤ keys ∧ keys ≤ (rowC : Int)) ∧
  ∃ r4 : Int, HCalls Tryz.prog 161 #[.slice (subAddr a8 C5 (Int.toNat (0 : Int)) 1) (Int.toNat keys - Int.toNat (0 : Int)) (C5 - Int.toNat (0 : Int)), .slice (subAddr row rowC (Int.toNat (0 : Int)) 1) (Int.toNat keys - Int.toNat (0 : Int)) (rowC - Int.toNat (0 : Int))] h (fun v3 h5 => v3 = .int .i64 r4 ∧ h5 = h) ∧
  cond (decide ((0 : Int) < r4))
  (K (.bool false) h)
  (cond (decide (r4 = 0))
  (NN s fun a9 =>
  ∃ n2 : Int, cell h a9 = some (.int .i64 n2) ∧
  cond (!decide (n2 = 2))
  (K (.bool false) h)
  (model_validRows_b4 s w keys t19 t19L t19C t20 t21 h nx0 K))
  (model_validRows_b4 s w keys t19 t19L t19C t20 t21 h nx0 K))) := by kernel_rfl
theorem model_validRows_call {s_0 : Int} {s_1 : Option Addr} {s_1L : Nat} {s_1C : Nat} {h : Hp} {K : Value → Hp → Prop} (hk : model_validRows_b0 s_0 s_1 s_1L s_1C h K) : HCalls Tryz.prog 134 #[.agg #[.int .i64 s_0, .slice s_1 s_1L s_1C]] h K :=
  calls_of_snd model_validRows_an Tryz.func134 (c := bodyOf Tryz.f134) rfl Tryz.ntmps134 (Nat.le_of_ble_eq_true rfl) (snd_4 F_ok F_mixed) hk


end Go.Proofs.YtdlkohenamlnaaaGreat
