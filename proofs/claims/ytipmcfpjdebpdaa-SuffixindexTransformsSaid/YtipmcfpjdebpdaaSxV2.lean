/- Plain statements of what each block of code of this seat asks; printed by a program, checked by Lean. -/
import Derived.Test.YtipmcfpjdebpdaaSxV0
set_option maxRecDepth 10000
namespace Go.Proofs.Ytipmcfpjdebpdaa
open Go Go.Sx

/-! ### r30_Inverse -/
def r30_Inverse_an : Ann := .node none (.leaf) (.node none (.leaf) (.node (some [0, 1]) (.leaf) (.node (some [0, 1]) (.node none (.leaf) (.loop [0, 1] [(6, .int .i64)] (.node none (.leaf) (.node (some [0, 1, 6]) (.leaf) (.leaf))))) (.node none (.leaf) (.node none (.leaf) (.node (some [0, 1, 7]) (.loop [0, 1] [(7, .slice), (8, .int .i64)] (.node none (.leaf) (.node none (.leaf) (.node none (.leaf) (.node none (.leaf) (.node none (.leaf) (.node (some [0, 1, 7, 10]) (.node none (.leaf) (.loop [0, 1, 7, 8, 9] [(10, .int .i64), (11, .int .i64)] (.node none (.leaf) (.node (some [0, 1, 7, 8, 9, 10, 11]) (.leaf) (.leaf))))) (.leaf)))))))) (.node none (.leaf) (.node none (.leaf) (.node (some [12]) (.leaf) (.leaf))))))))))
def r30_Inverse_K0  (K : Value → Hp → Prop) : Exit → Env → Hp → Prop := retK Try.prog Try.f30.results.toList K
def r30_Inverse_K1  (K : Value → Hp → Prop) : Exit → Env → Hp → Prop := thenE (fun env h => sx_4 Try.prog F 107 (cp [1, 1, 1, 1] (bodyOf Try.f30)) (ap [1, 1, 1, 1] r30_Inverse_an) (rs [0, 1] env) h (r30_Inverse_K0  K)) (r30_Inverse_K0  K)
def r30_Inverse_K2  (K : Value → Hp → Prop) : Exit → Env → Hp → Prop := blockE 0 (r30_Inverse_K1  K)
def r30_Inverse_K3 (nx0 : Int × Unit → Hp → Prop) (K : Value → Hp → Prop) : Exit → Env → Hp → Prop := thenE (fun env h => getV [(6, .int .i64)] env fun s => nx0 s h) (r30_Inverse_K2  K)
def r30_Inverse_K4  (K : Value → Hp → Prop) : Exit → Env → Hp → Prop := thenE (fun env h => sx_3 Try.prog F 107 (cp [1, 1, 1, 1, 1, 1, 1] (bodyOf Try.f30)) (ap [1, 1, 1, 1, 1, 1, 1] r30_Inverse_an) (rs [0, 1, 7] env) h (r30_Inverse_K0  K)) (r30_Inverse_K0  K)
def r30_Inverse_K5  (K : Value → Hp → Prop) : Exit → Env → Hp → Prop := blockE 2 (r30_Inverse_K4  K)
def r30_Inverse_K6 (nx0 : (Option Addr × Nat × Nat) × Int × Unit → Hp → Prop) (K : Value → Hp → Prop) : Exit → Env → Hp → Prop := thenE (fun env h => getV [(7, .slice), (8, .int .i64)] env fun s => nx0 s h) (r30_Inverse_K5  K)
def r30_Inverse_K7 (nx0 : (Option Addr × Nat × Nat) × Int × Unit → Hp → Prop) (K : Value → Hp → Prop) : Exit → Env → Hp → Prop := blockE 3 (r30_Inverse_K6 nx0 K)
def r30_Inverse_K8 (nx0 : (Option Addr × Nat × Nat) × Int × Unit → Hp → Prop) (K : Value → Hp → Prop) : Exit → Env → Hp → Prop := thenE (fun env h => sx_2 Try.prog F 107 (cp [1, 1, 1, 1, 1, 1, 0, 2, 2, 1, 2, 1, 1, 1, 1, 1] (bodyOf Try.f30)) (ap [1, 1, 1, 1, 1, 1, 0, 2, 1, 1, 1, 1, 1, 1] r30_Inverse_an) (rs [0, 1, 7, 10] env) h (r30_Inverse_K7 nx0 K)) (r30_Inverse_K7 nx0 K)
def r30_Inverse_K9 (nx0 : (Option Addr × Nat × Nat) × Int × Unit → Hp → Prop) (K : Value → Hp → Prop) : Exit → Env → Hp → Prop := blockE 4 (r30_Inverse_K8 nx0 K)
def r30_Inverse_K10 (nx0 : (Option Addr × Nat × Nat) × Int × Unit → Hp → Prop) (nx1 : Int × Int × Unit → Hp → Prop) (K : Value → Hp → Prop) : Exit → Env → Hp → Prop := thenE (fun env h => getV [(10, .int .i64), (11, .int .i64)] env fun s => nx1 s h) (r30_Inverse_K9 nx0 K)
def r30_Inverse_b0 (l : Option Addr) (lL : Nat) (lC : Nat) (atv : Int) (h : Hp)  (K : Value → Hp → Prop) : Prop :=
  sx_6 Try.prog F 107 (cp [] (bodyOf Try.f30)) (ap [] r30_Inverse_an) [(0, .slice l lL lC), (1, .int .i64 atv)] h (r30_Inverse_K0  K)
def r30_Inverse_b1 (l : Option Addr) (lL : Nat) (lC : Nat) (atv : Int) (h : Hp)  (K : Value → Hp → Prop) : Prop :=
  sx_5 Try.prog F 107 (cp [1, 1, 1] (bodyOf Try.f30)) (ap [1, 1, 1] r30_Inverse_an) [(0, .slice l lL lC), (1, .int .i64 atv)] h (r30_Inverse_K0  K)
def r30_Inverse_b2 (i : Int) (l : Option Addr) (lL : Nat) (lC : Nat) (atv : Int) (h : Hp) (nx0 : Int × Unit → Hp → Prop) (K : Value → Hp → Prop) : Prop :=
  sx_4 Try.prog F 107 (cp [1, 1, 1, 0, 1, 2, 2] (bodyOf Try.f30)) (ap [1, 1, 1, 0, 1, 2] r30_Inverse_an) [(6, .int .i64 i), (0, .slice l lL lC), (1, .int .i64 atv)] h (r30_Inverse_K3 nx0 K)
def r30_Inverse_b3 (l : Option Addr) (lL : Nat) (lC : Nat) (atv : Int) (i : Int) (h : Hp) (nx0 : Int × Unit → Hp → Prop) (K : Value → Hp → Prop) : Prop :=
  sx_3 Try.prog F 107 (cp [1, 1, 1, 0, 1, 2, 2, 1, 1] (bodyOf Try.f30)) (ap [1, 1, 1, 0, 1, 2, 1, 1] r30_Inverse_an) [(0, .slice l lL lC), (1, .int .i64 atv), (6, .int .i64 i)] h (r30_Inverse_K3 nx0 K)
def r30_Inverse_b4 (l : Option Addr) (lL : Nat) (lC : Nat) (atv : Int) (h : Hp)  (K : Value → Hp → Prop) : Prop :=
  sx_4 Try.prog F 107 (cp [1, 1, 1, 1] (bodyOf Try.f30)) (ap [1, 1, 1, 1] r30_Inverse_an) [(0, .slice l lL lC), (1, .int .i64 atv)] h (r30_Inverse_K0  K)
def r30_Inverse_b5 (b : Option Addr) (bL : Nat) (bC : Nat) (row : Int) (l : Option Addr) (lL : Nat) (lC : Nat) (atv : Int) (h : Hp) (nx0 : (Option Addr × Nat × Nat) × Int × Unit → Hp → Prop) (K : Value → Hp → Prop) : Prop :=
  sx_3 Try.prog F 107 (cp [1, 1, 1, 1, 1, 1, 0, 2, 2] (bodyOf Try.f30)) (ap [1, 1, 1, 1, 1, 1, 0, 2] r30_Inverse_an) [(7, .slice b bL bC), (8, .int .i64 row), (0, .slice l lL lC), (1, .int .i64 atv)] h (r30_Inverse_K6 nx0 K)
def r30_Inverse_b6 (next : Int) (i : Int) (l : Option Addr) (lL : Nat) (lC : Nat) (atv : Int) (b : Option Addr) (bL : Nat) (bC : Nat) (row : Int) (c : Int) (h : Hp) (nx0 : (Option Addr × Nat × Nat) × Int × Unit → Hp → Prop) (nx1 : Int × Int × Unit → Hp → Prop) (K : Value → Hp → Prop) : Prop :=
  sx_2 Try.prog F 107 (cp [1, 1, 1, 1, 1, 1, 0, 2, 2, 1, 2, 1, 1, 1, 1, 0, 1, 2, 2] (bodyOf Try.f30)) (ap [1, 1, 1, 1, 1, 1, 0, 2, 1, 1, 1, 1, 1, 0, 1, 2] r30_Inverse_an) [(10, .int .i64 next), (11, .int .i64 i), (0, .slice l lL lC), (1, .int .i64 atv), (7, .slice b bL bC), (8, .int .i64 row), (9, .int .i64 c)] h (r30_Inverse_K10 nx0 nx1 K)
def r30_Inverse_b7 (l : Option Addr) (lL : Nat) (lC : Nat) (atv : Int) (b : Option Addr) (bL : Nat) (bC : Nat) (h : Hp)  (K : Value → Hp → Prop) : Prop :=
  sx_3 Try.prog F 107 (cp [1, 1, 1, 1, 1, 1, 1] (bodyOf Try.f30)) (ap [1, 1, 1, 1, 1, 1, 1] r30_Inverse_an) [(0, .slice l lL lC), (1, .int .i64 atv), (7, .slice b bL bC)] h (r30_Inverse_K0  K)
def r30_Inverse_b8 (l : Option Addr) (lL : Nat) (lC : Nat) (atv : Int) (b : Option Addr) (bL : Nat) (bC : Nat) (row : Int) (c : Int) (next : Int) (i : Int) (h : Hp) (nx0 : (Option Addr × Nat × Nat) × Int × Unit → Hp → Prop) (nx1 : Int × Int × Unit → Hp → Prop) (K : Value → Hp → Prop) : Prop :=
  sx_1 Try.prog F 107 (cp [1, 1, 1, 1, 1, 1, 0, 2, 2, 1, 2, 1, 1, 1, 1, 0, 1, 2, 2, 1, 1] (bodyOf Try.f30)) (ap [1, 1, 1, 1, 1, 1, 0, 2, 1, 1, 1, 1, 1, 0, 1, 2, 1, 1] r30_Inverse_an) [(0, .slice l lL lC), (1, .int .i64 atv), (7, .slice b bL bC), (8, .int .i64 row), (9, .int .i64 c), (10, .int .i64 next), (11, .int .i64 i)] h (r30_Inverse_K10 nx0 nx1 K)
def r30_Inverse_b9 (l : Option Addr) (lL : Nat) (lC : Nat) (atv : Int) (b : Option Addr) (bL : Nat) (bC : Nat) (next : Int) (h : Hp) (nx0 : (Option Addr × Nat × Nat) × Int × Unit → Hp → Prop) (K : Value → Hp → Prop) : Prop :=
  sx_2 Try.prog F 107 (cp [1, 1, 1, 1, 1, 1, 0, 2, 2, 1, 2, 1, 1, 1, 1, 1] (bodyOf Try.f30)) (ap [1, 1, 1, 1, 1, 1, 0, 2, 1, 1, 1, 1, 1, 1] r30_Inverse_an) [(0, .slice l lL lC), (1, .int .i64 atv), (7, .slice b bL bC), (10, .int .i64 next)] h (r30_Inverse_K7 nx0 K)
def r30_Inverse_b10 (s : ByteArray) (h : Hp)  (K : Value → Hp → Prop) : Prop :=
  sx_2 Try.prog F 107 (cp [1, 1, 1, 1, 1, 1, 1, 1, 1, 1] (bodyOf Try.f30)) (ap [1, 1, 1, 1, 1, 1, 1, 1, 1, 1] r30_Inverse_an) [(12, .string s)] h (r30_Inverse_K0  K)
theorem r30_Inverse_b0_eq (l : Option Addr) (lL : Nat) (lC : Nat) (atv : Int) (h : Hp)  (K : Value → Hp → Prop) : r30_Inverse_b0 l lL lC atv h  K = (
  cond (decide ((4097 : Int) < (lL : Int)))
  (K (.tuple #[.string (⟨#[]⟩ : ByteArray), .int .i64 4]) h)
  (cond (decide (atv < 0))
  (K (.tuple #[.string (⟨#[]⟩ : ByteArray), .int .i64 2]) h)
  (cond (decide ((lL : Int) ≤ atv))
  (K (.tuple #[.string (⟨#[]⟩ : ByteArray), .int .i64 2]) h)
  (r30_Inverse_b1 l lL lC atv h  K)))) := by kernel_rfl
theorem r30_Inverse_b1_eq (l : Option Addr) (lL : Nat) (lC : Nat) (atv : Int) (h : Hp)  (K : Value → Hp → Prop) : r30_Inverse_b1 l lL lC atv h  K = (
  LoopVC ((0, ()) : Int × Unit) h (fun (nx0 : Int × Unit → Hp → Prop) (s1 : Int × Unit) h1 => r30_Inverse_b2 s1.1 l lL lC atv h1 nx0 K)) := by kernel_rfl
theorem r30_Inverse_b2_eq (i : Int) (l : Option Addr) (lL : Nat) (lC : Nat) (atv : Int) (h : Hp) (nx0 : Int × Unit → Hp → Prop) (K : Value → Hp → Prop) : r30_Inverse_b2 i l lL lC atv h nx0 K = (
  cond (decide (i < (lL : Int)))
  ((0 ≤ i ∧ i < (lL : Int)) ∧
  NN l fun a1 =>
  ∃ n1 : Int, cell h (a1.add (Int.toNat i * 1)) = some (.int .i64 n1) ∧
  cond (decide (n1 < (-1)))
  (K (.tuple #[.string (⟨#[]⟩ : ByteArray), .int .i64 2]) h)
  ((0 ≤ i ∧ i < (lL : Int)) ∧
  NN l fun a2 =>
  ∃ n2 : Int, cell h (a2.add (Int.toNat i * 1)) = some (.int .i64 n2) ∧
  cond (decide ((255 : Int) < n2))
  (K (.tuple #[.string (⟨#[]⟩ : ByteArray), .int .i64 2]) h)
  (r30_Inverse_b3 l lL lC atv i h nx0 K)))
  (r30_Inverse_b4 l lL lC atv h  K)) := by kernel_rfl
theorem r30_Inverse_b3_eq (l : Option Addr) (lL : Nat) (lC : Nat) (atv : Int) (i : Int) (h : Hp) (nx0 : Int × Unit → Hp → Prop) (K : Value → Hp → Prop) : r30_Inverse_b3 l lL lC atv i h nx0 K = (
  InR (i + 1) ∧
  nx0 (i + 1, ()) h) := by kernel_rfl
theorem r30_Inverse_b4_eq (l : Option Addr) (lL : Nat) (lC : Nat) (atv : Int) (h : Hp)  (K : Value → Hp → Prop) : r30_Inverse_b4 l lL lC atv h  K = (
  New h (.cells #[] 5) fun b1 h2 =>
  LoopVC (((some ⟨b1, 0, none⟩, 0, 0), 0, ()) : (Option Addr × Nat × Nat) × Int × Unit) h2 (fun (nx0 : (Option Addr × Nat × Nat) × Int × Unit → Hp → Prop) (s2 : (Option Addr × Nat × Nat) × Int × Unit) h3 => r30_Inverse_b5 s2.1.1 s2.1.2.1 s2.1.2.2 s2.2.1 l lL lC atv h3 nx0 K)) := by kernel_rfl
theorem r30_Inverse_b5_eq (b : Option Addr) (bL : Nat) (bC : Nat) (row : Int) (l : Option Addr) (lL : Nat) (lC : Nat) (atv : Int) (h : Hp) (nx0 : (Option Addr × Nat × Nat) × Int × Unit → Hp → Prop) (K : Value → Hp → Prop) : r30_Inverse_b5 b bL bC row l lL lC atv h nx0 K = (
  InR ((lL : Int) - 1) ∧
  cond (decide ((bL : Int) < ((lL : Int) - 1)))
  ((0 ≤ row ∧ row < (lL : Int)) ∧
  NN l fun a3 =>
  ∃ n3 : Int, cell h (a3.add (Int.toNat row * 1)) = some (.int .i64 n3) ∧
  cond (decide (n3 < 0))
  (K (.tuple #[.string (⟨#[]⟩ : ByteArray), .int .i64 12]) h)
  (New h (.cells #[.int .u8 (IntKind.u8.wrap n3)] 5) fun b2 h4 =>
  appendV Try.prog 42 42 (.slice (some ⟨b2, 0, none⟩) 1 1) (.slice b bL bC) h4 (slK fun a4 l1 c1 h5 =>
  LoopVC ((0, 0, ()) : Int × Int × Unit) h5 (fun (nx1 : Int × Int × Unit → Hp → Prop) (s3 : Int × Int × Unit) h6 => r30_Inverse_b6 s3.1 s3.2.1 l lL lC atv a4 l1 c1 row n3 h6 nx0 nx1 K))))
  (r30_Inverse_b7 l lL lC atv b bL bC h  K)) := by kernel_rfl
theorem r30_Inverse_b6_eq (next : Int) (i : Int) (l : Option Addr) (lL : Nat) (lC : Nat) (atv : Int) (b : Option Addr) (bL : Nat) (bC : Nat) (row : Int) (c : Int) (h : Hp) (nx0 : (Option Addr × Nat × Nat) × Int × Unit → Hp → Prop) (nx1 : Int × Int × Unit → Hp → Prop) (K : Value → Hp → Prop) : r30_Inverse_b6 next i l lL lC atv b bL bC row c h nx0 nx1 K = (
  cond (decide (i < (lL : Int)))
  ((0 ≤ i ∧ i < (lL : Int)) ∧
  NN l fun a5 =>
  ∃ n4 : Int, cell h (a5.add (Int.toNat i * 1)) = some (.int .i64 n4) ∧
  cond (decide (n4 < c))
  (InR (next + 1) ∧
  r30_Inverse_b8 l lL lC atv b bL bC row c (next + 1) i h nx0 nx1 K)
  ((0 ≤ i ∧ i < (lL : Int)) ∧
  NN l fun a6 =>
  ∃ n5 : Int, cell h (a6.add (Int.toNat i * 1)) = some (.int .i64 n5) ∧
  cond (decide (n5 = c))
  (cond (decide (i < row))
  (InR (next + 1) ∧
  r30_Inverse_b8 l lL lC atv b bL bC row c (next + 1) i h nx0 nx1 K)
  (r30_Inverse_b8 l lL lC atv b bL bC row c next i h nx0 nx1 K))
  (r30_Inverse_b8 l lL lC atv b bL bC row c next i h nx0 nx1 K)))
  (r30_Inverse_b9 l lL lC atv b bL bC next h nx0 K)) := by kernel_rfl
theorem r30_Inverse_b7_eq (l : Option Addr) (lL : Nat) (lC : Nat) (atv : Int) (b : Option Addr) (bL : Nat) (bC : Nat) (h : Hp)  (K : Value → Hp → Prop) : r30_Inverse_b7 l lL lC atv b bL bC h  K = (
  hw Try.prog (convert 42 9 (.slice b bL bC)) h (strK fun s4 h7 =>
  HCalls Try.prog 32 #[.string s4] h7 fun v2 h8 => ∃ (r1 : Option Addr) (rL1 rC1 : Nat), ∃ r2 : Int, v2 = .tuple #[.slice r1 rL1 rC1, .int .i64 r2] ∧
  cond (!decide (r2 = atv))
  (K (.tuple #[.string (⟨#[]⟩ : ByteArray), .int .i64 12]) h8)
  (HCalls Try.prog 48 #[.slice r1 rL1 rC1, .slice l lL lC] h8 fun v3 h9 => ∃ r3 : Bool, v3 = .bool r3 ∧
  cond (!r3)
  (K (.tuple #[.string (⟨#[]⟩ : ByteArray), .int .i64 12]) h9)
  (r30_Inverse_b10 s4 h9  K)))) := by kernel_rfl
theorem r30_Inverse_b8_eq (l : Option Addr) (lL : Nat) (lC : Nat) (atv : Int) (b : Option Addr) (bL : Nat) (bC : Nat) (row : Int) (c : Int) (next : Int) (i : Int) (h : Hp) (nx0 : (Option Addr × Nat × Nat) × Int × Unit → Hp → Prop) (nx1 : Int × Int × Unit → Hp → Prop) (K : Value → Hp → Prop) : r30_Inverse_b8 l lL lC atv b bL bC row c next i h nx0 nx1 K = (
  InR (i + 1) ∧
  nx1 (next, i + 1, ()) h) := by kernel_rfl
theorem r30_Inverse_b9_eq (l : Option Addr) (lL : Nat) (lC : Nat) (atv : Int) (b : Option Addr) (bL : Nat) (bC : Nat) (next : Int) (h : Hp) (nx0 : (Option Addr × Nat × Nat) × Int × Unit → Hp → Prop) (K : Value → Hp → Prop) : r30_Inverse_b9 l lL lC atv b bL bC next h nx0 K = (
  nx0 ((b, bL, bC), next, ()) h) := by kernel_rfl
theorem r30_Inverse_b10_eq (s : ByteArray) (h : Hp)  (K : Value → Hp → Prop) : r30_Inverse_b10 s h  K = (
  K (.tuple #[.string s, .int .i64 0]) h) := by kernel_rfl
theorem r30_Inverse_call {l : Option Addr} {lL : Nat} {lC : Nat} {atv : Int} {h : Hp} {K : Value → Hp → Prop} (hk : r30_Inverse_b0 l lL lC atv h K) : HCalls Try.prog 30 #[.slice l lL lC, .int .i64 atv] h K :=
  calls_of_snd r30_Inverse_an Try.func30 (c := bodyOf Try.f30) rfl Try.ntmps30 (Nat.le_of_ble_eq_true rfl) (snd_6 F_ok F_mixed) hk

/-! ### suffixindex_Transform -/
def suffixindex_Transform_an : Ann := .leaf
def suffixindex_Transform_K0  (K : Value → Hp → Prop) : Exit → Env → Hp → Prop := retK Try.prog Try.f31.results.toList K
def suffixindex_Transform_b0 (s : ByteArray) (h : Hp)  (K : Value → Hp → Prop) : Prop :=
  sx_1 Try.prog F 18 (cp [] (bodyOf Try.f31)) (ap [] suffixindex_Transform_an) [(0, .string s)] h (suffixindex_Transform_K0  K)
theorem suffixindex_Transform_b0_eq (s : ByteArray) (h : Hp)  (K : Value → Hp → Prop) : suffixindex_Transform_b0 s h  K = (
  HCalls Try.prog 33 #[.string s] h fun v1 h1 => ∃ r1 : Bool, v1 = .bool r1 ∧
  cond r1
  (K (.tuple #[.slice none 0 0, .int .i64 0, .int .i64 4]) h1)
  (HCalls Try.prog 34 #[.string s] h1 fun v2 h2 => ∃ (r2 : Option Addr) (rL1 rC1 : Nat), v2 = .slice r2 rL1 rC1 ∧
  HCalls Try.prog 39 #[.string s, .slice r2 rL1 rC1] h2 fun v3 h3 => ∃ (r3 : Option Addr) (rL2 rC2 : Nat), ∃ r4 : Int, v3 = .tuple #[.slice r3 rL2 rC2, .int .i64 r4] ∧
  K (.tuple #[.slice r3 rL2 rC2, .int .i64 r4, .int .i64 0]) h3)) := by kernel_rfl
theorem suffixindex_Transform_call {s : ByteArray} {h : Hp} {K : Value → Hp → Prop} (hk : suffixindex_Transform_b0 s h K) : HCalls Try.prog 31 #[.string s] h K :=
  calls_of_snd suffixindex_Transform_an Try.func31 (c := bodyOf Try.f31) rfl Try.ntmps31 (Nat.le_of_ble_eq_true rfl) (snd_1 F_ok F_mixed) hk

/-! ### r30_Transform -/
def r30_Transform_an : Ann := .node none (.leaf) (.node none (.leaf) (.node none (.leaf) (.node none (.leaf) (.node (some [5, 6]) (.node none (.leaf) (.loop [0, 4] [(5, .slice), (6, .int .i64), (7, .int .i64)] (.node none (.leaf) (.node (some [0, 4, 5, 6, 7]) (.leaf) (.leaf))))) (.leaf)))))
def r30_Transform_K0  (K : Value → Hp → Prop) : Exit → Env → Hp → Prop := retK Try.prog Try.f32.results.toList K
def r30_Transform_K1  (K : Value → Hp → Prop) : Exit → Env → Hp → Prop := thenE (fun env h => sx_2 Try.prog F 39 (cp [1, 1, 1, 1, 1] (bodyOf Try.f32)) (ap [1, 1, 1, 1, 1] r30_Transform_an) (rs [5, 6] env) h (r30_Transform_K0  K)) (r30_Transform_K0  K)
def r30_Transform_K2  (K : Value → Hp → Prop) : Exit → Env → Hp → Prop := blockE 0 (r30_Transform_K1  K)
def r30_Transform_K3 (nx0 : (Option Addr × Nat × Nat) × Int × Int × Unit → Hp → Prop) (K : Value → Hp → Prop) : Exit → Env → Hp → Prop := thenE (fun env h => getV [(5, .slice), (6, .int .i64), (7, .int .i64)] env fun s => nx0 s h) (r30_Transform_K2  K)
def r30_Transform_b0 (s : ByteArray) (h : Hp)  (K : Value → Hp → Prop) : Prop :=
  sx_3 Try.prog F 39 (cp [] (bodyOf Try.f32)) (ap [] r30_Transform_an) [(0, .string s)] h (r30_Transform_K0  K)
def r30_Transform_b1 (out : Option Addr) (outL : Nat) (outC : Nat) (atv : Int) (i : Int) (s : ByteArray) (l : Option Addr) (lL : Nat) (lC : Nat) (h : Hp) (nx0 : (Option Addr × Nat × Nat) × Int × Int × Unit → Hp → Prop) (K : Value → Hp → Prop) : Prop :=
  sx_2 Try.prog F 39 (cp [1, 1, 1, 1, 0, 1, 2, 2] (bodyOf Try.f32)) (ap [1, 1, 1, 1, 0, 1, 2] r30_Transform_an) [(5, .slice out outL outC), (6, .int .i64 atv), (7, .int .i64 i), (0, .string s), (4, .slice l lL lC)] h (r30_Transform_K3 nx0 K)
def r30_Transform_b2 (s : ByteArray) (l : Option Addr) (lL : Nat) (lC : Nat) (out : Option Addr) (outL : Nat) (outC : Nat) (atv : Int) (i : Int) (h : Hp) (nx0 : (Option Addr × Nat × Nat) × Int × Int × Unit → Hp → Prop) (K : Value → Hp → Prop) : Prop :=
  sx_1 Try.prog F 39 (cp [1, 1, 1, 1, 0, 1, 2, 2, 1, 1] (bodyOf Try.f32)) (ap [1, 1, 1, 1, 0, 1, 2, 1, 1] r30_Transform_an) [(0, .string s), (4, .slice l lL lC), (5, .slice out outL outC), (6, .int .i64 atv), (7, .int .i64 i)] h (r30_Transform_K3 nx0 K)
def r30_Transform_b3 (out : Option Addr) (outL : Nat) (outC : Nat) (atv : Int) (h : Hp)  (K : Value → Hp → Prop) : Prop :=
  sx_2 Try.prog F 39 (cp [1, 1, 1, 1, 1] (bodyOf Try.f32)) (ap [1, 1, 1, 1, 1] r30_Transform_an) [(5, .slice out outL outC), (6, .int .i64 atv)] h (r30_Transform_K0  K)
theorem r30_Transform_b0_eq (s : ByteArray) (h : Hp)  (K : Value → Hp → Prop) : r30_Transform_b0 s h  K = (
  HCalls Try.prog 36 #[.string s] h fun v1 h1 => ∃ (r1 : Option Addr) (rL1 rC1 : Nat), v1 = .slice r1 rL1 rC1 ∧
  New h1 (.cells #[] 3) fun b1 h2 =>
  LoopVC (((some ⟨b1, 0, none⟩, 0, 0), 0, 0, ()) : (Option Addr × Nat × Nat) × Int × Int × Unit) h2 (fun (nx0 : (Option Addr × Nat × Nat) × Int × Int × Unit → Hp → Prop) (s1 : (Option Addr × Nat × Nat) × Int × Int × Unit) h3 => r30_Transform_b1 s1.1.1 s1.1.2.1 s1.1.2.2 s1.2.1 s1.2.2.1 s r1 rL1 rC1 h3 nx0 K)) := by kernel_rfl
theorem r30_Transform_b1_eq (out : Option Addr) (outL : Nat) (outC : Nat) (atv : Int) (i : Int) (s : ByteArray) (l : Option Addr) (lL : Nat) (lC : Nat) (h : Hp) (nx0 : (Option Addr × Nat × Nat) × Int × Int × Unit → Hp → Prop) (K : Value → Hp → Prop) : r30_Transform_b1 out outL outC atv i s l lL lC h nx0 K = (
  cond (decide (i < (lL : Int)))
  ((0 ≤ i ∧ i < (lL : Int)) ∧
  NN l fun a1 =>
  ∃ n1 : Int, cell h (a1.add (Int.toNat i * 1)) = some (.int .i64 n1) ∧
  cond (decide (n1 = 0))
  (New h (.cells #[.int .i64 (-1)] 3) fun b2 h4 =>
  appendV Try.prog 24 24 (.slice out outL outC) (.slice (some ⟨b2, 0, none⟩) 1 1) h4 (slK fun a2 l1 c1 h5 =>
  r30_Transform_b2 s l lL lC a2 l1 c1 i i h5 nx0 K))
  ((0 ≤ i ∧ i < (lL : Int)) ∧
  NN l fun a3 =>
  ∃ n2 : Int, cell h (a3.add (Int.toNat i * 1)) = some (.int .i64 n2) ∧
  InR (n2 - 1) ∧
  (0 ≤ n2 - 1 ∧ n2 - 1 < (s.size : Int)) ∧
  InR ((s.data.toList.getD (Int.toNat (n2 - 1)) 0).toNat : Int) ∧
  New h (.cells #[.int .i64 ((s.data.toList.getD (Int.toNat (n2 - 1)) 0).toNat : Int)] 3) fun b3 h6 =>
  appendV Try.prog 24 24 (.slice out outL outC) (.slice (some ⟨b3, 0, none⟩) 1 1) h6 (slK fun a4 l2 c2 h7 =>
  r30_Transform_b2 s l lL lC a4 l2 c2 atv i h7 nx0 K)))
  (r30_Transform_b3 out outL outC atv h  K)) := by kernel_rfl
theorem r30_Transform_b2_eq (s : ByteArray) (l : Option Addr) (lL : Nat) (lC : Nat) (out : Option Addr) (outL : Nat) (outC : Nat) (atv : Int) (i : Int) (h : Hp) (nx0 : (Option Addr × Nat × Nat) × Int × Int × Unit → Hp → Prop) (K : Value → Hp → Prop) : r30_Transform_b2 s l lL lC out outL outC atv i h nx0 K = (
  InR (i + 1) ∧
  nx0 ((out, outL, outC), atv, i + 1, ()) h) := by kernel_rfl
theorem r30_Transform_b3_eq (out : Option Addr) (outL : Nat) (outC : Nat) (atv : Int) (h : Hp)  (K : Value → Hp → Prop) : r30_Transform_b3 out outL outC atv h  K = (
  K (.tuple #[.slice out outL outC, .int .i64 atv]) h) := by kernel_rfl
theorem r30_Transform_call {s : ByteArray} {h : Hp} {K : Value → Hp → Prop} (hk : r30_Transform_b0 s h K) : HCalls Try.prog 32 #[.string s] h K :=
  calls_of_snd r30_Transform_an Try.func32 (c := bodyOf Try.f32) rfl Try.ntmps32 (Nat.le_of_ble_eq_true rfl) (snd_3 F_ok F_mixed) hk

/-! ### suffixindex_long -/
def suffixindex_long_an : Ann := .leaf
def suffixindex_long_K0  (K : Value → Hp → Prop) : Exit → Env → Hp → Prop := retK Try.prog Try.f33.results.toList K
def suffixindex_long_b0 (s : ByteArray) (h : Hp)  (K : Value → Hp → Prop) : Prop :=
  sx_1 Try.prog F 6 (cp [] (bodyOf Try.f33)) (ap [] suffixindex_long_an) [(0, .string s)] h (suffixindex_long_K0  K)
theorem suffixindex_long_b0_eq (s : ByteArray) (h : Hp)  (K : Value → Hp → Prop) : suffixindex_long_b0 s h  K = (
  K (.bool (decide ((4096 : Int) < (s.size : Int)))) h) := by kernel_rfl
theorem suffixindex_long_call {s : ByteArray} {h : Hp} {K : Value → Hp → Prop} (hk : suffixindex_long_b0 s h K) : HCalls Try.prog 33 #[.string s] h K :=
  calls_of_snd suffixindex_long_an Try.func33 (c := bodyOf Try.f33) rfl Try.ntmps33 (Nat.le_of_ble_eq_true rfl) (snd_1 F_ok F_mixed) hk

/-! ### suffixindex_suffixes -/
def suffixindex_suffixes_an : Ann := .node none (.leaf) (.node none (.leaf) (.node (some [0, 3, 4, 5, 6]) (.plan (.qu 0 (.qu 2 (.qu 4 (.wo 1 (.wo 3 (.wo 5 (.wo 6 (.wo 7 (.wo 8 (.wo 9 .fin .no) .no) .no) .no) (.wo 6 (.wo 5 (.wo 7 (.wo 8 (.wo 9 .fin .no) .no) .no) (.wo 7 (.wo 5 (.wo 8 (.wo 9 .fin .no) .no) (.wo 8 (.wo 5 (.wo 9 .fin .no) .no) .no)) .no)) .no)) (.wo 5 (.wo 3 (.wo 6 (.wo 7 (.wo 8 (.wo 9 .fin .no) .no) .no) .no) (.wo 6 (.wo 3 (.wo 7 (.wo 8 (.wo 9 .fin .no) .no) .no) (.wo 7 (.wo 3 (.wo 8 (.wo 9 .fin .no) .no) .no) .no)) .no)) (.wo 6 (.wo 3 (.wo 5 (.wo 7 (.wo 8 (.wo 9 .fin .no) .no) .no) (.wo 7 (.wo 5 (.wo 8 (.wo 9 .fin .no) .no) (.wo 8 (.wo 5 (.wo 9 .fin .no) .no) .no)) .no)) (.wo 5 (.wo 3 (.wo 7 (.wo 8 (.wo 9 .fin .no) .no) .no) (.wo 7 (.wo 3 (.wo 8 (.wo 9 .fin .no) .no) .no) .no)) (.wo 7 (.wo 3 (.wo 5 (.wo 8 (.wo 9 .fin .no) .no) (.wo 8 (.wo 5 (.wo 9 .fin .no) .no) .no)) (.wo 5 (.wo 3 (.wo 8 (.wo 9 .fin .no) .no) .no) .no)) .no))) .no))) (.wo 3 (.wo 1 (.wo 5 (.wo 6 (.wo 7 (.wo 8 (.wo 9 .fin .no) .no) .no) .no) (.wo 6 (.wo 5 (.wo 7 (.wo 8 (.wo 9 .fin .no) .no) .no) (.wo 7 (.wo 5 (.wo 8 (.wo 9 .fin .no) .no) (.wo 8 (.wo 5 (.wo 9 .fin .no) .no) .no)) .no)) .no)) (.wo 5 (.wo 1 (.wo 6 (.wo 7 (.wo 8 (.wo 9 .fin .no) .no) .no) .no) (.wo 6 (.wo 1 (.wo 7 (.wo 8 (.wo 9 .fin .no) .no) .no) .no) .no)) (.wo 6 (.wo 1 (.wo 5 (.wo 7 (.wo 8 (.wo 9 .fin .no) .no) .no) (.wo 7 (.wo 5 (.wo 8 (.wo 9 .fin .no) .no) (.wo 8 (.wo 5 (.wo 9 .fin .no) .no) .no)) .no)) (.wo 5 (.wo 1 (.wo 7 (.wo 8 (.wo 9 .fin .no) .no) .no) .no) .no)) .no))) (.wo 5 (.wo 1 (.wo 3 (.wo 6 (.wo 7 (.wo 8 (.wo 9 .fin .no) .no) .no) .no) (.wo 6 (.wo 3 (.wo 7 (.wo 8 (.wo 9 .fin .no) .no) .no) (.wo 7 (.wo 3 (.wo 8 (.wo 9 .fin .no) .no) .no) .no)) .no)) (.wo 3 (.wo 1 (.wo 6 (.wo 7 (.wo 8 (.wo 9 .fin .no) .no) .no) .no) (.wo 6 (.wo 1 (.wo 7 (.wo 8 (.wo 9 .fin .no) .no) .no) .no) .no)) (.wo 6 (.wo 1 (.wo 3 (.wo 7 (.wo 8 (.wo 9 .fin .no) .no) .no) (.wo 7 (.wo 3 (.wo 8 (.wo 9 .fin .no) .no) .no) .no)) (.wo 3 (.wo 1 (.wo 7 (.wo 8 (.wo 9 .fin .no) .no) .no) .no) .no)) .no))) (.wo 6 (.wo 1 (.wo 3 (.wo 5 (.wo 7 (.wo 8 (.wo 9 .fin .no) .no) .no) (.wo 7 (.wo 5 (.wo 8 (.wo 9 .fin .no) .no) (.wo 8 (.wo 5 (.wo 9 .fin .no) .no) .no)) .no)) (.wo 5 (.wo 3 (.wo 7 (.wo 8 (.wo 9 .fin .no) .no) .no) (.wo 7 (.wo 3 (.wo 8 (.wo 9 .fin .no) .no) .no) .no)) (.wo 7 (.wo 3 (.wo 5 (.wo 8 (.wo 9 .fin .no) .no) (.wo 8 (.wo 5 (.wo 9 .fin .no) .no) .no)) (.wo 5 (.wo 3 (.wo 8 (.wo 9 .fin .no) .no) .no) .no)) .no))) (.wo 3 (.wo 1 (.wo 5 (.wo 7 (.wo 8 (.wo 9 .fin .no) .no) .no) (.wo 7 (.wo 5 (.wo 8 (.wo 9 .fin .no) .no) (.wo 8 (.wo 5 (.wo 9 .fin .no) .no) .no)) .no)) (.wo 5 (.wo 1 (.wo 7 (.wo 8 (.wo 9 .fin .no) .no) .no) .no) .no)) (.wo 5 (.wo 1 (.wo 3 (.wo 7 (.wo 8 (.wo 9 .fin .no) .no) .no) (.wo 7 (.wo 3 (.wo 8 (.wo 9 .fin .no) .no) .no) .no)) (.wo 3 (.wo 1 (.wo 7 (.wo 8 (.wo 9 .fin .no) .no) .no) .no) .no)) .no))) .no)))))))) (.node (some [3, 4, 5, 6]) (.node none (.leaf) (.loop [0, 3, 4, 5, 6, 20] [(21, .int .i64)] (.node none (.leaf) (.node none (.leaf) (.node (some [0, 3, 4, 5, 6, 20, 21]) (.node none (.leaf) (.plan (.qu 0 (.qu 1 (.qu 2 (.qu 3 (.qu 4 (.qu 5 (.qu 6 (.qu 7 (.qu 8 (.qu 9 (.wo 10 (.qu 11 (.wo 12 .fin .no)) .no))))))))))))) (.leaf)))))) (.node (some [4]) (.node none (.leaf) (.loop [3, 4, 5, 6] [(8, .ptr)] (.node none (.leaf) (.node (some [3, 4, 5, 6, 8]) (.node none (.leaf) (.node none (.leaf) (.node none (.leaf) (.node none (.leaf) (.node (some [3, 4, 5, 6, 8]) (.node none (.leaf) (.loop [3, 4, 5, 6, 8, 10] [(11, .int .i64)] (.node none (.leaf) (.node (some [3, 4, 5, 6, 8, 10, 11]) (.node none (.tail 14) (.node none (.tail 10) (.leaf))) (.leaf))))) (.leaf)))))) (.leaf))))) (.leaf)))))
def suffixindex_suffixes_K0  (K : Value → Hp → Prop) : Exit → Env → Hp → Prop := retK Try.prog Try.f34.results.toList K
def suffixindex_suffixes_K1  (K : Value → Hp → Prop) : Exit → Env → Hp → Prop := thenE (fun env h => sx_4 Try.prog F 111 (cp [1, 1, 1, 1] (bodyOf Try.f34)) (ap [1, 1, 1, 1] suffixindex_suffixes_an) (rs [3, 4, 5, 6] env) h (suffixindex_suffixes_K0  K)) (suffixindex_suffixes_K0  K)
def suffixindex_suffixes_K2  (K : Value → Hp → Prop) : Exit → Env → Hp → Prop := blockE 0 (suffixindex_suffixes_K1  K)
def suffixindex_suffixes_K3 (nx0 : Int × Unit → Hp → Prop) (K : Value → Hp → Prop) : Exit → Env → Hp → Prop := thenE (fun env h => getV [(21, .int .i64)] env fun s => nx0 s h) (suffixindex_suffixes_K2  K)
def suffixindex_suffixes_K4  (K : Value → Hp → Prop) : Exit → Env → Hp → Prop := thenE (fun env h => sx_3 Try.prog F 111 (cp [1, 1, 1, 1, 1] (bodyOf Try.f34)) (ap [1, 1, 1, 1, 1] suffixindex_suffixes_an) (rs [4] env) h (suffixindex_suffixes_K0  K)) (suffixindex_suffixes_K0  K)
def suffixindex_suffixes_K5  (K : Value → Hp → Prop) : Exit → Env → Hp → Prop := blockE 2 (suffixindex_suffixes_K4  K)
def suffixindex_suffixes_K6 (nx0 : Option Addr × Unit → Hp → Prop) (K : Value → Hp → Prop) : Exit → Env → Hp → Prop := thenE (fun env h => getV [(8, .ptr)] env fun s => nx0 s h) (suffixindex_suffixes_K5  K)
def suffixindex_suffixes_K7 (nx0 : Option Addr × Unit → Hp → Prop) (K : Value → Hp → Prop) : Exit → Env → Hp → Prop := thenE (fun env h => sx_2 Try.prog F 111 (cp [1, 1, 1, 1, 0, 1, 2, 2, 1, 1] (bodyOf Try.f34)) (ap [1, 1, 1, 1, 0, 1, 2, 1, 1] suffixindex_suffixes_an) (rs [3, 4, 5, 6, 8] env) h (suffixindex_suffixes_K6 nx0 K)) (suffixindex_suffixes_K6 nx0 K)
def suffixindex_suffixes_K8 (nx0 : Option Addr × Unit → Hp → Prop) (K : Value → Hp → Prop) : Exit → Env → Hp → Prop := blockE 3 (suffixindex_suffixes_K7 nx0 K)
def suffixindex_suffixes_K9 (nx0 : Option Addr × Unit → Hp → Prop) (K : Value → Hp → Prop) : Exit → Env → Hp → Prop := thenE (fun env h => sx_2 Try.prog F 111 (cp [1, 1, 1, 1, 0, 1, 2, 2, 1, 0, 2, 1, 1, 1, 1, 1] (bodyOf Try.f34)) (ap [1, 1, 1, 1, 0, 1, 2, 1, 0, 1, 1, 1, 1, 1] suffixindex_suffixes_an) (rs [3, 4, 5, 6, 8] env) h (suffixindex_suffixes_K8 nx0 K)) (suffixindex_suffixes_K8 nx0 K)
def suffixindex_suffixes_K10 (nx0 : Option Addr × Unit → Hp → Prop) (K : Value → Hp → Prop) : Exit → Env → Hp → Prop := blockE 4 (suffixindex_suffixes_K9 nx0 K)
def suffixindex_suffixes_K11 (nx0 : Option Addr × Unit → Hp → Prop) (nx1 : Int × Unit → Hp → Prop) (K : Value → Hp → Prop) : Exit → Env → Hp → Prop := thenE (fun env h => getV [(11, .int .i64)] env fun s => nx1 s h) (suffixindex_suffixes_K10 nx0 K)
def suffixindex_suffixes_b0 (s : ByteArray) (h : Hp)  (K : Value → Hp → Prop) : Prop :=
  sx_6 Try.prog F 111 (cp [] (bodyOf Try.f34)) (ap [] suffixindex_suffixes_an) [(0, .string s)] h (suffixindex_suffixes_K0  K)
def suffixindex_suffixes_b1 (s : ByteArray) (nv : Option Addr) (order : Option Addr) (orderL : Nat) (orderC : Nat) (rank : Option Addr) (next : Option Addr) (nextL : Nat) (nextC : Nat) (h : Hp)  (K : Value → Hp → Prop) : Prop :=
  sx_5 Try.prog F 111 (cp [1, 1, 1] (bodyOf Try.f34)) (ap [1, 1, 1] suffixindex_suffixes_an) [(0, .string s), (3, .pointer nv), (4, .slice order orderL orderC), (5, .pointer rank), (6, .slice next nextL nextC)] h (suffixindex_suffixes_K0  K)
def suffixindex_suffixes_b2 (t21 : Int) (s : ByteArray) (nv : Option Addr) (order : Option Addr) (orderL : Nat) (orderC : Nat) (rank : Option Addr) (next : Option Addr) (nextL : Nat) (nextC : Nat) (t20 : Int) (h : Hp) (nx0 : Int × Unit → Hp → Prop) (K : Value → Hp → Prop) : Prop :=
  sx_4 Try.prog F 111 (cp [1, 1, 1, 0, 1, 2, 2] (bodyOf Try.f34)) (ap [1, 1, 1, 0, 1, 2] suffixindex_suffixes_an) [(21, .int .i64 t21), (0, .string s), (3, .pointer nv), (4, .slice order orderL orderC), (5, .pointer rank), (6, .slice next nextL nextC), (20, .int .i64 t20)] h (suffixindex_suffixes_K3 nx0 K)
def suffixindex_suffixes_b3 (s : ByteArray) (nv : Option Addr) (order : Option Addr) (orderL : Nat) (orderC : Nat) (rank : Option Addr) (next : Option Addr) (nextL : Nat) (nextC : Nat) (t20 : Int) (t21 : Int) (h : Hp) (nx0 : Int × Unit → Hp → Prop) (K : Value → Hp → Prop) : Prop :=
  sx_3 Try.prog F 111 (cp [1, 1, 1, 0, 1, 2, 2, 1, 1, 1] (bodyOf Try.f34)) (ap [1, 1, 1, 0, 1, 2, 1, 1, 1] suffixindex_suffixes_an) [(0, .string s), (3, .pointer nv), (4, .slice order orderL orderC), (5, .pointer rank), (6, .slice next nextL nextC), (20, .int .i64 t20), (21, .int .i64 t21)] h (suffixindex_suffixes_K3 nx0 K)
def suffixindex_suffixes_b4 (nv : Option Addr) (order : Option Addr) (orderL : Nat) (orderC : Nat) (rank : Option Addr) (next : Option Addr) (nextL : Nat) (nextC : Nat) (h : Hp)  (K : Value → Hp → Prop) : Prop :=
  sx_4 Try.prog F 111 (cp [1, 1, 1, 1] (bodyOf Try.f34)) (ap [1, 1, 1, 1] suffixindex_suffixes_an) [(3, .pointer nv), (4, .slice order orderL orderC), (5, .pointer rank), (6, .slice next nextL nextC)] h (suffixindex_suffixes_K0  K)
def suffixindex_suffixes_b5 (k : Option Addr) (nv : Option Addr) (order : Option Addr) (orderL : Nat) (orderC : Nat) (rank : Option Addr) (next : Option Addr) (nextL : Nat) (nextC : Nat) (h : Hp) (nx0 : Option Addr × Unit → Hp → Prop) (K : Value → Hp → Prop) : Prop :=
  sx_3 Try.prog F 111 (cp [1, 1, 1, 1, 0, 1, 2, 2] (bodyOf Try.f34)) (ap [1, 1, 1, 1, 0, 1, 2] suffixindex_suffixes_an) [(8, .pointer k), (3, .pointer nv), (4, .slice order orderL orderC), (5, .pointer rank), (6, .slice next nextL nextC)] h (suffixindex_suffixes_K6 nx0 K)
def suffixindex_suffixes_b6 (i : Int) (nv : Option Addr) (order : Option Addr) (orderL : Nat) (orderC : Nat) (rank : Option Addr) (next : Option Addr) (nextL : Nat) (nextC : Nat) (k : Option Addr) (compare : Value) (h : Hp) (nx0 : Option Addr × Unit → Hp → Prop) (nx1 : Int × Unit → Hp → Prop) (K : Value → Hp → Prop) : Prop :=
  sx_2 Try.prog F 111 (cp [1, 1, 1, 1, 0, 1, 2, 2, 1, 0, 2, 1, 1, 1, 1, 0, 1, 2, 2] (bodyOf Try.f34)) (ap [1, 1, 1, 1, 0, 1, 2, 1, 0, 1, 1, 1, 1, 0, 1, 2] suffixindex_suffixes_an) [(11, .int .i64 i), (3, .pointer nv), (4, .slice order orderL orderC), (5, .pointer rank), (6, .slice next nextL nextC), (8, .pointer k), (10, compare)] h (suffixindex_suffixes_K11 nx0 nx1 K)
def suffixindex_suffixes_b7 (order : Option Addr) (orderL : Nat) (orderC : Nat) (h : Hp)  (K : Value → Hp → Prop) : Prop :=
  sx_3 Try.prog F 111 (cp [1, 1, 1, 1, 1] (bodyOf Try.f34)) (ap [1, 1, 1, 1, 1] suffixindex_suffixes_an) [(4, .slice order orderL orderC)] h (suffixindex_suffixes_K0  K)
def suffixindex_suffixes_b8 (nv : Option Addr) (order : Option Addr) (orderL : Nat) (orderC : Nat) (rank : Option Addr) (next : Option Addr) (nextL : Nat) (nextC : Nat) (k : Option Addr) (compare : Value) (i : Int) (h : Hp) (nx0 : Option Addr × Unit → Hp → Prop) (nx1 : Int × Unit → Hp → Prop) (K : Value → Hp → Prop) : Prop :=
  sx_1 Try.prog F 111 (cp [1, 1, 1, 1, 0, 1, 2, 2, 1, 0, 2, 1, 1, 1, 1, 0, 1, 2, 2, 1, 1] (bodyOf Try.f34)) (ap [1, 1, 1, 1, 0, 1, 2, 1, 0, 1, 1, 1, 1, 0, 1, 2, 1, 1] suffixindex_suffixes_an) [(3, .pointer nv), (4, .slice order orderL orderC), (5, .pointer rank), (6, .slice next nextL nextC), (8, .pointer k), (10, compare), (11, .int .i64 i)] h (suffixindex_suffixes_K11 nx0 nx1 K)
def suffixindex_suffixes_b9 (nv : Option Addr) (order : Option Addr) (orderL : Nat) (orderC : Nat) (rank : Option Addr) (next : Option Addr) (nextL : Nat) (nextC : Nat) (k : Option Addr) (h : Hp) (nx0 : Option Addr × Unit → Hp → Prop) (K : Value → Hp → Prop) : Prop :=
  sx_2 Try.prog F 111 (cp [1, 1, 1, 1, 0, 1, 2, 2, 1, 0, 2, 1, 1, 1, 1, 1] (bodyOf Try.f34)) (ap [1, 1, 1, 1, 0, 1, 2, 1, 0, 1, 1, 1, 1, 1] suffixindex_suffixes_an) [(3, .pointer nv), (4, .slice order orderL orderC), (5, .pointer rank), (6, .slice next nextL nextC), (8, .pointer k)] h (suffixindex_suffixes_K8 nx0 K)
def suffixindex_suffixes_b10 (nv : Option Addr) (order : Option Addr) (orderL : Nat) (orderC : Nat) (rank : Option Addr) (next : Option Addr) (nextL : Nat) (nextC : Nat) (k : Option Addr) (h : Hp) (nx0 : Option Addr × Unit → Hp → Prop) (K : Value → Hp → Prop) : Prop :=
  sx_2 Try.prog F 111 (cp [1, 1, 1, 1, 0, 1, 2, 2, 1, 1] (bodyOf Try.f34)) (ap [1, 1, 1, 1, 0, 1, 2, 1, 1] suffixindex_suffixes_an) [(3, .pointer nv), (4, .slice order orderL orderC), (5, .pointer rank), (6, .slice next nextL nextC), (8, .pointer k)] h (suffixindex_suffixes_K6 nx0 K)
theorem suffixindex_suffixes_b0_eq (s : ByteArray) (h : Hp)  (K : Value → Hp → Prop) : suffixindex_suffixes_b0 s h  K = (
  New h (.cells #[.int .i64 0] 3) fun b1 h1 =>
  Wr h1 ⟨b1, 0, none⟩ (.int .i64 (s.size : Int)) fun h2 =>
  ∃ n1 : Int, cell h2 ⟨b1, 0, none⟩ = some (.int .i64 n1) ∧
  ∃ n2 : Int, cell h2 ⟨b1, 0, none⟩ = some (.int .i64 n2) ∧
  ∃ n3 : Int, cell h2 ⟨b1, 0, none⟩ = some (.int .i64 n3) ∧
  ((0 ≤ n1 ∧ n1 ≤ n1 ∧ n1 ≤ 281474976710656 ∧ n1 * ((8 : Nat) : Int) ≤ 281474976710656) ∧
  New h2 (.cells (repL (Int.toNat n1 * 1) [.int .i64 0]).toArray 3) fun b2 h3 =>
  (∃ n4 : Int, cell h3 ⟨b1, 0, none⟩ = some (.int .i64 n4) ∧
  (.int .i64 n4 : Value) = .int .i64 n3) ∧
  (∃ n5 : Int, cell h3 ⟨b1, 0, none⟩ = some (.int .i64 n5) ∧
  (.int .i64 n5 : Value) = .int .i64 n2) ∧
  ((0 ≤ n2 ∧ n2 ≤ n2 ∧ n2 ≤ 281474976710656 ∧ n2 * ((8 : Nat) : Int) ≤ 281474976710656) ∧
  New h3 (.cells (repL (Int.toNat n2 * 1) [.int .i64 0]).toArray 3) fun b3 h4 =>
  (∃ n6 : Int, cell h4 ⟨b1, 0, none⟩ = some (.int .i64 n6) ∧
  (.int .i64 n6 : Value) = .int .i64 n3) ∧
  ((0 ≤ n3 ∧ n3 ≤ n3 ∧ n3 ≤ 281474976710656 ∧ n3 * ((8 : Nat) : Int) ≤ 281474976710656) ∧
  New h4 (.cells (repL (Int.toNat n3 * 1) [.int .i64 0]).toArray 3) fun b4 h5 =>
  New h5 (.cells #[.slice none 0 0] 24) fun b5 h6 =>
  Wr h6 ⟨b5, 0, none⟩ (.slice (some ⟨b3, 0, none⟩) (Int.toNat n2) (Int.toNat n2)) fun h7 =>
  suffixindex_suffixes_b1 s (some ⟨b1, 0, none⟩) (some ⟨b2, 0, none⟩) (Int.toNat n1) (Int.toNat n1) (some ⟨b5, 0, none⟩) (some ⟨b4, 0, none⟩) (Int.toNat n3) (Int.toNat n3) h7  K) ∧
  (New h4 (.cells #[.slice none 0 0] 24) fun b6 h8 =>
  (∃ n7 : Int, cell h8 ⟨b1, 0, none⟩ = some (.int .i64 n7) ∧
  (.int .i64 n7 : Value) = .int .i64 n3) ∧
  ((0 ≤ n3 ∧ n3 ≤ n3 ∧ n3 ≤ 281474976710656 ∧ n3 * ((8 : Nat) : Int) ≤ 281474976710656) ∧
  New h8 (.cells (repL (Int.toNat n3 * 1) [.int .i64 0]).toArray 3) fun b7 h9 =>
  Wr h9 ⟨b6, 0, none⟩ (.slice (some ⟨b3, 0, none⟩) (Int.toNat n2) (Int.toNat n2)) fun h10 =>
  suffixindex_suffixes_b1 s (some ⟨b1, 0, none⟩) (some ⟨b2, 0, none⟩) (Int.toNat n1) (Int.toNat n1) (some ⟨b6, 0, none⟩) (some ⟨b7, 0, none⟩) (Int.toNat n3) (Int.toNat n3) h10  K) ∧
  ((∃ n8 : Int, cell h8 ⟨b1, 0, none⟩ = some (.int .i64 n8) ∧
  (.int .i64 n8 : Value) = .int .i64 n3) ∧
  ((0 ≤ n3 ∧ n3 ≤ n3 ∧ n3 ≤ 281474976710656 ∧ n3 * ((8 : Nat) : Int) ≤ 281474976710656) ∧
  New h8 (.cells (repL (Int.toNat n3 * 1) [.int .i64 0]).toArray 3) fun b8 h11 =>
  Wr h11 ⟨b6, 0, none⟩ (.slice (some ⟨b3, 0, none⟩) (Int.toNat n2) (Int.toNat n2)) fun h12 =>
  suffixindex_suffixes_b1 s (some ⟨b1, 0, none⟩) (some ⟨b2, 0, none⟩) (Int.toNat n1) (Int.toNat n1) (some ⟨b6, 0, none⟩) (some ⟨b8, 0, none⟩) (Int.toNat n3) (Int.toNat n3) h12  K) ∧
  (Wr h8 ⟨b6, 0, none⟩ (.slice (some ⟨b3, 0, none⟩) (Int.toNat n2) (Int.toNat n2)) fun h13 =>
  (∃ n9 : Int, cell h13 ⟨b1, 0, none⟩ = some (.int .i64 n9) ∧
  (.int .i64 n9 : Value) = .int .i64 n3) ∧
  (0 ≤ n3 ∧ n3 ≤ n3 ∧ n3 ≤ 281474976710656 ∧ n3 * ((8 : Nat) : Int) ≤ 281474976710656) ∧
  New h13 (.cells (repL (Int.toNat n3 * 1) [.int .i64 0]).toArray 3) fun b9 h14 =>
  suffixindex_suffixes_b1 s (some ⟨b1, 0, none⟩) (some ⟨b2, 0, none⟩) (Int.toNat n1) (Int.toNat n1) (some ⟨b6, 0, none⟩) (some ⟨b9, 0, none⟩) (Int.toNat n3) (Int.toNat n3) h14  K)))) ∧
  ((0 ≤ n3 ∧ n3 ≤ n3 ∧ n3 ≤ 281474976710656 ∧ n3 * ((8 : Nat) : Int) ≤ 281474976710656) ∧
  New h3 (.cells (repL (Int.toNat n3 * 1) [.int .i64 0]).toArray 3) fun b10 h15 =>
  (∃ n10 : Int, cell h15 ⟨b1, 0, none⟩ = some (.int .i64 n10) ∧
  (.int .i64 n10 : Value) = .int .i64 n2) ∧
  ((0 ≤ n2 ∧ n2 ≤ n2 ∧ n2 ≤ 281474976710656 ∧ n2 * ((8 : Nat) : Int) ≤ 281474976710656) ∧
  New h15 (.cells (repL (Int.toNat n2 * 1) [.int .i64 0]).toArray 3) fun b11 h16 =>
  New h16 (.cells #[.slice none 0 0] 24) fun b12 h17 =>
  Wr h17 ⟨b12, 0, none⟩ (.slice (some ⟨b11, 0, none⟩) (Int.toNat n2) (Int.toNat n2)) fun h18 =>
  suffixindex_suffixes_b1 s (some ⟨b1, 0, none⟩) (some ⟨b2, 0, none⟩) (Int.toNat n1) (Int.toNat n1) (some ⟨b12, 0, none⟩) (some ⟨b10, 0, none⟩) (Int.toNat n3) (Int.toNat n3) h18  K) ∧
  (New h15 (.cells #[.slice none 0 0] 24) fun b13 h19 =>
  (∃ n11 : Int, cell h19 ⟨b1, 0, none⟩ = some (.int .i64 n11) ∧
  (.int .i64 n11 : Value) = .int .i64 n2) ∧
  ((0 ≤ n2 ∧ n2 ≤ n2 ∧ n2 ≤ 281474976710656 ∧ n2 * ((8 : Nat) : Int) ≤ 281474976710656) ∧
  New h19 (.cells (repL (Int.toNat n2 * 1) [.int .i64 0]).toArray 3) fun b14 h20 =>
  Wr h20 ⟨b13, 0, none⟩ (.slice (some ⟨b14, 0, none⟩) (Int.toNat n2) (Int.toNat n2)) fun h21 =>
  suffixindex_suffixes_b1 s (some ⟨b1, 0, none⟩) (some ⟨b2, 0, none⟩) (Int.toNat n1) (Int.toNat n1) (some ⟨b13, 0, none⟩) (some ⟨b10, 0, none⟩) (Int.toNat n3) (Int.toNat n3) h21  K) ∧
  ((∃ n12 : Int, cell h19 ⟨b1, 0, none⟩ = some (.int .i64 n12) ∧
  (.int .i64 n12 : Value) = .int .i64 n2) ∧
  (0 ≤ n2 ∧ n2 ≤ n2 ∧ n2 ≤ 281474976710656 ∧ n2 * ((8 : Nat) : Int) ≤ 281474976710656) ∧
  New h19 (.cells (repL (Int.toNat n2 * 1) [.int .i64 0]).toArray 3) fun b15 h22 =>
  Wr h22 ⟨b13, 0, none⟩ (.slice (some ⟨b15, 0, none⟩) (Int.toNat n2) (Int.toNat n2)) fun h23 =>
  suffixindex_suffixes_b1 s (some ⟨b1, 0, none⟩) (some ⟨b2, 0, none⟩) (Int.toNat n1) (Int.toNat n1) (some ⟨b13, 0, none⟩) (some ⟨b10, 0, none⟩) (Int.toNat n3) (Int.toNat n3) h23  K))) ∧
  (New h3 (.cells #[.slice none 0 0] 24) fun b16 h24 =>
  (∃ n13 : Int, cell h24 ⟨b1, 0, none⟩ = some (.int .i64 n13) ∧
  (.int .i64 n13 : Value) = .int .i64 n3) ∧
  (∃ n14 : Int, cell h24 ⟨b1, 0, none⟩ = some (.int .i64 n14) ∧
  (.int .i64 n14 : Value) = .int .i64 n2) ∧
  ((0 ≤ n2 ∧ n2 ≤ n2 ∧ n2 ≤ 281474976710656 ∧ n2 * ((8 : Nat) : Int) ≤ 281474976710656) ∧
  New h24 (.cells (repL (Int.toNat n2 * 1) [.int .i64 0]).toArray 3) fun b17 h25 =>
  (∃ n15 : Int, cell h25 ⟨b1, 0, none⟩ = some (.int .i64 n15) ∧
  (.int .i64 n15 : Value) = .int .i64 n3) ∧
  ((0 ≤ n3 ∧ n3 ≤ n3 ∧ n3 ≤ 281474976710656 ∧ n3 * ((8 : Nat) : Int) ≤ 281474976710656) ∧
  New h25 (.cells (repL (Int.toNat n3 * 1) [.int .i64 0]).toArray 3) fun b18 h26 =>
  Wr h26 ⟨b16, 0, none⟩ (.slice (some ⟨b17, 0, none⟩) (Int.toNat n2) (Int.toNat n2)) fun h27 =>
  suffixindex_suffixes_b1 s (some ⟨b1, 0, none⟩) (some ⟨b2, 0, none⟩) (Int.toNat n1) (Int.toNat n1) (some ⟨b16, 0, none⟩) (some ⟨b18, 0, none⟩) (Int.toNat n3) (Int.toNat n3) h27  K) ∧
  ((∃ n16 : Int, cell h25 ⟨b1, 0, none⟩ = some (.int .i64 n16) ∧
  (.int .i64 n16 : Value) = .int .i64 n3) ∧
  ((0 ≤ n3 ∧ n3 ≤ n3 ∧ n3 ≤ 281474976710656 ∧ n3 * ((8 : Nat) : Int) ≤ 281474976710656) ∧
  New h25 (.cells (repL (Int.toNat n3 * 1) [.int .i64 0]).toArray 3) fun b19 h28 =>
  Wr h28 ⟨b16, 0, none⟩ (.slice (some ⟨b17, 0, none⟩) (Int.toNat n2) (Int.toNat n2)) fun h29 =>
  suffixindex_suffixes_b1 s (some ⟨b1, 0, none⟩) (some ⟨b2, 0, none⟩) (Int.toNat n1) (Int.toNat n1) (some ⟨b16, 0, none⟩) (some ⟨b19, 0, none⟩) (Int.toNat n3) (Int.toNat n3) h29  K) ∧
  (Wr h25 ⟨b16, 0, none⟩ (.slice (some ⟨b17, 0, none⟩) (Int.toNat n2) (Int.toNat n2)) fun h30 =>
  (∃ n17 : Int, cell h30 ⟨b1, 0, none⟩ = some (.int .i64 n17) ∧
  (.int .i64 n17 : Value) = .int .i64 n3) ∧
  (0 ≤ n3 ∧ n3 ≤ n3 ∧ n3 ≤ 281474976710656 ∧ n3 * ((8 : Nat) : Int) ≤ 281474976710656) ∧
  New h30 (.cells (repL (Int.toNat n3 * 1) [.int .i64 0]).toArray 3) fun b20 h31 =>
  suffixindex_suffixes_b1 s (some ⟨b1, 0, none⟩) (some ⟨b2, 0, none⟩) (Int.toNat n1) (Int.toNat n1) (some ⟨b16, 0, none⟩) (some ⟨b20, 0, none⟩) (Int.toNat n3) (Int.toNat n3) h31  K))) ∧
  ((0 ≤ n3 ∧ n3 ≤ n3 ∧ n3 ≤ 281474976710656 ∧ n3 * ((8 : Nat) : Int) ≤ 281474976710656) ∧
  New h24 (.cells (repL (Int.toNat n3 * 1) [.int .i64 0]).toArray 3) fun b21 h32 =>
  (∃ n18 : Int, cell h32 ⟨b1, 0, none⟩ = some (.int .i64 n18) ∧
  (.int .i64 n18 : Value) = .int .i64 n2) ∧
  ((0 ≤ n2 ∧ n2 ≤ n2 ∧ n2 ≤ 281474976710656 ∧ n2 * ((8 : Nat) : Int) ≤ 281474976710656) ∧
  New h32 (.cells (repL (Int.toNat n2 * 1) [.int .i64 0]).toArray 3) fun b22 h33 =>
  Wr h33 ⟨b16, 0, none⟩ (.slice (some ⟨b22, 0, none⟩) (Int.toNat n2) (Int.toNat n2)) fun h34 =>
  suffixindex_suffixes_b1 s (some ⟨b1, 0, none⟩) (some ⟨b2, 0, none⟩) (Int.toNat n1) (Int.toNat n1) (some ⟨b16, 0, none⟩) (some ⟨b21, 0, none⟩) (Int.toNat n3) (Int.toNat n3) h34  K) ∧
  ((∃ n19 : Int, cell h32 ⟨b1, 0, none⟩ = some (.int .i64 n19) ∧
  (.int .i64 n19 : Value) = .int .i64 n2) ∧
  (0 ≤ n2 ∧ n2 ≤ n2 ∧ n2 ≤ 281474976710656 ∧ n2 * ((8 : Nat) : Int) ≤ 281474976710656) ∧
  New h32 (.cells (repL (Int.toNat n2 * 1) [.int .i64 0]).toArray 3) fun b23 h35 =>
  Wr h35 ⟨b16, 0, none⟩ (.slice (some ⟨b23, 0, none⟩) (Int.toNat n2) (Int.toNat n2)) fun h36 =>
  suffixindex_suffixes_b1 s (some ⟨b1, 0, none⟩) (some ⟨b2, 0, none⟩) (Int.toNat n1) (Int.toNat n1) (some ⟨b16, 0, none⟩) (some ⟨b21, 0, none⟩) (Int.toNat n3) (Int.toNat n3) h36  K)) ∧
  ((∃ n20 : Int, cell h24 ⟨b1, 0, none⟩ = some (.int .i64 n20) ∧
  (.int .i64 n20 : Value) = .int .i64 n3) ∧
  (∃ n21 : Int, cell h24 ⟨b1, 0, none⟩ = some (.int .i64 n21) ∧
  (.int .i64 n21 : Value) = .int .i64 n2) ∧
  ((0 ≤ n2 ∧ n2 ≤ n2 ∧ n2 ≤ 281474976710656 ∧ n2 * ((8 : Nat) : Int) ≤ 281474976710656) ∧
  New h24 (.cells (repL (Int.toNat n2 * 1) [.int .i64 0]).toArray 3) fun b24 h37 =>
  (∃ n22 : Int, cell h37 ⟨b1, 0, none⟩ = some (.int .i64 n22) ∧
  (.int .i64 n22 : Value) = .int .i64 n3) ∧
  ((0 ≤ n3 ∧ n3 ≤ n3 ∧ n3 ≤ 281474976710656 ∧ n3 * ((8 : Nat) : Int) ≤ 281474976710656) ∧
  New h37 (.cells (repL (Int.toNat n3 * 1) [.int .i64 0]).toArray 3) fun b25 h38 =>
  Wr h38 ⟨b16, 0, none⟩ (.slice (some ⟨b24, 0, none⟩) (Int.toNat n2) (Int.toNat n2)) fun h39 =>
  suffixindex_suffixes_b1 s (some ⟨b1, 0, none⟩) (some ⟨b2, 0, none⟩) (Int.toNat n1) (Int.toNat n1) (some ⟨b16, 0, none⟩) (some ⟨b25, 0, none⟩) (Int.toNat n3) (Int.toNat n3) h39  K) ∧
  (Wr h37 ⟨b16, 0, none⟩ (.slice (some ⟨b24, 0, none⟩) (Int.toNat n2) (Int.toNat n2)) fun h40 =>
  (∃ n23 : Int, cell h40 ⟨b1, 0, none⟩ = some (.int .i64 n23) ∧
  (.int .i64 n23 : Value) = .int .i64 n3) ∧
  (0 ≤ n3 ∧ n3 ≤ n3 ∧ n3 ≤ 281474976710656 ∧ n3 * ((8 : Nat) : Int) ≤ 281474976710656) ∧
  New h40 (.cells (repL (Int.toNat n3 * 1) [.int .i64 0]).toArray 3) fun b26 h41 =>
  suffixindex_suffixes_b1 s (some ⟨b1, 0, none⟩) (some ⟨b2, 0, none⟩) (Int.toNat n1) (Int.toNat n1) (some ⟨b16, 0, none⟩) (some ⟨b26, 0, none⟩) (Int.toNat n3) (Int.toNat n3) h41  K)) ∧
  ((0 ≤ n3 ∧ n3 ≤ n3 ∧ n3 ≤ 281474976710656 ∧ n3 * ((8 : Nat) : Int) ≤ 281474976710656) ∧
  New h24 (.cells (repL (Int.toNat n3 * 1) [.int .i64 0]).toArray 3) fun b27 h42 =>
  (∃ n24 : Int, cell h42 ⟨b1, 0, none⟩ = some (.int .i64 n24) ∧
  (.int .i64 n24 : Value) = .int .i64 n2) ∧
  (0 ≤ n2 ∧ n2 ≤ n2 ∧ n2 ≤ 281474976710656 ∧ n2 * ((8 : Nat) : Int) ≤ 281474976710656) ∧
  New h42 (.cells (repL (Int.toNat n2 * 1) [.int .i64 0]).toArray 3) fun b28 h43 =>
  Wr h43 ⟨b16, 0, none⟩ (.slice (some ⟨b28, 0, none⟩) (Int.toNat n2) (Int.toNat n2)) fun h44 =>
  suffixindex_suffixes_b1 s (some ⟨b1, 0, none⟩) (some ⟨b2, 0, none⟩) (Int.toNat n1) (Int.toNat n1) (some ⟨b16, 0, none⟩) (some ⟨b27, 0, none⟩) (Int.toNat n3) (Int.toNat n3) h44  K)))) ∧
  ((0 ≤ n2 ∧ n2 ≤ n2 ∧ n2 ≤ 281474976710656 ∧ n2 * ((8 : Nat) : Int) ≤ 281474976710656) ∧
  New h2 (.cells (repL (Int.toNat n2 * 1) [.int .i64 0]).toArray 3) fun b29 h45 =>
  (∃ n25 : Int, cell h45 ⟨b1, 0, none⟩ = some (.int .i64 n25) ∧
  (.int .i64 n25 : Value) = .int .i64 n3) ∧
  (∃ n26 : Int, cell h45 ⟨b1, 0, none⟩ = some (.int .i64 n26) ∧
  (.int .i64 n26 : Value) = .int .i64 n1) ∧
  ((0 ≤ n1 ∧ n1 ≤ n1 ∧ n1 ≤ 281474976710656 ∧ n1 * ((8 : Nat) : Int) ≤ 281474976710656) ∧
  New h45 (.cells (repL (Int.toNat n1 * 1) [.int .i64 0]).toArray 3) fun b30 h46 =>
  (∃ n27 : Int, cell h46 ⟨b1, 0, none⟩ = some (.int .i64 n27) ∧
  (.int .i64 n27 : Value) = .int .i64 n3) ∧
  ((0 ≤ n3 ∧ n3 ≤ n3 ∧ n3 ≤ 281474976710656 ∧ n3 * ((8 : Nat) : Int) ≤ 281474976710656) ∧
  New h46 (.cells (repL (Int.toNat n3 * 1) [.int .i64 0]).toArray 3) fun b31 h47 =>
  New h47 (.cells #[.slice none 0 0] 24) fun b32 h48 =>
  Wr h48 ⟨b32, 0, none⟩ (.slice (some ⟨b29, 0, none⟩) (Int.toNat n2) (Int.toNat n2)) fun h49 =>
  suffixindex_suffixes_b1 s (some ⟨b1, 0, none⟩) (some ⟨b30, 0, none⟩) (Int.toNat n1) (Int.toNat n1) (some ⟨b32, 0, none⟩) (some ⟨b31, 0, none⟩) (Int.toNat n3) (Int.toNat n3) h49  K) ∧
  (New h46 (.cells #[.slice none 0 0] 24) fun b33 h50 =>
  (∃ n28 : Int, cell h50 ⟨b1, 0, none⟩ = some (.int .i64 n28) ∧
  (.int .i64 n28 : Value) = .int .i64 n3) ∧
  ((0 ≤ n3 ∧ n3 ≤ n3 ∧ n3 ≤ 281474976710656 ∧ n3 * ((8 : Nat) : Int) ≤ 281474976710656) ∧
  New h50 (.cells (repL (Int.toNat n3 * 1) [.int .i64 0]).toArray 3) fun b34 h51 =>
  Wr h51 ⟨b33, 0, none⟩ (.slice (some ⟨b29, 0, none⟩) (Int.toNat n2) (Int.toNat n2)) fun h52 =>
  suffixindex_suffixes_b1 s (some ⟨b1, 0, none⟩) (some ⟨b30, 0, none⟩) (Int.toNat n1) (Int.toNat n1) (some ⟨b33, 0, none⟩) (some ⟨b34, 0, none⟩) (Int.toNat n3) (Int.toNat n3) h52  K) ∧
  ((∃ n29 : Int, cell h50 ⟨b1, 0, none⟩ = some (.int .i64 n29) ∧
  (.int .i64 n29 : Value) = .int .i64 n3) ∧
  ((0 ≤ n3 ∧ n3 ≤ n3 ∧ n3 ≤ 281474976710656 ∧ n3 * ((8 : Nat) : Int) ≤ 281474976710656) ∧
  New h50 (.cells (repL (Int.toNat n3 * 1) [.int .i64 0]).toArray 3) fun b35 h53 =>
  Wr h53 ⟨b33, 0, none⟩ (.slice (some ⟨b29, 0, none⟩) (Int.toNat n2) (Int.toNat n2)) fun h54 =>
  suffixindex_suffixes_b1 s (some ⟨b1, 0, none⟩) (some ⟨b30, 0, none⟩) (Int.toNat n1) (Int.toNat n1) (some ⟨b33, 0, none⟩) (some ⟨b35, 0, none⟩) (Int.toNat n3) (Int.toNat n3) h54  K) ∧
  (Wr h50 ⟨b33, 0, none⟩ (.slice (some ⟨b29, 0, none⟩) (Int.toNat n2) (Int.toNat n2)) fun h55 =>
  (∃ n30 : Int, cell h55 ⟨b1, 0, none⟩ = some (.int .i64 n30) ∧
  (.int .i64 n30 : Value) = .int .i64 n3) ∧
  (0 ≤ n3 ∧ n3 ≤ n3 ∧ n3 ≤ 281474976710656 ∧ n3 * ((8 : Nat) : Int) ≤ 281474976710656) ∧
  New h55 (.cells (repL (Int.toNat n3 * 1) [.int .i64 0]).toArray 3) fun b36 h56 =>
  suffixindex_suffixes_b1 s (some ⟨b1, 0, none⟩) (some ⟨b30, 0, none⟩) (Int.toNat n1) (Int.toNat n1) (some ⟨b33, 0, none⟩) (some ⟨b36, 0, none⟩) (Int.toNat n3) (Int.toNat n3) h56  K)))) ∧
  ((0 ≤ n3 ∧ n3 ≤ n3 ∧ n3 ≤ 281474976710656 ∧ n3 * ((8 : Nat) : Int) ≤ 281474976710656) ∧
  New h45 (.cells (repL (Int.toNat n3 * 1) [.int .i64 0]).toArray 3) fun b37 h57 =>
  (∃ n31 : Int, cell h57 ⟨b1, 0, none⟩ = some (.int .i64 n31) ∧
  (.int .i64 n31 : Value) = .int .i64 n1) ∧
  ((0 ≤ n1 ∧ n1 ≤ n1 ∧ n1 ≤ 281474976710656 ∧ n1 * ((8 : Nat) : Int) ≤ 281474976710656) ∧
  New h57 (.cells (repL (Int.toNat n1 * 1) [.int .i64 0]).toArray 3) fun b38 h58 =>
  New h58 (.cells #[.slice none 0 0] 24) fun b39 h59 =>
  Wr h59 ⟨b39, 0, none⟩ (.slice (some ⟨b29, 0, none⟩) (Int.toNat n2) (Int.toNat n2)) fun h60 =>
  suffixindex_suffixes_b1 s (some ⟨b1, 0, none⟩) (some ⟨b38, 0, none⟩) (Int.toNat n1) (Int.toNat n1) (some ⟨b39, 0, none⟩) (some ⟨b37, 0, none⟩) (Int.toNat n3) (Int.toNat n3) h60  K) ∧
  (New h57 (.cells #[.slice none 0 0] 24) fun b40 h61 =>
  (∃ n32 : Int, cell h61 ⟨b1, 0, none⟩ = some (.int .i64 n32) ∧
  (.int .i64 n32 : Value) = .int .i64 n1) ∧
  (0 ≤ n1 ∧ n1 ≤ n1 ∧ n1 ≤ 281474976710656 ∧ n1 * ((8 : Nat) : Int) ≤ 281474976710656) ∧
  New h61 (.cells (repL (Int.toNat n1 * 1) [.int .i64 0]).toArray 3) fun b41 h62 =>
  Wr h62 ⟨b40, 0, none⟩ (.slice (some ⟨b29, 0, none⟩) (Int.toNat n2) (Int.toNat n2)) fun h63 =>
  suffixindex_suffixes_b1 s (some ⟨b1, 0, none⟩) (some ⟨b41, 0, none⟩) (Int.toNat n1) (Int.toNat n1) (some ⟨b40, 0, none⟩) (some ⟨b37, 0, none⟩) (Int.toNat n3) (Int.toNat n3) h63  K)) ∧
  (New h45 (.cells #[.slice none 0 0] 24) fun b42 h64 =>
  (∃ n33 : Int, cell h64 ⟨b1, 0, none⟩ = some (.int .i64 n33) ∧
  (.int .i64 n33 : Value) = .int .i64 n3) ∧
  (∃ n34 : Int, cell h64 ⟨b1, 0, none⟩ = some (.int .i64 n34) ∧
  (.int .i64 n34 : Value) = .int .i64 n1) ∧
  ((0 ≤ n1 ∧ n1 ≤ n1 ∧ n1 ≤ 281474976710656 ∧ n1 * ((8 : Nat) : Int) ≤ 281474976710656) ∧
  New h64 (.cells (repL (Int.toNat n1 * 1) [.int .i64 0]).toArray 3) fun b43 h65 =>
  (∃ n35 : Int, cell h65 ⟨b1, 0, none⟩ = some (.int .i64 n35) ∧
  (.int .i64 n35 : Value) = .int .i64 n3) ∧
  ((0 ≤ n3 ∧ n3 ≤ n3 ∧ n3 ≤ 281474976710656 ∧ n3 * ((8 : Nat) : Int) ≤ 281474976710656) ∧
  New h65 (.cells (repL (Int.toNat n3 * 1) [.int .i64 0]).toArray 3) fun b44 h66 =>
  Wr h66 ⟨b42, 0, none⟩ (.slice (some ⟨b29, 0, none⟩) (Int.toNat n2) (Int.toNat n2)) fun h67 =>
  suffixindex_suffixes_b1 s (some ⟨b1, 0, none⟩) (some ⟨b43, 0, none⟩) (Int.toNat n1) (Int.toNat n1) (some ⟨b42, 0, none⟩) (some ⟨b44, 0, none⟩) (Int.toNat n3) (Int.toNat n3) h67  K) ∧
  ((∃ n36 : Int, cell h65 ⟨b1, 0, none⟩ = some (.int .i64 n36) ∧
  (.int .i64 n36 : Value) = .int .i64 n3) ∧
  ((0 ≤ n3 ∧ n3 ≤ n3 ∧ n3 ≤ 281474976710656 ∧ n3 * ((8 : Nat) : Int) ≤ 281474976710656) ∧
  New h65 (.cells (repL (Int.toNat n3 * 1) [.int .i64 0]).toArray 3) fun b45 h68 =>
  Wr h68 ⟨b42, 0, none⟩ (.slice (some ⟨b29, 0, none⟩) (Int.toNat n2) (Int.toNat n2)) fun h69 =>
  suffixindex_suffixes_b1 s (some ⟨b1, 0, none⟩) (some ⟨b43, 0, none⟩) (Int.toNat n1) (Int.toNat n1) (some ⟨b42, 0, none⟩) (some ⟨b45, 0, none⟩) (Int.toNat n3) (Int.toNat n3) h69  K) ∧
  (Wr h65 ⟨b42, 0, none⟩ (.slice (some ⟨b29, 0, none⟩) (Int.toNat n2) (Int.toNat n2)) fun h70 =>
  (∃ n37 : Int, cell h70 ⟨b1, 0, none⟩ = some (.int .i64 n37) ∧
  (.int .i64 n37 : Value) = .int .i64 n3) ∧
  (0 ≤ n3 ∧ n3 ≤ n3 ∧ n3 ≤ 281474976710656 ∧ n3 * ((8 : Nat) : Int) ≤ 281474976710656) ∧
  New h70 (.cells (repL (Int.toNat n3 * 1) [.int .i64 0]).toArray 3) fun b46 h71 =>
  suffixindex_suffixes_b1 s (some ⟨b1, 0, none⟩) (some ⟨b43, 0, none⟩) (Int.toNat n1) (Int.toNat n1) (some ⟨b42, 0, none⟩) (some ⟨b46, 0, none⟩) (Int.toNat n3) (Int.toNat n3) h71  K))) ∧
  ((0 ≤ n3 ∧ n3 ≤ n3 ∧ n3 ≤ 281474976710656 ∧ n3 * ((8 : Nat) : Int) ≤ 281474976710656) ∧
  New h64 (.cells (repL (Int.toNat n3 * 1) [.int .i64 0]).toArray 3) fun b47 h72 =>
  (∃ n38 : Int, cell h72 ⟨b1, 0, none⟩ = some (.int .i64 n38) ∧
  (.int .i64 n38 : Value) = .int .i64 n1) ∧
  (0 ≤ n1 ∧ n1 ≤ n1 ∧ n1 ≤ 281474976710656 ∧ n1 * ((8 : Nat) : Int) ≤ 281474976710656) ∧
  New h72 (.cells (repL (Int.toNat n1 * 1) [.int .i64 0]).toArray 3) fun b48 h73 =>
  Wr h73 ⟨b42, 0, none⟩ (.slice (some ⟨b29, 0, none⟩) (Int.toNat n2) (Int.toNat n2)) fun h74 =>
  suffixindex_suffixes_b1 s (some ⟨b1, 0, none⟩) (some ⟨b48, 0, none⟩) (Int.toNat n1) (Int.toNat n1) (some ⟨b42, 0, none⟩) (some ⟨b47, 0, none⟩) (Int.toNat n3) (Int.toNat n3) h74  K))) ∧
  ((0 ≤ n3 ∧ n3 ≤ n3 ∧ n3 ≤ 281474976710656 ∧ n3 * ((8 : Nat) : Int) ≤ 281474976710656) ∧
  New h2 (.cells (repL (Int.toNat n3 * 1) [.int .i64 0]).toArray 3) fun b49 h75 =>
  (∃ n39 : Int, cell h75 ⟨b1, 0, none⟩ = some (.int .i64 n39) ∧
  (.int .i64 n39 : Value) = .int .i64 n2) ∧
  (∃ n40 : Int, cell h75 ⟨b1, 0, none⟩ = some (.int .i64 n40) ∧
  (.int .i64 n40 : Value) = .int .i64 n1) ∧
  ((0 ≤ n1 ∧ n1 ≤ n1 ∧ n1 ≤ 281474976710656 ∧ n1 * ((8 : Nat) : Int) ≤ 281474976710656) ∧
  New h75 (.cells (repL (Int.toNat n1 * 1) [.int .i64 0]).toArray 3) fun b50 h76 =>
  (∃ n41 : Int, cell h76 ⟨b1, 0, none⟩ = some (.int .i64 n41) ∧
  (.int .i64 n41 : Value) = .int .i64 n2) ∧
  ((0 ≤ n2 ∧ n2 ≤ n2 ∧ n2 ≤ 281474976710656 ∧ n2 * ((8 : Nat) : Int) ≤ 281474976710656) ∧
  New h76 (.cells (repL (Int.toNat n2 * 1) [.int .i64 0]).toArray 3) fun b51 h77 =>
  New h77 (.cells #[.slice none 0 0] 24) fun b52 h78 =>
  Wr h78 ⟨b52, 0, none⟩ (.slice (some ⟨b51, 0, none⟩) (Int.toNat n2) (Int.toNat n2)) fun h79 =>
  suffixindex_suffixes_b1 s (some ⟨b1, 0, none⟩) (some ⟨b50, 0, none⟩) (Int.toNat n1) (Int.toNat n1) (some ⟨b52, 0, none⟩) (some ⟨b49, 0, none⟩) (Int.toNat n3) (Int.toNat n3) h79  K) ∧
  (New h76 (.cells #[.slice none 0 0] 24) fun b53 h80 =>
  (∃ n42 : Int, cell h80 ⟨b1, 0, none⟩ = some (.int .i64 n42) ∧
  (.int .i64 n42 : Value) = .int .i64 n2) ∧
  ((0 ≤ n2 ∧ n2 ≤ n2 ∧ n2 ≤ 281474976710656 ∧ n2 * ((8 : Nat) : Int) ≤ 281474976710656) ∧
  New h80 (.cells (repL (Int.toNat n2 * 1) [.int .i64 0]).toArray 3) fun b54 h81 =>
  Wr h81 ⟨b53, 0, none⟩ (.slice (some ⟨b54, 0, none⟩) (Int.toNat n2) (Int.toNat n2)) fun h82 =>
  suffixindex_suffixes_b1 s (some ⟨b1, 0, none⟩) (some ⟨b50, 0, none⟩) (Int.toNat n1) (Int.toNat n1) (some ⟨b53, 0, none⟩) (some ⟨b49, 0, none⟩) (Int.toNat n3) (Int.toNat n3) h82  K) ∧
  ((∃ n43 : Int, cell h80 ⟨b1, 0, none⟩ = some (.int .i64 n43) ∧
  (.int .i64 n43 : Value) = .int .i64 n2) ∧
  (0 ≤ n2 ∧ n2 ≤ n2 ∧ n2 ≤ 281474976710656 ∧ n2 * ((8 : Nat) : Int) ≤ 281474976710656) ∧
  New h80 (.cells (repL (Int.toNat n2 * 1) [.int .i64 0]).toArray 3) fun b55 h83 =>
  Wr h83 ⟨b53, 0, none⟩ (.slice (some ⟨b55, 0, none⟩) (Int.toNat n2) (Int.toNat n2)) fun h84 =>
  suffixindex_suffixes_b1 s (some ⟨b1, 0, none⟩) (some ⟨b50, 0, none⟩) (Int.toNat n1) (Int.toNat n1) (some ⟨b53, 0, none⟩) (some ⟨b49, 0, none⟩) (Int.toNat n3) (Int.toNat n3) h84  K))) ∧
  ((0 ≤ n2 ∧ n2 ≤ n2 ∧ n2 ≤ 281474976710656 ∧ n2 * ((8 : Nat) : Int) ≤ 281474976710656) ∧
  New h75 (.cells (repL (Int.toNat n2 * 1) [.int .i64 0]).toArray 3) fun b56 h85 =>
  (∃ n44 : Int, cell h85 ⟨b1, 0, none⟩ = some (.int .i64 n44) ∧
  (.int .i64 n44 : Value) = .int .i64 n1) ∧
  ((0 ≤ n1 ∧ n1 ≤ n1 ∧ n1 ≤ 281474976710656 ∧ n1 * ((8 : Nat) : Int) ≤ 281474976710656) ∧
  New h85 (.cells (repL (Int.toNat n1 * 1) [.int .i64 0]).toArray 3) fun b57 h86 =>
  New h86 (.cells #[.slice none 0 0] 24) fun b58 h87 =>
  Wr h87 ⟨b58, 0, none⟩ (.slice (some ⟨b56, 0, none⟩) (Int.toNat n2) (Int.toNat n2)) fun h88 =>
  suffixindex_suffixes_b1 s (some ⟨b1, 0, none⟩) (some ⟨b57, 0, none⟩) (Int.toNat n1) (Int.toNat n1) (some ⟨b58, 0, none⟩) (some ⟨b49, 0, none⟩) (Int.toNat n3) (Int.toNat n3) h88  K) ∧
  (New h85 (.cells #[.slice none 0 0] 24) fun b59 h89 =>
  (∃ n45 : Int, cell h89 ⟨b1, 0, none⟩ = some (.int .i64 n45) ∧
  (.int .i64 n45 : Value) = .int .i64 n1) ∧
  (0 ≤ n1 ∧ n1 ≤ n1 ∧ n1 ≤ 281474976710656 ∧ n1 * ((8 : Nat) : Int) ≤ 281474976710656) ∧
  New h89 (.cells (repL (Int.toNat n1 * 1) [.int .i64 0]).toArray 3) fun b60 h90 =>
  Wr h90 ⟨b59, 0, none⟩ (.slice (some ⟨b56, 0, none⟩) (Int.toNat n2) (Int.toNat n2)) fun h91 =>
  suffixindex_suffixes_b1 s (some ⟨b1, 0, none⟩) (some ⟨b60, 0, none⟩) (Int.toNat n1) (Int.toNat n1) (some ⟨b59, 0, none⟩) (some ⟨b49, 0, none⟩) (Int.toNat n3) (Int.toNat n3) h91  K)) ∧
  (New h75 (.cells #[.slice none 0 0] 24) fun b61 h92 =>
  (∃ n46 : Int, cell h92 ⟨b1, 0, none⟩ = some (.int .i64 n46) ∧
  (.int .i64 n46 : Value) = .int .i64 n2) ∧
  (∃ n47 : Int, cell h92 ⟨b1, 0, none⟩ = some (.int .i64 n47) ∧
  (.int .i64 n47 : Value) = .int .i64 n1) ∧
  ((0 ≤ n1 ∧ n1 ≤ n1 ∧ n1 ≤ 281474976710656 ∧ n1 * ((8 : Nat) : Int) ≤ 281474976710656) ∧
  New h92 (.cells (repL (Int.toNat n1 * 1) [.int .i64 0]).toArray 3) fun b62 h93 =>
  (∃ n48 : Int, cell h93 ⟨b1, 0, none⟩ = some (.int .i64 n48) ∧
  (.int .i64 n48 : Value) = .int .i64 n2) ∧
  ((0 ≤ n2 ∧ n2 ≤ n2 ∧ n2 ≤ 281474976710656 ∧ n2 * ((8 : Nat) : Int) ≤ 281474976710656) ∧
  New h93 (.cells (repL (Int.toNat n2 * 1) [.int .i64 0]).toArray 3) fun b63 h94 =>
  Wr h94 ⟨b61, 0, none⟩ (.slice (some ⟨b63, 0, none⟩) (Int.toNat n2) (Int.toNat n2)) fun h95 =>
  suffixindex_suffixes_b1 s (some ⟨b1, 0, none⟩) (some ⟨b62, 0, none⟩) (Int.toNat n1) (Int.toNat n1) (some ⟨b61, 0, none⟩) (some ⟨b49, 0, none⟩) (Int.toNat n3) (Int.toNat n3) h95  K) ∧
  ((∃ n49 : Int, cell h93 ⟨b1, 0, none⟩ = some (.int .i64 n49) ∧
  (.int .i64 n49 : Value) = .int .i64 n2) ∧
  (0 ≤ n2 ∧ n2 ≤ n2 ∧ n2 ≤ 281474976710656 ∧ n2 * ((8 : Nat) : Int) ≤ 281474976710656) ∧
  New h93 (.cells (repL (Int.toNat n2 * 1) [.int .i64 0]).toArray 3) fun b64 h96 =>
  Wr h96 ⟨b61, 0, none⟩ (.slice (some ⟨b64, 0, none⟩) (Int.toNat n2) (Int.toNat n2)) fun h97 =>
  suffixindex_suffixes_b1 s (some ⟨b1, 0, none⟩) (some ⟨b62, 0, none⟩) (Int.toNat n1) (Int.toNat n1) (some ⟨b61, 0, none⟩) (some ⟨b49, 0, none⟩) (Int.toNat n3) (Int.toNat n3) h97  K)) ∧
  ((0 ≤ n2 ∧ n2 ≤ n2 ∧ n2 ≤ 281474976710656 ∧ n2 * ((8 : Nat) : Int) ≤ 281474976710656) ∧
  New h92 (.cells (repL (Int.toNat n2 * 1) [.int .i64 0]).toArray 3) fun b65 h98 =>
  (∃ n50 : Int, cell h98 ⟨b1, 0, none⟩ = some (.int .i64 n50) ∧
  (.int .i64 n50 : Value) = .int .i64 n1) ∧
  (0 ≤ n1 ∧ n1 ≤ n1 ∧ n1 ≤ 281474976710656 ∧ n1 * ((8 : Nat) : Int) ≤ 281474976710656) ∧
  New h98 (.cells (repL (Int.toNat n1 * 1) [.int .i64 0]).toArray 3) fun b66 h99 =>
  Wr h99 ⟨b61, 0, none⟩ (.slice (some ⟨b65, 0, none⟩) (Int.toNat n2) (Int.toNat n2)) fun h100 =>
  suffixindex_suffixes_b1 s (some ⟨b1, 0, none⟩) (some ⟨b66, 0, none⟩) (Int.toNat n1) (Int.toNat n1) (some ⟨b61, 0, none⟩) (some ⟨b49, 0, none⟩) (Int.toNat n3) (Int.toNat n3) h100  K))) ∧
  (New h2 (.cells #[.slice none 0 0] 24) fun b67 h101 =>
  (∃ n51 : Int, cell h101 ⟨b1, 0, none⟩ = some (.int .i64 n51) ∧
  (.int .i64 n51 : Value) = .int .i64 n3) ∧
  (∃ n52 : Int, cell h101 ⟨b1, 0, none⟩ = some (.int .i64 n52) ∧
  (.int .i64 n52 : Value) = .int .i64 n2) ∧
  (∃ n53 : Int, cell h101 ⟨b1, 0, none⟩ = some (.int .i64 n53) ∧
  (.int .i64 n53 : Value) = .int .i64 n1) ∧
  ((0 ≤ n1 ∧ n1 ≤ n1 ∧ n1 ≤ 281474976710656 ∧ n1 * ((8 : Nat) : Int) ≤ 281474976710656) ∧
  New h101 (.cells (repL (Int.toNat n1 * 1) [.int .i64 0]).toArray 3) fun b68 h102 =>
  (∃ n54 : Int, cell h102 ⟨b1, 0, none⟩ = some (.int .i64 n54) ∧
  (.int .i64 n54 : Value) = .int .i64 n3) ∧
  (∃ n55 : Int, cell h102 ⟨b1, 0, none⟩ = some (.int .i64 n55) ∧
  (.int .i64 n55 : Value) = .int .i64 n2) ∧
  ((0 ≤ n2 ∧ n2 ≤ n2 ∧ n2 ≤ 281474976710656 ∧ n2 * ((8 : Nat) : Int) ≤ 281474976710656) ∧
  New h102 (.cells (repL (Int.toNat n2 * 1) [.int .i64 0]).toArray 3) fun b69 h103 =>
  (∃ n56 : Int, cell h103 ⟨b1, 0, none⟩ = some (.int .i64 n56) ∧
  (.int .i64 n56 : Value) = .int .i64 n3) ∧
  ((0 ≤ n3 ∧ n3 ≤ n3 ∧ n3 ≤ 281474976710656 ∧ n3 * ((8 : Nat) : Int) ≤ 281474976710656) ∧
  New h103 (.cells (repL (Int.toNat n3 * 1) [.int .i64 0]).toArray 3) fun b70 h104 =>
  Wr h104 ⟨b67, 0, none⟩ (.slice (some ⟨b69, 0, none⟩) (Int.toNat n2) (Int.toNat n2)) fun h105 =>
  suffixindex_suffixes_b1 s (some ⟨b1, 0, none⟩) (some ⟨b68, 0, none⟩) (Int.toNat n1) (Int.toNat n1) (some ⟨b67, 0, none⟩) (some ⟨b70, 0, none⟩) (Int.toNat n3) (Int.toNat n3) h105  K) ∧
  ((∃ n57 : Int, cell h103 ⟨b1, 0, none⟩ = some (.int .i64 n57) ∧
  (.int .i64 n57 : Value) = .int .i64 n3) ∧
  ((0 ≤ n3 ∧ n3 ≤ n3 ∧ n3 ≤ 281474976710656 ∧ n3 * ((8 : Nat) : Int) ≤ 281474976710656) ∧
  New h103 (.cells (repL (Int.toNat n3 * 1) [.int .i64 0]).toArray 3) fun b71 h106 =>
  Wr h106 ⟨b67, 0, none⟩ (.slice (some ⟨b69, 0, none⟩) (Int.toNat n2) (Int.toNat n2)) fun h107 =>
  suffixindex_suffixes_b1 s (some ⟨b1, 0, none⟩) (some ⟨b68, 0, none⟩) (Int.toNat n1) (Int.toNat n1) (some ⟨b67, 0, none⟩) (some ⟨b71, 0, none⟩) (Int.toNat n3) (Int.toNat n3) h107  K) ∧
  (Wr h103 ⟨b67, 0, none⟩ (.slice (some ⟨b69, 0, none⟩) (Int.toNat n2) (Int.toNat n2)) fun h108 =>
  (∃ n58 : Int, cell h108 ⟨b1, 0, none⟩ = some (.int .i64 n58) ∧
  (.int .i64 n58 : Value) = .int .i64 n3) ∧
  (0 ≤ n3 ∧ n3 ≤ n3 ∧ n3 ≤ 281474976710656 ∧ n3 * ((8 : Nat) : Int) ≤ 281474976710656) ∧
  New h108 (.cells (repL (Int.toNat n3 * 1) [.int .i64 0]).toArray 3) fun b72 h109 =>
  suffixindex_suffixes_b1 s (some ⟨b1, 0, none⟩) (some ⟨b68, 0, none⟩) (Int.toNat n1) (Int.toNat n1) (some ⟨b67, 0, none⟩) (some ⟨b72, 0, none⟩) (Int.toNat n3) (Int.toNat n3) h109  K))) ∧
  ((0 ≤ n3 ∧ n3 ≤ n3 ∧ n3 ≤ 281474976710656 ∧ n3 * ((8 : Nat) : Int) ≤ 281474976710656) ∧
  New h102 (.cells (repL (Int.toNat n3 * 1) [.int .i64 0]).toArray 3) fun b73 h110 =>
  (∃ n59 : Int, cell h110 ⟨b1, 0, none⟩ = some (.int .i64 n59) ∧
  (.int .i64 n59 : Value) = .int .i64 n2) ∧
  ((0 ≤ n2 ∧ n2 ≤ n2 ∧ n2 ≤ 281474976710656 ∧ n2 * ((8 : Nat) : Int) ≤ 281474976710656) ∧
  New h110 (.cells (repL (Int.toNat n2 * 1) [.int .i64 0]).toArray 3) fun b74 h111 =>
  Wr h111 ⟨b67, 0, none⟩ (.slice (some ⟨b74, 0, none⟩) (Int.toNat n2) (Int.toNat n2)) fun h112 =>
  suffixindex_suffixes_b1 s (some ⟨b1, 0, none⟩) (some ⟨b68, 0, none⟩) (Int.toNat n1) (Int.toNat n1) (some ⟨b67, 0, none⟩) (some ⟨b73, 0, none⟩) (Int.toNat n3) (Int.toNat n3) h112  K) ∧
  ((∃ n60 : Int, cell h110 ⟨b1, 0, none⟩ = some (.int .i64 n60) ∧
  (.int .i64 n60 : Value) = .int .i64 n2) ∧
  (0 ≤ n2 ∧ n2 ≤ n2 ∧ n2 ≤ 281474976710656 ∧ n2 * ((8 : Nat) : Int) ≤ 281474976710656) ∧
  New h110 (.cells (repL (Int.toNat n2 * 1) [.int .i64 0]).toArray 3) fun b75 h113 =>
  Wr h113 ⟨b67, 0, none⟩ (.slice (some ⟨b75, 0, none⟩) (Int.toNat n2) (Int.toNat n2)) fun h114 =>
  suffixindex_suffixes_b1 s (some ⟨b1, 0, none⟩) (some ⟨b68, 0, none⟩) (Int.toNat n1) (Int.toNat n1) (some ⟨b67, 0, none⟩) (some ⟨b73, 0, none⟩) (Int.toNat n3) (Int.toNat n3) h114  K)) ∧
  ((∃ n61 : Int, cell h102 ⟨b1, 0, none⟩ = some (.int .i64 n61) ∧
  (.int .i64 n61 : Value) = .int .i64 n3) ∧
  (∃ n62 : Int, cell h102 ⟨b1, 0, none⟩ = some (.int .i64 n62) ∧
  (.int .i64 n62 : Value) = .int .i64 n2) ∧
  ((0 ≤ n2 ∧ n2 ≤ n2 ∧ n2 ≤ 281474976710656 ∧ n2 * ((8 : Nat) : Int) ≤ 281474976710656) ∧
  New h102 (.cells (repL (Int.toNat n2 * 1) [.int .i64 0]).toArray 3) fun b76 h115 =>
  (∃ n63 : Int, cell h115 ⟨b1, 0, none⟩ = some (.int .i64 n63) ∧
  (.int .i64 n63 : Value) = .int .i64 n3) ∧
  ((0 ≤ n3 ∧ n3 ≤ n3 ∧ n3 ≤ 281474976710656 ∧ n3 * ((8 : Nat) : Int) ≤ 281474976710656) ∧
  New h115 (.cells (repL (Int.toNat n3 * 1) [.int .i64 0]).toArray 3) fun b77 h116 =>
  Wr h116 ⟨b67, 0, none⟩ (.slice (some ⟨b76, 0, none⟩) (Int.toNat n2) (Int.toNat n2)) fun h117 =>
  suffixindex_suffixes_b1 s (some ⟨b1, 0, none⟩) (some ⟨b68, 0, none⟩) (Int.toNat n1) (Int.toNat n1) (some ⟨b67, 0, none⟩) (some ⟨b77, 0, none⟩) (Int.toNat n3) (Int.toNat n3) h117  K) ∧
  (Wr h115 ⟨b67, 0, none⟩ (.slice (some ⟨b76, 0, none⟩) (Int.toNat n2) (Int.toNat n2)) fun h118 =>
  (∃ n64 : Int, cell h118 ⟨b1, 0, none⟩ = some (.int .i64 n64) ∧
  (.int .i64 n64 : Value) = .int .i64 n3) ∧
  (0 ≤ n3 ∧ n3 ≤ n3 ∧ n3 ≤ 281474976710656 ∧ n3 * ((8 : Nat) : Int) ≤ 281474976710656) ∧
  New h118 (.cells (repL (Int.toNat n3 * 1) [.int .i64 0]).toArray 3) fun b78 h119 =>
  suffixindex_suffixes_b1 s (some ⟨b1, 0, none⟩) (some ⟨b68, 0, none⟩) (Int.toNat n1) (Int.toNat n1) (some ⟨b67, 0, none⟩) (some ⟨b78, 0, none⟩) (Int.toNat n3) (Int.toNat n3) h119  K)) ∧
  ((0 ≤ n3 ∧ n3 ≤ n3 ∧ n3 ≤ 281474976710656 ∧ n3 * ((8 : Nat) : Int) ≤ 281474976710656) ∧
  New h102 (.cells (repL (Int.toNat n3 * 1) [.int .i64 0]).toArray 3) fun b79 h120 =>
  (∃ n65 : Int, cell h120 ⟨b1, 0, none⟩ = some (.int .i64 n65) ∧
  (.int .i64 n65 : Value) = .int .i64 n2) ∧
  (0 ≤ n2 ∧ n2 ≤ n2 ∧ n2 ≤ 281474976710656 ∧ n2 * ((8 : Nat) : Int) ≤ 281474976710656) ∧
  New h120 (.cells (repL (Int.toNat n2 * 1) [.int .i64 0]).toArray 3) fun b80 h121 =>
  Wr h121 ⟨b67, 0, none⟩ (.slice (some ⟨b80, 0, none⟩) (Int.toNat n2) (Int.toNat n2)) fun h122 =>
  suffixindex_suffixes_b1 s (some ⟨b1, 0, none⟩) (some ⟨b68, 0, none⟩) (Int.toNat n1) (Int.toNat n1) (some ⟨b67, 0, none⟩) (some ⟨b79, 0, none⟩) (Int.toNat n3) (Int.toNat n3) h122  K))) ∧
  ((0 ≤ n2 ∧ n2 ≤ n2 ∧ n2 ≤ 281474976710656 ∧ n2 * ((8 : Nat) : Int) ≤ 281474976710656) ∧
  New h101 (.cells (repL (Int.toNat n2 * 1) [.int .i64 0]).toArray 3) fun b81 h123 =>
  (∃ n66 : Int, cell h123 ⟨b1, 0, none⟩ = some (.int .i64 n66) ∧
  (.int .i64 n66 : Value) = .int .i64 n3) ∧
  (∃ n67 : Int, cell h123 ⟨b1, 0, none⟩ = some (.int .i64 n67) ∧
  (.int .i64 n67 : Value) = .int .i64 n1) ∧
  ((0 ≤ n1 ∧ n1 ≤ n1 ∧ n1 ≤ 281474976710656 ∧ n1 * ((8 : Nat) : Int) ≤ 281474976710656) ∧
  New h123 (.cells (repL (Int.toNat n1 * 1) [.int .i64 0]).toArray 3) fun b82 h124 =>
  (∃ n68 : Int, cell h124 ⟨b1, 0, none⟩ = some (.int .i64 n68) ∧
  (.int .i64 n68 : Value) = .int .i64 n3) ∧
  ((0 ≤ n3 ∧ n3 ≤ n3 ∧ n3 ≤ 281474976710656 ∧ n3 * ((8 : Nat) : Int) ≤ 281474976710656) ∧
  New h124 (.cells (repL (Int.toNat n3 * 1) [.int .i64 0]).toArray 3) fun b83 h125 =>
  Wr h125 ⟨b67, 0, none⟩ (.slice (some ⟨b81, 0, none⟩) (Int.toNat n2) (Int.toNat n2)) fun h126 =>
  suffixindex_suffixes_b1 s (some ⟨b1, 0, none⟩) (some ⟨b82, 0, none⟩) (Int.toNat n1) (Int.toNat n1) (some ⟨b67, 0, none⟩) (some ⟨b83, 0, none⟩) (Int.toNat n3) (Int.toNat n3) h126  K) ∧
  ((∃ n69 : Int, cell h124 ⟨b1, 0, none⟩ = some (.int .i64 n69) ∧
  (.int .i64 n69 : Value) = .int .i64 n3) ∧
  ((0 ≤ n3 ∧ n3 ≤ n3 ∧ n3 ≤ 281474976710656 ∧ n3 * ((8 : Nat) : Int) ≤ 281474976710656) ∧
  New h124 (.cells (repL (Int.toNat n3 * 1) [.int .i64 0]).toArray 3) fun b84 h127 =>
  Wr h127 ⟨b67, 0, none⟩ (.slice (some ⟨b81, 0, none⟩) (Int.toNat n2) (Int.toNat n2)) fun h128 =>
  suffixindex_suffixes_b1 s (some ⟨b1, 0, none⟩) (some ⟨b82, 0, none⟩) (Int.toNat n1) (Int.toNat n1) (some ⟨b67, 0, none⟩) (some ⟨b84, 0, none⟩) (Int.toNat n3) (Int.toNat n3) h128  K) ∧
  (Wr h124 ⟨b67, 0, none⟩ (.slice (some ⟨b81, 0, none⟩) (Int.toNat n2) (Int.toNat n2)) fun h129 =>
  (∃ n70 : Int, cell h129 ⟨b1, 0, none⟩ = some (.int .i64 n70) ∧
  (.int .i64 n70 : Value) = .int .i64 n3) ∧
  (0 ≤ n3 ∧ n3 ≤ n3 ∧ n3 ≤ 281474976710656 ∧ n3 * ((8 : Nat) : Int) ≤ 281474976710656) ∧
  New h129 (.cells (repL (Int.toNat n3 * 1) [.int .i64 0]).toArray 3) fun b85 h130 =>
  suffixindex_suffixes_b1 s (some ⟨b1, 0, none⟩) (some ⟨b82, 0, none⟩) (Int.toNat n1) (Int.toNat n1) (some ⟨b67, 0, none⟩) (some ⟨b85, 0, none⟩) (Int.toNat n3) (Int.toNat n3) h130  K))) ∧
  ((0 ≤ n3 ∧ n3 ≤ n3 ∧ n3 ≤ 281474976710656 ∧ n3 * ((8 : Nat) : Int) ≤ 281474976710656) ∧
  New h123 (.cells (repL (Int.toNat n3 * 1) [.int .i64 0]).toArray 3) fun b86 h131 =>
  (∃ n71 : Int, cell h131 ⟨b1, 0, none⟩ = some (.int .i64 n71) ∧
  (.int .i64 n71 : Value) = .int .i64 n1) ∧
  (0 ≤ n1 ∧ n1 ≤ n1 ∧ n1 ≤ 281474976710656 ∧ n1 * ((8 : Nat) : Int) ≤ 281474976710656) ∧
  New h131 (.cells (repL (Int.toNat n1 * 1) [.int .i64 0]).toArray 3) fun b87 h132 =>
  Wr h132 ⟨b67, 0, none⟩ (.slice (some ⟨b81, 0, none⟩) (Int.toNat n2) (Int.toNat n2)) fun h133 =>
  suffixindex_suffixes_b1 s (some ⟨b1, 0, none⟩) (some ⟨b87, 0, none⟩) (Int.toNat n1) (Int.toNat n1) (some ⟨b67, 0, none⟩) (some ⟨b86, 0, none⟩) (Int.toNat n3) (Int.toNat n3) h133  K)) ∧
  ((0 ≤ n3 ∧ n3 ≤ n3 ∧ n3 ≤ 281474976710656 ∧ n3 * ((8 : Nat) : Int) ≤ 281474976710656) ∧
  New h101 (.cells (repL (Int.toNat n3 * 1) [.int .i64 0]).toArray 3) fun b88 h134 =>
  (∃ n72 : Int, cell h134 ⟨b1, 0, none⟩ = some (.int .i64 n72) ∧
  (.int .i64 n72 : Value) = .int .i64 n2) ∧
  (∃ n73 : Int, cell h134 ⟨b1, 0, none⟩ = some (.int .i64 n73) ∧
  (.int .i64 n73 : Value) = .int .i64 n1) ∧
  ((0 ≤ n1 ∧ n1 ≤ n1 ∧ n1 ≤ 281474976710656 ∧ n1 * ((8 : Nat) : Int) ≤ 281474976710656) ∧
  New h134 (.cells (repL (Int.toNat n1 * 1) [.int .i64 0]).toArray 3) fun b89 h135 =>
  (∃ n74 : Int, cell h135 ⟨b1, 0, none⟩ = some (.int .i64 n74) ∧
  (.int .i64 n74 : Value) = .int .i64 n2) ∧
  ((0 ≤ n2 ∧ n2 ≤ n2 ∧ n2 ≤ 281474976710656 ∧ n2 * ((8 : Nat) : Int) ≤ 281474976710656) ∧
  New h135 (.cells (repL (Int.toNat n2 * 1) [.int .i64 0]).toArray 3) fun b90 h136 =>
  Wr h136 ⟨b67, 0, none⟩ (.slice (some ⟨b90, 0, none⟩) (Int.toNat n2) (Int.toNat n2)) fun h137 =>
  suffixindex_suffixes_b1 s (some ⟨b1, 0, none⟩) (some ⟨b89, 0, none⟩) (Int.toNat n1) (Int.toNat n1) (some ⟨b67, 0, none⟩) (some ⟨b88, 0, none⟩) (Int.toNat n3) (Int.toNat n3) h137  K) ∧
  ((∃ n75 : Int, cell h135 ⟨b1, 0, none⟩ = some (.int .i64 n75) ∧
  (.int .i64 n75 : Value) = .int .i64 n2) ∧
  (0 ≤ n2 ∧ n2 ≤ n2 ∧ n2 ≤ 281474976710656 ∧ n2 * ((8 : Nat) : Int) ≤ 281474976710656) ∧
  New h135 (.cells (repL (Int.toNat n2 * 1) [.int .i64 0]).toArray 3) fun b91 h138 =>
  Wr h138 ⟨b67, 0, none⟩ (.slice (some ⟨b91, 0, none⟩) (Int.toNat n2) (Int.toNat n2)) fun h139 =>
  suffixindex_suffixes_b1 s (some ⟨b1, 0, none⟩) (some ⟨b89, 0, none⟩) (Int.toNat n1) (Int.toNat n1) (some ⟨b67, 0, none⟩) (some ⟨b88, 0, none⟩) (Int.toNat n3) (Int.toNat n3) h139  K)) ∧
  ((0 ≤ n2 ∧ n2 ≤ n2 ∧ n2 ≤ 281474976710656 ∧ n2 * ((8 : Nat) : Int) ≤ 281474976710656) ∧
  New h134 (.cells (repL (Int.toNat n2 * 1) [.int .i64 0]).toArray 3) fun b92 h140 =>
  (∃ n76 : Int, cell h140 ⟨b1, 0, none⟩ = some (.int .i64 n76) ∧
  (.int .i64 n76 : Value) = .int .i64 n1) ∧
  (0 ≤ n1 ∧ n1 ≤ n1 ∧ n1 ≤ 281474976710656 ∧ n1 * ((8 : Nat) : Int) ≤ 281474976710656) ∧
  New h140 (.cells (repL (Int.toNat n1 * 1) [.int .i64 0]).toArray 3) fun b93 h141 =>
  Wr h141 ⟨b67, 0, none⟩ (.slice (some ⟨b92, 0, none⟩) (Int.toNat n2) (Int.toNat n2)) fun h142 =>
  suffixindex_suffixes_b1 s (some ⟨b1, 0, none⟩) (some ⟨b93, 0, none⟩) (Int.toNat n1) (Int.toNat n1) (some ⟨b67, 0, none⟩) (some ⟨b88, 0, none⟩) (Int.toNat n3) (Int.toNat n3) h142  K)))) := by kernel_rfl
theorem suffixindex_suffixes_b1_eq (s : ByteArray) (nv : Option Addr) (order : Option Addr) (orderL : Nat) (orderC : Nat) (rank : Option Addr) (next : Option Addr) (nextL : Nat) (nextC : Nat) (h : Hp)  (K : Value → Hp → Prop) : suffixindex_suffixes_b1 s nv order orderL orderC rank next nextL nextC h  K = (
  NN nv fun a1 =>
  ∃ n77 : Int, cell h a1 = some (.int .i64 n77) ∧
  LoopVC ((0, ()) : Int × Unit) h (fun (nx0 : Int × Unit → Hp → Prop) (s1 : Int × Unit) h143 => suffixindex_suffixes_b2 s1.1 s nv order orderL orderC rank next nextL nextC n77 h143 nx0 K)) := by kernel_rfl
theorem suffixindex_suffixes_b2_eq (t21 : Int) (s : ByteArray) (nv : Option Addr) (order : Option Addr) (orderL : Nat) (orderC : Nat) (rank : Option Addr) (next : Option Addr) (nextL : Nat) (nextC : Nat) (t20 : Int) (h : Hp) (nx0 : Int × Unit → Hp → Prop) (K : Value → Hp → Prop) : suffixindex_suffixes_b2 t21 s nv order orderL orderC rank next nextL nextC t20 h nx0 K = (
  cond (decide (t21 < t20))
  (NN rank fun a2 =>
  ∃ (a3 : Option Addr) (L1 C1 : Nat), cell h a2 = some (.slice a3 L1 C1) ∧
  (0 ≤ t21 ∧ t21 < (s.size : Int)) ∧
  InR ((s.data.toList.getD (Int.toNat t21) 0).toNat : Int) ∧
  (0 ≤ t21 ∧ t21 < (orderL : Int)) ∧
  NN order fun a4 =>
  Wr h (a4.add (Int.toNat t21 * 1)) (.int .i64 t21) fun h144 =>
  (InR ((s.data.toList.getD (Int.toNat t21) 0).toNat : Int) ∧
  (.int .i64 ((s.data.toList.getD (Int.toNat t21) 0).toNat : Int) : Value) = .int .i64 ((s.data.toList.getD (Int.toNat t21) 0).toNat : Int)) ∧
  ((0 ≤ t21 ∧ t21 < (s.size : Int)) ∧
  (.int .u8 ((s.data.toList.getD (Int.toNat t21) 0).toNat : Int) : Value) = .int .u8 ((s.data.toList.getD (Int.toNat t21) 0).toNat : Int)) ∧
  (NN rank fun a5 =>
  ∃ (a6 : Option Addr) (L2 C2 : Nat), cell h144 a5 = some (.slice a6 L2 C2) ∧
  (.slice a6 L2 C2 : Value) = .slice a3 L1 C1) ∧
  (0 ≤ t21 ∧ t21 < (L1 : Int)) ∧
  NN a3 fun a7 =>
  Wr h144 (a7.add (Int.toNat t21 * 1)) (.int .i64 ((s.data.toList.getD (Int.toNat t21) 0).toNat : Int)) fun h145 =>
  suffixindex_suffixes_b3 s nv order orderL orderC rank next nextL nextC t20 t21 h145 nx0 K)
  (suffixindex_suffixes_b4 nv order orderL orderC rank next nextL nextC h  K)) := by kernel_rfl
theorem suffixindex_suffixes_b3_eq (s : ByteArray) (nv : Option Addr) (order : Option Addr) (orderL : Nat) (orderC : Nat) (rank : Option Addr) (next : Option Addr) (nextL : Nat) (nextC : Nat) (t20 : Int) (t21 : Int) (h : Hp) (nx0 : Int × Unit → Hp → Prop) (K : Value → Hp → Prop) : suffixindex_suffixes_b3 s nv order orderL orderC rank next nextL nextC t20 t21 h nx0 K = (
  InR (t21 + 1) ∧
  nx0 (t21 + 1, ()) h) := by kernel_rfl
theorem suffixindex_suffixes_b4_eq (nv : Option Addr) (order : Option Addr) (orderL : Nat) (orderC : Nat) (rank : Option Addr) (next : Option Addr) (nextL : Nat) (nextC : Nat) (h : Hp)  (K : Value → Hp → Prop) : suffixindex_suffixes_b4 nv order orderL orderC rank next nextL nextC h  K = (
  New h (.cells #[.int .i64 0] 3) fun b94 h146 =>
  Wr h146 ⟨b94, 0, none⟩ (.int .i64 1) fun h147 =>
  LoopVC ((some ⟨b94, 0, none⟩, ()) : Option Addr × Unit) h147 (fun (nx0 : Option Addr × Unit → Hp → Prop) (s2 : Option Addr × Unit) h148 => suffixindex_suffixes_b5 s2.1 nv order orderL orderC rank next nextL nextC h148 nx0 K)) := by kernel_rfl
theorem suffixindex_suffixes_b5_eq (k : Option Addr) (nv : Option Addr) (order : Option Addr) (orderL : Nat) (orderC : Nat) (rank : Option Addr) (next : Option Addr) (nextL : Nat) (nextC : Nat) (h : Hp) (nx0 : Option Addr × Unit → Hp → Prop) (K : Value → Hp → Prop) : suffixindex_suffixes_b5 k nv order orderL orderC rank next nextL nextC h nx0 K = (
  NN nv fun a8 =>
  ∃ n78 : Int, cell h a8 = some (.int .i64 n78) ∧
  cond (decide ((1 : Int) < n78))
  (New h (.cells #[.nilFunc] 75) fun b95 h149 =>
  Wr h149 ⟨b95, 0, none⟩ (.func (.func 49) #[] #[.pointer k, .pointer nv, .pointer rank]) fun h150 =>
  HCalls Try.prog 53 #[.slice order orderL orderC, .func (.func 50) #[] #[.pointer rank, .pointer (some ⟨b95, 0, none⟩)]] h150 fun v1 h151 => v1 = .tuple #[] ∧
  (0 ≤ (0 : Int) ∧ (0 : Int) < (orderL : Int)) ∧
  NN order fun a9 =>
  ∃ n79 : Int, cell h151 (a9.add (Int.toNat (0 : Int) * 1)) = some (.int .i64 n79) ∧
  (0 ≤ n79 ∧ n79 < (nextL : Int)) ∧
  NN next fun a10 =>
  Wr h151 (a10.add (Int.toNat n79 * 1)) (.int .i64 0) fun h152 =>
  LoopVC ((1, ()) : Int × Unit) h152 (fun (nx1 : Int × Unit → Hp → Prop) (s3 : Int × Unit) h153 => suffixindex_suffixes_b6 s3.1 nv order orderL orderC rank next nextL nextC k (.func (.func 50) #[] #[.pointer rank, .pointer (some ⟨b95, 0, none⟩)]) h153 nx0 nx1 K))
  (suffixindex_suffixes_b7 order orderL orderC h  K)) := by kernel_rfl
theorem suffixindex_suffixes_b6_eq (i : Int) (nv : Option Addr) (order : Option Addr) (orderL : Nat) (orderC : Nat) (rank : Option Addr) (next : Option Addr) (nextL : Nat) (nextC : Nat) (k : Option Addr) (compare : Value) (h : Hp) (nx0 : Option Addr × Unit → Hp → Prop) (nx1 : Int × Unit → Hp → Prop) (K : Value → Hp → Prop) : suffixindex_suffixes_b6 i nv order orderL orderC rank next nextL nextC k compare h nx0 nx1 K = (
  NN nv fun a11 =>
  ∃ n80 : Int, cell h a11 = some (.int .i64 n80) ∧
  cond (decide (i < n80))
  ((0 ≤ i ∧ i < (orderL : Int)) ∧
  NN order fun a12 =>
  ∃ n81 : Int, cell h (a12.add (Int.toNat i * 1)) = some (.int .i64 n81) ∧
  InR (i - 1) ∧
  (0 ≤ i - 1 ∧ i - 1 < (orderL : Int)) ∧
  NN order fun a13 =>
  ∃ n82 : Int, cell h (a13.add (Int.toNat (i - 1) * 1)) = some (.int .i64 n82) ∧
  (0 ≤ n82 ∧ n82 < (nextL : Int)) ∧
  NN next fun a14 =>
  ∃ n83 : Int, cell h (a14.add (Int.toNat n82 * 1)) = some (.int .i64 n83) ∧
  (0 ≤ n81 ∧ n81 < (nextL : Int)) ∧
  NN next fun a15 =>
  Wr h (a15.add (Int.toNat n81 * 1)) (.int .i64 n83) fun h154 =>
  InR (i - 1) ∧
  (0 ≤ i - 1 ∧ i - 1 < (orderL : Int)) ∧
  NN order fun a16 =>
  ∃ n84 : Int, cell h154 (a16.add (Int.toNat (i - 1) * 1)) = some (.int .i64 n84) ∧
  (0 ≤ i ∧ i < (orderL : Int)) ∧
  NN order fun a17 =>
  ∃ n85 : Int, cell h154 (a17.add (Int.toNat i * 1)) = some (.int .i64 n85) ∧
  funV compare fun fg1 fa1 fc1 => callX Try.prog F fg1 (fa1 ++ (([.int .i64 n84, .int .i64 n85] : List Value) ++ fc1)).toArray h154 fun v2 h155 => ∃ r1 : Int, v2 = .int .i64 r1 ∧
  cond (decide (r1 < 0))
  ((0 ≤ i ∧ i < (orderL : Int)) ∧
  NN order fun a18 =>
  ∃ n86 : Int, cell h155 (a18.add (Int.toNat i * 1)) = some (.int .i64 n86) ∧
  (0 ≤ n86 ∧ n86 < (nextL : Int)) ∧
  NN next fun a19 =>
  ∃ n87 : Int, cell h155 (a19.add (Int.toNat n86 * 1)) = some (.int .i64 n87) ∧
  InR (n87 + 1) ∧
  (0 ≤ n86 ∧ n86 < (nextL : Int)) ∧
  NN next fun a20 =>
  Wr h155 (a20.add (Int.toNat n86 * 1)) (.int .i64 (n87 + 1)) fun h156 =>
  suffixindex_suffixes_b8 nv order orderL orderC rank next nextL nextC k compare i h156 nx0 nx1 K)
  (suffixindex_suffixes_b8 nv order orderL orderC rank next nextL nextC k compare i h155 nx0 nx1 K))
  (suffixindex_suffixes_b9 nv order orderL orderC rank next nextL nextC k h nx0 K)) := by kernel_rfl
theorem suffixindex_suffixes_b7_eq (order : Option Addr) (orderL : Nat) (orderC : Nat) (h : Hp)  (K : Value → Hp → Prop) : suffixindex_suffixes_b7 order orderL orderC h  K = (
  K (.slice order orderL orderC) h) := by kernel_rfl
theorem suffixindex_suffixes_b8_eq (nv : Option Addr) (order : Option Addr) (orderL : Nat) (orderC : Nat) (rank : Option Addr) (next : Option Addr) (nextL : Nat) (nextC : Nat) (k : Option Addr) (compare : Value) (i : Int) (h : Hp) (nx0 : Option Addr × Unit → Hp → Prop) (nx1 : Int × Unit → Hp → Prop) (K : Value → Hp → Prop) : suffixindex_suffixes_b8 nv order orderL orderC rank next nextL nextC k compare i h nx0 nx1 K = (
  InR (i + 1) ∧
  nx1 (i + 1, ()) h) := by kernel_rfl
theorem suffixindex_suffixes_b9_eq (nv : Option Addr) (order : Option Addr) (orderL : Nat) (orderC : Nat) (rank : Option Addr) (next : Option Addr) (nextL : Nat) (nextC : Nat) (k : Option Addr) (h : Hp) (nx0 : Option Addr × Unit → Hp → Prop) (K : Value → Hp → Prop) : suffixindex_suffixes_b9 nv order orderL orderC rank next nextL nextC k h nx0 K = (
  NN rank fun a21 =>
  ∃ (a22 : Option Addr) (L3 C3 : Nat), cell h a21 = some (.slice a22 L3 C3) ∧
  copyV Try.prog 24 (.slice a22 L3 C3) (.slice next nextL nextC) h fun v3 h157 =>
  NN rank fun a23 =>
  ∃ (a24 : Option Addr) (L4 C4 : Nat), cell h157 a23 = some (.slice a24 L4 C4) ∧
  NN nv fun a25 =>
  ∃ n88 : Int, cell h157 a25 = some (.int .i64 n88) ∧
  InR (n88 - 1) ∧
  (0 ≤ n88 - 1 ∧ n88 - 1 < (orderL : Int)) ∧
  NN order fun a26 =>
  ∃ n89 : Int, cell h157 (a26.add (Int.toNat (n88 - 1) * 1)) = some (.int .i64 n89) ∧
  (0 ≤ n89 ∧ n89 < (L4 : Int)) ∧
  NN a24 fun a27 =>
  ∃ n90 : Int, cell h157 (a27.add (Int.toNat n89 * 1)) = some (.int .i64 n90) ∧
  NN nv fun a28 =>
  ∃ n91 : Int, cell h157 a28 = some (.int .i64 n91) ∧
  InR (n91 - 1) ∧
  cond (decide (n90 = (n91 - 1)))
  (suffixindex_suffixes_b7 order orderL orderC h157  K)
  (NN k fun a29 =>
  ∃ n92 : Int, cell h157 a29 = some (.int .i64 n92) ∧
  NN nv fun a30 =>
  ∃ n93 : Int, cell h157 a30 = some (.int .i64 n93) ∧
  cond (decide (n93 ≤ n92))
  (suffixindex_suffixes_b7 order orderL orderC h157  K)
  (suffixindex_suffixes_b10 nv order orderL orderC rank next nextL nextC k h157 nx0 K))) := by kernel_rfl
theorem suffixindex_suffixes_b10_eq (nv : Option Addr) (order : Option Addr) (orderL : Nat) (orderC : Nat) (rank : Option Addr) (next : Option Addr) (nextL : Nat) (nextC : Nat) (k : Option Addr) (h : Hp) (nx0 : Option Addr × Unit → Hp → Prop) (K : Value → Hp → Prop) : suffixindex_suffixes_b10 nv order orderL orderC rank next nextL nextC k h nx0 K = (
  NN k fun a31 =>
  ∃ n94 : Int, cell h a31 = some (.int .i64 n94) ∧
  New h (.cells #[.int .i64 0] 3) fun b96 h158 =>
  Wr h158 ⟨b96, 0, none⟩ (.int .i64 n94) fun h159 =>
  ∃ n95 : Int, cell h159 ⟨b96, 0, none⟩ = some (.int .i64 n95) ∧
  InR (n95 * 2) ∧
  Wr h159 ⟨b96, 0, none⟩ (.int .i64 (n95 * 2)) fun h160 =>
  nx0 (some ⟨b96, 0, none⟩, ()) h160) := by kernel_rfl
theorem suffixindex_suffixes_call {s : ByteArray} {h : Hp} {K : Value → Hp → Prop} (hk : suffixindex_suffixes_b0 s h K) : HCalls Try.prog 34 #[.string s] h K :=
  calls_of_snd suffixindex_suffixes_an Try.func34 (c := bodyOf Try.f34) rfl Try.ntmps34 (Nat.le_of_ble_eq_true rfl) (snd_6 F_ok F_mixed) hk

/-! ### suffixindex_common -/
def suffixindex_common_an : Ann := .node none (.leaf) (.node none (.leaf) (.node (some [5]) (.node none (.leaf) (.loop [0, 1, 5] [(6, .int .i64)] (.node none (.leaf) (.node (some [0, 1, 5, 6]) (.node none (.leaf) (.loop [0, 1, 5, 6, 7, 8] [] (.node (some [0, 1, 5, 6, 7, 8]) (.leaf) (.leaf)))) (.leaf))))) (.leaf)))
def suffixindex_common_K0  (K : Value → Hp → Prop) : Exit → Env → Hp → Prop := retK Try.prog Try.f35.results.toList K
def suffixindex_common_K1  (K : Value → Hp → Prop) : Exit → Env → Hp → Prop := thenE (fun env h => sx_3 Try.prog F 63 (cp [1, 1, 1] (bodyOf Try.f35)) (ap [1, 1, 1] suffixindex_common_an) (rs [5] env) h (suffixindex_common_K0  K)) (suffixindex_common_K0  K)
def suffixindex_common_K2  (K : Value → Hp → Prop) : Exit → Env → Hp → Prop := blockE 0 (suffixindex_common_K1  K)
def suffixindex_common_K3 (nx0 : Int × Unit → Hp → Prop) (K : Value → Hp → Prop) : Exit → Env → Hp → Prop := thenE (fun env h => getV [(6, .int .i64)] env fun s => nx0 s h) (suffixindex_common_K2  K)
def suffixindex_common_K4 (nx0 : Int × Unit → Hp → Prop) (K : Value → Hp → Prop) : Exit → Env → Hp → Prop := thenE (fun env h => sx_2 Try.prog F 63 (cp [1, 1, 0, 1, 2, 2, 1, 1] (bodyOf Try.f35)) (ap [1, 1, 0, 1, 2, 1, 1] suffixindex_common_an) (rs [0, 1, 5, 6] env) h (suffixindex_common_K3 nx0 K)) (suffixindex_common_K3 nx0 K)
def suffixindex_common_K5 (nx0 : Int × Unit → Hp → Prop) (K : Value → Hp → Prop) : Exit → Env → Hp → Prop := blockE 1 (suffixindex_common_K4 nx0 K)
def suffixindex_common_K6 (nx0 : Int × Unit → Hp → Prop) (K : Value → Hp → Prop) : Exit → Env → Hp → Prop := blockE 2 (suffixindex_common_K5 nx0 K)
def suffixindex_common_K7 (nx0 : Int × Unit → Hp → Prop) (nx1 : Unit → Hp → Prop) (K : Value → Hp → Prop) : Exit → Env → Hp → Prop := thenE (fun env h => getV [] env fun s => nx1 s h) (suffixindex_common_K6 nx0 K)
def suffixindex_common_b0 (s : ByteArray) (order : Option Addr) (orderL : Nat) (orderC : Nat) (h : Hp)  (K : Value → Hp → Prop) : Prop :=
  sx_4 Try.prog F 63 (cp [] (bodyOf Try.f35)) (ap [] suffixindex_common_an) [(0, .string s), (1, .slice order orderL orderC)] h (suffixindex_common_K0  K)
def suffixindex_common_b1 (i : Int) (s : ByteArray) (order : Option Addr) (orderL : Nat) (orderC : Nat) (out : Option Addr) (outL : Nat) (outC : Nat) (h : Hp) (nx0 : Int × Unit → Hp → Prop) (K : Value → Hp → Prop) : Prop :=
  sx_3 Try.prog F 63 (cp [1, 1, 0, 1, 2, 2] (bodyOf Try.f35)) (ap [1, 1, 0, 1, 2] suffixindex_common_an) [(6, .int .i64 i), (0, .string s), (1, .slice order orderL orderC), (5, .slice out outL outC)] h (suffixindex_common_K3 nx0 K)
def suffixindex_common_b2 (s : ByteArray) (order : Option Addr) (orderL : Nat) (orderC : Nat) (out : Option Addr) (outL : Nat) (outC : Nat) (i : Int) (a : ByteArray) (b : ByteArray) (h : Hp) (nx0 : Int × Unit → Hp → Prop) (nx1 : Unit → Hp → Prop) (K : Value → Hp → Prop) : Prop :=
  sx_2 Try.prog F 63 (cp [1, 1, 0, 1, 2, 2, 1, 0, 2, 1, 2, 2] (bodyOf Try.f35)) (ap [1, 1, 0, 1, 2, 1, 0, 1, 2] suffixindex_common_an) [(0, .string s), (1, .slice order orderL orderC), (5, .slice out outL outC), (6, .int .i64 i), (7, .string a), (8, .string b)] h (suffixindex_common_K7 nx0 nx1 K)
def suffixindex_common_b3 (out : Option Addr) (outL : Nat) (outC : Nat) (h : Hp)  (K : Value → Hp → Prop) : Prop :=
  sx_3 Try.prog F 63 (cp [1, 1, 1] (bodyOf Try.f35)) (ap [1, 1, 1] suffixindex_common_an) [(5, .slice out outL outC)] h (suffixindex_common_K0  K)
def suffixindex_common_b4 (s : ByteArray) (order : Option Addr) (orderL : Nat) (orderC : Nat) (out : Option Addr) (outL : Nat) (outC : Nat) (i : Int) (a : ByteArray) (b : ByteArray) (h : Hp) (nx0 : Int × Unit → Hp → Prop) (nx1 : Unit → Hp → Prop) (K : Value → Hp → Prop) : Prop :=
  sx_1 Try.prog F 63 (cp [1, 1, 0, 1, 2, 2, 1, 0, 2, 1, 2, 2, 1] (bodyOf Try.f35)) (ap [1, 1, 0, 1, 2, 1, 0, 1, 2, 1] suffixindex_common_an) [(0, .string s), (1, .slice order orderL orderC), (5, .slice out outL outC), (6, .int .i64 i), (7, .string a), (8, .string b)] h (suffixindex_common_K7 nx0 nx1 K)
def suffixindex_common_b5 (s : ByteArray) (order : Option Addr) (orderL : Nat) (orderC : Nat) (out : Option Addr) (outL : Nat) (outC : Nat) (i : Int) (h : Hp) (nx0 : Int × Unit → Hp → Prop) (K : Value → Hp → Prop) : Prop :=
  sx_2 Try.prog F 63 (cp [1, 1, 0, 1, 2, 2, 1, 1] (bodyOf Try.f35)) (ap [1, 1, 0, 1, 2, 1, 1] suffixindex_common_an) [(0, .string s), (1, .slice order orderL orderC), (5, .slice out outL outC), (6, .int .i64 i)] h (suffixindex_common_K3 nx0 K)
theorem suffixindex_common_b0_eq (s : ByteArray) (order : Option Addr) (orderL : Nat) (orderC : Nat) (h : Hp)  (K : Value → Hp → Prop) : suffixindex_common_b0 s order orderL orderC h  K = (
  (0 ≤ (orderL : Int) ∧ (orderL : Int) ≤ (orderL : Int) ∧ (orderL : Int) ≤ 281474976710656 ∧ (orderL : Int) * ((8 : Nat) : Int) ≤ 281474976710656) ∧
  New h (.cells (repL (Int.toNat (orderL : Int) * 1) [.int .i64 0]).toArray 3) fun b1 h1 =>
  LoopVC ((1, ()) : Int × Unit) h1 (fun (nx0 : Int × Unit → Hp → Prop) (s1 : Int × Unit) h2 => suffixindex_common_b1 s1.1 s order orderL orderC (some ⟨b1, 0, none⟩) (Int.toNat (orderL : Int)) (Int.toNat (orderL : Int)) h2 nx0 K)) := by kernel_rfl
theorem suffixindex_common_b1_eq (i : Int) (s : ByteArray) (order : Option Addr) (orderL : Nat) (orderC : Nat) (out : Option Addr) (outL : Nat) (outC : Nat) (h : Hp) (nx0 : Int × Unit → Hp → Prop) (K : Value → Hp → Prop) : suffixindex_common_b1 i s order orderL orderC out outL outC h nx0 K = (
  cond (decide (i < (orderL : Int)))
  (InR (i - 1) ∧
  (0 ≤ i - 1 ∧ i - 1 < (orderL : Int)) ∧
  NN order fun a1 =>
  ∃ n1 : Int, cell h (a1.add (Int.toNat (i - 1) * 1)) = some (.int .i64 n1) ∧
  (0 ≤ n1 ∧ n1 ≤ (s.size : Int) ∧ (s.size : Int) ≤ (s.size : Int)) ∧
  (0 ≤ i ∧ i < (orderL : Int)) ∧
  NN order fun a2 =>
  ∃ n2 : Int, cell h (a2.add (Int.toNat i * 1)) = some (.int .i64 n2) ∧
  (0 ≤ n2 ∧ n2 ≤ (s.size : Int) ∧ (s.size : Int) ≤ (s.size : Int)) ∧
  LoopVC (() : Unit) h (fun (nx1 : Unit → Hp → Prop) (_ : Unit) h3 => suffixindex_common_b2 s order orderL orderC out outL outC i (s.extract (Int.toNat n1) (Int.toNat (s.size : Int))) (s.extract (Int.toNat n2) (Int.toNat (s.size : Int))) h3 nx0 nx1 K))
  (suffixindex_common_b3 out outL outC h  K)) := by kernel_rfl
theorem suffixindex_common_b2_eq (s : ByteArray) (order : Option Addr) (orderL : Nat) (orderC : Nat) (out : Option Addr) (outL : Nat) (outC : Nat) (i : Int) (a : ByteArray) (b : ByteArray) (h : Hp) (nx0 : Int × Unit → Hp → Prop) (nx1 : Unit → Hp → Prop) (K : Value → Hp → Prop) : suffixindex_common_b2 s order orderL orderC out outL outC i a b h nx0 nx1 K = (
  (0 ≤ i ∧ i < (outL : Int)) ∧
  NN out fun a3 =>
  ∃ n3 : Int, cell h (a3.add (Int.toNat i * 1)) = some (.int .i64 n3) ∧
  cond (decide (n3 < (if (b.size : Int) < (a.size : Int) then (b.size : Int) else (a.size : Int))))
  ((0 ≤ i ∧ i < (outL : Int)) ∧
  NN out fun a4 =>
  ∃ n4 : Int, cell h (a4.add (Int.toNat i * 1)) = some (.int .i64 n4) ∧
  (0 ≤ n4 ∧ n4 < (a.size : Int)) ∧
  (0 ≤ i ∧ i < (outL : Int)) ∧
  NN out fun a5 =>
  ∃ n5 : Int, cell h (a5.add (Int.toNat i * 1)) = some (.int .i64 n5) ∧
  (0 ≤ n5 ∧ n5 < (b.size : Int)) ∧
  cond (decide (((a.data.toList.getD (Int.toNat n4) 0).toNat : Int) = ((b.data.toList.getD (Int.toNat n5) 0).toNat : Int)))
  (suffixindex_common_b4 s order orderL orderC out outL outC i a b h nx0 nx1 K)
  (suffixindex_common_b5 s order orderL orderC out outL outC i h nx0 K))
  (suffixindex_common_b5 s order orderL orderC out outL outC i h nx0 K)) := by kernel_rfl
theorem suffixindex_common_b3_eq (out : Option Addr) (outL : Nat) (outC : Nat) (h : Hp)  (K : Value → Hp → Prop) : suffixindex_common_b3 out outL outC h  K = (
  K (.slice out outL outC) h) := by kernel_rfl
theorem suffixindex_common_b4_eq (s : ByteArray) (order : Option Addr) (orderL : Nat) (orderC : Nat) (out : Option Addr) (outL : Nat) (outC : Nat) (i : Int) (a : ByteArray) (b : ByteArray) (h : Hp) (nx0 : Int × Unit → Hp → Prop) (nx1 : Unit → Hp → Prop) (K : Value → Hp → Prop) : suffixindex_common_b4 s order orderL orderC out outL outC i a b h nx0 nx1 K = (
  (0 ≤ i ∧ i < (outL : Int)) ∧
  NN out fun a6 =>
  ∃ n6 : Int, cell h (a6.add (Int.toNat i * 1)) = some (.int .i64 n6) ∧
  InR (n6 + 1) ∧
  (0 ≤ i ∧ i < (outL : Int)) ∧
  NN out fun a7 =>
  Wr h (a7.add (Int.toNat i * 1)) (.int .i64 (n6 + 1)) fun h4 =>
  nx1 () h4) := by kernel_rfl
theorem suffixindex_common_b5_eq (s : ByteArray) (order : Option Addr) (orderL : Nat) (orderC : Nat) (out : Option Addr) (outL : Nat) (outC : Nat) (i : Int) (h : Hp) (nx0 : Int × Unit → Hp → Prop) (K : Value → Hp → Prop) : suffixindex_common_b5 s order orderL orderC out outL outC i h nx0 K = (
  InR (i + 1) ∧
  nx0 (i + 1, ()) h) := by kernel_rfl
theorem suffixindex_common_call {s : ByteArray} {order : Option Addr} {orderL : Nat} {orderC : Nat} {h : Hp} {K : Value → Hp → Prop} (hk : suffixindex_common_b0 s order orderL orderC h K) : HCalls Try.prog 35 #[.string s, .slice order orderL orderC] h K :=
  calls_of_snd suffixindex_common_an Try.func35 (c := bodyOf Try.f35) rfl Try.ntmps35 (Nat.le_of_ble_eq_true rfl) (snd_4 F_ok F_mixed) hk

/-! ### r30_Sorted -/
def r30_Sorted_an : Ann := .node none (.leaf) (.node none (.leaf) (.node (some [3]) (.node none (.leaf) (.loop [0] [(3, .slice), (4, .int .i64)] (.node none (.leaf) (.node (some [0, 3, 4]) (.node none (.leaf) (.node none (.leaf) (.loop [0, 3, 4] [(5, .int .i64)] (.node (some [0, 3, 4, 5]) (.leaf) (.node none (.plan (.qu 0 (.qu 1 (.qu 2 (.qu 3 (.qu 4 (.qu 5 (.qu 6 (.qu 7 (.qu 8 (.qu 9 (.qu 10 (.qu 11 (.qu 12 (.qu 13 (.qu 14 (.wo 15 (.qu 16 (.wo 17 .fin .no)) .no))))))))))))))))) (.leaf)))))) (.leaf))))) (.leaf)))
def r30_Sorted_K0  (K : Value → Hp → Prop) : Exit → Env → Hp → Prop := retK Try.prog Try.f36.results.toList K
def r30_Sorted_K1  (K : Value → Hp → Prop) : Exit → Env → Hp → Prop := thenE (fun env h => sx_3 Try.prog F 56 (cp [1, 1, 1] (bodyOf Try.f36)) (ap [1, 1, 1] r30_Sorted_an) (rs [3] env) h (r30_Sorted_K0  K)) (r30_Sorted_K0  K)
def r30_Sorted_K2  (K : Value → Hp → Prop) : Exit → Env → Hp → Prop := blockE 0 (r30_Sorted_K1  K)
def r30_Sorted_K3 (nx0 : (Option Addr × Nat × Nat) × Int × Unit → Hp → Prop) (K : Value → Hp → Prop) : Exit → Env → Hp → Prop := thenE (fun env h => getV [(3, .slice), (4, .int .i64)] env fun s => nx0 s h) (r30_Sorted_K2  K)
def r30_Sorted_K4 (nx0 : (Option Addr × Nat × Nat) × Int × Unit → Hp → Prop) (K : Value → Hp → Prop) : Exit → Env → Hp → Prop := thenE (fun env h => sx_2 Try.prog F 56 (cp [1, 1, 0, 1, 2, 2, 1, 1] (bodyOf Try.f36)) (ap [1, 1, 0, 1, 2, 1, 1] r30_Sorted_an) (rs [0, 3, 4] env) h (r30_Sorted_K3 nx0 K)) (r30_Sorted_K3 nx0 K)
def r30_Sorted_K5 (nx0 : (Option Addr × Nat × Nat) × Int × Unit → Hp → Prop) (K : Value → Hp → Prop) : Exit → Env → Hp → Prop := blockE 1 (r30_Sorted_K4 nx0 K)
def r30_Sorted_K6 (nx0 : (Option Addr × Nat × Nat) × Int × Unit → Hp → Prop) (K : Value → Hp → Prop) : Exit → Env → Hp → Prop := blockE 2 (r30_Sorted_K5 nx0 K)
def r30_Sorted_K7 (nx0 : (Option Addr × Nat × Nat) × Int × Unit → Hp → Prop) (nx1 : Int × Unit → Hp → Prop) (K : Value → Hp → Prop) : Exit → Env → Hp → Prop := thenE (fun env h => getV [(5, .int .i64)] env fun s => nx1 s h) (r30_Sorted_K6 nx0 K)
def r30_Sorted_b0 (s : ByteArray) (h : Hp)  (K : Value → Hp → Prop) : Prop :=
  sx_4 Try.prog F 56 (cp [] (bodyOf Try.f36)) (ap [] r30_Sorted_an) [(0, .string s)] h (r30_Sorted_K0  K)
def r30_Sorted_b1 (out : Option Addr) (outL : Nat) (outC : Nat) (i : Int) (s : ByteArray) (h : Hp) (nx0 : (Option Addr × Nat × Nat) × Int × Unit → Hp → Prop) (K : Value → Hp → Prop) : Prop :=
  sx_3 Try.prog F 56 (cp [1, 1, 0, 1, 2, 2] (bodyOf Try.f36)) (ap [1, 1, 0, 1, 2] r30_Sorted_an) [(3, .slice out outL outC), (4, .int .i64 i), (0, .string s)] h (r30_Sorted_K3 nx0 K)
def r30_Sorted_b2 (k : Int) (s : ByteArray) (out : Option Addr) (outL : Nat) (outC : Nat) (i : Int) (h : Hp) (nx0 : (Option Addr × Nat × Nat) × Int × Unit → Hp → Prop) (nx1 : Int × Unit → Hp → Prop) (K : Value → Hp → Prop) : Prop :=
  sx_2 Try.prog F 56 (cp [1, 1, 0, 1, 2, 2, 1, 0, 2, 1, 1, 2, 2] (bodyOf Try.f36)) (ap [1, 1, 0, 1, 2, 1, 0, 1, 1, 2] r30_Sorted_an) [(5, .int .i64 k), (0, .string s), (3, .slice out outL outC), (4, .int .i64 i)] h (r30_Sorted_K7 nx0 nx1 K)
def r30_Sorted_b3 (out : Option Addr) (outL : Nat) (outC : Nat) (h : Hp)  (K : Value → Hp → Prop) : Prop :=
  sx_3 Try.prog F 56 (cp [1, 1, 1] (bodyOf Try.f36)) (ap [1, 1, 1] r30_Sorted_an) [(3, .slice out outL outC)] h (r30_Sorted_K0  K)
def r30_Sorted_b4 (s : ByteArray) (out : Option Addr) (outL : Nat) (outC : Nat) (i : Int) (k : Int) (h : Hp) (nx0 : (Option Addr × Nat × Nat) × Int × Unit → Hp → Prop) (nx1 : Int × Unit → Hp → Prop) (K : Value → Hp → Prop) : Prop :=
  sx_1 Try.prog F 56 (cp [1, 1, 0, 1, 2, 2, 1, 0, 2, 1, 1, 2, 2, 1] (bodyOf Try.f36)) (ap [1, 1, 0, 1, 2, 1, 0, 1, 1, 2, 1] r30_Sorted_an) [(0, .string s), (3, .slice out outL outC), (4, .int .i64 i), (5, .int .i64 k)] h (r30_Sorted_K7 nx0 nx1 K)
def r30_Sorted_b5 (s : ByteArray) (out : Option Addr) (outL : Nat) (outC : Nat) (i : Int) (h : Hp) (nx0 : (Option Addr × Nat × Nat) × Int × Unit → Hp → Prop) (K : Value → Hp → Prop) : Prop :=
  sx_2 Try.prog F 56 (cp [1, 1, 0, 1, 2, 2, 1, 1] (bodyOf Try.f36)) (ap [1, 1, 0, 1, 2, 1, 1] r30_Sorted_an) [(0, .string s), (3, .slice out outL outC), (4, .int .i64 i)] h (r30_Sorted_K3 nx0 K)
theorem r30_Sorted_b0_eq (s : ByteArray) (h : Hp)  (K : Value → Hp → Prop) : r30_Sorted_b0 s h  K = (
  New h (.cells #[] 3) fun b1 h1 =>
  LoopVC (((some ⟨b1, 0, none⟩, 0, 0), 0, ()) : (Option Addr × Nat × Nat) × Int × Unit) h1 (fun (nx0 : (Option Addr × Nat × Nat) × Int × Unit → Hp → Prop) (s1 : (Option Addr × Nat × Nat) × Int × Unit) h2 => r30_Sorted_b1 s1.1.1 s1.1.2.1 s1.1.2.2 s1.2.1 s h2 nx0 K)) := by kernel_rfl
theorem r30_Sorted_b1_eq (out : Option Addr) (outL : Nat) (outC : Nat) (i : Int) (s : ByteArray) (h : Hp) (nx0 : (Option Addr × Nat × Nat) × Int × Unit → Hp → Prop) (K : Value → Hp → Prop) : r30_Sorted_b1 out outL outC i s h nx0 K = (
  cond (decide (i ≤ (s.size : Int)))
  (New h (.cells #[.int .i64 i] 3) fun b2 h3 =>
  appendV Try.prog 24 24 (.slice out outL outC) (.slice (some ⟨b2, 0, none⟩) 1 1) h3 (slK fun a1 l1 c1 h4 =>
  LoopVC (((outL : Int), ()) : Int × Unit) h4 (fun (nx1 : Int × Unit → Hp → Prop) (s2 : Int × Unit) h5 => r30_Sorted_b2 s2.1 s a1 l1 c1 i h5 nx0 nx1 K)))
  (r30_Sorted_b3 out outL outC h  K)) := by kernel_rfl
theorem r30_Sorted_b2_eq (k : Int) (s : ByteArray) (out : Option Addr) (outL : Nat) (outC : Nat) (i : Int) (h : Hp) (nx0 : (Option Addr × Nat × Nat) × Int × Unit → Hp → Prop) (nx1 : Int × Unit → Hp → Prop) (K : Value → Hp → Prop) : r30_Sorted_b2 k s out outL outC i h nx0 nx1 K = (
  cond (decide ((0 : Int) < k))
  ((0 ≤ k ∧ k < (outL : Int)) ∧
  NN out fun a2 =>
  ∃ n1 : Int, cell h (a2.add (Int.toNat k * 1)) = some (.int .i64 n1) ∧
  (0 ≤ n1 ∧ n1 ≤ (s.size : Int) ∧ (s.size : Int) ≤ (s.size : Int)) ∧
  InR (k - 1) ∧
  (0 ≤ k - 1 ∧ k - 1 < (outL : Int)) ∧
  NN out fun a3 =>
  ∃ n2 : Int, cell h (a3.add (Int.toNat (k - 1) * 1)) = some (.int .i64 n2) ∧
  (0 ≤ n2 ∧ n2 ≤ (s.size : Int) ∧ (s.size : Int) ≤ (s.size : Int)) ∧
  cond (strLt (s.extract (Int.toNat n1) (Int.toNat (s.size : Int))) (s.extract (Int.toNat n2) (Int.toNat (s.size : Int))))
  (r30_Sorted_b4 s out outL outC i k h nx0 nx1 K)
  (r30_Sorted_b5 s out outL outC i h nx0 K))
  (r30_Sorted_b5 s out outL outC i h nx0 K)) := by kernel_rfl
theorem r30_Sorted_b3_eq (out : Option Addr) (outL : Nat) (outC : Nat) (h : Hp)  (K : Value → Hp → Prop) : r30_Sorted_b3 out outL outC h  K = (
  K (.slice out outL outC) h) := by kernel_rfl
theorem r30_Sorted_b4_eq (s : ByteArray) (out : Option Addr) (outL : Nat) (outC : Nat) (i : Int) (k : Int) (h : Hp) (nx0 : (Option Addr × Nat × Nat) × Int × Unit → Hp → Prop) (nx1 : Int × Unit → Hp → Prop) (K : Value → Hp → Prop) : r30_Sorted_b4 s out outL outC i k h nx0 nx1 K = (
  InR (k - 1) ∧
  (0 ≤ k ∧ k < (outL : Int)) ∧
  NN out fun a4 =>
  ∃ n3 : Int, cell h (a4.add (Int.toNat k * 1)) = some (.int .i64 n3) ∧
  InR (k - 1) ∧
  (0 ≤ k - 1 ∧ k - 1 < (outL : Int)) ∧
  NN out fun a5 =>
  ∃ n4 : Int, cell h (a5.add (Int.toNat (k - 1) * 1)) = some (.int .i64 n4) ∧
  (0 ≤ k - 1 ∧ k - 1 < (outL : Int)) ∧
  NN out fun a6 =>
  Wr h (a6.add (Int.toNat (k - 1) * 1)) (.int .i64 n3) fun h6 =>
  (0 ≤ k ∧ k < (outL : Int)) ∧
  NN out fun a7 =>
  Wr h6 (a7.add (Int.toNat k * 1)) (.int .i64 n4) fun h7 =>
  InR (k - 1) ∧
  nx1 (k - 1, ()) h7) := by kernel_rfl
theorem r30_Sorted_b5_eq (s : ByteArray) (out : Option Addr) (outL : Nat) (outC : Nat) (i : Int) (h : Hp) (nx0 : (Option Addr × Nat × Nat) × Int × Unit → Hp → Prop) (K : Value → Hp → Prop) : r30_Sorted_b5 s out outL outC i h nx0 K = (
  InR (i + 1) ∧
  nx0 ((out, outL, outC), i + 1, ()) h) := by kernel_rfl
theorem r30_Sorted_call {s : ByteArray} {h : Hp} {K : Value → Hp → Prop} (hk : r30_Sorted_b0 s h K) : HCalls Try.prog 36 #[.string s] h K :=
  calls_of_snd r30_Sorted_an Try.func36 (c := bodyOf Try.f36) rfl Try.ntmps36 (Nat.le_of_ble_eq_true rfl) (snd_4 F_ok F_mixed) hk

/-! ### slices_Max_Sint_int -/
def slices_Max_Sint_int_an : Ann := .node none (.leaf) (.node (some [0]) (.leaf) (.node none (.leaf) (.node (some [3]) (.node none (.leaf) (.loop [0] [(3, .int .i64), (4, .int .i64)] (.node none (.leaf) (.node (some [0, 3, 4]) (.leaf) (.leaf))))) (.leaf))))
def slices_Max_Sint_int_K0  (K : Value → Hp → Prop) : Exit → Env → Hp → Prop := retK Try.prog Try.f37.results.toList K
def slices_Max_Sint_int_K1  (K : Value → Hp → Prop) : Exit → Env → Hp → Prop := thenE (fun env h => sx_2 Try.prog F 25 (cp [1, 1, 1, 1] (bodyOf Try.f37)) (ap [1, 1, 1, 1] slices_Max_Sint_int_an) (rs [3] env) h (slices_Max_Sint_int_K0  K)) (slices_Max_Sint_int_K0  K)
def slices_Max_Sint_int_K2  (K : Value → Hp → Prop) : Exit → Env → Hp → Prop := blockE 0 (slices_Max_Sint_int_K1  K)
def slices_Max_Sint_int_K3 (nx0 : Int × Int × Unit → Hp → Prop) (K : Value → Hp → Prop) : Exit → Env → Hp → Prop := thenE (fun env h => getV [(3, .int .i64), (4, .int .i64)] env fun s => nx0 s h) (slices_Max_Sint_int_K2  K)
def slices_Max_Sint_int_b0 (x : Option Addr) (xL : Nat) (xC : Nat) (h : Hp)  (K : Value → Hp → Prop) : Prop :=
  sx_4 Try.prog F 25 (cp [] (bodyOf Try.f37)) (ap [] slices_Max_Sint_int_an) [(0, .slice x xL xC)] h (slices_Max_Sint_int_K0  K)
def slices_Max_Sint_int_b1 (x : Option Addr) (xL : Nat) (xC : Nat) (h : Hp)  (K : Value → Hp → Prop) : Prop :=
  sx_3 Try.prog F 25 (cp [1, 1] (bodyOf Try.f37)) (ap [1, 1] slices_Max_Sint_int_an) [(0, .slice x xL xC)] h (slices_Max_Sint_int_K0  K)
def slices_Max_Sint_int_b2 (m : Int) (i : Int) (x : Option Addr) (xL : Nat) (xC : Nat) (h : Hp) (nx0 : Int × Int × Unit → Hp → Prop) (K : Value → Hp → Prop) : Prop :=
  sx_2 Try.prog F 25 (cp [1, 1, 1, 0, 1, 2, 2] (bodyOf Try.f37)) (ap [1, 1, 1, 0, 1, 2] slices_Max_Sint_int_an) [(3, .int .i64 m), (4, .int .i64 i), (0, .slice x xL xC)] h (slices_Max_Sint_int_K3 nx0 K)
def slices_Max_Sint_int_b3 (x : Option Addr) (xL : Nat) (xC : Nat) (m : Int) (i : Int) (h : Hp) (nx0 : Int × Int × Unit → Hp → Prop) (K : Value → Hp → Prop) : Prop :=
  sx_1 Try.prog F 25 (cp [1, 1, 1, 0, 1, 2, 2, 1, 1] (bodyOf Try.f37)) (ap [1, 1, 1, 0, 1, 2, 1, 1] slices_Max_Sint_int_an) [(0, .slice x xL xC), (3, .int .i64 m), (4, .int .i64 i)] h (slices_Max_Sint_int_K3 nx0 K)
def slices_Max_Sint_int_b4 (m : Int) (h : Hp)  (K : Value → Hp → Prop) : Prop :=
  sx_2 Try.prog F 25 (cp [1, 1, 1, 1] (bodyOf Try.f37)) (ap [1, 1, 1, 1] slices_Max_Sint_int_an) [(3, .int .i64 m)] h (slices_Max_Sint_int_K0  K)
theorem slices_Max_Sint_int_b0_eq (x : Option Addr) (xL : Nat) (xC : Nat) (h : Hp)  (K : Value → Hp → Prop) : slices_Max_Sint_int_b0 x xL xC h  K = (
  cond (decide ((xL : Int) < 1))
  (hw Try.prog (Instr.makeInterface 9 (.string (⟨#[115, 108, 105, 99, 101, 115, 46, 77, 97, 120, 58, 32, 101, 109, 112, 116, 121, 32, 108, 105, 115, 116]⟩ : ByteArray))) h fun v1 h1 =>
  False)
  (slices_Max_Sint_int_b1 x xL xC h  K)) := by kernel_rfl
theorem slices_Max_Sint_int_b1_eq (x : Option Addr) (xL : Nat) (xC : Nat) (h : Hp)  (K : Value → Hp → Prop) : slices_Max_Sint_int_b1 x xL xC h  K = (
  (0 ≤ (0 : Int) ∧ (0 : Int) < (xL : Int)) ∧
  NN x fun a1 =>
  ∃ n1 : Int, cell h (a1.add (Int.toNat (0 : Int) * 1)) = some (.int .i64 n1) ∧
  LoopVC ((n1, 1, ()) : Int × Int × Unit) h (fun (nx0 : Int × Int × Unit → Hp → Prop) (s1 : Int × Int × Unit) h2 => slices_Max_Sint_int_b2 s1.1 s1.2.1 x xL xC h2 nx0 K)) := by kernel_rfl
theorem slices_Max_Sint_int_b2_eq (m : Int) (i : Int) (x : Option Addr) (xL : Nat) (xC : Nat) (h : Hp) (nx0 : Int × Int × Unit → Hp → Prop) (K : Value → Hp → Prop) : slices_Max_Sint_int_b2 m i x xL xC h nx0 K = (
  cond (decide (i < (xL : Int)))
  ((0 ≤ i ∧ i < (xL : Int)) ∧
  NN x fun a2 =>
  ∃ n2 : Int, cell h (a2.add (Int.toNat i * 1)) = some (.int .i64 n2) ∧
  slices_Max_Sint_int_b3 x xL xC (if m < n2 then n2 else m) i h nx0 K)
  (slices_Max_Sint_int_b4 m h  K)) := by kernel_rfl
theorem slices_Max_Sint_int_b3_eq (x : Option Addr) (xL : Nat) (xC : Nat) (m : Int) (i : Int) (h : Hp) (nx0 : Int × Int × Unit → Hp → Prop) (K : Value → Hp → Prop) : slices_Max_Sint_int_b3 x xL xC m i h nx0 K = (
  InR (i + 1) ∧
  nx0 (m, i + 1, ()) h) := by kernel_rfl
theorem slices_Max_Sint_int_b4_eq (m : Int) (h : Hp)  (K : Value → Hp → Prop) : slices_Max_Sint_int_b4 m h  K = (
  K (.int .i64 m) h) := by kernel_rfl
theorem slices_Max_Sint_int_call {x : Option Addr} {xL : Nat} {xC : Nat} {h : Hp} {K : Value → Hp → Prop} (hk : slices_Max_Sint_int_b0 x xL xC h K) : HCalls Try.prog 37 #[.slice x xL xC] h K :=
  calls_of_snd slices_Max_Sint_int_an Try.func37 (c := bodyOf Try.f37) rfl Try.ntmps37 (Nat.le_of_ble_eq_true rfl) (snd_4 F_ok F_mixed) hk

/-! ### slices_Index_Sint_int -/
def slices_Index_Sint_int_an : Ann := .node none (.leaf) (.node (some []) (.node none (.leaf) (.loop [0, 1, 7] [(8, .int .i64)] (.node none (.leaf) (.node none (.leaf) (.node (some [0, 1, 7, 8]) (.leaf) (.leaf)))))) (.leaf))
def slices_Index_Sint_int_K0  (K : Value → Hp → Prop) : Exit → Env → Hp → Prop := retK Try.prog Try.f38.results.toList K
def slices_Index_Sint_int_K1  (K : Value → Hp → Prop) : Exit → Env → Hp → Prop := thenE (fun env h => sx_2 Try.prog F 19 (cp [1, 1] (bodyOf Try.f38)) (ap [1, 1] slices_Index_Sint_int_an) (rs [] env) h (slices_Index_Sint_int_K0  K)) (slices_Index_Sint_int_K0  K)
def slices_Index_Sint_int_K2  (K : Value → Hp → Prop) : Exit → Env → Hp → Prop := blockE 0 (slices_Index_Sint_int_K1  K)
def slices_Index_Sint_int_K3 (nx0 : Int × Unit → Hp → Prop) (K : Value → Hp → Prop) : Exit → Env → Hp → Prop := thenE (fun env h => getV [(8, .int .i64)] env fun s => nx0 s h) (slices_Index_Sint_int_K2  K)
def slices_Index_Sint_int_b0 (s : Option Addr) (sL : Nat) (sC : Nat) (v : Int) (h : Hp)  (K : Value → Hp → Prop) : Prop :=
  sx_3 Try.prog F 19 (cp [] (bodyOf Try.f38)) (ap [] slices_Index_Sint_int_an) [(0, .slice s sL sC), (1, .int .i64 v)] h (slices_Index_Sint_int_K0  K)
def slices_Index_Sint_int_b1 (t8 : Int) (s : Option Addr) (sL : Nat) (sC : Nat) (v : Int) (t7 : Int) (h : Hp) (nx0 : Int × Unit → Hp → Prop) (K : Value → Hp → Prop) : Prop :=
  sx_2 Try.prog F 19 (cp [1, 0, 1, 2, 2] (bodyOf Try.f38)) (ap [1, 0, 1, 2] slices_Index_Sint_int_an) [(8, .int .i64 t8), (0, .slice s sL sC), (1, .int .i64 v), (7, .int .i64 t7)] h (slices_Index_Sint_int_K3 nx0 K)
def slices_Index_Sint_int_b2 (s : Option Addr) (sL : Nat) (sC : Nat) (v : Int) (t7 : Int) (t8 : Int) (h : Hp) (nx0 : Int × Unit → Hp → Prop) (K : Value → Hp → Prop) : Prop :=
  sx_1 Try.prog F 19 (cp [1, 0, 1, 2, 2, 1, 1, 1] (bodyOf Try.f38)) (ap [1, 0, 1, 2, 1, 1, 1] slices_Index_Sint_int_an) [(0, .slice s sL sC), (1, .int .i64 v), (7, .int .i64 t7), (8, .int .i64 t8)] h (slices_Index_Sint_int_K3 nx0 K)
def slices_Index_Sint_int_b3  (h : Hp)  (K : Value → Hp → Prop) : Prop :=
  sx_2 Try.prog F 19 (cp [1, 1] (bodyOf Try.f38)) (ap [1, 1] slices_Index_Sint_int_an) [] h (slices_Index_Sint_int_K0  K)
theorem slices_Index_Sint_int_b0_eq (s : Option Addr) (sL : Nat) (sC : Nat) (v : Int) (h : Hp)  (K : Value → Hp → Prop) : slices_Index_Sint_int_b0 s sL sC v h  K = (
  LoopVC ((0, ()) : Int × Unit) h (fun (nx0 : Int × Unit → Hp → Prop) (s1 : Int × Unit) h1 => slices_Index_Sint_int_b1 s1.1 s sL sC v (sL : Int) h1 nx0 K)) := by kernel_rfl
theorem slices_Index_Sint_int_b1_eq (t8 : Int) (s : Option Addr) (sL : Nat) (sC : Nat) (v : Int) (t7 : Int) (h : Hp) (nx0 : Int × Unit → Hp → Prop) (K : Value → Hp → Prop) : slices_Index_Sint_int_b1 t8 s sL sC v t7 h nx0 K = (
  cond (decide (t8 < t7))
  ((0 ≤ t8 ∧ t8 < (sL : Int)) ∧
  NN s fun a1 =>
  ∃ n1 : Int, cell h (a1.add (Int.toNat t8 * 1)) = some (.int .i64 n1) ∧
  cond (decide (v = n1))
  (K (.int .i64 t8) h)
  (slices_Index_Sint_int_b2 s sL sC v t7 t8 h nx0 K))
  (slices_Index_Sint_int_b3  h  K)) := by kernel_rfl
theorem slices_Index_Sint_int_b2_eq (s : Option Addr) (sL : Nat) (sC : Nat) (v : Int) (t7 : Int) (t8 : Int) (h : Hp) (nx0 : Int × Unit → Hp → Prop) (K : Value → Hp → Prop) : slices_Index_Sint_int_b2 s sL sC v t7 t8 h nx0 K = (
  InR (t8 + 1) ∧
  nx0 (t8 + 1, ()) h) := by kernel_rfl
theorem slices_Index_Sint_int_call {s : Option Addr} {sL : Nat} {sC : Nat} {v : Int} {h : Hp} {K : Value → Hp → Prop} (hk : slices_Index_Sint_int_b0 s sL sC v h K) : HCalls Try.prog 38 #[.slice s sL sC, .int .i64 v] h K :=
  calls_of_snd slices_Index_Sint_int_an Try.func38 (c := bodyOf Try.f38) rfl Try.ntmps38 (Nat.le_of_ble_eq_true rfl) (snd_3 F_ok F_mixed) hk

/-! ### suffixindex_transform -/
def suffixindex_transform_an : Ann := .node none (.leaf) (.node none (.leaf) (.node none (.leaf) (.node (some [6, 7]) (.node none (.leaf) (.loop [0, 14, 15] [(6, .int .i64), (7, .slice), (16, .int .i64)] (.node none (.leaf) (.node none (.leaf) (.node (some [0, 6, 7, 14, 15, 16]) (.leaf) (.leaf)))))) (.leaf))))
def suffixindex_transform_K0  (K : Value → Hp → Prop) : Exit → Env → Hp → Prop := retK Try.prog Try.f39.results.toList K
def suffixindex_transform_K1  (K : Value → Hp → Prop) : Exit → Env → Hp → Prop := thenE (fun env h => sx_2 Try.prog F 38 (cp [1, 1, 1, 1] (bodyOf Try.f39)) (ap [1, 1, 1, 1] suffixindex_transform_an) (rs [6, 7] env) h (suffixindex_transform_K0  K)) (suffixindex_transform_K0  K)
def suffixindex_transform_K2  (K : Value → Hp → Prop) : Exit → Env → Hp → Prop := blockE 0 (suffixindex_transform_K1  K)
def suffixindex_transform_K3 (nx0 : Int × (Option Addr × Nat × Nat) × Int × Unit → Hp → Prop) (K : Value → Hp → Prop) : Exit → Env → Hp → Prop := thenE (fun env h => getV [(6, .int .i64), (7, .slice), (16, .int .i64)] env fun s => nx0 s h) (suffixindex_transform_K2  K)
def suffixindex_transform_b0 (s : ByteArray) (order : Option Addr) (orderL : Nat) (orderC : Nat) (h : Hp)  (K : Value → Hp → Prop) : Prop :=
  sx_3 Try.prog F 38 (cp [] (bodyOf Try.f39)) (ap [] suffixindex_transform_an) [(0, .string s), (1, .slice order orderL orderC)] h (suffixindex_transform_K0  K)
def suffixindex_transform_b1 (place : Int) (out : Option Addr) (outL : Nat) (outC : Nat) (t16 : Int) (s : ByteArray) (t14 : Option Addr) (t14L : Nat) (t14C : Nat) (t15 : Int) (h : Hp) (nx0 : Int × (Option Addr × Nat × Nat) × Int × Unit → Hp → Prop) (K : Value → Hp → Prop) : Prop :=
  sx_2 Try.prog F 38 (cp [1, 1, 1, 0, 1, 2, 2] (bodyOf Try.f39)) (ap [1, 1, 1, 0, 1, 2] suffixindex_transform_an) [(6, .int .i64 place), (7, .slice out outL outC), (16, .int .i64 t16), (0, .string s), (14, .slice t14 t14L t14C), (15, .int .i64 t15)] h (suffixindex_transform_K3 nx0 K)
def suffixindex_transform_b2 (s : ByteArray) (place : Int) (out : Option Addr) (outL : Nat) (outC : Nat) (t14 : Option Addr) (t14L : Nat) (t14C : Nat) (t15 : Int) (t16 : Int) (h : Hp) (nx0 : Int × (Option Addr × Nat × Nat) × Int × Unit → Hp → Prop) (K : Value → Hp → Prop) : Prop :=
  sx_1 Try.prog F 38 (cp [1, 1, 1, 0, 1, 2, 2, 1, 1, 1] (bodyOf Try.f39)) (ap [1, 1, 1, 0, 1, 2, 1, 1, 1] suffixindex_transform_an) [(0, .string s), (6, .int .i64 place), (7, .slice out outL outC), (14, .slice t14 t14L t14C), (15, .int .i64 t15), (16, .int .i64 t16)] h (suffixindex_transform_K3 nx0 K)
def suffixindex_transform_b3 (place : Int) (out : Option Addr) (outL : Nat) (outC : Nat) (h : Hp)  (K : Value → Hp → Prop) : Prop :=
  sx_2 Try.prog F 38 (cp [1, 1, 1, 1] (bodyOf Try.f39)) (ap [1, 1, 1, 1] suffixindex_transform_an) [(6, .int .i64 place), (7, .slice out outL outC)] h (suffixindex_transform_K0  K)
theorem suffixindex_transform_b0_eq (s : ByteArray) (order : Option Addr) (orderL : Nat) (orderC : Nat) (h : Hp)  (K : Value → Hp → Prop) : suffixindex_transform_b0 s order orderL orderC h  K = (
  New h (.cells #[.int .i64 (s.size : Int)] 3) fun b1 h1 =>
  appendV Try.prog 24 24 (.slice (some ⟨b1, 0, none⟩) 1 1) (.slice order orderL orderC) h1 (slK fun a1 l1 c1 h2 =>
  LoopVC ((0, (none, 0, 0), 0, ()) : Int × (Option Addr × Nat × Nat) × Int × Unit) h2 (fun (nx0 : Int × (Option Addr × Nat × Nat) × Int × Unit → Hp → Prop) (s1 : Int × (Option Addr × Nat × Nat) × Int × Unit) h3 => suffixindex_transform_b1 s1.1 s1.2.1.1 s1.2.1.2.1 s1.2.1.2.2 s1.2.2.1 s a1 l1 c1 (l1 : Int) h3 nx0 K))) := by kernel_rfl
theorem suffixindex_transform_b1_eq (place : Int) (out : Option Addr) (outL : Nat) (outC : Nat) (t16 : Int) (s : ByteArray) (t14 : Option Addr) (t14L : Nat) (t14C : Nat) (t15 : Int) (h : Hp) (nx0 : Int × (Option Addr × Nat × Nat) × Int × Unit → Hp → Prop) (K : Value → Hp → Prop) : suffixindex_transform_b1 place out outL outC t16 s t14 t14L t14C t15 h nx0 K = (
  cond (decide (t16 < t15))
  ((0 ≤ t16 ∧ t16 < (t14L : Int)) ∧
  NN t14 fun a2 =>
  ∃ n1 : Int, cell h (a2.add (Int.toNat t16 * 1)) = some (.int .i64 n1) ∧
  cond (decide (n1 = 0))
  (New h (.cells #[.int .i64 (-1)] 3) fun b2 h4 =>
  appendV Try.prog 24 24 (.slice out outL outC) (.slice (some ⟨b2, 0, none⟩) 1 1) h4 (slK fun a3 l2 c2 h5 =>
  suffixindex_transform_b2 s t16 a3 l2 c2 t14 t14L t14C t15 t16 h5 nx0 K))
  (InR (n1 - 1) ∧
  (0 ≤ n1 - 1 ∧ n1 - 1 < (s.size : Int)) ∧
  InR ((s.data.toList.getD (Int.toNat (n1 - 1)) 0).toNat : Int) ∧
  New h (.cells #[.int .i64 ((s.data.toList.getD (Int.toNat (n1 - 1)) 0).toNat : Int)] 3) fun b3 h6 =>
  appendV Try.prog 24 24 (.slice out outL outC) (.slice (some ⟨b3, 0, none⟩) 1 1) h6 (slK fun a4 l3 c3 h7 =>
  suffixindex_transform_b2 s place a4 l3 c3 t14 t14L t14C t15 t16 h7 nx0 K)))
  (suffixindex_transform_b3 place out outL outC h  K)) := by kernel_rfl
theorem suffixindex_transform_b2_eq (s : ByteArray) (place : Int) (out : Option Addr) (outL : Nat) (outC : Nat) (t14 : Option Addr) (t14L : Nat) (t14C : Nat) (t15 : Int) (t16 : Int) (h : Hp) (nx0 : Int × (Option Addr × Nat × Nat) × Int × Unit → Hp → Prop) (K : Value → Hp → Prop) : suffixindex_transform_b2 s place out outL outC t14 t14L t14C t15 t16 h nx0 K = (
  InR (t16 + 1) ∧
  nx0 (place, (out, outL, outC), t16 + 1, ()) h) := by kernel_rfl
theorem suffixindex_transform_b3_eq (place : Int) (out : Option Addr) (outL : Nat) (outC : Nat) (h : Hp)  (K : Value → Hp → Prop) : suffixindex_transform_b3 place out outL outC h  K = (
  K (.tuple #[.slice out outL outC, .int .i64 place]) h) := by kernel_rfl
theorem suffixindex_transform_call {s : ByteArray} {order : Option Addr} {orderL : Nat} {orderC : Nat} {h : Hp} {K : Value → Hp → Prop} (hk : suffixindex_transform_b0 s order orderL orderC h K) : HCalls Try.prog 39 #[.string s, .slice order orderL orderC] h K :=
  calls_of_snd suffixindex_transform_an Try.func39 (c := bodyOf Try.f39) rfl Try.ntmps39 (Nat.le_of_ble_eq_true rfl) (snd_3 F_ok F_mixed) hk

end Go.Proofs.Ytipmcfpjdebpdaa
