/- Plain statements of what each block of code of this seat asks; printed by a program, checked by Lean. -/
import Derived.Test.YtbfejfejahoblaaSxV0
set_option maxRecDepth 10000
namespace Go.Proofs.Ytbfejfejahoblaa
open Go Go.Sx

/-! ### r31_Made -/
def r31_Made_an : Ann := .node none (.leaf) (.node (some [0]) (.node none (.leaf) (.loop [0] [(4, .int .i64)] (.node none (.leaf) (.node (some [0, 4]) (.leaf) (.leaf))))) (.node none (.leaf) (.node (some [0, 5]) (.node none (.leaf) (.loop [0] [(5, .slice), (6, .int .i64)] (.node none (.leaf) (.node (some [0, 5, 6]) (.leaf) (.leaf))))) (.leaf))))
def r31_Made_K0  (K : Value → Hp → Prop) : Exit → Env → Hp → Prop := retK Try.prog Try.f23.results.toList K
def r31_Made_K1  (K : Value → Hp → Prop) : Exit → Env → Hp → Prop := thenE (fun env h => sx_3 Try.prog F 48 (cp [1, 1] (bodyOf Try.f23)) (ap [1, 1] r31_Made_an) (rs [0] env) h (r31_Made_K0  K)) (r31_Made_K0  K)
def r31_Made_K2  (K : Value → Hp → Prop) : Exit → Env → Hp → Prop := blockE 0 (r31_Made_K1  K)
def r31_Made_K3 (nx0 : Int × Unit → Hp → Prop) (K : Value → Hp → Prop) : Exit → Env → Hp → Prop := thenE (fun env h => getV [(4, .int .i64)] env fun s => nx0 s h) (r31_Made_K2  K)
def r31_Made_K4  (K : Value → Hp → Prop) : Exit → Env → Hp → Prop := thenE (fun env h => sx_2 Try.prog F 48 (cp [1, 1, 1, 1] (bodyOf Try.f23)) (ap [1, 1, 1, 1] r31_Made_an) (rs [0, 5] env) h (r31_Made_K0  K)) (r31_Made_K0  K)
def r31_Made_K5  (K : Value → Hp → Prop) : Exit → Env → Hp → Prop := blockE 2 (r31_Made_K4  K)
def r31_Made_K6 (nx0 : (Option Addr × Nat × Nat) × Int × Unit → Hp → Prop) (K : Value → Hp → Prop) : Exit → Env → Hp → Prop := thenE (fun env h => getV [(5, .slice), (6, .int .i64)] env fun s => nx0 s h) (r31_Made_K5  K)
def r31_Made_b0 (l : Option Addr) (lL : Nat) (lC : Nat) (h : Hp)  (K : Value → Hp → Prop) : Prop :=
  sx_4 Try.prog F 48 (cp [] (bodyOf Try.f23)) (ap [] r31_Made_an) [(0, .slice l lL lC)] h (r31_Made_K0  K)
def r31_Made_b1 (i : Int) (l : Option Addr) (lL : Nat) (lC : Nat) (h : Hp) (nx0 : Int × Unit → Hp → Prop) (K : Value → Hp → Prop) : Prop :=
  sx_3 Try.prog F 48 (cp [1, 0, 1, 2, 2] (bodyOf Try.f23)) (ap [1, 0, 1, 2] r31_Made_an) [(4, .int .i64 i), (0, .slice l lL lC)] h (r31_Made_K3 nx0 K)
def r31_Made_b2 (l : Option Addr) (lL : Nat) (lC : Nat) (i : Int) (h : Hp) (nx0 : Int × Unit → Hp → Prop) (K : Value → Hp → Prop) : Prop :=
  sx_2 Try.prog F 48 (cp [1, 0, 1, 2, 2, 1, 1] (bodyOf Try.f23)) (ap [1, 0, 1, 2, 1, 1] r31_Made_an) [(0, .slice l lL lC), (4, .int .i64 i)] h (r31_Made_K3 nx0 K)
def r31_Made_b3 (l : Option Addr) (lL : Nat) (lC : Nat) (h : Hp)  (K : Value → Hp → Prop) : Prop :=
  sx_3 Try.prog F 48 (cp [1, 1] (bodyOf Try.f23)) (ap [1, 1] r31_Made_an) [(0, .slice l lL lC)] h (r31_Made_K0  K)
def r31_Made_b4 (out : Option Addr) (outL : Nat) (outC : Nat) (i : Int) (l : Option Addr) (lL : Nat) (lC : Nat) (h : Hp) (nx0 : (Option Addr × Nat × Nat) × Int × Unit → Hp → Prop) (K : Value → Hp → Prop) : Prop :=
  sx_2 Try.prog F 48 (cp [1, 1, 1, 0, 1, 2, 2] (bodyOf Try.f23)) (ap [1, 1, 1, 0, 1, 2] r31_Made_an) [(5, .slice out outL outC), (6, .int .i64 i), (0, .slice l lL lC)] h (r31_Made_K6 nx0 K)
def r31_Made_b5 (l : Option Addr) (lL : Nat) (lC : Nat) (out : Option Addr) (outL : Nat) (outC : Nat) (i : Int) (h : Hp) (nx0 : (Option Addr × Nat × Nat) × Int × Unit → Hp → Prop) (K : Value → Hp → Prop) : Prop :=
  sx_1 Try.prog F 48 (cp [1, 1, 1, 0, 1, 2, 2, 1, 1] (bodyOf Try.f23)) (ap [1, 1, 1, 0, 1, 2, 1, 1] r31_Made_an) [(0, .slice l lL lC), (5, .slice out outL outC), (6, .int .i64 i)] h (r31_Made_K6 nx0 K)
def r31_Made_b6 (l : Option Addr) (lL : Nat) (lC : Nat) (out : Option Addr) (outL : Nat) (outC : Nat) (h : Hp)  (K : Value → Hp → Prop) : Prop :=
  sx_2 Try.prog F 48 (cp [1, 1, 1, 1] (bodyOf Try.f23)) (ap [1, 1, 1, 1] r31_Made_an) [(0, .slice l lL lC), (5, .slice out outL outC)] h (r31_Made_K0  K)
theorem r31_Made_b0_eq (l : Option Addr) (lL : Nat) (lC : Nat) (h : Hp)  (K : Value → Hp → Prop) : r31_Made_b0 l lL lC h  K = (
  LoopVC ((0, ()) : Int × Unit) h (fun (nx0 : Int × Unit → Hp → Prop) (s1 : Int × Unit) h1 => r31_Made_b1 s1.1 l lL lC h1 nx0 K)) := by kernel_rfl
theorem r31_Made_b1_eq (i : Int) (l : Option Addr) (lL : Nat) (lC : Nat) (h : Hp) (nx0 : Int × Unit → Hp → Prop) (K : Value → Hp → Prop) : r31_Made_b1 i l lL lC h nx0 K = (
  cond (decide (i < (lL : Int)))
  ((0 ≤ i ∧ i < (lL : Int)) ∧
  NN l fun a1 =>
  ∃ n1 : Int, ∃ n2 : Int, ∃ n3 : Int, cell h (a1.add (Int.toNat i * 3)) = some (.int .i64 n1) ∧
  cell h ((a1.add (Int.toNat i * 3)).add 1) = some (.int .i64 n2) ∧
  cell h ((a1.add (Int.toNat i * 3)).add 2) = some (.int .i64 n3) ∧
  HCalls Try.prog 36 #[.agg #[.int .i64 n1, .int .i64 n2, .int .i64 n3]] h fun v1 h2 => ∃ r1 : Bool, v1 = .bool r1 ∧
  cond (!r1)
  (K (.tuple #[.slice none 0 0, .int .i64 1]) h2)
  (r31_Made_b2 l lL lC i h2 nx0 K))
  (r31_Made_b3 l lL lC h  K)) := by kernel_rfl
theorem r31_Made_b2_eq (l : Option Addr) (lL : Nat) (lC : Nat) (i : Int) (h : Hp) (nx0 : Int × Unit → Hp → Prop) (K : Value → Hp → Prop) : r31_Made_b2 l lL lC i h nx0 K = (
  InR (i + 1) ∧
  nx0 (i + 1, ()) h) := by kernel_rfl
theorem r31_Made_b3_eq (l : Option Addr) (lL : Nat) (lC : Nat) (h : Hp)  (K : Value → Hp → Prop) : r31_Made_b3 l lL lC h  K = (
  LoopVC (((none, 0, 0), 0, ()) : (Option Addr × Nat × Nat) × Int × Unit) h (fun (nx0 : (Option Addr × Nat × Nat) × Int × Unit → Hp → Prop) (s2 : (Option Addr × Nat × Nat) × Int × Unit) h3 => r31_Made_b4 s2.1.1 s2.1.2.1 s2.1.2.2 s2.2.1 l lL lC h3 nx0 K)) := by kernel_rfl
theorem r31_Made_b4_eq (out : Option Addr) (outL : Nat) (outC : Nat) (i : Int) (l : Option Addr) (lL : Nat) (lC : Nat) (h : Hp) (nx0 : (Option Addr × Nat × Nat) × Int × Unit → Hp → Prop) (K : Value → Hp → Prop) : r31_Made_b4 out outL outC i l lL lC h nx0 K = (
  cond (decide (i < (lL : Int)))
  ((0 ≤ i ∧ i < (lL : Int)) ∧
  NN l fun a2 =>
  ∃ n4 : Int, cell h (a2.add (Int.toNat i * 3)) = some (.int .i64 n4) ∧
  (0 ≤ i ∧ i < (lL : Int)) ∧
  NN l fun a3 =>
  ∃ n5 : Int, cell h ((a3.add (Int.toNat i * 3)).add 1) = some (.int .i64 n5) ∧
  ∃ r2 : Int, HCalls Try.prog 37 #[.slice out outL outC, .int .i64 n4, .int .i64 n5] h (fun v2 h4 => v2 = .int .i64 r2 ∧ h4 = h) ∧
  cond (decide ((0 : Int) ≤ r2))
  (K (.tuple #[.slice none 0 0, .int .i64 10]) h)
  ((0 ≤ i ∧ i < (lL : Int)) ∧
  NN l fun a4 =>
  ∃ n6 : Int, ∃ n7 : Int, ∃ n8 : Int, cell h (a4.add (Int.toNat i * 3)) = some (.int .i64 n6) ∧
  cell h ((a4.add (Int.toNat i * 3)).add 1) = some (.int .i64 n7) ∧
  cell h ((a4.add (Int.toNat i * 3)).add 2) = some (.int .i64 n8) ∧
  HCalls Try.prog 38 #[.slice out outL outC, .agg #[.int .i64 n6, .int .i64 n7, .int .i64 n8]] h fun v3 h5 => ∃ (r3 : Option Addr) (rL1 rC1 : Nat), v3 = .slice r3 rL1 rC1 ∧
  r31_Made_b5 l lL lC r3 rL1 rC1 i h5 nx0 K))
  (r31_Made_b6 l lL lC out outL outC h  K)) := by kernel_rfl
theorem r31_Made_b5_eq (l : Option Addr) (lL : Nat) (lC : Nat) (out : Option Addr) (outL : Nat) (outC : Nat) (i : Int) (h : Hp) (nx0 : (Option Addr × Nat × Nat) × Int × Unit → Hp → Prop) (K : Value → Hp → Prop) : r31_Made_b5 l lL lC out outL outC i h nx0 K = (
  InR (i + 1) ∧
  nx0 ((out, outL, outC), i + 1, ()) h) := by kernel_rfl
theorem r31_Made_b6_eq (l : Option Addr) (lL : Nat) (lC : Nat) (out : Option Addr) (outL : Nat) (outC : Nat) (h : Hp)  (K : Value → Hp → Prop) : r31_Made_b6 l lL lC out outL outC h  K = (
  cond (decide ((1000 : Int) < (lL : Int)))
  (K (.tuple #[.slice none 0 0, .int .i64 4]) h)
  (K (.tuple #[.slice out outL outC, .int .i64 0]) h)) := by kernel_rfl
theorem r31_Made_call {l : Option Addr} {lL : Nat} {lC : Nat} {h : Hp} {K : Value → Hp → Prop} (hk : r31_Made_b0 l lL lC h K) : HCalls Try.prog 23 #[.slice l lL lC] h K :=
  calls_of_snd r31_Made_an Try.func23 (c := bodyOf Try.f23) rfl Try.ntmps23 (Nat.le_of_ble_eq_true rfl) (snd_4 F_ok F_mixed) hk

/-! ### l31_do -/
def l31_do_an : Ann := .node none (.leaf) (.node none (.leaf) (.node none (.leaf) (.node (some [0, 1]) (.leaf) (.leaf))))
def l31_do_K0  (K : Value → Hp → Prop) : Exit → Env → Hp → Prop := retK Try.prog Try.f24.results.toList K
def l31_do_b0 (t : Option Addr) (l : Option Addr) (lL : Nat) (lC : Nat) (s_0 : Int) (s_1 : Int) (s_2 : Int) (s_3 : Int) (s_4 : Int) (s_5 : Int) (s_6 : Int) (s_7 : Int) (h : Hp)  (K : Value → Hp → Prop) : Prop :=
  sx_2 Try.prog F 195 (cp [] (bodyOf Try.f24)) (ap [] l31_do_an) [(0, .pointer t), (1, .slice l lL lC), (2, .agg #[.int .i64 s_0, .int .i64 s_1, .int .i64 s_2, .int .i64 s_3, .int .i64 s_4, .int .i64 s_5, .int .i64 s_6, .int .i64 s_7])] h (l31_do_K0  K)
def l31_do_b1 (t : Option Addr) (l : Option Addr) (lL : Nat) (lC : Nat) (h : Hp)  (K : Value → Hp → Prop) : Prop :=
  sx_1 Try.prog F 195 (cp [1, 1, 1, 1] (bodyOf Try.f24)) (ap [1, 1, 1, 1] l31_do_an) [(0, .pointer t), (1, .slice l lL lC)] h (l31_do_K0  K)
theorem l31_do_b0_eq (t : Option Addr) (l : Option Addr) (lL : Nat) (lC : Nat) (s_0 : Int) (s_1 : Int) (s_2 : Int) (s_3 : Int) (s_4 : Int) (s_5 : Int) (s_6 : Int) (s_7 : Int) (h : Hp)  (K : Value → Hp → Prop) : l31_do_b0 t l lL lC s_0 s_1 s_2 s_3 s_4 s_5 s_6 s_7 h  K = (
  New h (.cells #[.int .i64 s_0, .int .i64 s_1, .int .i64 s_2, .int .i64 s_3, .int .i64 s_4, .int .i64 s_5, .int .i64 s_6, .int .i64 s_7] 54) fun b1 h1 =>
  ∃ n1 : Int, ∃ n2 : Int, ∃ n3 : Int, ∃ n4 : Int, cell h1 ((⟨b1, 0, none⟩ : Addr).add 4) = some (.int .i64 n1) ∧
  cell h1 (((⟨b1, 0, none⟩ : Addr).add 4).add 1) = some (.int .i64 n2) ∧
  cell h1 (((⟨b1, 0, none⟩ : Addr).add 4).add 2) = some (.int .i64 n3) ∧
  cell h1 (((⟨b1, 0, none⟩ : Addr).add 4).add 3) = some (.int .i64 n4) ∧
  New h1 (.cells #[.int .i64 0, .int .i64 0, .int .i64 0, .int .i64 0] 42) fun b2 h2 =>
  Wr h2 ⟨b2, 0, none⟩ (.int .i64 n1) fun h3 =>
  Wr h3 ((⟨b2, 0, none⟩ : Addr).add 1) (.int .i64 n2) fun h4 =>
  Wr h4 ((⟨b2, 0, none⟩ : Addr).add 2) (.int .i64 n3) fun h5 =>
  Wr h5 ((⟨b2, 0, none⟩ : Addr).add 3) (.int .i64 n4) fun h6 =>
  (0 ≤ (0 : Int) ∧ (0 : Int) < ((4 : Nat) : Int)) ∧
  ∃ n5 : Int, cell h6 ((⟨b2, 0, none⟩ : Addr).add (Int.toNat (0 : Int) * 1)) = some (.int .i64 n5) ∧
  (0 ≤ (1 : Int) ∧ (1 : Int) < ((4 : Nat) : Int)) ∧
  ∃ n6 : Int, cell h6 ((⟨b2, 0, none⟩ : Addr).add (Int.toNat (1 : Int) * 1)) = some (.int .i64 n6) ∧
  (0 ≤ (2 : Int) ∧ (2 : Int) < ((4 : Nat) : Int)) ∧
  ∃ n7 : Int, cell h6 ((⟨b2, 0, none⟩ : Addr).add (Int.toNat (2 : Int) * 1)) = some (.int .i64 n7) ∧
  (0 ≤ (3 : Int) ∧ (3 : Int) < ((4 : Nat) : Int)) ∧
  ∃ n8 : Int, cell h6 ((⟨b2, 0, none⟩ : Addr).add (Int.toNat (3 : Int) * 1)) = some (.int .i64 n8) ∧
  HCalls Try.prog 39 #[.slice l lL lC, .int .i64 n5, .int .i64 n6, .int .i64 n7, .int .i64 n8] h6 fun v1 h7 => ∃ (r1 : Option Addr) (rL1 rC1 : Nat), v1 = .slice r1 rL1 rC1 ∧
  ∃ n9 : Int, cell h7 ⟨b1, 0, none⟩ = some (.int .i64 n9) ∧
  cond (decide (n9 = 0))
  (∃ n10 : Int, ∃ n11 : Int, ∃ n12 : Int, cell h7 ((⟨b1, 0, none⟩ : Addr).add 1) = some (.int .i64 n10) ∧
  cell h7 (((⟨b1, 0, none⟩ : Addr).add 1).add 1) = some (.int .i64 n11) ∧
  cell h7 (((⟨b1, 0, none⟩ : Addr).add 1).add 2) = some (.int .i64 n12) ∧
  HCalls Try.prog 40 #[.slice l lL lC, .agg #[.int .i64 n10, .int .i64 n11, .int .i64 n12]] h7 fun v2 h8 => ∃ (r2 : Option Addr) (rL2 rC2 : Nat), ∃ r3 : Int, v2 = .tuple #[.slice r2 rL2 rC2, .int .i64 r3] ∧
  ∃ n13 : Int, ∃ n14 : Int, ∃ n15 : Int, cell h8 ((⟨b1, 0, none⟩ : Addr).add 1) = some (.int .i64 n13) ∧
  cell h8 (((⟨b1, 0, none⟩ : Addr).add 1).add 1) = some (.int .i64 n14) ∧
  cell h8 (((⟨b1, 0, none⟩ : Addr).add 1).add 2) = some (.int .i64 n15) ∧
  HCalls Try.prog 14 #[.pointer t, .agg #[.int .i64 n13, .int .i64 n14, .int .i64 n15]] h8 fun v3 h9 => ∃ r4 : Int, v3 = .int .i64 r4 ∧
  K (.tuple #[.slice r2 rL2 rC2, .bool (decide (r4 = r3))]) h9)
  (cond (decide (n9 = 1))
  (∃ n16 : Int, cell h7 ((⟨b1, 0, none⟩ : Addr).add 1) = some (.int .i64 n16) ∧
  ∃ n17 : Int, cell h7 (((⟨b1, 0, none⟩ : Addr).add 1).add 1) = some (.int .i64 n17) ∧
  HCalls Try.prog 41 #[.slice l lL lC, .int .i64 n16, .int .i64 n17] h7 fun v4 h10 => ∃ (r5 : Option Addr) (rL3 rC3 : Nat), ∃ r6 : Int, v4 = .tuple #[.slice r5 rL3 rC3, .int .i64 r6] ∧
  ∃ n18 : Int, cell h10 ((⟨b1, 0, none⟩ : Addr).add 1) = some (.int .i64 n18) ∧
  ∃ n19 : Int, cell h10 (((⟨b1, 0, none⟩ : Addr).add 1).add 1) = some (.int .i64 n19) ∧
  HCalls Try.prog 13 #[.pointer t, .int .i64 n18, .int .i64 n19] h10 fun v5 h11 => ∃ r7 : Int, v5 = .int .i64 r7 ∧
  K (.tuple #[.slice r5 rL3 rC3, .bool (decide (r7 = r6))]) h11)
  (cond (decide (n9 = 2))
  ((0 ≤ (0 : Int) ∧ (0 : Int) < ((4 : Nat) : Int)) ∧
  ∃ n20 : Int, cell h7 ((⟨b2, 0, none⟩ : Addr).add (Int.toNat (0 : Int) * 1)) = some (.int .i64 n20) ∧
  (0 ≤ (1 : Int) ∧ (1 : Int) < ((4 : Nat) : Int)) ∧
  ∃ n21 : Int, cell h7 ((⟨b2, 0, none⟩ : Addr).add (Int.toNat (1 : Int) * 1)) = some (.int .i64 n21) ∧
  (0 ≤ (2 : Int) ∧ (2 : Int) < ((4 : Nat) : Int)) ∧
  ∃ n22 : Int, cell h7 ((⟨b2, 0, none⟩ : Addr).add (Int.toNat (2 : Int) * 1)) = some (.int .i64 n22) ∧
  (0 ≤ (3 : Int) ∧ (3 : Int) < ((4 : Nat) : Int)) ∧
  ∃ n23 : Int, cell h7 ((⟨b2, 0, none⟩ : Addr).add (Int.toNat (3 : Int) * 1)) = some (.int .i64 n23) ∧
  HCalls Try.prog 16 #[.pointer t, .int .i64 n20, .int .i64 n21, .int .i64 n22, .int .i64 n23] h7 fun v6 h12 => ∃ r8 : Int, ∃ r9 : Int, v6 = .tuple #[.int .i64 r8, .int .i64 r9] ∧
  cond (decide (r8 = (rL1 : Int)))
  (K (.tuple #[.slice l lL lC, .bool (decide (r9 = 0))]) h12)
  (K (.tuple #[.slice l lL lC, .bool false]) h12))
  (cond (decide (n9 = 3))
  ((0 ≤ (0 : Int) ∧ (0 : Int) < ((4 : Nat) : Int)) ∧
  ∃ n24 : Int, cell h7 ((⟨b2, 0, none⟩ : Addr).add (Int.toNat (0 : Int) * 1)) = some (.int .i64 n24) ∧
  (0 ≤ (1 : Int) ∧ (1 : Int) < ((4 : Nat) : Int)) ∧
  ∃ n25 : Int, cell h7 ((⟨b2, 0, none⟩ : Addr).add (Int.toNat (1 : Int) * 1)) = some (.int .i64 n25) ∧
  (0 ≤ (2 : Int) ∧ (2 : Int) < ((4 : Nat) : Int)) ∧
  ∃ n26 : Int, cell h7 ((⟨b2, 0, none⟩ : Addr).add (Int.toNat (2 : Int) * 1)) = some (.int .i64 n26) ∧
  (0 ≤ (3 : Int) ∧ (3 : Int) < ((4 : Nat) : Int)) ∧
  ∃ n27 : Int, cell h7 ((⟨b2, 0, none⟩ : Addr).add (Int.toNat (3 : Int) * 1)) = some (.int .i64 n27) ∧
  HCalls Try.prog 20 #[.pointer t, .int .i64 n24, .int .i64 n25, .int .i64 n26, .int .i64 n27] h7 fun v7 h13 => ∃ r10 : Int, ∃ r11 : Int, v7 = .tuple #[.int .i64 r10, .int .i64 r11] ∧
  HCalls Try.prog 21 #[.slice r1 rL1 rC1] h13 fun v8 h14 => ∃ r12 : Int, v8 = .int .i64 r12 ∧
  cond (decide (r10 = r12))
  (K (.tuple #[.slice l lL lC, .bool (decide (r11 = 0))]) h14)
  (K (.tuple #[.slice l lL lC, .bool false]) h14))
  (cond (decide (n9 = 4))
  ((0 ≤ (0 : Int) ∧ (0 : Int) < ((4 : Nat) : Int)) ∧
  ∃ n28 : Int, cell h7 ((⟨b2, 0, none⟩ : Addr).add (Int.toNat (0 : Int) * 1)) = some (.int .i64 n28) ∧
  (0 ≤ (1 : Int) ∧ (1 : Int) < ((4 : Nat) : Int)) ∧
  ∃ n29 : Int, cell h7 ((⟨b2, 0, none⟩ : Addr).add (Int.toNat (1 : Int) * 1)) = some (.int .i64 n29) ∧
  (0 ≤ (2 : Int) ∧ (2 : Int) < ((4 : Nat) : Int)) ∧
  ∃ n30 : Int, cell h7 ((⟨b2, 0, none⟩ : Addr).add (Int.toNat (2 : Int) * 1)) = some (.int .i64 n30) ∧
  (0 ≤ (3 : Int) ∧ (3 : Int) < ((4 : Nat) : Int)) ∧
  ∃ n31 : Int, cell h7 ((⟨b2, 0, none⟩ : Addr).add (Int.toNat (3 : Int) * 1)) = some (.int .i64 n31) ∧
  HCalls Try.prog 19 #[.pointer t, .int .i64 n28, .int .i64 n29, .int .i64 n30, .int .i64 n31] h7 fun v9 h15 => ∃ (r13 : Option Addr) (rL4 rC4 : Nat), ∃ r14 : Int, v9 = .tuple #[.slice r13 rL4 rC4, .int .i64 r14] ∧
  HCalls Try.prog 18 #[.slice r13 rL4 rC4, .slice r1 rL1 rC1] h15 fun v10 h16 => ∃ r15 : Bool, v10 = .bool r15 ∧
  cond r15
  (K (.tuple #[.slice l lL lC, .bool (decide (r14 = 0))]) h16)
  (K (.tuple #[.slice l lL lC, .bool false]) h16))
  (cond (decide (n9 = 5))
  ((0 ≤ (0 : Int) ∧ (0 : Int) < ((4 : Nat) : Int)) ∧
  ∃ n32 : Int, cell h7 ((⟨b2, 0, none⟩ : Addr).add (Int.toNat (0 : Int) * 1)) = some (.int .i64 n32) ∧
  (0 ≤ (2 : Int) ∧ (2 : Int) < ((4 : Nat) : Int)) ∧
  ∃ n33 : Int, cell h7 ((⟨b2, 0, none⟩ : Addr).add (Int.toNat (2 : Int) * 1)) = some (.int .i64 n33) ∧
  (0 ≤ (3 : Int) ∧ (3 : Int) < ((4 : Nat) : Int)) ∧
  ∃ n34 : Int, cell h7 ((⟨b2, 0, none⟩ : Addr).add (Int.toNat (3 : Int) * 1)) = some (.int .i64 n34) ∧
  HCalls Try.prog 39 #[.slice l lL lC, .int .i64 n32, .int .i64 4611686018427387904, .int .i64 n33, .int .i64 n34] h7 fun v11 h17 => ∃ (r16 : Option Addr) (rL5 rC5 : Nat), v11 = .slice r16 rL5 rC5 ∧
  (0 ≤ (0 : Int) ∧ (0 : Int) < ((4 : Nat) : Int)) ∧
  ∃ n35 : Int, cell h17 ((⟨b2, 0, none⟩ : Addr).add (Int.toNat (0 : Int) * 1)) = some (.int .i64 n35) ∧
  (0 ≤ (2 : Int) ∧ (2 : Int) < ((4 : Nat) : Int)) ∧
  ∃ n36 : Int, cell h17 ((⟨b2, 0, none⟩ : Addr).add (Int.toNat (2 : Int) * 1)) = some (.int .i64 n36) ∧
  (0 ≤ (3 : Int) ∧ (3 : Int) < ((4 : Nat) : Int)) ∧
  ∃ n37 : Int, cell h17 ((⟨b2, 0, none⟩ : Addr).add (Int.toNat (3 : Int) * 1)) = some (.int .i64 n37) ∧
  HCalls Try.prog 22 #[.pointer t, .int .i64 n35, .int .i64 n36, .int .i64 n37] h17 fun v12 h18 => ∃ r17 : Int, ∃ r18 : Int, ∃ r19 : Int, ∃ r20 : Int, v12 = .tuple #[.agg #[.int .i64 r17, .int .i64 r18, .int .i64 r19], .int .i64 r20] ∧
  New h18 (.cells #[.int .i64 0, .int .i64 0, .int .i64 0] 33) fun b3 h19 =>
  Wr h19 ⟨b3, 0, none⟩ (.int .i64 r17) fun h20 =>
  Wr h20 ((⟨b3, 0, none⟩ : Addr).add 1) (.int .i64 r18) fun h21 =>
  Wr h21 ((⟨b3, 0, none⟩ : Addr).add 2) (.int .i64 r19) fun h22 =>
  cond (decide ((rL5 : Int) = 0))
  (∃ n38 : Int, ∃ n39 : Int, ∃ n40 : Int, cell h22 ⟨b3, 0, none⟩ = some (.int .i64 n38) ∧
  cell h22 ((⟨b3, 0, none⟩ : Addr).add 1) = some (.int .i64 n39) ∧
  cell h22 ((⟨b3, 0, none⟩ : Addr).add 2) = some (.int .i64 n40) ∧
  ∃ b4 : Bool, eqC Try.prog .eql 33 (.tmp 172) (.tmp 173) (.agg #[.int .i64 n38, .int .i64 n39, .int .i64 n40]) (.agg #[.int .i64 0, .int .i64 0, .int .i64 0]) h22 b4 ∧
  cond b4
  (K (.tuple #[.slice l lL lC, .bool (decide (r20 = 12))]) h22)
  (K (.tuple #[.slice l lL lC, .bool false]) h22))
  (∃ n41 : Int, ∃ n42 : Int, ∃ n43 : Int, cell h22 ⟨b3, 0, none⟩ = some (.int .i64 n41) ∧
  cell h22 ((⟨b3, 0, none⟩ : Addr).add 1) = some (.int .i64 n42) ∧
  cell h22 ((⟨b3, 0, none⟩ : Addr).add 2) = some (.int .i64 n43) ∧
  (0 ≤ (0 : Int) ∧ (0 : Int) < (rL5 : Int)) ∧
  NN r16 fun a1 =>
  ∃ n44 : Int, ∃ n45 : Int, ∃ n46 : Int, cell h22 (a1.add (Int.toNat (0 : Int) * 3)) = some (.int .i64 n44) ∧
  cell h22 ((a1.add (Int.toNat (0 : Int) * 3)).add 1) = some (.int .i64 n45) ∧
  cell h22 ((a1.add (Int.toNat (0 : Int) * 3)).add 2) = some (.int .i64 n46) ∧
  ∃ b5 : Bool, eqC Try.prog .eql 33 (.tmp 180) (.tmp 183) (.agg #[.int .i64 n41, .int .i64 n42, .int .i64 n43]) (.agg #[.int .i64 n44, .int .i64 n45, .int .i64 n46]) h22 b5 ∧
  cond b5
  (K (.tuple #[.slice l lL lC, .bool (decide (r20 = 0))]) h22)
  (K (.tuple #[.slice l lL lC, .bool false]) h22)))
  (l31_do_b1 t l lL lC h7  K))))))) := by kernel_rfl
theorem l31_do_b1_eq (t : Option Addr) (l : Option Addr) (lL : Nat) (lC : Nat) (h : Hp)  (K : Value → Hp → Prop) : l31_do_b1 t l lL lC h  K = (
  HCalls Try.prog 17 #[.pointer t] h fun v13 h23 => ∃ r21 : Int, v13 = .int .i64 r21 ∧
  K (.tuple #[.slice l lL lC, .bool (decide (r21 = (lL : Int)))]) h23) := by kernel_rfl
theorem l31_do_call {t : Option Addr} {l : Option Addr} {lL : Nat} {lC : Nat} {s_0 : Int} {s_1 : Int} {s_2 : Int} {s_3 : Int} {s_4 : Int} {s_5 : Int} {s_6 : Int} {s_7 : Int} {h : Hp} {K : Value → Hp → Prop} (hk : l31_do_b0 t l lL lC s_0 s_1 s_2 s_3 s_4 s_5 s_6 s_7 h K) : HCalls Try.prog 24 #[.pointer t, .slice l lL lC, .agg #[.int .i64 s_0, .int .i64 s_1, .int .i64 s_2, .int .i64 s_3, .int .i64 s_4, .int .i64 s_5, .int .i64 s_6, .int .i64 s_7]] h K :=
  calls_of_snd l31_do_an Try.func24 (c := bodyOf Try.f24) rfl Try.ntmps24 (Nat.le_of_ble_eq_true rfl) (snd_2 F_ok F_mixed) hk

/-! ### slices_Sort_Sint_int -/
/-! ### slices_ContainsFunc_Sapi_Point_api_Point -/
def slices_ContainsFunc_Sapi_Point_api_Point_an : Ann := .leaf
def slices_ContainsFunc_Sapi_Point_api_Point_K0  (K : Value → Hp → Prop) : Exit → Env → Hp → Prop := retK Try.prog Try.f26.results.toList K
def slices_ContainsFunc_Sapi_Point_api_Point_b0 (s : Option Addr) (sL : Nat) (sC : Nat) (f : Value) (h : Hp)  (K : Value → Hp → Prop) : Prop :=
  sx_1 Try.prog F 9 (cp [] (bodyOf Try.f26)) (ap [] slices_ContainsFunc_Sapi_Point_api_Point_an) [(0, .slice s sL sC), (1, f)] h (slices_ContainsFunc_Sapi_Point_api_Point_K0  K)
theorem slices_ContainsFunc_Sapi_Point_api_Point_b0_eq (s : Option Addr) (sL : Nat) (sC : Nat) (f : Value) (h : Hp)  (K : Value → Hp → Prop) : slices_ContainsFunc_Sapi_Point_api_Point_b0 s sL sC f h  K = (
  HCalls Try.prog 44 #[.slice s sL sC, f] h fun v1 h1 => ∃ r1 : Int, v1 = .int .i64 r1 ∧
  K (.bool (decide ((0 : Int) ≤ r1))) h1) := by kernel_rfl
theorem slices_ContainsFunc_Sapi_Point_api_Point_call {s : Option Addr} {sL : Nat} {sC : Nat} {f : Value} {h : Hp} {K : Value → Hp → Prop} (hk : slices_ContainsFunc_Sapi_Point_api_Point_b0 s sL sC f h K) : HCalls Try.prog 26 #[.slice s sL sC, f] h K :=
  calls_of_snd slices_ContainsFunc_Sapi_Point_api_Point_an Try.func26 (c := bodyOf Try.f26) rfl Try.ntmps26 (Nat.le_of_ble_eq_true rfl) (snd_1 F_ok F_mixed) hk

/-! ### rangetree_Make_c1 -/
def rangetree_Make_c1_an : Ann := .leaf
def rangetree_Make_c1_K0  (K : Value → Hp → Prop) : Exit → Env → Hp → Prop := retK Try.prog Try.f27.results.toList K
def rangetree_Make_c1_b0 (p_0 : Int) (p_1 : Int) (p_2 : Int) (h : Hp)  (K : Value → Hp → Prop) : Prop :=
  sx_1 Try.prog F 6 (cp [] (bodyOf Try.f27)) (ap [] rangetree_Make_c1_an) [(0, .agg #[.int .i64 p_0, .int .i64 p_1, .int .i64 p_2])] h (rangetree_Make_c1_K0  K)
theorem rangetree_Make_c1_b0_eq (p_0 : Int) (p_1 : Int) (p_2 : Int) (h : Hp)  (K : Value → Hp → Prop) : rangetree_Make_c1_b0 p_0 p_1 p_2 h  K = (
  New h (.cells #[.int .i64 p_0, .int .i64 p_1, .int .i64 p_2] 33) fun b1 h1 =>
  ∃ n1 : Int, ∃ n2 : Int, ∃ n3 : Int, cell h1 ⟨b1, 0, none⟩ = some (.int .i64 n1) ∧
  cell h1 ((⟨b1, 0, none⟩ : Addr).add 1) = some (.int .i64 n2) ∧
  cell h1 ((⟨b1, 0, none⟩ : Addr).add 2) = some (.int .i64 n3) ∧
  HCalls Try.prog 28 #[.agg #[.int .i64 n1, .int .i64 n2, .int .i64 n3]] h1 fun v1 h2 => ∃ r1 : Bool, v1 = .bool r1 ∧
  K (.bool (!r1)) h2) := by kernel_rfl
theorem rangetree_Make_c1_call {p_0 : Int} {p_1 : Int} {p_2 : Int} {h : Hp} {K : Value → Hp → Prop} (hk : rangetree_Make_c1_b0 p_0 p_1 p_2 h K) : HCalls Try.prog 27 #[.agg #[.int .i64 p_0, .int .i64 p_1, .int .i64 p_2]] h K :=
  calls_of_snd rangetree_Make_c1_an Try.func27 (c := bodyOf Try.f27) rfl Try.ntmps27 (Nat.le_of_ble_eq_true rfl) (snd_1 F_ok F_mixed) hk

/-! ### rangetree_valid -/
def rangetree_valid_an : Ann := .leaf
def rangetree_valid_K0  (K : Value → Hp → Prop) : Exit → Env → Hp → Prop := retK Try.prog Try.f28.results.toList K
def rangetree_valid_b0 (p_0 : Int) (p_1 : Int) (p_2 : Int) (h : Hp)  (K : Value → Hp → Prop) : Prop :=
  sx_1 Try.prog F 21 (cp [] (bodyOf Try.f28)) (ap [] rangetree_valid_an) [(0, .agg #[.int .i64 p_0, .int .i64 p_1, .int .i64 p_2])] h (rangetree_valid_K0  K)
theorem rangetree_valid_b0_eq (p_0 : Int) (p_1 : Int) (p_2 : Int) (h : Hp)  (K : Value → Hp → Prop) : rangetree_valid_b0 p_0 p_1 p_2 h  K = (
  New h (.cells #[.int .i64 p_0, .int .i64 p_1, .int .i64 p_2] 33) fun b1 h1 =>
  ∃ n1 : Int, cell h1 ⟨b1, 0, none⟩ = some (.int .i64 n1) ∧
  ∃ n2 : Int, cell h1 ((⟨b1, 0, none⟩ : Addr).add 1) = some (.int .i64 n2) ∧
  ∃ n3 : Int, cell h1 ((⟨b1, 0, none⟩ : Addr).add 2) = some (.int .i64 n3) ∧
  cond (decide ((if (if n1 < n2 then n2 else n1) < n3 then n3 else (if n1 < n2 then n2 else n1)) ≤ 1048576))
  (∃ n4 : Int, cell h1 ⟨b1, 0, none⟩ = some (.int .i64 n4) ∧
  ∃ n5 : Int, cell h1 ((⟨b1, 0, none⟩ : Addr).add 1) = some (.int .i64 n5) ∧
  ∃ n6 : Int, cell h1 ((⟨b1, 0, none⟩ : Addr).add 2) = some (.int .i64 n6) ∧
  K (.bool (decide (((-1048576) : Int) ≤ (if n6 < (if n5 < n4 then n5 else n4) then n6 else (if n5 < n4 then n5 else n4))))) h1)
  (K (.bool false) h1)) := by kernel_rfl
theorem rangetree_valid_call {p_0 : Int} {p_1 : Int} {p_2 : Int} {h : Hp} {K : Value → Hp → Prop} (hk : rangetree_valid_b0 p_0 p_1 p_2 h K) : HCalls Try.prog 28 #[.agg #[.int .i64 p_0, .int .i64 p_1, .int .i64 p_2]] h K :=
  calls_of_snd rangetree_valid_an Try.func28 (c := bodyOf Try.f28) rfl Try.ntmps28 (Nat.le_of_ble_eq_true rfl) (snd_1 F_ok F_mixed) hk

/-! ### rangetree_Tree_renew -/
def rangetree_Tree_renew_an : Ann := .leaf
def rangetree_Tree_renew_K0  (K : Value → Hp → Prop) : Exit → Env → Hp → Prop := retK Try.prog Try.f29.results.toList K
def rangetree_Tree_renew_b0 (t : Option Addr) (h : Hp)  (K : Value → Hp → Prop) : Prop :=
  sx_1 Try.prog F 20 (cp [] (bodyOf Try.f29)) (ap [] rangetree_Tree_renew_an) [(0, .pointer t)] h (rangetree_Tree_renew_K0  K)
theorem rangetree_Tree_renew_b0_eq (t : Option Addr) (h : Hp)  (K : Value → Hp → Prop) : rangetree_Tree_renew_b0 t h  K = (
  NN t fun a1 =>
  Wr h (a1.add 1) (.slice none 0 0) fun h1 =>
  NN t fun a2 =>
  Wr h1 (a2.add 2) (.slice none 0 0) fun h2 =>
  NN t fun a3 =>
  Wr h2 (a3.add 3) (.int .i64 0) fun h3 =>
  HCalls Try.prog 15 #[.pointer t] h3 fun v1 h4 => ∃ (r1 : Option Addr) (rL1 rC1 : Nat), v1 = .slice r1 rL1 rC1 ∧
  cond (decide ((0 : Int) < (rL1 : Int)))
  (HCalls Try.prog 30 #[.pointer t, .slice r1 rL1 rC1] h4 fun v2 h5 => v2 = .tuple #[] ∧
  K (.tuple #[]) h5)
  (K (.tuple #[]) h4)) := by kernel_rfl
theorem rangetree_Tree_renew_call {t : Option Addr} {h : Hp} {K : Value → Hp → Prop} (hk : rangetree_Tree_renew_b0 t h K) : HCalls Try.prog 29 #[.pointer t] h K :=
  calls_of_snd rangetree_Tree_renew_an Try.func29 (c := bodyOf Try.f29) rfl Try.ntmps29 (Nat.le_of_ble_eq_true rfl) (snd_1 F_ok F_mixed) hk

/-! ### rangetree_Tree_put -/
def rangetree_Tree_put_an : Ann := .node none (.plan (.qu 0 (.qu 1 (.qu 2 (.qu 3 (.qu 4 (.qu 5 (.wo 6 (.wo 7 (.wo 8 (.qu 9 (.qu 10 (.wo 11 .fin .no))) .no) .no) .no)))))))) (.leaf)
def rangetree_Tree_put_K0  (K : Value → Hp → Prop) : Exit → Env → Hp → Prop := retK Try.prog Try.f30.results.toList K
def rangetree_Tree_put_b0 (t : Option Addr) (l : Option Addr) (lL : Nat) (lC : Nat) (h : Hp)  (K : Value → Hp → Prop) : Prop :=
  sx_1 Try.prog F 33 (cp [] (bodyOf Try.f30)) (ap [] rangetree_Tree_put_an) [(0, .pointer t), (1, .slice l lL lC)] h (rangetree_Tree_put_K0  K)
theorem rangetree_Tree_put_b0_eq (t : Option Addr) (l : Option Addr) (lL : Nat) (lC : Nat) (h : Hp)  (K : Value → Hp → Prop) : rangetree_Tree_put_b0 t l lL lC h  K = (
  NN t fun a1 =>
  ∃ (a2 : Option Addr) (L1 C1 : Nat), cell h (a1.add 1) = some (.slice a2 L1 C1) ∧
  HCalls Try.prog 45 #[.slice l lL lC] h fun v1 h1 => ∃ r1 : Option Addr, v1 = .pointer r1 ∧
  (∃ (a3 : Option Addr) (L2 C2 : Nat), cell h1 (a1.add 1) = some (.slice a3 L2 C2) ∧
  (.slice a3 L2 C2 : Value) = .slice a2 L1 C1) ∧
  New h1 (.cells #[.pointer r1] 75) fun b1 h2 =>
  (∃ (a4 : Option Addr) (L3 C3 : Nat), cell h2 (a1.add 1) = some (.slice a4 L3 C3) ∧
  (.slice a4 L3 C3 : Value) = .slice a2 L1 C1) ∧
  appendV Try.prog 66 66 (.slice a2 L1 C1) (.slice (some ⟨b1, 0, none⟩) 1 1) h2 (slK fun a5 l1 c1 h3 =>
  NN t fun a6 =>
  Wr h3 (a6.add 1) (.slice a5 l1 c1) fun h4 =>
  NN t fun a7 =>
  ∃ n1 : Int, cell h4 (a7.add 3) = some (.int .i64 n1) ∧
  InR (n1 + (lL : Int)) ∧
  NN t fun a8 =>
  Wr h4 (a8.add 3) (.int .i64 (n1 + (lL : Int))) fun h5 =>
  NN t fun a9 =>
  ∃ n2 : Int, cell h5 (a9.add 4) = some (.int .i64 n2) ∧
  InR (n2 + (lL : Int)) ∧
  NN t fun a10 =>
  Wr h5 (a10.add 4) (.int .i64 (n2 + (lL : Int))) fun h6 =>
  K (.tuple #[]) h6)) := by kernel_rfl
theorem rangetree_Tree_put_call {t : Option Addr} {l : Option Addr} {lL : Nat} {lC : Nat} {h : Hp} {K : Value → Hp → Prop} (hk : rangetree_Tree_put_b0 t l lL lC h K) : HCalls Try.prog 30 #[.pointer t, .slice l lL lC] h K :=
  calls_of_snd rangetree_Tree_put_an Try.func30 (c := bodyOf Try.f30) rfl Try.ntmps30 (Nat.le_of_ble_eq_true rfl) (snd_1 F_ok F_mixed) hk

/-! ### slices_SortFunc_Sapi_Point_api_Point -/
def slices_SortFunc_Sapi_Point_api_Point_an : Ann := .leaf
def slices_SortFunc_Sapi_Point_api_Point_K0  (K : Value → Hp → Prop) : Exit → Env → Hp → Prop := retK Try.prog Try.f31.results.toList K
def slices_SortFunc_Sapi_Point_api_Point_b0 (x : Option Addr) (xL : Nat) (xC : Nat) (cmp : Value) (h : Hp)  (K : Value → Hp → Prop) : Prop :=
  sx_1 Try.prog F 14 (cp [] (bodyOf Try.f31)) (ap [] slices_SortFunc_Sapi_Point_api_Point_an) [(0, .slice x xL xC), (1, cmp)] h (slices_SortFunc_Sapi_Point_api_Point_K0  K)
theorem slices_SortFunc_Sapi_Point_api_Point_b0_eq (x : Option Addr) (xL : Nat) (xC : Nat) (cmp : Value) (h : Hp)  (K : Value → Hp → Prop) : slices_SortFunc_Sapi_Point_api_Point_b0 x xL xC cmp h  K = (
  HCalls Try.prog 43 #[.int .u64 (IntKind.u64.wrap (xL : Int))] h fun v1 h1 => ∃ r1 : Int, v1 = .int .i64 r1 ∧
  HCalls Try.prog 46 #[.slice x xL xC, .int .i64 0, .int .i64 (xL : Int), .int .i64 r1, cmp] h1 fun v2 h2 => v2 = .tuple #[] ∧
  K (.tuple #[]) h2) := by kernel_rfl
theorem slices_SortFunc_Sapi_Point_api_Point_call {x : Option Addr} {xL : Nat} {xC : Nat} {cmp : Value} {h : Hp} {K : Value → Hp → Prop} (hk : slices_SortFunc_Sapi_Point_api_Point_b0 x xL xC cmp h K) : HCalls Try.prog 31 #[.slice x xL xC, cmp] h K :=
  calls_of_snd slices_SortFunc_Sapi_Point_api_Point_an Try.func31 (c := bodyOf Try.f31) rfl Try.ntmps31 (Nat.le_of_ble_eq_true rfl) (snd_1 F_ok F_mixed) hk

/-! ### rangetree_order -/
def rangetree_order_an : Ann := .node none (.leaf) (.node none (.tail 10) (.leaf))
def rangetree_order_K0  (K : Value → Hp → Prop) : Exit → Env → Hp → Prop := retK Try.prog Try.f32.results.toList K
def rangetree_order_b0 (a_0 : Int) (a_1 : Int) (a_2 : Int) (b_0 : Int) (b_1 : Int) (b_2 : Int) (h : Hp)  (K : Value → Hp → Prop) : Prop :=
  sx_1 Try.prog F 17 (cp [] (bodyOf Try.f32)) (ap [] rangetree_order_an) [(0, .agg #[.int .i64 a_0, .int .i64 a_1, .int .i64 a_2]), (1, .agg #[.int .i64 b_0, .int .i64 b_1, .int .i64 b_2])] h (rangetree_order_K0  K)
theorem rangetree_order_b0_eq (a_0 : Int) (a_1 : Int) (a_2 : Int) (b_0 : Int) (b_1 : Int) (b_2 : Int) (h : Hp)  (K : Value → Hp → Prop) : rangetree_order_b0 a_0 a_1 a_2 b_0 b_1 b_2 h  K = (
  New h (.cells #[.int .i64 a_0, .int .i64 a_1, .int .i64 a_2] 33) fun b1 h1 =>
  New h1 (.cells #[.int .i64 b_0, .int .i64 b_1, .int .i64 b_2] 33) fun b2 h2 =>
  ∃ n1 : Int, cell h2 ⟨b1, 0, none⟩ = some (.int .i64 n1) ∧
  ∃ n2 : Int, cell h2 ⟨b2, 0, none⟩ = some (.int .i64 n2) ∧
  ∃ r1 : Int, HCalls Try.prog 48 #[.int .i64 n1, .int .i64 n2] h2 (fun v1 h3 => v1 = .int .i64 r1 ∧ h3 = h2) ∧
  ∃ n3 : Int, cell h2 ((⟨b1, 0, none⟩ : Addr).add 1) = some (.int .i64 n3) ∧
  ∃ n4 : Int, cell h2 ((⟨b2, 0, none⟩ : Addr).add 1) = some (.int .i64 n4) ∧
  ∃ r2 : Int, HCalls Try.prog 48 #[.int .i64 n3, .int .i64 n4] h2 (fun v2 h4 => v2 = .int .i64 r2 ∧ h4 = h2) ∧
  New h2 (.cells #[.int .i64 r1, .int .i64 r2] 3) fun b3 h5 =>
  HCalls Try.prog 47 #[.slice (some ⟨b3, 0, none⟩) 2 2] h5 fun v3 h6 => ∃ r3 : Int, v3 = .int .i64 r3 ∧
  K (.int .i64 r3) h6) := by kernel_rfl
theorem rangetree_order_call {a_0 : Int} {a_1 : Int} {a_2 : Int} {b_0 : Int} {b_1 : Int} {b_2 : Int} {h : Hp} {K : Value → Hp → Prop} (hk : rangetree_order_b0 a_0 a_1 a_2 b_0 b_1 b_2 h K) : HCalls Try.prog 32 #[.agg #[.int .i64 a_0, .int .i64 a_1, .int .i64 a_2], .agg #[.int .i64 b_0, .int .i64 b_1, .int .i64 b_2]] h K :=
  calls_of_snd rangetree_order_an Try.func32 (c := bodyOf Try.f32) rfl Try.ntmps32 (Nat.le_of_ble_eq_true rfl) (snd_1 F_ok F_mixed) hk

/-! ### rangetree_Tree_ask -/
def rangetree_Tree_ask_an : Ann := .node none (.leaf) (.node (some [0, 1, 2, 3, 4, 10, 11]) (.node none (.leaf) (.loop [0, 1, 2, 3, 4, 21, 22] [(10, .int .i64), (11, .int .i64), (23, .int .i64)] (.node none (.leaf) (.node none (.leaf) (.node (some [0, 1, 2, 3, 4, 10, 11, 21, 22, 23]) (.leaf) (.leaf)))))) (.node (some [10, 11]) (.node none (.leaf) (.loop [1, 2, 3, 4, 46, 47] [(10, .int .i64), (11, .int .i64), (48, .int .i64)] (.node none (.leaf) (.node none (.leaf) (.node (some [1, 2, 3, 4, 10, 11, 46, 47, 48]) (.leaf) (.leaf)))))) (.leaf)))
def rangetree_Tree_ask_K0  (K : Value → Hp → Prop) : Exit → Env → Hp → Prop := retK Try.prog Try.f33.results.toList K
def rangetree_Tree_ask_K1  (K : Value → Hp → Prop) : Exit → Env → Hp → Prop := thenE (fun env h => sx_3 Try.prog F 83 (cp [1, 1] (bodyOf Try.f33)) (ap [1, 1] rangetree_Tree_ask_an) (rs [0, 1, 2, 3, 4, 10, 11] env) h (rangetree_Tree_ask_K0  K)) (rangetree_Tree_ask_K0  K)
def rangetree_Tree_ask_K2  (K : Value → Hp → Prop) : Exit → Env → Hp → Prop := blockE 0 (rangetree_Tree_ask_K1  K)
def rangetree_Tree_ask_K3 (nx0 : Int × Int × Int × Unit → Hp → Prop) (K : Value → Hp → Prop) : Exit → Env → Hp → Prop := thenE (fun env h => getV [(10, .int .i64), (11, .int .i64), (23, .int .i64)] env fun s => nx0 s h) (rangetree_Tree_ask_K2  K)
def rangetree_Tree_ask_K4  (K : Value → Hp → Prop) : Exit → Env → Hp → Prop := thenE (fun env h => sx_2 Try.prog F 83 (cp [1, 1, 1] (bodyOf Try.f33)) (ap [1, 1, 1] rangetree_Tree_ask_an) (rs [10, 11] env) h (rangetree_Tree_ask_K0  K)) (rangetree_Tree_ask_K0  K)
def rangetree_Tree_ask_K5  (K : Value → Hp → Prop) : Exit → Env → Hp → Prop := blockE 2 (rangetree_Tree_ask_K4  K)
def rangetree_Tree_ask_K6 (nx0 : Int × Int × Int × Unit → Hp → Prop) (K : Value → Hp → Prop) : Exit → Env → Hp → Prop := thenE (fun env h => getV [(10, .int .i64), (11, .int .i64), (48, .int .i64)] env fun s => nx0 s h) (rangetree_Tree_ask_K5  K)
def rangetree_Tree_ask_b0 (t : Option Addr) (x1 : Int) (x2 : Int) (y1 : Int) (y2 : Int) (h : Hp)  (K : Value → Hp → Prop) : Prop :=
  sx_4 Try.prog F 83 (cp [] (bodyOf Try.f33)) (ap [] rangetree_Tree_ask_an) [(0, .pointer t), (1, .int .i64 x1), (2, .int .i64 x2), (3, .int .i64 y1), (4, .int .i64 y2)] h (rangetree_Tree_ask_K0  K)
def rangetree_Tree_ask_b1 (count : Int) (sum : Int) (t23 : Int) (t : Option Addr) (x1 : Int) (x2 : Int) (y1 : Int) (y2 : Int) (t21 : Option Addr) (t21L : Nat) (t21C : Nat) (t22 : Int) (h : Hp) (nx0 : Int × Int × Int × Unit → Hp → Prop) (K : Value → Hp → Prop) : Prop :=
  sx_3 Try.prog F 83 (cp [1, 0, 1, 2, 2] (bodyOf Try.f33)) (ap [1, 0, 1, 2] rangetree_Tree_ask_an) [(10, .int .i64 count), (11, .int .i64 sum), (23, .int .i64 t23), (0, .pointer t), (1, .int .i64 x1), (2, .int .i64 x2), (3, .int .i64 y1), (4, .int .i64 y2), (21, .slice t21 t21L t21C), (22, .int .i64 t22)] h (rangetree_Tree_ask_K3 nx0 K)
def rangetree_Tree_ask_b2 (t : Option Addr) (x1 : Int) (x2 : Int) (y1 : Int) (y2 : Int) (count : Int) (sum : Int) (t21 : Option Addr) (t21L : Nat) (t21C : Nat) (t22 : Int) (t23 : Int) (h : Hp) (nx0 : Int × Int × Int × Unit → Hp → Prop) (K : Value → Hp → Prop) : Prop :=
  sx_2 Try.prog F 83 (cp [1, 0, 1, 2, 2, 1, 1, 1] (bodyOf Try.f33)) (ap [1, 0, 1, 2, 1, 1, 1] rangetree_Tree_ask_an) [(0, .pointer t), (1, .int .i64 x1), (2, .int .i64 x2), (3, .int .i64 y1), (4, .int .i64 y2), (10, .int .i64 count), (11, .int .i64 sum), (21, .slice t21 t21L t21C), (22, .int .i64 t22), (23, .int .i64 t23)] h (rangetree_Tree_ask_K3 nx0 K)
def rangetree_Tree_ask_b3 (t : Option Addr) (x1 : Int) (x2 : Int) (y1 : Int) (y2 : Int) (count : Int) (sum : Int) (h : Hp)  (K : Value → Hp → Prop) : Prop :=
  sx_3 Try.prog F 83 (cp [1, 1] (bodyOf Try.f33)) (ap [1, 1] rangetree_Tree_ask_an) [(0, .pointer t), (1, .int .i64 x1), (2, .int .i64 x2), (3, .int .i64 y1), (4, .int .i64 y2), (10, .int .i64 count), (11, .int .i64 sum)] h (rangetree_Tree_ask_K0  K)
def rangetree_Tree_ask_b4 (count : Int) (sum : Int) (t48 : Int) (x1 : Int) (x2 : Int) (y1 : Int) (y2 : Int) (t46 : Option Addr) (t46L : Nat) (t46C : Nat) (t47 : Int) (h : Hp) (nx0 : Int × Int × Int × Unit → Hp → Prop) (K : Value → Hp → Prop) : Prop :=
  sx_2 Try.prog F 83 (cp [1, 1, 0, 1, 2, 2] (bodyOf Try.f33)) (ap [1, 1, 0, 1, 2] rangetree_Tree_ask_an) [(10, .int .i64 count), (11, .int .i64 sum), (48, .int .i64 t48), (1, .int .i64 x1), (2, .int .i64 x2), (3, .int .i64 y1), (4, .int .i64 y2), (46, .slice t46 t46L t46C), (47, .int .i64 t47)] h (rangetree_Tree_ask_K6 nx0 K)
def rangetree_Tree_ask_b5 (x1 : Int) (x2 : Int) (y1 : Int) (y2 : Int) (count : Int) (sum : Int) (t46 : Option Addr) (t46L : Nat) (t46C : Nat) (t47 : Int) (t48 : Int) (h : Hp) (nx0 : Int × Int × Int × Unit → Hp → Prop) (K : Value → Hp → Prop) : Prop :=
  sx_1 Try.prog F 83 (cp [1, 1, 0, 1, 2, 2, 1, 1, 1] (bodyOf Try.f33)) (ap [1, 1, 0, 1, 2, 1, 1, 1] rangetree_Tree_ask_an) [(1, .int .i64 x1), (2, .int .i64 x2), (3, .int .i64 y1), (4, .int .i64 y2), (10, .int .i64 count), (11, .int .i64 sum), (46, .slice t46 t46L t46C), (47, .int .i64 t47), (48, .int .i64 t48)] h (rangetree_Tree_ask_K6 nx0 K)
def rangetree_Tree_ask_b6 (count : Int) (sum : Int) (h : Hp)  (K : Value → Hp → Prop) : Prop :=
  sx_2 Try.prog F 83 (cp [1, 1, 1] (bodyOf Try.f33)) (ap [1, 1, 1] rangetree_Tree_ask_an) [(10, .int .i64 count), (11, .int .i64 sum)] h (rangetree_Tree_ask_K0  K)
theorem rangetree_Tree_ask_b0_eq (t : Option Addr) (x1 : Int) (x2 : Int) (y1 : Int) (y2 : Int) (h : Hp)  (K : Value → Hp → Prop) : rangetree_Tree_ask_b0 t x1 x2 y1 y2 h  K = (
  NN t fun a1 =>
  ∃ (a2 : Option Addr) (L1 C1 : Nat), cell h (a1.add 1) = some (.slice a2 L1 C1) ∧
  LoopVC ((0, 0, 0, ()) : Int × Int × Int × Unit) h (fun (nx0 : Int × Int × Int × Unit → Hp → Prop) (s1 : Int × Int × Int × Unit) h1 => rangetree_Tree_ask_b1 s1.1 s1.2.1 s1.2.2.1 t x1 x2 y1 y2 a2 L1 C1 (L1 : Int) h1 nx0 K)) := by kernel_rfl
theorem rangetree_Tree_ask_b1_eq (count : Int) (sum : Int) (t23 : Int) (t : Option Addr) (x1 : Int) (x2 : Int) (y1 : Int) (y2 : Int) (t21 : Option Addr) (t21L : Nat) (t21C : Nat) (t22 : Int) (h : Hp) (nx0 : Int × Int × Int × Unit → Hp → Prop) (K : Value → Hp → Prop) : rangetree_Tree_ask_b1 count sum t23 t x1 x2 y1 y2 t21 t21L t21C t22 h nx0 K = (
  cond (decide (t23 < t22))
  ((0 ≤ t23 ∧ t23 < (t21L : Int)) ∧
  NN t21 fun a3 =>
  ∃ p1 : Option Addr, cell h (a3.add (Int.toNat t23 * 1)) = some (.pointer p1) ∧
  HCalls Try.prog 49 #[.pointer p1, .int .i64 x1, .int .i64 x2, .int .i64 y1, .int .i64 y2] h fun v1 h2 => ∃ r1 : Int, ∃ r2 : Int, v1 = .tuple #[.int .i64 r1, .int .i64 r2] ∧
  InR (count + r1) ∧
  InR (sum + r2) ∧
  rangetree_Tree_ask_b2 t x1 x2 y1 y2 (count + r1) (sum + r2) t21 t21L t21C t22 t23 h2 nx0 K)
  (rangetree_Tree_ask_b3 t x1 x2 y1 y2 count sum h  K)) := by kernel_rfl
theorem rangetree_Tree_ask_b2_eq (t : Option Addr) (x1 : Int) (x2 : Int) (y1 : Int) (y2 : Int) (count : Int) (sum : Int) (t21 : Option Addr) (t21L : Nat) (t21C : Nat) (t22 : Int) (t23 : Int) (h : Hp) (nx0 : Int × Int × Int × Unit → Hp → Prop) (K : Value → Hp → Prop) : rangetree_Tree_ask_b2 t x1 x2 y1 y2 count sum t21 t21L t21C t22 t23 h nx0 K = (
  InR (t23 + 1) ∧
  nx0 (count, sum, t23 + 1, ()) h) := by kernel_rfl
theorem rangetree_Tree_ask_b3_eq (t : Option Addr) (x1 : Int) (x2 : Int) (y1 : Int) (y2 : Int) (count : Int) (sum : Int) (h : Hp)  (K : Value → Hp → Prop) : rangetree_Tree_ask_b3 t x1 x2 y1 y2 count sum h  K = (
  NN t fun a4 =>
  ∃ (a5 : Option Addr) (L2 C2 : Nat), cell h (a4.add 2) = some (.slice a5 L2 C2) ∧
  LoopVC ((count, sum, 0, ()) : Int × Int × Int × Unit) h (fun (nx0 : Int × Int × Int × Unit → Hp → Prop) (s2 : Int × Int × Int × Unit) h3 => rangetree_Tree_ask_b4 s2.1 s2.2.1 s2.2.2.1 x1 x2 y1 y2 a5 L2 C2 (L2 : Int) h3 nx0 K)) := by kernel_rfl
theorem rangetree_Tree_ask_b4_eq (count : Int) (sum : Int) (t48 : Int) (x1 : Int) (x2 : Int) (y1 : Int) (y2 : Int) (t46 : Option Addr) (t46L : Nat) (t46C : Nat) (t47 : Int) (h : Hp) (nx0 : Int × Int × Int × Unit → Hp → Prop) (K : Value → Hp → Prop) : rangetree_Tree_ask_b4 count sum t48 x1 x2 y1 y2 t46 t46L t46C t47 h nx0 K = (
  cond (decide (t48 < t47))
  ((0 ≤ t48 ∧ t48 < (t46L : Int)) ∧
  NN t46 fun a6 =>
  ∃ n1 : Int, ∃ n2 : Int, ∃ n3 : Int, cell h (a6.add (Int.toNat t48 * 3)) = some (.int .i64 n1) ∧
  cell h ((a6.add (Int.toNat t48 * 3)).add 1) = some (.int .i64 n2) ∧
  cell h ((a6.add (Int.toNat t48 * 3)).add 2) = some (.int .i64 n3) ∧
  New h (.cells #[.int .i64 0, .int .i64 0, .int .i64 0] 33) fun b1 h4 =>
  Wr h4 ⟨b1, 0, none⟩ (.int .i64 n1) fun h5 =>
  Wr h5 ((⟨b1, 0, none⟩ : Addr).add 1) (.int .i64 n2) fun h6 =>
  Wr h6 ((⟨b1, 0, none⟩ : Addr).add 2) (.int .i64 n3) fun h7 =>
  ∃ n4 : Int, cell h7 ⟨b1, 0, none⟩ = some (.int .i64 n4) ∧
  cond (decide (x1 ≤ n4))
  (∃ n5 : Int, cell h7 ⟨b1, 0, none⟩ = some (.int .i64 n5) ∧
  cond (decide (n5 ≤ x2))
  (∃ n6 : Int, cell h7 ((⟨b1, 0, none⟩ : Addr).add 1) = some (.int .i64 n6) ∧
  cond (decide (y1 ≤ n6))
  (∃ n7 : Int, cell h7 ((⟨b1, 0, none⟩ : Addr).add 1) = some (.int .i64 n7) ∧
  cond (decide (n7 ≤ y2))
  (InR (count - 1) ∧
  ∃ n8 : Int, cell h7 ((⟨b1, 0, none⟩ : Addr).add 2) = some (.int .i64 n8) ∧
  InR (sum - n8) ∧
  rangetree_Tree_ask_b5 x1 x2 y1 y2 (count - 1) (sum - n8) t46 t46L t46C t47 t48 h7 nx0 K)
  (rangetree_Tree_ask_b5 x1 x2 y1 y2 count sum t46 t46L t46C t47 t48 h7 nx0 K))
  (rangetree_Tree_ask_b5 x1 x2 y1 y2 count sum t46 t46L t46C t47 t48 h7 nx0 K))
  (rangetree_Tree_ask_b5 x1 x2 y1 y2 count sum t46 t46L t46C t47 t48 h7 nx0 K))
  (rangetree_Tree_ask_b5 x1 x2 y1 y2 count sum t46 t46L t46C t47 t48 h7 nx0 K))
  (rangetree_Tree_ask_b6 count sum h  K)) := by kernel_rfl
theorem rangetree_Tree_ask_b5_eq (x1 : Int) (x2 : Int) (y1 : Int) (y2 : Int) (count : Int) (sum : Int) (t46 : Option Addr) (t46L : Nat) (t46C : Nat) (t47 : Int) (t48 : Int) (h : Hp) (nx0 : Int × Int × Int × Unit → Hp → Prop) (K : Value → Hp → Prop) : rangetree_Tree_ask_b5 x1 x2 y1 y2 count sum t46 t46L t46C t47 t48 h nx0 K = (
  InR (t48 + 1) ∧
  nx0 (count, sum, t48 + 1, ()) h) := by kernel_rfl
theorem rangetree_Tree_ask_b6_eq (count : Int) (sum : Int) (h : Hp)  (K : Value → Hp → Prop) : rangetree_Tree_ask_b6 count sum h  K = (
  K (.tuple #[.int .i64 count, .int .i64 sum]) h) := by kernel_rfl
theorem rangetree_Tree_ask_call {t : Option Addr} {x1 : Int} {x2 : Int} {y1 : Int} {y2 : Int} {h : Hp} {K : Value → Hp → Prop} (hk : rangetree_Tree_ask_b0 t x1 x2 y1 y2 h K) : HCalls Try.prog 33 #[.pointer t, .int .i64 x1, .int .i64 x2, .int .i64 y1, .int .i64 y2] h K :=
  calls_of_snd rangetree_Tree_ask_an Try.func33 (c := bodyOf Try.f33) rfl Try.ntmps33 (Nat.le_of_ble_eq_true rfl) (snd_4 F_ok F_mixed) hk

/-! ### slices_DeleteFunc_Sapi_Point_api_Point -/
def slices_DeleteFunc_Sapi_Point_api_Point_an : Ann := .node none (.leaf) (.node none (.leaf) (.node none (.leaf) (.node (some [0, 5]) (.node none (.leaf) (.loop [0, 1] [(5, .int .i64), (6, .int .i64)] (.node none (.leaf) (.node (some [0, 1, 5, 6]) (.leaf) (.leaf))))) (.leaf))))
def slices_DeleteFunc_Sapi_Point_api_Point_K0  (K : Value → Hp → Prop) : Exit → Env → Hp → Prop := retK Try.prog Try.f34.results.toList K
def slices_DeleteFunc_Sapi_Point_api_Point_K1  (K : Value → Hp → Prop) : Exit → Env → Hp → Prop := thenE (fun env h => sx_2 Try.prog F 42 (cp [1, 1, 1, 1] (bodyOf Try.f34)) (ap [1, 1, 1, 1] slices_DeleteFunc_Sapi_Point_api_Point_an) (rs [0, 5] env) h (slices_DeleteFunc_Sapi_Point_api_Point_K0  K)) (slices_DeleteFunc_Sapi_Point_api_Point_K0  K)
def slices_DeleteFunc_Sapi_Point_api_Point_K2  (K : Value → Hp → Prop) : Exit → Env → Hp → Prop := blockE 0 (slices_DeleteFunc_Sapi_Point_api_Point_K1  K)
def slices_DeleteFunc_Sapi_Point_api_Point_K3 (nx0 : Int × Int × Unit → Hp → Prop) (K : Value → Hp → Prop) : Exit → Env → Hp → Prop := thenE (fun env h => getV [(5, .int .i64), (6, .int .i64)] env fun s => nx0 s h) (slices_DeleteFunc_Sapi_Point_api_Point_K2  K)
def slices_DeleteFunc_Sapi_Point_api_Point_b0 (s : Option Addr) (sL : Nat) (sC : Nat) (del : Value) (h : Hp)  (K : Value → Hp → Prop) : Prop :=
  sx_3 Try.prog F 42 (cp [] (bodyOf Try.f34)) (ap [] slices_DeleteFunc_Sapi_Point_api_Point_an) [(0, .slice s sL sC), (1, del)] h (slices_DeleteFunc_Sapi_Point_api_Point_K0  K)
def slices_DeleteFunc_Sapi_Point_api_Point_b1 (i : Int) (j : Int) (s : Option Addr) (sL : Nat) (sC : Nat) (del : Value) (h : Hp) (nx0 : Int × Int × Unit → Hp → Prop) (K : Value → Hp → Prop) : Prop :=
  sx_2 Try.prog F 42 (cp [1, 1, 1, 0, 1, 2, 2] (bodyOf Try.f34)) (ap [1, 1, 1, 0, 1, 2] slices_DeleteFunc_Sapi_Point_api_Point_an) [(5, .int .i64 i), (6, .int .i64 j), (0, .slice s sL sC), (1, del)] h (slices_DeleteFunc_Sapi_Point_api_Point_K3 nx0 K)
def slices_DeleteFunc_Sapi_Point_api_Point_b2 (s : Option Addr) (sL : Nat) (sC : Nat) (del : Value) (i : Int) (j : Int) (h : Hp) (nx0 : Int × Int × Unit → Hp → Prop) (K : Value → Hp → Prop) : Prop :=
  sx_1 Try.prog F 42 (cp [1, 1, 1, 0, 1, 2, 2, 1, 1] (bodyOf Try.f34)) (ap [1, 1, 1, 0, 1, 2, 1, 1] slices_DeleteFunc_Sapi_Point_api_Point_an) [(0, .slice s sL sC), (1, del), (5, .int .i64 i), (6, .int .i64 j)] h (slices_DeleteFunc_Sapi_Point_api_Point_K3 nx0 K)
def slices_DeleteFunc_Sapi_Point_api_Point_b3 (s : Option Addr) (sL : Nat) (sC : Nat) (i : Int) (h : Hp)  (K : Value → Hp → Prop) : Prop :=
  sx_2 Try.prog F 42 (cp [1, 1, 1, 1] (bodyOf Try.f34)) (ap [1, 1, 1, 1] slices_DeleteFunc_Sapi_Point_api_Point_an) [(0, .slice s sL sC), (5, .int .i64 i)] h (slices_DeleteFunc_Sapi_Point_api_Point_K0  K)
theorem slices_DeleteFunc_Sapi_Point_api_Point_b0_eq (s : Option Addr) (sL : Nat) (sC : Nat) (del : Value) (h : Hp)  (K : Value → Hp → Prop) : slices_DeleteFunc_Sapi_Point_api_Point_b0 s sL sC del h  K = (
  HCalls Try.prog 44 #[.slice s sL sC, del] h fun v1 h1 => ∃ r1 : Int, v1 = .int .i64 r1 ∧
  cond (decide (r1 = (-1)))
  (K (.slice s sL sC) h1)
  (InR (r1 + 1) ∧
  LoopVC ((r1, r1 + 1, ()) : Int × Int × Unit) h1 (fun (nx0 : Int × Int × Unit → Hp → Prop) (s1 : Int × Int × Unit) h2 => slices_DeleteFunc_Sapi_Point_api_Point_b1 s1.1 s1.2.1 s sL sC del h2 nx0 K))) := by kernel_rfl
theorem slices_DeleteFunc_Sapi_Point_api_Point_b1_eq (i : Int) (j : Int) (s : Option Addr) (sL : Nat) (sC : Nat) (del : Value) (h : Hp) (nx0 : Int × Int × Unit → Hp → Prop) (K : Value → Hp → Prop) : slices_DeleteFunc_Sapi_Point_api_Point_b1 i j s sL sC del h nx0 K = (
  cond (decide (j < (sL : Int)))
  ((0 ≤ j ∧ j < (sL : Int)) ∧
  NN s fun a1 =>
  ∃ n1 : Int, ∃ n2 : Int, ∃ n3 : Int, cell h (a1.add (Int.toNat j * 3)) = some (.int .i64 n1) ∧
  cell h ((a1.add (Int.toNat j * 3)).add 1) = some (.int .i64 n2) ∧
  cell h ((a1.add (Int.toNat j * 3)).add 2) = some (.int .i64 n3) ∧
  New h (.cells #[.int .i64 0, .int .i64 0, .int .i64 0] 33) fun b1 h3 =>
  Wr h3 ⟨b1, 0, none⟩ (.int .i64 n1) fun h4 =>
  Wr h4 ((⟨b1, 0, none⟩ : Addr).add 1) (.int .i64 n2) fun h5 =>
  Wr h5 ((⟨b1, 0, none⟩ : Addr).add 2) (.int .i64 n3) fun h6 =>
  ∃ n4 : Int, ∃ n5 : Int, ∃ n6 : Int, cell h6 ⟨b1, 0, none⟩ = some (.int .i64 n4) ∧
  cell h6 ((⟨b1, 0, none⟩ : Addr).add 1) = some (.int .i64 n5) ∧
  cell h6 ((⟨b1, 0, none⟩ : Addr).add 2) = some (.int .i64 n6) ∧
  funV del fun fg1 fa1 fc1 => callX Try.prog F fg1 (fa1 ++ (([.agg #[.int .i64 n4, .int .i64 n5, .int .i64 n6]] : List Value) ++ fc1)).toArray h6 fun v2 h7 => ∃ r2 : Bool, v2 = .bool r2 ∧
  cond (!r2)
  (∃ n7 : Int, ∃ n8 : Int, ∃ n9 : Int, cell h7 ⟨b1, 0, none⟩ = some (.int .i64 n7) ∧
  cell h7 ((⟨b1, 0, none⟩ : Addr).add 1) = some (.int .i64 n8) ∧
  cell h7 ((⟨b1, 0, none⟩ : Addr).add 2) = some (.int .i64 n9) ∧
  (0 ≤ i ∧ i < (sL : Int)) ∧
  NN s fun a2 =>
  Wr h7 (a2.add (Int.toNat i * 3)) (.int .i64 n7) fun h8 =>
  Wr h8 ((a2.add (Int.toNat i * 3)).add 1) (.int .i64 n8) fun h9 =>
  Wr h9 ((a2.add (Int.toNat i * 3)).add 2) (.int .i64 n9) fun h10 =>
  InR (i + 1) ∧
  slices_DeleteFunc_Sapi_Point_api_Point_b2 s sL sC del (i + 1) j h10 nx0 K)
  (slices_DeleteFunc_Sapi_Point_api_Point_b2 s sL sC del i j h7 nx0 K))
  (slices_DeleteFunc_Sapi_Point_api_Point_b3 s sL sC i h  K)) := by kernel_rfl
theorem slices_DeleteFunc_Sapi_Point_api_Point_b2_eq (s : Option Addr) (sL : Nat) (sC : Nat) (del : Value) (i : Int) (j : Int) (h : Hp) (nx0 : Int × Int × Unit → Hp → Prop) (K : Value → Hp → Prop) : slices_DeleteFunc_Sapi_Point_api_Point_b2 s sL sC del i j h nx0 K = (
  InR (j + 1) ∧
  nx0 (i, j + 1, ()) h) := by kernel_rfl
theorem slices_DeleteFunc_Sapi_Point_api_Point_b3_eq (s : Option Addr) (sL : Nat) (sC : Nat) (i : Int) (h : Hp)  (K : Value → Hp → Prop) : slices_DeleteFunc_Sapi_Point_api_Point_b3 s sL sC i h  K = (
  (0 ≤ i ∧ i ≤ (sL : Int) ∧ (sL : Int) ≤ (sC : Int)) ∧
  clearV Try.prog 22 (.slice (subAddr s sC (Int.toNat i) 3) (Int.toNat (sL : Int) - Int.toNat i) (sC - Int.toNat i)) h fun h11 =>
  (0 ≤ (0 : Int) ∧ (0 : Int) ≤ i ∧ i ≤ (sC : Int)) ∧
  K (.slice (subAddr s sC (Int.toNat (0 : Int)) 3) (Int.toNat i - Int.toNat (0 : Int)) (sC - Int.toNat (0 : Int))) h11) := by kernel_rfl
theorem slices_DeleteFunc_Sapi_Point_api_Point_call {s : Option Addr} {sL : Nat} {sC : Nat} {del : Value} {h : Hp} {K : Value → Hp → Prop} (hk : slices_DeleteFunc_Sapi_Point_api_Point_b0 s sL sC del h K) : HCalls Try.prog 34 #[.slice s sL sC, del] h K :=
  calls_of_snd slices_DeleteFunc_Sapi_Point_api_Point_an Try.func34 (c := bodyOf Try.f34) rfl Try.ntmps34 (Nat.le_of_ble_eq_true rfl) (snd_3 F_ok F_mixed) hk

/-! ### rangetree_Tree_Report_c1 -/
def rangetree_Tree_Report_c1_an : Ann := .leaf
def rangetree_Tree_Report_c1_K0  (K : Value → Hp → Prop) : Exit → Env → Hp → Prop := retK Try.prog Try.f35.results.toList K
def rangetree_Tree_Report_c1_b0 (p_0 : Int) (p_1 : Int) (p_2 : Int) (t1 : Option Addr) (t2 : Option Addr) (t3 : Option Addr) (t4 : Option Addr) (h : Hp)  (K : Value → Hp → Prop) : Prop :=
  sx_1 Try.prog F 29 (cp [] (bodyOf Try.f35)) (ap [] rangetree_Tree_Report_c1_an) [(0, .agg #[.int .i64 p_0, .int .i64 p_1, .int .i64 p_2]), (1, .pointer t1), (2, .pointer t2), (3, .pointer t3), (4, .pointer t4)] h (rangetree_Tree_Report_c1_K0  K)
theorem rangetree_Tree_Report_c1_b0_eq (p_0 : Int) (p_1 : Int) (p_2 : Int) (t1 : Option Addr) (t2 : Option Addr) (t3 : Option Addr) (t4 : Option Addr) (h : Hp)  (K : Value → Hp → Prop) : rangetree_Tree_Report_c1_b0 p_0 p_1 p_2 t1 t2 t3 t4 h  K = (
  New h (.cells #[.int .i64 p_0, .int .i64 p_1, .int .i64 p_2] 33) fun b1 h1 =>
  ∃ n1 : Int, cell h1 ⟨b1, 0, none⟩ = some (.int .i64 n1) ∧
  NN t1 fun a1 =>
  ∃ n2 : Int, cell h1 a1 = some (.int .i64 n2) ∧
  cond (decide (n1 < n2))
  (K (.bool true) h1)
  (∃ n3 : Int, cell h1 ⟨b1, 0, none⟩ = some (.int .i64 n3) ∧
  NN t2 fun a2 =>
  ∃ n4 : Int, cell h1 a2 = some (.int .i64 n4) ∧
  cond (decide (n4 < n3))
  (K (.bool true) h1)
  (∃ n5 : Int, cell h1 ((⟨b1, 0, none⟩ : Addr).add 1) = some (.int .i64 n5) ∧
  NN t3 fun a3 =>
  ∃ n6 : Int, cell h1 a3 = some (.int .i64 n6) ∧
  cond (decide (n5 < n6))
  (K (.bool true) h1)
  (∃ n7 : Int, cell h1 ((⟨b1, 0, none⟩ : Addr).add 1) = some (.int .i64 n7) ∧
  NN t4 fun a4 =>
  ∃ n8 : Int, cell h1 a4 = some (.int .i64 n8) ∧
  K (.bool (decide (n8 < n7))) h1)))) := by kernel_rfl
theorem rangetree_Tree_Report_c1_call {p_0 : Int} {p_1 : Int} {p_2 : Int} {t1 : Option Addr} {t2 : Option Addr} {t3 : Option Addr} {t4 : Option Addr} {h : Hp} {K : Value → Hp → Prop} (hk : rangetree_Tree_Report_c1_b0 p_0 p_1 p_2 t1 t2 t3 t4 h K) : HCalls Try.prog 35 #[.agg #[.int .i64 p_0, .int .i64 p_1, .int .i64 p_2], .pointer t1, .pointer t2, .pointer t3, .pointer t4] h K :=
  calls_of_snd rangetree_Tree_Report_c1_an Try.func35 (c := bodyOf Try.f35) rfl Try.ntmps35 (Nat.le_of_ble_eq_true rfl) (snd_1 F_ok F_mixed) hk

/-! ### r31_Valid -/
def r31_Valid_an : Ann := .leaf
def r31_Valid_K0  (K : Value → Hp → Prop) : Exit → Env → Hp → Prop := retK Try.prog Try.f36.results.toList K
def r31_Valid_b0 (p_0 : Int) (p_1 : Int) (p_2 : Int) (h : Hp)  (K : Value → Hp → Prop) : Prop :=
  sx_1 Try.prog F 16 (cp [] (bodyOf Try.f36)) (ap [] r31_Valid_an) [(0, .agg #[.int .i64 p_0, .int .i64 p_1, .int .i64 p_2])] h (r31_Valid_K0  K)
theorem r31_Valid_b0_eq (p_0 : Int) (p_1 : Int) (p_2 : Int) (h : Hp)  (K : Value → Hp → Prop) : r31_Valid_b0 p_0 p_1 p_2 h  K = (
  New h (.cells #[.int .i64 p_0, .int .i64 p_1, .int .i64 p_2] 33) fun b1 h1 =>
  ∃ n1 : Int, cell h1 ⟨b1, 0, none⟩ = some (.int .i64 n1) ∧
  HCalls Try.prog 50 #[.int .i64 n1] h1 fun v1 h2 => ∃ r1 : Bool, v1 = .bool r1 ∧
  cond r1
  (∃ n2 : Int, cell h2 ((⟨b1, 0, none⟩ : Addr).add 1) = some (.int .i64 n2) ∧
  HCalls Try.prog 50 #[.int .i64 n2] h2 fun v2 h3 => ∃ r2 : Bool, v2 = .bool r2 ∧
  cond r2
  (∃ n3 : Int, cell h3 ((⟨b1, 0, none⟩ : Addr).add 2) = some (.int .i64 n3) ∧
  HCalls Try.prog 50 #[.int .i64 n3] h3 fun v3 h4 => ∃ r3 : Bool, v3 = .bool r3 ∧
  K (.bool r3) h4)
  (K (.bool false) h3))
  (K (.bool false) h2)) := by kernel_rfl
theorem r31_Valid_call {p_0 : Int} {p_1 : Int} {p_2 : Int} {h : Hp} {K : Value → Hp → Prop} (hk : r31_Valid_b0 p_0 p_1 p_2 h K) : HCalls Try.prog 36 #[.agg #[.int .i64 p_0, .int .i64 p_1, .int .i64 p_2]] h K :=
  calls_of_snd r31_Valid_an Try.func36 (c := bodyOf Try.f36) rfl Try.ntmps36 (Nat.le_of_ble_eq_true rfl) (snd_1 F_ok F_mixed) hk

/-! ### r31_At -/
def r31_At_an : Ann := .node none (.leaf) (.node (some []) (.node none (.leaf) (.loop [0, 1, 2] [(7, .int .i64)] (.node none (.leaf) (.node (some [0, 1, 2, 7]) (.leaf) (.leaf))))) (.leaf))
def r31_At_K0  (K : Value → Hp → Prop) : Exit → Env → Hp → Prop := retK Try.prog Try.f37.results.toList K
def r31_At_K1  (K : Value → Hp → Prop) : Exit → Env → Hp → Prop := thenE (fun env h => sx_2 Try.prog F 31 (cp [1, 1] (bodyOf Try.f37)) (ap [1, 1] r31_At_an) (rs [] env) h (r31_At_K0  K)) (r31_At_K0  K)
def r31_At_K2  (K : Value → Hp → Prop) : Exit → Env → Hp → Prop := blockE 0 (r31_At_K1  K)
def r31_At_K3 (nx0 : Int × Unit → Hp → Prop) (K : Value → Hp → Prop) : Exit → Env → Hp → Prop := thenE (fun env h => getV [(7, .int .i64)] env fun s => nx0 s h) (r31_At_K2  K)
def r31_At_b0 (l : Option Addr) (lL : Nat) (lC : Nat) (x : Int) (y : Int) (h : Hp)  (K : Value → Hp → Prop) : Prop :=
  sx_3 Try.prog F 31 (cp [] (bodyOf Try.f37)) (ap [] r31_At_an) [(0, .slice l lL lC), (1, .int .i64 x), (2, .int .i64 y)] h (r31_At_K0  K)
def r31_At_b1 (i : Int) (l : Option Addr) (lL : Nat) (lC : Nat) (x : Int) (y : Int) (h : Hp) (nx0 : Int × Unit → Hp → Prop) (K : Value → Hp → Prop) : Prop :=
  sx_2 Try.prog F 31 (cp [1, 0, 1, 2, 2] (bodyOf Try.f37)) (ap [1, 0, 1, 2] r31_At_an) [(7, .int .i64 i), (0, .slice l lL lC), (1, .int .i64 x), (2, .int .i64 y)] h (r31_At_K3 nx0 K)
def r31_At_b2 (l : Option Addr) (lL : Nat) (lC : Nat) (x : Int) (y : Int) (i : Int) (h : Hp) (nx0 : Int × Unit → Hp → Prop) (K : Value → Hp → Prop) : Prop :=
  sx_1 Try.prog F 31 (cp [1, 0, 1, 2, 2, 1, 1] (bodyOf Try.f37)) (ap [1, 0, 1, 2, 1, 1] r31_At_an) [(0, .slice l lL lC), (1, .int .i64 x), (2, .int .i64 y), (7, .int .i64 i)] h (r31_At_K3 nx0 K)
def r31_At_b3  (h : Hp)  (K : Value → Hp → Prop) : Prop :=
  sx_2 Try.prog F 31 (cp [1, 1] (bodyOf Try.f37)) (ap [1, 1] r31_At_an) [] h (r31_At_K0  K)
theorem r31_At_b0_eq (l : Option Addr) (lL : Nat) (lC : Nat) (x : Int) (y : Int) (h : Hp)  (K : Value → Hp → Prop) : r31_At_b0 l lL lC x y h  K = (
  LoopVC ((0, ()) : Int × Unit) h (fun (nx0 : Int × Unit → Hp → Prop) (s1 : Int × Unit) h1 => r31_At_b1 s1.1 l lL lC x y h1 nx0 K)) := by kernel_rfl
theorem r31_At_b1_eq (i : Int) (l : Option Addr) (lL : Nat) (lC : Nat) (x : Int) (y : Int) (h : Hp) (nx0 : Int × Unit → Hp → Prop) (K : Value → Hp → Prop) : r31_At_b1 i l lL lC x y h nx0 K = (
  cond (decide (i < (lL : Int)))
  ((0 ≤ i ∧ i < (lL : Int)) ∧
  NN l fun a1 =>
  ∃ n1 : Int, cell h (a1.add (Int.toNat i * 3)) = some (.int .i64 n1) ∧
  cond (decide (n1 = x))
  ((0 ≤ i ∧ i < (lL : Int)) ∧
  NN l fun a2 =>
  ∃ n2 : Int, cell h ((a2.add (Int.toNat i * 3)).add 1) = some (.int .i64 n2) ∧
  cond (decide (n2 = y))
  (K (.int .i64 i) h)
  (r31_At_b2 l lL lC x y i h nx0 K))
  (r31_At_b2 l lL lC x y i h nx0 K))
  (r31_At_b3  h  K)) := by kernel_rfl
theorem r31_At_b2_eq (l : Option Addr) (lL : Nat) (lC : Nat) (x : Int) (y : Int) (i : Int) (h : Hp) (nx0 : Int × Unit → Hp → Prop) (K : Value → Hp → Prop) : r31_At_b2 l lL lC x y i h nx0 K = (
  InR (i + 1) ∧
  nx0 (i + 1, ()) h) := by kernel_rfl
theorem r31_At_b3_eq  (h : Hp)  (K : Value → Hp → Prop) : r31_At_b3  h  K = (
  K (.int .i64 (-1)) h) := by kernel_rfl
theorem r31_At_call {l : Option Addr} {lL : Nat} {lC : Nat} {x : Int} {y : Int} {h : Hp} {K : Value → Hp → Prop} (hk : r31_At_b0 l lL lC x y h K) : HCalls Try.prog 37 #[.slice l lL lC, .int .i64 x, .int .i64 y] h K :=
  calls_of_snd r31_At_an Try.func37 (c := bodyOf Try.f37) rfl Try.ntmps37 (Nat.le_of_ble_eq_true rfl) (snd_3 F_ok F_mixed) hk

/-! ### r31_Put -/
def r31_Put_an : Ann := .node none (.leaf) (.node none (.leaf) (.node (some [0, 3, 5]) (.loop [0, 3] [(5, .int .i64)] (.node (some [0, 3, 5]) (.node none (.tail 10) (.leaf)) (.leaf))) (.node none (.plan (.qu 1 (.qu 2 (.qu 3 (.qu 5 (.qu 8 (.qu 9 (.qu 10 (.wo 0 (.wo 4 (.wo 6 (.wo 7 (.wo 11 (.wo 12 .fin .no) .no) .no) .no) (.wo 6 (.wo 4 (.wo 7 (.wo 11 (.wo 12 .fin .no) .no) .no) .no) .no)) (.wo 6 (.wo 0 (.wo 4 (.wo 7 (.wo 11 (.wo 12 .fin .no) .no) .no) .no) .no) .no)))))))))) (.leaf))))
def r31_Put_K0  (K : Value → Hp → Prop) : Exit → Env → Hp → Prop := retK Try.prog Try.f38.results.toList K
def r31_Put_K1  (K : Value → Hp → Prop) : Exit → Env → Hp → Prop := thenE (fun env h => sx_2 Try.prog F 32 (cp [1, 1, 1] (bodyOf Try.f38)) (ap [1, 1, 1] r31_Put_an) (rs [0, 3, 5] env) h (r31_Put_K0  K)) (r31_Put_K0  K)
def r31_Put_K2  (K : Value → Hp → Prop) : Exit → Env → Hp → Prop := blockE 0 (r31_Put_K1  K)
def r31_Put_K3 (nx0 : Int × Unit → Hp → Prop) (K : Value → Hp → Prop) : Exit → Env → Hp → Prop := thenE (fun env h => getV [(5, .int .i64)] env fun s => nx0 s h) (r31_Put_K2  K)
def r31_Put_b0 (l : Option Addr) (lL : Nat) (lC : Nat) (p_0 : Int) (p_1 : Int) (p_2 : Int) (h : Hp)  (K : Value → Hp → Prop) : Prop :=
  sx_3 Try.prog F 32 (cp [] (bodyOf Try.f38)) (ap [] r31_Put_an) [(0, .slice l lL lC), (1, .agg #[.int .i64 p_0, .int .i64 p_1, .int .i64 p_2])] h (r31_Put_K0  K)
def r31_Put_b1 (i : Int) (l : Option Addr) (lL : Nat) (lC : Nat) (p : Option Addr) (h : Hp) (nx0 : Int × Unit → Hp → Prop) (K : Value → Hp → Prop) : Prop :=
  sx_2 Try.prog F 32 (cp [1, 1, 0, 2, 2] (bodyOf Try.f38)) (ap [1, 1, 0, 2] r31_Put_an) [(5, .int .i64 i), (0, .slice l lL lC), (3, .pointer p)] h (r31_Put_K3 nx0 K)
def r31_Put_b2 (l : Option Addr) (lL : Nat) (lC : Nat) (p : Option Addr) (i : Int) (h : Hp) (nx0 : Int × Unit → Hp → Prop) (K : Value → Hp → Prop) : Prop :=
  sx_1 Try.prog F 32 (cp [1, 1, 0, 2, 2, 1] (bodyOf Try.f38)) (ap [1, 1, 0, 2, 1] r31_Put_an) [(0, .slice l lL lC), (3, .pointer p), (5, .int .i64 i)] h (r31_Put_K3 nx0 K)
def r31_Put_b3 (l : Option Addr) (lL : Nat) (lC : Nat) (p : Option Addr) (i : Int) (h : Hp)  (K : Value → Hp → Prop) : Prop :=
  sx_2 Try.prog F 32 (cp [1, 1, 1] (bodyOf Try.f38)) (ap [1, 1, 1] r31_Put_an) [(0, .slice l lL lC), (3, .pointer p), (5, .int .i64 i)] h (r31_Put_K0  K)
theorem r31_Put_b0_eq (l : Option Addr) (lL : Nat) (lC : Nat) (p_0 : Int) (p_1 : Int) (p_2 : Int) (h : Hp)  (K : Value → Hp → Prop) : r31_Put_b0 l lL lC p_0 p_1 p_2 h  K = (
  New h (.cells #[.int .i64 p_0, .int .i64 p_1, .int .i64 p_2] 33) fun b1 h1 =>
  LoopVC ((0, ()) : Int × Unit) h1 (fun (nx0 : Int × Unit → Hp → Prop) (s1 : Int × Unit) h2 => r31_Put_b1 s1.1 l lL lC (some ⟨b1, 0, none⟩) h2 nx0 K)) := by kernel_rfl
theorem r31_Put_b1_eq (i : Int) (l : Option Addr) (lL : Nat) (lC : Nat) (p : Option Addr) (h : Hp) (nx0 : Int × Unit → Hp → Prop) (K : Value → Hp → Prop) : r31_Put_b1 i l lL lC p h nx0 K = (
  cond (decide (i < (lL : Int)))
  ((0 ≤ i ∧ i < (lL : Int)) ∧
  NN l fun a1 =>
  ∃ n1 : Int, ∃ n2 : Int, ∃ n3 : Int, cell h (a1.add (Int.toNat i * 3)) = some (.int .i64 n1) ∧
  cell h ((a1.add (Int.toNat i * 3)).add 1) = some (.int .i64 n2) ∧
  cell h ((a1.add (Int.toNat i * 3)).add 2) = some (.int .i64 n3) ∧
  NN p fun a2 =>
  ∃ n4 : Int, ∃ n5 : Int, ∃ n6 : Int, cell h a2 = some (.int .i64 n4) ∧
  cell h (a2.add 1) = some (.int .i64 n5) ∧
  cell h (a2.add 2) = some (.int .i64 n6) ∧
  HCalls Try.prog 51 #[.agg #[.int .i64 n1, .int .i64 n2, .int .i64 n3], .agg #[.int .i64 n4, .int .i64 n5, .int .i64 n6]] h fun v1 h3 => ∃ r1 : Bool, v1 = .bool r1 ∧
  cond r1
  (r31_Put_b2 l lL lC p i h3 nx0 K)
  (r31_Put_b3 l lL lC p i h3  K))
  (r31_Put_b3 l lL lC p i h  K)) := by kernel_rfl
theorem r31_Put_b2_eq (l : Option Addr) (lL : Nat) (lC : Nat) (p : Option Addr) (i : Int) (h : Hp) (nx0 : Int × Unit → Hp → Prop) (K : Value → Hp → Prop) : r31_Put_b2 l lL lC p i h nx0 K = (
  InR (i + 1) ∧
  nx0 (i + 1, ()) h) := by kernel_rfl
theorem r31_Put_b3_eq (l : Option Addr) (lL : Nat) (lC : Nat) (p : Option Addr) (i : Int) (h : Hp)  (K : Value → Hp → Prop) : r31_Put_b3 l lL lC p i h  K = (
  (0 ≤ (0 : Int) ∧ (0 : Int) ≤ i ∧ i ≤ (lC : Int)) ∧
  NN p fun a3 =>
  ∃ n7 : Int, ∃ n8 : Int, ∃ n9 : Int, cell h a3 = some (.int .i64 n7) ∧
  cell h (a3.add 1) = some (.int .i64 n8) ∧
  cell h (a3.add 2) = some (.int .i64 n9) ∧
  (0 ≤ i ∧ i ≤ (lL : Int) ∧ (lL : Int) ≤ (lC : Int)) ∧
  (New h (.cells #[] 33) fun b2 h4 =>
  ((0 ≤ i ∧ i ≤ (lL : Int) ∧ (lL : Int) ≤ (lC : Int)) ∧
  (.slice (subAddr l lC (Int.toNat i) 3) (Int.toNat (lL : Int) - Int.toNat i) (lC - Int.toNat i) : Value) = .slice (subAddr l lC (Int.toNat i) 3) (Int.toNat (lL : Int) - Int.toNat i) (lC - Int.toNat i)) ∧
  (NN p fun a4 =>
  ∃ n10 : Int, ∃ n11 : Int, ∃ n12 : Int, cell h4 a4 = some (.int .i64 n10) ∧
  cell h4 (a4.add 1) = some (.int .i64 n11) ∧
  cell h4 (a4.add 2) = some (.int .i64 n12) ∧
  (.agg #[.int .i64 n10, .int .i64 n11, .int .i64 n12] : Value) = .agg #[.int .i64 n7, .int .i64 n8, .int .i64 n9]) ∧
  ((0 ≤ (0 : Int) ∧ (0 : Int) ≤ i ∧ i ≤ (lC : Int)) ∧
  (.slice (subAddr l lC (Int.toNat (0 : Int)) 3) (Int.toNat i - Int.toNat (0 : Int)) (lC - Int.toNat (0 : Int)) : Value) = .slice (subAddr l lC (Int.toNat (0 : Int)) 3) (Int.toNat i - Int.toNat (0 : Int)) (lC - Int.toNat (0 : Int))) ∧
  (appendV Try.prog 22 22 (.slice (some ⟨b2, 0, none⟩) 0 0) (.slice (subAddr l lC (Int.toNat (0 : Int)) 3) (Int.toNat i - Int.toNat (0 : Int)) (lC - Int.toNat (0 : Int))) h4 (slK fun a5 l1 c1 h5 =>
  ((0 ≤ i ∧ i ≤ (lL : Int) ∧ (lL : Int) ≤ (lC : Int)) ∧
  (.slice (subAddr l lC (Int.toNat i) 3) (Int.toNat (lL : Int) - Int.toNat i) (lC - Int.toNat i) : Value) = .slice (subAddr l lC (Int.toNat i) 3) (Int.toNat (lL : Int) - Int.toNat i) (lC - Int.toNat i)) ∧
  (NN p fun a6 =>
  ∃ n13 : Int, ∃ n14 : Int, ∃ n15 : Int, cell h5 a6 = some (.int .i64 n13) ∧
  cell h5 (a6.add 1) = some (.int .i64 n14) ∧
  cell h5 (a6.add 2) = some (.int .i64 n15) ∧
  (.agg #[.int .i64 n13, .int .i64 n14, .int .i64 n15] : Value) = .agg #[.int .i64 n7, .int .i64 n8, .int .i64 n9]) ∧
  New h5 (.cells #[.int .i64 n7, .int .i64 n8, .int .i64 n9] 33) fun b3 h6 =>
  ((0 ≤ i ∧ i ≤ (lL : Int) ∧ (lL : Int) ≤ (lC : Int)) ∧
  (.slice (subAddr l lC (Int.toNat i) 3) (Int.toNat (lL : Int) - Int.toNat i) (lC - Int.toNat i) : Value) = .slice (subAddr l lC (Int.toNat i) 3) (Int.toNat (lL : Int) - Int.toNat i) (lC - Int.toNat i)) ∧
  appendV Try.prog 22 22 (.slice a5 l1 c1) (.slice (some ⟨b3, 0, none⟩) 1 1) h6 (slK fun a7 l2 c2 h7 =>
  ((0 ≤ i ∧ i ≤ (lL : Int) ∧ (lL : Int) ≤ (lC : Int)) ∧
  (.slice (subAddr l lC (Int.toNat i) 3) (Int.toNat (lL : Int) - Int.toNat i) (lC - Int.toNat i) : Value) = .slice (subAddr l lC (Int.toNat i) 3) (Int.toNat (lL : Int) - Int.toNat i) (lC - Int.toNat i)) ∧
  appendV Try.prog 22 22 (.slice a7 l2 c2) (.slice (subAddr l lC (Int.toNat i) 3) (Int.toNat (lL : Int) - Int.toNat i) (lC - Int.toNat i)) h7 (slK fun a8 l3 c3 h8 =>
  K (.slice a8 l3 c3) h8)))) ∧
  (New h4 (.cells #[.int .i64 n7, .int .i64 n8, .int .i64 n9] 33) fun b4 h9 =>
  ((0 ≤ i ∧ i ≤ (lL : Int) ∧ (lL : Int) ≤ (lC : Int)) ∧
  (.slice (subAddr l lC (Int.toNat i) 3) (Int.toNat (lL : Int) - Int.toNat i) (lC - Int.toNat i) : Value) = .slice (subAddr l lC (Int.toNat i) 3) (Int.toNat (lL : Int) - Int.toNat i) (lC - Int.toNat i)) ∧
  ((0 ≤ (0 : Int) ∧ (0 : Int) ≤ i ∧ i ≤ (lC : Int)) ∧
  (.slice (subAddr l lC (Int.toNat (0 : Int)) 3) (Int.toNat i - Int.toNat (0 : Int)) (lC - Int.toNat (0 : Int)) : Value) = .slice (subAddr l lC (Int.toNat (0 : Int)) 3) (Int.toNat i - Int.toNat (0 : Int)) (lC - Int.toNat (0 : Int))) ∧
  appendV Try.prog 22 22 (.slice (some ⟨b2, 0, none⟩) 0 0) (.slice (subAddr l lC (Int.toNat (0 : Int)) 3) (Int.toNat i - Int.toNat (0 : Int)) (lC - Int.toNat (0 : Int))) h9 (slK fun a9 l4 c4 h10 =>
  ((0 ≤ i ∧ i ≤ (lL : Int) ∧ (lL : Int) ≤ (lC : Int)) ∧
  (.slice (subAddr l lC (Int.toNat i) 3) (Int.toNat (lL : Int) - Int.toNat i) (lC - Int.toNat i) : Value) = .slice (subAddr l lC (Int.toNat i) 3) (Int.toNat (lL : Int) - Int.toNat i) (lC - Int.toNat i)) ∧
  appendV Try.prog 22 22 (.slice a9 l4 c4) (.slice (some ⟨b4, 0, none⟩) 1 1) h10 (slK fun a10 l5 c5 h11 =>
  ((0 ≤ i ∧ i ≤ (lL : Int) ∧ (lL : Int) ≤ (lC : Int)) ∧
  (.slice (subAddr l lC (Int.toNat i) 3) (Int.toNat (lL : Int) - Int.toNat i) (lC - Int.toNat i) : Value) = .slice (subAddr l lC (Int.toNat i) 3) (Int.toNat (lL : Int) - Int.toNat i) (lC - Int.toNat i)) ∧
  appendV Try.prog 22 22 (.slice a10 l5 c5) (.slice (subAddr l lC (Int.toNat i) 3) (Int.toNat (lL : Int) - Int.toNat i) (lC - Int.toNat i)) h11 (slK fun a11 l6 c6 h12 =>
  K (.slice a11 l6 c6) h12))))) ∧
  (New h (.cells #[.int .i64 n7, .int .i64 n8, .int .i64 n9] 33) fun b5 h13 =>
  ((0 ≤ i ∧ i ≤ (lL : Int) ∧ (lL : Int) ≤ (lC : Int)) ∧
  (.slice (subAddr l lC (Int.toNat i) 3) (Int.toNat (lL : Int) - Int.toNat i) (lC - Int.toNat i) : Value) = .slice (subAddr l lC (Int.toNat i) 3) (Int.toNat (lL : Int) - Int.toNat i) (lC - Int.toNat i)) ∧
  ((0 ≤ (0 : Int) ∧ (0 : Int) ≤ i ∧ i ≤ (lC : Int)) ∧
  (.slice (subAddr l lC (Int.toNat (0 : Int)) 3) (Int.toNat i - Int.toNat (0 : Int)) (lC - Int.toNat (0 : Int)) : Value) = .slice (subAddr l lC (Int.toNat (0 : Int)) 3) (Int.toNat i - Int.toNat (0 : Int)) (lC - Int.toNat (0 : Int))) ∧
  New h13 (.cells #[] 33) fun b6 h14 =>
  ((0 ≤ i ∧ i ≤ (lL : Int) ∧ (lL : Int) ≤ (lC : Int)) ∧
  (.slice (subAddr l lC (Int.toNat i) 3) (Int.toNat (lL : Int) - Int.toNat i) (lC - Int.toNat i) : Value) = .slice (subAddr l lC (Int.toNat i) 3) (Int.toNat (lL : Int) - Int.toNat i) (lC - Int.toNat i)) ∧
  ((0 ≤ (0 : Int) ∧ (0 : Int) ≤ i ∧ i ≤ (lC : Int)) ∧
  (.slice (subAddr l lC (Int.toNat (0 : Int)) 3) (Int.toNat i - Int.toNat (0 : Int)) (lC - Int.toNat (0 : Int)) : Value) = .slice (subAddr l lC (Int.toNat (0 : Int)) 3) (Int.toNat i - Int.toNat (0 : Int)) (lC - Int.toNat (0 : Int))) ∧
  appendV Try.prog 22 22 (.slice (some ⟨b6, 0, none⟩) 0 0) (.slice (subAddr l lC (Int.toNat (0 : Int)) 3) (Int.toNat i - Int.toNat (0 : Int)) (lC - Int.toNat (0 : Int))) h14 (slK fun a12 l7 c7 h15 =>
  ((0 ≤ i ∧ i ≤ (lL : Int) ∧ (lL : Int) ≤ (lC : Int)) ∧
  (.slice (subAddr l lC (Int.toNat i) 3) (Int.toNat (lL : Int) - Int.toNat i) (lC - Int.toNat i) : Value) = .slice (subAddr l lC (Int.toNat i) 3) (Int.toNat (lL : Int) - Int.toNat i) (lC - Int.toNat i)) ∧
  appendV Try.prog 22 22 (.slice a12 l7 c7) (.slice (some ⟨b5, 0, none⟩) 1 1) h15 (slK fun a13 l8 c8 h16 =>
  ((0 ≤ i ∧ i ≤ (lL : Int) ∧ (lL : Int) ≤ (lC : Int)) ∧
  (.slice (subAddr l lC (Int.toNat i) 3) (Int.toNat (lL : Int) - Int.toNat i) (lC - Int.toNat i) : Value) = .slice (subAddr l lC (Int.toNat i) 3) (Int.toNat (lL : Int) - Int.toNat i) (lC - Int.toNat i)) ∧
  appendV Try.prog 22 22 (.slice a13 l8 c8) (.slice (subAddr l lC (Int.toNat i) 3) (Int.toNat (lL : Int) - Int.toNat i) (lC - Int.toNat i)) h16 (slK fun a14 l9 c9 h17 =>
  K (.slice a14 l9 c9) h17))))) := by kernel_rfl
theorem r31_Put_call {l : Option Addr} {lL : Nat} {lC : Nat} {p_0 : Int} {p_1 : Int} {p_2 : Int} {h : Hp} {K : Value → Hp → Prop} (hk : r31_Put_b0 l lL lC p_0 p_1 p_2 h K) : HCalls Try.prog 38 #[.slice l lL lC, .agg #[.int .i64 p_0, .int .i64 p_1, .int .i64 p_2]] h K :=
  calls_of_snd r31_Put_an Try.func38 (c := bodyOf Try.f38) rfl Try.ntmps38 (Nat.le_of_ble_eq_true rfl) (snd_3 F_ok F_mixed) hk

/-! ### r31_Report -/
def r31_Report_an : Ann := .node none (.leaf) (.node none (.leaf) (.node (some [11]) (.node none (.leaf) (.loop [0, 1, 2, 3, 4] [(11, .slice), (12, .int .i64)] (.node none (.leaf) (.node (some [0, 1, 2, 3, 4, 11, 12]) (.leaf) (.leaf))))) (.leaf)))
def r31_Report_K0  (K : Value → Hp → Prop) : Exit → Env → Hp → Prop := retK Try.prog Try.f39.results.toList K
def r31_Report_K1  (K : Value → Hp → Prop) : Exit → Env → Hp → Prop := thenE (fun env h => sx_2 Try.prog F 61 (cp [1, 1, 1] (bodyOf Try.f39)) (ap [1, 1, 1] r31_Report_an) (rs [11] env) h (r31_Report_K0  K)) (r31_Report_K0  K)
def r31_Report_K2  (K : Value → Hp → Prop) : Exit → Env → Hp → Prop := blockE 0 (r31_Report_K1  K)
def r31_Report_K3 (nx0 : (Option Addr × Nat × Nat) × Int × Unit → Hp → Prop) (K : Value → Hp → Prop) : Exit → Env → Hp → Prop := thenE (fun env h => getV [(11, .slice), (12, .int .i64)] env fun s => nx0 s h) (r31_Report_K2  K)
def r31_Report_b0 (l : Option Addr) (lL : Nat) (lC : Nat) (x1 : Int) (x2 : Int) (y1 : Int) (y2 : Int) (h : Hp)  (K : Value → Hp → Prop) : Prop :=
  sx_3 Try.prog F 61 (cp [] (bodyOf Try.f39)) (ap [] r31_Report_an) [(0, .slice l lL lC), (1, .int .i64 x1), (2, .int .i64 x2), (3, .int .i64 y1), (4, .int .i64 y2)] h (r31_Report_K0  K)
def r31_Report_b1 (out : Option Addr) (outL : Nat) (outC : Nat) (i : Int) (l : Option Addr) (lL : Nat) (lC : Nat) (x1 : Int) (x2 : Int) (y1 : Int) (y2 : Int) (h : Hp) (nx0 : (Option Addr × Nat × Nat) × Int × Unit → Hp → Prop) (K : Value → Hp → Prop) : Prop :=
  sx_2 Try.prog F 61 (cp [1, 1, 0, 1, 2, 2] (bodyOf Try.f39)) (ap [1, 1, 0, 1, 2] r31_Report_an) [(11, .slice out outL outC), (12, .int .i64 i), (0, .slice l lL lC), (1, .int .i64 x1), (2, .int .i64 x2), (3, .int .i64 y1), (4, .int .i64 y2)] h (r31_Report_K3 nx0 K)
def r31_Report_b2 (l : Option Addr) (lL : Nat) (lC : Nat) (x1 : Int) (x2 : Int) (y1 : Int) (y2 : Int) (out : Option Addr) (outL : Nat) (outC : Nat) (i : Int) (h : Hp) (nx0 : (Option Addr × Nat × Nat) × Int × Unit → Hp → Prop) (K : Value → Hp → Prop) : Prop :=
  sx_1 Try.prog F 61 (cp [1, 1, 0, 1, 2, 2, 1, 1] (bodyOf Try.f39)) (ap [1, 1, 0, 1, 2, 1, 1] r31_Report_an) [(0, .slice l lL lC), (1, .int .i64 x1), (2, .int .i64 x2), (3, .int .i64 y1), (4, .int .i64 y2), (11, .slice out outL outC), (12, .int .i64 i)] h (r31_Report_K3 nx0 K)
def r31_Report_b3 (out : Option Addr) (outL : Nat) (outC : Nat) (h : Hp)  (K : Value → Hp → Prop) : Prop :=
  sx_2 Try.prog F 61 (cp [1, 1, 1] (bodyOf Try.f39)) (ap [1, 1, 1] r31_Report_an) [(11, .slice out outL outC)] h (r31_Report_K0  K)
theorem r31_Report_b0_eq (l : Option Addr) (lL : Nat) (lC : Nat) (x1 : Int) (x2 : Int) (y1 : Int) (y2 : Int) (h : Hp)  (K : Value → Hp → Prop) : r31_Report_b0 l lL lC x1 x2 y1 y2 h  K = (
  LoopVC (((none, 0, 0), 0, ()) : (Option Addr × Nat × Nat) × Int × Unit) h (fun (nx0 : (Option Addr × Nat × Nat) × Int × Unit → Hp → Prop) (s1 : (Option Addr × Nat × Nat) × Int × Unit) h1 => r31_Report_b1 s1.1.1 s1.1.2.1 s1.1.2.2 s1.2.1 l lL lC x1 x2 y1 y2 h1 nx0 K)) := by kernel_rfl
theorem r31_Report_b1_eq (out : Option Addr) (outL : Nat) (outC : Nat) (i : Int) (l : Option Addr) (lL : Nat) (lC : Nat) (x1 : Int) (x2 : Int) (y1 : Int) (y2 : Int) (h : Hp) (nx0 : (Option Addr × Nat × Nat) × Int × Unit → Hp → Prop) (K : Value → Hp → Prop) : r31_Report_b1 out outL outC i l lL lC x1 x2 y1 y2 h nx0 K = (
  cond (decide (i < (lL : Int)))
  ((0 ≤ i ∧ i < (lL : Int)) ∧
  NN l fun a1 =>
  ∃ n1 : Int, cell h (a1.add (Int.toNat i * 3)) = some (.int .i64 n1) ∧
  cond (decide (x1 ≤ n1))
  ((0 ≤ i ∧ i < (lL : Int)) ∧
  NN l fun a2 =>
  ∃ n2 : Int, cell h (a2.add (Int.toNat i * 3)) = some (.int .i64 n2) ∧
  cond (decide (n2 ≤ x2))
  ((0 ≤ i ∧ i < (lL : Int)) ∧
  NN l fun a3 =>
  ∃ n3 : Int, cell h ((a3.add (Int.toNat i * 3)).add 1) = some (.int .i64 n3) ∧
  cond (decide (y1 ≤ n3))
  ((0 ≤ i ∧ i < (lL : Int)) ∧
  NN l fun a4 =>
  ∃ n4 : Int, cell h ((a4.add (Int.toNat i * 3)).add 1) = some (.int .i64 n4) ∧
  cond (decide (n4 ≤ y2))
  ((0 ≤ i ∧ i < (lL : Int)) ∧
  NN l fun a5 =>
  ∃ n5 : Int, ∃ n6 : Int, ∃ n7 : Int, cell h (a5.add (Int.toNat i * 3)) = some (.int .i64 n5) ∧
  cell h ((a5.add (Int.toNat i * 3)).add 1) = some (.int .i64 n6) ∧
  cell h ((a5.add (Int.toNat i * 3)).add 2) = some (.int .i64 n7) ∧
  New h (.cells #[.int .i64 n5, .int .i64 n6, .int .i64 n7] 33) fun b1 h2 =>
  appendV Try.prog 22 22 (.slice out outL outC) (.slice (some ⟨b1, 0, none⟩) 1 1) h2 (slK fun a6 l1 c1 h3 =>
  r31_Report_b2 l lL lC x1 x2 y1 y2 a6 l1 c1 i h3 nx0 K))
  (r31_Report_b2 l lL lC x1 x2 y1 y2 out outL outC i h nx0 K))
  (r31_Report_b2 l lL lC x1 x2 y1 y2 out outL outC i h nx0 K))
  (r31_Report_b2 l lL lC x1 x2 y1 y2 out outL outC i h nx0 K))
  (r31_Report_b2 l lL lC x1 x2 y1 y2 out outL outC i h nx0 K))
  (r31_Report_b3 out outL outC h  K)) := by kernel_rfl
theorem r31_Report_b2_eq (l : Option Addr) (lL : Nat) (lC : Nat) (x1 : Int) (x2 : Int) (y1 : Int) (y2 : Int) (out : Option Addr) (outL : Nat) (outC : Nat) (i : Int) (h : Hp) (nx0 : (Option Addr × Nat × Nat) × Int × Unit → Hp → Prop) (K : Value → Hp → Prop) : r31_Report_b2 l lL lC x1 x2 y1 y2 out outL outC i h nx0 K = (
  InR (i + 1) ∧
  nx0 ((out, outL, outC), i + 1, ()) h) := by kernel_rfl
theorem r31_Report_b3_eq (out : Option Addr) (outL : Nat) (outC : Nat) (h : Hp)  (K : Value → Hp → Prop) : r31_Report_b3 out outL outC h  K = (
  K (.slice out outL outC) h) := by kernel_rfl
theorem r31_Report_call {l : Option Addr} {lL : Nat} {lC : Nat} {x1 : Int} {x2 : Int} {y1 : Int} {y2 : Int} {h : Hp} {K : Value → Hp → Prop} (hk : r31_Report_b0 l lL lC x1 x2 y1 y2 h K) : HCalls Try.prog 39 #[.slice l lL lC, .int .i64 x1, .int .i64 x2, .int .i64 y1, .int .i64 y2] h K :=
  calls_of_snd r31_Report_an Try.func39 (c := bodyOf Try.f39) rfl Try.ntmps39 (Nat.le_of_ble_eq_true rfl) (snd_3 F_ok F_mixed) hk

/-! ### r31_Add -/
def r31_Add_an : Ann := .leaf
def r31_Add_K0  (K : Value → Hp → Prop) : Exit → Env → Hp → Prop := retK Try.prog Try.f40.results.toList K
def r31_Add_b0 (l : Option Addr) (lL : Nat) (lC : Nat) (p_0 : Int) (p_1 : Int) (p_2 : Int) (h : Hp)  (K : Value → Hp → Prop) : Prop :=
  sx_1 Try.prog F 25 (cp [] (bodyOf Try.f40)) (ap [] r31_Add_an) [(0, .slice l lL lC), (1, .agg #[.int .i64 p_0, .int .i64 p_1, .int .i64 p_2])] h (r31_Add_K0  K)
theorem r31_Add_b0_eq (l : Option Addr) (lL : Nat) (lC : Nat) (p_0 : Int) (p_1 : Int) (p_2 : Int) (h : Hp)  (K : Value → Hp → Prop) : r31_Add_b0 l lL lC p_0 p_1 p_2 h  K = (
  New h (.cells #[.int .i64 p_0, .int .i64 p_1, .int .i64 p_2] 33) fun b1 h1 =>
  ∃ n1 : Int, ∃ n2 : Int, ∃ n3 : Int, cell h1 ⟨b1, 0, none⟩ = some (.int .i64 n1) ∧
  cell h1 ((⟨b1, 0, none⟩ : Addr).add 1) = some (.int .i64 n2) ∧
  cell h1 ((⟨b1, 0, none⟩ : Addr).add 2) = some (.int .i64 n3) ∧
  HCalls Try.prog 36 #[.agg #[.int .i64 n1, .int .i64 n2, .int .i64 n3]] h1 fun v1 h2 => ∃ r1 : Bool, v1 = .bool r1 ∧
  cond (!r1)
  (K (.tuple #[.slice l lL lC, .int .i64 1]) h2)
  (∃ n4 : Int, cell h2 ⟨b1, 0, none⟩ = some (.int .i64 n4) ∧
  ∃ n5 : Int, cell h2 ((⟨b1, 0, none⟩ : Addr).add 1) = some (.int .i64 n5) ∧
  HCalls Try.prog 37 #[.slice l lL lC, .int .i64 n4, .int .i64 n5] h2 fun v2 h3 => ∃ r2 : Int, v2 = .int .i64 r2 ∧
  cond (decide ((0 : Int) ≤ r2))
  (K (.tuple #[.slice l lL lC, .int .i64 15]) h3)
  (cond (decide ((lL : Int) = 1000))
  (K (.tuple #[.slice l lL lC, .int .i64 4]) h3)
  (∃ n6 : Int, ∃ n7 : Int, ∃ n8 : Int, cell h3 ⟨b1, 0, none⟩ = some (.int .i64 n6) ∧
  cell h3 ((⟨b1, 0, none⟩ : Addr).add 1) = some (.int .i64 n7) ∧
  cell h3 ((⟨b1, 0, none⟩ : Addr).add 2) = some (.int .i64 n8) ∧
  HCalls Try.prog 38 #[.slice l lL lC, .agg #[.int .i64 n6, .int .i64 n7, .int .i64 n8]] h3 fun v3 h4 => ∃ (r3 : Option Addr) (rL1 rC1 : Nat), v3 = .slice r3 rL1 rC1 ∧
  K (.tuple #[.slice r3 rL1 rC1, .int .i64 0]) h4)))) := by kernel_rfl
theorem r31_Add_call {l : Option Addr} {lL : Nat} {lC : Nat} {p_0 : Int} {p_1 : Int} {p_2 : Int} {h : Hp} {K : Value → Hp → Prop} (hk : r31_Add_b0 l lL lC p_0 p_1 p_2 h K) : HCalls Try.prog 40 #[.slice l lL lC, .agg #[.int .i64 p_0, .int .i64 p_1, .int .i64 p_2]] h K :=
  calls_of_snd r31_Add_an Try.func40 (c := bodyOf Try.f40) rfl Try.ntmps40 (Nat.le_of_ble_eq_true rfl) (snd_1 F_ok F_mixed) hk

/-! ### r31_Remove -/
def r31_Remove_an : Ann := .node none (.leaf) (.node none (.leaf) (.node none (.leaf) (.node none (.plan (.qu 1 (.qu 2 (.qu 3 (.qu 5 (.qu 6 (.qu 7 (.qu 8 (.wo 0 (.wo 4 (.wo 9 (.wo 10 (.wo 11 .fin .no) .no) .no) .no) .no))))))))) (.leaf))))
def r31_Remove_K0  (K : Value → Hp → Prop) : Exit → Env → Hp → Prop := retK Try.prog Try.f41.results.toList K
def r31_Remove_b0 (l : Option Addr) (lL : Nat) (lC : Nat) (x : Int) (y : Int) (h : Hp)  (K : Value → Hp → Prop) : Prop :=
  sx_1 Try.prog F 26 (cp [] (bodyOf Try.f41)) (ap [] r31_Remove_an) [(0, .slice l lL lC), (1, .int .i64 x), (2, .int .i64 y)] h (r31_Remove_K0  K)
theorem r31_Remove_b0_eq (l : Option Addr) (lL : Nat) (lC : Nat) (x : Int) (y : Int) (h : Hp)  (K : Value → Hp → Prop) : r31_Remove_b0 l lL lC x y h  K = (
  HCalls Try.prog 37 #[.slice l lL lC, .int .i64 x, .int .i64 y] h fun v1 h1 => ∃ r1 : Int, v1 = .int .i64 r1 ∧
  cond (decide (r1 < 0))
  (K (.tuple #[.slice l lL lC, .int .i64 12]) h1)
  ((0 ≤ (0 : Int) ∧ (0 : Int) ≤ r1 ∧ r1 ≤ (lC : Int)) ∧
  InR (r1 + 1) ∧
  (0 ≤ r1 + 1 ∧ r1 + 1 ≤ (lL : Int) ∧ (lL : Int) ≤ (lC : Int)) ∧
  New h1 (.cells #[] 33) fun b1 h2 =>
  ((0 ≤ r1 + 1 ∧ r1 + 1 ≤ (lL : Int) ∧ (lL : Int) ≤ (lC : Int)) ∧
  (.slice (subAddr l lC (Int.toNat (r1 + 1)) 3) (Int.toNat (lL : Int) - Int.toNat (r1 + 1)) (lC - Int.toNat (r1 + 1)) : Value) = .slice (subAddr l lC (Int.toNat (r1 + 1)) 3) (Int.toNat (lL : Int) - Int.toNat (r1 + 1)) (lC - Int.toNat (r1 + 1))) ∧
  ((0 ≤ (0 : Int) ∧ (0 : Int) ≤ r1 ∧ r1 ≤ (lC : Int)) ∧
  (.slice (subAddr l lC (Int.toNat (0 : Int)) 3) (Int.toNat r1 - Int.toNat (0 : Int)) (lC - Int.toNat (0 : Int)) : Value) = .slice (subAddr l lC (Int.toNat (0 : Int)) 3) (Int.toNat r1 - Int.toNat (0 : Int)) (lC - Int.toNat (0 : Int))) ∧
  appendV Try.prog 22 22 (.slice (some ⟨b1, 0, none⟩) 0 0) (.slice (subAddr l lC (Int.toNat (0 : Int)) 3) (Int.toNat r1 - Int.toNat (0 : Int)) (lC - Int.toNat (0 : Int))) h2 (slK fun a1 l1 c1 h3 =>
  ((0 ≤ r1 + 1 ∧ r1 + 1 ≤ (lL : Int) ∧ (lL : Int) ≤ (lC : Int)) ∧
  (.slice (subAddr l lC (Int.toNat (r1 + 1)) 3) (Int.toNat (lL : Int) - Int.toNat (r1 + 1)) (lC - Int.toNat (r1 + 1)) : Value) = .slice (subAddr l lC (Int.toNat (r1 + 1)) 3) (Int.toNat (lL : Int) - Int.toNat (r1 + 1)) (lC - Int.toNat (r1 + 1))) ∧
  appendV Try.prog 22 22 (.slice a1 l1 c1) (.slice (subAddr l lC (Int.toNat (r1 + 1)) 3) (Int.toNat (lL : Int) - Int.toNat (r1 + 1)) (lC - Int.toNat (r1 + 1))) h3 (slK fun a2 l2 c2 h4 =>
  K (.tuple #[.slice a2 l2 c2, .int .i64 0]) h4)))) := by kernel_rfl
theorem r31_Remove_call {l : Option Addr} {lL : Nat} {lC : Nat} {x : Int} {y : Int} {h : Hp} {K : Value → Hp → Prop} (hk : r31_Remove_b0 l lL lC x y h K) : HCalls Try.prog 41 #[.slice l lL lC, .int .i64 x, .int .i64 y] h K :=
  calls_of_snd r31_Remove_an Try.func41 (c := bodyOf Try.f41) rfl Try.ntmps41 (Nat.le_of_ble_eq_true rfl) (snd_1 F_ok F_mixed) hk

/-! ### slices_pdqsortOrdered_int -/
/-! ### math_bits_Len -/
def math_bits_Len_an : Ann := .leaf
def math_bits_Len_K0  (K : Value → Hp → Prop) : Exit → Env → Hp → Prop := retK Try.prog Try.f43.results.toList K
def math_bits_Len_b0 (x : Int) (h : Hp)  (K : Value → Hp → Prop) : Prop :=
  sx_1 Try.prog F 8 (cp [] (bodyOf Try.f43)) (ap [] math_bits_Len_an) [(0, .int .u64 x)] h (math_bits_Len_K0  K)
theorem math_bits_Len_b0_eq (x : Int) (h : Hp)  (K : Value → Hp → Prop) : math_bits_Len_b0 x h  K = (
  HCalls Try.prog 62 #[.int .u64 x] h fun v1 h1 => ∃ r1 : Int, v1 = .int .i64 r1 ∧
  K (.int .i64 r1) h1) := by kernel_rfl
theorem math_bits_Len_call {x : Int} {h : Hp} {K : Value → Hp → Prop} (hk : math_bits_Len_b0 x h K) : HCalls Try.prog 43 #[.int .u64 x] h K :=
  calls_of_snd math_bits_Len_an Try.func43 (c := bodyOf Try.f43) rfl Try.ntmps43 (Nat.le_of_ble_eq_true rfl) (snd_1 F_ok F_mixed) hk

/-! ### slices_IndexFunc_Sapi_Point_api_Point -/
def slices_IndexFunc_Sapi_Point_api_Point_an : Ann := .node none (.leaf) (.node (some []) (.node none (.leaf) (.loop [0, 1, 7] [(8, .int .i64)] (.node none (.leaf) (.node none (.leaf) (.node (some [0, 1, 7, 8]) (.leaf) (.leaf)))))) (.leaf))
def slices_IndexFunc_Sapi_Point_api_Point_K0  (K : Value → Hp → Prop) : Exit → Env → Hp → Prop := retK Try.prog Try.f44.results.toList K
def slices_IndexFunc_Sapi_Point_api_Point_K1  (K : Value → Hp → Prop) : Exit → Env → Hp → Prop := thenE (fun env h => sx_2 Try.prog F 19 (cp [1, 1] (bodyOf Try.f44)) (ap [1, 1] slices_IndexFunc_Sapi_Point_api_Point_an) (rs [] env) h (slices_IndexFunc_Sapi_Point_api_Point_K0  K)) (slices_IndexFunc_Sapi_Point_api_Point_K0  K)
def slices_IndexFunc_Sapi_Point_api_Point_K2  (K : Value → Hp → Prop) : Exit → Env → Hp → Prop := blockE 0 (slices_IndexFunc_Sapi_Point_api_Point_K1  K)
def slices_IndexFunc_Sapi_Point_api_Point_K3 (nx0 : Int × Unit → Hp → Prop) (K : Value → Hp → Prop) : Exit → Env → Hp → Prop := thenE (fun env h => getV [(8, .int .i64)] env fun s => nx0 s h) (slices_IndexFunc_Sapi_Point_api_Point_K2  K)
def slices_IndexFunc_Sapi_Point_api_Point_b0 (s : Option Addr) (sL : Nat) (sC : Nat) (f : Value) (h : Hp)  (K : Value → Hp → Prop) : Prop :=
  sx_3 Try.prog F 19 (cp [] (bodyOf Try.f44)) (ap [] slices_IndexFunc_Sapi_Point_api_Point_an) [(0, .slice s sL sC), (1, f)] h (slices_IndexFunc_Sapi_Point_api_Point_K0  K)
def slices_IndexFunc_Sapi_Point_api_Point_b1 (t8 : Int) (s : Option Addr) (sL : Nat) (sC : Nat) (f : Value) (t7 : Int) (h : Hp) (nx0 : Int × Unit → Hp → Prop) (K : Value → Hp → Prop) : Prop :=
  sx_2 Try.prog F 19 (cp [1, 0, 1, 2, 2] (bodyOf Try.f44)) (ap [1, 0, 1, 2] slices_IndexFunc_Sapi_Point_api_Point_an) [(8, .int .i64 t8), (0, .slice s sL sC), (1, f), (7, .int .i64 t7)] h (slices_IndexFunc_Sapi_Point_api_Point_K3 nx0 K)
def slices_IndexFunc_Sapi_Point_api_Point_b2 (s : Option Addr) (sL : Nat) (sC : Nat) (f : Value) (t7 : Int) (t8 : Int) (h : Hp) (nx0 : Int × Unit → Hp → Prop) (K : Value → Hp → Prop) : Prop :=
  sx_1 Try.prog F 19 (cp [1, 0, 1, 2, 2, 1, 1, 1] (bodyOf Try.f44)) (ap [1, 0, 1, 2, 1, 1, 1] slices_IndexFunc_Sapi_Point_api_Point_an) [(0, .slice s sL sC), (1, f), (7, .int .i64 t7), (8, .int .i64 t8)] h (slices_IndexFunc_Sapi_Point_api_Point_K3 nx0 K)
def slices_IndexFunc_Sapi_Point_api_Point_b3  (h : Hp)  (K : Value → Hp → Prop) : Prop :=
  sx_2 Try.prog F 19 (cp [1, 1] (bodyOf Try.f44)) (ap [1, 1] slices_IndexFunc_Sapi_Point_api_Point_an) [] h (slices_IndexFunc_Sapi_Point_api_Point_K0  K)
theorem slices_IndexFunc_Sapi_Point_api_Point_b0_eq (s : Option Addr) (sL : Nat) (sC : Nat) (f : Value) (h : Hp)  (K : Value → Hp → Prop) : slices_IndexFunc_Sapi_Point_api_Point_b0 s sL sC f h  K = (
  LoopVC ((0, ()) : Int × Unit) h (fun (nx0 : Int × Unit → Hp → Prop) (s1 : Int × Unit) h1 => slices_IndexFunc_Sapi_Point_api_Point_b1 s1.1 s sL sC f (sL : Int) h1 nx0 K)) := by kernel_rfl
theorem slices_IndexFunc_Sapi_Point_api_Point_b1_eq (t8 : Int) (s : Option Addr) (sL : Nat) (sC : Nat) (f : Value) (t7 : Int) (h : Hp) (nx0 : Int × Unit → Hp → Prop) (K : Value → Hp → Prop) : slices_IndexFunc_Sapi_Point_api_Point_b1 t8 s sL sC f t7 h nx0 K = (
  cond (decide (t8 < t7))
  ((0 ≤ t8 ∧ t8 < (sL : Int)) ∧
  NN s fun a1 =>
  ∃ n1 : Int, ∃ n2 : Int, ∃ n3 : Int, cell h (a1.add (Int.toNat t8 * 3)) = some (.int .i64 n1) ∧
  cell h ((a1.add (Int.toNat t8 * 3)).add 1) = some (.int .i64 n2) ∧
  cell h ((a1.add (Int.toNat t8 * 3)).add 2) = some (.int .i64 n3) ∧
  funV f fun fg1 fa1 fc1 => callX Try.prog F fg1 (fa1 ++ (([.agg #[.int .i64 n1, .int .i64 n2, .int .i64 n3]] : List Value) ++ fc1)).toArray h fun v1 h2 => ∃ r1 : Bool, v1 = .bool r1 ∧
  cond r1
  (K (.int .i64 t8) h2)
  (slices_IndexFunc_Sapi_Point_api_Point_b2 s sL sC f t7 t8 h2 nx0 K))
  (slices_IndexFunc_Sapi_Point_api_Point_b3  h  K)) := by kernel_rfl
theorem slices_IndexFunc_Sapi_Point_api_Point_b2_eq (s : Option Addr) (sL : Nat) (sC : Nat) (f : Value) (t7 : Int) (t8 : Int) (h : Hp) (nx0 : Int × Unit → Hp → Prop) (K : Value → Hp → Prop) : slices_IndexFunc_Sapi_Point_api_Point_b2 s sL sC f t7 t8 h nx0 K = (
  InR (t8 + 1) ∧
  nx0 (t8 + 1, ()) h) := by kernel_rfl
theorem slices_IndexFunc_Sapi_Point_api_Point_b3_eq  (h : Hp)  (K : Value → Hp → Prop) : slices_IndexFunc_Sapi_Point_api_Point_b3  h  K = (
  K (.int .i64 (-1)) h) := by kernel_rfl
theorem slices_IndexFunc_Sapi_Point_api_Point_call {s : Option Addr} {sL : Nat} {sC : Nat} {f : Value} {h : Hp} {K : Value → Hp → Prop} (hk : slices_IndexFunc_Sapi_Point_api_Point_b0 s sL sC f h K) : HCalls Try.prog 44 #[.slice s sL sC, f] h K :=
  calls_of_snd slices_IndexFunc_Sapi_Point_api_Point_an Try.func44 (c := bodyOf Try.f44) rfl Try.ntmps44 (Nat.le_of_ble_eq_true rfl) (snd_3 F_ok F_mixed) hk

/-! ### rangetree_newPart -/
def rangetree_newPart_an : Ann := .leaf
def rangetree_newPart_K0  (K : Value → Hp → Prop) : Exit → Env → Hp → Prop := retK Try.prog Try.f45.results.toList K
def rangetree_newPart_b0 (l : Option Addr) (lL : Nat) (lC : Nat) (h : Hp)  (K : Value → Hp → Prop) : Prop :=
  sx_1 Try.prog F 13 (cp [] (bodyOf Try.f45)) (ap [] rangetree_newPart_an) [(0, .slice l lL lC)] h (rangetree_newPart_K0  K)
theorem rangetree_newPart_b0_eq (l : Option Addr) (lL : Nat) (lC : Nat) (h : Hp)  (K : Value → Hp → Prop) : rangetree_newPart_b0 l lL lC h  K = (
  HCalls Try.prog 63 #[.slice l lL lC] h fun v1 h1 => ∃ (r1 : Option Addr) (rL1 rC1 : Nat), v1 = .slice r1 rL1 rC1 ∧
  HCalls Try.prog 64 #[.slice r1 rL1 rC1, .func (.func 32) #[] #[]] h1 fun v2 h2 => v2 = .tuple #[] ∧
  HCalls Try.prog 65 #[.slice r1 rL1 rC1] h2 fun v3 h3 => ∃ r2 : Option Addr, v3 = .pointer r2 ∧
  New h3 (.cells #[.slice r1 rL1 rC1, .pointer r2] 74) fun b1 h4 =>
  K (.pointer (some ⟨b1, 0, none⟩)) h4) := by kernel_rfl
theorem rangetree_newPart_call {l : Option Addr} {lL : Nat} {lC : Nat} {h : Hp} {K : Value → Hp → Prop} (hk : rangetree_newPart_b0 l lL lC h K) : HCalls Try.prog 45 #[.slice l lL lC] h K :=
  calls_of_snd rangetree_newPart_an Try.func45 (c := bodyOf Try.f45) rfl Try.ntmps45 (Nat.le_of_ble_eq_true rfl) (snd_1 F_ok F_mixed) hk

/-! ### slices_pdqsortCmpFunc_api_Point -/
def slices_pdqsortCmpFunc_api_Point_an : Ann := .node none (.leaf) (.node none (.leaf) (.loop [0, 4] [(1, .int .i64), (2, .int .i64), (3, .int .i64), (10, .bool), (11, .bool)] (.node none (.leaf) (.node none (.leaf) (.node none (.leaf) (.node (some [0, 1, 2, 3, 4, 10, 11, 12]) (.leaf) (.node none (.leaf) (.node (some [0, 1, 2, 3, 4, 10, 11, 12, 13, 14]) (.leaf) (.node (some [0, 1, 2, 3, 4, 10, 11, 12, 13]) (.leaf) (.node (some [0, 1, 2, 3, 4, 12, 13]) (.node none (.tail 13) (.leaf)) (.leaf)))))))))))
def slices_pdqsortCmpFunc_api_Point_K0  (K : Value → Hp → Prop) : Exit → Env → Hp → Prop := retK Try.prog Try.f46.results.toList K
def slices_pdqsortCmpFunc_api_Point_K1  (K : Value → Hp → Prop) : Exit → Env → Hp → Prop := blockE 0 (slices_pdqsortCmpFunc_api_Point_K0  K)
def slices_pdqsortCmpFunc_api_Point_K2 (nx0 : Int × Int × Int × Bool × Bool × Unit → Hp → Prop) (K : Value → Hp → Prop) : Exit → Env → Hp → Prop := thenE (fun env h => getV [(1, .int .i64), (2, .int .i64), (3, .int .i64), (10, .bool), (11, .bool)] env fun s => nx0 s h) (slices_pdqsortCmpFunc_api_Point_K1  K)
def slices_pdqsortCmpFunc_api_Point_K3 (nx0 : Int × Int × Int × Bool × Bool × Unit → Hp → Prop) (K : Value → Hp → Prop) : Exit → Env → Hp → Prop := blockE 1 (slices_pdqsortCmpFunc_api_Point_K2 nx0 K)
def slices_pdqsortCmpFunc_api_Point_b0 (data : Option Addr) (dataL : Nat) (dataC : Nat) (a : Int) (b : Int) (limit : Int) (cmp : Value) (h : Hp)  (K : Value → Hp → Prop) : Prop :=
  sx_6 Try.prog F 148 (cp [] (bodyOf Try.f46)) (ap [] slices_pdqsortCmpFunc_api_Point_an) [(0, .slice data dataL dataC), (1, .int .i64 a), (2, .int .i64 b), (3, .int .i64 limit), (4, cmp)] h (slices_pdqsortCmpFunc_api_Point_K0  K)
def slices_pdqsortCmpFunc_api_Point_b1 (a : Int) (b : Int) (limit : Int) (wasBalanced : Bool) (wasPartitioned : Bool) (data : Option Addr) (dataL : Nat) (dataC : Nat) (cmp : Value) (h : Hp) (nx0 : Int × Int × Int × Bool × Bool × Unit → Hp → Prop) (K : Value → Hp → Prop) : Prop :=
  sx_5 Try.prog F 148 (cp [1, 1, 2, 2] (bodyOf Try.f46)) (ap [1, 1, 2] slices_pdqsortCmpFunc_api_Point_an) [(1, .int .i64 a), (2, .int .i64 b), (3, .int .i64 limit), (10, .bool wasBalanced), (11, .bool wasPartitioned), (0, .slice data dataL dataC), (4, cmp)] h (slices_pdqsortCmpFunc_api_Point_K2 nx0 K)
def slices_pdqsortCmpFunc_api_Point_b2 (data : Option Addr) (dataL : Nat) (dataC : Nat) (a : Int) (b : Int) (limit : Int) (cmp : Value) (wasBalanced : Bool) (wasPartitioned : Bool) (length : Int) (h : Hp) (nx0 : Int × Int × Int × Bool × Bool × Unit → Hp → Prop) (K : Value → Hp → Prop) : Prop :=
  sx_4 Try.prog F 148 (cp [1, 1, 2, 2, 2, 1, 1, 1, 1] (bodyOf Try.f46)) (ap [1, 1, 2, 1, 1, 1, 1] slices_pdqsortCmpFunc_api_Point_an) [(0, .slice data dataL dataC), (1, .int .i64 a), (2, .int .i64 b), (3, .int .i64 limit), (4, cmp), (10, .bool wasBalanced), (11, .bool wasPartitioned), (12, .int .i64 length)] h (slices_pdqsortCmpFunc_api_Point_K3 nx0 K)
def slices_pdqsortCmpFunc_api_Point_b3 (data : Option Addr) (dataL : Nat) (dataC : Nat) (a : Int) (b : Int) (limit : Int) (cmp : Value) (wasBalanced : Bool) (wasPartitioned : Bool) (length : Int) (pivot : Int) (hint : Int) (h : Hp) (nx0 : Int × Int × Int × Bool × Bool × Unit → Hp → Prop) (K : Value → Hp → Prop) : Prop :=
  sx_3 Try.prog F 148 (cp [1, 1, 2, 2, 2, 1, 1, 1, 1, 1, 1] (bodyOf Try.f46)) (ap [1, 1, 2, 1, 1, 1, 1, 1, 1] slices_pdqsortCmpFunc_api_Point_an) [(0, .slice data dataL dataC), (1, .int .i64 a), (2, .int .i64 b), (3, .int .i64 limit), (4, cmp), (10, .bool wasBalanced), (11, .bool wasPartitioned), (12, .int .i64 length), (13, .int .i64 pivot), (14, .int .i64 hint)] h (slices_pdqsortCmpFunc_api_Point_K3 nx0 K)
def slices_pdqsortCmpFunc_api_Point_b4 (data : Option Addr) (dataL : Nat) (dataC : Nat) (a : Int) (b : Int) (limit : Int) (cmp : Value) (wasBalanced : Bool) (wasPartitioned : Bool) (length : Int) (pivot : Int) (h : Hp) (nx0 : Int × Int × Int × Bool × Bool × Unit → Hp → Prop) (K : Value → Hp → Prop) : Prop :=
  sx_2 Try.prog F 148 (cp [1, 1, 2, 2, 2, 1, 1, 1, 1, 1, 1, 1] (bodyOf Try.f46)) (ap [1, 1, 2, 1, 1, 1, 1, 1, 1, 1] slices_pdqsortCmpFunc_api_Point_an) [(0, .slice data dataL dataC), (1, .int .i64 a), (2, .int .i64 b), (3, .int .i64 limit), (4, cmp), (10, .bool wasBalanced), (11, .bool wasPartitioned), (12, .int .i64 length), (13, .int .i64 pivot)] h (slices_pdqsortCmpFunc_api_Point_K3 nx0 K)
def slices_pdqsortCmpFunc_api_Point_b5 (data : Option Addr) (dataL : Nat) (dataC : Nat) (a : Int) (b : Int) (limit : Int) (cmp : Value) (length : Int) (pivot : Int) (h : Hp) (nx0 : Int × Int × Int × Bool × Bool × Unit → Hp → Prop) (K : Value → Hp → Prop) : Prop :=
  sx_1 Try.prog F 148 (cp [1, 1, 2, 2, 2, 1, 1, 1, 1, 1, 1, 1, 1] (bodyOf Try.f46)) (ap [1, 1, 2, 1, 1, 1, 1, 1, 1, 1, 1] slices_pdqsortCmpFunc_api_Point_an) [(0, .slice data dataL dataC), (1, .int .i64 a), (2, .int .i64 b), (3, .int .i64 limit), (4, cmp), (12, .int .i64 length), (13, .int .i64 pivot)] h (slices_pdqsortCmpFunc_api_Point_K3 nx0 K)
theorem slices_pdqsortCmpFunc_api_Point_b0_eq (data : Option Addr) (dataL : Nat) (dataC : Nat) (a : Int) (b : Int) (limit : Int) (cmp : Value) (h : Hp)  (K : Value → Hp → Prop) : slices_pdqsortCmpFunc_api_Point_b0 data dataL dataC a b limit cmp h  K = (
  LoopVC ((a, b, limit, true, true, ()) : Int × Int × Int × Bool × Bool × Unit) h (fun (nx0 : Int × Int × Int × Bool × Bool × Unit → Hp → Prop) (s1 : Int × Int × Int × Bool × Bool × Unit) h1 => slices_pdqsortCmpFunc_api_Point_b1 s1.1 s1.2.1 s1.2.2.1 s1.2.2.2.1 s1.2.2.2.2.1 data dataL dataC cmp h1 nx0 K)) := by kernel_rfl
theorem slices_pdqsortCmpFunc_api_Point_b1_eq (a : Int) (b : Int) (limit : Int) (wasBalanced : Bool) (wasPartitioned : Bool) (data : Option Addr) (dataL : Nat) (dataC : Nat) (cmp : Value) (h : Hp) (nx0 : Int × Int × Int × Bool × Bool × Unit → Hp → Prop) (K : Value → Hp → Prop) : slices_pdqsortCmpFunc_api_Point_b1 a b limit wasBalanced wasPartitioned data dataL dataC cmp h nx0 K = (
  InR (b - a) ∧
  cond (decide ((b - a) ≤ 12))
  (HCalls Try.prog 66 #[.slice data dataL dataC, .int .i64 a, .int .i64 b, cmp] h fun v1 h2 => v1 = .tuple #[] ∧
  K (.tuple #[]) h2)
  (cond (decide (limit = 0))
  (HCalls Try.prog 67 #[.slice data dataL dataC, .int .i64 a, .int .i64 b, cmp] h fun v2 h3 => v2 = .tuple #[] ∧
  K (.tuple #[]) h3)
  (cond (!wasBalanced)
  (HCalls Try.prog 68 #[.slice data dataL dataC, .int .i64 a, .int .i64 b, cmp] h fun v3 h4 => v3 = .tuple #[] ∧
  InR (limit - 1) ∧
  slices_pdqsortCmpFunc_api_Point_b2 data dataL dataC a b (limit - 1) cmp wasBalanced wasPartitioned (b - a) h4 nx0 K)
  (slices_pdqsortCmpFunc_api_Point_b2 data dataL dataC a b limit cmp wasBalanced wasPartitioned (b - a) h nx0 K)))) := by kernel_rfl
theorem slices_pdqsortCmpFunc_api_Point_b2_eq (data : Option Addr) (dataL : Nat) (dataC : Nat) (a : Int) (b : Int) (limit : Int) (cmp : Value) (wasBalanced : Bool) (wasPartitioned : Bool) (length : Int) (h : Hp) (nx0 : Int × Int × Int × Bool × Bool × Unit → Hp → Prop) (K : Value → Hp → Prop) : slices_pdqsortCmpFunc_api_Point_b2 data dataL dataC a b limit cmp wasBalanced wasPartitioned length h nx0 K = (
  HCalls Try.prog 69 #[.slice data dataL dataC, .int .i64 a, .int .i64 b, cmp] h fun v4 h5 => ∃ r1 : Int, ∃ r2 : Int, v4 = .tuple #[.int .i64 r1, .int .i64 r2] ∧
  cond (decide (r2 = 2))
  (HCalls Try.prog 70 #[.slice data dataL dataC, .int .i64 a, .int .i64 b, cmp] h5 fun v5 h6 => v5 = .tuple #[] ∧
  InR (b - 1) ∧
  InR (r1 - a) ∧
  InR ((b - 1) - (r1 - a)) ∧
  slices_pdqsortCmpFunc_api_Point_b3 data dataL dataC a b limit cmp wasBalanced wasPartitioned length ((b - 1) - (r1 - a)) 1 h6 nx0 K)
  (slices_pdqsortCmpFunc_api_Point_b3 data dataL dataC a b limit cmp wasBalanced wasPartitioned length r1 r2 h5 nx0 K)) := by kernel_rfl
theorem slices_pdqsortCmpFunc_api_Point_b3_eq (data : Option Addr) (dataL : Nat) (dataC : Nat) (a : Int) (b : Int) (limit : Int) (cmp : Value) (wasBalanced : Bool) (wasPartitioned : Bool) (length : Int) (pivot : Int) (hint : Int) (h : Hp) (nx0 : Int × Int × Int × Bool × Bool × Unit → Hp → Prop) (K : Value → Hp → Prop) : slices_pdqsortCmpFunc_api_Point_b3 data dataL dataC a b limit cmp wasBalanced wasPartitioned length pivot hint h nx0 K = (
  cond wasBalanced
  (cond wasPartitioned
  (cond (decide (hint = 1))
  (HCalls Try.prog 71 #[.slice data dataL dataC, .int .i64 a, .int .i64 b, cmp] h fun v6 h7 => ∃ r3 : Bool, v6 = .bool r3 ∧
  cond r3
  (K (.tuple #[]) h7)
  (slices_pdqsortCmpFunc_api_Point_b4 data dataL dataC a b limit cmp wasBalanced wasPartitioned length pivot h7 nx0 K))
  (slices_pdqsortCmpFunc_api_Point_b4 data dataL dataC a b limit cmp wasBalanced wasPartitioned length pivot h nx0 K))
  (slices_pdqsortCmpFunc_api_Point_b4 data dataL dataC a b limit cmp wasBalanced wasPartitioned length pivot h nx0 K))
  (slices_pdqsortCmpFunc_api_Point_b4 data dataL dataC a b limit cmp wasBalanced wasPartitioned length pivot h nx0 K)) := by kernel_rfl
theorem slices_pdqsortCmpFunc_api_Point_b4_eq (data : Option Addr) (dataL : Nat) (dataC : Nat) (a : Int) (b : Int) (limit : Int) (cmp : Value) (wasBalanced : Bool) (wasPartitioned : Bool) (length : Int) (pivot : Int) (h : Hp) (nx0 : Int × Int × Int × Bool × Bool × Unit → Hp → Prop) (K : Value → Hp → Prop) : slices_pdqsortCmpFunc_api_Point_b4 data dataL dataC a b limit cmp wasBalanced wasPartitioned length pivot h nx0 K = (
  cond (decide ((0 : Int) < a))
  (InR (a - 1) ∧
  (0 ≤ a - 1 ∧ a - 1 < (dataL : Int)) ∧
  NN data fun a1 =>
  ∃ n1 : Int, ∃ n2 : Int, ∃ n3 : Int, cell h (a1.add (Int.toNat (a - 1) * 3)) = some (.int .i64 n1) ∧
  cell h ((a1.add (Int.toNat (a - 1) * 3)).add 1) = some (.int .i64 n2) ∧
  cell h ((a1.add (Int.toNat (a - 1) * 3)).add 2) = some (.int .i64 n3) ∧
  (0 ≤ pivot ∧ pivot < (dataL : Int)) ∧
  NN data fun a2 =>
  ∃ n4 : Int, ∃ n5 : Int, ∃ n6 : Int, cell h (a2.add (Int.toNat pivot * 3)) = some (.int .i64 n4) ∧
  cell h ((a2.add (Int.toNat pivot * 3)).add 1) = some (.int .i64 n5) ∧
  cell h ((a2.add (Int.toNat pivot * 3)).add 2) = some (.int .i64 n6) ∧
  funV cmp fun fg1 fa1 fc1 => callX Try.prog F fg1 (fa1 ++ (([.agg #[.int .i64 n1, .int .i64 n2, .int .i64 n3], .agg #[.int .i64 n4, .int .i64 n5, .int .i64 n6]] : List Value) ++ fc1)).toArray h fun v7 h8 => ∃ r4 : Int, v7 = .int .i64 r4 ∧
  cond (!(decide (r4 < 0)))
  (HCalls Try.prog 72 #[.slice data dataL dataC, .int .i64 a, .int .i64 b, .int .i64 pivot, cmp] h8 fun v8 h9 => ∃ r5 : Int, v8 = .int .i64 r5 ∧
  nx0 (r5, b, limit, wasBalanced, wasPartitioned, ()) h9)
  (slices_pdqsortCmpFunc_api_Point_b5 data dataL dataC a b limit cmp length pivot h8 nx0 K))
  (slices_pdqsortCmpFunc_api_Point_b5 data dataL dataC a b limit cmp length pivot h nx0 K)) := by kernel_rfl
theorem slices_pdqsortCmpFunc_api_Point_b5_eq (data : Option Addr) (dataL : Nat) (dataC : Nat) (a : Int) (b : Int) (limit : Int) (cmp : Value) (length : Int) (pivot : Int) (h : Hp) (nx0 : Int × Int × Int × Bool × Bool × Unit → Hp → Prop) (K : Value → Hp → Prop) : slices_pdqsortCmpFunc_api_Point_b5 data dataL dataC a b limit cmp length pivot h nx0 K = (
  HCalls Try.prog 73 #[.slice data dataL dataC, .int .i64 a, .int .i64 b, .int .i64 pivot, cmp] h fun v9 h10 => ∃ r6 : Int, ∃ r7 : Bool, v9 = .tuple #[.int .i64 r6, .bool r7] ∧
  InR (r6 - a) ∧
  InR (b - r6) ∧
  ∃ q1 : Int, Sx.Quo .i64 length 8 q1 ∧
  cond (decide ((r6 - a) < (b - r6)))
  (HCalls Try.prog 46 #[.slice data dataL dataC, .int .i64 a, .int .i64 r6, .int .i64 limit, cmp] h10 fun v10 h11 => v10 = .tuple #[] ∧
  InR (r6 + 1) ∧
  nx0 (r6 + 1, b, limit, decide (q1 ≤ (r6 - a)), r7, ()) h11)
  (InR (r6 + 1) ∧
  HCalls Try.prog 46 #[.slice data dataL dataC, .int .i64 (r6 + 1), .int .i64 b, .int .i64 limit, cmp] h10 fun v11 h12 => v11 = .tuple #[] ∧
  nx0 (a, r6, limit, decide (q1 ≤ (b - r6)), r7, ()) h12)) := by kernel_rfl
theorem slices_pdqsortCmpFunc_api_Point_call {data : Option Addr} {dataL : Nat} {dataC : Nat} {a : Int} {b : Int} {limit : Int} {cmp : Value} {h : Hp} {K : Value → Hp → Prop} (hk : slices_pdqsortCmpFunc_api_Point_b0 data dataL dataC a b limit cmp h K) : HCalls Try.prog 46 #[.slice data dataL dataC, .int .i64 a, .int .i64 b, .int .i64 limit, cmp] h K :=
  calls_of_snd slices_pdqsortCmpFunc_api_Point_an Try.func46 (c := bodyOf Try.f46) rfl Try.ntmps46 (Nat.le_of_ble_eq_true rfl) (snd_6 F_ok F_mixed) hk

/-! ### cmp_Or_int -/
def cmp_Or_int_an : Ann := .node none (.leaf) (.node none (.leaf) (.node (some [3]) (.node none (.leaf) (.loop [3, 6, 7] [(8, .int .i64)] (.node none (.leaf) (.node none (.leaf) (.node (some [3, 6, 7, 8]) (.leaf) (.leaf)))))) (.leaf)))
def cmp_Or_int_K0  (K : Value → Hp → Prop) : Exit → Env → Hp → Prop := retK Try.prog Try.f47.results.toList K
def cmp_Or_int_K1  (K : Value → Hp → Prop) : Exit → Env → Hp → Prop := thenE (fun env h => sx_2 Try.prog F 18 (cp [1, 1, 1] (bodyOf Try.f47)) (ap [1, 1, 1] cmp_Or_int_an) (rs [3] env) h (cmp_Or_int_K0  K)) (cmp_Or_int_K0  K)
def cmp_Or_int_K2  (K : Value → Hp → Prop) : Exit → Env → Hp → Prop := blockE 0 (cmp_Or_int_K1  K)
def cmp_Or_int_K3 (nx0 : Int × Unit → Hp → Prop) (K : Value → Hp → Prop) : Exit → Env → Hp → Prop := thenE (fun env h => getV [(8, .int .i64)] env fun s => nx0 s h) (cmp_Or_int_K2  K)
def cmp_Or_int_b0 (vals : Option Addr) (valsL : Nat) (valsC : Nat) (h : Hp)  (K : Value → Hp → Prop) : Prop :=
  sx_3 Try.prog F 18 (cp [] (bodyOf Try.f47)) (ap [] cmp_Or_int_an) [(0, .slice vals valsL valsC)] h (cmp_Or_int_K0  K)
def cmp_Or_int_b1 (t8 : Int) (zero : Int) (t6 : Option Addr) (t6L : Nat) (t6C : Nat) (t7 : Int) (h : Hp) (nx0 : Int × Unit → Hp → Prop) (K : Value → Hp → Prop) : Prop :=
  sx_2 Try.prog F 18 (cp [1, 1, 0, 1, 2, 2] (bodyOf Try.f47)) (ap [1, 1, 0, 1, 2] cmp_Or_int_an) [(8, .int .i64 t8), (3, .int .i64 zero), (6, .slice t6 t6L t6C), (7, .int .i64 t7)] h (cmp_Or_int_K3 nx0 K)
def cmp_Or_int_b2 (zero : Int) (t6 : Option Addr) (t6L : Nat) (t6C : Nat) (t7 : Int) (t8 : Int) (h : Hp) (nx0 : Int × Unit → Hp → Prop) (K : Value → Hp → Prop) : Prop :=
  sx_1 Try.prog F 18 (cp [1, 1, 0, 1, 2, 2, 1, 1, 1] (bodyOf Try.f47)) (ap [1, 1, 0, 1, 2, 1, 1, 1] cmp_Or_int_an) [(3, .int .i64 zero), (6, .slice t6 t6L t6C), (7, .int .i64 t7), (8, .int .i64 t8)] h (cmp_Or_int_K3 nx0 K)
def cmp_Or_int_b3 (zero : Int) (h : Hp)  (K : Value → Hp → Prop) : Prop :=
  sx_2 Try.prog F 18 (cp [1, 1, 1] (bodyOf Try.f47)) (ap [1, 1, 1] cmp_Or_int_an) [(3, .int .i64 zero)] h (cmp_Or_int_K0  K)
theorem cmp_Or_int_b0_eq (vals : Option Addr) (valsL : Nat) (valsC : Nat) (h : Hp)  (K : Value → Hp → Prop) : cmp_Or_int_b0 vals valsL valsC h  K = (
  LoopVC ((0, ()) : Int × Unit) h (fun (nx0 : Int × Unit → Hp → Prop) (s1 : Int × Unit) h1 => cmp_Or_int_b1 s1.1 0 vals valsL valsC (valsL : Int) h1 nx0 K)) := by kernel_rfl
theorem cmp_Or_int_b1_eq (t8 : Int) (zero : Int) (t6 : Option Addr) (t6L : Nat) (t6C : Nat) (t7 : Int) (h : Hp) (nx0 : Int × Unit → Hp → Prop) (K : Value → Hp → Prop) : cmp_Or_int_b1 t8 zero t6 t6L t6C t7 h nx0 K = (
  cond (decide (t8 < t7))
  ((0 ≤ t8 ∧ t8 < (t6L : Int)) ∧
  NN t6 fun a1 =>
  ∃ n1 : Int, cell h (a1.add (Int.toNat t8 * 1)) = some (.int .i64 n1) ∧
  cond (!decide (n1 = zero))
  (K (.int .i64 n1) h)
  (cmp_Or_int_b2 zero t6 t6L t6C t7 t8 h nx0 K))
  (cmp_Or_int_b3 zero h  K)) := by kernel_rfl
theorem cmp_Or_int_b2_eq (zero : Int) (t6 : Option Addr) (t6L : Nat) (t6C : Nat) (t7 : Int) (t8 : Int) (h : Hp) (nx0 : Int × Unit → Hp → Prop) (K : Value → Hp → Prop) : cmp_Or_int_b2 zero t6 t6L t6C t7 t8 h nx0 K = (
  InR (t8 + 1) ∧
  nx0 (t8 + 1, ()) h) := by kernel_rfl
theorem cmp_Or_int_b3_eq (zero : Int) (h : Hp)  (K : Value → Hp → Prop) : cmp_Or_int_b3 zero h  K = (
  K (.int .i64 zero) h) := by kernel_rfl
theorem cmp_Or_int_call {vals : Option Addr} {valsL : Nat} {valsC : Nat} {h : Hp} {K : Value → Hp → Prop} (hk : cmp_Or_int_b0 vals valsL valsC h K) : HCalls Try.prog 47 #[.slice vals valsL valsC] h K :=
  calls_of_snd cmp_Or_int_an Try.func47 (c := bodyOf Try.f47) rfl Try.ntmps47 (Nat.le_of_ble_eq_true rfl) (snd_3 F_ok F_mixed) hk

/-! ### cmp_Compare_int -/
def cmp_Compare_int_an : Ann := .leaf
def cmp_Compare_int_K0  (K : Value → Hp → Prop) : Exit → Env → Hp → Prop := retK Try.prog Try.f48.results.toList K
def cmp_Compare_int_b0 (x : Int) (y : Int) (h : Hp)  (K : Value → Hp → Prop) : Prop :=
  sx_1 Try.prog F 20 (cp [] (bodyOf Try.f48)) (ap [] cmp_Compare_int_an) [(0, .int .i64 x), (1, .int .i64 y)] h (cmp_Compare_int_K0  K)
theorem cmp_Compare_int_b0_eq (x : Int) (y : Int) (h : Hp)  (K : Value → Hp → Prop) : cmp_Compare_int_b0 x y h  K = (
  HCalls Try.prog 74 #[.int .i64 x] h fun v1 h1 => ∃ r1 : Bool, v1 = .bool r1 ∧
  HCalls Try.prog 74 #[.int .i64 y] h1 fun v2 h2 => ∃ r2 : Bool, v2 = .bool r2 ∧
  cond r1
  (cond r2
  (K (.int .i64 0) h2)
  (K (.int .i64 (-1)) h2))
  (cond r2
  (K (.int .i64 1) h2)
  (cond (decide (x < y))
  (K (.int .i64 (-1)) h2)
  (cond (decide (y < x))
  (K (.int .i64 1) h2)
  (K (.int .i64 0) h2))))) := by kernel_rfl
theorem cmp_Compare_int_call {x : Int} {y : Int} {h : Hp} {K : Value → Hp → Prop} (hk : cmp_Compare_int_b0 x y h K) : HCalls Try.prog 48 #[.int .i64 x, .int .i64 y] h K :=
  calls_of_snd cmp_Compare_int_an Try.func48 (c := bodyOf Try.f48) rfl Try.ntmps48 (Nat.le_of_ble_eq_true rfl) (snd_1 F_ok F_mixed) hk

/-! ### rangetree_part_rectangle -/
def rangetree_part_rectangle_an : Ann := .node none (.leaf) (.node none (.leaf) (.node none (.leaf) (.node none (.plan (.qu 0 (.qu 1 (.qu 2 (.qu 3 (.qu 4 (.qu 5 (.qu 6 (.qu 7 (.qu 8 (.qu 9 (.qu 10 (.qu 11 (.qu 12 (.wo 13 (.qu 14 (.qu 15 (.wo 16 (.wo 17 .fin .no) .no))) .no))))))))))))))) (.leaf))))
def rangetree_part_rectangle_K0  (K : Value → Hp → Prop) : Exit → Env → Hp → Prop := retK Try.prog Try.f49.results.toList K
def rangetree_part_rectangle_b0 (p : Option Addr) (x1 : Int) (x2 : Int) (y1 : Int) (y2 : Int) (h : Hp)  (K : Value → Hp → Prop) : Prop :=
  sx_1 Try.prog F 50 (cp [] (bodyOf Try.f49)) (ap [] rangetree_part_rectangle_an) [(0, .pointer p), (1, .int .i64 x1), (2, .int .i64 x2), (3, .int .i64 y1), (4, .int .i64 y2)] h (rangetree_part_rectangle_K0  K)
theorem rangetree_part_rectangle_b0_eq (p : Option Addr) (x1 : Int) (x2 : Int) (y1 : Int) (y2 : Int) (h : Hp)  (K : Value → Hp → Prop) : rangetree_part_rectangle_b0 p x1 x2 y1 y2 h  K = (
  NN p fun a1 =>
  ∃ (a2 : Option Addr) (L1 C1 : Nat), cell h a1 = some (.slice a2 L1 C1) ∧
  HCalls Try.prog 75 #[.slice a2 L1 C1, .int .i64 x1, .func (.func 76) #[] #[]] h fun v1 h1 => ∃ r1 : Int, ∃ r2 : Bool, v1 = .tuple #[.int .i64 r1, .bool r2] ∧
  NN p fun a3 =>
  ∃ (a4 : Option Addr) (L2 C2 : Nat), cell h1 a3 = some (.slice a4 L2 C2) ∧
  HCalls Try.prog 75 #[.slice a4 L2 C2, .int .i64 x2, .func (.func 77) #[] #[]] h1 fun v2 h2 => ∃ r3 : Int, ∃ r4 : Bool, v2 = .tuple #[.int .i64 r3, .bool r4] ∧
  NN p fun a5 =>
  ∃ p1 : Option Addr, cell h2 (a5.add 1) = some (.pointer p1) ∧
  NN p fun a6 =>
  ∃ (a7 : Option Addr) (L3 C3 : Nat), cell h2 a6 = some (.slice a7 L3 C3) ∧
  HCalls Try.prog 78 #[.pointer p1, .int .i64 (L3 : Int), .int .i64 r1, .int .i64 r3, .int .i64 y1, .int .i64 y2] h2 fun v3 h3 => ∃ r5 : Int, ∃ r6 : Int, v3 = .tuple #[.int .i64 r5, .int .i64 r6] ∧
  K (.tuple #[.int .i64 r5, .int .i64 r6]) h3) := by kernel_rfl
theorem rangetree_part_rectangle_call {p : Option Addr} {x1 : Int} {x2 : Int} {y1 : Int} {y2 : Int} {h : Hp} {K : Value → Hp → Prop} (hk : rangetree_part_rectangle_b0 p x1 x2 y1 y2 h K) : HCalls Try.prog 49 #[.pointer p, .int .i64 x1, .int .i64 x2, .int .i64 y1, .int .i64 y2] h K :=
  calls_of_snd rangetree_part_rectangle_an Try.func49 (c := bodyOf Try.f49) rfl Try.ntmps49 (Nat.le_of_ble_eq_true rfl) (snd_1 F_ok F_mixed) hk

/-! ### r31_Key -/
def r31_Key_an : Ann := .leaf
def r31_Key_K0  (K : Value → Hp → Prop) : Exit → Env → Hp → Prop := retK Try.prog Try.f50.results.toList K
def r31_Key_b0 (nv : Int) (h : Hp)  (K : Value → Hp → Prop) : Prop :=
  sx_1 Try.prog F 9 (cp [] (bodyOf Try.f50)) (ap [] r31_Key_an) [(0, .int .i64 nv)] h (r31_Key_K0  K)
theorem r31_Key_b0_eq (nv : Int) (h : Hp)  (K : Value → Hp → Prop) : r31_Key_b0 nv h  K = (
  cond (decide (((-1048576) : Int) ≤ nv))
  (K (.bool (decide (nv ≤ 1048576))) h)
  (K (.bool false) h)) := by kernel_rfl
theorem r31_Key_call {nv : Int} {h : Hp} {K : Value → Hp → Prop} (hk : r31_Key_b0 nv h K) : HCalls Try.prog 50 #[.int .i64 nv] h K :=
  calls_of_snd r31_Key_an Try.func50 (c := bodyOf Try.f50) rfl Try.ntmps50 (Nat.le_of_ble_eq_true rfl) (snd_1 F_ok F_mixed) hk

/-! ### r31_before -/
def r31_before_an : Ann := .leaf
def r31_before_K0  (K : Value → Hp → Prop) : Exit → Env → Hp → Prop := retK Try.prog Try.f51.results.toList K
def r31_before_b0 (a_0 : Int) (a_1 : Int) (a_2 : Int) (b_0 : Int) (b_1 : Int) (b_2 : Int) (h : Hp)  (K : Value → Hp → Prop) : Prop :=
  sx_1 Try.prog F 24 (cp [] (bodyOf Try.f51)) (ap [] r31_before_an) [(0, .agg #[.int .i64 a_0, .int .i64 a_1, .int .i64 a_2]), (1, .agg #[.int .i64 b_0, .int .i64 b_1, .int .i64 b_2])] h (r31_before_K0  K)
theorem r31_before_b0_eq (a_0 : Int) (a_1 : Int) (a_2 : Int) (b_0 : Int) (b_1 : Int) (b_2 : Int) (h : Hp)  (K : Value → Hp → Prop) : r31_before_b0 a_0 a_1 a_2 b_0 b_1 b_2 h  K = (
  New h (.cells #[.int .i64 a_0, .int .i64 a_1, .int .i64 a_2] 33) fun b1 h1 =>
  New h1 (.cells #[.int .i64 b_0, .int .i64 b_1, .int .i64 b_2] 33) fun b2 h2 =>
  ∃ n1 : Int, cell h2 ⟨b1, 0, none⟩ = some (.int .i64 n1) ∧
  ∃ n2 : Int, cell h2 ⟨b2, 0, none⟩ = some (.int .i64 n2) ∧
  cond (decide (n1 < n2))
  (K (.bool true) h2)
  (∃ n3 : Int, cell h2 ⟨b1, 0, none⟩ = some (.int .i64 n3) ∧
  ∃ n4 : Int, cell h2 ⟨b2, 0, none⟩ = some (.int .i64 n4) ∧
  cond (decide (n3 = n4))
  (∃ n5 : Int, cell h2 ((⟨b1, 0, none⟩ : Addr).add 1) = some (.int .i64 n5) ∧
  ∃ n6 : Int, cell h2 ((⟨b2, 0, none⟩ : Addr).add 1) = some (.int .i64 n6) ∧
  K (.bool (decide (n5 < n6))) h2)
  (K (.bool false) h2))) := by kernel_rfl
theorem r31_before_call {a_0 : Int} {a_1 : Int} {a_2 : Int} {b_0 : Int} {b_1 : Int} {b_2 : Int} {h : Hp} {K : Value → Hp → Prop} (hk : r31_before_b0 a_0 a_1 a_2 b_0 b_1 b_2 h K) : HCalls Try.prog 51 #[.agg #[.int .i64 a_0, .int .i64 a_1, .int .i64 a_2], .agg #[.int .i64 b_0, .int .i64 b_1, .int .i64 b_2]] h K :=
  calls_of_snd r31_before_an Try.func51 (c := bodyOf Try.f51) rfl Try.ntmps51 (Nat.le_of_ble_eq_true rfl) (snd_1 F_ok F_mixed) hk

end Go.Proofs.Ytbfejfejahoblaa
