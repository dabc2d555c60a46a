/- Plain statements of what each block of code of this seat asks; printed by a program, checked by Lean. -/
import Derived.Test.YtbfejfejahoblaaSxV0
set_option maxRecDepth 10000
namespace Go.Proofs.Ytbfejfejahoblaa
open Go Go.Sx

/-! ### l31_RangetreeEffort -/
/-! ### l31_RangetreeBack -/
/-! ### l31_RangetreeOrder -/
/-! ### l31_RangetreeNil -/
/-! ### l31_RangetreePlays -/
def l31_RangetreePlays_an : Ann := .node none (.leaf) (.node (some [0, 1]) (.leaf) (.node none (.leaf) (.node none (.leaf) (.node none (.leaf) (.node (some [1, 5, 7]) (.leaf) (.node (some [5, 7]) (.node none (.leaf) (.loop [5, 67, 68] [(7, .slice), (69, .int .i64)] (.node none (.leaf) (.node none (.leaf) (.node (some [5, 7, 67, 68, 69]) (.leaf) (.leaf)))))) (.leaf)))))))
def l31_RangetreePlays_K0  (K : Value → Hp → Prop) : Exit → Env → Hp → Prop := retK Try.prog Try.f7.results.toList K
def l31_RangetreePlays_K1  (K : Value → Hp → Prop) : Exit → Env → Hp → Prop := thenE (fun env h => sx_2 Try.prog F 94 (cp [1, 1, 1, 1, 1, 1, 1] (bodyOf Try.f7)) (ap [1, 1, 1, 1, 1, 1, 1] l31_RangetreePlays_an) (rs [5, 7] env) h (l31_RangetreePlays_K0  K)) (l31_RangetreePlays_K0  K)
def l31_RangetreePlays_K2  (K : Value → Hp → Prop) : Exit → Env → Hp → Prop := blockE 0 (l31_RangetreePlays_K1  K)
def l31_RangetreePlays_K3 (nx0 : (Option Addr × Nat × Nat) × Int × Unit → Hp → Prop) (K : Value → Hp → Prop) : Exit → Env → Hp → Prop := thenE (fun env h => getV [(7, .slice), (69, .int .i64)] env fun s => nx0 s h) (l31_RangetreePlays_K2  K)
def l31_RangetreePlays_b0 (l : Option Addr) (lL : Nat) (lC : Nat) (steps : Option Addr) (stepsL : Nat) (stepsC : Nat) (h : Hp)  (K : Value → Hp → Prop) : Prop :=
  sx_5 Try.prog F 94 (cp [] (bodyOf Try.f7)) (ap [] l31_RangetreePlays_an) [(0, .slice l lL lC), (1, .slice steps stepsL stepsC)] h (l31_RangetreePlays_K0  K)
def l31_RangetreePlays_b1 (l : Option Addr) (lL : Nat) (lC : Nat) (steps : Option Addr) (stepsL : Nat) (stepsC : Nat) (h : Hp)  (K : Value → Hp → Prop) : Prop :=
  sx_4 Try.prog F 94 (cp [1, 1] (bodyOf Try.f7)) (ap [1, 1] l31_RangetreePlays_an) [(0, .slice l lL lC), (1, .slice steps stepsL stepsC)] h (l31_RangetreePlays_K0  K)
def l31_RangetreePlays_b2 (steps : Option Addr) (stepsL : Nat) (stepsC : Nat) (t : Option Addr) (m : Option Addr) (mL : Nat) (mC : Nat) (h : Hp)  (K : Value → Hp → Prop) : Prop :=
  sx_3 Try.prog F 94 (cp [1, 1, 1, 1, 1, 1] (bodyOf Try.f7)) (ap [1, 1, 1, 1, 1, 1] l31_RangetreePlays_an) [(1, .slice steps stepsL stepsC), (5, .pointer t), (7, .slice m mL mC)] h (l31_RangetreePlays_K0  K)
def l31_RangetreePlays_b3 (m : Option Addr) (mL : Nat) (mC : Nat) (t69 : Int) (t : Option Addr) (t67 : Option Addr) (t67L : Nat) (t67C : Nat) (t68 : Int) (h : Hp) (nx0 : (Option Addr × Nat × Nat) × Int × Unit → Hp → Prop) (K : Value → Hp → Prop) : Prop :=
  sx_2 Try.prog F 94 (cp [1, 1, 1, 1, 1, 1, 0, 1, 2, 2] (bodyOf Try.f7)) (ap [1, 1, 1, 1, 1, 1, 0, 1, 2] l31_RangetreePlays_an) [(7, .slice m mL mC), (69, .int .i64 t69), (5, .pointer t), (67, .slice t67 t67L t67C), (68, .int .i64 t68)] h (l31_RangetreePlays_K3 nx0 K)
def l31_RangetreePlays_b4 (t : Option Addr) (m : Option Addr) (mL : Nat) (mC : Nat) (t67 : Option Addr) (t67L : Nat) (t67C : Nat) (t68 : Int) (t69 : Int) (h : Hp) (nx0 : (Option Addr × Nat × Nat) × Int × Unit → Hp → Prop) (K : Value → Hp → Prop) : Prop :=
  sx_1 Try.prog F 94 (cp [1, 1, 1, 1, 1, 1, 0, 1, 2, 2, 1, 1, 1] (bodyOf Try.f7)) (ap [1, 1, 1, 1, 1, 1, 0, 1, 2, 1, 1, 1] l31_RangetreePlays_an) [(5, .pointer t), (7, .slice m mL mC), (67, .slice t67 t67L t67C), (68, .int .i64 t68), (69, .int .i64 t69)] h (l31_RangetreePlays_K3 nx0 K)
def l31_RangetreePlays_b5 (t : Option Addr) (m : Option Addr) (mL : Nat) (mC : Nat) (h : Hp)  (K : Value → Hp → Prop) : Prop :=
  sx_2 Try.prog F 94 (cp [1, 1, 1, 1, 1, 1, 1] (bodyOf Try.f7)) (ap [1, 1, 1, 1, 1, 1, 1] l31_RangetreePlays_an) [(5, .pointer t), (7, .slice m mL mC)] h (l31_RangetreePlays_K0  K)
theorem l31_RangetreePlays_b0_eq (l : Option Addr) (lL : Nat) (lC : Nat) (steps : Option Addr) (stepsL : Nat) (stepsC : Nat) (h : Hp)  (K : Value → Hp → Prop) : l31_RangetreePlays_b0 l lL lC steps stepsL stepsC h  K = (
  HCalls Try.prog 9 #[] h fun v1 h1 => ∃ r1 : Bool, v1 = .bool r1 ∧
  cond (!r1)
  (HCalls Try.prog 9 #[] h1 fun v2 h2 => ∃ r2 : Bool, v2 = .bool r2 ∧
  K (.bool r2) h2)
  (cond (decide ((150 : Int) < (lL : Int)))
  (cond (decide ((lL : Int) ≤ 1000))
  (HCalls Try.prog 9 #[] h1 fun v3 h3 => ∃ r3 : Bool, v3 = .bool r3 ∧
  K (.bool r3) h3)
  (cond (decide ((1002 : Int) < (lL : Int)))
  (HCalls Try.prog 9 #[] h1 fun v4 h4 => ∃ r4 : Bool, v4 = .bool r4 ∧
  K (.bool r4) h4)
  (cond (decide ((50 : Int) < (stepsL : Int)))
  (HCalls Try.prog 9 #[] h1 fun v5 h5 => ∃ r5 : Bool, v5 = .bool r5 ∧
  K (.bool r5) h5)
  (l31_RangetreePlays_b1 l lL lC steps stepsL stepsC h1  K))))
  (cond (decide ((1002 : Int) < (lL : Int)))
  (HCalls Try.prog 9 #[] h1 fun v6 h6 => ∃ r6 : Bool, v6 = .bool r6 ∧
  K (.bool r6) h6)
  (cond (decide ((50 : Int) < (stepsL : Int)))
  (HCalls Try.prog 9 #[] h1 fun v7 h7 => ∃ r7 : Bool, v7 = .bool r7 ∧
  K (.bool r7) h7)
  (l31_RangetreePlays_b1 l lL lC steps stepsL stepsC h1  K))))) := by kernel_rfl
theorem l31_RangetreePlays_b1_eq (l : Option Addr) (lL : Nat) (lC : Nat) (steps : Option Addr) (stepsL : Nat) (stepsC : Nat) (h : Hp)  (K : Value → Hp → Prop) : l31_RangetreePlays_b1 l lL lC steps stepsL stepsC h  K = (
  HCalls Try.prog 10 #[.slice l lL lC] h fun v8 h8 => ∃ r8 : Option Addr, ∃ r9 : Int, v8 = .tuple #[.pointer r8, .int .i64 r9] ∧
  HCalls Try.prog 23 #[.slice l lL lC] h8 fun v9 h9 => ∃ (r10 : Option Addr) (rL1 rC1 : Nat), ∃ r11 : Int, v9 = .tuple #[.slice r10 rL1 rC1, .int .i64 r11] ∧
  cond (!decide (r11 = 0))
  (cond r8.isNone
  (K (.bool (decide (r9 = r11))) h9)
  (K (.bool false) h9))
  (cond r8.isNone
  (K (.bool false) h9)
  (cond (!decide (r9 = 0))
  (K (.bool false) h9)
  (HCalls Try.prog 15 #[.pointer r8] h9 fun v10 h10 => ∃ (r12 : Option Addr) (rL2 rC2 : Nat), v10 = .slice r12 rL2 rC2 ∧
  HCalls Try.prog 18 #[.slice r12 rL2 rC2, .slice r10 rL1 rC1] h10 fun v11 h11 => ∃ r13 : Bool, v11 = .bool r13 ∧
  cond (!r13)
  (K (.bool false) h11)
  (l31_RangetreePlays_b2 steps stepsL stepsC r8 r10 rL1 rC1 h11  K))))) := by kernel_rfl
theorem l31_RangetreePlays_b2_eq (steps : Option Addr) (stepsL : Nat) (stepsC : Nat) (t : Option Addr) (m : Option Addr) (mL : Nat) (mC : Nat) (h : Hp)  (K : Value → Hp → Prop) : l31_RangetreePlays_b2 steps stepsL stepsC t m mL mC h  K = (
  LoopVC (((m, mL, mC), 0, ()) : (Option Addr × Nat × Nat) × Int × Unit) h (fun (nx0 : (Option Addr × Nat × Nat) × Int × Unit → Hp → Prop) (s1 : (Option Addr × Nat × Nat) × Int × Unit) h12 => l31_RangetreePlays_b3 s1.1.1 s1.1.2.1 s1.1.2.2 s1.2.1 t steps stepsL stepsC (stepsL : Int) h12 nx0 K)) := by kernel_rfl
theorem l31_RangetreePlays_b3_eq (m : Option Addr) (mL : Nat) (mC : Nat) (t69 : Int) (t : Option Addr) (t67 : Option Addr) (t67L : Nat) (t67C : Nat) (t68 : Int) (h : Hp) (nx0 : (Option Addr × Nat × Nat) × Int × Unit → Hp → Prop) (K : Value → Hp → Prop) : l31_RangetreePlays_b3 m mL mC t69 t t67 t67L t67C t68 h nx0 K = (
  cond (decide (t69 < t68))
  ((0 ≤ t69 ∧ t69 < (t67L : Int)) ∧
  NN t67 fun a1 =>
  ∃ n1 : Int, ∃ n2 : Int, ∃ n3 : Int, ∃ n4 : Int, ∃ n5 : Int, ∃ n6 : Int, ∃ n7 : Int, ∃ n8 : Int, cell h (a1.add (Int.toNat t69 * 8)) = some (.int .i64 n1) ∧
  cell h ((a1.add (Int.toNat t69 * 8)).add 1) = some (.int .i64 n2) ∧
  cell h ((a1.add (Int.toNat t69 * 8)).add 2) = some (.int .i64 n3) ∧
  cell h ((a1.add (Int.toNat t69 * 8)).add 3) = some (.int .i64 n4) ∧
  cell h ((a1.add (Int.toNat t69 * 8)).add 4) = some (.int .i64 n5) ∧
  cell h ((a1.add (Int.toNat t69 * 8)).add 5) = some (.int .i64 n6) ∧
  cell h ((a1.add (Int.toNat t69 * 8)).add 6) = some (.int .i64 n7) ∧
  cell h ((a1.add (Int.toNat t69 * 8)).add 7) = some (.int .i64 n8) ∧
  New h (.cells #[.int .i64 0, .int .i64 0, .int .i64 0, .int .i64 0, .int .i64 0, .int .i64 0, .int .i64 0, .int .i64 0] 54) fun b1 h13 =>
  Wr h13 ⟨b1, 0, none⟩ (.int .i64 n1) fun h14 =>
  Wr h14 ((⟨b1, 0, none⟩ : Addr).add 1) (.int .i64 n2) fun h15 =>
  Wr h15 ((⟨b1, 0, none⟩ : Addr).add 2) (.int .i64 n3) fun h16 =>
  Wr h16 ((⟨b1, 0, none⟩ : Addr).add 3) (.int .i64 n4) fun h17 =>
  Wr h17 ((⟨b1, 0, none⟩ : Addr).add 4) (.int .i64 n5) fun h18 =>
  Wr h18 ((⟨b1, 0, none⟩ : Addr).add 5) (.int .i64 n6) fun h19 =>
  Wr h19 ((⟨b1, 0, none⟩ : Addr).add 6) (.int .i64 n7) fun h20 =>
  Wr h20 ((⟨b1, 0, none⟩ : Addr).add 7) (.int .i64 n8) fun h21 =>
  ∃ n9 : Int, ∃ n10 : Int, ∃ n11 : Int, ∃ n12 : Int, ∃ n13 : Int, ∃ n14 : Int, ∃ n15 : Int, ∃ n16 : Int, cell h21 ⟨b1, 0, none⟩ = some (.int .i64 n9) ∧
  cell h21 ((⟨b1, 0, none⟩ : Addr).add 1) = some (.int .i64 n10) ∧
  cell h21 ((⟨b1, 0, none⟩ : Addr).add 2) = some (.int .i64 n11) ∧
  cell h21 ((⟨b1, 0, none⟩ : Addr).add 3) = some (.int .i64 n12) ∧
  cell h21 ((⟨b1, 0, none⟩ : Addr).add 4) = some (.int .i64 n13) ∧
  cell h21 ((⟨b1, 0, none⟩ : Addr).add 5) = some (.int .i64 n14) ∧
  cell h21 ((⟨b1, 0, none⟩ : Addr).add 6) = some (.int .i64 n15) ∧
  cell h21 ((⟨b1, 0, none⟩ : Addr).add 7) = some (.int .i64 n16) ∧
  HCalls Try.prog 24 #[.pointer t, .slice m mL mC, .agg #[.int .i64 n9, .int .i64 n10, .int .i64 n11, .int .i64 n12, .int .i64 n13, .int .i64 n14, .int .i64 n15, .int .i64 n16]] h21 fun v12 h22 => ∃ (r14 : Option Addr) (rL3 rC3 : Nat), ∃ r15 : Bool, v12 = .tuple #[.slice r14 rL3 rC3, .bool r15] ∧
  cond (!r15)
  (K (.bool false) h22)
  (l31_RangetreePlays_b4 t r14 rL3 rC3 t67 t67L t67C t68 t69 h22 nx0 K))
  (l31_RangetreePlays_b5 t m mL mC h  K)) := by kernel_rfl
theorem l31_RangetreePlays_b4_eq (t : Option Addr) (m : Option Addr) (mL : Nat) (mC : Nat) (t67 : Option Addr) (t67L : Nat) (t67C : Nat) (t68 : Int) (t69 : Int) (h : Hp) (nx0 : (Option Addr × Nat × Nat) × Int × Unit → Hp → Prop) (K : Value → Hp → Prop) : l31_RangetreePlays_b4 t m mL mC t67 t67L t67C t68 t69 h nx0 K = (
  InR (t69 + 1) ∧
  nx0 ((m, mL, mC), t69 + 1, ()) h) := by kernel_rfl
theorem l31_RangetreePlays_b5_eq (t : Option Addr) (m : Option Addr) (mL : Nat) (mC : Nat) (h : Hp)  (K : Value → Hp → Prop) : l31_RangetreePlays_b5 t m mL mC h  K = (
  HCalls Try.prog 17 #[.pointer t] h fun v13 h23 => ∃ r16 : Int, v13 = .int .i64 r16 ∧
  cond (decide (r16 = (mL : Int)))
  (HCalls Try.prog 15 #[.pointer t] h23 fun v14 h24 => ∃ (r17 : Option Addr) (rL4 rC4 : Nat), v14 = .slice r17 rL4 rC4 ∧
  HCalls Try.prog 18 #[.slice r17 rL4 rC4, .slice m mL mC] h24 fun v15 h25 => ∃ r18 : Bool, v15 = .bool r18 ∧
  K (.bool r18) h25)
  (K (.bool false) h23)) := by kernel_rfl
theorem l31_RangetreePlays_call {l : Option Addr} {lL : Nat} {lC : Nat} {steps : Option Addr} {stepsL : Nat} {stepsC : Nat} {h : Hp} {K : Value → Hp → Prop} (hk : l31_RangetreePlays_b0 l lL lC steps stepsL stepsC h K) : HCalls Try.prog 7 #[.slice l lL lC, .slice steps stepsL stepsC] h K :=
  calls_of_snd l31_RangetreePlays_an Try.func7 (c := bodyOf Try.f7) rfl Try.ntmps7 (Nat.le_of_ble_eq_true rfl) (snd_5 F_ok F_mixed) hk

/-! ### l31_RangetreeSums -/
/-! ### l31_awake -/
def l31_awake_an : Ann := .node none (.leaf) (.node none (.leaf) (.node (some [1]) (.leaf) (.leaf)))
def l31_awake_K0  (K : Value → Hp → Prop) : Exit → Env → Hp → Prop := retK Try.prog Try.f9.results.toList K
def l31_awake_b0  (h : Hp)  (K : Value → Hp → Prop) : Prop :=
  sx_2 Try.prog F 66 (cp [] (bodyOf Try.f9)) (ap [] l31_awake_an) [] h (l31_awake_K0  K)
def l31_awake_b1 (t : Option Addr) (h : Hp)  (K : Value → Hp → Prop) : Prop :=
  sx_1 Try.prog F 66 (cp [1, 1, 1] (bodyOf Try.f9)) (ap [1, 1, 1] l31_awake_an) [(1, .pointer t)] h (l31_awake_K0  K)
theorem l31_awake_b0_eq  (h : Hp)  (K : Value → Hp → Prop) : l31_awake_b0  h  K = (
  New h (.cells #[.int .i64 3, .int .i64 7, .int .i64 (-1), .int .i64 1, .int .i64 5, .int .i64 2, .int .i64 3, .int .i64 1, .int .i64 4] 33) fun b1 h1 =>
  HCalls Try.prog 10 #[.slice (some ⟨b1, 0, none⟩) 3 3] h1 fun v1 h2 => ∃ r1 : Option Addr, ∃ r2 : Int, v1 = .tuple #[.pointer r1, .int .i64 r2] ∧
  cond (!decide (r2 = 0))
  (K (.bool false) h2)
  (cond r1.isNone
  (K (.bool false) h2)
  (l31_awake_b1 r1 h2  K))) := by kernel_rfl
theorem l31_awake_b1_eq (t : Option Addr) (h : Hp)  (K : Value → Hp → Prop) : l31_awake_b1 t h  K = (
  HCalls Try.prog 16 #[.pointer t, .int .i64 1, .int .i64 3, .int .i64 1, .int .i64 5] h fun v2 h3 => ∃ r3 : Int, ∃ r4 : Int, v2 = .tuple #[.int .i64 r3, .int .i64 r4] ∧
  HCalls Try.prog 20 #[.pointer t, .int .i64 0, .int .i64 9, .int .i64 0, .int .i64 9] h3 fun v3 h4 => ∃ r5 : Int, ∃ r6 : Int, v3 = .tuple #[.int .i64 r5, .int .i64 r6] ∧
  HCalls Try.prog 22 #[.pointer t, .int .i64 2, .int .i64 2, .int .i64 9] h4 fun v4 h5 => ∃ r7 : Int, ∃ r8 : Int, ∃ r9 : Int, ∃ r10 : Int, v4 = .tuple #[.agg #[.int .i64 r7, .int .i64 r8, .int .i64 r9], .int .i64 r10] ∧
  New h5 (.cells #[.int .i64 0, .int .i64 0, .int .i64 0] 33) fun b2 h6 =>
  Wr h6 ⟨b2, 0, none⟩ (.int .i64 r7) fun h7 =>
  Wr h7 ((⟨b2, 0, none⟩ : Addr).add 1) (.int .i64 r8) fun h8 =>
  Wr h8 ((⟨b2, 0, none⟩ : Addr).add 2) (.int .i64 r9) fun h9 =>
  HCalls Try.prog 17 #[.pointer t] h9 fun v5 h10 => ∃ r11 : Int, v5 = .int .i64 r11 ∧
  cond (decide (r11 = 3))
  (cond (decide (r3 = 2))
  (cond (decide (r4 = 0))
  (cond (decide (r5 = 5))
  (cond (decide (r6 = 0))
  (∃ n1 : Int, ∃ n2 : Int, ∃ n3 : Int, cell h10 ⟨b2, 0, none⟩ = some (.int .i64 n1) ∧
  cell h10 ((⟨b2, 0, none⟩ : Addr).add 1) = some (.int .i64 n2) ∧
  cell h10 ((⟨b2, 0, none⟩ : Addr).add 2) = some (.int .i64 n3) ∧
  ∃ b3 : Bool, eqC Try.prog .eql 33 (.tmp 58) (.tmp 59) (.agg #[.int .i64 n1, .int .i64 n2, .int .i64 n3]) (.agg #[.int .i64 3, .int .i64 7, .int .i64 (-1)]) h10 b3 ∧
  cond b3
  (K (.bool (decide (r10 = 0))) h10)
  (K (.bool false) h10))
  (K (.bool false) h10))
  (K (.bool false) h10))
  (K (.bool false) h10))
  (K (.bool false) h10))
  (K (.bool false) h10)) := by kernel_rfl
theorem l31_awake_call  {h : Hp} {K : Value → Hp → Prop} (hk : l31_awake_b0  h K) : HCalls Try.prog 9 #[] h K :=
  calls_of_snd l31_awake_an Try.func9 (c := bodyOf Try.f9) rfl Try.ntmps9 (Nat.le_of_ble_eq_true rfl) (snd_2 F_ok F_mixed) hk

/-! ### rangetree_Make -/
def rangetree_Make_an : Ann := .node none (.leaf) (.node none (.leaf) (.node none (.leaf) (.node (some [0, 4]) (.node none (.leaf) (.loop [0, 4, 12, 13] [(14, .int .i64)] (.node none (.leaf) (.node none (.leaf) (.node (some [0, 4, 12, 13, 14]) (.node none (.leaf) (.tail 11)) (.leaf)))))) (.node (some [4]) (.leaf) (.leaf)))))
def rangetree_Make_K0  (K : Value → Hp → Prop) : Exit → Env → Hp → Prop := retK Try.prog Try.f10.results.toList K
def rangetree_Make_K1  (K : Value → Hp → Prop) : Exit → Env → Hp → Prop := thenE (fun env h => sx_2 Try.prog F 46 (cp [1, 1, 1, 1] (bodyOf Try.f10)) (ap [1, 1, 1, 1] rangetree_Make_an) (rs [0, 4] env) h (rangetree_Make_K0  K)) (rangetree_Make_K0  K)
def rangetree_Make_K2  (K : Value → Hp → Prop) : Exit → Env → Hp → Prop := blockE 0 (rangetree_Make_K1  K)
def rangetree_Make_K3 (nx0 : Int × Unit → Hp → Prop) (K : Value → Hp → Prop) : Exit → Env → Hp → Prop := thenE (fun env h => getV [(14, .int .i64)] env fun s => nx0 s h) (rangetree_Make_K2  K)
def rangetree_Make_b0 (l : Option Addr) (lL : Nat) (lC : Nat) (h : Hp)  (K : Value → Hp → Prop) : Prop :=
  sx_3 Try.prog F 46 (cp [] (bodyOf Try.f10)) (ap [] rangetree_Make_an) [(0, .slice l lL lC)] h (rangetree_Make_K0  K)
def rangetree_Make_b1 (t14 : Int) (l : Option Addr) (lL : Nat) (lC : Nat) (t : Option Addr) (t12 : Option Addr) (t12L : Nat) (t12C : Nat) (t13 : Int) (h : Hp) (nx0 : Int × Unit → Hp → Prop) (K : Value → Hp → Prop) : Prop :=
  sx_2 Try.prog F 46 (cp [1, 1, 1, 0, 1, 2, 2] (bodyOf Try.f10)) (ap [1, 1, 1, 0, 1, 2] rangetree_Make_an) [(14, .int .i64 t14), (0, .slice l lL lC), (4, .pointer t), (12, .slice t12 t12L t12C), (13, .int .i64 t13)] h (rangetree_Make_K3 nx0 K)
def rangetree_Make_b2 (l : Option Addr) (lL : Nat) (lC : Nat) (t : Option Addr) (t12 : Option Addr) (t12L : Nat) (t12C : Nat) (t13 : Int) (t14 : Int) (h : Hp) (nx0 : Int × Unit → Hp → Prop) (K : Value → Hp → Prop) : Prop :=
  sx_1 Try.prog F 46 (cp [1, 1, 1, 0, 1, 2, 2, 1, 1, 1] (bodyOf Try.f10)) (ap [1, 1, 1, 0, 1, 2, 1, 1, 1] rangetree_Make_an) [(0, .slice l lL lC), (4, .pointer t), (12, .slice t12 t12L t12C), (13, .int .i64 t13), (14, .int .i64 t14)] h (rangetree_Make_K3 nx0 K)
def rangetree_Make_b3 (l : Option Addr) (lL : Nat) (lC : Nat) (t : Option Addr) (h : Hp)  (K : Value → Hp → Prop) : Prop :=
  sx_2 Try.prog F 46 (cp [1, 1, 1, 1] (bodyOf Try.f10)) (ap [1, 1, 1, 1] rangetree_Make_an) [(0, .slice l lL lC), (4, .pointer t)] h (rangetree_Make_K0  K)
def rangetree_Make_b4 (t : Option Addr) (h : Hp)  (K : Value → Hp → Prop) : Prop :=
  sx_1 Try.prog F 46 (cp [1, 1, 1, 1, 1] (bodyOf Try.f10)) (ap [1, 1, 1, 1, 1] rangetree_Make_an) [(4, .pointer t)] h (rangetree_Make_K0  K)
theorem rangetree_Make_b0_eq (l : Option Addr) (lL : Nat) (lC : Nat) (h : Hp)  (K : Value → Hp → Prop) : rangetree_Make_b0 l lL lC h  K = (
  HCalls Try.prog 26 #[.slice l lL lC, .func (.func 27) #[] #[]] h fun v1 h1 => ∃ r1 : Bool, v1 = .bool r1 ∧
  cond r1
  (K (.tuple #[.pointer none, .int .i64 1]) h1)
  (New h1 (.map #[] 0) fun b1 h2 =>
  New h2 (.cells #[.map (some b1), .slice none 0 0, .slice none 0 0, .int .i64 0, .int .i64 0] 68) fun b2 h3 =>
  LoopVC ((0, ()) : Int × Unit) h3 (fun (nx0 : Int × Unit → Hp → Prop) (s1 : Int × Unit) h4 => rangetree_Make_b1 s1.1 l lL lC (some ⟨b2, 0, none⟩) l lL lC (lL : Int) h4 nx0 K))) := by kernel_rfl
theorem rangetree_Make_b1_eq (t14 : Int) (l : Option Addr) (lL : Nat) (lC : Nat) (t : Option Addr) (t12 : Option Addr) (t12L : Nat) (t12C : Nat) (t13 : Int) (h : Hp) (nx0 : Int × Unit → Hp → Prop) (K : Value → Hp → Prop) : rangetree_Make_b1 t14 l lL lC t t12 t12L t12C t13 h nx0 K = (
  cond (decide (t14 < t13))
  ((0 ≤ t14 ∧ t14 < (t12L : Int)) ∧
  NN t12 fun a1 =>
  ∃ n1 : Int, ∃ n2 : Int, ∃ n3 : Int, cell h (a1.add (Int.toNat t14 * 3)) = some (.int .i64 n1) ∧
  cell h ((a1.add (Int.toNat t14 * 3)).add 1) = some (.int .i64 n2) ∧
  cell h ((a1.add (Int.toNat t14 * 3)).add 2) = some (.int .i64 n3) ∧
  New h (.cells #[.int .i64 0, .int .i64 0, .int .i64 0] 33) fun b3 h5 =>
  Wr h5 ⟨b3, 0, none⟩ (.int .i64 n1) fun h6 =>
  Wr h6 ((⟨b3, 0, none⟩ : Addr).add 1) (.int .i64 n2) fun h7 =>
  Wr h7 ((⟨b3, 0, none⟩ : Addr).add 2) (.int .i64 n3) fun h8 =>
  NN t fun a2 =>
  ∃ v2 : Value, cell h8 a2 = some (v2) ∧
  ∃ n4 : Int, cell h8 ⟨b3, 0, none⟩ = some (.int .i64 n4) ∧
  ∃ n5 : Int, cell h8 ((⟨b3, 0, none⟩ : Addr).add 1) = some (.int .i64 n5) ∧
  ∃ n6 : Int, cell h8 ((⟨b3, 0, none⟩ : Addr).add 2) = some (.int .i64 n6) ∧
  mapSetV Try.prog 65 v2 (.agg #[.int .i64 n4, .int .i64 n5]) (.int .i64 n6) h8 fun h9 =>
  rangetree_Make_b2 l lL lC t t12 t12L t12C t13 t14 h9 nx0 K)
  (rangetree_Make_b3 l lL lC t h  K)) := by kernel_rfl
theorem rangetree_Make_b2_eq (l : Option Addr) (lL : Nat) (lC : Nat) (t : Option Addr) (t12 : Option Addr) (t12L : Nat) (t12C : Nat) (t13 : Int) (t14 : Int) (h : Hp) (nx0 : Int × Unit → Hp → Prop) (K : Value → Hp → Prop) : rangetree_Make_b2 l lL lC t t12 t12L t12C t13 t14 h nx0 K = (
  InR (t14 + 1) ∧
  nx0 (t14 + 1, ()) h) := by kernel_rfl
theorem rangetree_Make_b3_eq (l : Option Addr) (lL : Nat) (lC : Nat) (t : Option Addr) (h : Hp)  (K : Value → Hp → Prop) : rangetree_Make_b3 l lL lC t h  K = (
  NN t fun a3 =>
  ∃ v3 : Value, cell h a3 = some (v3) ∧
  mapLenV v3 h fun n7 =>
  cond (decide (n7 < (lL : Int)))
  (K (.tuple #[.pointer none, .int .i64 10]) h)
  (cond (decide ((1000 : Int) < (lL : Int)))
  (K (.tuple #[.pointer none, .int .i64 4]) h)
  (rangetree_Make_b4 t h  K))) := by kernel_rfl
theorem rangetree_Make_b4_eq (t : Option Addr) (h : Hp)  (K : Value → Hp → Prop) : rangetree_Make_b4 t h  K = (
  HCalls Try.prog 29 #[.pointer t] h fun v4 h10 => v4 = .tuple #[] ∧
  K (.tuple #[.pointer t, .int .i64 0]) h10) := by kernel_rfl
theorem rangetree_Make_call {l : Option Addr} {lL : Nat} {lC : Nat} {h : Hp} {K : Value → Hp → Prop} (hk : rangetree_Make_b0 l lL lC h K) : HCalls Try.prog 10 #[.slice l lL lC] h K :=
  calls_of_snd rangetree_Make_an Try.func10 (c := bodyOf Try.f10) rfl Try.ntmps10 (Nat.le_of_ble_eq_true rfl) (snd_3 F_ok F_mixed) hk

/-! ### rangetree_Tree_Built -/
/-! ### r31_Bound -/
/-! ### rangetree_Tree_Remove -/
def rangetree_Tree_Remove_an : Ann := .node none (.leaf) (.node none (.leaf) (.node none (.leaf) (.node none (.leaf) (.node none (.leaf) (.node none (.leaf) (.node (some []) (.leaf) (.leaf)))))))
def rangetree_Tree_Remove_K0  (K : Value → Hp → Prop) : Exit → Env → Hp → Prop := retK Try.prog Try.f13.results.toList K
def rangetree_Tree_Remove_b0 (t : Option Addr) (x : Int) (y : Int) (h : Hp)  (K : Value → Hp → Prop) : Prop :=
  sx_2 Try.prog F 57 (cp [] (bodyOf Try.f13)) (ap [] rangetree_Tree_Remove_an) [(0, .pointer t), (1, .int .i64 x), (2, .int .i64 y)] h (rangetree_Tree_Remove_K0  K)
def rangetree_Tree_Remove_b1  (h : Hp)  (K : Value → Hp → Prop) : Prop :=
  sx_1 Try.prog F 57 (cp [1, 1, 1, 1, 1, 1, 1] (bodyOf Try.f13)) (ap [1, 1, 1, 1, 1, 1, 1] rangetree_Tree_Remove_an) [] h (rangetree_Tree_Remove_K0  K)
theorem rangetree_Tree_Remove_b0_eq (t : Option Addr) (x : Int) (y : Int) (h : Hp)  (K : Value → Hp → Prop) : rangetree_Tree_Remove_b0 t x y h  K = (
  cond t.isNone
  (K (.int .i64 1) h)
  (NN t fun a1 =>
  ∃ v1 : Value, cell h a1 = some (v1) ∧
  lookV Try.prog 65 v1 (.agg #[.int .i64 x, .int .i64 y]) true h fun v2 => ∃ r1 : Int, ∃ r2 : Bool, v2 = .tuple #[.int .i64 r1, .bool r2] ∧
  cond (!r2)
  (K (.int .i64 12) h)
  (NN t fun a2 =>
  ∃ v3 : Value, cell h a2 = some (v3) ∧
  mapDelV Try.prog 65 v3 (.agg #[.int .i64 x, .int .i64 y]) h fun h1 =>
  NN t fun a3 =>
  ∃ (a4 : Option Addr) (L1 C1 : Nat), cell h1 (a3.add 2) = some (.slice a4 L1 C1) ∧
  New h1 (.cells #[.int .i64 x, .int .i64 y, .int .i64 r1] 33) fun b1 h2 =>
  appendV Try.prog 22 22 (.slice a4 L1 C1) (.slice (some ⟨b1, 0, none⟩) 1 1) h2 (slK fun a5 l1 c1 h3 =>
  NN t fun a6 =>
  Wr h3 (a6.add 2) (.slice a5 l1 c1) fun h4 =>
  NN t fun a7 =>
  ∃ (a8 : Option Addr) (L2 C2 : Nat), cell h4 (a7.add 2) = some (.slice a8 L2 C2) ∧
  InR (2 * (L2 : Int)) ∧
  NN t fun a9 =>
  ∃ n1 : Int, cell h4 (a9.add 3) = some (.int .i64 n1) ∧
  cond (decide (n1 ≤ (2 * (L2 : Int))))
  (HCalls Try.prog 29 #[.pointer t] h4 fun v4 h5 => v4 = .tuple #[] ∧
  rangetree_Tree_Remove_b1  h5  K)
  (rangetree_Tree_Remove_b1  h4  K))))) := by kernel_rfl
theorem rangetree_Tree_Remove_b1_eq  (h : Hp)  (K : Value → Hp → Prop) : rangetree_Tree_Remove_b1  h  K = (
  K (.int .i64 0) h) := by kernel_rfl
theorem rangetree_Tree_Remove_call {t : Option Addr} {x : Int} {y : Int} {h : Hp} {K : Value → Hp → Prop} (hk : rangetree_Tree_Remove_b0 t x y h K) : HCalls Try.prog 13 #[.pointer t, .int .i64 x, .int .i64 y] h K :=
  calls_of_snd rangetree_Tree_Remove_an Try.func13 (c := bodyOf Try.f13) rfl Try.ntmps13 (Nat.le_of_ble_eq_true rfl) (snd_2 F_ok F_mixed) hk

/-! ### rangetree_Tree_Add -/
def rangetree_Tree_Add_an : Ann := .node none (.leaf) (.node (some [0, 3]) (.leaf) (.node none (.leaf) (.node none (.node none (.plan (.qu 0 (.qu 1 (.qu 2 (.qu 3 (.qu 4 (.wo 5 (.qu 6 (.qu 7 (.qu 8 (.wo 9 (.wo 10 .fin .no) .no)))) .no))))))) (.leaf)) (.node none (.leaf) (.node none (.tail 7) (.node none (.leaf) (.node (some [0, 8]) (.node none (.leaf) (.loop [0] [(8, .slice), (9, .int .i64)] (.node (some [0, 8, 9]) (.leaf) (.node (some [0, 8, 9]) (.node none (.leaf) (.node none (.tail 19) (.leaf))) (.leaf))))) (.leaf))))))))
def rangetree_Tree_Add_K0  (K : Value → Hp → Prop) : Exit → Env → Hp → Prop := retK Try.prog Try.f14.results.toList K
def rangetree_Tree_Add_K1  (K : Value → Hp → Prop) : Exit → Env → Hp → Prop := thenE (fun env h => sx_3 Try.prog F 118 (cp [1, 1, 1, 1, 1, 1, 1, 1] (bodyOf Try.f14)) (ap [1, 1, 1, 1, 1, 1, 1, 1] rangetree_Tree_Add_an) (rs [0, 8] env) h (rangetree_Tree_Add_K0  K)) (rangetree_Tree_Add_K0  K)
def rangetree_Tree_Add_K2  (K : Value → Hp → Prop) : Exit → Env → Hp → Prop := blockE 0 (rangetree_Tree_Add_K1  K)
def rangetree_Tree_Add_K3 (nx0 : (Option Addr × Nat × Nat) × Int × Unit → Hp → Prop) (K : Value → Hp → Prop) : Exit → Env → Hp → Prop := thenE (fun env h => getV [(8, .slice), (9, .int .i64)] env fun s => nx0 s h) (rangetree_Tree_Add_K2  K)
def rangetree_Tree_Add_b0 (t : Option Addr) (p_0 : Int) (p_1 : Int) (p_2 : Int) (h : Hp)  (K : Value → Hp → Prop) : Prop :=
  sx_5 Try.prog F 118 (cp [] (bodyOf Try.f14)) (ap [] rangetree_Tree_Add_an) [(0, .pointer t), (1, .agg #[.int .i64 p_0, .int .i64 p_1, .int .i64 p_2])] h (rangetree_Tree_Add_K0  K)
def rangetree_Tree_Add_b1 (t : Option Addr) (p : Option Addr) (h : Hp)  (K : Value → Hp → Prop) : Prop :=
  sx_4 Try.prog F 118 (cp [1, 1] (bodyOf Try.f14)) (ap [1, 1] rangetree_Tree_Add_an) [(0, .pointer t), (3, .pointer p)] h (rangetree_Tree_Add_K0  K)
def rangetree_Tree_Add_b2 (l : Option Addr) (lL : Nat) (lC : Nat) (nv : Int) (t : Option Addr) (h : Hp) (nx0 : (Option Addr × Nat × Nat) × Int × Unit → Hp → Prop) (K : Value → Hp → Prop) : Prop :=
  sx_3 Try.prog F 118 (cp [1, 1, 1, 1, 1, 1, 1, 0, 1, 2, 2] (bodyOf Try.f14)) (ap [1, 1, 1, 1, 1, 1, 1, 0, 1, 2] rangetree_Tree_Add_an) [(8, .slice l lL lC), (9, .int .i64 nv), (0, .pointer t)] h (rangetree_Tree_Add_K3 nx0 K)
def rangetree_Tree_Add_b3 (t : Option Addr) (l : Option Addr) (lL : Nat) (lC : Nat) (nv : Int) (h : Hp) (nx0 : (Option Addr × Nat × Nat) × Int × Unit → Hp → Prop) (K : Value → Hp → Prop) : Prop :=
  sx_2 Try.prog F 118 (cp [1, 1, 1, 1, 1, 1, 1, 0, 1, 2, 2, 1] (bodyOf Try.f14)) (ap [1, 1, 1, 1, 1, 1, 1, 0, 1, 2, 1] rangetree_Tree_Add_an) [(0, .pointer t), (8, .slice l lL lC), (9, .int .i64 nv)] h (rangetree_Tree_Add_K3 nx0 K)
def rangetree_Tree_Add_b4 (t : Option Addr) (l : Option Addr) (lL : Nat) (lC : Nat) (h : Hp)  (K : Value → Hp → Prop) : Prop :=
  sx_3 Try.prog F 118 (cp [1, 1, 1, 1, 1, 1, 1, 1] (bodyOf Try.f14)) (ap [1, 1, 1, 1, 1, 1, 1, 1] rangetree_Tree_Add_an) [(0, .pointer t), (8, .slice l lL lC)] h (rangetree_Tree_Add_K0  K)
def rangetree_Tree_Add_b5 (t : Option Addr) (l : Option Addr) (lL : Nat) (lC : Nat) (nv : Int) (h : Hp) (nx0 : (Option Addr × Nat × Nat) × Int × Unit → Hp → Prop) (K : Value → Hp → Prop) : Prop :=
  sx_1 Try.prog F 118 (cp [1, 1, 1, 1, 1, 1, 1, 0, 1, 2, 2, 1, 1] (bodyOf Try.f14)) (ap [1, 1, 1, 1, 1, 1, 1, 0, 1, 2, 1, 1] rangetree_Tree_Add_an) [(0, .pointer t), (8, .slice l lL lC), (9, .int .i64 nv)] h (rangetree_Tree_Add_K3 nx0 K)
theorem rangetree_Tree_Add_b0_eq (t : Option Addr) (p_0 : Int) (p_1 : Int) (p_2 : Int) (h : Hp)  (K : Value → Hp → Prop) : rangetree_Tree_Add_b0 t p_0 p_1 p_2 h  K = (
  New h (.cells #[.int .i64 p_0, .int .i64 p_1, .int .i64 p_2] 33) fun b1 h1 =>
  cond t.isNone
  (K (.int .i64 1) h1)
  (∃ n1 : Int, ∃ n2 : Int, ∃ n3 : Int, cell h1 ⟨b1, 0, none⟩ = some (.int .i64 n1) ∧
  cell h1 ((⟨b1, 0, none⟩ : Addr).add 1) = some (.int .i64 n2) ∧
  cell h1 ((⟨b1, 0, none⟩ : Addr).add 2) = some (.int .i64 n3) ∧
  HCalls Try.prog 28 #[.agg #[.int .i64 n1, .int .i64 n2, .int .i64 n3]] h1 fun v1 h2 => ∃ r1 : Bool, v1 = .bool r1 ∧
  cond (!r1)
  (K (.int .i64 1) h2)
  (rangetree_Tree_Add_b1 t (some ⟨b1, 0, none⟩) h2  K))) := by kernel_rfl
theorem rangetree_Tree_Add_b1_eq (t : Option Addr) (p : Option Addr) (h : Hp)  (K : Value → Hp → Prop) : rangetree_Tree_Add_b1 t p h  K = (
  NN p fun a1 =>
  ∃ n4 : Int, cell h a1 = some (.int .i64 n4) ∧
  NN p fun a2 =>
  ∃ n5 : Int, cell h (a2.add 1) = some (.int .i64 n5) ∧
  New h (.cells #[.int .i64 0, .int .i64 0] 70) fun b2 h3 =>
  Wr h3 ⟨b2, 0, none⟩ (.int .i64 n4) fun h4 =>
  Wr h4 ((⟨b2, 0, none⟩ : Addr).add 1) (.int .i64 n5) fun h5 =>
  NN t fun a3 =>
  ∃ v2 : Value, cell h5 a3 = some (v2) ∧
  ∃ n6 : Int, ∃ n7 : Int, cell h5 ⟨b2, 0, none⟩ = some (.int .i64 n6) ∧
  cell h5 ((⟨b2, 0, none⟩ : Addr).add 1) = some (.int .i64 n7) ∧
  lookV Try.prog 65 v2 (.agg #[.int .i64 n6, .int .i64 n7]) true h5 fun v3 => ∃ r2 : Int, ∃ r3 : Bool, v3 = .tuple #[.int .i64 r2, .bool r3] ∧
  cond r3
  (K (.int .i64 15) h5)
  (NN t fun a4 =>
  ∃ v4 : Value, cell h5 a4 = some (v4) ∧
  mapLenV v4 h5 fun n8 =>
  cond (decide ((1000 : Int) ≤ n8))
  (K (.int .i64 4) h5)
  (NN t fun a5 =>
  ∃ v5 : Value, cell h5 a5 = some (v5) ∧
  ∃ n9 : Int, ∃ n10 : Int, cell h5 ⟨b2, 0, none⟩ = some (.int .i64 n9) ∧
  cell h5 ((⟨b2, 0, none⟩ : Addr).add 1) = some (.int .i64 n10) ∧
  NN p fun a6 =>
  ∃ n11 : Int, cell h5 (a6.add 2) = some (.int .i64 n11) ∧
  mapSetV Try.prog 65 v5 (.agg #[.int .i64 n9, .int .i64 n10]) (.int .i64 n11) h5 fun h6 =>
  NN p fun a7 =>
  ∃ n12 : Int, ∃ n13 : Int, ∃ n14 : Int, cell h6 a7 = some (.int .i64 n12) ∧
  cell h6 (a7.add 1) = some (.int .i64 n13) ∧
  cell h6 (a7.add 2) = some (.int .i64 n14) ∧
  New h6 (.cells #[.int .i64 n12, .int .i64 n13, .int .i64 n14] 33) fun b3 h7 =>
  NN t fun a8 =>
  ∃ (a9 : Option Addr) (L1 C1 : Nat), cell h7 (a8.add 1) = some (.slice a9 L1 C1) ∧
  LoopVC (((some ⟨b3, 0, none⟩, 1, 1), (L1 : Int), ()) : (Option Addr × Nat × Nat) × Int × Unit) h7 (fun (nx0 : (Option Addr × Nat × Nat) × Int × Unit → Hp → Prop) (s1 : (Option Addr × Nat × Nat) × Int × Unit) h8 => rangetree_Tree_Add_b2 s1.1.1 s1.1.2.1 s1.1.2.2 s1.2.1 t h8 nx0 K)))) := by kernel_rfl
theorem rangetree_Tree_Add_b2_eq (l : Option Addr) (lL : Nat) (lC : Nat) (nv : Int) (t : Option Addr) (h : Hp) (nx0 : (Option Addr × Nat × Nat) × Int × Unit → Hp → Prop) (K : Value → Hp → Prop) : rangetree_Tree_Add_b2 l lL lC nv t h nx0 K = (
  cond (decide ((0 : Int) < nv))
  (NN t fun a10 =>
  ∃ (a11 : Option Addr) (L2 C2 : Nat), cell h (a10.add 1) = some (.slice a11 L2 C2) ∧
  InR (nv - 1) ∧
  (0 ≤ nv - 1 ∧ nv - 1 < (L2 : Int)) ∧
  NN a11 fun a12 =>
  ∃ p1 : Option Addr, cell h (a12.add (Int.toNat (nv - 1) * 1)) = some (.pointer p1) ∧
  NN p1 fun a13 =>
  ∃ (a14 : Option Addr) (L3 C3 : Nat), cell h a13 = some (.slice a14 L3 C3) ∧
  cond (decide ((L3 : Int) ≤ (lL : Int)))
  (rangetree_Tree_Add_b3 t l lL lC nv h nx0 K)
  (rangetree_Tree_Add_b4 t l lL lC h  K))
  (rangetree_Tree_Add_b4 t l lL lC h  K)) := by kernel_rfl
theorem rangetree_Tree_Add_b3_eq (t : Option Addr) (l : Option Addr) (lL : Nat) (lC : Nat) (nv : Int) (h : Hp) (nx0 : (Option Addr × Nat × Nat) × Int × Unit → Hp → Prop) (K : Value → Hp → Prop) : rangetree_Tree_Add_b3 t l lL lC nv h nx0 K = (
  NN t fun a15 =>
  ∃ (a16 : Option Addr) (L4 C4 : Nat), cell h (a15.add 1) = some (.slice a16 L4 C4) ∧
  InR (nv - 1) ∧
  (0 ≤ nv - 1 ∧ nv - 1 < (L4 : Int)) ∧
  NN a16 fun a17 =>
  ∃ p2 : Option Addr, cell h (a17.add (Int.toNat (nv - 1) * 1)) = some (.pointer p2) ∧
  NN p2 fun a18 =>
  ∃ (a19 : Option Addr) (L5 C5 : Nat), cell h a18 = some (.slice a19 L5 C5) ∧
  appendV Try.prog 22 22 (.slice l lL lC) (.slice a19 L5 C5) h (slK fun a20 l1 c1 h9 =>
  NN t fun a21 =>
  ∃ n15 : Int, cell h9 (a21.add 3) = some (.int .i64 n15) ∧
  NN t fun a22 =>
  ∃ (a23 : Option Addr) (L6 C6 : Nat), cell h9 (a22.add 1) = some (.slice a23 L6 C6) ∧
  InR (nv - 1) ∧
  (0 ≤ nv - 1 ∧ nv - 1 < (L6 : Int)) ∧
  NN a23 fun a24 =>
  ∃ p3 : Option Addr, cell h9 (a24.add (Int.toNat (nv - 1) * 1)) = some (.pointer p3) ∧
  NN p3 fun a25 =>
  ∃ (a26 : Option Addr) (L7 C7 : Nat), cell h9 a25 = some (.slice a26 L7 C7) ∧
  InR (n15 - (L7 : Int)) ∧
  NN t fun a27 =>
  Wr h9 (a27.add 3) (.int .i64 (n15 - (L7 : Int))) fun h10 =>
  NN t fun a28 =>
  ∃ (a29 : Option Addr) (L8 C8 : Nat), cell h10 (a28.add 1) = some (.slice a29 L8 C8) ∧
  InR (nv - 1) ∧
  (0 ≤ (0 : Int) ∧ (0 : Int) ≤ nv - 1 ∧ nv - 1 ≤ (C8 : Int)) ∧
  NN t fun a30 =>
  Wr h10 (a30.add 1) (.slice (subAddr a29 C8 (Int.toNat (0 : Int)) 1) (Int.toNat (nv - 1) - Int.toNat (0 : Int)) (C8 - Int.toNat (0 : Int))) fun h11 =>
  rangetree_Tree_Add_b5 t a20 l1 c1 nv h11 nx0 K)) := by kernel_rfl
theorem rangetree_Tree_Add_b4_eq (t : Option Addr) (l : Option Addr) (lL : Nat) (lC : Nat) (h : Hp)  (K : Value → Hp → Prop) : rangetree_Tree_Add_b4 t l lL lC h  K = (
  HCalls Try.prog 30 #[.pointer t, .slice l lL lC] h fun v6 h12 => v6 = .tuple #[] ∧
  K (.int .i64 0) h12) := by kernel_rfl
theorem rangetree_Tree_Add_b5_eq (t : Option Addr) (l : Option Addr) (lL : Nat) (lC : Nat) (nv : Int) (h : Hp) (nx0 : (Option Addr × Nat × Nat) × Int × Unit → Hp → Prop) (K : Value → Hp → Prop) : rangetree_Tree_Add_b5 t l lL lC nv h nx0 K = (
  InR (nv - 1) ∧
  nx0 ((l, lL, lC), nv - 1, ()) h) := by kernel_rfl
theorem rangetree_Tree_Add_call {t : Option Addr} {p_0 : Int} {p_1 : Int} {p_2 : Int} {h : Hp} {K : Value → Hp → Prop} (hk : rangetree_Tree_Add_b0 t p_0 p_1 p_2 h K) : HCalls Try.prog 14 #[.pointer t, .agg #[.int .i64 p_0, .int .i64 p_1, .int .i64 p_2]] h K :=
  calls_of_snd rangetree_Tree_Add_an Try.func14 (c := bodyOf Try.f14) rfl Try.ntmps14 (Nat.le_of_ble_eq_true rfl) (snd_5 F_ok F_mixed) hk

/-! ### rangetree_Tree_List -/
def rangetree_Tree_List_an : Ann := .node none (.leaf) (.node none (.leaf) (.node none (.leaf) (.node (some [3]) (.node none (.leaf) (.loop [12] [(3, .slice)] (.leaf))) (.leaf))))
def rangetree_Tree_List_K0  (K : Value → Hp → Prop) : Exit → Env → Hp → Prop := retK Try.prog Try.f15.results.toList K
def rangetree_Tree_List_K1  (K : Value → Hp → Prop) : Exit → Env → Hp → Prop := thenE (fun env h => sx_1 Try.prog F 30 (cp [1, 1, 1, 1] (bodyOf Try.f15)) (ap [1, 1, 1, 1] rangetree_Tree_List_an) (rs [3] env) h (rangetree_Tree_List_K0  K)) (rangetree_Tree_List_K0  K)
def rangetree_Tree_List_K2  (K : Value → Hp → Prop) : Exit → Env → Hp → Prop := blockE 0 (rangetree_Tree_List_K1  K)
def rangetree_Tree_List_K3 (nx0 : (Option Addr × Nat × Nat) × Unit → Hp → Prop) (K : Value → Hp → Prop) : Exit → Env → Hp → Prop := thenE (fun env h => getV [(3, .slice)] env fun s => nx0 s h) (rangetree_Tree_List_K2  K)
def rangetree_Tree_List_b0 (t : Option Addr) (h : Hp)  (K : Value → Hp → Prop) : Prop :=
  sx_2 Try.prog F 30 (cp [] (bodyOf Try.f15)) (ap [] rangetree_Tree_List_an) [(0, .pointer t)] h (rangetree_Tree_List_K0  K)
def rangetree_Tree_List_b1 (out : Option Addr) (outL : Nat) (outC : Nat) (t12 : Value) (h : Hp) (nx0 : (Option Addr × Nat × Nat) × Unit → Hp → Prop) (K : Value → Hp → Prop) : Prop :=
  sx_1 Try.prog F 30 (cp [1, 1, 1, 0, 1, 2, 2] (bodyOf Try.f15)) (ap [1, 1, 1, 0, 1, 2] rangetree_Tree_List_an) [(3, .slice out outL outC), (12, t12)] h (rangetree_Tree_List_K3 nx0 K)
def rangetree_Tree_List_b2 (out : Option Addr) (outL : Nat) (outC : Nat) (h : Hp)  (K : Value → Hp → Prop) : Prop :=
  sx_1 Try.prog F 30 (cp [1, 1, 1, 1] (bodyOf Try.f15)) (ap [1, 1, 1, 1] rangetree_Tree_List_an) [(3, .slice out outL outC)] h (rangetree_Tree_List_K0  K)
theorem rangetree_Tree_List_b0_eq (t : Option Addr) (h : Hp)  (K : Value → Hp → Prop) : rangetree_Tree_List_b0 t h  K = (
  cond t.isNone
  (K (.slice none 0 0) h)
  (NN t fun a1 =>
  ∃ v1 : Value, cell h a1 = some (v1) ∧
  rangeV Try.prog 65 v1 h fun it1 h1 =>
  LoopVC (((none, 0, 0), ()) : (Option Addr × Nat × Nat) × Unit) h1 (fun (nx0 : (Option Addr × Nat × Nat) × Unit → Hp → Prop) (s1 : (Option Addr × Nat × Nat) × Unit) h2 => rangetree_Tree_List_b1 s1.1.1 s1.1.2.1 s1.1.2.2 (.pointer (some ⟨it1, 0, none⟩)) h2 nx0 K))) := by kernel_rfl
theorem rangetree_Tree_List_b1_eq (out : Option Addr) (outL : Nat) (outC : Nat) (t12 : Value) (h : Hp) (nx0 : (Option Addr × Nat × Nat) × Unit → Hp → Prop) (K : Value → Hp → Prop) : rangetree_Tree_List_b1 out outL outC t12 h nx0 K = (
  nextV Try.prog t12 false h (fun h3 =>
  rangetree_Tree_List_b2 out outL outC h3  K) fun x1 y1 h4 =>
  entryV Try.prog t12 h4 fun v2 => ∃ k1 : Int, ∃ k2 : Int, ∃ e1 : Int, v2 = .tuple #[.agg #[.int .i64 k1, .int .i64 k2], .int .i64 e1] ∧
  New h4 (.cells #[.int .i64 0, .int .i64 0] 70) fun b1 h5 =>
  Wr h5 ⟨b1, 0, none⟩ (.int .i64 k1) fun h6 =>
  Wr h6 ((⟨b1, 0, none⟩ : Addr).add 1) (.int .i64 k2) fun h7 =>
  ∃ n1 : Int, cell h7 ⟨b1, 0, none⟩ = some (.int .i64 n1) ∧
  ∃ n2 : Int, cell h7 ((⟨b1, 0, none⟩ : Addr).add 1) = some (.int .i64 n2) ∧
  New h7 (.cells #[.int .i64 n1, .int .i64 n2, .int .i64 e1] 33) fun b2 h8 =>
  appendV Try.prog 22 22 (.slice out outL outC) (.slice (some ⟨b2, 0, none⟩) 1 1) h8 (slK fun a2 l1 c1 h9 =>
  nx0 ((a2, l1, c1), ()) h9)) := by kernel_rfl
theorem rangetree_Tree_List_b2_eq (out : Option Addr) (outL : Nat) (outC : Nat) (h : Hp)  (K : Value → Hp → Prop) : rangetree_Tree_List_b2 out outL outC h  K = (
  HCalls Try.prog 31 #[.slice out outL outC, .func (.func 32) #[] #[]] h fun v3 h10 => v3 = .tuple #[] ∧
  K (.slice out outL outC) h10) := by kernel_rfl
theorem rangetree_Tree_List_call {t : Option Addr} {h : Hp} {K : Value → Hp → Prop} (hk : rangetree_Tree_List_b0 t h K) : HCalls Try.prog 15 #[.pointer t] h K :=
  calls_of_snd rangetree_Tree_List_an Try.func15 (c := bodyOf Try.f15) rfl Try.ntmps15 (Nat.le_of_ble_eq_true rfl) (snd_2 F_ok F_mixed) hk

/-! ### rangetree_Tree_Count -/
def rangetree_Tree_Count_an : Ann := .leaf
def rangetree_Tree_Count_K0  (K : Value → Hp → Prop) : Exit → Env → Hp → Prop := retK Try.prog Try.f16.results.toList K
def rangetree_Tree_Count_b0 (t : Option Addr) (x1 : Int) (x2 : Int) (y1 : Int) (y2 : Int) (h : Hp)  (K : Value → Hp → Prop) : Prop :=
  sx_1 Try.prog F 26 (cp [] (bodyOf Try.f16)) (ap [] rangetree_Tree_Count_an) [(0, .pointer t), (1, .int .i64 x1), (2, .int .i64 x2), (3, .int .i64 y1), (4, .int .i64 y2)] h (rangetree_Tree_Count_K0  K)
theorem rangetree_Tree_Count_b0_eq (t : Option Addr) (x1 : Int) (x2 : Int) (y1 : Int) (y2 : Int) (h : Hp)  (K : Value → Hp → Prop) : rangetree_Tree_Count_b0 t x1 x2 y1 y2 h  K = (
  cond t.isNone
  (K (.tuple #[.int .i64 0, .int .i64 1]) h)
  (HCalls Try.prog 33 #[.pointer t, .int .i64 x1, .int .i64 x2, .int .i64 y1, .int .i64 y2] h fun v1 h1 => ∃ r1 : Int, ∃ r2 : Int, v1 = .tuple #[.int .i64 r1, .int .i64 r2] ∧
  K (.tuple #[.int .i64 r1, .int .i64 0]) h1)) := by kernel_rfl
theorem rangetree_Tree_Count_call {t : Option Addr} {x1 : Int} {x2 : Int} {y1 : Int} {y2 : Int} {h : Hp} {K : Value → Hp → Prop} (hk : rangetree_Tree_Count_b0 t x1 x2 y1 y2 h K) : HCalls Try.prog 16 #[.pointer t, .int .i64 x1, .int .i64 x2, .int .i64 y1, .int .i64 y2] h K :=
  calls_of_snd rangetree_Tree_Count_an Try.func16 (c := bodyOf Try.f16) rfl Try.ntmps16 (Nat.le_of_ble_eq_true rfl) (snd_1 F_ok F_mixed) hk

/-! ### rangetree_Tree_Len -/
def rangetree_Tree_Len_an : Ann := .leaf
def rangetree_Tree_Len_K0  (K : Value → Hp → Prop) : Exit → Env → Hp → Prop := retK Try.prog Try.f17.results.toList K
def rangetree_Tree_Len_b0 (t : Option Addr) (h : Hp)  (K : Value → Hp → Prop) : Prop :=
  sx_1 Try.prog F 10 (cp [] (bodyOf Try.f17)) (ap [] rangetree_Tree_Len_an) [(0, .pointer t)] h (rangetree_Tree_Len_K0  K)
theorem rangetree_Tree_Len_b0_eq (t : Option Addr) (h : Hp)  (K : Value → Hp → Prop) : rangetree_Tree_Len_b0 t h  K = (
  cond t.isNone
  (K (.int .i64 0) h)
  (NN t fun a1 =>
  ∃ v1 : Value, cell h a1 = some (v1) ∧
  mapLenV v1 h fun n1 =>
  K (.int .i64 n1) h)) := by kernel_rfl
theorem rangetree_Tree_Len_call {t : Option Addr} {h : Hp} {K : Value → Hp → Prop} (hk : rangetree_Tree_Len_b0 t h K) : HCalls Try.prog 17 #[.pointer t] h K :=
  calls_of_snd rangetree_Tree_Len_an Try.func17 (c := bodyOf Try.f17) rfl Try.ntmps17 (Nat.le_of_ble_eq_true rfl) (snd_1 F_ok F_mixed) hk

/-! ### slices_Equal_Sapi_Point_api_Point -/
def slices_Equal_Sapi_Point_api_Point_an : Ann := .node none (.leaf) (.node none (.leaf) (.node (some []) (.node none (.leaf) (.loop [0, 1, 12] [(13, .int .i64)] (.node none (.leaf) (.node none (.leaf) (.node (some [0, 1, 12, 13]) (.leaf) (.leaf)))))) (.leaf)))
def slices_Equal_Sapi_Point_api_Point_K0  (K : Value → Hp → Prop) : Exit → Env → Hp → Prop := retK Try.prog Try.f18.results.toList K
def slices_Equal_Sapi_Point_api_Point_K1  (K : Value → Hp → Prop) : Exit → Env → Hp → Prop := thenE (fun env h => sx_2 Try.prog F 26 (cp [1, 1, 1] (bodyOf Try.f18)) (ap [1, 1, 1] slices_Equal_Sapi_Point_api_Point_an) (rs [] env) h (slices_Equal_Sapi_Point_api_Point_K0  K)) (slices_Equal_Sapi_Point_api_Point_K0  K)
def slices_Equal_Sapi_Point_api_Point_K2  (K : Value → Hp → Prop) : Exit → Env → Hp → Prop := blockE 0 (slices_Equal_Sapi_Point_api_Point_K1  K)
def slices_Equal_Sapi_Point_api_Point_K3 (nx0 : Int × Unit → Hp → Prop) (K : Value → Hp → Prop) : Exit → Env → Hp → Prop := thenE (fun env h => getV [(13, .int .i64)] env fun s => nx0 s h) (slices_Equal_Sapi_Point_api_Point_K2  K)
def slices_Equal_Sapi_Point_api_Point_b0 (s1 : Option Addr) (s1L : Nat) (s1C : Nat) (s2 : Option Addr) (s2L : Nat) (s2C : Nat) (h : Hp)  (K : Value → Hp → Prop) : Prop :=
  sx_3 Try.prog F 26 (cp [] (bodyOf Try.f18)) (ap [] slices_Equal_Sapi_Point_api_Point_an) [(0, .slice s1 s1L s1C), (1, .slice s2 s2L s2C)] h (slices_Equal_Sapi_Point_api_Point_K0  K)
def slices_Equal_Sapi_Point_api_Point_b1 (t13 : Int) (s1 : Option Addr) (s1L : Nat) (s1C : Nat) (s2 : Option Addr) (s2L : Nat) (s2C : Nat) (t12 : Int) (h : Hp) (nx0 : Int × Unit → Hp → Prop) (K : Value → Hp → Prop) : Prop :=
  sx_2 Try.prog F 26 (cp [1, 1, 0, 1, 2, 2] (bodyOf Try.f18)) (ap [1, 1, 0, 1, 2] slices_Equal_Sapi_Point_api_Point_an) [(13, .int .i64 t13), (0, .slice s1 s1L s1C), (1, .slice s2 s2L s2C), (12, .int .i64 t12)] h (slices_Equal_Sapi_Point_api_Point_K3 nx0 K)
def slices_Equal_Sapi_Point_api_Point_b2 (s1 : Option Addr) (s1L : Nat) (s1C : Nat) (s2 : Option Addr) (s2L : Nat) (s2C : Nat) (t12 : Int) (t13 : Int) (h : Hp) (nx0 : Int × Unit → Hp → Prop) (K : Value → Hp → Prop) : Prop :=
  sx_1 Try.prog F 26 (cp [1, 1, 0, 1, 2, 2, 1, 1, 1] (bodyOf Try.f18)) (ap [1, 1, 0, 1, 2, 1, 1, 1] slices_Equal_Sapi_Point_api_Point_an) [(0, .slice s1 s1L s1C), (1, .slice s2 s2L s2C), (12, .int .i64 t12), (13, .int .i64 t13)] h (slices_Equal_Sapi_Point_api_Point_K3 nx0 K)
def slices_Equal_Sapi_Point_api_Point_b3  (h : Hp)  (K : Value → Hp → Prop) : Prop :=
  sx_2 Try.prog F 26 (cp [1, 1, 1] (bodyOf Try.f18)) (ap [1, 1, 1] slices_Equal_Sapi_Point_api_Point_an) [] h (slices_Equal_Sapi_Point_api_Point_K0  K)
theorem slices_Equal_Sapi_Point_api_Point_b0_eq (s1 : Option Addr) (s1L : Nat) (s1C : Nat) (s2 : Option Addr) (s2L : Nat) (s2C : Nat) (h : Hp)  (K : Value → Hp → Prop) : slices_Equal_Sapi_Point_api_Point_b0 s1 s1L s1C s2 s2L s2C h  K = (
  cond (!decide ((s1L : Int) = (s2L : Int)))
  (K (.bool false) h)
  (LoopVC ((0, ()) : Int × Unit) h (fun (nx0 : Int × Unit → Hp → Prop) (s3 : Int × Unit) h1 => slices_Equal_Sapi_Point_api_Point_b1 s3.1 s1 s1L s1C s2 s2L s2C (s1L : Int) h1 nx0 K))) := by kernel_rfl
theorem slices_Equal_Sapi_Point_api_Point_b1_eq (t13 : Int) (s1 : Option Addr) (s1L : Nat) (s1C : Nat) (s2 : Option Addr) (s2L : Nat) (s2C : Nat) (t12 : Int) (h : Hp) (nx0 : Int × Unit → Hp → Prop) (K : Value → Hp → Prop) : slices_Equal_Sapi_Point_api_Point_b1 t13 s1 s1L s1C s2 s2L s2C t12 h nx0 K = (
  cond (decide (t13 < t12))
  ((0 ≤ t13 ∧ t13 < (s1L : Int)) ∧
  NN s1 fun a1 =>
  ∃ n1 : Int, ∃ n2 : Int, ∃ n3 : Int, cell h (a1.add (Int.toNat t13 * 3)) = some (.int .i64 n1) ∧
  cell h ((a1.add (Int.toNat t13 * 3)).add 1) = some (.int .i64 n2) ∧
  cell h ((a1.add (Int.toNat t13 * 3)).add 2) = some (.int .i64 n3) ∧
  (0 ≤ t13 ∧ t13 < (s2L : Int)) ∧
  NN s2 fun a2 =>
  ∃ n4 : Int, ∃ n5 : Int, ∃ n6 : Int, cell h (a2.add (Int.toNat t13 * 3)) = some (.int .i64 n4) ∧
  cell h ((a2.add (Int.toNat t13 * 3)).add 1) = some (.int .i64 n5) ∧
  cell h ((a2.add (Int.toNat t13 * 3)).add 2) = some (.int .i64 n6) ∧
  ∃ b1 : Bool, eqC Try.prog .neq 33 (.tmp 19) (.tmp 23) (.agg #[.int .i64 n1, .int .i64 n2, .int .i64 n3]) (.agg #[.int .i64 n4, .int .i64 n5, .int .i64 n6]) h b1 ∧
  cond b1
  (K (.bool false) h)
  (slices_Equal_Sapi_Point_api_Point_b2 s1 s1L s1C s2 s2L s2C t12 t13 h nx0 K))
  (slices_Equal_Sapi_Point_api_Point_b3  h  K)) := by kernel_rfl
theorem slices_Equal_Sapi_Point_api_Point_b2_eq (s1 : Option Addr) (s1L : Nat) (s1C : Nat) (s2 : Option Addr) (s2L : Nat) (s2C : Nat) (t12 : Int) (t13 : Int) (h : Hp) (nx0 : Int × Unit → Hp → Prop) (K : Value → Hp → Prop) : slices_Equal_Sapi_Point_api_Point_b2 s1 s1L s1C s2 s2L s2C t12 t13 h nx0 K = (
  InR (t13 + 1) ∧
  nx0 (t13 + 1, ()) h) := by kernel_rfl
theorem slices_Equal_Sapi_Point_api_Point_b3_eq  (h : Hp)  (K : Value → Hp → Prop) : slices_Equal_Sapi_Point_api_Point_b3  h  K = (
  K (.bool true) h) := by kernel_rfl
theorem slices_Equal_Sapi_Point_api_Point_call {s1 : Option Addr} {s1L : Nat} {s1C : Nat} {s2 : Option Addr} {s2L : Nat} {s2C : Nat} {h : Hp} {K : Value → Hp → Prop} (hk : slices_Equal_Sapi_Point_api_Point_b0 s1 s1L s1C s2 s2L s2C h K) : HCalls Try.prog 18 #[.slice s1 s1L s1C, .slice s2 s2L s2C] h K :=
  calls_of_snd slices_Equal_Sapi_Point_api_Point_an Try.func18 (c := bodyOf Try.f18) rfl Try.ntmps18 (Nat.le_of_ble_eq_true rfl) (snd_3 F_ok F_mixed) hk

/-! ### rangetree_Tree_Report -/
def rangetree_Tree_Report_an : Ann := .leaf
def rangetree_Tree_Report_K0  (K : Value → Hp → Prop) : Exit → Env → Hp → Prop := retK Try.prog Try.f19.results.toList K
def rangetree_Tree_Report_b0 (t : Option Addr) (x1 : Int) (x2 : Int) (y1 : Int) (y2 : Int) (h : Hp)  (K : Value → Hp → Prop) : Prop :=
  sx_1 Try.prog F 18 (cp [] (bodyOf Try.f19)) (ap [] rangetree_Tree_Report_an) [(0, .pointer t), (1, .int .i64 x1), (2, .int .i64 x2), (3, .int .i64 y1), (4, .int .i64 y2)] h (rangetree_Tree_Report_K0  K)
theorem rangetree_Tree_Report_b0_eq (t : Option Addr) (x1 : Int) (x2 : Int) (y1 : Int) (y2 : Int) (h : Hp)  (K : Value → Hp → Prop) : rangetree_Tree_Report_b0 t x1 x2 y1 y2 h  K = (
  New h (.cells #[.int .i64 x1] 3) fun b1 h1 =>
  New h1 (.cells #[.int .i64 x2] 3) fun b2 h2 =>
  New h2 (.cells #[.int .i64 y1] 3) fun b3 h3 =>
  New h3 (.cells #[.int .i64 y2] 3) fun b4 h4 =>
  cond t.isNone
  (K (.tuple #[.slice none 0 0, .int .i64 1]) h4)
  (HCalls Try.prog 15 #[.pointer t] h4 fun v1 h5 => ∃ (r1 : Option Addr) (rL1 rC1 : Nat), v1 = .slice r1 rL1 rC1 ∧
  HCalls Try.prog 34 #[.slice r1 rL1 rC1, .func (.func 35) #[] #[.pointer (some ⟨b1, 0, none⟩), .pointer (some ⟨b2, 0, none⟩), .pointer (some ⟨b3, 0, none⟩), .pointer (some ⟨b4, 0, none⟩)]] h5 fun v2 h6 => ∃ (r2 : Option Addr) (rL2 rC2 : Nat), v2 = .slice r2 rL2 rC2 ∧
  K (.tuple #[.slice r2 rL2 rC2, .int .i64 0]) h6)) := by kernel_rfl
theorem rangetree_Tree_Report_call {t : Option Addr} {x1 : Int} {x2 : Int} {y1 : Int} {y2 : Int} {h : Hp} {K : Value → Hp → Prop} (hk : rangetree_Tree_Report_b0 t x1 x2 y1 y2 h K) : HCalls Try.prog 19 #[.pointer t, .int .i64 x1, .int .i64 x2, .int .i64 y1, .int .i64 y2] h K :=
  calls_of_snd rangetree_Tree_Report_an Try.func19 (c := bodyOf Try.f19) rfl Try.ntmps19 (Nat.le_of_ble_eq_true rfl) (snd_1 F_ok F_mixed) hk

/-! ### rangetree_Tree_Sum -/
def rangetree_Tree_Sum_an : Ann := .leaf
def rangetree_Tree_Sum_K0  (K : Value → Hp → Prop) : Exit → Env → Hp → Prop := retK Try.prog Try.f20.results.toList K
def rangetree_Tree_Sum_b0 (t : Option Addr) (x1 : Int) (x2 : Int) (y1 : Int) (y2 : Int) (h : Hp)  (K : Value → Hp → Prop) : Prop :=
  sx_1 Try.prog F 26 (cp [] (bodyOf Try.f20)) (ap [] rangetree_Tree_Sum_an) [(0, .pointer t), (1, .int .i64 x1), (2, .int .i64 x2), (3, .int .i64 y1), (4, .int .i64 y2)] h (rangetree_Tree_Sum_K0  K)
theorem rangetree_Tree_Sum_b0_eq (t : Option Addr) (x1 : Int) (x2 : Int) (y1 : Int) (y2 : Int) (h : Hp)  (K : Value → Hp → Prop) : rangetree_Tree_Sum_b0 t x1 x2 y1 y2 h  K = (
  cond t.isNone
  (K (.tuple #[.int .i64 0, .int .i64 1]) h)
  (HCalls Try.prog 33 #[.pointer t, .int .i64 x1, .int .i64 x2, .int .i64 y1, .int .i64 y2] h fun v1 h1 => ∃ r1 : Int, ∃ r2 : Int, v1 = .tuple #[.int .i64 r1, .int .i64 r2] ∧
  K (.tuple #[.int .i64 r2, .int .i64 0]) h1)) := by kernel_rfl
theorem rangetree_Tree_Sum_call {t : Option Addr} {x1 : Int} {x2 : Int} {y1 : Int} {y2 : Int} {h : Hp} {K : Value → Hp → Prop} (hk : rangetree_Tree_Sum_b0 t x1 x2 y1 y2 h K) : HCalls Try.prog 20 #[.pointer t, .int .i64 x1, .int .i64 x2, .int .i64 y1, .int .i64 y2] h K :=
  calls_of_snd rangetree_Tree_Sum_an Try.func20 (c := bodyOf Try.f20) rfl Try.ntmps20 (Nat.le_of_ble_eq_true rfl) (snd_1 F_ok F_mixed) hk

/-! ### r31_Sum -/
def r31_Sum_an : Ann := .node none (.leaf) (.node none (.leaf) (.node (some [3]) (.node none (.leaf) (.loop [0] [(3, .int .i64), (4, .int .i64)] (.node none (.leaf) (.node (some [0, 3, 4]) (.leaf) (.leaf))))) (.leaf)))
def r31_Sum_K0  (K : Value → Hp → Prop) : Exit → Env → Hp → Prop := retK Try.prog Try.f21.results.toList K
def r31_Sum_K1  (K : Value → Hp → Prop) : Exit → Env → Hp → Prop := thenE (fun env h => sx_2 Try.prog F 19 (cp [1, 1, 1] (bodyOf Try.f21)) (ap [1, 1, 1] r31_Sum_an) (rs [3] env) h (r31_Sum_K0  K)) (r31_Sum_K0  K)
def r31_Sum_K2  (K : Value → Hp → Prop) : Exit → Env → Hp → Prop := blockE 0 (r31_Sum_K1  K)
def r31_Sum_K3 (nx0 : Int × Int × Unit → Hp → Prop) (K : Value → Hp → Prop) : Exit → Env → Hp → Prop := thenE (fun env h => getV [(3, .int .i64), (4, .int .i64)] env fun s => nx0 s h) (r31_Sum_K2  K)
def r31_Sum_b0 (l : Option Addr) (lL : Nat) (lC : Nat) (h : Hp)  (K : Value → Hp → Prop) : Prop :=
  sx_3 Try.prog F 19 (cp [] (bodyOf Try.f21)) (ap [] r31_Sum_an) [(0, .slice l lL lC)] h (r31_Sum_K0  K)
def r31_Sum_b1 (nv : Int) (i : Int) (l : Option Addr) (lL : Nat) (lC : Nat) (h : Hp) (nx0 : Int × Int × Unit → Hp → Prop) (K : Value → Hp → Prop) : Prop :=
  sx_2 Try.prog F 19 (cp [1, 1, 0, 1, 2, 2] (bodyOf Try.f21)) (ap [1, 1, 0, 1, 2] r31_Sum_an) [(3, .int .i64 nv), (4, .int .i64 i), (0, .slice l lL lC)] h (r31_Sum_K3 nx0 K)
def r31_Sum_b2 (l : Option Addr) (lL : Nat) (lC : Nat) (nv : Int) (i : Int) (h : Hp) (nx0 : Int × Int × Unit → Hp → Prop) (K : Value → Hp → Prop) : Prop :=
  sx_1 Try.prog F 19 (cp [1, 1, 0, 1, 2, 2, 1, 1] (bodyOf Try.f21)) (ap [1, 1, 0, 1, 2, 1, 1] r31_Sum_an) [(0, .slice l lL lC), (3, .int .i64 nv), (4, .int .i64 i)] h (r31_Sum_K3 nx0 K)
def r31_Sum_b3 (nv : Int) (h : Hp)  (K : Value → Hp → Prop) : Prop :=
  sx_2 Try.prog F 19 (cp [1, 1, 1] (bodyOf Try.f21)) (ap [1, 1, 1] r31_Sum_an) [(3, .int .i64 nv)] h (r31_Sum_K0  K)
theorem r31_Sum_b0_eq (l : Option Addr) (lL : Nat) (lC : Nat) (h : Hp)  (K : Value → Hp → Prop) : r31_Sum_b0 l lL lC h  K = (
  LoopVC ((0, 0, ()) : Int × Int × Unit) h (fun (nx0 : Int × Int × Unit → Hp → Prop) (s1 : Int × Int × Unit) h1 => r31_Sum_b1 s1.1 s1.2.1 l lL lC h1 nx0 K)) := by kernel_rfl
theorem r31_Sum_b1_eq (nv : Int) (i : Int) (l : Option Addr) (lL : Nat) (lC : Nat) (h : Hp) (nx0 : Int × Int × Unit → Hp → Prop) (K : Value → Hp → Prop) : r31_Sum_b1 nv i l lL lC h nx0 K = (
  cond (decide (i < (lL : Int)))
  ((0 ≤ i ∧ i < (lL : Int)) ∧
  NN l fun a1 =>
  ∃ n1 : Int, cell h ((a1.add (Int.toNat i * 3)).add 2) = some (.int .i64 n1) ∧
  InR (nv + n1) ∧
  r31_Sum_b2 l lL lC (nv + n1) i h nx0 K)
  (r31_Sum_b3 nv h  K)) := by kernel_rfl
theorem r31_Sum_b2_eq (l : Option Addr) (lL : Nat) (lC : Nat) (nv : Int) (i : Int) (h : Hp) (nx0 : Int × Int × Unit → Hp → Prop) (K : Value → Hp → Prop) : r31_Sum_b2 l lL lC nv i h nx0 K = (
  InR (i + 1) ∧
  nx0 (nv, i + 1, ()) h) := by kernel_rfl
theorem r31_Sum_b3_eq (nv : Int) (h : Hp)  (K : Value → Hp → Prop) : r31_Sum_b3 nv h  K = (
  K (.int .i64 nv) h) := by kernel_rfl
theorem r31_Sum_call {l : Option Addr} {lL : Nat} {lC : Nat} {h : Hp} {K : Value → Hp → Prop} (hk : r31_Sum_b0 l lL lC h K) : HCalls Try.prog 21 #[.slice l lL lC] h K :=
  calls_of_snd r31_Sum_an Try.func21 (c := bodyOf Try.f21) rfl Try.ntmps21 (Nat.le_of_ble_eq_true rfl) (snd_3 F_ok F_mixed) hk

/-! ### rangetree_Tree_Leftmost -/
def rangetree_Tree_Leftmost_an : Ann := .node none (.leaf) (.node none (.leaf) (.node (some [8]) (.node none (.leaf) (.loop [1, 2, 3, 8, 16, 17] [(18, .int .i64)] (.node none (.leaf) (.node none (.leaf) (.node (some [1, 2, 3, 8, 16, 17, 18]) (.leaf) (.leaf)))))) (.leaf)))
def rangetree_Tree_Leftmost_K0  (K : Value → Hp → Prop) : Exit → Env → Hp → Prop := retK Try.prog Try.f22.results.toList K
def rangetree_Tree_Leftmost_K1  (K : Value → Hp → Prop) : Exit → Env → Hp → Prop := thenE (fun env h => sx_2 Try.prog F 41 (cp [1, 1, 1] (bodyOf Try.f22)) (ap [1, 1, 1] rangetree_Tree_Leftmost_an) (rs [8] env) h (rangetree_Tree_Leftmost_K0  K)) (rangetree_Tree_Leftmost_K0  K)
def rangetree_Tree_Leftmost_K2  (K : Value → Hp → Prop) : Exit → Env → Hp → Prop := blockE 0 (rangetree_Tree_Leftmost_K1  K)
def rangetree_Tree_Leftmost_K3 (nx0 : Int × Unit → Hp → Prop) (K : Value → Hp → Prop) : Exit → Env → Hp → Prop := thenE (fun env h => getV [(18, .int .i64)] env fun s => nx0 s h) (rangetree_Tree_Leftmost_K2  K)
def rangetree_Tree_Leftmost_b0 (t : Option Addr) (x1 : Int) (y1 : Int) (y2 : Int) (h : Hp)  (K : Value → Hp → Prop) : Prop :=
  sx_3 Try.prog F 41 (cp [] (bodyOf Try.f22)) (ap [] rangetree_Tree_Leftmost_an) [(0, .pointer t), (1, .int .i64 x1), (2, .int .i64 y1), (3, .int .i64 y2)] h (rangetree_Tree_Leftmost_K0  K)
def rangetree_Tree_Leftmost_b1 (t18 : Int) (x1 : Int) (y1 : Int) (y2 : Int) (t8 : Option Addr) (t16 : Option Addr) (t16L : Nat) (t16C : Nat) (t17 : Int) (h : Hp) (nx0 : Int × Unit → Hp → Prop) (K : Value → Hp → Prop) : Prop :=
  sx_2 Try.prog F 41 (cp [1, 1, 0, 1, 2, 2] (bodyOf Try.f22)) (ap [1, 1, 0, 1, 2] rangetree_Tree_Leftmost_an) [(18, .int .i64 t18), (1, .int .i64 x1), (2, .int .i64 y1), (3, .int .i64 y2), (8, .pointer t8), (16, .slice t16 t16L t16C), (17, .int .i64 t17)] h (rangetree_Tree_Leftmost_K3 nx0 K)
def rangetree_Tree_Leftmost_b2 (x1 : Int) (y1 : Int) (y2 : Int) (t8 : Option Addr) (t16 : Option Addr) (t16L : Nat) (t16C : Nat) (t17 : Int) (t18 : Int) (h : Hp) (nx0 : Int × Unit → Hp → Prop) (K : Value → Hp → Prop) : Prop :=
  sx_1 Try.prog F 41 (cp [1, 1, 0, 1, 2, 2, 1, 1, 1] (bodyOf Try.f22)) (ap [1, 1, 0, 1, 2, 1, 1, 1] rangetree_Tree_Leftmost_an) [(1, .int .i64 x1), (2, .int .i64 y1), (3, .int .i64 y2), (8, .pointer t8), (16, .slice t16 t16L t16C), (17, .int .i64 t17), (18, .int .i64 t18)] h (rangetree_Tree_Leftmost_K3 nx0 K)
def rangetree_Tree_Leftmost_b3 (t8 : Option Addr) (h : Hp)  (K : Value → Hp → Prop) : Prop :=
  sx_2 Try.prog F 41 (cp [1, 1, 1] (bodyOf Try.f22)) (ap [1, 1, 1] rangetree_Tree_Leftmost_an) [(8, .pointer t8)] h (rangetree_Tree_Leftmost_K0  K)
theorem rangetree_Tree_Leftmost_b0_eq (t : Option Addr) (x1 : Int) (y1 : Int) (y2 : Int) (h : Hp)  (K : Value → Hp → Prop) : rangetree_Tree_Leftmost_b0 t x1 y1 y2 h  K = (
  New h (.cells #[.int .i64 0, .int .i64 0, .int .i64 0] 33) fun b1 h1 =>
  cond t.isNone
  (Wr h1 ⟨b1, 0, none⟩ (.int .i64 0) fun h2 =>
  Wr h2 ((⟨b1, 0, none⟩ : Addr).add 1) (.int .i64 0) fun h3 =>
  Wr h3 ((⟨b1, 0, none⟩ : Addr).add 2) (.int .i64 0) fun h4 =>
  ∃ r1 : Int, ∃ r2 : Int, ∃ r3 : Int, cell h4 ⟨b1, 0, none⟩ = some (.int .i64 r1) ∧
  cell h4 ((⟨b1, 0, none⟩ : Addr).add 1) = some (.int .i64 r2) ∧
  cell h4 ((⟨b1, 0, none⟩ : Addr).add 2) = some (.int .i64 r3) ∧
  K (.tuple #[.agg #[.int .i64 r1, .int .i64 r2, .int .i64 r3], .int .i64 1]) h4)
  (HCalls Try.prog 15 #[.pointer t] h1 fun v1 h5 => ∃ (r4 : Option Addr) (rL1 rC1 : Nat), v1 = .slice r4 rL1 rC1 ∧
  LoopVC ((0, ()) : Int × Unit) h5 (fun (nx0 : Int × Unit → Hp → Prop) (s1 : Int × Unit) h6 => rangetree_Tree_Leftmost_b1 s1.1 x1 y1 y2 (some ⟨b1, 0, none⟩) r4 rL1 rC1 (rL1 : Int) h6 nx0 K))) := by kernel_rfl
theorem rangetree_Tree_Leftmost_b1_eq (t18 : Int) (x1 : Int) (y1 : Int) (y2 : Int) (t8 : Option Addr) (t16 : Option Addr) (t16L : Nat) (t16C : Nat) (t17 : Int) (h : Hp) (nx0 : Int × Unit → Hp → Prop) (K : Value → Hp → Prop) : rangetree_Tree_Leftmost_b1 t18 x1 y1 y2 t8 t16 t16L t16C t17 h nx0 K = (
  cond (decide (t18 < t17))
  ((0 ≤ t18 ∧ t18 < (t16L : Int)) ∧
  NN t16 fun a1 =>
  ∃ n1 : Int, ∃ n2 : Int, ∃ n3 : Int, cell h (a1.add (Int.toNat t18 * 3)) = some (.int .i64 n1) ∧
  cell h ((a1.add (Int.toNat t18 * 3)).add 1) = some (.int .i64 n2) ∧
  cell h ((a1.add (Int.toNat t18 * 3)).add 2) = some (.int .i64 n3) ∧
  New h (.cells #[.int .i64 0, .int .i64 0, .int .i64 0] 33) fun b2 h7 =>
  Wr h7 ⟨b2, 0, none⟩ (.int .i64 n1) fun h8 =>
  Wr h8 ((⟨b2, 0, none⟩ : Addr).add 1) (.int .i64 n2) fun h9 =>
  Wr h9 ((⟨b2, 0, none⟩ : Addr).add 2) (.int .i64 n3) fun h10 =>
  ∃ n4 : Int, cell h10 ⟨b2, 0, none⟩ = some (.int .i64 n4) ∧
  cond (decide (x1 ≤ n4))
  (∃ n5 : Int, cell h10 ((⟨b2, 0, none⟩ : Addr).add 1) = some (.int .i64 n5) ∧
  cond (decide (y1 ≤ n5))
  (∃ n6 : Int, cell h10 ((⟨b2, 0, none⟩ : Addr).add 1) = some (.int .i64 n6) ∧
  cond (decide (n6 ≤ y2))
  (∃ n7 : Int, ∃ n8 : Int, ∃ n9 : Int, cell h10 ⟨b2, 0, none⟩ = some (.int .i64 n7) ∧
  cell h10 ((⟨b2, 0, none⟩ : Addr).add 1) = some (.int .i64 n8) ∧
  cell h10 ((⟨b2, 0, none⟩ : Addr).add 2) = some (.int .i64 n9) ∧
  NN t8 fun a2 =>
  Wr h10 a2 (.int .i64 n7) fun h11 =>
  Wr h11 (a2.add 1) (.int .i64 n8) fun h12 =>
  Wr h12 (a2.add 2) (.int .i64 n9) fun h13 =>
  NN t8 fun a3 =>
  ∃ r5 : Int, ∃ r6 : Int, ∃ r7 : Int, cell h13 a3 = some (.int .i64 r5) ∧
  cell h13 (a3.add 1) = some (.int .i64 r6) ∧
  cell h13 (a3.add 2) = some (.int .i64 r7) ∧
  K (.tuple #[.agg #[.int .i64 r5, .int .i64 r6, .int .i64 r7], .int .i64 0]) h13)
  (rangetree_Tree_Leftmost_b2 x1 y1 y2 t8 t16 t16L t16C t17 t18 h10 nx0 K))
  (rangetree_Tree_Leftmost_b2 x1 y1 y2 t8 t16 t16L t16C t17 t18 h10 nx0 K))
  (rangetree_Tree_Leftmost_b2 x1 y1 y2 t8 t16 t16L t16C t17 t18 h10 nx0 K))
  (rangetree_Tree_Leftmost_b3 t8 h  K)) := by kernel_rfl
theorem rangetree_Tree_Leftmost_b2_eq (x1 : Int) (y1 : Int) (y2 : Int) (t8 : Option Addr) (t16 : Option Addr) (t16L : Nat) (t16C : Nat) (t17 : Int) (t18 : Int) (h : Hp) (nx0 : Int × Unit → Hp → Prop) (K : Value → Hp → Prop) : rangetree_Tree_Leftmost_b2 x1 y1 y2 t8 t16 t16L t16C t17 t18 h nx0 K = (
  InR (t18 + 1) ∧
  nx0 (t18 + 1, ()) h) := by kernel_rfl
theorem rangetree_Tree_Leftmost_b3_eq (t8 : Option Addr) (h : Hp)  (K : Value → Hp → Prop) : rangetree_Tree_Leftmost_b3 t8 h  K = (
  NN t8 fun a4 =>
  Wr h a4 (.int .i64 0) fun h14 =>
  Wr h14 (a4.add 1) (.int .i64 0) fun h15 =>
  Wr h15 (a4.add 2) (.int .i64 0) fun h16 =>
  NN t8 fun a5 =>
  ∃ r8 : Int, ∃ r9 : Int, ∃ r10 : Int, cell h16 a5 = some (.int .i64 r8) ∧
  cell h16 (a5.add 1) = some (.int .i64 r9) ∧
  cell h16 (a5.add 2) = some (.int .i64 r10) ∧
  K (.tuple #[.agg #[.int .i64 r8, .int .i64 r9, .int .i64 r10], .int .i64 12]) h16) := by kernel_rfl
theorem rangetree_Tree_Leftmost_call {t : Option Addr} {x1 : Int} {y1 : Int} {y2 : Int} {h : Hp} {K : Value → Hp → Prop} (hk : rangetree_Tree_Leftmost_b0 t x1 y1 y2 h K) : HCalls Try.prog 22 #[.pointer t, .int .i64 x1, .int .i64 y1, .int .i64 y2] h K :=
  calls_of_snd rangetree_Tree_Leftmost_an Try.func22 (c := bodyOf Try.f22) rfl Try.ntmps22 (Nat.le_of_ble_eq_true rfl) (snd_3 F_ok F_mixed) hk

end Go.Proofs.Ytbfejfejahoblaa
