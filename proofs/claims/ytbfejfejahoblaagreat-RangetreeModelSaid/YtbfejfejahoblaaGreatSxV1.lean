/- Plain statements of what each block of code of this seat asks; printed by a program, checked by Lean. -/
import Derived.Test.YtbfejfejahoblaaGreatSxV0
set_option maxRecDepth 10000
namespace Go.Proofs.YtbfejfejahoblaaGreat
open Go Go.Sx

/-! ### l31_RangetreeModel -/
def l31_RangetreeModel_an : Ann := .node none (.leaf) (.node (some [0]) (.leaf) (.node none (.leaf) (.node none (.leaf) (.node (some [0, 3, 5]) (.leaf) (.node (some [3, 5]) (.node none (.leaf) (.loop [3, 5, 46, 47] [(48, .int .i64)] (.node none (.leaf) (.node none (.leaf) (.node (some [3, 5, 46, 47, 48]) (.node none (.leaf) (.node none (.leaf) (.node none (.leaf) (.node (some [3, 5, 9, 10, 11, 12, 14, 46, 47, 48]) (.node none (.leaf) (.node none (.leaf) (.node none (.tail 11) (.node none (.leaf) (.node none (.node none (.plan (.qu 0 (.qu 1 (.qu 2 (.qu 3 (.qu 4 (.qu 5 (.qu 6 (.qu 7 (.qu 8 (.qu 9 (.qu 10 (.qu 11 (.qu 12 (.wo 13 (.qu 14 (.qu 15 (.qu 16 (.wo 17 .fin .no)))) .no))))))))))))))) (.tail 7)) (.node none (.leaf) (.node none (.plan (.qu 0 (.qu 1 (.qu 2 (.qu 3 (.qu 4 (.qu 5 (.qu 6 (.qu 7 (.qu 8 (.qu 9 (.qu 10 (.qu 11 (.qu 12 (.wo 13 (.qu 14 (.qu 15 (.qu 16 (.wo 17 (.wo 18 .fin .no) .no)))) .no))))))))))))))) (.node none (.leaf) (.node none (.plan (.qu 0 (.qu 1 (.qu 2 (.qu 3 (.qu 4 (.qu 5 (.qu 6 (.qu 7 (.qu 8 (.qu 9 (.qu 10 (.qu 11 (.qu 12 (.wo 13 (.qu 14 (.qu 15 (.qu 16 (.wo 17 (.wo 18 .fin .no) .no)))) .no))))))))))))))) (.leaf)))))))))) (.node (some [3, 5, 9, 46, 47, 48]) (.leaf) (.leaf)))))) (.leaf)))))) (.leaf))))))
def l31_RangetreeModel_K0  (K : Value → Hp → Prop) : Exit → Env → Hp → Prop := retK Tryz.prog Tryz.f3.results.toList K
def l31_RangetreeModel_K1  (K : Value → Hp → Prop) : Exit → Env → Hp → Prop := thenE (fun env h => sx_3 Tryz.prog F 166 (cp [1, 1, 1, 1, 1, 1] (bodyOf Tryz.f3)) (ap [1, 1, 1, 1, 1, 1] l31_RangetreeModel_an) (rs [3, 5] env) h (l31_RangetreeModel_K0  K)) (l31_RangetreeModel_K0  K)
def l31_RangetreeModel_K2  (K : Value → Hp → Prop) : Exit → Env → Hp → Prop := blockE 0 (l31_RangetreeModel_K1  K)
def l31_RangetreeModel_K3 (nx0 : Int × Unit → Hp → Prop) (K : Value → Hp → Prop) : Exit → Env → Hp → Prop := thenE (fun env h => getV [(48, .int .i64)] env fun s => nx0 s h) (l31_RangetreeModel_K2  K)
def l31_RangetreeModel_K4 (nx0 : Int × Unit → Hp → Prop) (K : Value → Hp → Prop) : Exit → Env → Hp → Prop := thenE (fun env h => sx_2 Tryz.prog F 166 (cp [1, 1, 1, 1, 1, 0, 1, 2, 2, 1, 1, 1] (bodyOf Tryz.f3)) (ap [1, 1, 1, 1, 1, 0, 1, 2, 1, 1, 1] l31_RangetreeModel_an) (rs [3, 5, 46, 47, 48] env) h (l31_RangetreeModel_K3 nx0 K)) (l31_RangetreeModel_K3 nx0 K)
def l31_RangetreeModel_K5 (nx0 : Int × Unit → Hp → Prop) (K : Value → Hp → Prop) : Exit → Env → Hp → Prop := blockE 1 (l31_RangetreeModel_K4 nx0 K)
def l31_RangetreeModel_b0 (l : Option Addr) (lL : Nat) (lC : Nat) (h : Hp)  (K : Value → Hp → Prop) : Prop :=
  sx_6 Tryz.prog F 166 (cp [] (bodyOf Tryz.f3)) (ap [] l31_RangetreeModel_an) [(0, .slice l lL lC)] h (l31_RangetreeModel_K0  K)
def l31_RangetreeModel_b1 (l : Option Addr) (lL : Nat) (lC : Nat) (h : Hp)  (K : Value → Hp → Prop) : Prop :=
  sx_5 Tryz.prog F 166 (cp [1, 1] (bodyOf Tryz.f3)) (ap [1, 1] l31_RangetreeModel_an) [(0, .slice l lL lC)] h (l31_RangetreeModel_K0  K)
def l31_RangetreeModel_b2 (l : Option Addr) (lL : Nat) (lC : Nat) (t : Option Addr) (s : Option Addr) (h : Hp)  (K : Value → Hp → Prop) : Prop :=
  sx_4 Tryz.prog F 166 (cp [1, 1, 1, 1, 1] (bodyOf Tryz.f3)) (ap [1, 1, 1, 1, 1] l31_RangetreeModel_an) [(0, .slice l lL lC), (3, .pointer t), (5, .pointer s)] h (l31_RangetreeModel_K0  K)
def l31_RangetreeModel_b3 (t48 : Int) (t : Option Addr) (s : Option Addr) (t46 : Option Addr) (t46L : Nat) (t46C : Nat) (t47 : Int) (h : Hp) (nx0 : Int × Unit → Hp → Prop) (K : Value → Hp → Prop) : Prop :=
  sx_3 Tryz.prog F 166 (cp [1, 1, 1, 1, 1, 0, 1, 2, 2] (bodyOf Tryz.f3)) (ap [1, 1, 1, 1, 1, 0, 1, 2] l31_RangetreeModel_an) [(48, .int .i64 t48), (3, .pointer t), (5, .pointer s), (46, .slice t46 t46L t46C), (47, .int .i64 t47)] h (l31_RangetreeModel_K3 nx0 K)
def l31_RangetreeModel_b4 (t : Option Addr) (s : Option Addr) (next : Option Addr) (r : Option Addr) (g : Int) (nv : Int) (hv : Int) (t46 : Option Addr) (t46L : Nat) (t46C : Nat) (t47 : Int) (t48 : Int) (h : Hp) (nx0 : Int × Unit → Hp → Prop) (K : Value → Hp → Prop) : Prop :=
  sx_2 Tryz.prog F 166 (cp [1, 1, 1, 1, 1, 0, 1, 2, 2, 1, 1, 0, 2, 1, 1, 1, 1] (bodyOf Tryz.f3)) (ap [1, 1, 1, 1, 1, 0, 1, 2, 1, 1, 0, 1, 1, 1, 1] l31_RangetreeModel_an) [(3, .pointer t), (5, .pointer s), (9, .pointer next), (10, .pointer r), (11, .int .i64 g), (12, .int .i64 nv), (14, .int .i64 hv), (46, .slice t46 t46L t46C), (47, .int .i64 t47), (48, .int .i64 t48)] h (l31_RangetreeModel_K5 nx0 K)
def l31_RangetreeModel_b5 (t : Option Addr) (s : Option Addr) (h : Hp)  (K : Value → Hp → Prop) : Prop :=
  sx_3 Tryz.prog F 166 (cp [1, 1, 1, 1, 1, 1] (bodyOf Tryz.f3)) (ap [1, 1, 1, 1, 1, 1] l31_RangetreeModel_an) [(3, .pointer t), (5, .pointer s)] h (l31_RangetreeModel_K0  K)
def l31_RangetreeModel_b6 (t : Option Addr) (s : Option Addr) (next : Option Addr) (t46 : Option Addr) (t46L : Nat) (t46C : Nat) (t47 : Int) (t48 : Int) (h : Hp) (nx0 : Int × Unit → Hp → Prop) (K : Value → Hp → Prop) : Prop :=
  sx_1 Tryz.prog F 166 (cp [1, 1, 1, 1, 1, 0, 1, 2, 2, 1, 1, 0, 2, 1, 1, 1, 1, 1] (bodyOf Tryz.f3)) (ap [1, 1, 1, 1, 1, 0, 1, 2, 1, 1, 0, 1, 1, 1, 1, 1] l31_RangetreeModel_an) [(3, .pointer t), (5, .pointer s), (9, .pointer next), (46, .slice t46 t46L t46C), (47, .int .i64 t47), (48, .int .i64 t48)] h (l31_RangetreeModel_K5 nx0 K)
def l31_RangetreeModel_b7 (t : Option Addr) (s : Option Addr) (t46 : Option Addr) (t46L : Nat) (t46C : Nat) (t47 : Int) (t48 : Int) (h : Hp) (nx0 : Int × Unit → Hp → Prop) (K : Value → Hp → Prop) : Prop :=
  sx_2 Tryz.prog F 166 (cp [1, 1, 1, 1, 1, 0, 1, 2, 2, 1, 1, 1] (bodyOf Tryz.f3)) (ap [1, 1, 1, 1, 1, 0, 1, 2, 1, 1, 1] l31_RangetreeModel_an) [(3, .pointer t), (5, .pointer s), (46, .slice t46 t46L t46C), (47, .int .i64 t47), (48, .int .i64 t48)] h (l31_RangetreeModel_K3 nx0 K)
theorem l31_RangetreeModel_b0_eq (l : Option Addr) (lL : Nat) (lC : Nat) (h : Hp)  (K : Value → Hp → Prop) : l31_RangetreeModel_b0 l lL lC h  K = (
  HCalls Tryz.prog 4 #[] h fun v1 h1 => ∃ r1 : Bool, v1 = .bool r1 ∧
  cond (!r1)
  (HCalls Tryz.prog 4 #[] h1 fun v2 h2 => ∃ r2 : Bool, v2 = .bool r2 ∧
  K (.bool r2) h2)
  (cond (decide ((40 : Int) < (lL : Int)))
  (HCalls Tryz.prog 4 #[] h1 fun v3 h3 => ∃ r3 : Bool, v3 = .bool r3 ∧
  K (.bool r3) h3)
  (HCalls Tryz.prog 5 #[.int .i64 5, .slice l lL lC] h1 fun v4 h4 => ∃ r4 : Bool, v4 = .bool r4 ∧
  cond (!r4)
  (HCalls Tryz.prog 4 #[] h4 fun v5 h5 => ∃ r5 : Bool, v5 = .bool r5 ∧
  K (.bool r5) h5)
  (l31_RangetreeModel_b1 l lL lC h4  K)))) := by kernel_rfl
theorem l31_RangetreeModel_b1_eq (l : Option Addr) (lL : Nat) (lC : Nat) (h : Hp)  (K : Value → Hp → Prop) : l31_RangetreeModel_b1 l lL lC h  K = (
  HCalls Tryz.prog 6 #[.slice none 0 0] h fun v6 h6 => ∃ r6 : Option Addr, ∃ r7 : Int, v6 = .tuple #[.pointer r6, .int .i64 r7] ∧
  HCalls Tryz.prog 7 #[.int .i64 5] h6 fun v7 h7 => ∃ r8 : Int, ∃ (r9 : Option Addr) (rL1 rC1 : Nat), ∃ r10 : Int, v7 = .tuple #[.agg #[.int .i64 r8, .slice r9 rL1 rC1], .int .i64 r10] ∧
  New h7 (.cells #[.int .i64 0, .slice none 0 0] 31) fun b1 h8 =>
  Wr h8 ⟨b1, 0, none⟩ (.int .i64 r8) fun h9 =>
  Wr h9 ((⟨b1, 0, none⟩ : Addr).add 1) (.slice r9 rL1 rC1) fun h10 =>
  cond r6.isNone
  (K (.bool false) h10)
  (cond (!decide (r7 = 0))
  (K (.bool false) h10)
  (cond (!decide (r10 = 0))
  (K (.bool false) h10)
  (l31_RangetreeModel_b2 l lL lC r6 (some ⟨b1, 0, none⟩) h10  K)))) := by kernel_rfl
theorem l31_RangetreeModel_b2_eq (l : Option Addr) (lL : Nat) (lC : Nat) (t : Option Addr) (s : Option Addr) (h : Hp)  (K : Value → Hp → Prop) : l31_RangetreeModel_b2 l lL lC t s h  K = (
  LoopVC ((0, ()) : Int × Unit) h (fun (nx0 : Int × Unit → Hp → Prop) (s1 : Int × Unit) h11 => l31_RangetreeModel_b3 s1.1 t s l lL lC (lL : Int) h11 nx0 K)) := by kernel_rfl
theorem l31_RangetreeModel_b3_eq (t48 : Int) (t : Option Addr) (s : Option Addr) (t46 : Option Addr) (t46L : Nat) (t46C : Nat) (t47 : Int) (h : Hp) (nx0 : Int × Unit → Hp → Prop) (K : Value → Hp → Prop) : l31_RangetreeModel_b3 t48 t s t46 t46L t46C t47 h nx0 K = (
  cond (decide (t48 < t47))
  ((0 ≤ t48 ∧ t48 < (t46L : Int)) ∧
  NN t46 fun a1 =>
  ∃ n1 : Int, ∃ (a2 : Option Addr) (L1 C1 : Nat), cell h (a1.add (Int.toNat t48 * 2)) = some (.int .i64 n1) ∧
  cell h ((a1.add (Int.toNat t48 * 2)).add 1) = some (.slice a2 L1 C1) ∧
  New h (.cells #[.int .i64 0, .slice none 0 0] 36) fun b2 h12 =>
  Wr h12 ⟨b2, 0, none⟩ (.int .i64 n1) fun h13 =>
  Wr h13 ((⟨b2, 0, none⟩ : Addr).add 1) (.slice a2 L1 C1) fun h14 =>
  NN s fun a3 =>
  ∃ n2 : Int, ∃ (a4 : Option Addr) (L2 C2 : Nat), cell h14 a3 = some (.int .i64 n2) ∧
  cell h14 (a3.add 1) = some (.slice a4 L2 C2) ∧
  ∃ n3 : Int, ∃ (a5 : Option Addr) (L3 C3 : Nat), cell h14 ⟨b2, 0, none⟩ = some (.int .i64 n3) ∧
  cell h14 ((⟨b2, 0, none⟩ : Addr).add 1) = some (.slice a5 L3 C3) ∧
  HCalls Tryz.prog 8 #[.agg #[.int .i64 n2, .slice a4 L2 C2], .agg #[.int .i64 n3, .slice a5 L3 C3]] h14 fun v8 h15 => ∃ r11 : Int, ∃ (r12 : Option Addr) (rL2 rC2 : Nat), ∃ r13 : Int, ∃ r14 : Int, ∃ (r15 : Option Addr) (rL3 rC3 : Nat), ∃ r16 : Int, v8 = .tuple #[.agg #[.int .i64 r11, .slice r12 rL2 rC2], .agg #[.int .i64 r13, .int .i64 r14, .slice r15 rL3 rC3], .int .i64 r16] ∧
  New h15 (.cells #[.int .i64 0, .slice none 0 0] 31) fun b3 h16 =>
  New h16 (.cells #[.int .i64 0, .int .i64 0, .slice none 0 0] 38) fun b4 h17 =>
  Wr h17 ⟨b3, 0, none⟩ (.int .i64 r11) fun h18 =>
  Wr h18 ((⟨b3, 0, none⟩ : Addr).add 1) (.slice r12 rL2 rC2) fun h19 =>
  Wr h19 ⟨b4, 0, none⟩ (.int .i64 r13) fun h20 =>
  Wr h20 ((⟨b4, 0, none⟩ : Addr).add 1) (.int .i64 r14) fun h21 =>
  Wr h21 ((⟨b4, 0, none⟩ : Addr).add 2) (.slice r15 rL3 rC3) fun h22 =>
  ∃ (a6 : Option Addr) (L4 C4 : Nat), cell h22 ((⟨b2, 0, none⟩ : Addr).add 1) = some (.slice a6 L4 C4) ∧
  ∃ n4 : Int, cell h22 ⟨b2, 0, none⟩ = some (.int .i64 n4) ∧
  cond (decide (n4 = 1))
  ((0 ≤ (0 : Int) ∧ (0 : Int) < (L4 : Int)) ∧
  NN a6 fun a7 =>
  ∃ n5 : Int, cell h22 (a7.add (Int.toNat (0 : Int) * 1)) = some (.int .i64 n5) ∧
  (0 ≤ (1 : Int) ∧ (1 : Int) < (L4 : Int)) ∧
  NN a6 fun a8 =>
  ∃ n6 : Int, cell h22 (a8.add (Int.toNat (1 : Int) * 1)) = some (.int .i64 n6) ∧
  (0 ≤ (2 : Int) ∧ (2 : Int) < (L4 : Int)) ∧
  NN a6 fun a9 =>
  ∃ n7 : Int, cell h22 (a9.add (Int.toNat (2 : Int) * 1)) = some (.int .i64 n7) ∧
  HCalls Tryz.prog 9 #[.pointer t, .agg #[.int .i64 n5, .int .i64 n6, .int .i64 n7]] h22 fun v9 h23 => ∃ r17 : Int, v9 = .int .i64 r17 ∧
  l31_RangetreeModel_b4 t s (some ⟨b3, 0, none⟩) (some ⟨b4, 0, none⟩) r16 0 r17 t46 t46L t46C t47 t48 h23 nx0 K)
  (cond (decide (n4 = 2))
  ((0 ≤ (0 : Int) ∧ (0 : Int) < (L4 : Int)) ∧
  NN a6 fun a10 =>
  ∃ n8 : Int, cell h22 (a10.add (Int.toNat (0 : Int) * 1)) = some (.int .i64 n8) ∧
  (0 ≤ (0 : Int) ∧ (0 : Int) < (L4 : Int)) ∧
  NN a6 fun a11 =>
  ∃ n9 : Int, cell h22 (a11.add (Int.toNat (0 : Int) * 1)) = some (.int .i64 n9) ∧
  (0 ≤ (1 : Int) ∧ (1 : Int) < (L4 : Int)) ∧
  NN a6 fun a12 =>
  ∃ n10 : Int, cell h22 (a12.add (Int.toNat (1 : Int) * 1)) = some (.int .i64 n10) ∧
  (0 ≤ (1 : Int) ∧ (1 : Int) < (L4 : Int)) ∧
  NN a6 fun a13 =>
  ∃ n11 : Int, cell h22 (a13.add (Int.toNat (1 : Int) * 1)) = some (.int .i64 n11) ∧
  HCalls Tryz.prog 10 #[.pointer t, .int .i64 n8, .int .i64 n9, .int .i64 n10, .int .i64 n11] h22 fun v10 h24 => ∃ r18 : Int, ∃ r19 : Int, v10 = .tuple #[.int .i64 r18, .int .i64 r19] ∧
  (0 ≤ (0 : Int) ∧ (0 : Int) < (L4 : Int)) ∧
  NN a6 fun a14 =>
  ∃ n12 : Int, cell h24 (a14.add (Int.toNat (0 : Int) * 1)) = some (.int .i64 n12) ∧
  (0 ≤ (1 : Int) ∧ (1 : Int) < (L4 : Int)) ∧
  NN a6 fun a15 =>
  ∃ n13 : Int, cell h24 (a15.add (Int.toNat (1 : Int) * 1)) = some (.int .i64 n13) ∧
  HCalls Tryz.prog 11 #[.pointer t, .int .i64 n12, .int .i64 n13] h24 fun v11 h25 => ∃ r20 : Int, v11 = .int .i64 r20 ∧
  l31_RangetreeModel_b4 t s (some ⟨b3, 0, none⟩) (some ⟨b4, 0, none⟩) r16 r18 r20 t46 t46L t46C t47 t48 h25 nx0 K)
  (cond (decide (n4 = 3))
  ((0 ≤ (0 : Int) ∧ (0 : Int) < (L4 : Int)) ∧
  NN a6 fun a16 =>
  ∃ n14 : Int, cell h22 (a16.add (Int.toNat (0 : Int) * 1)) = some (.int .i64 n14) ∧
  (0 ≤ (1 : Int) ∧ (1 : Int) < (L4 : Int)) ∧
  NN a6 fun a17 =>
  ∃ n15 : Int, cell h22 (a17.add (Int.toNat (1 : Int) * 1)) = some (.int .i64 n15) ∧
  (0 ≤ (2 : Int) ∧ (2 : Int) < (L4 : Int)) ∧
  NN a6 fun a18 =>
  ∃ n16 : Int, cell h22 (a18.add (Int.toNat (2 : Int) * 1)) = some (.int .i64 n16) ∧
  (0 ≤ (3 : Int) ∧ (3 : Int) < (L4 : Int)) ∧
  NN a6 fun a19 =>
  ∃ n17 : Int, cell h22 (a19.add (Int.toNat (3 : Int) * 1)) = some (.int .i64 n17) ∧
  HCalls Tryz.prog 12 #[.pointer t, .int .i64 n14, .int .i64 n15, .int .i64 n16, .int .i64 n17] h22 fun v12 h26 => ∃ r21 : Int, ∃ r22 : Int, v12 = .tuple #[.int .i64 r21, .int .i64 r22] ∧
  l31_RangetreeModel_b4 t s (some ⟨b3, 0, none⟩) (some ⟨b4, 0, none⟩) r16 r21 r22 t46 t46L t46C t47 t48 h26 nx0 K)
  (cond (decide (n4 = 4))
  ((0 ≤ (0 : Int) ∧ (0 : Int) < (L4 : Int)) ∧
  NN a6 fun a20 =>
  ∃ n18 : Int, cell h22 (a20.add (Int.toNat (0 : Int) * 1)) = some (.int .i64 n18) ∧
  (0 ≤ (1 : Int) ∧ (1 : Int) < (L4 : Int)) ∧
  NN a6 fun a21 =>
  ∃ n19 : Int, cell h22 (a21.add (Int.toNat (1 : Int) * 1)) = some (.int .i64 n19) ∧
  (0 ≤ (2 : Int) ∧ (2 : Int) < (L4 : Int)) ∧
  NN a6 fun a22 =>
  ∃ n20 : Int, cell h22 (a22.add (Int.toNat (2 : Int) * 1)) = some (.int .i64 n20) ∧
  (0 ≤ (3 : Int) ∧ (3 : Int) < (L4 : Int)) ∧
  NN a6 fun a23 =>
  ∃ n21 : Int, cell h22 (a23.add (Int.toNat (3 : Int) * 1)) = some (.int .i64 n21) ∧
  HCalls Tryz.prog 10 #[.pointer t, .int .i64 n18, .int .i64 n19, .int .i64 n20, .int .i64 n21] h22 fun v13 h27 => ∃ r23 : Int, ∃ r24 : Int, v13 = .tuple #[.int .i64 r23, .int .i64 r24] ∧
  l31_RangetreeModel_b4 t s (some ⟨b3, 0, none⟩) (some ⟨b4, 0, none⟩) r16 r23 r24 t46 t46L t46C t47 t48 h27 nx0 K)
  (HCalls Tryz.prog 13 #[.pointer t] h22 fun v14 h28 => ∃ r25 : Int, v14 = .int .i64 r25 ∧
  l31_RangetreeModel_b4 t s (some ⟨b3, 0, none⟩) (some ⟨b4, 0, none⟩) r16 r25 0 t46 t46L t46C t47 t48 h28 nx0 K)))))
  (l31_RangetreeModel_b5 t s h  K)) := by kernel_rfl
theorem l31_RangetreeModel_b4_eq (t : Option Addr) (s : Option Addr) (next : Option Addr) (r : Option Addr) (g : Int) (nv : Int) (hv : Int) (t46 : Option Addr) (t46L : Nat) (t46C : Nat) (t47 : Int) (t48 : Int) (h : Hp) (nx0 : Int × Unit → Hp → Prop) (K : Value → Hp → Prop) : l31_RangetreeModel_b4 t s next r g nv hv t46 t46L t46C t47 t48 h nx0 K = (
  cond (!decide (g = 0))
  (K (.bool false) h)
  (NN r fun a24 =>
  ∃ n22 : Int, cell h a24 = some (.int .i64 n22) ∧
  cond (!decide (hv = n22))
  (K (.bool false) h)
  (NN r fun a25 =>
  ∃ n23 : Int, cell h (a25.add 1) = some (.int .i64 n23) ∧
  cond (!decide (nv = n23))
  (K (.bool false) h)
  (l31_RangetreeModel_b6 t s next t46 t46L t46C t47 t48 h nx0 K)))) := by kernel_rfl
theorem l31_RangetreeModel_b5_eq (t : Option Addr) (s : Option Addr) (h : Hp)  (K : Value → Hp → Prop) : l31_RangetreeModel_b5 t s h  K = (
  ∃ r26 : Int, HCalls Tryz.prog 13 #[.pointer t] h (fun v15 h29 => v15 = .int .i64 r26 ∧ h29 = h) ∧
  NN s fun a26 =>
  ∃ (a27 : Option Addr) (L5 C5 : Nat), cell h (a26.add 1) = some (.slice a27 L5 C5) ∧
  K (.bool (decide (r26 = (L5 : Int)))) h) := by kernel_rfl
theorem l31_RangetreeModel_b6_eq (t : Option Addr) (s : Option Addr) (next : Option Addr) (t46 : Option Addr) (t46L : Nat) (t46C : Nat) (t47 : Int) (t48 : Int) (h : Hp) (nx0 : Int × Unit → Hp → Prop) (K : Value → Hp → Prop) : l31_RangetreeModel_b6 t s next t46 t46L t46C t47 t48 h nx0 K = (
  NN next fun a28 =>
  ∃ n24 : Int, ∃ (a29 : Option Addr) (L6 C6 : Nat), cell h a28 = some (.int .i64 n24) ∧
  cell h (a28.add 1) = some (.slice a29 L6 C6) ∧
  NN s fun a30 =>
  Wr h a30 (.int .i64 n24) fun h30 =>
  Wr h30 (a30.add 1) (.slice a29 L6 C6) fun h31 =>
  l31_RangetreeModel_b7 t s t46 t46L t46C t47 t48 h31 nx0 K) := by kernel_rfl
theorem l31_RangetreeModel_b7_eq (t : Option Addr) (s : Option Addr) (t46 : Option Addr) (t46L : Nat) (t46C : Nat) (t47 : Int) (t48 : Int) (h : Hp) (nx0 : Int × Unit → Hp → Prop) (K : Value → Hp → Prop) : l31_RangetreeModel_b7 t s t46 t46L t46C t47 t48 h nx0 K = (
  InR (t48 + 1) ∧
  nx0 (t48 + 1, ()) h) := by kernel_rfl
theorem l31_RangetreeModel_call {l : Option Addr} {lL : Nat} {lC : Nat} {h : Hp} {K : Value → Hp → Prop} (hk : l31_RangetreeModel_b0 l lL lC h K) : HCalls Tryz.prog 3 #[.slice l lL lC] h K :=
  calls_of_snd l31_RangetreeModel_an Tryz.func3 (c := bodyOf Tryz.f3) rfl Tryz.ntmps3 (Nat.le_of_ble_eq_true rfl) (snd_6 F_ok F_mixed) hk

/-! ### l31_awake -/
def l31_awake_an : Ann := .node none (.leaf) (.node none (.leaf) (.node (some [1]) (.leaf) (.leaf)))
def l31_awake_K0  (K : Value → Hp → Prop) : Exit → Env → Hp → Prop := retK Tryz.prog Tryz.f4.results.toList K
def l31_awake_b0  (h : Hp)  (K : Value → Hp → Prop) : Prop :=
  sx_2 Tryz.prog F 66 (cp [] (bodyOf Tryz.f4)) (ap [] l31_awake_an) [] h (l31_awake_K0  K)
def l31_awake_b1 (t : Option Addr) (h : Hp)  (K : Value → Hp → Prop) : Prop :=
  sx_1 Tryz.prog F 66 (cp [1, 1, 1] (bodyOf Tryz.f4)) (ap [1, 1, 1] l31_awake_an) [(1, .pointer t)] h (l31_awake_K0  K)
theorem l31_awake_b0_eq  (h : Hp)  (K : Value → Hp → Prop) : l31_awake_b0  h  K = (
  New h (.cells #[.int .i64 3, .int .i64 7, .int .i64 (-1), .int .i64 1, .int .i64 5, .int .i64 2, .int .i64 3, .int .i64 1, .int .i64 4] 43) fun b1 h1 =>
  HCalls Tryz.prog 6 #[.slice (some ⟨b1, 0, none⟩) 3 3] h1 fun v1 h2 => ∃ r1 : Option Addr, ∃ r2 : Int, v1 = .tuple #[.pointer r1, .int .i64 r2] ∧
  cond (!decide (r2 = 0))
  (K (.bool false) h2)
  (cond r1.isNone
  (K (.bool false) h2)
  (l31_awake_b1 r1 h2  K))) := by kernel_rfl
theorem l31_awake_b1_eq (t : Option Addr) (h : Hp)  (K : Value → Hp → Prop) : l31_awake_b1 t h  K = (
  HCalls Tryz.prog 12 #[.pointer t, .int .i64 1, .int .i64 3, .int .i64 1, .int .i64 5] h fun v2 h3 => ∃ r3 : Int, ∃ r4 : Int, v2 = .tuple #[.int .i64 r3, .int .i64 r4] ∧
  HCalls Tryz.prog 10 #[.pointer t, .int .i64 0, .int .i64 9, .int .i64 0, .int .i64 9] h3 fun v3 h4 => ∃ r5 : Int, ∃ r6 : Int, v3 = .tuple #[.int .i64 r5, .int .i64 r6] ∧
  HCalls Tryz.prog 14 #[.pointer t, .int .i64 2, .int .i64 2, .int .i64 9] h4 fun v4 h5 => ∃ r7 : Int, ∃ r8 : Int, ∃ r9 : Int, ∃ r10 : Int, v4 = .tuple #[.agg #[.int .i64 r7, .int .i64 r8, .int .i64 r9], .int .i64 r10] ∧
  New h5 (.cells #[.int .i64 0, .int .i64 0, .int .i64 0] 43) fun b2 h6 =>
  Wr h6 ⟨b2, 0, none⟩ (.int .i64 r7) fun h7 =>
  Wr h7 ((⟨b2, 0, none⟩ : Addr).add 1) (.int .i64 r8) fun h8 =>
  Wr h8 ((⟨b2, 0, none⟩ : Addr).add 2) (.int .i64 r9) fun h9 =>
  HCalls Tryz.prog 13 #[.pointer t] h9 fun v5 h10 => ∃ r11 : Int, v5 = .int .i64 r11 ∧
  cond (decide (r11 = 3))
  (cond (decide (r3 = 2))
  (cond (decide (r4 = 0))
  (cond (decide (r5 = 5))
  (cond (decide (r6 = 0))
  (∃ n1 : Int, ∃ n2 : Int, ∃ n3 : Int, cell h10 ⟨b2, 0, none⟩ = some (.int .i64 n1) ∧
  cell h10 ((⟨b2, 0, none⟩ : Addr).add 1) = some (.int .i64 n2) ∧
  cell h10 ((⟨b2, 0, none⟩ : Addr).add 2) = some (.int .i64 n3) ∧
  ∃ b3 : Bool, eqC Tryz.prog .eql 43 (.tmp 58) (.tmp 59) (.agg #[.int .i64 n1, .int .i64 n2, .int .i64 n3]) (.agg #[.int .i64 3, .int .i64 7, .int .i64 (-1)]) h10 b3 ∧
  cond b3
  (K (.bool (decide (r10 = 0))) h10)
  (K (.bool false) h10))
  (K (.bool false) h10))
  (K (.bool false) h10))
  (K (.bool false) h10))
  (K (.bool false) h10))
  (K (.bool false) h10)) := by kernel_rfl
theorem l31_awake_call  {h : Hp} {K : Value → Hp → Prop} (hk : l31_awake_b0  h K) : HCalls Tryz.prog 4 #[] h K :=
  calls_of_snd l31_awake_an Tryz.func4 (c := bodyOf Tryz.f4) rfl Tryz.ntmps4 (Nat.le_of_ble_eq_true rfl) (snd_2 F_ok F_mixed) hk

/-! ### r03_ValidAll -/
def r03_ValidAll_an : Ann := .node none (.leaf) (.node (some []) (.node none (.leaf) (.loop [0, 1] [(5, .int .i64)] (.node none (.leaf) (.node (some [0, 1, 5]) (.leaf) (.leaf))))) (.leaf))
def r03_ValidAll_K0  (K : Value → Hp → Prop) : Exit → Env → Hp → Prop := retK Tryz.prog Tryz.f5.results.toList K
def r03_ValidAll_K1  (K : Value → Hp → Prop) : Exit → Env → Hp → Prop := thenE (fun env h => sx_2 Tryz.prog F 19 (cp [1, 1] (bodyOf Tryz.f5)) (ap [1, 1] r03_ValidAll_an) (rs [] env) h (r03_ValidAll_K0  K)) (r03_ValidAll_K0  K)
def r03_ValidAll_K2  (K : Value → Hp → Prop) : Exit → Env → Hp → Prop := blockE 0 (r03_ValidAll_K1  K)
def r03_ValidAll_K3 (nx0 : Int × Unit → Hp → Prop) (K : Value → Hp → Prop) : Exit → Env → Hp → Prop := thenE (fun env h => getV [(5, .int .i64)] env fun s => nx0 s h) (r03_ValidAll_K2  K)
def r03_ValidAll_b0 (kind : Int) (l : Option Addr) (lL : Nat) (lC : Nat) (h : Hp)  (K : Value → Hp → Prop) : Prop :=
  sx_3 Tryz.prog F 19 (cp [] (bodyOf Tryz.f5)) (ap [] r03_ValidAll_an) [(0, .int .i64 kind), (1, .slice l lL lC)] h (r03_ValidAll_K0  K)
def r03_ValidAll_b1 (i : Int) (kind : Int) (l : Option Addr) (lL : Nat) (lC : Nat) (h : Hp) (nx0 : Int × Unit → Hp → Prop) (K : Value → Hp → Prop) : Prop :=
  sx_2 Tryz.prog F 19 (cp [1, 0, 1, 2, 2] (bodyOf Tryz.f5)) (ap [1, 0, 1, 2] r03_ValidAll_an) [(5, .int .i64 i), (0, .int .i64 kind), (1, .slice l lL lC)] h (r03_ValidAll_K3 nx0 K)
def r03_ValidAll_b2 (kind : Int) (l : Option Addr) (lL : Nat) (lC : Nat) (i : Int) (h : Hp) (nx0 : Int × Unit → Hp → Prop) (K : Value → Hp → Prop) : Prop :=
  sx_1 Tryz.prog F 19 (cp [1, 0, 1, 2, 2, 1, 1] (bodyOf Tryz.f5)) (ap [1, 0, 1, 2, 1, 1] r03_ValidAll_an) [(0, .int .i64 kind), (1, .slice l lL lC), (5, .int .i64 i)] h (r03_ValidAll_K3 nx0 K)
def r03_ValidAll_b3  (h : Hp)  (K : Value → Hp → Prop) : Prop :=
  sx_2 Tryz.prog F 19 (cp [1, 1] (bodyOf Tryz.f5)) (ap [1, 1] r03_ValidAll_an) [] h (r03_ValidAll_K0  K)
theorem r03_ValidAll_b0_eq (kind : Int) (l : Option Addr) (lL : Nat) (lC : Nat) (h : Hp)  (K : Value → Hp → Prop) : r03_ValidAll_b0 kind l lL lC h  K = (
  LoopVC ((0, ()) : Int × Unit) h (fun (nx0 : Int × Unit → Hp → Prop) (s1 : Int × Unit) h1 => r03_ValidAll_b1 s1.1 kind l lL lC h1 nx0 K)) := by kernel_rfl
theorem r03_ValidAll_b1_eq (i : Int) (kind : Int) (l : Option Addr) (lL : Nat) (lC : Nat) (h : Hp) (nx0 : Int × Unit → Hp → Prop) (K : Value → Hp → Prop) : r03_ValidAll_b1 i kind l lL lC h nx0 K = (
  cond (decide (i < (lL : Int)))
  ((0 ≤ i ∧ i < (lL : Int)) ∧
  NN l fun a1 =>
  ∃ n1 : Int, ∃ (a2 : Option Addr) (L1 C1 : Nat), cell h (a1.add (Int.toNat i * 2)) = some (.int .i64 n1) ∧
  cell h ((a1.add (Int.toNat i * 2)).add 1) = some (.slice a2 L1 C1) ∧
  HCalls Tryz.prog 15 #[.int .i64 kind, .agg #[.int .i64 n1, .slice a2 L1 C1]] h fun v1 h2 => ∃ r1 : Bool, v1 = .bool r1 ∧
  cond (!r1)
  (K (.bool false) h2)
  (r03_ValidAll_b2 kind l lL lC i h2 nx0 K))
  (r03_ValidAll_b3  h  K)) := by kernel_rfl
theorem r03_ValidAll_b2_eq (kind : Int) (l : Option Addr) (lL : Nat) (lC : Nat) (i : Int) (h : Hp) (nx0 : Int × Unit → Hp → Prop) (K : Value → Hp → Prop) : r03_ValidAll_b2 kind l lL lC i h nx0 K = (
  InR (i + 1) ∧
  nx0 (i + 1, ()) h) := by kernel_rfl
theorem r03_ValidAll_b3_eq  (h : Hp)  (K : Value → Hp → Prop) : r03_ValidAll_b3  h  K = (
  K (.bool true) h) := by kernel_rfl
theorem r03_ValidAll_call {kind : Int} {l : Option Addr} {lL : Nat} {lC : Nat} {h : Hp} {K : Value → Hp → Prop} (hk : r03_ValidAll_b0 kind l lL lC h K) : HCalls Tryz.prog 5 #[.int .i64 kind, .slice l lL lC] h K :=
  calls_of_snd r03_ValidAll_an Tryz.func5 (c := bodyOf Tryz.f5) rfl Tryz.ntmps5 (Nat.le_of_ble_eq_true rfl) (snd_3 F_ok F_mixed) hk

/-! ### rangetree_Make -/
def rangetree_Make_an : Ann := .node none (.leaf) (.node none (.leaf) (.node none (.leaf) (.node (some [0, 4]) (.node none (.leaf) (.loop [0, 4, 12, 13] [(14, .int .i64)] (.node none (.leaf) (.node none (.leaf) (.node (some [0, 4, 12, 13, 14]) (.node none (.leaf) (.tail 11)) (.leaf)))))) (.node (some [4]) (.leaf) (.leaf)))))
def rangetree_Make_K0  (K : Value → Hp → Prop) : Exit → Env → Hp → Prop := retK Tryz.prog Tryz.f6.results.toList K
def rangetree_Make_K1  (K : Value → Hp → Prop) : Exit → Env → Hp → Prop := thenE (fun env h => sx_2 Tryz.prog F 46 (cp [1, 1, 1, 1] (bodyOf Tryz.f6)) (ap [1, 1, 1, 1] rangetree_Make_an) (rs [0, 4] env) h (rangetree_Make_K0  K)) (rangetree_Make_K0  K)
def rangetree_Make_K2  (K : Value → Hp → Prop) : Exit → Env → Hp → Prop := blockE 0 (rangetree_Make_K1  K)
def rangetree_Make_K3 (nx0 : Int × Unit → Hp → Prop) (K : Value → Hp → Prop) : Exit → Env → Hp → Prop := thenE (fun env h => getV [(14, .int .i64)] env fun s => nx0 s h) (rangetree_Make_K2  K)
def rangetree_Make_b0 (l : Option Addr) (lL : Nat) (lC : Nat) (h : Hp)  (K : Value → Hp → Prop) : Prop :=
  sx_3 Tryz.prog F 46 (cp [] (bodyOf Tryz.f6)) (ap [] rangetree_Make_an) [(0, .slice l lL lC)] h (rangetree_Make_K0  K)
def rangetree_Make_b1 (t14 : Int) (l : Option Addr) (lL : Nat) (lC : Nat) (t : Option Addr) (t12 : Option Addr) (t12L : Nat) (t12C : Nat) (t13 : Int) (h : Hp) (nx0 : Int × Unit → Hp → Prop) (K : Value → Hp → Prop) : Prop :=
  sx_2 Tryz.prog F 46 (cp [1, 1, 1, 0, 1, 2, 2] (bodyOf Tryz.f6)) (ap [1, 1, 1, 0, 1, 2] rangetree_Make_an) [(14, .int .i64 t14), (0, .slice l lL lC), (4, .pointer t), (12, .slice t12 t12L t12C), (13, .int .i64 t13)] h (rangetree_Make_K3 nx0 K)
def rangetree_Make_b2 (l : Option Addr) (lL : Nat) (lC : Nat) (t : Option Addr) (t12 : Option Addr) (t12L : Nat) (t12C : Nat) (t13 : Int) (t14 : Int) (h : Hp) (nx0 : Int × Unit → Hp → Prop) (K : Value → Hp → Prop) : Prop :=
  sx_1 Tryz.prog F 46 (cp [1, 1, 1, 0, 1, 2, 2, 1, 1, 1] (bodyOf Tryz.f6)) (ap [1, 1, 1, 0, 1, 2, 1, 1, 1] rangetree_Make_an) [(0, .slice l lL lC), (4, .pointer t), (12, .slice t12 t12L t12C), (13, .int .i64 t13), (14, .int .i64 t14)] h (rangetree_Make_K3 nx0 K)
def rangetree_Make_b3 (l : Option Addr) (lL : Nat) (lC : Nat) (t : Option Addr) (h : Hp)  (K : Value → Hp → Prop) : Prop :=
  sx_2 Tryz.prog F 46 (cp [1, 1, 1, 1] (bodyOf Tryz.f6)) (ap [1, 1, 1, 1] rangetree_Make_an) [(0, .slice l lL lC), (4, .pointer t)] h (rangetree_Make_K0  K)
def rangetree_Make_b4 (t : Option Addr) (h : Hp)  (K : Value → Hp → Prop) : Prop :=
  sx_1 Tryz.prog F 46 (cp [1, 1, 1, 1, 1] (bodyOf Tryz.f6)) (ap [1, 1, 1, 1, 1] rangetree_Make_an) [(4, .pointer t)] h (rangetree_Make_K0  K)
theorem rangetree_Make_b0_eq (l : Option Addr) (lL : Nat) (lC : Nat) (h : Hp)  (K : Value → Hp → Prop) : rangetree_Make_b0 l lL lC h  K = (
  HCalls Tryz.prog 16 #[.slice l lL lC, .func (.func 17) #[] #[]] h fun v1 h1 => ∃ r1 : Bool, v1 = .bool r1 ∧
  cond r1
  (K (.tuple #[.pointer none, .int .i64 1]) h1)
  (New h1 (.map #[] 0) fun b1 h2 =>
  New h2 (.cells #[.map (some b1), .slice none 0 0, .slice none 0 0, .int .i64 0, .int .i64 0] 58) fun b2 h3 =>
  LoopVC ((0, ()) : Int × Unit) h3 (fun (nx0 : Int × Unit → Hp → Prop) (s1 : Int × Unit) h4 => rangetree_Make_b1 s1.1 l lL lC (some ⟨b2, 0, none⟩) l lL lC (lL : Int) h4 nx0 K))) := by kernel_rfl
theorem rangetree_Make_b1_eq (t14 : Int) (l : Option Addr) (lL : Nat) (lC : Nat) (t : Option Addr) (t12 : Option Addr) (t12L : Nat) (t12C : Nat) (t13 : Int) (h : Hp) (nx0 : Int × Unit → Hp → Prop) (K : Value → Hp → Prop) : rangetree_Make_b1 t14 l lL lC t t12 t12L t12C t13 h nx0 K = (
  cond (decide (t14 < t13))
  ((0 ≤ t14 ∧ t14 < (t12L : Int)) ∧
  NN t12 fun a1 =>
  ∃ n1 : Int, ∃ n2 : Int, ∃ n3 : Int, cell h (a1.add (Int.toNat t14 * 3)) = some (.int .i64 n1) ∧
  cell h ((a1.add (Int.toNat t14 * 3)).add 1) = some (.int .i64 n2) ∧
  cell h ((a1.add (Int.toNat t14 * 3)).add 2) = some (.int .i64 n3) ∧
  New h (.cells #[.int .i64 0, .int .i64 0, .int .i64 0] 43) fun b3 h5 =>
  Wr h5 ⟨b3, 0, none⟩ (.int .i64 n1) fun h6 =>
  Wr h6 ((⟨b3, 0, none⟩ : Addr).add 1) (.int .i64 n2) fun h7 =>
  Wr h7 ((⟨b3, 0, none⟩ : Addr).add 2) (.int .i64 n3) fun h8 =>
  NN t fun a2 =>
  ∃ v2 : Value, cell h8 a2 = some (v2) ∧
  ∃ n4 : Int, cell h8 ⟨b3, 0, none⟩ = some (.int .i64 n4) ∧
  ∃ n5 : Int, cell h8 ((⟨b3, 0, none⟩ : Addr).add 1) = some (.int .i64 n5) ∧
  ∃ n6 : Int, cell h8 ((⟨b3, 0, none⟩ : Addr).add 2) = some (.int .i64 n6) ∧
  mapSetV Tryz.prog 55 v2 (.agg #[.int .i64 n4, .int .i64 n5]) (.int .i64 n6) h8 fun h9 =>
  rangetree_Make_b2 l lL lC t t12 t12L t12C t13 t14 h9 nx0 K)
  (rangetree_Make_b3 l lL lC t h  K)) := by kernel_rfl
theorem rangetree_Make_b2_eq (l : Option Addr) (lL : Nat) (lC : Nat) (t : Option Addr) (t12 : Option Addr) (t12L : Nat) (t12C : Nat) (t13 : Int) (t14 : Int) (h : Hp) (nx0 : Int × Unit → Hp → Prop) (K : Value → Hp → Prop) : rangetree_Make_b2 l lL lC t t12 t12L t12C t13 t14 h nx0 K = (
  InR (t14 + 1) ∧
  nx0 (t14 + 1, ()) h) := by kernel_rfl
theorem rangetree_Make_b3_eq (l : Option Addr) (lL : Nat) (lC : Nat) (t : Option Addr) (h : Hp)  (K : Value → Hp → Prop) : rangetree_Make_b3 l lL lC t h  K = (
  NN t fun a3 =>
  ∃ v3 : Value, cell h a3 = some (v3) ∧
  mapLenV v3 h fun n7 =>
  cond (decide (n7 < (lL : Int)))
  (K (.tuple #[.pointer none, .int .i64 10]) h)
  (cond (decide ((1000 : Int) < (lL : Int)))
  (K (.tuple #[.pointer none, .int .i64 4]) h)
  (rangetree_Make_b4 t h  K))) := by kernel_rfl
theorem rangetree_Make_b4_eq (t : Option Addr) (h : Hp)  (K : Value → Hp → Prop) : rangetree_Make_b4 t h  K = (
  HCalls Tryz.prog 19 #[.pointer t] h fun v4 h10 => v4 = .tuple #[] ∧
  K (.tuple #[.pointer t, .int .i64 0]) h10) := by kernel_rfl
theorem rangetree_Make_call {l : Option Addr} {lL : Nat} {lC : Nat} {h : Hp} {K : Value → Hp → Prop} (hk : rangetree_Make_b0 l lL lC h K) : HCalls Tryz.prog 6 #[.slice l lL lC] h K :=
  calls_of_snd rangetree_Make_an Tryz.func6 (c := bodyOf Tryz.f6) rfl Tryz.ntmps6 (Nat.le_of_ble_eq_true rfl) (snd_3 F_ok F_mixed) hk

/-! ### model_New -/
def model_New_an : Ann := .leaf
def model_New_K0  (K : Value → Hp → Prop) : Exit → Env → Hp → Prop := retK Tryz.prog Tryz.f7.results.toList K
def model_New_b0 (kind : Int) (h : Hp)  (K : Value → Hp → Prop) : Prop :=
  sx_1 Tryz.prog F 10 (cp [] (bodyOf Tryz.f7)) (ap [] model_New_an) [(0, .int .i64 kind)] h (model_New_K0  K)
theorem model_New_b0_eq (kind : Int) (h : Hp)  (K : Value → Hp → Prop) : model_New_b0 kind h  K = (
  New h (.cells #[.int .i64 0, .slice none 0 0] 31) fun b1 h1 =>
  HCalls Tryz.prog 20 #[.int .i64 kind] h1 fun v1 h2 => ∃ (r1 : Option Addr) (rL1 rC1 : Nat), v1 = .slice r1 rL1 rC1 ∧
  cond (Option.isNone r1)
  (Wr h2 ⟨b1, 0, none⟩ (.int .i64 0) fun h3 =>
  Wr h3 ((⟨b1, 0, none⟩ : Addr).add 1) (.slice none 0 0) fun h4 =>
  ∃ r2 : Int, ∃ (r3 : Option Addr) (rL2 rC2 : Nat), cell h4 ⟨b1, 0, none⟩ = some (.int .i64 r2) ∧
  cell h4 ((⟨b1, 0, none⟩ : Addr).add 1) = some (.slice r3 rL2 rC2) ∧
  K (.tuple #[.agg #[.int .i64 r2, .slice r3 rL2 rC2], .int .i64 1]) h4)
  (Wr h2 ⟨b1, 0, none⟩ (.int .i64 kind) fun h5 =>
  Wr h5 ((⟨b1, 0, none⟩ : Addr).add 1) (.slice none 0 0) fun h6 =>
  ∃ r4 : Int, ∃ (r5 : Option Addr) (rL3 rC3 : Nat), cell h6 ⟨b1, 0, none⟩ = some (.int .i64 r4) ∧
  cell h6 ((⟨b1, 0, none⟩ : Addr).add 1) = some (.slice r5 rL3 rC3) ∧
  K (.tuple #[.agg #[.int .i64 r4, .slice r5 rL3 rC3], .int .i64 0]) h6)) := by kernel_rfl
theorem model_New_call {kind : Int} {h : Hp} {K : Value → Hp → Prop} (hk : model_New_b0 kind h K) : HCalls Tryz.prog 7 #[.int .i64 kind] h K :=
  calls_of_snd model_New_an Tryz.func7 (c := bodyOf Tryz.f7) rfl Tryz.ntmps7 (Nat.le_of_ble_eq_true rfl) (snd_1 F_ok F_mixed) hk

/-! ### model_Apply -/
def model_Apply_an : Ann := .node none (.leaf) (.node (some [2, 3, 4, 5]) (.leaf) (.node (some [2, 4, 5, 7, 8]) (.plan (.qu 0 (.qu 1 (.qu 2 (.qu 3 (.qu 5 (.wo 4 (.wo 6 (.qu 7 (.qu 8 (.qu 9 (.wo 10 (.wo 11 (.wo 12 .fin .no) .no) .no)))) (.wo 10 (.wo 6 (.qu 7 (.qu 8 (.qu 9 (.wo 11 (.wo 12 .fin .no) .no)))) .no) .no)) (.wo 10 (.wo 4 (.wo 6 (.qu 7 (.qu 8 (.qu 9 (.wo 11 (.wo 12 .fin .no) .no)))) .no) .no) .no)))))))) (.node none (.plan (.qu 0 (.qu 1 (.qu 2 (.qu 3 (.qu 4 (.wo 5 (.wo 6 (.wo 7 .fin .no) .no) .no))))))) (.leaf))))
def model_Apply_K0  (K : Value → Hp → Prop) : Exit → Env → Hp → Prop := retK Tryz.prog Tryz.f8.results.toList K
def model_Apply_b0 (s_0 : Int) (s_1 : Option Addr) (s_1L : Nat) (s_1C : Nat) (o_0 : Int) (o_1 : Option Addr) (o_1L : Nat) (o_1C : Nat) (h : Hp)  (K : Value → Hp → Prop) : Prop :=
  sx_3 Tryz.prog F 36 (cp [] (bodyOf Tryz.f8)) (ap [] model_Apply_an) [(0, .agg #[.int .i64 s_0, .slice s_1 s_1L s_1C]), (1, .agg #[.int .i64 o_0, .slice o_1 o_1L o_1C])] h (model_Apply_K0  K)
def model_Apply_b1 (s : Option Addr) (o : Option Addr) (t4 : Option Addr) (t5 : Option Addr) (h : Hp)  (K : Value → Hp → Prop) : Prop :=
  sx_2 Tryz.prog F 36 (cp [1, 1] (bodyOf Tryz.f8)) (ap [1, 1] model_Apply_an) [(2, .pointer s), (3, .pointer o), (4, .pointer t4), (5, .pointer t5)] h (model_Apply_K0  K)
def model_Apply_b2 (s : Option Addr) (t4 : Option Addr) (t5 : Option Addr) (rows : Option Addr) (rowsL : Nat) (rowsC : Nat) (r : Option Addr) (h : Hp)  (K : Value → Hp → Prop) : Prop :=
  sx_1 Tryz.prog F 36 (cp [1, 1, 1] (bodyOf Tryz.f8)) (ap [1, 1, 1] model_Apply_an) [(2, .pointer s), (4, .pointer t4), (5, .pointer t5), (7, .slice rows rowsL rowsC), (8, .pointer r)] h (model_Apply_K0  K)
theorem model_Apply_b0_eq (s_0 : Int) (s_1 : Option Addr) (s_1L : Nat) (s_1C : Nat) (o_0 : Int) (o_1 : Option Addr) (o_1L : Nat) (o_1C : Nat) (h : Hp)  (K : Value → Hp → Prop) : model_Apply_b0 s_0 s_1 s_1L s_1C o_0 o_1 o_1L o_1C h  K = (
  New h (.cells #[.int .i64 s_0, .slice s_1 s_1L s_1C] 31) fun b1 h1 =>
  New h1 (.cells #[.int .i64 o_0, .slice o_1 o_1L o_1C] 36) fun b2 h2 =>
  New h2 (.cells #[.int .i64 0, .slice none 0 0] 31) fun b3 h3 =>
  New h3 (.cells #[.int .i64 0, .int .i64 0, .slice none 0 0] 38) fun b4 h4 =>
  ∃ n1 : Int, ∃ (a1 : Option Addr) (L1 C1 : Nat), cell h4 ⟨b1, 0, none⟩ = some (.int .i64 n1) ∧
  cell h4 ((⟨b1, 0, none⟩ : Addr).add 1) = some (.slice a1 L1 C1) ∧
  HCalls Tryz.prog 21 #[.agg #[.int .i64 n1, .slice a1 L1 C1]] h4 fun v1 h5 => ∃ r1 : Bool, v1 = .bool r1 ∧
  cond (!r1)
  (Wr h5 ⟨b3, 0, none⟩ (.int .i64 0) fun h6 =>
  Wr h6 ((⟨b3, 0, none⟩ : Addr).add 1) (.slice none 0 0) fun h7 =>
  Wr h7 ⟨b4, 0, none⟩ (.int .i64 0) fun h8 =>
  Wr h8 ((⟨b4, 0, none⟩ : Addr).add 1) (.int .i64 0) fun h9 =>
  Wr h9 ((⟨b4, 0, none⟩ : Addr).add 2) (.slice none 0 0) fun h10 =>
  ∃ r2 : Int, ∃ (r3 : Option Addr) (rL1 rC1 : Nat), cell h10 ⟨b3, 0, none⟩ = some (.int .i64 r2) ∧
  cell h10 ((⟨b3, 0, none⟩ : Addr).add 1) = some (.slice r3 rL1 rC1) ∧
  ∃ r4 : Int, ∃ r5 : Int, ∃ (r6 : Option Addr) (rL2 rC2 : Nat), cell h10 ⟨b4, 0, none⟩ = some (.int .i64 r4) ∧
  cell h10 ((⟨b4, 0, none⟩ : Addr).add 1) = some (.int .i64 r5) ∧
  cell h10 ((⟨b4, 0, none⟩ : Addr).add 2) = some (.slice r6 rL2 rC2) ∧
  K (.tuple #[.agg #[.int .i64 r2, .slice r3 rL1 rC1], .agg #[.int .i64 r4, .int .i64 r5, .slice r6 rL2 rC2], .int .i64 1]) h10)
  (∃ n2 : Int, cell h5 ⟨b1, 0, none⟩ = some (.int .i64 n2) ∧
  ∃ n3 : Int, ∃ (a2 : Option Addr) (L2 C2 : Nat), cell h5 ⟨b2, 0, none⟩ = some (.int .i64 n3) ∧
  cell h5 ((⟨b2, 0, none⟩ : Addr).add 1) = some (.slice a2 L2 C2) ∧
  HCalls Tryz.prog 22 #[.int .i64 n2, .agg #[.int .i64 n3, .slice a2 L2 C2]] h5 fun v2 h11 => ∃ r7 : Bool, v2 = .bool r7 ∧
  cond (!r7)
  (Wr h11 ⟨b3, 0, none⟩ (.int .i64 0) fun h12 =>
  Wr h12 ((⟨b3, 0, none⟩ : Addr).add 1) (.slice none 0 0) fun h13 =>
  Wr h13 ⟨b4, 0, none⟩ (.int .i64 0) fun h14 =>
  Wr h14 ((⟨b4, 0, none⟩ : Addr).add 1) (.int .i64 0) fun h15 =>
  Wr h15 ((⟨b4, 0, none⟩ : Addr).add 2) (.slice none 0 0) fun h16 =>
  ∃ r8 : Int, ∃ (r9 : Option Addr) (rL3 rC3 : Nat), cell h16 ⟨b3, 0, none⟩ = some (.int .i64 r8) ∧
  cell h16 ((⟨b3, 0, none⟩ : Addr).add 1) = some (.slice r9 rL3 rC3) ∧
  ∃ r10 : Int, ∃ r11 : Int, ∃ (r12 : Option Addr) (rL4 rC4 : Nat), cell h16 ⟨b4, 0, none⟩ = some (.int .i64 r10) ∧
  cell h16 ((⟨b4, 0, none⟩ : Addr).add 1) = some (.int .i64 r11) ∧
  cell h16 ((⟨b4, 0, none⟩ : Addr).add 2) = some (.slice r12 rL4 rC4) ∧
  K (.tuple #[.agg #[.int .i64 r8, .slice r9 rL3 rC3], .agg #[.int .i64 r10, .int .i64 r11, .slice r12 rL4 rC4], .int .i64 1]) h16)
  (model_Apply_b1 (some ⟨b1, 0, none⟩) (some ⟨b2, 0, none⟩) (some ⟨b3, 0, none⟩) (some ⟨b4, 0, none⟩) h11  K))) := by kernel_rfl
theorem model_Apply_b1_eq (s : Option Addr) (o : Option Addr) (t4 : Option Addr) (t5 : Option Addr) (h : Hp)  (K : Value → Hp → Prop) : model_Apply_b1 s o t4 t5 h  K = (
  NN s fun a3 =>
  ∃ n4 : Int, cell h a3 = some (.int .i64 n4) ∧
  NN s fun a4 =>
  ∃ (a5 : Option Addr) (L3 C3 : Nat), cell h (a4.add 1) = some (.slice a5 L3 C3) ∧
  NN o fun a6 =>
  ∃ n5 : Int, ∃ (a7 : Option Addr) (L4 C4 : Nat), cell h a6 = some (.int .i64 n5) ∧
  cell h (a6.add 1) = some (.slice a7 L4 C4) ∧
  (HCalls Tryz.prog 24 #[.slice a5 L3 C3] h fun v3 h17 => ∃ (r13 : Option Addr) (rL5 rC5 : Nat), v3 = .slice r13 rL5 rC5 ∧
  (NN o fun a8 =>
  ∃ n6 : Int, ∃ (a9 : Option Addr) (L5 C5 : Nat), cell h17 a8 = some (.int .i64 n6) ∧
  cell h17 (a8.add 1) = some (.slice a9 L5 C5) ∧
  (.agg #[.int .i64 n6, .slice a9 L5 C5] : Value) = .agg #[.int .i64 n5, .slice a7 L4 C4]) ∧
  (∃ n7 : Int, cell h17 a3 = some (.int .i64 n7) ∧
  (.int .i64 n7 : Value) = .int .i64 n4) ∧
  (HCalls Tryz.prog 23 #[.int .i64 n4, .slice r13 rL5 rC5, .agg #[.int .i64 n5, .slice a7 L4 C4]] h17 fun v4 h18 => ∃ (r14 : Option Addr) (rL6 rC6 : Nat), ∃ r15 : Int, ∃ r16 : Int, ∃ (r17 : Option Addr) (rL7 rC7 : Nat), v4 = .tuple #[.slice r14 rL6 rC6, .agg #[.int .i64 r15, .int .i64 r16, .slice r17 rL7 rC7]] ∧
  New h18 (.cells #[.int .i64 0, .int .i64 0, .slice none 0 0] 38) fun b5 h19 =>
  Wr h19 ⟨b5, 0, none⟩ (.int .i64 r15) fun h20 =>
  Wr h20 ((⟨b5, 0, none⟩ : Addr).add 1) (.int .i64 r16) fun h21 =>
  Wr h21 ((⟨b5, 0, none⟩ : Addr).add 2) (.slice r17 rL7 rC7) fun h22 =>
  model_Apply_b2 s t4 t5 r14 rL6 rC6 (some ⟨b5, 0, none⟩) h22  K) ∧
  (New h17 (.cells #[.int .i64 0, .int .i64 0, .slice none 0 0] 38) fun b6 h23 =>
  (NN o fun a10 =>
  ∃ n8 : Int, ∃ (a11 : Option Addr) (L6 C6 : Nat), cell h23 a10 = some (.int .i64 n8) ∧
  cell h23 (a10.add 1) = some (.slice a11 L6 C6) ∧
  (.agg #[.int .i64 n8, .slice a11 L6 C6] : Value) = .agg #[.int .i64 n5, .slice a7 L4 C4]) ∧
  (∃ n9 : Int, cell h23 a3 = some (.int .i64 n9) ∧
  (.int .i64 n9 : Value) = .int .i64 n4) ∧
  HCalls Tryz.prog 23 #[.int .i64 n4, .slice r13 rL5 rC5, .agg #[.int .i64 n5, .slice a7 L4 C4]] h23 fun v5 h24 => ∃ (r18 : Option Addr) (rL8 rC8 : Nat), ∃ r19 : Int, ∃ r20 : Int, ∃ (r21 : Option Addr) (rL9 rC9 : Nat), v5 = .tuple #[.slice r18 rL8 rC8, .agg #[.int .i64 r19, .int .i64 r20, .slice r21 rL9 rC9]] ∧
  Wr h24 ⟨b6, 0, none⟩ (.int .i64 r19) fun h25 =>
  Wr h25 ((⟨b6, 0, none⟩ : Addr).add 1) (.int .i64 r20) fun h26 =>
  Wr h26 ((⟨b6, 0, none⟩ : Addr).add 2) (.slice r21 rL9 rC9) fun h27 =>
  model_Apply_b2 s t4 t5 r18 rL8 rC8 (some ⟨b6, 0, none⟩) h27  K)) ∧
  (New h (.cells #[.int .i64 0, .int .i64 0, .slice none 0 0] 38) fun b7 h28 =>
  (NN o fun a12 =>
  ∃ n10 : Int, ∃ (a13 : Option Addr) (L7 C7 : Nat), cell h28 a12 = some (.int .i64 n10) ∧
  cell h28 (a12.add 1) = some (.slice a13 L7 C7) ∧
  (.agg #[.int .i64 n10, .slice a13 L7 C7] : Value) = .agg #[.int .i64 n5, .slice a7 L4 C4]) ∧
  (∃ (a14 : Option Addr) (L8 C8 : Nat), cell h28 (a4.add 1) = some (.slice a14 L8 C8) ∧
  (.slice a14 L8 C8 : Value) = .slice a5 L3 C3) ∧
  (∃ n11 : Int, cell h28 a3 = some (.int .i64 n11) ∧
  (.int .i64 n11 : Value) = .int .i64 n4) ∧
  HCalls Tryz.prog 24 #[.slice a5 L3 C3] h28 fun v6 h29 => ∃ (r22 : Option Addr) (rL10 rC10 : Nat), v6 = .slice r22 rL10 rC10 ∧
  (NN o fun a15 =>
  ∃ n12 : Int, ∃ (a16 : Option Addr) (L9 C9 : Nat), cell h29 a15 = some (.int .i64 n12) ∧
  cell h29 (a15.add 1) = some (.slice a16 L9 C9) ∧
  (.agg #[.int .i64 n12, .slice a16 L9 C9] : Value) = .agg #[.int .i64 n5, .slice a7 L4 C4]) ∧
  (∃ n13 : Int, cell h29 a3 = some (.int .i64 n13) ∧
  (.int .i64 n13 : Value) = .int .i64 n4) ∧
  HCalls Tryz.prog 23 #[.int .i64 n4, .slice r22 rL10 rC10, .agg #[.int .i64 n5, .slice a7 L4 C4]] h29 fun v7 h30 => ∃ (r23 : Option Addr) (rL11 rC11 : Nat), ∃ r24 : Int, ∃ r25 : Int, ∃ (r26 : Option Addr) (rL12 rC12 : Nat), v7 = .tuple #[.slice r23 rL11 rC11, .agg #[.int .i64 r24, .int .i64 r25, .slice r26 rL12 rC12]] ∧
  Wr h30 ⟨b7, 0, none⟩ (.int .i64 r24) fun h31 =>
  Wr h31 ((⟨b7, 0, none⟩ : Addr).add 1) (.int .i64 r25) fun h32 =>
  Wr h32 ((⟨b7, 0, none⟩ : Addr).add 2) (.slice r26 rL12 rC12) fun h33 =>
  model_Apply_b2 s t4 t5 r23 rL11 rC11 (some ⟨b7, 0, none⟩) h33  K)) := by kernel_rfl
theorem model_Apply_b2_eq (s : Option Addr) (t4 : Option Addr) (t5 : Option Addr) (rows : Option Addr) (rowsL : Nat) (rowsC : Nat) (r : Option Addr) (h : Hp)  (K : Value → Hp → Prop) : model_Apply_b2 s t4 t5 rows rowsL rowsC r h  K = (
  NN s fun a17 =>
  ∃ n14 : Int, cell h a17 = some (.int .i64 n14) ∧
  NN r fun a18 =>
  ∃ n15 : Int, ∃ n16 : Int, ∃ (a19 : Option Addr) (L10 C10 : Nat), cell h a18 = some (.int .i64 n15) ∧
  cell h (a18.add 1) = some (.int .i64 n16) ∧
  cell h (a18.add 2) = some (.slice a19 L10 C10) ∧
  NN t4 fun a20 =>
  Wr h a20 (.int .i64 n14) fun h34 =>
  Wr h34 (a20.add 1) (.slice rows rowsL rowsC) fun h35 =>
  (NN r fun a21 =>
  ∃ n17 : Int, ∃ n18 : Int, ∃ (a22 : Option Addr) (L11 C11 : Nat), cell h35 a21 = some (.int .i64 n17) ∧
  cell h35 (a21.add 1) = some (.int .i64 n18) ∧
  cell h35 (a21.add 2) = some (.slice a22 L11 C11) ∧
  (.agg #[.int .i64 n17, .int .i64 n18, .slice a22 L11 C11] : Value) = .agg #[.int .i64 n15, .int .i64 n16, .slice a19 L10 C10]) ∧
  NN t5 fun a23 =>
  Wr h35 a23 (.int .i64 n15) fun h36 =>
  Wr h36 (a23.add 1) (.int .i64 n16) fun h37 =>
  Wr h37 (a23.add 2) (.slice a19 L10 C10) fun h38 =>
  NN t4 fun a24 =>
  ∃ r27 : Int, ∃ (r28 : Option Addr) (rL13 rC13 : Nat), cell h38 a24 = some (.int .i64 r27) ∧
  cell h38 (a24.add 1) = some (.slice r28 rL13 rC13) ∧
  NN t5 fun a25 =>
  ∃ r29 : Int, ∃ r30 : Int, ∃ (r31 : Option Addr) (rL14 rC14 : Nat), cell h38 a25 = some (.int .i64 r29) ∧
  cell h38 (a25.add 1) = some (.int .i64 r30) ∧
  cell h38 (a25.add 2) = some (.slice r31 rL14 rC14) ∧
  K (.tuple #[.agg #[.int .i64 r27, .slice r28 rL13 rC13], .agg #[.int .i64 r29, .int .i64 r30, .slice r31 rL14 rC14], .int .i64 0]) h38) := by kernel_rfl
theorem model_Apply_call {s_0 : Int} {s_1 : Option Addr} {s_1L : Nat} {s_1C : Nat} {o_0 : Int} {o_1 : Option Addr} {o_1L : Nat} {o_1C : Nat} {h : Hp} {K : Value → Hp → Prop} (hk : model_Apply_b0 s_0 s_1 s_1L s_1C o_0 o_1 o_1L o_1C h K) : HCalls Tryz.prog 8 #[.agg #[.int .i64 s_0, .slice s_1 s_1L s_1C], .agg #[.int .i64 o_0, .slice o_1 o_1L o_1C]] h K :=
  calls_of_snd model_Apply_an Tryz.func8 (c := bodyOf Tryz.f8) rfl Tryz.ntmps8 (Nat.le_of_ble_eq_true rfl) (snd_3 F_ok F_mixed) hk

/-! ### rangetree_Tree_Add -/
def rangetree_Tree_Add_an : Ann := .node none (.leaf) (.node (some [0, 3]) (.leaf) (.node none (.leaf) (.node none (.node none (.plan (.qu 0 (.qu 1 (.qu 2 (.qu 3 (.qu 4 (.wo 5 (.qu 6 (.qu 7 (.qu 8 (.wo 9 (.wo 10 .fin .no) .no)))) .no))))))) (.leaf)) (.node none (.leaf) (.node none (.tail 7) (.node none (.leaf) (.node (some [0, 8]) (.node none (.leaf) (.loop [0] [(8, .slice), (9, .int .i64)] (.node (some [0, 8, 9]) (.leaf) (.node (some [0, 8, 9]) (.node none (.leaf) (.node none (.tail 19) (.leaf))) (.leaf))))) (.leaf))))))))
def rangetree_Tree_Add_K0  (K : Value → Hp → Prop) : Exit → Env → Hp → Prop := retK Tryz.prog Tryz.f9.results.toList K
def rangetree_Tree_Add_K1  (K : Value → Hp → Prop) : Exit → Env → Hp → Prop := thenE (fun env h => sx_3 Tryz.prog F 118 (cp [1, 1, 1, 1, 1, 1, 1, 1] (bodyOf Tryz.f9)) (ap [1, 1, 1, 1, 1, 1, 1, 1] rangetree_Tree_Add_an) (rs [0, 8] env) h (rangetree_Tree_Add_K0  K)) (rangetree_Tree_Add_K0  K)
def rangetree_Tree_Add_K2  (K : Value → Hp → Prop) : Exit → Env → Hp → Prop := blockE 0 (rangetree_Tree_Add_K1  K)
def rangetree_Tree_Add_K3 (nx0 : (Option Addr × Nat × Nat) × Int × Unit → Hp → Prop) (K : Value → Hp → Prop) : Exit → Env → Hp → Prop := thenE (fun env h => getV [(8, .slice), (9, .int .i64)] env fun s => nx0 s h) (rangetree_Tree_Add_K2  K)
def rangetree_Tree_Add_b0 (t : Option Addr) (p_0 : Int) (p_1 : Int) (p_2 : Int) (h : Hp)  (K : Value → Hp → Prop) : Prop :=
  sx_5 Tryz.prog F 118 (cp [] (bodyOf Tryz.f9)) (ap [] rangetree_Tree_Add_an) [(0, .pointer t), (1, .agg #[.int .i64 p_0, .int .i64 p_1, .int .i64 p_2])] h (rangetree_Tree_Add_K0  K)
def rangetree_Tree_Add_b1 (t : Option Addr) (p : Option Addr) (h : Hp)  (K : Value → Hp → Prop) : Prop :=
  sx_4 Tryz.prog F 118 (cp [1, 1] (bodyOf Tryz.f9)) (ap [1, 1] rangetree_Tree_Add_an) [(0, .pointer t), (3, .pointer p)] h (rangetree_Tree_Add_K0  K)
def rangetree_Tree_Add_b2 (l : Option Addr) (lL : Nat) (lC : Nat) (nv : Int) (t : Option Addr) (h : Hp) (nx0 : (Option Addr × Nat × Nat) × Int × Unit → Hp → Prop) (K : Value → Hp → Prop) : Prop :=
  sx_3 Tryz.prog F 118 (cp [1, 1, 1, 1, 1, 1, 1, 0, 1, 2, 2] (bodyOf Tryz.f9)) (ap [1, 1, 1, 1, 1, 1, 1, 0, 1, 2] rangetree_Tree_Add_an) [(8, .slice l lL lC), (9, .int .i64 nv), (0, .pointer t)] h (rangetree_Tree_Add_K3 nx0 K)
def rangetree_Tree_Add_b3 (t : Option Addr) (l : Option Addr) (lL : Nat) (lC : Nat) (nv : Int) (h : Hp) (nx0 : (Option Addr × Nat × Nat) × Int × Unit → Hp → Prop) (K : Value → Hp → Prop) : Prop :=
  sx_2 Tryz.prog F 118 (cp [1, 1, 1, 1, 1, 1, 1, 0, 1, 2, 2, 1] (bodyOf Tryz.f9)) (ap [1, 1, 1, 1, 1, 1, 1, 0, 1, 2, 1] rangetree_Tree_Add_an) [(0, .pointer t), (8, .slice l lL lC), (9, .int .i64 nv)] h (rangetree_Tree_Add_K3 nx0 K)
def rangetree_Tree_Add_b4 (t : Option Addr) (l : Option Addr) (lL : Nat) (lC : Nat) (h : Hp)  (K : Value → Hp → Prop) : Prop :=
  sx_3 Tryz.prog F 118 (cp [1, 1, 1, 1, 1, 1, 1, 1] (bodyOf Tryz.f9)) (ap [1, 1, 1, 1, 1, 1, 1, 1] rangetree_Tree_Add_an) [(0, .pointer t), (8, .slice l lL lC)] h (rangetree_Tree_Add_K0  K)
def rangetree_Tree_Add_b5 (t : Option Addr) (l : Option Addr) (lL : Nat) (lC : Nat) (nv : Int) (h : Hp) (nx0 : (Option Addr × Nat × Nat) × Int × Unit → Hp → Prop) (K : Value → Hp → Prop) : Prop :=
  sx_1 Tryz.prog F 118 (cp [1, 1, 1, 1, 1, 1, 1, 0, 1, 2, 2, 1, 1] (bodyOf Tryz.f9)) (ap [1, 1, 1, 1, 1, 1, 1, 0, 1, 2, 1, 1] rangetree_Tree_Add_an) [(0, .pointer t), (8, .slice l lL lC), (9, .int .i64 nv)] h (rangetree_Tree_Add_K3 nx0 K)
theorem rangetree_Tree_Add_b0_eq (t : Option Addr) (p_0 : Int) (p_1 : Int) (p_2 : Int) (h : Hp)  (K : Value → Hp → Prop) : rangetree_Tree_Add_b0 t p_0 p_1 p_2 h  K = (
  New h (.cells #[.int .i64 p_0, .int .i64 p_1, .int .i64 p_2] 43) fun b1 h1 =>
  cond t.isNone
  (K (.int .i64 1) h1)
  (∃ n1 : Int, ∃ n2 : Int, ∃ n3 : Int, cell h1 ⟨b1, 0, none⟩ = some (.int .i64 n1) ∧
  cell h1 ((⟨b1, 0, none⟩ : Addr).add 1) = some (.int .i64 n2) ∧
  cell h1 ((⟨b1, 0, none⟩ : Addr).add 2) = some (.int .i64 n3) ∧
  HCalls Tryz.prog 18 #[.agg #[.int .i64 n1, .int .i64 n2, .int .i64 n3]] h1 fun v1 h2 => ∃ r1 : Bool, v1 = .bool r1 ∧
  cond (!r1)
  (K (.int .i64 1) h2)
  (rangetree_Tree_Add_b1 t (some ⟨b1, 0, none⟩) h2  K))) := by kernel_rfl
theorem rangetree_Tree_Add_b1_eq (t : Option Addr) (p : Option Addr) (h : Hp)  (K : Value → Hp → Prop) : rangetree_Tree_Add_b1 t p h  K = (
  NN p fun a1 =>
  ∃ n4 : Int, cell h a1 = some (.int .i64 n4) ∧
  NN p fun a2 =>
  ∃ n5 : Int, cell h (a2.add 1) = some (.int .i64 n5) ∧
  New h (.cells #[.int .i64 0, .int .i64 0] 60) fun b2 h3 =>
  Wr h3 ⟨b2, 0, none⟩ (.int .i64 n4) fun h4 =>
  Wr h4 ((⟨b2, 0, none⟩ : Addr).add 1) (.int .i64 n5) fun h5 =>
  NN t fun a3 =>
  ∃ v2 : Value, cell h5 a3 = some (v2) ∧
  ∃ n6 : Int, ∃ n7 : Int, cell h5 ⟨b2, 0, none⟩ = some (.int .i64 n6) ∧
  cell h5 ((⟨b2, 0, none⟩ : Addr).add 1) = some (.int .i64 n7) ∧
  lookV Tryz.prog 55 v2 (.agg #[.int .i64 n6, .int .i64 n7]) true h5 fun v3 => ∃ r2 : Int, ∃ r3 : Bool, v3 = .tuple #[.int .i64 r2, .bool r3] ∧
  cond r3
  (K (.int .i64 15) h5)
  (NN t fun a4 =>
  ∃ v4 : Value, cell h5 a4 = some (v4) ∧
  mapLenV v4 h5 fun n8 =>
  cond (decide ((1000 : Int) ≤ n8))
  (K (.int .i64 4) h5)
  (NN t fun a5 =>
  ∃ v5 : Value, cell h5 a5 = some (v5) ∧
  ∃ n9 : Int, ∃ n10 : Int, cell h5 ⟨b2, 0, none⟩ = some (.int .i64 n9) ∧
  cell h5 ((⟨b2, 0, none⟩ : Addr).add 1) = some (.int .i64 n10) ∧
  NN p fun a6 =>
  ∃ n11 : Int, cell h5 (a6.add 2) = some (.int .i64 n11) ∧
  mapSetV Tryz.prog 55 v5 (.agg #[.int .i64 n9, .int .i64 n10]) (.int .i64 n11) h5 fun h6 =>
  NN p fun a7 =>
  ∃ n12 : Int, ∃ n13 : Int, ∃ n14 : Int, cell h6 a7 = some (.int .i64 n12) ∧
  cell h6 (a7.add 1) = some (.int .i64 n13) ∧
  cell h6 (a7.add 2) = some (.int .i64 n14) ∧
  New h6 (.cells #[.int .i64 n12, .int .i64 n13, .int .i64 n14] 43) fun b3 h7 =>
  NN t fun a8 =>
  ∃ (a9 : Option Addr) (L1 C1 : Nat), cell h7 (a8.add 1) = some (.slice a9 L1 C1) ∧
  LoopVC (((some ⟨b3, 0, none⟩, 1, 1), (L1 : Int), ()) : (Option Addr × Nat × Nat) × Int × Unit) h7 (fun (nx0 : (Option Addr × Nat × Nat) × Int × Unit → Hp → Prop) (s1 : (Option Addr × Nat × Nat) × Int × Unit) h8 => rangetree_Tree_Add_b2 s1.1.1 s1.1.2.1 s1.1.2.2 s1.2.1 t h8 nx0 K)))) := by kernel_rfl
theorem rangetree_Tree_Add_b2_eq (l : Option Addr) (lL : Nat) (lC : Nat) (nv : Int) (t : Option Addr) (h : Hp) (nx0 : (Option Addr × Nat × Nat) × Int × Unit → Hp → Prop) (K : Value → Hp → Prop) : rangetree_Tree_Add_b2 l lL lC nv t h nx0 K = (
  cond (decide ((0 : Int) < nv))
  (NN t fun a10 =>
  ∃ (a11 : Option Addr) (L2 C2 : Nat), cell h (a10.add 1) = some (.slice a11 L2 C2) ∧
  InR (nv - 1) ∧
  (0 ≤ nv - 1 ∧ nv - 1 < (L2 : Int)) ∧
  NN a11 fun a12 =>
  ∃ p1 : Option Addr, cell h (a12.add (Int.toNat (nv - 1) * 1)) = some (.pointer p1) ∧
  NN p1 fun a13 =>
  ∃ (a14 : Option Addr) (L3 C3 : Nat), cell h a13 = some (.slice a14 L3 C3) ∧
  cond (decide ((L3 : Int) ≤ (lL : Int)))
  (rangetree_Tree_Add_b3 t l lL lC nv h nx0 K)
  (rangetree_Tree_Add_b4 t l lL lC h  K))
  (rangetree_Tree_Add_b4 t l lL lC h  K)) := by kernel_rfl
theorem rangetree_Tree_Add_b3_eq (t : Option Addr) (l : Option Addr) (lL : Nat) (lC : Nat) (nv : Int) (h : Hp) (nx0 : (Option Addr × Nat × Nat) × Int × Unit → Hp → Prop) (K : Value → Hp → Prop) : rangetree_Tree_Add_b3 t l lL lC nv h nx0 K = (
  NN t fun a15 =>
  ∃ (a16 : Option Addr) (L4 C4 : Nat), cell h (a15.add 1) = some (.slice a16 L4 C4) ∧
  InR (nv - 1) ∧
  (0 ≤ nv - 1 ∧ nv - 1 < (L4 : Int)) ∧
  NN a16 fun a17 =>
  ∃ p2 : Option Addr, cell h (a17.add (Int.toNat (nv - 1) * 1)) = some (.pointer p2) ∧
  NN p2 fun a18 =>
  ∃ (a19 : Option Addr) (L5 C5 : Nat), cell h a18 = some (.slice a19 L5 C5) ∧
  appendV Tryz.prog 49 49 (.slice l lL lC) (.slice a19 L5 C5) h (slK fun a20 l1 c1 h9 =>
  NN t fun a21 =>
  ∃ n15 : Int, cell h9 (a21.add 3) = some (.int .i64 n15) ∧
  NN t fun a22 =>
  ∃ (a23 : Option Addr) (L6 C6 : Nat), cell h9 (a22.add 1) = some (.slice a23 L6 C6) ∧
  InR (nv - 1) ∧
  (0 ≤ nv - 1 ∧ nv - 1 < (L6 : Int)) ∧
  NN a23 fun a24 =>
  ∃ p3 : Option Addr, cell h9 (a24.add (Int.toNat (nv - 1) * 1)) = some (.pointer p3) ∧
  NN p3 fun a25 =>
  ∃ (a26 : Option Addr) (L7 C7 : Nat), cell h9 a25 = some (.slice a26 L7 C7) ∧
  InR (n15 - (L7 : Int)) ∧
  NN t fun a27 =>
  Wr h9 (a27.add 3) (.int .i64 (n15 - (L7 : Int))) fun h10 =>
  NN t fun a28 =>
  ∃ (a29 : Option Addr) (L8 C8 : Nat), cell h10 (a28.add 1) = some (.slice a29 L8 C8) ∧
  InR (nv - 1) ∧
  (0 ≤ (0 : Int) ∧ (0 : Int) ≤ nv - 1 ∧ nv - 1 ≤ (C8 : Int)) ∧
  NN t fun a30 =>
  Wr h10 (a30.add 1) (.slice (subAddr a29 C8 (Int.toNat (0 : Int)) 1) (Int.toNat (nv - 1) - Int.toNat (0 : Int)) (C8 - Int.toNat (0 : Int))) fun h11 =>
  rangetree_Tree_Add_b5 t a20 l1 c1 nv h11 nx0 K)) := by kernel_rfl
theorem rangetree_Tree_Add_b4_eq (t : Option Addr) (l : Option Addr) (lL : Nat) (lC : Nat) (h : Hp)  (K : Value → Hp → Prop) : rangetree_Tree_Add_b4 t l lL lC h  K = (
  HCalls Tryz.prog 25 #[.pointer t, .slice l lL lC] h fun v6 h12 => v6 = .tuple #[] ∧
  K (.int .i64 0) h12) := by kernel_rfl
theorem rangetree_Tree_Add_b5_eq (t : Option Addr) (l : Option Addr) (lL : Nat) (lC : Nat) (nv : Int) (h : Hp) (nx0 : (Option Addr × Nat × Nat) × Int × Unit → Hp → Prop) (K : Value → Hp → Prop) : rangetree_Tree_Add_b5 t l lL lC nv h nx0 K = (
  InR (nv - 1) ∧
  nx0 ((l, lL, lC), nv - 1, ()) h) := by kernel_rfl
theorem rangetree_Tree_Add_call {t : Option Addr} {p_0 : Int} {p_1 : Int} {p_2 : Int} {h : Hp} {K : Value → Hp → Prop} (hk : rangetree_Tree_Add_b0 t p_0 p_1 p_2 h K) : HCalls Tryz.prog 9 #[.pointer t, .agg #[.int .i64 p_0, .int .i64 p_1, .int .i64 p_2]] h K :=
  calls_of_snd rangetree_Tree_Add_an Tryz.func9 (c := bodyOf Tryz.f9) rfl Tryz.ntmps9 (Nat.le_of_ble_eq_true rfl) (snd_5 F_ok F_mixed) hk

/-! ### rangetree_Tree_Sum -/
def rangetree_Tree_Sum_an : Ann := .leaf
def rangetree_Tree_Sum_K0  (K : Value → Hp → Prop) : Exit → Env → Hp → Prop := retK Tryz.prog Tryz.f10.results.toList K
def rangetree_Tree_Sum_b0 (t : Option Addr) (x1 : Int) (x2 : Int) (y1 : Int) (y2 : Int) (h : Hp)  (K : Value → Hp → Prop) : Prop :=
  sx_1 Tryz.prog F 26 (cp [] (bodyOf Tryz.f10)) (ap [] rangetree_Tree_Sum_an) [(0, .pointer t), (1, .int .i64 x1), (2, .int .i64 x2), (3, .int .i64 y1), (4, .int .i64 y2)] h (rangetree_Tree_Sum_K0  K)
theorem rangetree_Tree_Sum_b0_eq (t : Option Addr) (x1 : Int) (x2 : Int) (y1 : Int) (y2 : Int) (h : Hp)  (K : Value → Hp → Prop) : rangetree_Tree_Sum_b0 t x1 x2 y1 y2 h  K = (
  cond t.isNone
  (K (.tuple #[.int .i64 0, .int .i64 1]) h)
  (HCalls Tryz.prog 26 #[.pointer t, .int .i64 x1, .int .i64 x2, .int .i64 y1, .int .i64 y2] h fun v1 h1 => ∃ r1 : Int, ∃ r2 : Int, v1 = .tuple #[.int .i64 r1, .int .i64 r2] ∧
  K (.tuple #[.int .i64 r2, .int .i64 0]) h1)) := by kernel_rfl
theorem rangetree_Tree_Sum_call {t : Option Addr} {x1 : Int} {x2 : Int} {y1 : Int} {y2 : Int} {h : Hp} {K : Value → Hp → Prop} (hk : rangetree_Tree_Sum_b0 t x1 x2 y1 y2 h K) : HCalls Tryz.prog 10 #[.pointer t, .int .i64 x1, .int .i64 x2, .int .i64 y1, .int .i64 y2] h K :=
  calls_of_snd rangetree_Tree_Sum_an Tryz.func10 (c := bodyOf Tryz.f10) rfl Tryz.ntmps10 (Nat.le_of_ble_eq_true rfl) (snd_1 F_ok F_mixed) hk

/-! ### rangetree_Tree_Remove -/
def rangetree_Tree_Remove_an : Ann := .node none (.leaf) (.node none (.leaf) (.node none (.leaf) (.node none (.leaf) (.node none (.leaf) (.node none (.leaf) (.node (some []) (.leaf) (.leaf)))))))
def rangetree_Tree_Remove_K0  (K : Value → Hp → Prop) : Exit → Env → Hp → Prop := retK Tryz.prog Tryz.f11.results.toList K
def rangetree_Tree_Remove_b0 (t : Option Addr) (x : Int) (y : Int) (h : Hp)  (K : Value → Hp → Prop) : Prop :=
  sx_2 Tryz.prog F 57 (cp [] (bodyOf Tryz.f11)) (ap [] rangetree_Tree_Remove_an) [(0, .pointer t), (1, .int .i64 x), (2, .int .i64 y)] h (rangetree_Tree_Remove_K0  K)
def rangetree_Tree_Remove_b1  (h : Hp)  (K : Value → Hp → Prop) : Prop :=
  sx_1 Tryz.prog F 57 (cp [1, 1, 1, 1, 1, 1, 1] (bodyOf Tryz.f11)) (ap [1, 1, 1, 1, 1, 1, 1] rangetree_Tree_Remove_an) [] h (rangetree_Tree_Remove_K0  K)
theorem rangetree_Tree_Remove_b0_eq (t : Option Addr) (x : Int) (y : Int) (h : Hp)  (K : Value → Hp → Prop) : rangetree_Tree_Remove_b0 t x y h  K = (
  cond t.isNone
  (K (.int .i64 1) h)
  (NN t fun a1 =>
  ∃ v1 : Value, cell h a1 = some (v1) ∧
  lookV Tryz.prog 55 v1 (.agg #[.int .i64 x, .int .i64 y]) true h fun v2 => ∃ r1 : Int, ∃ r2 : Bool, v2 = .tuple #[.int .i64 r1, .bool r2] ∧
  cond (!r2)
  (K (.int .i64 12) h)
  (NN t fun a2 =>
  ∃ v3 : Value, cell h a2 = some (v3) ∧
  mapDelV Tryz.prog 55 v3 (.agg #[.int .i64 x, .int .i64 y]) h fun h1 =>
  NN t fun a3 =>
  ∃ (a4 : Option Addr) (L1 C1 : Nat), cell h1 (a3.add 2) = some (.slice a4 L1 C1) ∧
  New h1 (.cells #[.int .i64 x, .int .i64 y, .int .i64 r1] 43) fun b1 h2 =>
  appendV Tryz.prog 49 49 (.slice a4 L1 C1) (.slice (some ⟨b1, 0, none⟩) 1 1) h2 (slK fun a5 l1 c1 h3 =>
  NN t fun a6 =>
  Wr h3 (a6.add 2) (.slice a5 l1 c1) fun h4 =>
  NN t fun a7 =>
  ∃ (a8 : Option Addr) (L2 C2 : Nat), cell h4 (a7.add 2) = some (.slice a8 L2 C2) ∧
  InR (2 * (L2 : Int)) ∧
  NN t fun a9 =>
  ∃ n1 : Int, cell h4 (a9.add 3) = some (.int .i64 n1) ∧
  cond (decide (n1 ≤ (2 * (L2 : Int))))
  (HCalls Tryz.prog 19 #[.pointer t] h4 fun v4 h5 => v4 = .tuple #[] ∧
  rangetree_Tree_Remove_b1  h5  K)
  (rangetree_Tree_Remove_b1  h4  K))))) := by kernel_rfl
theorem rangetree_Tree_Remove_b1_eq  (h : Hp)  (K : Value → Hp → Prop) : rangetree_Tree_Remove_b1  h  K = (
  K (.int .i64 0) h) := by kernel_rfl
theorem rangetree_Tree_Remove_call {t : Option Addr} {x : Int} {y : Int} {h : Hp} {K : Value → Hp → Prop} (hk : rangetree_Tree_Remove_b0 t x y h K) : HCalls Tryz.prog 11 #[.pointer t, .int .i64 x, .int .i64 y] h K :=
  calls_of_snd rangetree_Tree_Remove_an Tryz.func11 (c := bodyOf Tryz.f11) rfl Tryz.ntmps11 (Nat.le_of_ble_eq_true rfl) (snd_2 F_ok F_mixed) hk

/-! ### rangetree_Tree_Count -/
def rangetree_Tree_Count_an : Ann := .leaf
def rangetree_Tree_Count_K0  (K : Value → Hp → Prop) : Exit → Env → Hp → Prop := retK Tryz.prog Tryz.f12.results.toList K
def rangetree_Tree_Count_b0 (t : Option Addr) (x1 : Int) (x2 : Int) (y1 : Int) (y2 : Int) (h : Hp)  (K : Value → Hp → Prop) : Prop :=
  sx_1 Tryz.prog F 26 (cp [] (bodyOf Tryz.f12)) (ap [] rangetree_Tree_Count_an) [(0, .pointer t), (1, .int .i64 x1), (2, .int .i64 x2), (3, .int .i64 y1), (4, .int .i64 y2)] h (rangetree_Tree_Count_K0  K)
theorem rangetree_Tree_Count_b0_eq (t : Option Addr) (x1 : Int) (x2 : Int) (y1 : Int) (y2 : Int) (h : Hp)  (K : Value → Hp → Prop) : rangetree_Tree_Count_b0 t x1 x2 y1 y2 h  K = (
  cond t.isNone
  (K (.tuple #[.int .i64 0, .int .i64 1]) h)
  (HCalls Tryz.prog 26 #[.pointer t, .int .i64 x1, .int .i64 x2, .int .i64 y1, .int .i64 y2] h fun v1 h1 => ∃ r1 : Int, ∃ r2 : Int, v1 = .tuple #[.int .i64 r1, .int .i64 r2] ∧
  K (.tuple #[.int .i64 r1, .int .i64 0]) h1)) := by kernel_rfl
theorem rangetree_Tree_Count_call {t : Option Addr} {x1 : Int} {x2 : Int} {y1 : Int} {y2 : Int} {h : Hp} {K : Value → Hp → Prop} (hk : rangetree_Tree_Count_b0 t x1 x2 y1 y2 h K) : HCalls Tryz.prog 12 #[.pointer t, .int .i64 x1, .int .i64 x2, .int .i64 y1, .int .i64 y2] h K :=
  calls_of_snd rangetree_Tree_Count_an Tryz.func12 (c := bodyOf Tryz.f12) rfl Tryz.ntmps12 (Nat.le_of_ble_eq_true rfl) (snd_1 F_ok F_mixed) hk

/-! ### rangetree_Tree_Len -/
def rangetree_Tree_Len_an : Ann := .leaf
def rangetree_Tree_Len_K0  (K : Value → Hp → Prop) : Exit → Env → Hp → Prop := retK Tryz.prog Tryz.f13.results.toList K
def rangetree_Tree_Len_b0 (t : Option Addr) (h : Hp)  (K : Value → Hp → Prop) : Prop :=
  sx_1 Tryz.prog F 10 (cp [] (bodyOf Tryz.f13)) (ap [] rangetree_Tree_Len_an) [(0, .pointer t)] h (rangetree_Tree_Len_K0  K)
theorem rangetree_Tree_Len_b0_eq (t : Option Addr) (h : Hp)  (K : Value → Hp → Prop) : rangetree_Tree_Len_b0 t h  K = (
  cond t.isNone
  (K (.int .i64 0) h)
  (NN t fun a1 =>
  ∃ v1 : Value, cell h a1 = some (v1) ∧
  mapLenV v1 h fun n1 =>
  K (.int .i64 n1) h)) := by kernel_rfl
theorem rangetree_Tree_Len_call {t : Option Addr} {h : Hp} {K : Value → Hp → Prop} (hk : rangetree_Tree_Len_b0 t h K) : HCalls Tryz.prog 13 #[.pointer t] h K :=
  calls_of_snd rangetree_Tree_Len_an Tryz.func13 (c := bodyOf Tryz.f13) rfl Tryz.ntmps13 (Nat.le_of_ble_eq_true rfl) (snd_1 F_ok F_mixed) hk

/-! ### rangetree_Tree_Leftmost -/
def rangetree_Tree_Leftmost_an : Ann := .node none (.leaf) (.node none (.leaf) (.node (some [8]) (.node none (.leaf) (.loop [1, 2, 3, 8, 16, 17] [(18, .int .i64)] (.node none (.leaf) (.node none (.leaf) (.node (some [1, 2, 3, 8, 16, 17, 18]) (.leaf) (.leaf)))))) (.leaf)))
def rangetree_Tree_Leftmost_K0  (K : Value → Hp → Prop) : Exit → Env → Hp → Prop := retK Tryz.prog Tryz.f14.results.toList K
def rangetree_Tree_Leftmost_K1  (K : Value → Hp → Prop) : Exit → Env → Hp → Prop := thenE (fun env h => sx_2 Tryz.prog F 41 (cp [1, 1, 1] (bodyOf Tryz.f14)) (ap [1, 1, 1] rangetree_Tree_Leftmost_an) (rs [8] env) h (rangetree_Tree_Leftmost_K0  K)) (rangetree_Tree_Leftmost_K0  K)
def rangetree_Tree_Leftmost_K2  (K : Value → Hp → Prop) : Exit → Env → Hp → Prop := blockE 0 (rangetree_Tree_Leftmost_K1  K)
def rangetree_Tree_Leftmost_K3 (nx0 : Int × Unit → Hp → Prop) (K : Value → Hp → Prop) : Exit → Env → Hp → Prop := thenE (fun env h => getV [(18, .int .i64)] env fun s => nx0 s h) (rangetree_Tree_Leftmost_K2  K)
def rangetree_Tree_Leftmost_b0 (t : Option Addr) (x1 : Int) (y1 : Int) (y2 : Int) (h : Hp)  (K : Value → Hp → Prop) : Prop :=
  sx_3 Tryz.prog F 41 (cp [] (bodyOf Tryz.f14)) (ap [] rangetree_Tree_Leftmost_an) [(0, .pointer t), (1, .int .i64 x1), (2, .int .i64 y1), (3, .int .i64 y2)] h (rangetree_Tree_Leftmost_K0  K)
def rangetree_Tree_Leftmost_b1 (t18 : Int) (x1 : Int) (y1 : Int) (y2 : Int) (t8 : Option Addr) (t16 : Option Addr) (t16L : Nat) (t16C : Nat) (t17 : Int) (h : Hp) (nx0 : Int × Unit → Hp → Prop) (K : Value → Hp → Prop) : Prop :=
  sx_2 Tryz.prog F 41 (cp [1, 1, 0, 1, 2, 2] (bodyOf Tryz.f14)) (ap [1, 1, 0, 1, 2] rangetree_Tree_Leftmost_an) [(18, .int .i64 t18), (1, .int .i64 x1), (2, .int .i64 y1), (3, .int .i64 y2), (8, .pointer t8), (16, .slice t16 t16L t16C), (17, .int .i64 t17)] h (rangetree_Tree_Leftmost_K3 nx0 K)
def rangetree_Tree_Leftmost_b2 (x1 : Int) (y1 : Int) (y2 : Int) (t8 : Option Addr) (t16 : Option Addr) (t16L : Nat) (t16C : Nat) (t17 : Int) (t18 : Int) (h : Hp) (nx0 : Int × Unit → Hp → Prop) (K : Value → Hp → Prop) : Prop :=
  sx_1 Tryz.prog F 41 (cp [1, 1, 0, 1, 2, 2, 1, 1, 1] (bodyOf Tryz.f14)) (ap [1, 1, 0, 1, 2, 1, 1, 1] rangetree_Tree_Leftmost_an) [(1, .int .i64 x1), (2, .int .i64 y1), (3, .int .i64 y2), (8, .pointer t8), (16, .slice t16 t16L t16C), (17, .int .i64 t17), (18, .int .i64 t18)] h (rangetree_Tree_Leftmost_K3 nx0 K)
def rangetree_Tree_Leftmost_b3 (t8 : Option Addr) (h : Hp)  (K : Value → Hp → Prop) : Prop :=
  sx_2 Tryz.prog F 41 (cp [1, 1, 1] (bodyOf Tryz.f14)) (ap [1, 1, 1] rangetree_Tree_Leftmost_an) [(8, .pointer t8)] h (rangetree_Tree_Leftmost_K0  K)
theorem rangetree_Tree_Leftmost_b0_eq (t : Option Addr) (x1 : Int) (y1 : Int) (y2 : Int) (h : Hp)  (K : Value → Hp → Prop) : rangetree_Tree_Leftmost_b0 t x1 y1 y2 h  K = (
  New h (.cells #[.int .i64 0, .int .i64 0, .int .i64 0] 43) fun b1 h1 =>
  cond t.isNone
  (Wr h1 ⟨b1, 0, none⟩ (.int .i64 0) fun h2 =>
  Wr h2 ((⟨b1, 0, none⟩ : Addr).add 1) (.int .i64 0) fun h3 =>
  Wr h3 ((⟨b1, 0, none⟩ : Addr).add 2) (.int .i64 0) fun h4 =>
  ∃ r1 : Int, ∃ r2 : Int, ∃ r3 : Int, cell h4 ⟨b1, 0, none⟩ = some (.int .i64 r1) ∧
  cell h4 ((⟨b1, 0, none⟩ : Addr).add 1) = some (.int .i64 r2) ∧
  cell h4 ((⟨b1, 0, none⟩ : Addr).add 2) = some (.int .i64 r3) ∧
  K (.tuple #[.agg #[.int .i64 r1, .int .i64 r2, .int .i64 r3], .int .i64 1]) h4)
  (HCalls Tryz.prog 27 #[.pointer t] h1 fun v1 h5 => ∃ (r4 : Option Addr) (rL1 rC1 : Nat), v1 = .slice r4 rL1 rC1 ∧
  LoopVC ((0, ()) : Int × Unit) h5 (fun (nx0 : Int × Unit → Hp → Prop) (s1 : Int × Unit) h6 => rangetree_Tree_Leftmost_b1 s1.1 x1 y1 y2 (some ⟨b1, 0, none⟩) r4 rL1 rC1 (rL1 : Int) h6 nx0 K))) := by kernel_rfl
theorem rangetree_Tree_Leftmost_b1_eq (t18 : Int) (x1 : Int) (y1 : Int) (y2 : Int) (t8 : Option Addr) (t16 : Option Addr) (t16L : Nat) (t16C : Nat) (t17 : Int) (h : Hp) (nx0 : Int × Unit → Hp → Prop) (K : Value → Hp → Prop) : rangetree_Tree_Leftmost_b1 t18 x1 y1 y2 t8 t16 t16L t16C t17 h nx0 K = (
  cond (decide (t18 < t17))
  ((0 ≤ t18 ∧ t18 < (t16L : Int)) ∧
  NN t16 fun a1 =>
  ∃ n1 : Int, ∃ n2 : Int, ∃ n3 : Int, cell h (a1.add (Int.toNat t18 * 3)) = some (.int .i64 n1) ∧
  cell h ((a1.add (Int.toNat t18 * 3)).add 1) = some (.int .i64 n2) ∧
  cell h ((a1.add (Int.toNat t18 * 3)).add 2) = some (.int .i64 n3) ∧
  New h (.cells #[.int .i64 0, .int .i64 0, .int .i64 0] 43) fun b2 h7 =>
  Wr h7 ⟨b2, 0, none⟩ (.int .i64 n1) fun h8 =>
  Wr h8 ((⟨b2, 0, none⟩ : Addr).add 1) (.int .i64 n2) fun h9 =>
  Wr h9 ((⟨b2, 0, none⟩ : Addr).add 2) (.int .i64 n3) fun h10 =>
  ∃ n4 : Int, cell h10 ⟨b2, 0, none⟩ = some (.int .i64 n4) ∧
  cond (decide (x1 ≤ n4))
  (∃ n5 : Int, cell h10 ((⟨b2, 0, none⟩ : Addr).add 1) = some (.int .i64 n5) ∧
  cond (decide (y1 ≤ n5))
  (∃ n6 : Int, cell h10 ((⟨b2, 0, none⟩ : Addr).add 1) = some (.int .i64 n6) ∧
  cond (decide (n6 ≤ y2))
  (∃ n7 : Int, ∃ n8 : Int, ∃ n9 : Int, cell h10 ⟨b2, 0, none⟩ = some (.int .i64 n7) ∧
  cell h10 ((⟨b2, 0, none⟩ : Addr).add 1) = some (.int .i64 n8) ∧
  cell h10 ((⟨b2, 0, none⟩ : Addr).add 2) = some (.int .i64 n9) ∧
  NN t8 fun a2 =>
  Wr h10 a2 (.int .i64 n7) fun h11 =>
  Wr h11 (a2.add 1) (.int .i64 n8) fun h12 =>
  Wr h12 (a2.add 2) (.int .i64 n9) fun h13 =>
  NN t8 fun a3 =>
  ∃ r5 : Int, ∃ r6 : Int, ∃ r7 : Int, cell h13 a3 = some (.int .i64 r5) ∧
  cell h13 (a3.add 1) = some (.int .i64 r6) ∧
  cell h13 (a3.add 2) = some (.int .i64 r7) ∧
  K (.tuple #[.agg #[.int .i64 r5, .int .i64 r6, .int .i64 r7], .int .i64 0]) h13)
  (rangetree_Tree_Leftmost_b2 x1 y1 y2 t8 t16 t16L t16C t17 t18 h10 nx0 K))
  (rangetree_Tree_Leftmost_b2 x1 y1 y2 t8 t16 t16L t16C t17 t18 h10 nx0 K))
  (rangetree_Tree_Leftmost_b2 x1 y1 y2 t8 t16 t16L t16C t17 t18 h10 nx0 K))
  (rangetree_Tree_Leftmost_b3 t8 h  K)) := by kernel_rfl
theorem rangetree_Tree_Leftmost_b2_eq (x1 : Int) (y1 : Int) (y2 : Int) (t8 : Option Addr) (t16 : Option Addr) (t16L : Nat) (t16C : Nat) (t17 : Int) (t18 : Int) (h : Hp) (nx0 : Int × Unit → Hp → Prop) (K : Value → Hp → Prop) : rangetree_Tree_Leftmost_b2 x1 y1 y2 t8 t16 t16L t16C t17 t18 h nx0 K = (
  InR (t18 + 1) ∧
  nx0 (t18 + 1, ()) h) := by kernel_rfl
theorem rangetree_Tree_Leftmost_b3_eq (t8 : Option Addr) (h : Hp)  (K : Value → Hp → Prop) : rangetree_Tree_Leftmost_b3 t8 h  K = (
  NN t8 fun a4 =>
  Wr h a4 (.int .i64 0) fun h14 =>
  Wr h14 (a4.add 1) (.int .i64 0) fun h15 =>
  Wr h15 (a4.add 2) (.int .i64 0) fun h16 =>
  NN t8 fun a5 =>
  ∃ r8 : Int, ∃ r9 : Int, ∃ r10 : Int, cell h16 a5 = some (.int .i64 r8) ∧
  cell h16 (a5.add 1) = some (.int .i64 r9) ∧
  cell h16 (a5.add 2) = some (.int .i64 r10) ∧
  K (.tuple #[.agg #[.int .i64 r8, .int .i64 r9, .int .i64 r10], .int .i64 12]) h16) := by kernel_rfl
theorem rangetree_Tree_Leftmost_call {t : Option Addr} {x1 : Int} {y1 : Int} {y2 : Int} {h : Hp} {K : Value → Hp → Prop} (hk : rangetree_Tree_Leftmost_b0 t x1 y1 y2 h K) : HCalls Tryz.prog 14 #[.pointer t, .int .i64 x1, .int .i64 y1, .int .i64 y2] h K :=
  calls_of_snd rangetree_Tree_Leftmost_an Tryz.func14 (c := bodyOf Tryz.f14) rfl Tryz.ntmps14 (Nat.le_of_ble_eq_true rfl) (snd_3 F_ok F_mixed) hk

/-! ### r03_ValidOp -/
def r03_ValidOp_an : Ann := .node none (.leaf) (.node (some [0, 3]) (.node none (.plan (.qu 0 (.qu 1 (.qu 2 (.qu 3 (.qu 4 (.qu 5 (.qu 6 (.qu 7 (.qu 8 (.qu 9 (.qu 10 (.qu 11 (.qu 12 (.qu 13 (.qu 14 (.wo 15 (.qu 16 (.qu 17 (.qu 18 (.qu 19 (.qu 20 (.qu 21 (.qu 22 (.qu 23 (.qu 24 .fin))))))))) .no))))))))))))))))) (.leaf)) (.node none (.leaf) (.node (some [0, 3]) (.leaf) (.node (some []) (.node none (.leaf) (.loop [0, 3] [(6, .int .i64)] (.node none (.leaf) (.node (some [0, 3, 6]) (.leaf) (.leaf))))) (.leaf)))))
def r03_ValidOp_K0  (K : Value → Hp → Prop) : Exit → Env → Hp → Prop := retK Tryz.prog Tryz.f15.results.toList K
def r03_ValidOp_K1  (K : Value → Hp → Prop) : Exit → Env → Hp → Prop := thenE (fun env h => sx_2 Tryz.prog F 89 (cp [1, 1, 1, 1, 1] (bodyOf Tryz.f15)) (ap [1, 1, 1, 1, 1] r03_ValidOp_an) (rs [] env) h (r03_ValidOp_K0  K)) (r03_ValidOp_K0  K)
def r03_ValidOp_K2  (K : Value → Hp → Prop) : Exit → Env → Hp → Prop := blockE 0 (r03_ValidOp_K1  K)
def r03_ValidOp_K3 (nx0 : Int × Unit → Hp → Prop) (K : Value → Hp → Prop) : Exit → Env → Hp → Prop := thenE (fun env h => getV [(6, .int .i64)] env fun s => nx0 s h) (r03_ValidOp_K2  K)
def r03_ValidOp_b0 (kind : Int) (o_0 : Int) (o_1 : Option Addr) (o_1L : Nat) (o_1C : Nat) (h : Hp)  (K : Value → Hp → Prop) : Prop :=
  sx_5 Tryz.prog F 89 (cp [] (bodyOf Tryz.f15)) (ap [] r03_ValidOp_an) [(0, .int .i64 kind), (1, .agg #[.int .i64 o_0, .slice o_1 o_1L o_1C])] h (r03_ValidOp_K0  K)
def r03_ValidOp_b1 (kind : Int) (o : Option Addr) (h : Hp)  (K : Value → Hp → Prop) : Prop :=
  sx_4 Tryz.prog F 89 (cp [1, 1] (bodyOf Tryz.f15)) (ap [1, 1] r03_ValidOp_an) [(0, .int .i64 kind), (3, .pointer o)] h (r03_ValidOp_K0  K)
def r03_ValidOp_b2 (kind : Int) (o : Option Addr) (h : Hp)  (K : Value → Hp → Prop) : Prop :=
  sx_3 Tryz.prog F 89 (cp [1, 1, 1, 1] (bodyOf Tryz.f15)) (ap [1, 1, 1, 1] r03_ValidOp_an) [(0, .int .i64 kind), (3, .pointer o)] h (r03_ValidOp_K0  K)
def r03_ValidOp_b3 (i : Int) (kind : Int) (o : Option Addr) (h : Hp) (nx0 : Int × Unit → Hp → Prop) (K : Value → Hp → Prop) : Prop :=
  sx_2 Tryz.prog F 89 (cp [1, 1, 1, 1, 0, 1, 2, 2] (bodyOf Tryz.f15)) (ap [1, 1, 1, 1, 0, 1, 2] r03_ValidOp_an) [(6, .int .i64 i), (0, .int .i64 kind), (3, .pointer o)] h (r03_ValidOp_K3 nx0 K)
def r03_ValidOp_b4 (kind : Int) (o : Option Addr) (i : Int) (h : Hp) (nx0 : Int × Unit → Hp → Prop) (K : Value → Hp → Prop) : Prop :=
  sx_1 Tryz.prog F 89 (cp [1, 1, 1, 1, 0, 1, 2, 2, 1, 1] (bodyOf Tryz.f15)) (ap [1, 1, 1, 1, 0, 1, 2, 1, 1] r03_ValidOp_an) [(0, .int .i64 kind), (3, .pointer o), (6, .int .i64 i)] h (r03_ValidOp_K3 nx0 K)
def r03_ValidOp_b5  (h : Hp)  (K : Value → Hp → Prop) : Prop :=
  sx_2 Tryz.prog F 89 (cp [1, 1, 1, 1, 1] (bodyOf Tryz.f15)) (ap [1, 1, 1, 1, 1] r03_ValidOp_an) [] h (r03_ValidOp_K0  K)
theorem r03_ValidOp_b0_eq (kind : Int) (o_0 : Int) (o_1 : Option Addr) (o_1L : Nat) (o_1C : Nat) (h : Hp)  (K : Value → Hp → Prop) : r03_ValidOp_b0 kind o_0 o_1 o_1L o_1C h  K = (
  New h (.cells #[.int .i64 o_0, .slice o_1 o_1L o_1C] 36) fun b1 h1 =>
  cond (decide (kind < 1))
  (K (.bool false) h1)
  (cond (decide ((6 : Int) < kind))
  (K (.bool false) h1)
  (∃ n1 : Int, cell h1 ⟨b1, 0, none⟩ = some (.int .i64 n1) ∧
  cond (decide (n1 < 1))
  (K (.bool false) h1)
  (∃ n2 : Int, cell h1 ⟨b1, 0, none⟩ = some (.int .i64 n2) ∧
  HCalls Tryz.prog 28 #[.int .i64 kind] h1 fun v1 h2 => ∃ (r1 : Option Addr) (rL1 rC1 : Nat), v1 = .slice r1 rL1 rC1 ∧
  (∃ n3 : Int, cell h2 ⟨b1, 0, none⟩ = some (.int .i64 n3) ∧
  (.int .i64 n3 : Value) = .int .i64 n2) ∧
  cond (decide ((rL1 : Int) < n2))
  (K (.bool false) h2)
  (∃ (a1 : Option Addr) (L1 C1 : Nat), cell h2 ((⟨b1, 0, none⟩ : Addr).add 1) = some (.slice a1 L1 C1) ∧
  cond (decide ((64 : Int) < (L1 : Int)))
  (K (.bool false) h2)
  (r03_ValidOp_b1 kind (some ⟨b1, 0, none⟩) h2  K)))))) := by kernel_rfl
theorem r03_ValidOp_b1_eq (kind : Int) (o : Option Addr) (h : Hp)  (K : Value → Hp → Prop) : r03_ValidOp_b1 kind o h  K = (
  NN o fun a2 =>
  ∃ n4 : Int, cell h a2 = some (.int .i64 n4) ∧
  HCalls Tryz.prog 29 #[.int .i64 kind, .int .i64 n4] h fun v2 h3 => ∃ r2 : Int, v2 = .int .i64 r2 ∧
  cond (decide ((0 : Int) ≤ r2))
  (NN o fun a3 =>
  ∃ (a4 : Option Addr) (L2 C2 : Nat), cell h3 (a3.add 1) = some (.slice a4 L2 C2) ∧
  cond (!decide ((L2 : Int) = r2))
  (K (.bool false) h3)
  (cond (decide (r2 < 0))
  (NN o fun a5 =>
  ∃ (a6 : Option Addr) (L3 C3 : Nat), cell h3 (a5.add 1) = some (.slice a6 L3 C3) ∧
  cond (decide ((L3 : Int) = 0))
  (K (.bool false) h3)
  (r03_ValidOp_b2 kind o h3  K))
  (r03_ValidOp_b2 kind o h3  K)))
  (cond (decide (r2 < 0))
  (NN o fun a7 =>
  ∃ (a8 : Option Addr) (L4 C4 : Nat), cell h3 (a7.add 1) = some (.slice a8 L4 C4) ∧
  cond (decide ((L4 : Int) = 0))
  (K (.bool false) h3)
  (r03_ValidOp_b2 kind o h3  K))
  (r03_ValidOp_b2 kind o h3  K))) := by kernel_rfl
theorem r03_ValidOp_b2_eq (kind : Int) (o : Option Addr) (h : Hp)  (K : Value → Hp → Prop) : r03_ValidOp_b2 kind o h  K = (
  LoopVC ((0, ()) : Int × Unit) h (fun (nx0 : Int × Unit → Hp → Prop) (s1 : Int × Unit) h4 => r03_ValidOp_b3 s1.1 kind o h4 nx0 K)) := by kernel_rfl
theorem r03_ValidOp_b3_eq (i : Int) (kind : Int) (o : Option Addr) (h : Hp) (nx0 : Int × Unit → Hp → Prop) (K : Value → Hp → Prop) : r03_ValidOp_b3 i kind o h nx0 K = (
  NN o fun a9 =>
  ∃ (a10 : Option Addr) (L5 C5 : Nat), cell h (a9.add 1) = some (.slice a10 L5 C5) ∧
  cond (decide (i < (L5 : Int)))
  (NN o fun a11 =>
  ∃ (a12 : Option Addr) (L6 C6 : Nat), cell h (a11.add 1) = some (.slice a12 L6 C6) ∧
  (0 ≤ i ∧ i < (L6 : Int)) ∧
  NN a12 fun a13 =>
  ∃ n5 : Int, cell h (a13.add (Int.toNat i * 1)) = some (.int .i64 n5) ∧
  HCalls Tryz.prog 30 #[.int .i64 n5] h fun v3 h5 => ∃ r3 : Bool, v3 = .bool r3 ∧
  cond (!r3)
  (K (.bool false) h5)
  (cond (decide (kind = 6))
  (NN o fun a14 =>
  ∃ (a15 : Option Addr) (L7 C7 : Nat), cell h5 (a14.add 1) = some (.slice a15 L7 C7) ∧
  (0 ≤ i ∧ i < (L7 : Int)) ∧
  NN a15 fun a16 =>
  ∃ n6 : Int, cell h5 (a16.add (Int.toNat i * 1)) = some (.int .i64 n6) ∧
  cond (decide (n6 < 0))
  (K (.bool false) h5)
  (NN o fun a17 =>
  ∃ (a18 : Option Addr) (L8 C8 : Nat), cell h5 (a17.add 1) = some (.slice a18 L8 C8) ∧
  (0 ≤ i ∧ i < (L8 : Int)) ∧
  NN a18 fun a19 =>
  ∃ n7 : Int, cell h5 (a19.add (Int.toNat i * 1)) = some (.int .i64 n7) ∧
  cond (decide ((255 : Int) < n7))
  (K (.bool false) h5)
  (r03_ValidOp_b4 kind o i h5 nx0 K)))
  (r03_ValidOp_b4 kind o i h5 nx0 K)))
  (r03_ValidOp_b5  h  K)) := by kernel_rfl
theorem r03_ValidOp_b4_eq (kind : Int) (o : Option Addr) (i : Int) (h : Hp) (nx0 : Int × Unit → Hp → Prop) (K : Value → Hp → Prop) : r03_ValidOp_b4 kind o i h nx0 K = (
  InR (i + 1) ∧
  nx0 (i + 1, ()) h) := by kernel_rfl
theorem r03_ValidOp_b5_eq  (h : Hp)  (K : Value → Hp → Prop) : r03_ValidOp_b5  h  K = (
  K (.bool true) h) := by kernel_rfl
theorem r03_ValidOp_call {kind : Int} {o_0 : Int} {o_1 : Option Addr} {o_1L : Nat} {o_1C : Nat} {h : Hp} {K : Value → Hp → Prop} (hk : r03_ValidOp_b0 kind o_0 o_1 o_1L o_1C h K) : HCalls Tryz.prog 15 #[.int .i64 kind, .agg #[.int .i64 o_0, .slice o_1 o_1L o_1C]] h K :=
  calls_of_snd r03_ValidOp_an Tryz.func15 (c := bodyOf Tryz.f15) rfl Tryz.ntmps15 (Nat.le_of_ble_eq_true rfl) (snd_5 F_ok F_mixed) hk

/-! ### slices_ContainsFunc_Sapi_Point_api_Point -/
def slices_ContainsFunc_Sapi_Point_api_Point_an : Ann := .leaf
def slices_ContainsFunc_Sapi_Point_api_Point_K0  (K : Value → Hp → Prop) : Exit → Env → Hp → Prop := retK Tryz.prog Tryz.f16.results.toList K
def slices_ContainsFunc_Sapi_Point_api_Point_b0 (s : Option Addr) (sL : Nat) (sC : Nat) (f : Value) (h : Hp)  (K : Value → Hp → Prop) : Prop :=
  sx_1 Tryz.prog F 9 (cp [] (bodyOf Tryz.f16)) (ap [] slices_ContainsFunc_Sapi_Point_api_Point_an) [(0, .slice s sL sC), (1, f)] h (slices_ContainsFunc_Sapi_Point_api_Point_K0  K)
theorem slices_ContainsFunc_Sapi_Point_api_Point_b0_eq (s : Option Addr) (sL : Nat) (sC : Nat) (f : Value) (h : Hp)  (K : Value → Hp → Prop) : slices_ContainsFunc_Sapi_Point_api_Point_b0 s sL sC f h  K = (
  HCalls Tryz.prog 31 #[.slice s sL sC, f] h fun v1 h1 => ∃ r1 : Int, v1 = .int .i64 r1 ∧
  K (.bool (decide ((0 : Int) ≤ r1))) h1) := by kernel_rfl
theorem slices_ContainsFunc_Sapi_Point_api_Point_call {s : Option Addr} {sL : Nat} {sC : Nat} {f : Value} {h : Hp} {K : Value → Hp → Prop} (hk : slices_ContainsFunc_Sapi_Point_api_Point_b0 s sL sC f h K) : HCalls Tryz.prog 16 #[.slice s sL sC, f] h K :=
  calls_of_snd slices_ContainsFunc_Sapi_Point_api_Point_an Tryz.func16 (c := bodyOf Tryz.f16) rfl Tryz.ntmps16 (Nat.le_of_ble_eq_true rfl) (snd_1 F_ok F_mixed) hk

/-! ### rangetree_Make_c1 -/
def rangetree_Make_c1_an : Ann := .leaf
def rangetree_Make_c1_K0  (K : Value → Hp → Prop) : Exit → Env → Hp → Prop := retK Tryz.prog Tryz.f17.results.toList K
def rangetree_Make_c1_b0 (p_0 : Int) (p_1 : Int) (p_2 : Int) (h : Hp)  (K : Value → Hp → Prop) : Prop :=
  sx_1 Tryz.prog F 6 (cp [] (bodyOf Tryz.f17)) (ap [] rangetree_Make_c1_an) [(0, .agg #[.int .i64 p_0, .int .i64 p_1, .int .i64 p_2])] h (rangetree_Make_c1_K0  K)
theorem rangetree_Make_c1_b0_eq (p_0 : Int) (p_1 : Int) (p_2 : Int) (h : Hp)  (K : Value → Hp → Prop) : rangetree_Make_c1_b0 p_0 p_1 p_2 h  K = (
  New h (.cells #[.int .i64 p_0, .int .i64 p_1, .int .i64 p_2] 43) fun b1 h1 =>
  ∃ n1 : Int, ∃ n2 : Int, ∃ n3 : Int, cell h1 ⟨b1, 0, none⟩ = some (.int .i64 n1) ∧
  cell h1 ((⟨b1, 0, none⟩ : Addr).add 1) = some (.int .i64 n2) ∧
  cell h1 ((⟨b1, 0, none⟩ : Addr).add 2) = some (.int .i64 n3) ∧
  HCalls Tryz.prog 18 #[.agg #[.int .i64 n1, .int .i64 n2, .int .i64 n3]] h1 fun v1 h2 => ∃ r1 : Bool, v1 = .bool r1 ∧
  K (.bool (!r1)) h2) := by kernel_rfl
theorem rangetree_Make_c1_call {p_0 : Int} {p_1 : Int} {p_2 : Int} {h : Hp} {K : Value → Hp → Prop} (hk : rangetree_Make_c1_b0 p_0 p_1 p_2 h K) : HCalls Tryz.prog 17 #[.agg #[.int .i64 p_0, .int .i64 p_1, .int .i64 p_2]] h K :=
  calls_of_snd rangetree_Make_c1_an Tryz.func17 (c := bodyOf Tryz.f17) rfl Tryz.ntmps17 (Nat.le_of_ble_eq_true rfl) (snd_1 F_ok F_mixed) hk

/-! ### rangetree_valid -/
def rangetree_valid_an : Ann := .leaf
def rangetree_valid_K0  (K : Value → Hp → Prop) : Exit → Env → Hp → Prop := retK Tryz.prog Tryz.f18.results.toList K
def rangetree_valid_b0 (p_0 : Int) (p_1 : Int) (p_2 : Int) (h : Hp)  (K : Value → Hp → Prop) : Prop :=
  sx_1 Tryz.prog F 21 (cp [] (bodyOf Tryz.f18)) (ap [] rangetree_valid_an) [(0, .agg #[.int .i64 p_0, .int .i64 p_1, .int .i64 p_2])] h (rangetree_valid_K0  K)
theorem rangetree_valid_b0_eq (p_0 : Int) (p_1 : Int) (p_2 : Int) (h : Hp)  (K : Value → Hp → Prop) : rangetree_valid_b0 p_0 p_1 p_2 h  K = (
  New h (.cells #[.int .i64 p_0, .int .i64 p_1, .int .i64 p_2] 43) fun b1 h1 =>
  ∃ n1 : Int, cell h1 ⟨b1, 0, none⟩ = some (.int .i64 n1) ∧
  ∃ n2 : Int, cell h1 ((⟨b1, 0, none⟩ : Addr).add 1) = some (.int .i64 n2) ∧
  ∃ n3 : Int, cell h1 ((⟨b1, 0, none⟩ : Addr).add 2) = some (.int .i64 n3) ∧
  cond (decide ((if (if n1 < n2 then n2 else n1) < n3 then n3 else (if n1 < n2 then n2 else n1)) ≤ 1048576))
  (∃ n4 : Int, cell h1 ⟨b1, 0, none⟩ = some (.int .i64 n4) ∧
  ∃ n5 : Int, cell h1 ((⟨b1, 0, none⟩ : Addr).add 1) = some (.int .i64 n5) ∧
  ∃ n6 : Int, cell h1 ((⟨b1, 0, none⟩ : Addr).add 2) = some (.int .i64 n6) ∧
  K (.bool (decide (((-1048576) : Int) ≤ (if n6 < (if n5 < n4 then n5 else n4) then n6 else (if n5 < n4 then n5 else n4))))) h1)
  (K (.bool false) h1)) := by kernel_rfl
theorem rangetree_valid_call {p_0 : Int} {p_1 : Int} {p_2 : Int} {h : Hp} {K : Value → Hp → Prop} (hk : rangetree_valid_b0 p_0 p_1 p_2 h K) : HCalls Tryz.prog 18 #[.agg #[.int .i64 p_0, .int .i64 p_1, .int .i64 p_2]] h K :=
  calls_of_snd rangetree_valid_an Tryz.func18 (c := bodyOf Tryz.f18) rfl Tryz.ntmps18 (Nat.le_of_ble_eq_true rfl) (snd_1 F_ok F_mixed) hk

/-! ### rangetree_Tree_renew -/
def rangetree_Tree_renew_an : Ann := .leaf
def rangetree_Tree_renew_K0  (K : Value → Hp → Prop) : Exit → Env → Hp → Prop := retK Tryz.prog Tryz.f19.results.toList K
def rangetree_Tree_renew_b0 (t : Option Addr) (h : Hp)  (K : Value → Hp → Prop) : Prop :=
  sx_1 Tryz.prog F 20 (cp [] (bodyOf Tryz.f19)) (ap [] rangetree_Tree_renew_an) [(0, .pointer t)] h (rangetree_Tree_renew_K0  K)
theorem rangetree_Tree_renew_b0_eq (t : Option Addr) (h : Hp)  (K : Value → Hp → Prop) : rangetree_Tree_renew_b0 t h  K = (
  NN t fun a1 =>
  Wr h (a1.add 1) (.slice none 0 0) fun h1 =>
  NN t fun a2 =>
  Wr h1 (a2.add 2) (.slice none 0 0) fun h2 =>
  NN t fun a3 =>
  Wr h2 (a3.add 3) (.int .i64 0) fun h3 =>
  HCalls Tryz.prog 27 #[.pointer t] h3 fun v1 h4 => ∃ (r1 : Option Addr) (rL1 rC1 : Nat), v1 = .slice r1 rL1 rC1 ∧
  cond (decide ((0 : Int) < (rL1 : Int)))
  (HCalls Tryz.prog 25 #[.pointer t, .slice r1 rL1 rC1] h4 fun v2 h5 => v2 = .tuple #[] ∧
  K (.tuple #[]) h5)
  (K (.tuple #[]) h4)) := by kernel_rfl
theorem rangetree_Tree_renew_call {t : Option Addr} {h : Hp} {K : Value → Hp → Prop} (hk : rangetree_Tree_renew_b0 t h K) : HCalls Tryz.prog 19 #[.pointer t] h K :=
  calls_of_snd rangetree_Tree_renew_an Tryz.func19 (c := bodyOf Tryz.f19) rfl Tryz.ntmps19 (Nat.le_of_ble_eq_true rfl) (snd_1 F_ok F_mixed) hk

/-! ### model_words -/
def model_words_an : Ann := .node none (.leaf) (.node (some []) (.leaf) (.leaf))
def model_words_K0  (K : Value → Hp → Prop) : Exit → Env → Hp → Prop := retK Tryz.prog Tryz.f20.results.toList K
def model_words_b0 (kind : Int) (h : Hp)  (K : Value → Hp → Prop) : Prop :=
  sx_2 Tryz.prog F 55 (cp [] (bodyOf Tryz.f20)) (ap [] model_words_an) [(0, .int .i64 kind)] h (model_words_K0  K)
def model_words_b1  (h : Hp)  (K : Value → Hp → Prop) : Prop :=
  sx_1 Tryz.prog F 55 (cp [1, 1] (bodyOf Tryz.f20)) (ap [1, 1] model_words_an) [] h (model_words_K0  K)
theorem model_words_b0_eq (kind : Int) (h : Hp)  (K : Value → Hp → Prop) : model_words_b0 kind h  K = (
  cond (decide (kind = 1))
  (New h (.cells #[.string (⟨#[112, 117, 116]⟩ : ByteArray), .int .i64 2, .bool true, .string (⟨#[103, 101, 116]⟩ : ByteArray), .int .i64 1, .bool false, .string (⟨#[114, 101, 109, 111, 118, 101]⟩ : ByteArray), .int .i64 1, .bool true, .string (⟨#[102, 108, 111, 111, 114]⟩ : ByteArray), .int .i64 1, .bool false, .string (⟨#[99, 101, 105, 108, 105, 110, 103]⟩ : ByteArray), .int .i64 1, .bool false, .string (⟨#[114, 97, 110, 107]⟩ : ByteArray), .int .i64 1, .bool false, .string (⟨#[115, 101, 108, 101, 99, 116]⟩ : ByteArray), .int .i64 1, .bool false, .string (⟨#[115, 105, 122, 101]⟩ : ByteArray), .int .i64 0, .bool false] 82) fun b1 h1 =>
  K (.slice (some ⟨b1, 0, none⟩) 8 8) h1)
  (cond (decide (kind = 2))
  (New h (.cells #[.string (⟨#[105, 110, 115, 101, 114, 116]⟩ : ByteArray), .int .i64 1, .bool true, .string (⟨#[109, 105, 110]⟩ : ByteArray), .int .i64 0, .bool false, .string (⟨#[100, 101, 108, 101, 116, 101, 109, 105, 110]⟩ : ByteArray), .int .i64 0, .bool true, .string (⟨#[115, 105, 122, 101]⟩ : ByteArray), .int .i64 0, .bool false] 82) fun b2 h2 =>
  K (.slice (some ⟨b2, 0, none⟩) 4 4) h2)
  (cond (decide (kind = 3))
  (New h (.cells #[.string (⟨#[105, 110, 115, 101, 114, 116]⟩ : ByteArray), .int .i64 2, .bool true, .string (⟨#[114, 101, 109, 111, 118, 101]⟩ : ByteArray), .int .i64 1, .bool true, .string (⟨#[103, 101, 116]⟩ : ByteArray), .int .i64 1, .bool false, .string (⟨#[115, 101, 116]⟩ : ByteArray), .int .i64 2, .bool true, .string (⟨#[115, 117, 109]⟩ : ByteArray), .int .i64 2, .bool false, .string (⟨#[114, 101, 118, 101, 114, 115, 101]⟩ : ByteArray), .int .i64 2, .bool true, .string (⟨#[115, 105, 122, 101]⟩ : ByteArray), .int .i64 0, .bool false] 82) fun b3 h3 =>
  K (.slice (some ⟨b3, 0, none⟩) 7 7) h3)
  (cond (decide (kind = 4))
  (New h (.cells #[.string (⟨#[109, 97, 107, 101]⟩ : ByteArray), .int .i64 0, .bool true, .string (⟨#[117, 110, 105, 111, 110]⟩ : ByteArray), .int .i64 2, .bool true, .string (⟨#[115, 97, 109, 101]⟩ : ByteArray), .int .i64 2, .bool false, .string (⟨#[115, 105, 122, 101]⟩ : ByteArray), .int .i64 1, .bool false, .string (⟨#[99, 111, 117, 110, 116]⟩ : ByteArray), .int .i64 0, .bool false] 82) fun b4 h4 =>
  K (.slice (some ⟨b4, 0, none⟩) 5 5) h4)
  (cond (decide (kind = 5))
  (New h (.cells #[.string (⟨#[97, 100, 100]⟩ : ByteArray), .int .i64 3, .bool true, .string (⟨#[114, 101, 109, 111, 118, 101]⟩ : ByteArray), .int .i64 2, .bool true, .string (⟨#[99, 111, 117, 110, 116]⟩ : ByteArray), .int .i64 4, .bool false, .string (⟨#[115, 117, 109]⟩ : ByteArray), .int .i64 4, .bool false, .string (⟨#[115, 105, 122, 101]⟩ : ByteArray), .int .i64 0, .bool false] 82) fun b5 h5 =>
  K (.slice (some ⟨b5, 0, none⟩) 5 5) h5)
  (cond (decide (kind = 6))
  (New h (.cells #[.string (⟨#[97, 112, 112, 101, 110, 100]⟩ : ByteArray), .int .i64 (-1), .bool true, .string (⟨#[99, 111, 117, 110, 116]⟩ : ByteArray), .int .i64 (-1), .bool false, .string (⟨#[102, 105, 110, 100]⟩ : ByteArray), .int .i64 (-1), .bool false, .string (⟨#[115, 105, 122, 101]⟩ : ByteArray), .int .i64 0, .bool false] 82) fun b6 h6 =>
  K (.slice (some ⟨b6, 0, none⟩) 4 4) h6)
  (model_words_b1  h  K))))))) := by kernel_rfl
theorem model_words_b1_eq  (h : Hp)  (K : Value → Hp → Prop) : model_words_b1  h  K = (
  K (.slice none 0 0) h) := by kernel_rfl
theorem model_words_call {kind : Int} {h : Hp} {K : Value → Hp → Prop} (hk : model_words_b0 kind h K) : HCalls Tryz.prog 20 #[.int .i64 kind] h K :=
  calls_of_snd model_words_an Tryz.func20 (c := bodyOf Tryz.f20) rfl Tryz.ntmps20 (Nat.le_of_ble_eq_true rfl) (snd_2 F_ok F_mixed) hk

/-! ### model_Valid -/
def model_Valid_an : Ann := .node none (.leaf) (.node (some []) (.node none (.leaf) (.node (some [1, 4, 5]) (.leaf) (.leaf))) (.leaf))
def model_Valid_K0  (K : Value → Hp → Prop) : Exit → Env → Hp → Prop := retK Tryz.prog Tryz.f21.results.toList K
def model_Valid_K1  (K : Value → Hp → Prop) : Exit → Env → Hp → Prop := thenE (fun env h => sx_1 Tryz.prog F 53 (cp [1, 1] (bodyOf Tryz.f21)) (ap [1, 1] model_Valid_an) (rs [] env) h (model_Valid_K0  K)) (model_Valid_K0  K)
def model_Valid_K2  (K : Value → Hp → Prop) : Exit → Env → Hp → Prop := blockE 0 (model_Valid_K1  K)
def model_Valid_b0 (s_0 : Int) (s_1 : Option Addr) (s_1L : Nat) (s_1C : Nat) (h : Hp)  (K : Value → Hp → Prop) : Prop :=
  sx_2 Tryz.prog F 53 (cp [] (bodyOf Tryz.f21)) (ap [] model_Valid_an) [(0, .agg #[.int .i64 s_0, .slice s_1 s_1L s_1C])] h (model_Valid_K0  K)
def model_Valid_b1 (s : Option Addr) (t4 : Int) (t5 : Bool) (h : Hp)  (K : Value → Hp → Prop) : Prop :=
  sx_1 Tryz.prog F 53 (cp [1, 0, 1, 2, 1] (bodyOf Tryz.f21)) (ap [1, 0, 1, 1] model_Valid_an) [(1, .pointer s), (4, .int .i64 t4), (5, .bool t5)] h (model_Valid_K2  K)
def model_Valid_b2  (h : Hp)  (K : Value → Hp → Prop) : Prop :=
  sx_1 Tryz.prog F 53 (cp [1, 1] (bodyOf Tryz.f21)) (ap [1, 1] model_Valid_an) [] h (model_Valid_K0  K)
theorem model_Valid_b0_eq (s_0 : Int) (s_1 : Option Addr) (s_1L : Nat) (s_1C : Nat) (h : Hp)  (K : Value → Hp → Prop) : model_Valid_b0 s_0 s_1 s_1L s_1C h  K = (
  New h (.cells #[.int .i64 s_0, .slice s_1 s_1L s_1C] 31) fun b1 h1 =>
  ∃ n1 : Int, cell h1 ⟨b1, 0, none⟩ = some (.int .i64 n1) ∧
  cond (decide (n1 = 1))
  (model_Valid_b1 (some ⟨b1, 0, none⟩) n1 (decide (n1 = 1)) h1  K)
  (cond (decide (n1 = 2))
  (model_Valid_b1 (some ⟨b1, 0, none⟩) n1 (decide (n1 = 2)) h1  K)
  (cond (decide (n1 = 3))
  (model_Valid_b1 (some ⟨b1, 0, none⟩) n1 (decide (n1 = 3)) h1  K)
  (model_Valid_b1 (some ⟨b1, 0, none⟩) n1 (decide (n1 = 5)) h1  K)))) := by kernel_rfl
theorem model_Valid_b1_eq (s : Option Addr) (t4 : Int) (t5 : Bool) (h : Hp)  (K : Value → Hp → Prop) : model_Valid_b1 s t4 t5 h  K = (
  cond t5
  (NN s fun a1 =>
  ∃ n2 : Int, ∃ (a2 : Option Addr) (L1 C1 : Nat), cell h a1 = some (.int .i64 n2) ∧
  cell h (a1.add 1) = some (.slice a2 L1 C1) ∧
  HCalls Tryz.prog 32 #[.agg #[.int .i64 n2, .slice a2 L1 C1]] h fun v1 h2 => ∃ r1 : Bool, v1 = .bool r1 ∧
  K (.bool r1) h2)
  (cond (decide (t4 = 4))
  (NN s fun a3 =>
  ∃ (a4 : Option Addr) (L2 C2 : Nat), cell h (a3.add 1) = some (.slice a4 L2 C2) ∧
  HCalls Tryz.prog 33 #[.slice a4 L2 C2] h fun v2 h3 => ∃ r2 : Bool, v2 = .bool r2 ∧
  K (.bool r2) h3)
  (cond (decide (t4 = 6))
  (NN s fun a5 =>
  ∃ (a6 : Option Addr) (L3 C3 : Nat), cell h (a5.add 1) = some (.slice a6 L3 C3) ∧
  cond (decide ((L3 : Int) = 0))
  (K (.bool true) h)
  (NN s fun a7 =>
  ∃ (a8 : Option Addr) (L4 C4 : Nat), cell h (a7.add 1) = some (.slice a8 L4 C4) ∧
  cond (decide ((L4 : Int) = 1))
  (NN s fun a9 =>
  ∃ (a10 : Option Addr) (L5 C5 : Nat), cell h (a9.add 1) = some (.slice a10 L5 C5) ∧
  (0 ≤ (0 : Int) ∧ (0 : Int) < (L5 : Int)) ∧
  NN a10 fun a11 =>
  ∃ (a12 : Option Addr) (L6 C6 : Nat), cell h (a11.add (Int.toNat (0 : Int) * 1)) = some (.slice a12 L6 C6) ∧
  cond (decide ((0 : Int) < (L6 : Int)))
  (NN s fun a13 =>
  ∃ (a14 : Option Addr) (L7 C7 : Nat), cell h (a13.add 1) = some (.slice a14 L7 C7) ∧
  (0 ≤ (0 : Int) ∧ (0 : Int) < (L7 : Int)) ∧
  NN a14 fun a15 =>
  ∃ (a16 : Option Addr) (L8 C8 : Nat), cell h (a15.add (Int.toNat (0 : Int) * 1)) = some (.slice a16 L8 C8) ∧
  cond (decide ((L8 : Int) ≤ 500))
  (NN s fun a17 =>
  ∃ (a18 : Option Addr) (L9 C9 : Nat), cell h (a17.add 1) = some (.slice a18 L9 C9) ∧
  (0 ≤ (0 : Int) ∧ (0 : Int) < (L9 : Int)) ∧
  NN a18 fun a19 =>
  ∃ (a20 : Option Addr) (L10 C10 : Nat), cell h (a19.add (Int.toNat (0 : Int) * 1)) = some (.slice a20 L10 C10) ∧
  HCalls Tryz.prog 34 #[.slice a20 L10 C10, .func (.func 35) #[] #[]] h fun v3 h4 => ∃ r3 : Bool, v3 = .bool r3 ∧
  K (.bool (!r3)) h4)
  (K (.bool false) h))
  (K (.bool false) h))
  (K (.bool false) h)))
  (model_Valid_b2  h  K)))) := by kernel_rfl
theorem model_Valid_call {s_0 : Int} {s_1 : Option Addr} {s_1L : Nat} {s_1C : Nat} {h : Hp} {K : Value → Hp → Prop} (hk : model_Valid_b0 s_0 s_1 s_1L s_1C h K) : HCalls Tryz.prog 21 #[.agg #[.int .i64 s_0, .slice s_1 s_1L s_1C]] h K :=
  calls_of_snd model_Valid_an Tryz.func21 (c := bodyOf Tryz.f21) rfl Tryz.ntmps21 (Nat.le_of_ble_eq_true rfl) (snd_2 F_ok F_mixed) hk

/-! ### model_ValidOp -/
def model_ValidOp_an : Ann := .node none (.leaf) (.node none (.leaf) (.node (some [3, 5]) (.leaf) (.leaf)))
def model_ValidOp_K0  (K : Value → Hp → Prop) : Exit → Env → Hp → Prop := retK Tryz.prog Tryz.f22.results.toList K
def model_ValidOp_b0 (kind : Int) (o_0 : Int) (o_1 : Option Addr) (o_1L : Nat) (o_1C : Nat) (h : Hp)  (K : Value → Hp → Prop) : Prop :=
  sx_2 Tryz.prog F 56 (cp [] (bodyOf Tryz.f22)) (ap [] model_ValidOp_an) [(0, .int .i64 kind), (1, .agg #[.int .i64 o_0, .slice o_1 o_1L o_1C])] h (model_ValidOp_K0  K)
def model_ValidOp_b1 (o : Option Addr) (l : Option Addr) (lL : Nat) (lC : Nat) (h : Hp)  (K : Value → Hp → Prop) : Prop :=
  sx_1 Tryz.prog F 56 (cp [1, 1, 1] (bodyOf Tryz.f22)) (ap [1, 1, 1] model_ValidOp_an) [(3, .pointer o), (5, .slice l lL lC)] h (model_ValidOp_K0  K)
theorem model_ValidOp_b0_eq (kind : Int) (o_0 : Int) (o_1 : Option Addr) (o_1L : Nat) (o_1C : Nat) (h : Hp)  (K : Value → Hp → Prop) : model_ValidOp_b0 kind o_0 o_1 o_1L o_1C h  K = (
  New h (.cells #[.int .i64 o_0, .slice o_1 o_1L o_1C] 36) fun b1 h1 =>
  HCalls Tryz.prog 20 #[.int .i64 kind] h1 fun v1 h2 => ∃ (r1 : Option Addr) (rL1 rC1 : Nat), v1 = .slice r1 rL1 rC1 ∧
  ∃ n1 : Int, cell h2 ⟨b1, 0, none⟩ = some (.int .i64 n1) ∧
  cond (decide (n1 < 1))
  (K (.bool false) h2)
  (∃ n2 : Int, cell h2 ⟨b1, 0, none⟩ = some (.int .i64 n2) ∧
  cond (decide ((rL1 : Int) < n2))
  (K (.bool false) h2)
  (model_ValidOp_b1 (some ⟨b1, 0, none⟩) r1 rL1 rC1 h2  K))) := by kernel_rfl
theorem model_ValidOp_b1_eq (o : Option Addr) (l : Option Addr) (lL : Nat) (lC : Nat) (h : Hp)  (K : Value → Hp → Prop) : model_ValidOp_b1 o l lL lC h  K = (
  NN o fun a1 =>
  ∃ n3 : Int, cell h a1 = some (.int .i64 n3) ∧
  InR (n3 - 1) ∧
  (0 ≤ n3 - 1 ∧ n3 - 1 < (lL : Int)) ∧
  NN l fun a2 =>
  ∃ s1 : ByteArray, ∃ n4 : Int, ∃ b2 : Bool, cell h (a2.add (Int.toNat (n3 - 1) * 3)) = some (.string s1) ∧
  cell h ((a2.add (Int.toNat (n3 - 1) * 3)).add 1) = some (.int .i64 n4) ∧
  cell h ((a2.add (Int.toNat (n3 - 1) * 3)).add 2) = some (.bool b2) ∧
  New h (.cells #[.string (⟨#[]⟩ : ByteArray), .int .i64 0, .bool false] 82) fun b3 h3 =>
  Wr h3 ⟨b3, 0, none⟩ (.string s1) fun h4 =>
  Wr h4 ((⟨b3, 0, none⟩ : Addr).add 1) (.int .i64 n4) fun h5 =>
  Wr h5 ((⟨b3, 0, none⟩ : Addr).add 2) (.bool b2) fun h6 =>
  ∃ n5 : Int, cell h6 ((⟨b3, 0, none⟩ : Addr).add 1) = some (.int .i64 n5) ∧
  cond (decide (n5 < 0))
  (NN o fun a3 =>
  ∃ (a4 : Option Addr) (L1 C1 : Nat), cell h6 (a3.add 1) = some (.slice a4 L1 C1) ∧
  cond (decide ((1 : Int) ≤ (L1 : Int)))
  (NN o fun a5 =>
  ∃ (a6 : Option Addr) (L2 C2 : Nat), cell h6 (a5.add 1) = some (.slice a6 L2 C2) ∧
  cond (decide ((L2 : Int) ≤ 64))
  (NN o fun a7 =>
  ∃ (a8 : Option Addr) (L3 C3 : Nat), cell h6 (a7.add 1) = some (.slice a8 L3 C3) ∧
  HCalls Tryz.prog 34 #[.slice a8 L3 C3, .func (.func 37) #[] #[]] h6 fun v2 h7 => ∃ r2 : Bool, v2 = .bool r2 ∧
  K (.bool (!r2)) h7)
  (K (.bool false) h6))
  (K (.bool false) h6))
  (NN o fun a9 =>
  ∃ (a10 : Option Addr) (L4 C4 : Nat), cell h6 (a9.add 1) = some (.slice a10 L4 C4) ∧
  ∃ n6 : Int, cell h6 ((⟨b3, 0, none⟩ : Addr).add 1) = some (.int .i64 n6) ∧
  cond (decide ((L4 : Int) = n6))
  (NN o fun a11 =>
  ∃ (a12 : Option Addr) (L5 C5 : Nat), cell h6 (a11.add 1) = some (.slice a12 L5 C5) ∧
  HCalls Tryz.prog 34 #[.slice a12 L5 C5, .func (.func 38) #[] #[]] h6 fun v3 h8 => ∃ r3 : Bool, v3 = .bool r3 ∧
  K (.bool (!r3)) h8)
  (K (.bool false) h6))) := by kernel_rfl
theorem model_ValidOp_call {kind : Int} {o_0 : Int} {o_1 : Option Addr} {o_1L : Nat} {o_1C : Nat} {h : Hp} {K : Value → Hp → Prop} (hk : model_ValidOp_b0 kind o_0 o_1 o_1L o_1C h K) : HCalls Tryz.prog 22 #[.int .i64 kind, .agg #[.int .i64 o_0, .slice o_1 o_1L o_1C]] h K :=
  calls_of_snd model_ValidOp_an Tryz.func22 (c := bodyOf Tryz.f22) rfl Tryz.ntmps22 (Nat.le_of_ble_eq_true rfl) (snd_2 F_ok F_mixed) hk

/-! ### model_apply -/
def model_apply_an : Ann := .node none (.leaf) (.node (some [1, 5, 7]) (.leaf) (.leaf))
def model_apply_K0  (K : Value → Hp → Prop) : Exit → Env → Hp → Prop := retK Tryz.prog Tryz.f23.results.toList K
def model_apply_b0 (kind : Int) (rows : Option Addr) (rowsL : Nat) (rowsC : Nat) (o_0 : Int) (o_1 : Option Addr) (o_1L : Nat) (o_1C : Nat) (h : Hp)  (K : Value → Hp → Prop) : Prop :=
  sx_2 Tryz.prog F 49 (cp [] (bodyOf Tryz.f23)) (ap [] model_apply_an) [(0, .int .i64 kind), (1, .slice rows rowsL rowsC), (2, .agg #[.int .i64 o_0, .slice o_1 o_1L o_1C])] h (model_apply_K0  K)
def model_apply_b1 (rows : Option Addr) (rowsL : Nat) (rowsC : Nat) (o : Option Addr) (t7 : Option Addr) (h : Hp)  (K : Value → Hp → Prop) : Prop :=
  sx_1 Tryz.prog F 49 (cp [1, 1] (bodyOf Tryz.f23)) (ap [1, 1] model_apply_an) [(1, .slice rows rowsL rowsC), (5, .pointer o), (7, .pointer t7)] h (model_apply_K0  K)
theorem model_apply_b0_eq (kind : Int) (rows : Option Addr) (rowsL : Nat) (rowsC : Nat) (o_0 : Int) (o_1 : Option Addr) (o_1L : Nat) (o_1C : Nat) (h : Hp)  (K : Value → Hp → Prop) : model_apply_b0 kind rows rowsL rowsC o_0 o_1 o_1L o_1C h  K = (
  New h (.cells #[.int .i64 o_0, .slice o_1 o_1L o_1C] 36) fun b1 h1 =>
  New h1 (.cells #[.int .i64 0, .int .i64 0, .slice none 0 0] 38) fun b2 h2 =>
  cond (decide (kind = 1))
  (∃ n1 : Int, ∃ (a1 : Option Addr) (L1 C1 : Nat), cell h2 ⟨b1, 0, none⟩ = some (.int .i64 n1) ∧
  cell h2 ((⟨b1, 0, none⟩ : Addr).add 1) = some (.slice a1 L1 C1) ∧
  HCalls Tryz.prog 40 #[.slice rows rowsL rowsC, .agg #[.int .i64 n1, .slice a1 L1 C1]] h2 fun v1 h3 => ∃ (r1 : Option Addr) (rL1 rC1 : Nat), ∃ r2 : Int, ∃ r3 : Int, ∃ (r4 : Option Addr) (rL2 rC2 : Nat), v1 = .tuple #[.slice r1 rL1 rC1, .agg #[.int .i64 r2, .int .i64 r3, .slice r4 rL2 rC2]] ∧
  Wr h3 ⟨b2, 0, none⟩ (.int .i64 r2) fun h4 =>
  Wr h4 ((⟨b2, 0, none⟩ : Addr).add 1) (.int .i64 r3) fun h5 =>
  Wr h5 ((⟨b2, 0, none⟩ : Addr).add 2) (.slice r4 rL2 rC2) fun h6 =>
  ∃ r5 : Int, ∃ r6 : Int, ∃ (r7 : Option Addr) (rL3 rC3 : Nat), cell h6 ⟨b2, 0, none⟩ = some (.int .i64 r5) ∧
  cell h6 ((⟨b2, 0, none⟩ : Addr).add 1) = some (.int .i64 r6) ∧
  cell h6 ((⟨b2, 0, none⟩ : Addr).add 2) = some (.slice r7 rL3 rC3) ∧
  K (.tuple #[.slice r1 rL1 rC1, .agg #[.int .i64 r5, .int .i64 r6, .slice r7 rL3 rC3]]) h6)
  (cond (decide (kind = 2))
  (∃ n2 : Int, ∃ (a2 : Option Addr) (L2 C2 : Nat), cell h2 ⟨b1, 0, none⟩ = some (.int .i64 n2) ∧
  cell h2 ((⟨b1, 0, none⟩ : Addr).add 1) = some (.slice a2 L2 C2) ∧
  HCalls Tryz.prog 41 #[.slice rows rowsL rowsC, .agg #[.int .i64 n2, .slice a2 L2 C2]] h2 fun v2 h7 => ∃ (r8 : Option Addr) (rL4 rC4 : Nat), ∃ r9 : Int, ∃ r10 : Int, ∃ (r11 : Option Addr) (rL5 rC5 : Nat), v2 = .tuple #[.slice r8 rL4 rC4, .agg #[.int .i64 r9, .int .i64 r10, .slice r11 rL5 rC5]] ∧
  Wr h7 ⟨b2, 0, none⟩ (.int .i64 r9) fun h8 =>
  Wr h8 ((⟨b2, 0, none⟩ : Addr).add 1) (.int .i64 r10) fun h9 =>
  Wr h9 ((⟨b2, 0, none⟩ : Addr).add 2) (.slice r11 rL5 rC5) fun h10 =>
  ∃ r12 : Int, ∃ r13 : Int, ∃ (r14 : Option Addr) (rL6 rC6 : Nat), cell h10 ⟨b2, 0, none⟩ = some (.int .i64 r12) ∧
  cell h10 ((⟨b2, 0, none⟩ : Addr).add 1) = some (.int .i64 r13) ∧
  cell h10 ((⟨b2, 0, none⟩ : Addr).add 2) = some (.slice r14 rL6 rC6) ∧
  K (.tuple #[.slice r8 rL4 rC4, .agg #[.int .i64 r12, .int .i64 r13, .slice r14 rL6 rC6]]) h10)
  (cond (decide (kind = 3))
  (∃ n3 : Int, ∃ (a3 : Option Addr) (L3 C3 : Nat), cell h2 ⟨b1, 0, none⟩ = some (.int .i64 n3) ∧
  cell h2 ((⟨b1, 0, none⟩ : Addr).add 1) = some (.slice a3 L3 C3) ∧
  HCalls Tryz.prog 42 #[.slice rows rowsL rowsC, .agg #[.int .i64 n3, .slice a3 L3 C3]] h2 fun v3 h11 => ∃ (r15 : Option Addr) (rL7 rC7 : Nat), ∃ r16 : Int, ∃ r17 : Int, ∃ (r18 : Option Addr) (rL8 rC8 : Nat), v3 = .tuple #[.slice r15 rL7 rC7, .agg #[.int .i64 r16, .int .i64 r17, .slice r18 rL8 rC8]] ∧
  Wr h11 ⟨b2, 0, none⟩ (.int .i64 r16) fun h12 =>
  Wr h12 ((⟨b2, 0, none⟩ : Addr).add 1) (.int .i64 r17) fun h13 =>
  Wr h13 ((⟨b2, 0, none⟩ : Addr).add 2) (.slice r18 rL8 rC8) fun h14 =>
  ∃ r19 : Int, ∃ r20 : Int, ∃ (r21 : Option Addr) (rL9 rC9 : Nat), cell h14 ⟨b2, 0, none⟩ = some (.int .i64 r19) ∧
  cell h14 ((⟨b2, 0, none⟩ : Addr).add 1) = some (.int .i64 r20) ∧
  cell h14 ((⟨b2, 0, none⟩ : Addr).add 2) = some (.slice r21 rL9 rC9) ∧
  K (.tuple #[.slice r15 rL7 rC7, .agg #[.int .i64 r19, .int .i64 r20, .slice r21 rL9 rC9]]) h14)
  (cond (decide (kind = 4))
  (∃ n4 : Int, ∃ (a4 : Option Addr) (L4 C4 : Nat), cell h2 ⟨b1, 0, none⟩ = some (.int .i64 n4) ∧
  cell h2 ((⟨b1, 0, none⟩ : Addr).add 1) = some (.slice a4 L4 C4) ∧
  HCalls Tryz.prog 43 #[.slice rows rowsL rowsC, .agg #[.int .i64 n4, .slice a4 L4 C4]] h2 fun v4 h15 => ∃ (r22 : Option Addr) (rL10 rC10 : Nat), ∃ r23 : Int, ∃ r24 : Int, ∃ (r25 : Option Addr) (rL11 rC11 : Nat), v4 = .tuple #[.slice r22 rL10 rC10, .agg #[.int .i64 r23, .int .i64 r24, .slice r25 rL11 rC11]] ∧
  Wr h15 ⟨b2, 0, none⟩ (.int .i64 r23) fun h16 =>
  Wr h16 ((⟨b2, 0, none⟩ : Addr).add 1) (.int .i64 r24) fun h17 =>
  Wr h17 ((⟨b2, 0, none⟩ : Addr).add 2) (.slice r25 rL11 rC11) fun h18 =>
  ∃ r26 : Int, ∃ r27 : Int, ∃ (r28 : Option Addr) (rL12 rC12 : Nat), cell h18 ⟨b2, 0, none⟩ = some (.int .i64 r26) ∧
  cell h18 ((⟨b2, 0, none⟩ : Addr).add 1) = some (.int .i64 r27) ∧
  cell h18 ((⟨b2, 0, none⟩ : Addr).add 2) = some (.slice r28 rL12 rC12) ∧
  K (.tuple #[.slice r22 rL10 rC10, .agg #[.int .i64 r26, .int .i64 r27, .slice r28 rL12 rC12]]) h18)
  (cond (decide (kind = 5))
  (∃ n5 : Int, ∃ (a5 : Option Addr) (L5 C5 : Nat), cell h2 ⟨b1, 0, none⟩ = some (.int .i64 n5) ∧
  cell h2 ((⟨b1, 0, none⟩ : Addr).add 1) = some (.slice a5 L5 C5) ∧
  HCalls Tryz.prog 44 #[.slice rows rowsL rowsC, .agg #[.int .i64 n5, .slice a5 L5 C5]] h2 fun v5 h19 => ∃ (r29 : Option Addr) (rL13 rC13 : Nat), ∃ r30 : Int, ∃ r31 : Int, ∃ (r32 : Option Addr) (rL14 rC14 : Nat), v5 = .tuple #[.slice r29 rL13 rC13, .agg #[.int .i64 r30, .int .i64 r31, .slice r32 rL14 rC14]] ∧
  Wr h19 ⟨b2, 0, none⟩ (.int .i64 r30) fun h20 =>
  Wr h20 ((⟨b2, 0, none⟩ : Addr).add 1) (.int .i64 r31) fun h21 =>
  Wr h21 ((⟨b2, 0, none⟩ : Addr).add 2) (.slice r32 rL14 rC14) fun h22 =>
  ∃ r33 : Int, ∃ r34 : Int, ∃ (r35 : Option Addr) (rL15 rC15 : Nat), cell h22 ⟨b2, 0, none⟩ = some (.int .i64 r33) ∧
  cell h22 ((⟨b2, 0, none⟩ : Addr).add 1) = some (.int .i64 r34) ∧
  cell h22 ((⟨b2, 0, none⟩ : Addr).add 2) = some (.slice r35 rL15 rC15) ∧
  K (.tuple #[.slice r29 rL13 rC13, .agg #[.int .i64 r33, .int .i64 r34, .slice r35 rL15 rC15]]) h22)
  (model_apply_b1 rows rowsL rowsC (some ⟨b1, 0, none⟩) (some ⟨b2, 0, none⟩) h2  K)))))) := by kernel_rfl
theorem model_apply_call {kind : Int} {rows : Option Addr} {rowsL : Nat} {rowsC : Nat} {o_0 : Int} {o_1 : Option Addr} {o_1L : Nat} {o_1C : Nat} {h : Hp} {K : Value → Hp → Prop} (hk : model_apply_b0 kind rows rowsL rowsC o_0 o_1 o_1L o_1C h K) : HCalls Tryz.prog 23 #[.int .i64 kind, .slice rows rowsL rowsC, .agg #[.int .i64 o_0, .slice o_1 o_1L o_1C]] h K :=
  calls_of_snd model_apply_an Tryz.func23 (c := bodyOf Tryz.f23) rfl Tryz.ntmps23 (Nat.le_of_ble_eq_true rfl) (snd_2 F_ok F_mixed) hk

/-! ### model_copied -/
def model_copied_an : Ann := .node none (.leaf) (.node none (.leaf) (.node (some [3]) (.node none (.leaf) (.loop [6, 7] [(3, .slice), (8, .int .i64)] (.node none (.leaf) (.node none (.leaf) (.node (some [3, 6, 7, 8]) (.leaf) (.leaf)))))) (.leaf)))
def model_copied_K0  (K : Value → Hp → Prop) : Exit → Env → Hp → Prop := retK Tryz.prog Tryz.f24.results.toList K
def model_copied_K1  (K : Value → Hp → Prop) : Exit → Env → Hp → Prop := thenE (fun env h => sx_2 Tryz.prog F 19 (cp [1, 1, 1] (bodyOf Tryz.f24)) (ap [1, 1, 1] model_copied_an) (rs [3] env) h (model_copied_K0  K)) (model_copied_K0  K)
def model_copied_K2  (K : Value → Hp → Prop) : Exit → Env → Hp → Prop := blockE 0 (model_copied_K1  K)
def model_copied_K3 (nx0 : (Option Addr × Nat × Nat) × Int × Unit → Hp → Prop) (K : Value → Hp → Prop) : Exit → Env → Hp → Prop := thenE (fun env h => getV [(3, .slice), (8, .int .i64)] env fun s => nx0 s h) (model_copied_K2  K)
def model_copied_b0 (rows : Option Addr) (rowsL : Nat) (rowsC : Nat) (h : Hp)  (K : Value → Hp → Prop) : Prop :=
  sx_3 Tryz.prog F 19 (cp [] (bodyOf Tryz.f24)) (ap [] model_copied_an) [(0, .slice rows rowsL rowsC)] h (model_copied_K0  K)
def model_copied_b1 (out : Option Addr) (outL : Nat) (outC : Nat) (t8 : Int) (t6 : Option Addr) (t6L : Nat) (t6C : Nat) (t7 : Int) (h : Hp) (nx0 : (Option Addr × Nat × Nat) × Int × Unit → Hp → Prop) (K : Value → Hp → Prop) : Prop :=
  sx_2 Tryz.prog F 19 (cp [1, 1, 0, 1, 2, 2] (bodyOf Tryz.f24)) (ap [1, 1, 0, 1, 2] model_copied_an) [(3, .slice out outL outC), (8, .int .i64 t8), (6, .slice t6 t6L t6C), (7, .int .i64 t7)] h (model_copied_K3 nx0 K)
def model_copied_b2 (out : Option Addr) (outL : Nat) (outC : Nat) (t6 : Option Addr) (t6L : Nat) (t6C : Nat) (t7 : Int) (t8 : Int) (h : Hp) (nx0 : (Option Addr × Nat × Nat) × Int × Unit → Hp → Prop) (K : Value → Hp → Prop) : Prop :=
  sx_1 Tryz.prog F 19 (cp [1, 1, 0, 1, 2, 2, 1, 1, 1] (bodyOf Tryz.f24)) (ap [1, 1, 0, 1, 2, 1, 1, 1] model_copied_an) [(3, .slice out outL outC), (6, .slice t6 t6L t6C), (7, .int .i64 t7), (8, .int .i64 t8)] h (model_copied_K3 nx0 K)
def model_copied_b3 (out : Option Addr) (outL : Nat) (outC : Nat) (h : Hp)  (K : Value → Hp → Prop) : Prop :=
  sx_2 Tryz.prog F 19 (cp [1, 1, 1] (bodyOf Tryz.f24)) (ap [1, 1, 1] model_copied_an) [(3, .slice out outL outC)] h (model_copied_K0  K)
theorem model_copied_b0_eq (rows : Option Addr) (rowsL : Nat) (rowsC : Nat) (h : Hp)  (K : Value → Hp → Prop) : model_copied_b0 rows rowsL rowsC h  K = (
  LoopVC (((none, 0, 0), 0, ()) : (Option Addr × Nat × Nat) × Int × Unit) h (fun (nx0 : (Option Addr × Nat × Nat) × Int × Unit → Hp → Prop) (s1 : (Option Addr × Nat × Nat) × Int × Unit) h1 => model_copied_b1 s1.1.1 s1.1.2.1 s1.1.2.2 s1.2.1 rows rowsL rowsC (rowsL : Int) h1 nx0 K)) := by kernel_rfl
theorem model_copied_b1_eq (out : Option Addr) (outL : Nat) (outC : Nat) (t8 : Int) (t6 : Option Addr) (t6L : Nat) (t6C : Nat) (t7 : Int) (h : Hp) (nx0 : (Option Addr × Nat × Nat) × Int × Unit → Hp → Prop) (K : Value → Hp → Prop) : model_copied_b1 out outL outC t8 t6 t6L t6C t7 h nx0 K = (
  cond (decide (t8 < t7))
  ((0 ≤ t8 ∧ t8 < (t6L : Int)) ∧
  NN t6 fun a1 =>
  ∃ (a2 : Option Addr) (L1 C1 : Nat), cell h (a1.add (Int.toNat t8 * 1)) = some (.slice a2 L1 C1) ∧
  HCalls Tryz.prog 46 #[.slice a2 L1 C1] h fun v1 h2 => ∃ (r1 : Option Addr) (rL1 rC1 : Nat), v1 = .slice r1 rL1 rC1 ∧
  New h2 (.cells #[.slice r1 rL1 rC1] 34) fun b1 h3 =>
  appendV Tryz.prog 29 29 (.slice out outL outC) (.slice (some ⟨b1, 0, none⟩) 1 1) h3 (slK fun a3 l1 c1 h4 =>
  model_copied_b2 a3 l1 c1 t6 t6L t6C t7 t8 h4 nx0 K))
  (model_copied_b3 out outL outC h  K)) := by kernel_rfl
theorem model_copied_b2_eq (out : Option Addr) (outL : Nat) (outC : Nat) (t6 : Option Addr) (t6L : Nat) (t6C : Nat) (t7 : Int) (t8 : Int) (h : Hp) (nx0 : (Option Addr × Nat × Nat) × Int × Unit → Hp → Prop) (K : Value → Hp → Prop) : model_copied_b2 out outL outC t6 t6L t6C t7 t8 h nx0 K = (
  InR (t8 + 1) ∧
  nx0 ((out, outL, outC), t8 + 1, ()) h) := by kernel_rfl
theorem model_copied_b3_eq (out : Option Addr) (outL : Nat) (outC : Nat) (h : Hp)  (K : Value → Hp → Prop) : model_copied_b3 out outL outC h  K = (
  K (.slice out outL outC) h) := by kernel_rfl
theorem model_copied_call {rows : Option Addr} {rowsL : Nat} {rowsC : Nat} {h : Hp} {K : Value → Hp → Prop} (hk : model_copied_b0 rows rowsL rowsC h K) : HCalls Tryz.prog 24 #[.slice rows rowsL rowsC] h K :=
  calls_of_snd model_copied_an Tryz.func24 (c := bodyOf Tryz.f24) rfl Tryz.ntmps24 (Nat.le_of_ble_eq_true rfl) (snd_3 F_ok F_mixed) hk

/-! ### rangetree_Tree_put -/
def rangetree_Tree_put_an : Ann := .node none (.plan (.qu 0 (.qu 1 (.qu 2 (.qu 3 (.qu 4 (.qu 5 (.wo 6 (.wo 7 (.wo 8 (.qu 9 (.qu 10 (.wo 11 .fin .no))) .no) .no) .no)))))))) (.leaf)
def rangetree_Tree_put_K0  (K : Value → Hp → Prop) : Exit → Env → Hp → Prop := retK Tryz.prog Tryz.f25.results.toList K
def rangetree_Tree_put_b0 (t : Option Addr) (l : Option Addr) (lL : Nat) (lC : Nat) (h : Hp)  (K : Value → Hp → Prop) : Prop :=
  sx_1 Tryz.prog F 33 (cp [] (bodyOf Tryz.f25)) (ap [] rangetree_Tree_put_an) [(0, .pointer t), (1, .slice l lL lC)] h (rangetree_Tree_put_K0  K)
theorem rangetree_Tree_put_b0_eq (t : Option Addr) (l : Option Addr) (lL : Nat) (lC : Nat) (h : Hp)  (K : Value → Hp → Prop) : rangetree_Tree_put_b0 t l lL lC h  K = (
  NN t fun a1 =>
  ∃ (a2 : Option Addr) (L1 C1 : Nat), cell h (a1.add 1) = some (.slice a2 L1 C1) ∧
  HCalls Tryz.prog 47 #[.slice l lL lC] h fun v1 h1 => ∃ r1 : Option Addr, v1 = .pointer r1 ∧
  (∃ (a3 : Option Addr) (L2 C2 : Nat), cell h1 (a1.add 1) = some (.slice a3 L2 C2) ∧
  (.slice a3 L2 C2 : Value) = .slice a2 L1 C1) ∧
  New h1 (.cells #[.pointer r1] 71) fun b1 h2 =>
  (∃ (a4 : Option Addr) (L3 C3 : Nat), cell h2 (a1.add 1) = some (.slice a4 L3 C3) ∧
  (.slice a4 L3 C3 : Value) = .slice a2 L1 C1) ∧
  appendV Tryz.prog 56 56 (.slice a2 L1 C1) (.slice (some ⟨b1, 0, none⟩) 1 1) h2 (slK fun a5 l1 c1 h3 =>
  NN t fun a6 =>
  Wr h3 (a6.add 1) (.slice a5 l1 c1) fun h4 =>
  NN t fun a7 =>
  ∃ n1 : Int, cell h4 (a7.add 3) = some (.int .i64 n1) ∧
  InR (n1 + (lL : Int)) ∧
  NN t fun a8 =>
  Wr h4 (a8.add 3) (.int .i64 (n1 + (lL : Int))) fun h5 =>
  NN t fun a9 =>
  ∃ n2 : Int, cell h5 (a9.add 4) = some (.int .i64 n2) ∧
  InR (n2 + (lL : Int)) ∧
  NN t fun a10 =>
  Wr h5 (a10.add 4) (.int .i64 (n2 + (lL : Int))) fun h6 =>
  K (.tuple #[]) h6)) := by kernel_rfl
theorem rangetree_Tree_put_call {t : Option Addr} {l : Option Addr} {lL : Nat} {lC : Nat} {h : Hp} {K : Value → Hp → Prop} (hk : rangetree_Tree_put_b0 t l lL lC h K) : HCalls Tryz.prog 25 #[.pointer t, .slice l lL lC] h K :=
  calls_of_snd rangetree_Tree_put_an Tryz.func25 (c := bodyOf Tryz.f25) rfl Tryz.ntmps25 (Nat.le_of_ble_eq_true rfl) (snd_1 F_ok F_mixed) hk

/-! ### rangetree_Tree_ask -/
def rangetree_Tree_ask_an : Ann := .node none (.leaf) (.node (some [0, 1, 2, 3, 4, 10, 11]) (.node none (.leaf) (.loop [0, 1, 2, 3, 4, 21, 22] [(10, .int .i64), (11, .int .i64), (23, .int .i64)] (.node none (.leaf) (.node none (.leaf) (.node (some [0, 1, 2, 3, 4, 10, 11, 21, 22, 23]) (.leaf) (.leaf)))))) (.node (some [10, 11]) (.node none (.leaf) (.loop [1, 2, 3, 4, 46, 47] [(10, .int .i64), (11, .int .i64), (48, .int .i64)] (.node none (.leaf) (.node none (.leaf) (.node (some [1, 2, 3, 4, 10, 11, 46, 47, 48]) (.leaf) (.leaf)))))) (.leaf)))
def rangetree_Tree_ask_K0  (K : Value → Hp → Prop) : Exit → Env → Hp → Prop := retK Tryz.prog Tryz.f26.results.toList K
def rangetree_Tree_ask_K1  (K : Value → Hp → Prop) : Exit → Env → Hp → Prop := thenE (fun env h => sx_3 Tryz.prog F 83 (cp [1, 1] (bodyOf Tryz.f26)) (ap [1, 1] rangetree_Tree_ask_an) (rs [0, 1, 2, 3, 4, 10, 11] env) h (rangetree_Tree_ask_K0  K)) (rangetree_Tree_ask_K0  K)
def rangetree_Tree_ask_K2  (K : Value → Hp → Prop) : Exit → Env → Hp → Prop := blockE 0 (rangetree_Tree_ask_K1  K)
def rangetree_Tree_ask_K3 (nx0 : Int × Int × Int × Unit → Hp → Prop) (K : Value → Hp → Prop) : Exit → Env → Hp → Prop := thenE (fun env h => getV [(10, .int .i64), (11, .int .i64), (23, .int .i64)] env fun s => nx0 s h) (rangetree_Tree_ask_K2  K)
def rangetree_Tree_ask_K4  (K : Value → Hp → Prop) : Exit → Env → Hp → Prop := thenE (fun env h => sx_2 Tryz.prog F 83 (cp [1, 1, 1] (bodyOf Tryz.f26)) (ap [1, 1, 1] rangetree_Tree_ask_an) (rs [10, 11] env) h (rangetree_Tree_ask_K0  K)) (rangetree_Tree_ask_K0  K)
def rangetree_Tree_ask_K5  (K : Value → Hp → Prop) : Exit → Env → Hp → Prop := blockE 2 (rangetree_Tree_ask_K4  K)
def rangetree_Tree_ask_K6 (nx0 : Int × Int × Int × Unit → Hp → Prop) (K : Value → Hp → Prop) : Exit → Env → Hp → Prop := thenE (fun env h => getV [(10, .int .i64), (11, .int .i64), (48, .int .i64)] env fun s => nx0 s h) (rangetree_Tree_ask_K5  K)
def rangetree_Tree_ask_b0 (t : Option Addr) (x1 : Int) (x2 : Int) (y1 : Int) (y2 : Int) (h : Hp)  (K : Value → Hp → Prop) : Prop :=
  sx_4 Tryz.prog F 83 (cp [] (bodyOf Tryz.f26)) (ap [] rangetree_Tree_ask_an) [(0, .pointer t), (1, .int .i64 x1), (2, .int .i64 x2), (3, .int .i64 y1), (4, .int .i64 y2)] h (rangetree_Tree_ask_K0  K)
def rangetree_Tree_ask_b1 (count : Int) (sum : Int) (t23 : Int) (t : Option Addr) (x1 : Int) (x2 : Int) (y1 : Int) (y2 : Int) (t21 : Option Addr) (t21L : Nat) (t21C : Nat) (t22 : Int) (h : Hp) (nx0 : Int × Int × Int × Unit → Hp → Prop) (K : Value → Hp → Prop) : Prop :=
  sx_3 Tryz.prog F 83 (cp [1, 0, 1, 2, 2] (bodyOf Tryz.f26)) (ap [1, 0, 1, 2] rangetree_Tree_ask_an) [(10, .int .i64 count), (11, .int .i64 sum), (23, .int .i64 t23), (0, .pointer t), (1, .int .i64 x1), (2, .int .i64 x2), (3, .int .i64 y1), (4, .int .i64 y2), (21, .slice t21 t21L t21C), (22, .int .i64 t22)] h (rangetree_Tree_ask_K3 nx0 K)
def rangetree_Tree_ask_b2 (t : Option Addr) (x1 : Int) (x2 : Int) (y1 : Int) (y2 : Int) (count : Int) (sum : Int) (t21 : Option Addr) (t21L : Nat) (t21C : Nat) (t22 : Int) (t23 : Int) (h : Hp) (nx0 : Int × Int × Int × Unit → Hp → Prop) (K : Value → Hp → Prop) : Prop :=
  sx_2 Tryz.prog F 83 (cp [1, 0, 1, 2, 2, 1, 1, 1] (bodyOf Tryz.f26)) (ap [1, 0, 1, 2, 1, 1, 1] rangetree_Tree_ask_an) [(0, .pointer t), (1, .int .i64 x1), (2, .int .i64 x2), (3, .int .i64 y1), (4, .int .i64 y2), (10, .int .i64 count), (11, .int .i64 sum), (21, .slice t21 t21L t21C), (22, .int .i64 t22), (23, .int .i64 t23)] h (rangetree_Tree_ask_K3 nx0 K)
def rangetree_Tree_ask_b3 (t : Option Addr) (x1 : Int) (x2 : Int) (y1 : Int) (y2 : Int) (count : Int) (sum : Int) (h : Hp)  (K : Value → Hp → Prop) : Prop :=
  sx_3 Tryz.prog F 83 (cp [1, 1] (bodyOf Tryz.f26)) (ap [1, 1] rangetree_Tree_ask_an) [(0, .pointer t), (1, .int .i64 x1), (2, .int .i64 x2), (3, .int .i64 y1), (4, .int .i64 y2), (10, .int .i64 count), (11, .int .i64 sum)] h (rangetree_Tree_ask_K0  K)
def rangetree_Tree_ask_b4 (count : Int) (sum : Int) (t48 : Int) (x1 : Int) (x2 : Int) (y1 : Int) (y2 : Int) (t46 : Option Addr) (t46L : Nat) (t46C : Nat) (t47 : Int) (h : Hp) (nx0 : Int × Int × Int × Unit → Hp → Prop) (K : Value → Hp → Prop) : Prop :=
  sx_2 Tryz.prog F 83 (cp [1, 1, 0, 1, 2, 2] (bodyOf Tryz.f26)) (ap [1, 1, 0, 1, 2] rangetree_Tree_ask_an) [(10, .int .i64 count), (11, .int .i64 sum), (48, .int .i64 t48), (1, .int .i64 x1), (2, .int .i64 x2), (3, .int .i64 y1), (4, .int .i64 y2), (46, .slice t46 t46L t46C), (47, .int .i64 t47)] h (rangetree_Tree_ask_K6 nx0 K)
def rangetree_Tree_ask_b5 (x1 : Int) (x2 : Int) (y1 : Int) (y2 : Int) (count : Int) (sum : Int) (t46 : Option Addr) (t46L : Nat) (t46C : Nat) (t47 : Int) (t48 : Int) (h : Hp) (nx0 : Int × Int × Int × Unit → Hp → Prop) (K : Value → Hp → Prop) : Prop :=
  sx_1 Tryz.prog F 83 (cp [1, 1, 0, 1, 2, 2, 1, 1, 1] (bodyOf Tryz.f26)) (ap [1, 1, 0, 1, 2, 1, 1, 1] rangetree_Tree_ask_an) [(1, .int .i64 x1), (2, .int .i64 x2), (3, .int .i64 y1), (4, .int .i64 y2), (10, .int .i64 count), (11, .int .i64 sum), (46, .slice t46 t46L t46C), (47, .int .i64 t47), (48, .int .i64 t48)] h (rangetree_Tree_ask_K6 nx0 K)
def rangetree_Tree_ask_b6 (count : Int) (sum : Int) (h : Hp)  (K : Value → Hp → Prop) : Prop :=
  sx_2 Tryz.prog F 83 (cp [1, 1, 1] (bodyOf Tryz.f26)) (ap [1, 1, 1] rangetree_Tree_ask_an) [(10, .int .i64 count), (11, .int .i64 sum)] h (rangetree_Tree_ask_K0  K)
theorem rangetree_Tree_ask_b0_eq (t : Option Addr) (x1 : Int) (x2 : Int) (y1 : Int) (y2 : Int) (h : Hp)  (K : Value → Hp → Prop) : rangetree_Tree_ask_b0 t x1 x2 y1 y2 h  K = (
  NN t fun a1 =>
  ∃ (a2 : Option Addr) (L1 C1 : Nat), cell h (a1.add 1) = some (.slice a2 L1 C1) ∧
  LoopVC ((0, 0, 0, ()) : Int × Int × Int × Unit) h (fun (nx0 : Int × Int × Int × Unit → Hp → Prop) (s1 : Int × Int × Int × Unit) h1 => rangetree_Tree_ask_b1 s1.1 s1.2.1 s1.2.2.1 t x1 x2 y1 y2 a2 L1 C1 (L1 : Int) h1 nx0 K)) := by kernel_rfl
theorem rangetree_Tree_ask_b1_eq (count : Int) (sum : Int) (t23 : Int) (t : Option Addr) (x1 : Int) (x2 : Int) (y1 : Int) (y2 : Int) (t21 : Option Addr) (t21L : Nat) (t21C : Nat) (t22 : Int) (h : Hp) (nx0 : Int × Int × Int × Unit → Hp → Prop) (K : Value → Hp → Prop) : rangetree_Tree_ask_b1 count sum t23 t x1 x2 y1 y2 t21 t21L t21C t22 h nx0 K = (
  cond (decide (t23 < t22))
  ((0 ≤ t23 ∧ t23 < (t21L : Int)) ∧
  NN t21 fun a3 =>
  ∃ p1 : Option Addr, cell h (a3.add (Int.toNat t23 * 1)) = some (.pointer p1) ∧
  HCalls Tryz.prog 48 #[.pointer p1, .int .i64 x1, .int .i64 x2, .int .i64 y1, .int .i64 y2] h fun v1 h2 => ∃ r1 : Int, ∃ r2 : Int, v1 = .tuple #[.int .i64 r1, .int .i64 r2] ∧
  InR (count + r1) ∧
  InR (sum + r2) ∧
  rangetree_Tree_ask_b2 t x1 x2 y1 y2 (count + r1) (sum + r2) t21 t21L t21C t22 t23 h2 nx0 K)
  (rangetree_Tree_ask_b3 t x1 x2 y1 y2 count sum h  K)) := by kernel_rfl
theorem rangetree_Tree_ask_b2_eq (t : Option Addr) (x1 : Int) (x2 : Int) (y1 : Int) (y2 : Int) (count : Int) (sum : Int) (t21 : Option Addr) (t21L : Nat) (t21C : Nat) (t22 : Int) (t23 : Int) (h : Hp) (nx0 : Int × Int × Int × Unit → Hp → Prop) (K : Value → Hp → Prop) : rangetree_Tree_ask_b2 t x1 x2 y1 y2 count sum t21 t21L t21C t22 t23 h nx0 K = (
  InR (t23 + 1) ∧
  nx0 (count, sum, t23 + 1, ()) h) := by kernel_rfl
theorem rangetree_Tree_ask_b3_eq (t : Option Addr) (x1 : Int) (x2 : Int) (y1 : Int) (y2 : Int) (count : Int) (sum : Int) (h : Hp)  (K : Value → Hp → Prop) : rangetree_Tree_ask_b3 t x1 x2 y1 y2 count sum h  K = (
  NN t fun a4 =>
  ∃ (a5 : Option Addr) (L2 C2 : Nat), cell h (a4.add 2) = some (.slice a5 L2 C2) ∧
  LoopVC ((count, sum, 0, ()) : Int × Int × Int × Unit) h (fun (nx0 : Int × Int × Int × Unit → Hp → Prop) (s2 : Int × Int × Int × Unit) h3 => rangetree_Tree_ask_b4 s2.1 s2.2.1 s2.2.2.1 x1 x2 y1 y2 a5 L2 C2 (L2 : Int) h3 nx0 K)) := by kernel_rfl
theorem rangetree_Tree_ask_b4_eq (count : Int) (sum : Int) (t48 : Int) (x1 : Int) (x2 : Int) (y1 : Int) (y2 : Int) (t46 : Option Addr) (t46L : Nat) (t46C : Nat) (t47 : Int) (h : Hp) (nx0 : Int × Int × Int × Unit → Hp → Prop) (K : Value → Hp → Prop) : rangetree_Tree_ask_b4 count sum t48 x1 x2 y1 y2 t46 t46L t46C t47 h nx0 K = (
  cond (decide (t48 < t47))
  ((0 ≤ t48 ∧ t48 < (t46L : Int)) ∧
  NN t46 fun a6 =>
  ∃ n1 : Int, ∃ n2 : Int, ∃ n3 : Int, cell h (a6.add (Int.toNat t48 * 3)) = some (.int .i64 n1) ∧
  cell h ((a6.add (Int.toNat t48 * 3)).add 1) = some (.int .i64 n2) ∧
  cell h ((a6.add (Int.toNat t48 * 3)).add 2) = some (.int .i64 n3) ∧
  New h (.cells #[.int .i64 0, .int .i64 0, .int .i64 0] 43) fun b1 h4 =>
  Wr h4 ⟨b1, 0, none⟩ (.int .i64 n1) fun h5 =>
  Wr h5 ((⟨b1, 0, none⟩ : Addr).add 1) (.int .i64 n2) fun h6 =>
  Wr h6 ((⟨b1, 0, none⟩ : Addr).add 2) (.int .i64 n3) fun h7 =>
  ∃ n4 : Int, cell h7 ⟨b1, 0, none⟩ = some (.int .i64 n4) ∧
  cond (decide (x1 ≤ n4))
  (∃ n5 : Int, cell h7 ⟨b1, 0, none⟩ = some (.int .i64 n5) ∧
  cond (decide (n5 ≤ x2))
  (∃ n6 : Int, cell h7 ((⟨b1, 0, none⟩ : Addr).add 1) = some (.int .i64 n6) ∧
  cond (decide (y1 ≤ n6))
  (∃ n7 : Int, cell h7 ((⟨b1, 0, none⟩ : Addr).add 1) = some (.int .i64 n7) ∧
  cond (decide (n7 ≤ y2))
  (InR (count - 1) ∧
  ∃ n8 : Int, cell h7 ((⟨b1, 0, none⟩ : Addr).add 2) = some (.int .i64 n8) ∧
  InR (sum - n8) ∧
  rangetree_Tree_ask_b5 x1 x2 y1 y2 (count - 1) (sum - n8) t46 t46L t46C t47 t48 h7 nx0 K)
  (rangetree_Tree_ask_b5 x1 x2 y1 y2 count sum t46 t46L t46C t47 t48 h7 nx0 K))
  (rangetree_Tree_ask_b5 x1 x2 y1 y2 count sum t46 t46L t46C t47 t48 h7 nx0 K))
  (rangetree_Tree_ask_b5 x1 x2 y1 y2 count sum t46 t46L t46C t47 t48 h7 nx0 K))
  (rangetree_Tree_ask_b5 x1 x2 y1 y2 count sum t46 t46L t46C t47 t48 h7 nx0 K))
  (rangetree_Tree_ask_b6 count sum h  K)) := by kernel_rfl
theorem rangetree_Tree_ask_b5_eq (x1 : Int) (x2 : Int) (y1 : Int) (y2 : Int) (count : Int) (sum : Int) (t46 : Option Addr) (t46L : Nat) (t46C : Nat) (t47 : Int) (t48 : Int) (h : Hp) (nx0 : Int × Int × Int × Unit → Hp → Prop) (K : Value → Hp → Prop) : rangetree_Tree_ask_b5 x1 x2 y1 y2 count sum t46 t46L t46C t47 t48 h nx0 K = (
  InR (t48 + 1) ∧
  nx0 (count, sum, t48 + 1, ()) h) := by kernel_rfl
theorem rangetree_Tree_ask_b6_eq (count : Int) (sum : Int) (h : Hp)  (K : Value → Hp → Prop) : rangetree_Tree_ask_b6 count sum h  K = (
  K (.tuple #[.int .i64 count, .int .i64 sum]) h) := by kernel_rfl
theorem rangetree_Tree_ask_call {t : Option Addr} {x1 : Int} {x2 : Int} {y1 : Int} {y2 : Int} {h : Hp} {K : Value → Hp → Prop} (hk : rangetree_Tree_ask_b0 t x1 x2 y1 y2 h K) : HCalls Tryz.prog 26 #[.pointer t, .int .i64 x1, .int .i64 x2, .int .i64 y1, .int .i64 y2] h K :=
  calls_of_snd rangetree_Tree_ask_an Tryz.func26 (c := bodyOf Tryz.f26) rfl Tryz.ntmps26 (Nat.le_of_ble_eq_true rfl) (snd_4 F_ok F_mixed) hk

end Go.Proofs.YtbfejfejahoblaaGreat
