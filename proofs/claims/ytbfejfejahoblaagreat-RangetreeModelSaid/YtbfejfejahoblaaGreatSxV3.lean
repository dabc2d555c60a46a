/- Plain statements of what each block of code of this seat asks; printed by a program, checked by Lean. -/
import Derived.Test.YtbfejfejahoblaaGreatSxV0
set_option maxRecDepth 10000
namespace Go.Proofs.YtbfejfejahoblaaGreat
open Go Go.Sx

/-! ### model_points -/
def model_points_an : Ann := .node none (.leaf) (.node (some [0, 3, 5]) (.node none (.leaf) (.node none (.leaf) (.node none (.leaf) (.node (some [0, 3, 5, 21]) (.leaf) (.node none (.node none (.leaf) (.node (some [0, 3, 5, 6, 7]) (.node none (.leaf) (.loop [0, 3, 5, 24, 25] [(6, .int .i64), (7, .int .i64), (26, .int .i64)] (.node none (.leaf) (.node none (.leaf) (.node (some [0, 3, 5, 6, 7, 24, 25, 26]) (.leaf) (.leaf)))))) (.leaf))) (.leaf)))))) (.node none (.leaf) (.node none (.node none (.leaf) (.node none (.node (some [0, 3, 5, 10]) (.leaf) (.leaf)) (.leaf))) (.leaf))))
def model_points_K0  (K : Value → Hp → Prop) : Exit → Env → Hp → Prop := retK Tryz.prog Tryz.f44.results.toList K
def model_points_K1  (K : Value → Hp → Prop) : Exit → Env → Hp → Prop := thenE (fun env h => sx_3 Tryz.prog F 131 (cp [1, 1] (bodyOf Tryz.f44)) (ap [1, 1] model_points_an) (rs [0, 3, 5] env) h (model_points_K0  K)) (model_points_K0  K)
def model_points_K2  (K : Value → Hp → Prop) : Exit → Env → Hp → Prop := blockE 0 (model_points_K1  K)
def model_points_K3  (K : Value → Hp → Prop) : Exit → Env → Hp → Prop := thenE (fun env h => sx_2 Tryz.prog F 131 (cp [1, 0, 1, 2, 1, 1, 1, 0, 1, 1] (bodyOf Tryz.f44)) (ap [1, 0, 1, 1, 1, 1, 0, 1, 1] model_points_an) (rs [0, 3, 5, 6, 7] env) h (model_points_K2  K)) (model_points_K2  K)
def model_points_K4  (K : Value → Hp → Prop) : Exit → Env → Hp → Prop := blockE 1 (model_points_K3  K)
def model_points_K5 (nx0 : Int × Int × Int × Unit → Hp → Prop) (K : Value → Hp → Prop) : Exit → Env → Hp → Prop := thenE (fun env h => getV [(6, .int .i64), (7, .int .i64), (26, .int .i64)] env fun s => nx0 s h) (model_points_K4  K)
def model_points_K6  (K : Value → Hp → Prop) : Exit → Env → Hp → Prop := thenE (fun env h => sx0 Tryz.prog F 131 (sx_2 Tryz.prog F 131) (cp [1, 1, 1, 1] (bodyOf Tryz.f44)) (ap [1, 1, 1, 1] model_points_an) env h (model_points_K0  K)) (model_points_K0  K)
def model_points_b0 (rows : Option Addr) (rowsL : Nat) (rowsC : Nat) (o_0 : Int) (o_1 : Option Addr) (o_1L : Nat) (o_1C : Nat) (h : Hp)  (K : Value → Hp → Prop) : Prop :=
  sx_4 Tryz.prog F 131 (cp [] (bodyOf Tryz.f44)) (ap [] model_points_an) [(0, .slice rows rowsL rowsC), (1, .agg #[.int .i64 o_0, .slice o_1 o_1L o_1C])] h (model_points_K0  K)
def model_points_b1 (rows : Option Addr) (rowsL : Nat) (rowsC : Nat) (o : Option Addr) (t5 : Option Addr) (t21 : Bool) (h : Hp)  (K : Value → Hp → Prop) : Prop :=
  sx_3 Tryz.prog F 131 (cp [1, 0, 1, 2, 1, 1, 1] (bodyOf Tryz.f44)) (ap [1, 0, 1, 1, 1, 1] model_points_an) [(0, .slice rows rowsL rowsC), (3, .pointer o), (5, .pointer t5), (21, .bool t21)] h (model_points_K2  K)
def model_points_b2 (count : Int) (sum : Int) (t26 : Int) (rows : Option Addr) (rowsL : Nat) (rowsC : Nat) (o : Option Addr) (t5 : Option Addr) (t24 : Option Addr) (t24L : Nat) (t24C : Nat) (t25 : Int) (h : Hp) (nx0 : Int × Int × Int × Unit → Hp → Prop) (K : Value → Hp → Prop) : Prop :=
  sx_2 Tryz.prog F 131 (cp [1, 0, 1, 2, 1, 1, 1, 0, 1, 0, 1, 2, 2] (bodyOf Tryz.f44)) (ap [1, 0, 1, 1, 1, 1, 0, 1, 0, 1, 2] model_points_an) [(6, .int .i64 count), (7, .int .i64 sum), (26, .int .i64 t26), (0, .slice rows rowsL rowsC), (3, .pointer o), (5, .pointer t5), (24, .slice t24 t24L t24C), (25, .int .i64 t25)] h (model_points_K5 nx0 K)
def model_points_b3 (rows : Option Addr) (rowsL : Nat) (rowsC : Nat) (o : Option Addr) (t5 : Option Addr) (h : Hp)  (K : Value → Hp → Prop) : Prop :=
  sx_3 Tryz.prog F 131 (cp [1, 1] (bodyOf Tryz.f44)) (ap [1, 1] model_points_an) [(0, .slice rows rowsL rowsC), (3, .pointer o), (5, .pointer t5)] h (model_points_K0  K)
def model_points_b4 (rows : Option Addr) (rowsL : Nat) (rowsC : Nat) (o : Option Addr) (t5 : Option Addr) (count : Int) (sum : Int) (t24 : Option Addr) (t24L : Nat) (t24C : Nat) (t25 : Int) (t26 : Int) (h : Hp) (nx0 : Int × Int × Int × Unit → Hp → Prop) (K : Value → Hp → Prop) : Prop :=
  sx_1 Tryz.prog F 131 (cp [1, 0, 1, 2, 1, 1, 1, 0, 1, 0, 1, 2, 2, 1, 1, 1] (bodyOf Tryz.f44)) (ap [1, 0, 1, 1, 1, 1, 0, 1, 0, 1, 2, 1, 1, 1] model_points_an) [(0, .slice rows rowsL rowsC), (3, .pointer o), (5, .pointer t5), (6, .int .i64 count), (7, .int .i64 sum), (24, .slice t24 t24L t24C), (25, .int .i64 t25), (26, .int .i64 t26)] h (model_points_K5 nx0 K)
def model_points_b5 (rows : Option Addr) (rowsL : Nat) (rowsC : Nat) (o : Option Addr) (t5 : Option Addr) (count : Int) (sum : Int) (h : Hp)  (K : Value → Hp → Prop) : Prop :=
  sx_2 Tryz.prog F 131 (cp [1, 0, 1, 2, 1, 1, 1, 0, 1, 1] (bodyOf Tryz.f44)) (ap [1, 0, 1, 1, 1, 1, 0, 1, 1] model_points_an) [(0, .slice rows rowsL rowsC), (3, .pointer o), (5, .pointer t5), (6, .int .i64 count), (7, .int .i64 sum)] h (model_points_K2  K)
def model_points_b6 (rows : Option Addr) (rowsL : Nat) (rowsC : Nat) (o : Option Addr) (t5 : Option Addr) (i : Int) (h : Hp)  (K : Value → Hp → Prop) : Prop :=
  sx_2 Tryz.prog F 131 (cp [1, 1, 1, 0, 1, 0, 1] (bodyOf Tryz.f44)) (ap [1, 1, 1, 0, 1, 0, 1] model_points_an) [(0, .slice rows rowsL rowsC), (3, .pointer o), (5, .pointer t5), (10, .int .i64 i)] h (model_points_K6  K)
theorem model_points_b0_eq (rows : Option Addr) (rowsL : Nat) (rowsC : Nat) (o_0 : Int) (o_1 : Option Addr) (o_1L : Nat) (o_1C : Nat) (h : Hp)  (K : Value → Hp → Prop) : model_points_b0 rows rowsL rowsC o_0 o_1 o_1L o_1C h  K = (
  New h (.cells #[.int .i64 o_0, .slice o_1 o_1L o_1C] 36) fun b1 h1 =>
  New h1 (.cells #[.int .i64 0, .int .i64 0, .slice none 0 0] 38) fun b2 h2 =>
  ∃ n1 : Int, cell h2 ⟨b1, 0, none⟩ = some (.int .i64 n1) ∧
  cond (decide (n1 = 5))
  (HCalls Tryz.prog 56 #[.int .i64 (rowsL : Int)] h2 fun v1 h3 => ∃ r1 : Int, ∃ r2 : Int, ∃ (r3 : Option Addr) (rL1 rC1 : Nat), v1 = .agg #[.int .i64 r1, .int .i64 r2, .slice r3 rL1 rC1] ∧
  Wr h3 ⟨b2, 0, none⟩ (.int .i64 r1) fun h4 =>
  Wr h4 ((⟨b2, 0, none⟩ : Addr).add 1) (.int .i64 r2) fun h5 =>
  Wr h5 ((⟨b2, 0, none⟩ : Addr).add 2) (.slice r3 rL1 rC1) fun h6 =>
  ∃ r4 : Int, ∃ r5 : Int, ∃ (r6 : Option Addr) (rL2 rC2 : Nat), cell h6 ⟨b2, 0, none⟩ = some (.int .i64 r4) ∧
  cell h6 ((⟨b2, 0, none⟩ : Addr).add 1) = some (.int .i64 r5) ∧
  cell h6 ((⟨b2, 0, none⟩ : Addr).add 2) = some (.slice r6 rL2 rC2) ∧
  K (.tuple #[.slice rows rowsL rowsC, .agg #[.int .i64 r4, .int .i64 r5, .slice r6 rL2 rC2]]) h6)
  (cond (decide (n1 = 3))
  (model_points_b1 rows rowsL rowsC (some ⟨b1, 0, none⟩) (some ⟨b2, 0, none⟩) (decide (n1 = 3)) h2  K)
  (model_points_b1 rows rowsL rowsC (some ⟨b1, 0, none⟩) (some ⟨b2, 0, none⟩) (decide (n1 = 4)) h2  K))) := by kernel_rfl
theorem model_points_b1_eq (rows : Option Addr) (rowsL : Nat) (rowsC : Nat) (o : Option Addr) (t5 : Option Addr) (t21 : Bool) (h : Hp)  (K : Value → Hp → Prop) : model_points_b1 rows rowsL rowsC o t5 t21 h  K = (
  cond t21
  (LoopVC ((0, 0, 0, ()) : Int × Int × Int × Unit) h (fun (nx0 : Int × Int × Int × Unit → Hp → Prop) (s1 : Int × Int × Int × Unit) h7 => model_points_b2 s1.1 s1.2.1 s1.2.2.1 rows rowsL rowsC o t5 rows rowsL rowsC (rowsL : Int) h7 nx0 K))
  (model_points_b3 rows rowsL rowsC o t5 h  K)) := by kernel_rfl
theorem model_points_b2_eq (count : Int) (sum : Int) (t26 : Int) (rows : Option Addr) (rowsL : Nat) (rowsC : Nat) (o : Option Addr) (t5 : Option Addr) (t24 : Option Addr) (t24L : Nat) (t24C : Nat) (t25 : Int) (h : Hp) (nx0 : Int × Int × Int × Unit → Hp → Prop) (K : Value → Hp → Prop) : model_points_b2 count sum t26 rows rowsL rowsC o t5 t24 t24L t24C t25 h nx0 K = (
  cond (decide (t26 < t25))
  ((0 ≤ t26 ∧ t26 < (t24L : Int)) ∧
  NN t24 fun a1 =>
  ∃ (a2 : Option Addr) (L1 C1 : Nat), cell h (a1.add (Int.toNat t26 * 1)) = some (.slice a2 L1 C1) ∧
  NN o fun a3 =>
  ∃ (a4 : Option Addr) (L2 C2 : Nat), cell h (a3.add 1) = some (.slice a4 L2 C2) ∧
  (0 ≤ (0 : Int) ∧ (0 : Int) < (L2 : Int)) ∧
  NN a4 fun a5 =>
  ∃ n2 : Int, cell h (a5.add (Int.toNat (0 : Int) * 1)) = some (.int .i64 n2) ∧
  (0 ≤ (0 : Int) ∧ (0 : Int) < (L1 : Int)) ∧
  NN a2 fun a6 =>
  ∃ n3 : Int, cell h (a6.add (Int.toNat (0 : Int) * 1)) = some (.int .i64 n3) ∧
  cond (decide (n2 ≤ n3))
  ((0 ≤ (0 : Int) ∧ (0 : Int) < (L1 : Int)) ∧
  NN a2 fun a7 =>
  ∃ n4 : Int, cell h (a7.add (Int.toNat (0 : Int) * 1)) = some (.int .i64 n4) ∧
  NN o fun a8 =>
  ∃ (a9 : Option Addr) (L3 C3 : Nat), cell h (a8.add 1) = some (.slice a9 L3 C3) ∧
  (0 ≤ (1 : Int) ∧ (1 : Int) < (L3 : Int)) ∧
  NN a9 fun a10 =>
  ∃ n5 : Int, cell h (a10.add (Int.toNat (1 : Int) * 1)) = some (.int .i64 n5) ∧
  cond (decide (n4 ≤ n5))
  (NN o fun a11 =>
  ∃ (a12 : Option Addr) (L4 C4 : Nat), cell h (a11.add 1) = some (.slice a12 L4 C4) ∧
  (0 ≤ (2 : Int) ∧ (2 : Int) < (L4 : Int)) ∧
  NN a12 fun a13 =>
  ∃ n6 : Int, cell h (a13.add (Int.toNat (2 : Int) * 1)) = some (.int .i64 n6) ∧
  (0 ≤ (1 : Int) ∧ (1 : Int) < (L1 : Int)) ∧
  NN a2 fun a14 =>
  ∃ n7 : Int, cell h (a14.add (Int.toNat (1 : Int) * 1)) = some (.int .i64 n7) ∧
  cond (decide (n6 ≤ n7))
  ((0 ≤ (1 : Int) ∧ (1 : Int) < (L1 : Int)) ∧
  NN a2 fun a15 =>
  ∃ n8 : Int, cell h (a15.add (Int.toNat (1 : Int) * 1)) = some (.int .i64 n8) ∧
  NN o fun a16 =>
  ∃ (a17 : Option Addr) (L5 C5 : Nat), cell h (a16.add 1) = some (.slice a17 L5 C5) ∧
  (0 ≤ (3 : Int) ∧ (3 : Int) < (L5 : Int)) ∧
  NN a17 fun a18 =>
  ∃ n9 : Int, cell h (a18.add (Int.toNat (3 : Int) * 1)) = some (.int .i64 n9) ∧
  cond (decide (n8 ≤ n9))
  (InR (count + 1) ∧
  (0 ≤ (2 : Int) ∧ (2 : Int) < (L1 : Int)) ∧
  NN a2 fun a19 =>
  ∃ n10 : Int, cell h (a19.add (Int.toNat (2 : Int) * 1)) = some (.int .i64 n10) ∧
  InR (sum + n10) ∧
  model_points_b4 rows rowsL rowsC o t5 (count + 1) (sum + n10) t24 t24L t24C t25 t26 h nx0 K)
  (model_points_b4 rows rowsL rowsC o t5 count sum t24 t24L t24C t25 t26 h nx0 K))
  (model_points_b4 rows rowsL rowsC o t5 count sum t24 t24L t24C t25 t26 h nx0 K))
  (model_points_b4 rows rowsL rowsC o t5 count sum t24 t24L t24C t25 t26 h nx0 K))
  (model_points_b4 rows rowsL rowsC o t5 count sum t24 t24L t24C t25 t26 h nx0 K))
  (model_points_b5 rows rowsL rowsC o t5 count sum h  K)) := by kernel_rfl
theorem model_points_b3_eq (rows : Option Addr) (rowsL : Nat) (rowsC : Nat) (o : Option Addr) (t5 : Option Addr) (h : Hp)  (K : Value → Hp → Prop) : model_points_b3 rows rowsL rowsC o t5 h  K = (
  NN o fun a20 =>
  ∃ (a21 : Option Addr) (L6 C6 : Nat), cell h (a20.add 1) = some (.slice a21 L6 C6) ∧
  (0 ≤ (0 : Int) ∧ (0 : Int) ≤ (2 : Int) ∧ (2 : Int) ≤ (C6 : Int)) ∧
  HCalls Tryz.prog 58 #[.slice rows rowsL rowsC, .slice (subAddr a21 C6 (Int.toNat (0 : Int)) 1) (Int.toNat (2 : Int) - Int.toNat (0 : Int)) (C6 - Int.toNat (0 : Int))] h fun v2 h8 => ∃ r7 : Int, ∃ r8 : Bool, v2 = .tuple #[.int .i64 r7, .bool r8] ∧
  NN o fun a22 =>
  ∃ n11 : Int, cell h8 a22 = some (.int .i64 n11) ∧
  cond (decide (n11 = 1))
  (cond r8
  (HCalls Tryz.prog 57 #[.int .i64 15] h8 fun v3 h9 => ∃ r9 : Int, ∃ r10 : Int, ∃ (r11 : Option Addr) (rL3 rC3 : Nat), v3 = .agg #[.int .i64 r9, .int .i64 r10, .slice r11 rL3 rC3] ∧
  NN t5 fun a23 =>
  Wr h9 a23 (.int .i64 r9) fun h10 =>
  Wr h10 (a23.add 1) (.int .i64 r10) fun h11 =>
  Wr h11 (a23.add 2) (.slice r11 rL3 rC3) fun h12 =>
  NN t5 fun a24 =>
  ∃ r12 : Int, ∃ r13 : Int, ∃ (r14 : Option Addr) (rL4 rC4 : Nat), cell h12 a24 = some (.int .i64 r12) ∧
  cell h12 (a24.add 1) = some (.int .i64 r13) ∧
  cell h12 (a24.add 2) = some (.slice r14 rL4 rC4) ∧
  K (.tuple #[.slice rows rowsL rowsC, .agg #[.int .i64 r12, .int .i64 r13, .slice r14 rL4 rC4]]) h12)
  (cond (decide ((rowsL : Int) = 500))
  (HCalls Tryz.prog 57 #[.int .i64 4] h8 fun v4 h13 => ∃ r15 : Int, ∃ r16 : Int, ∃ (r17 : Option Addr) (rL5 rC5 : Nat), v4 = .agg #[.int .i64 r15, .int .i64 r16, .slice r17 rL5 rC5] ∧
  NN t5 fun a25 =>
  Wr h13 a25 (.int .i64 r15) fun h14 =>
  Wr h14 (a25.add 1) (.int .i64 r16) fun h15 =>
  Wr h15 (a25.add 2) (.slice r17 rL5 rC5) fun h16 =>
  NN t5 fun a26 =>
  ∃ r18 : Int, ∃ r19 : Int, ∃ (r20 : Option Addr) (rL6 rC6 : Nat), cell h16 a26 = some (.int .i64 r18) ∧
  cell h16 (a26.add 1) = some (.int .i64 r19) ∧
  cell h16 (a26.add 2) = some (.slice r20 rL6 rC6) ∧
  K (.tuple #[.slice rows rowsL rowsC, .agg #[.int .i64 r18, .int .i64 r19, .slice r20 rL6 rC6]]) h16)
  (model_points_b6 rows rowsL rowsC o t5 r7 h8  K)))
  (cond (!r8)
  (HCalls Tryz.prog 57 #[.int .i64 12] h8 fun v5 h17 => ∃ r21 : Int, ∃ r22 : Int, ∃ (r23 : Option Addr) (rL7 rC7 : Nat), v5 = .agg #[.int .i64 r21, .int .i64 r22, .slice r23 rL7 rC7] ∧
  NN t5 fun a27 =>
  Wr h17 a27 (.int .i64 r21) fun h18 =>
  Wr h18 (a27.add 1) (.int .i64 r22) fun h19 =>
  Wr h19 (a27.add 2) (.slice r23 rL7 rC7) fun h20 =>
  NN t5 fun a28 =>
  ∃ r24 : Int, ∃ r25 : Int, ∃ (r26 : Option Addr) (rL8 rC8 : Nat), cell h20 a28 = some (.int .i64 r24) ∧
  cell h20 (a28.add 1) = some (.int .i64 r25) ∧
  cell h20 (a28.add 2) = some (.slice r26 rL8 rC8) ∧
  K (.tuple #[.slice rows rowsL rowsC, .agg #[.int .i64 r24, .int .i64 r25, .slice r26 rL8 rC8]]) h20)
  ((0 ≤ r7 ∧ r7 < (rowsL : Int)) ∧
  NN rows fun a29 =>
  ∃ (a30 : Option Addr) (L7 C7 : Nat), cell h8 (a29.add (Int.toNat r7 * 1)) = some (.slice a30 L7 C7) ∧
  (0 ≤ (2 : Int) ∧ (2 : Int) < (L7 : Int)) ∧
  NN a30 fun a31 =>
  ∃ n12 : Int, cell h8 (a31.add (Int.toNat (2 : Int) * 1)) = some (.int .i64 n12) ∧
  InR (r7 + 1) ∧
  HCalls Tryz.prog 60 #[.slice rows rowsL rowsC, .int .i64 r7, .int .i64 (r7 + 1)] h8 fun v6 h21 => ∃ (r27 : Option Addr) (rL9 rC9 : Nat), v6 = .slice r27 rL9 rC9 ∧
  HCalls Tryz.prog 56 #[.int .i64 n12] h21 fun v7 h22 => ∃ r28 : Int, ∃ r29 : Int, ∃ (r30 : Option Addr) (rL10 rC10 : Nat), v7 = .agg #[.int .i64 r28, .int .i64 r29, .slice r30 rL10 rC10] ∧
  NN t5 fun a32 =>
  Wr h22 a32 (.int .i64 r28) fun h23 =>
  Wr h23 (a32.add 1) (.int .i64 r29) fun h24 =>
  Wr h24 (a32.add 2) (.slice r30 rL10 rC10) fun h25 =>
  NN t5 fun a33 =>
  ∃ r31 : Int, ∃ r32 : Int, ∃ (r33 : Option Addr) (rL11 rC11 : Nat), cell h25 a33 = some (.int .i64 r31) ∧
  cell h25 (a33.add 1) = some (.int .i64 r32) ∧
  cell h25 (a33.add 2) = some (.slice r33 rL11 rC11) ∧
  K (.tuple #[.slice r27 rL9 rC9, .agg #[.int .i64 r31, .int .i64 r32, .slice r33 rL11 rC11]]) h25))) := by kernel_rfl
theorem model_points_b4_eq (rows : Option Addr) (rowsL : Nat) (rowsC : Nat) (o : Option Addr) (t5 : Option Addr) (count : Int) (sum : Int) (t24 : Option Addr) (t24L : Nat) (t24C : Nat) (t25 : Int) (t26 : Int) (h : Hp) (nx0 : Int × Int × Int × Unit → Hp → Prop) (K : Value → Hp → Prop) : model_points_b4 rows rowsL rowsC o t5 count sum t24 t24L t24C t25 t26 h nx0 K = (
  InR (t26 + 1) ∧
  nx0 (count, sum, t26 + 1, ()) h) := by kernel_rfl
theorem model_points_b5_eq (rows : Option Addr) (rowsL : Nat) (rowsC : Nat) (o : Option Addr) (t5 : Option Addr) (count : Int) (sum : Int) (h : Hp)  (K : Value → Hp → Prop) : model_points_b5 rows rowsL rowsC o t5 count sum h  K = (
  NN o fun a34 =>
  ∃ n13 : Int, cell h a34 = some (.int .i64 n13) ∧
  cond (decide (n13 = 3))
  (HCalls Tryz.prog 56 #[.int .i64 count] h fun v8 h26 => ∃ r34 : Int, ∃ r35 : Int, ∃ (r36 : Option Addr) (rL12 rC12 : Nat), v8 = .agg #[.int .i64 r34, .int .i64 r35, .slice r36 rL12 rC12] ∧
  NN t5 fun a35 =>
  Wr h26 a35 (.int .i64 r34) fun h27 =>
  Wr h27 (a35.add 1) (.int .i64 r35) fun h28 =>
  Wr h28 (a35.add 2) (.slice r36 rL12 rC12) fun h29 =>
  NN t5 fun a36 =>
  ∃ r37 : Int, ∃ r38 : Int, ∃ (r39 : Option Addr) (rL13 rC13 : Nat), cell h29 a36 = some (.int .i64 r37) ∧
  cell h29 (a36.add 1) = some (.int .i64 r38) ∧
  cell h29 (a36.add 2) = some (.slice r39 rL13 rC13) ∧
  K (.tuple #[.slice rows rowsL rowsC, .agg #[.int .i64 r37, .int .i64 r38, .slice r39 rL13 rC13]]) h29)
  (HCalls Tryz.prog 56 #[.int .i64 sum] h fun v9 h30 => ∃ r40 : Int, ∃ r41 : Int, ∃ (r42 : Option Addr) (rL14 rC14 : Nat), v9 = .agg #[.int .i64 r40, .int .i64 r41, .slice r42 rL14 rC14] ∧
  NN t5 fun a37 =>
  Wr h30 a37 (.int .i64 r40) fun h31 =>
  Wr h31 (a37.add 1) (.int .i64 r41) fun h32 =>
  Wr h32 (a37.add 2) (.slice r42 rL14 rC14) fun h33 =>
  NN t5 fun a38 =>
  ∃ r43 : Int, ∃ r44 : Int, ∃ (r45 : Option Addr) (rL15 rC15 : Nat), cell h33 a38 = some (.int .i64 r43) ∧
  cell h33 (a38.add 1) = some (.int .i64 r44) ∧
  cell h33 (a38.add 2) = some (.slice r45 rL15 rC15) ∧
  K (.tuple #[.slice rows rowsL rowsC, .agg #[.int .i64 r43, .int .i64 r44, .slice r45 rL15 rC15]]) h33)) := by kernel_rfl
theorem model_points_b6_eq (rows : Option Addr) (rowsL : Nat) (rowsC : Nat) (o : Option Addr) (t5 : Option Addr) (i : Int) (h : Hp)  (K : Value → Hp → Prop) : model_points_b6 rows rowsL rowsC o t5 i h  K = (
  NN o fun a39 =>
  ∃ (a40 : Option Addr) (L8 C8 : Nat), cell h (a39.add 1) = some (.slice a40 L8 C8) ∧
  HCalls Tryz.prog 46 #[.slice a40 L8 C8] h fun v10 h34 => ∃ (r46 : Option Addr) (rL16 rC16 : Nat), v10 = .slice r46 rL16 rC16 ∧
  New h34 (.cells #[.slice r46 rL16 rC16] 34) fun b3 h35 =>
  HCalls Tryz.prog 59 #[.slice rows rowsL rowsC, .int .i64 i, .slice (some ⟨b3, 0, none⟩) 1 1] h35 fun v11 h36 => ∃ (r47 : Option Addr) (rL17 rC17 : Nat), v11 = .slice r47 rL17 rC17 ∧
  HCalls Tryz.prog 56 #[.int .i64 0] h36 fun v12 h37 => ∃ r48 : Int, ∃ r49 : Int, ∃ (r50 : Option Addr) (rL18 rC18 : Nat), v12 = .agg #[.int .i64 r48, .int .i64 r49, .slice r50 rL18 rC18] ∧
  NN t5 fun a41 =>
  Wr h37 a41 (.int .i64 r48) fun h38 =>
  Wr h38 (a41.add 1) (.int .i64 r49) fun h39 =>
  Wr h39 (a41.add 2) (.slice r50 rL18 rC18) fun h40 =>
  NN t5 fun a42 =>
  ∃ r51 : Int, ∃ r52 : Int, ∃ (r53 : Option Addr) (rL19 rC19 : Nat), cell h40 a42 = some (.int .i64 r51) ∧
  cell h40 (a42.add 1) = some (.int .i64 r52) ∧
  cell h40 (a42.add 2) = some (.slice r53 rL19 rC19) ∧
  K (.tuple #[.slice r47 rL17 rC17, .agg #[.int .i64 r51, .int .i64 r52, .slice r53 rL19 rC19]]) h40) := by kernel_rfl
theorem model_points_call {rows : Option Addr} {rowsL : Nat} {rowsC : Nat} {o_0 : Int} {o_1 : Option Addr} {o_1L : Nat} {o_1C : Nat} {h : Hp} {K : Value → Hp → Prop} (hk : model_points_b0 rows rowsL rowsC o_0 o_1 o_1L o_1C h K) : HCalls Tryz.prog 44 #[.slice rows rowsL rowsC, .agg #[.int .i64 o_0, .slice o_1 o_1L o_1C]] h K :=
  calls_of_snd model_points_an Tryz.func44 (c := bodyOf Tryz.f44) rfl Tryz.ntmps44 (Nat.le_of_ble_eq_true rfl) (snd_4 F_ok F_mixed) hk

/-! ### model_text -/
/-! ### slices_Clone_Sint_int -/
def slices_Clone_Sint_int_an : Ann := .leaf
def slices_Clone_Sint_int_K0  (K : Value → Hp → Prop) : Exit → Env → Hp → Prop := retK Tryz.prog Tryz.f46.results.toList K
def slices_Clone_Sint_int_b0 (s : Option Addr) (sL : Nat) (sC : Nat) (h : Hp)  (K : Value → Hp → Prop) : Prop :=
  sx_1 Tryz.prog F 8 (cp [] (bodyOf Tryz.f46)) (ap [] slices_Clone_Sint_int_an) [(0, .slice s sL sC)] h (slices_Clone_Sint_int_K0  K)
theorem slices_Clone_Sint_int_b0_eq (s : Option Addr) (sL : Nat) (sC : Nat) (h : Hp)  (K : Value → Hp → Prop) : slices_Clone_Sint_int_b0 s sL sC h  K = (
  cond (Option.isNone s)
  (K (.slice none 0 0) h)
  (New h (.cells #[] 3) fun b1 h1 =>
  appendV Tryz.prog 34 34 (.slice (some ⟨b1, 0, none⟩) 0 0) (.slice s sL sC) h1 (slK fun a1 l1 c1 h2 =>
  K (.slice a1 l1 c1) h2))) := by kernel_rfl
theorem slices_Clone_Sint_int_call {s : Option Addr} {sL : Nat} {sC : Nat} {h : Hp} {K : Value → Hp → Prop} (hk : slices_Clone_Sint_int_b0 s sL sC h K) : HCalls Tryz.prog 46 #[.slice s sL sC] h K :=
  calls_of_snd slices_Clone_Sint_int_an Tryz.func46 (c := bodyOf Tryz.f46) rfl Tryz.ntmps46 (Nat.le_of_ble_eq_true rfl) (snd_1 F_ok F_mixed) hk

/-! ### rangetree_newPart -/
def rangetree_newPart_an : Ann := .leaf
def rangetree_newPart_K0  (K : Value → Hp → Prop) : Exit → Env → Hp → Prop := retK Tryz.prog Tryz.f47.results.toList K
def rangetree_newPart_b0 (l : Option Addr) (lL : Nat) (lC : Nat) (h : Hp)  (K : Value → Hp → Prop) : Prop :=
  sx_1 Tryz.prog F 13 (cp [] (bodyOf Tryz.f47)) (ap [] rangetree_newPart_an) [(0, .slice l lL lC)] h (rangetree_newPart_K0  K)
theorem rangetree_newPart_b0_eq (l : Option Addr) (lL : Nat) (lC : Nat) (h : Hp)  (K : Value → Hp → Prop) : rangetree_newPart_b0 l lL lC h  K = (
  HCalls Tryz.prog 65 #[.slice l lL lC] h fun v1 h1 => ∃ (r1 : Option Addr) (rL1 rC1 : Nat), v1 = .slice r1 rL1 rC1 ∧
  HCalls Tryz.prog 66 #[.slice r1 rL1 rC1, .func (.func 50) #[] #[]] h1 fun v2 h2 => v2 = .tuple #[] ∧
  HCalls Tryz.prog 67 #[.slice r1 rL1 rC1] h2 fun v3 h3 => ∃ r2 : Option Addr, v3 = .pointer r2 ∧
  New h3 (.cells #[.slice r1 rL1 rC1, .pointer r2] 70) fun b1 h4 =>
  K (.pointer (some ⟨b1, 0, none⟩)) h4) := by kernel_rfl
theorem rangetree_newPart_call {l : Option Addr} {lL : Nat} {lC : Nat} {h : Hp} {K : Value → Hp → Prop} (hk : rangetree_newPart_b0 l lL lC h K) : HCalls Tryz.prog 47 #[.slice l lL lC] h K :=
  calls_of_snd rangetree_newPart_an Tryz.func47 (c := bodyOf Tryz.f47) rfl Tryz.ntmps47 (Nat.le_of_ble_eq_true rfl) (snd_1 F_ok F_mixed) hk

/-! ### rangetree_part_rectangle -/
def rangetree_part_rectangle_an : Ann := .node none (.leaf) (.node none (.leaf) (.node none (.leaf) (.node none (.plan (.qu 0 (.qu 1 (.qu 2 (.qu 3 (.qu 4 (.qu 5 (.qu 6 (.qu 7 (.qu 8 (.qu 9 (.qu 10 (.qu 11 (.qu 12 (.wo 13 (.qu 14 (.qu 15 (.wo 16 (.wo 17 .fin .no) .no))) .no))))))))))))))) (.leaf))))
def rangetree_part_rectangle_K0  (K : Value → Hp → Prop) : Exit → Env → Hp → Prop := retK Tryz.prog Tryz.f48.results.toList K
def rangetree_part_rectangle_b0 (p : Option Addr) (x1 : Int) (x2 : Int) (y1 : Int) (y2 : Int) (h : Hp)  (K : Value → Hp → Prop) : Prop :=
  sx_1 Tryz.prog F 50 (cp [] (bodyOf Tryz.f48)) (ap [] rangetree_part_rectangle_an) [(0, .pointer p), (1, .int .i64 x1), (2, .int .i64 x2), (3, .int .i64 y1), (4, .int .i64 y2)] h (rangetree_part_rectangle_K0  K)
theorem rangetree_part_rectangle_b0_eq (p : Option Addr) (x1 : Int) (x2 : Int) (y1 : Int) (y2 : Int) (h : Hp)  (K : Value → Hp → Prop) : rangetree_part_rectangle_b0 p x1 x2 y1 y2 h  K = (
  NN p fun a1 =>
  ∃ (a2 : Option Addr) (L1 C1 : Nat), cell h a1 = some (.slice a2 L1 C1) ∧
  HCalls Tryz.prog 68 #[.slice a2 L1 C1, .int .i64 x1, .func (.func 69) #[] #[]] h fun v1 h1 => ∃ r1 : Int, ∃ r2 : Bool, v1 = .tuple #[.int .i64 r1, .bool r2] ∧
  NN p fun a3 =>
  ∃ (a4 : Option Addr) (L2 C2 : Nat), cell h1 a3 = some (.slice a4 L2 C2) ∧
  HCalls Tryz.prog 68 #[.slice a4 L2 C2, .int .i64 x2, .func (.func 71) #[] #[]] h1 fun v2 h2 => ∃ r3 : Int, ∃ r4 : Bool, v2 = .tuple #[.int .i64 r3, .bool r4] ∧
  NN p fun a5 =>
  ∃ p1 : Option Addr, cell h2 (a5.add 1) = some (.pointer p1) ∧
  NN p fun a6 =>
  ∃ (a7 : Option Addr) (L3 C3 : Nat), cell h2 a6 = some (.slice a7 L3 C3) ∧
  HCalls Tryz.prog 72 #[.pointer p1, .int .i64 (L3 : Int), .int .i64 r1, .int .i64 r3, .int .i64 y1, .int .i64 y2] h2 fun v3 h3 => ∃ r5 : Int, ∃ r6 : Int, v3 = .tuple #[.int .i64 r5, .int .i64 r6] ∧
  K (.tuple #[.int .i64 r5, .int .i64 r6]) h3) := by kernel_rfl
theorem rangetree_part_rectangle_call {p : Option Addr} {x1 : Int} {x2 : Int} {y1 : Int} {y2 : Int} {h : Hp} {K : Value → Hp → Prop} (hk : rangetree_part_rectangle_b0 p x1 x2 y1 y2 h K) : HCalls Tryz.prog 48 #[.pointer p, .int .i64 x1, .int .i64 x2, .int .i64 y1, .int .i64 y2] h K :=
  calls_of_snd rangetree_part_rectangle_an Tryz.func48 (c := bodyOf Tryz.f48) rfl Tryz.ntmps48 (Nat.le_of_ble_eq_true rfl) (snd_1 F_ok F_mixed) hk

/-! ### slices_SortFunc_Sapi_Point_api_Point -/
def slices_SortFunc_Sapi_Point_api_Point_an : Ann := .leaf
def slices_SortFunc_Sapi_Point_api_Point_K0  (K : Value → Hp → Prop) : Exit → Env → Hp → Prop := retK Tryz.prog Tryz.f49.results.toList K
def slices_SortFunc_Sapi_Point_api_Point_b0 (x : Option Addr) (xL : Nat) (xC : Nat) (cmp : Value) (h : Hp)  (K : Value → Hp → Prop) : Prop :=
  sx_1 Tryz.prog F 14 (cp [] (bodyOf Tryz.f49)) (ap [] slices_SortFunc_Sapi_Point_api_Point_an) [(0, .slice x xL xC), (1, cmp)] h (slices_SortFunc_Sapi_Point_api_Point_K0  K)
theorem slices_SortFunc_Sapi_Point_api_Point_b0_eq (x : Option Addr) (xL : Nat) (xC : Nat) (cmp : Value) (h : Hp)  (K : Value → Hp → Prop) : slices_SortFunc_Sapi_Point_api_Point_b0 x xL xC cmp h  K = (
  HCalls Tryz.prog 74 #[.int .u64 (IntKind.u64.wrap (xL : Int))] h fun v1 h1 => ∃ r1 : Int, v1 = .int .i64 r1 ∧
  HCalls Tryz.prog 73 #[.slice x xL xC, .int .i64 0, .int .i64 (xL : Int), .int .i64 r1, cmp] h1 fun v2 h2 => v2 = .tuple #[] ∧
  K (.tuple #[]) h2) := by kernel_rfl
theorem slices_SortFunc_Sapi_Point_api_Point_call {x : Option Addr} {xL : Nat} {xC : Nat} {cmp : Value} {h : Hp} {K : Value → Hp → Prop} (hk : slices_SortFunc_Sapi_Point_api_Point_b0 x xL xC cmp h K) : HCalls Tryz.prog 49 #[.slice x xL xC, cmp] h K :=
  calls_of_snd slices_SortFunc_Sapi_Point_api_Point_an Tryz.func49 (c := bodyOf Tryz.f49) rfl Tryz.ntmps49 (Nat.le_of_ble_eq_true rfl) (snd_1 F_ok F_mixed) hk

/-! ### rangetree_order -/
def rangetree_order_an : Ann := .node none (.leaf) (.node none (.tail 10) (.leaf))
def rangetree_order_K0  (K : Value → Hp → Prop) : Exit → Env → Hp → Prop := retK Tryz.prog Tryz.f50.results.toList K
def rangetree_order_b0 (a_0 : Int) (a_1 : Int) (a_2 : Int) (b_0 : Int) (b_1 : Int) (b_2 : Int) (h : Hp)  (K : Value → Hp → Prop) : Prop :=
  sx_1 Tryz.prog F 17 (cp [] (bodyOf Tryz.f50)) (ap [] rangetree_order_an) [(0, .agg #[.int .i64 a_0, .int .i64 a_1, .int .i64 a_2]), (1, .agg #[.int .i64 b_0, .int .i64 b_1, .int .i64 b_2])] h (rangetree_order_K0  K)
theorem rangetree_order_b0_eq (a_0 : Int) (a_1 : Int) (a_2 : Int) (b_0 : Int) (b_1 : Int) (b_2 : Int) (h : Hp)  (K : Value → Hp → Prop) : rangetree_order_b0 a_0 a_1 a_2 b_0 b_1 b_2 h  K = (
  New h (.cells #[.int .i64 a_0, .int .i64 a_1, .int .i64 a_2] 43) fun b1 h1 =>
  New h1 (.cells #[.int .i64 b_0, .int .i64 b_1, .int .i64 b_2] 43) fun b2 h2 =>
  ∃ n1 : Int, cell h2 ⟨b1, 0, none⟩ = some (.int .i64 n1) ∧
  ∃ n2 : Int, cell h2 ⟨b2, 0, none⟩ = some (.int .i64 n2) ∧
  ∃ r1 : Int, HCalls Tryz.prog 70 #[.int .i64 n1, .int .i64 n2] h2 (fun v1 h3 => v1 = .int .i64 r1 ∧ h3 = h2) ∧
  ∃ n3 : Int, cell h2 ((⟨b1, 0, none⟩ : Addr).add 1) = some (.int .i64 n3) ∧
  ∃ n4 : Int, cell h2 ((⟨b2, 0, none⟩ : Addr).add 1) = some (.int .i64 n4) ∧
  ∃ r2 : Int, HCalls Tryz.prog 70 #[.int .i64 n3, .int .i64 n4] h2 (fun v2 h4 => v2 = .int .i64 r2 ∧ h4 = h2) ∧
  New h2 (.cells #[.int .i64 r1, .int .i64 r2] 3) fun b3 h5 =>
  HCalls Tryz.prog 75 #[.slice (some ⟨b3, 0, none⟩) 2 2] h5 fun v3 h6 => ∃ r3 : Int, v3 = .int .i64 r3 ∧
  K (.int .i64 r3) h6) := by kernel_rfl
theorem rangetree_order_call {a_0 : Int} {a_1 : Int} {a_2 : Int} {b_0 : Int} {b_1 : Int} {b_2 : Int} {h : Hp} {K : Value → Hp → Prop} (hk : rangetree_order_b0 a_0 a_1 a_2 b_0 b_1 b_2 h K) : HCalls Tryz.prog 50 #[.agg #[.int .i64 a_0, .int .i64 a_1, .int .i64 a_2], .agg #[.int .i64 b_0, .int .i64 b_1, .int .i64 b_2]] h K :=
  calls_of_snd rangetree_order_an Tryz.func50 (c := bodyOf Tryz.f50) rfl Tryz.ntmps50 (Nat.le_of_ble_eq_true rfl) (snd_1 F_ok F_mixed) hk

/-! ### model_width -/
def model_width_an : Ann := .node none (.leaf) (.node (some []) (.leaf) (.leaf))
def model_width_K0  (K : Value → Hp → Prop) : Exit → Env → Hp → Prop := retK Tryz.prog Tryz.f51.results.toList K
def model_width_b0 (kind : Int) (h : Hp)  (K : Value → Hp → Prop) : Prop :=
  sx_2 Tryz.prog F 11 (cp [] (bodyOf Tryz.f51)) (ap [] model_width_an) [(0, .int .i64 kind)] h (model_width_K0  K)
def model_width_b1  (h : Hp)  (K : Value → Hp → Prop) : Prop :=
  sx_1 Tryz.prog F 11 (cp [1, 1] (bodyOf Tryz.f51)) (ap [1, 1] model_width_an) [] h (model_width_K0  K)
theorem model_width_b0_eq (kind : Int) (h : Hp)  (K : Value → Hp → Prop) : model_width_b0 kind h  K = (
  cond (decide (kind = 1))
  (K (.tuple #[.int .i64 2, .int .i64 1]) h)
  (cond (decide (kind = 5))
  (K (.tuple #[.int .i64 3, .int .i64 2]) h)
  (cond (decide (kind = 2))
  (K (.tuple #[.int .i64 1, .int .i64 1]) h)
  (model_width_b1  h  K)))) := by kernel_rfl
theorem model_width_call {kind : Int} {h : Hp} {K : Value → Hp → Prop} (hk : model_width_b0 kind h K) : HCalls Tryz.prog 51 #[.int .i64 kind] h K :=
  calls_of_snd model_width_an Tryz.func51 (c := bodyOf Tryz.f51) rfl Tryz.ntmps51 (Nat.le_of_ble_eq_true rfl) (snd_2 F_ok F_mixed) hk

/-! ### model_validRows_c1 -/
def model_validRows_c1_an : Ann := .leaf
def model_validRows_c1_K0  (K : Value → Hp → Prop) : Exit → Env → Hp → Prop := retK Tryz.prog Tryz.f52.results.toList K
def model_validRows_c1_b0 (nv : Int) (h : Hp)  (K : Value → Hp → Prop) : Prop :=
  sx_1 Tryz.prog F 6 (cp [] (bodyOf Tryz.f52)) (ap [] model_validRows_c1_an) [(0, .int .i64 nv)] h (model_validRows_c1_K0  K)
theorem model_validRows_c1_b0_eq (nv : Int) (h : Hp)  (K : Value → Hp → Prop) : model_validRows_c1_b0 nv h  K = (
  HCalls Tryz.prog 39 #[.int .i64 nv] h fun v1 h1 => ∃ r1 : Bool, v1 = .bool r1 ∧
  K (.bool (!r1)) h1) := by kernel_rfl
theorem model_validRows_c1_call {nv : Int} {h : Hp} {K : Value → Hp → Prop} (hk : model_validRows_c1_b0 nv h K) : HCalls Tryz.prog 52 #[.int .i64 nv] h K :=
  calls_of_snd model_validRows_c1_an Tryz.func52 (c := bodyOf Tryz.f52) rfl Tryz.ntmps52 (Nat.le_of_ble_eq_true rfl) (snd_1 F_ok F_mixed) hk

/-! ### slices_Compare_Sint_int -/
def slices_Compare_Sint_int_an : Ann := .node none (.leaf) (.node (some [0, 1]) (.node none (.leaf) (.loop [0, 1, 9, 10] [(11, .int .i64)] (.node none (.leaf) (.node none (.leaf) (.node (some [0, 1, 9, 10, 11]) (.leaf) (.leaf)))))) (.leaf))
def slices_Compare_Sint_int_K0  (K : Value → Hp → Prop) : Exit → Env → Hp → Prop := retK Tryz.prog Tryz.f53.results.toList K
def slices_Compare_Sint_int_K1  (K : Value → Hp → Prop) : Exit → Env → Hp → Prop := thenE (fun env h => sx_2 Tryz.prog F 36 (cp [1, 1] (bodyOf Tryz.f53)) (ap [1, 1] slices_Compare_Sint_int_an) (rs [0, 1] env) h (slices_Compare_Sint_int_K0  K)) (slices_Compare_Sint_int_K0  K)
def slices_Compare_Sint_int_K2  (K : Value → Hp → Prop) : Exit → Env → Hp → Prop := blockE 0 (slices_Compare_Sint_int_K1  K)
def slices_Compare_Sint_int_K3 (nx0 : Int × Unit → Hp → Prop) (K : Value → Hp → Prop) : Exit → Env → Hp → Prop := thenE (fun env h => getV [(11, .int .i64)] env fun s => nx0 s h) (slices_Compare_Sint_int_K2  K)
def slices_Compare_Sint_int_b0 (s1 : Option Addr) (s1L : Nat) (s1C : Nat) (s2 : Option Addr) (s2L : Nat) (s2C : Nat) (h : Hp)  (K : Value → Hp → Prop) : Prop :=
  sx_3 Tryz.prog F 36 (cp [] (bodyOf Tryz.f53)) (ap [] slices_Compare_Sint_int_an) [(0, .slice s1 s1L s1C), (1, .slice s2 s2L s2C)] h (slices_Compare_Sint_int_K0  K)
def slices_Compare_Sint_int_b1 (t11 : Int) (s1 : Option Addr) (s1L : Nat) (s1C : Nat) (s2 : Option Addr) (s2L : Nat) (s2C : Nat) (t9 : Option Addr) (t9L : Nat) (t9C : Nat) (t10 : Int) (h : Hp) (nx0 : Int × Unit → Hp → Prop) (K : Value → Hp → Prop) : Prop :=
  sx_2 Tryz.prog F 36 (cp [1, 0, 1, 2, 2] (bodyOf Tryz.f53)) (ap [1, 0, 1, 2] slices_Compare_Sint_int_an) [(11, .int .i64 t11), (0, .slice s1 s1L s1C), (1, .slice s2 s2L s2C), (9, .slice t9 t9L t9C), (10, .int .i64 t10)] h (slices_Compare_Sint_int_K3 nx0 K)
def slices_Compare_Sint_int_b2 (s1 : Option Addr) (s1L : Nat) (s1C : Nat) (s2 : Option Addr) (s2L : Nat) (s2C : Nat) (t9 : Option Addr) (t9L : Nat) (t9C : Nat) (t10 : Int) (t11 : Int) (h : Hp) (nx0 : Int × Unit → Hp → Prop) (K : Value → Hp → Prop) : Prop :=
  sx_1 Tryz.prog F 36 (cp [1, 0, 1, 2, 2, 1, 1, 1] (bodyOf Tryz.f53)) (ap [1, 0, 1, 2, 1, 1, 1] slices_Compare_Sint_int_an) [(0, .slice s1 s1L s1C), (1, .slice s2 s2L s2C), (9, .slice t9 t9L t9C), (10, .int .i64 t10), (11, .int .i64 t11)] h (slices_Compare_Sint_int_K3 nx0 K)
def slices_Compare_Sint_int_b3 (s1 : Option Addr) (s1L : Nat) (s1C : Nat) (s2 : Option Addr) (s2L : Nat) (s2C : Nat) (h : Hp)  (K : Value → Hp → Prop) : Prop :=
  sx_2 Tryz.prog F 36 (cp [1, 1] (bodyOf Tryz.f53)) (ap [1, 1] slices_Compare_Sint_int_an) [(0, .slice s1 s1L s1C), (1, .slice s2 s2L s2C)] h (slices_Compare_Sint_int_K0  K)
theorem slices_Compare_Sint_int_b0_eq (s1 : Option Addr) (s1L : Nat) (s1C : Nat) (s2 : Option Addr) (s2L : Nat) (s2C : Nat) (h : Hp)  (K : Value → Hp → Prop) : slices_Compare_Sint_int_b0 s1 s1L s1C s2 s2L s2C h  K = (
  LoopVC ((0, ()) : Int × Unit) h (fun (nx0 : Int × Unit → Hp → Prop) (s3 : Int × Unit) h1 => slices_Compare_Sint_int_b1 s3.1 s1 s1L s1C s2 s2L s2C s1 s1L s1C (s1L : Int) h1 nx0 K)) := by kernel_rfl
theorem slices_Compare_Sint_int_b1_eq (t11 : Int) (s1 : Option Addr) (s1L : Nat) (s1C : Nat) (s2 : Option Addr) (s2L : Nat) (s2C : Nat) (t9 : Option Addr) (t9L : Nat) (t9C : Nat) (t10 : Int) (h : Hp) (nx0 : Int × Unit → Hp → Prop) (K : Value → Hp → Prop) : slices_Compare_Sint_int_b1 t11 s1 s1L s1C s2 s2L s2C t9 t9L t9C t10 h nx0 K = (
  cond (decide (t11 < t10))
  ((0 ≤ t11 ∧ t11 < (t9L : Int)) ∧
  NN t9 fun a1 =>
  ∃ n1 : Int, cell h (a1.add (Int.toNat t11 * 1)) = some (.int .i64 n1) ∧
  cond (decide ((s2L : Int) ≤ t11))
  (K (.int .i64 1) h)
  ((0 ≤ t11 ∧ t11 < (s2L : Int)) ∧
  NN s2 fun a2 =>
  ∃ n2 : Int, cell h (a2.add (Int.toNat t11 * 1)) = some (.int .i64 n2) ∧
  HCalls Tryz.prog 70 #[.int .i64 n1, .int .i64 n2] h fun v1 h2 => ∃ r1 : Int, v1 = .int .i64 r1 ∧
  cond (!decide (r1 = 0))
  (K (.int .i64 r1) h2)
  (slices_Compare_Sint_int_b2 s1 s1L s1C s2 s2L s2C t9 t9L t9C t10 t11 h2 nx0 K)))
  (slices_Compare_Sint_int_b3 s1 s1L s1C s2 s2L s2C h  K)) := by kernel_rfl
theorem slices_Compare_Sint_int_b2_eq (s1 : Option Addr) (s1L : Nat) (s1C : Nat) (s2 : Option Addr) (s2L : Nat) (s2C : Nat) (t9 : Option Addr) (t9L : Nat) (t9C : Nat) (t10 : Int) (t11 : Int) (h : Hp) (nx0 : Int × Unit → Hp → Prop) (K : Value → Hp → Prop) : slices_Compare_Sint_int_b2 s1 s1L s1C s2 s2L s2C t9 t9L t9C t10 t11 h nx0 K = (
  InR (t11 + 1) ∧
  nx0 (t11 + 1, ()) h) := by kernel_rfl
theorem slices_Compare_Sint_int_b3_eq (s1 : Option Addr) (s1L : Nat) (s1C : Nat) (s2 : Option Addr) (s2L : Nat) (s2C : Nat) (h : Hp)  (K : Value → Hp → Prop) : slices_Compare_Sint_int_b3 s1 s1L s1C s2 s2L s2C h  K = (
  cond (decide ((s1L : Int) < (s2L : Int)))
  (K (.int .i64 (-1)) h)
  (K (.int .i64 0) h)) := by kernel_rfl
theorem slices_Compare_Sint_int_call {s1 : Option Addr} {s1L : Nat} {s1C : Nat} {s2 : Option Addr} {s2L : Nat} {s2C : Nat} {h : Hp} {K : Value → Hp → Prop} (hk : slices_Compare_Sint_int_b0 s1 s1L s1C s2 s2L s2C h K) : HCalls Tryz.prog 53 #[.slice s1 s1L s1C, .slice s2 s2L s2C] h K :=
  calls_of_snd slices_Compare_Sint_int_an Tryz.func53 (c := bodyOf Tryz.f53) rfl Tryz.ntmps53 (Nat.le_of_ble_eq_true rfl) (snd_3 F_ok F_mixed) hk

/-! ### slices_Sort_Sint_int -/
/-! ### slices_IndexFunc_Sint_int -/
def slices_IndexFunc_Sint_int_an : Ann := .node none (.leaf) (.node (some []) (.node none (.leaf) (.loop [0, 1, 7] [(8, .int .i64)] (.node none (.leaf) (.node none (.leaf) (.node (some [0, 1, 7, 8]) (.leaf) (.leaf)))))) (.leaf))
def slices_IndexFunc_Sint_int_K0  (K : Value → Hp → Prop) : Exit → Env → Hp → Prop := retK Tryz.prog Tryz.f55.results.toList K
def slices_IndexFunc_Sint_int_K1  (K : Value → Hp → Prop) : Exit → Env → Hp → Prop := thenE (fun env h => sx_2 Tryz.prog F 19 (cp [1, 1] (bodyOf Tryz.f55)) (ap [1, 1] slices_IndexFunc_Sint_int_an) (rs [] env) h (slices_IndexFunc_Sint_int_K0  K)) (slices_IndexFunc_Sint_int_K0  K)
def slices_IndexFunc_Sint_int_K2  (K : Value → Hp → Prop) : Exit → Env → Hp → Prop := blockE 0 (slices_IndexFunc_Sint_int_K1  K)
def slices_IndexFunc_Sint_int_K3 (nx0 : Int × Unit → Hp → Prop) (K : Value → Hp → Prop) : Exit → Env → Hp → Prop := thenE (fun env h => getV [(8, .int .i64)] env fun s => nx0 s h) (slices_IndexFunc_Sint_int_K2  K)
def slices_IndexFunc_Sint_int_b0 (s : Option Addr) (sL : Nat) (sC : Nat) (f : Value) (h : Hp)  (K : Value → Hp → Prop) : Prop :=
  sx_3 Tryz.prog F 19 (cp [] (bodyOf Tryz.f55)) (ap [] slices_IndexFunc_Sint_int_an) [(0, .slice s sL sC), (1, f)] h (slices_IndexFunc_Sint_int_K0  K)
def slices_IndexFunc_Sint_int_b1 (t8 : Int) (s : Option Addr) (sL : Nat) (sC : Nat) (f : Value) (t7 : Int) (h : Hp) (nx0 : Int × Unit → Hp → Prop) (K : Value → Hp → Prop) : Prop :=
  sx_2 Tryz.prog F 19 (cp [1, 0, 1, 2, 2] (bodyOf Tryz.f55)) (ap [1, 0, 1, 2] slices_IndexFunc_Sint_int_an) [(8, .int .i64 t8), (0, .slice s sL sC), (1, f), (7, .int .i64 t7)] h (slices_IndexFunc_Sint_int_K3 nx0 K)
def slices_IndexFunc_Sint_int_b2 (s : Option Addr) (sL : Nat) (sC : Nat) (f : Value) (t7 : Int) (t8 : Int) (h : Hp) (nx0 : Int × Unit → Hp → Prop) (K : Value → Hp → Prop) : Prop :=
  sx_1 Tryz.prog F 19 (cp [1, 0, 1, 2, 2, 1, 1, 1] (bodyOf Tryz.f55)) (ap [1, 0, 1, 2, 1, 1, 1] slices_IndexFunc_Sint_int_an) [(0, .slice s sL sC), (1, f), (7, .int .i64 t7), (8, .int .i64 t8)] h (slices_IndexFunc_Sint_int_K3 nx0 K)
def slices_IndexFunc_Sint_int_b3  (h : Hp)  (K : Value → Hp → Prop) : Prop :=
  sx_2 Tryz.prog F 19 (cp [1, 1] (bodyOf Tryz.f55)) (ap [1, 1] slices_IndexFunc_Sint_int_an) [] h (slices_IndexFunc_Sint_int_K0  K)
theorem slices_IndexFunc_Sint_int_b0_eq (s : Option Addr) (sL : Nat) (sC : Nat) (f : Value) (h : Hp)  (K : Value → Hp → Prop) : slices_IndexFunc_Sint_int_b0 s sL sC f h  K = (
  LoopVC ((0, ()) : Int × Unit) h (fun (nx0 : Int × Unit → Hp → Prop) (s1 : Int × Unit) h1 => slices_IndexFunc_Sint_int_b1 s1.1 s sL sC f (sL : Int) h1 nx0 K)) := by kernel_rfl
theorem slices_IndexFunc_Sint_int_b1_eq (t8 : Int) (s : Option Addr) (sL : Nat) (sC : Nat) (f : Value) (t7 : Int) (h : Hp) (nx0 : Int × Unit → Hp → Prop) (K : Value → Hp → Prop) : slices_IndexFunc_Sint_int_b1 t8 s sL sC f t7 h nx0 K = (
  cond (decide (t8 < t7))
  ((0 ≤ t8 ∧ t8 < (sL : Int)) ∧
  NN s fun a1 =>
  ∃ n1 : Int, cell h (a1.add (Int.toNat t8 * 1)) = some (.int .i64 n1) ∧
  funV f fun fg1 fa1 fc1 => callX Tryz.prog F fg1 (fa1 ++ (([.int .i64 n1] : List Value) ++ fc1)).toArray h fun v1 h2 => ∃ r1 : Bool, v1 = .bool r1 ∧
  cond r1
  (K (.int .i64 t8) h2)
  (slices_IndexFunc_Sint_int_b2 s sL sC f t7 t8 h2 nx0 K))
  (slices_IndexFunc_Sint_int_b3  h  K)) := by kernel_rfl
theorem slices_IndexFunc_Sint_int_b2_eq (s : Option Addr) (sL : Nat) (sC : Nat) (f : Value) (t7 : Int) (t8 : Int) (h : Hp) (nx0 : Int × Unit → Hp → Prop) (K : Value → Hp → Prop) : slices_IndexFunc_Sint_int_b2 s sL sC f t7 t8 h nx0 K = (
  InR (t8 + 1) ∧
  nx0 (t8 + 1, ()) h) := by kernel_rfl
theorem slices_IndexFunc_Sint_int_b3_eq  (h : Hp)  (K : Value → Hp → Prop) : slices_IndexFunc_Sint_int_b3  h  K = (
  K (.int .i64 (-1)) h) := by kernel_rfl
theorem slices_IndexFunc_Sint_int_call {s : Option Addr} {sL : Nat} {sC : Nat} {f : Value} {h : Hp} {K : Value → Hp → Prop} (hk : slices_IndexFunc_Sint_int_b0 s sL sC f h K) : HCalls Tryz.prog 55 #[.slice s sL sC, f] h K :=
  calls_of_snd slices_IndexFunc_Sint_int_an Tryz.func55 (c := bodyOf Tryz.f55) rfl Tryz.ntmps55 (Nat.le_of_ble_eq_true rfl) (snd_3 F_ok F_mixed) hk

/-! ### model_result -/
def model_result_an : Ann := .leaf
def model_result_K0  (K : Value → Hp → Prop) : Exit → Env → Hp → Prop := retK Tryz.prog Tryz.f56.results.toList K
def model_result_b0 (nv : Int) (h : Hp)  (K : Value → Hp → Prop) : Prop :=
  sx_1 Tryz.prog F 5 (cp [] (bodyOf Tryz.f56)) (ap [] model_result_an) [(0, .int .i64 nv)] h (model_result_K0  K)
theorem model_result_b0_eq (nv : Int) (h : Hp)  (K : Value → Hp → Prop) : model_result_b0 nv h  K = (
  New h (.cells #[.int .i64 0, .int .i64 0, .slice none 0 0] 38) fun b1 h1 =>
  Wr h1 ⟨b1, 0, none⟩ (.int .i64 0) fun h2 =>
  Wr h2 ((⟨b1, 0, none⟩ : Addr).add 1) (.int .i64 nv) fun h3 =>
  Wr h3 ((⟨b1, 0, none⟩ : Addr).add 2) (.slice none 0 0) fun h4 =>
  ∃ r1 : Int, ∃ r2 : Int, ∃ (r3 : Option Addr) (rL1 rC1 : Nat), cell h4 ⟨b1, 0, none⟩ = some (.int .i64 r1) ∧
  cell h4 ((⟨b1, 0, none⟩ : Addr).add 1) = some (.int .i64 r2) ∧
  cell h4 ((⟨b1, 0, none⟩ : Addr).add 2) = some (.slice r3 rL1 rC1) ∧
  K (.agg #[.int .i64 r1, .int .i64 r2, .slice r3 rL1 rC1]) h4) := by kernel_rfl
theorem model_result_call {nv : Int} {h : Hp} {K : Value → Hp → Prop} (hk : model_result_b0 nv h K) : HCalls Tryz.prog 56 #[.int .i64 nv] h K :=
  calls_of_snd model_result_an Tryz.func56 (c := bodyOf Tryz.f56) rfl Tryz.ntmps56 (Nat.le_of_ble_eq_true rfl) (snd_1 F_ok F_mixed) hk

/-! ### model_failed -/
def model_failed_an : Ann := .leaf
def model_failed_K0  (K : Value → Hp → Prop) : Exit → Env → Hp → Prop := retK Tryz.prog Tryz.f57.results.toList K
def model_failed_b0 (e : Int) (h : Hp)  (K : Value → Hp → Prop) : Prop :=
  sx_1 Tryz.prog F 5 (cp [] (bodyOf Tryz.f57)) (ap [] model_failed_an) [(0, .int .i64 e)] h (model_failed_K0  K)
theorem model_failed_b0_eq (e : Int) (h : Hp)  (K : Value → Hp → Prop) : model_failed_b0 e h  K = (
  New h (.cells #[.int .i64 0, .int .i64 0, .slice none 0 0] 38) fun b1 h1 =>
  Wr h1 ⟨b1, 0, none⟩ (.int .i64 e) fun h2 =>
  Wr h2 ((⟨b1, 0, none⟩ : Addr).add 1) (.int .i64 0) fun h3 =>
  Wr h3 ((⟨b1, 0, none⟩ : Addr).add 2) (.slice none 0 0) fun h4 =>
  ∃ r1 : Int, ∃ r2 : Int, ∃ (r3 : Option Addr) (rL1 rC1 : Nat), cell h4 ⟨b1, 0, none⟩ = some (.int .i64 r1) ∧
  cell h4 ((⟨b1, 0, none⟩ : Addr).add 1) = some (.int .i64 r2) ∧
  cell h4 ((⟨b1, 0, none⟩ : Addr).add 2) = some (.slice r3 rL1 rC1) ∧
  K (.agg #[.int .i64 r1, .int .i64 r2, .slice r3 rL1 rC1]) h4) := by kernel_rfl
theorem model_failed_call {e : Int} {h : Hp} {K : Value → Hp → Prop} (hk : model_failed_b0 e h K) : HCalls Tryz.prog 57 #[.int .i64 e] h K :=
  calls_of_snd model_failed_an Tryz.func57 (c := bodyOf Tryz.f57) rfl Tryz.ntmps57 (Nat.le_of_ble_eq_true rfl) (snd_1 F_ok F_mixed) hk

/-! ### model_find -/
def model_find_an : Ann := .leaf
def model_find_K0  (K : Value → Hp → Prop) : Exit → Env → Hp → Prop := retK Tryz.prog Tryz.f58.results.toList K
def model_find_b0 (rows : Option Addr) (rowsL : Nat) (rowsC : Nat) (key : Option Addr) (keyL : Nat) (keyC : Nat) (h : Hp)  (K : Value → Hp → Prop) : Prop :=
  sx_1 Tryz.prog F 11 (cp [] (bodyOf Tryz.f58)) (ap [] model_find_an) [(0, .slice rows rowsL rowsC), (1, .slice key keyL keyC)] h (model_find_K0  K)
theorem model_find_b0_eq (rows : Option Addr) (rowsL : Nat) (rowsC : Nat) (key : Option Addr) (keyL : Nat) (keyC : Nat) (h : Hp)  (K : Value → Hp → Prop) : model_find_b0 rows rowsL rowsC key keyL keyC h  K = (
  HCalls Tryz.prog 77 #[.slice rows rowsL rowsC, .slice key keyL keyC, .func (.func 78) #[] #[]] h fun v1 h1 => ∃ r1 : Int, ∃ r2 : Bool, v1 = .tuple #[.int .i64 r1, .bool r2] ∧
  K (.tuple #[.int .i64 r1, .bool r2]) h1) := by kernel_rfl
theorem model_find_call {rows : Option Addr} {rowsL : Nat} {rowsC : Nat} {key : Option Addr} {keyL : Nat} {keyC : Nat} {h : Hp} {K : Value → Hp → Prop} (hk : model_find_b0 rows rowsL rowsC key keyL keyC h K) : HCalls Tryz.prog 58 #[.slice rows rowsL rowsC, .slice key keyL keyC] h K :=
  calls_of_snd model_find_an Tryz.func58 (c := bodyOf Tryz.f58) rfl Tryz.ntmps58 (Nat.le_of_ble_eq_true rfl) (snd_1 F_ok F_mixed) hk

/-! ### slices_Insert_Sint_Sint -/
def slices_Insert_Sint_Sint_an : Ann := .node none (.leaf) (.node none (.leaf) (.node none (.leaf) (.node none (.leaf) (.node none (.leaf) (.node none (.leaf) (.node none (.node none (.leaf) (.node none (.node none (.leaf) (.node none (.leaf) (.node none (.tail 8) (.leaf)))) (.leaf))) (.node none (.leaf) (.node none (.node none (.leaf) (.node none (.node none (.tail 8) (.leaf)) (.leaf))) (.leaf)))))))))
def slices_Insert_Sint_Sint_K0  (K : Value → Hp → Prop) : Exit → Env → Hp → Prop := retK Tryz.prog Tryz.f59.results.toList K
def slices_Insert_Sint_Sint_b0 (s : Option Addr) (sL : Nat) (sC : Nat) (i : Int) (v : Option Addr) (vL : Nat) (vC : Nat) (h : Hp)  (K : Value → Hp → Prop) : Prop :=
  sx_1 Tryz.prog F 95 (cp [] (bodyOf Tryz.f59)) (ap [] slices_Insert_Sint_Sint_an) [(0, .slice s sL sC), (1, .int .i64 i), (2, .slice v vL vC)] h (slices_Insert_Sint_Sint_K0  K)
theorem slices_Insert_Sint_Sint_b0_eq (s : Option Addr) (sL : Nat) (sC : Nat) (i : Int) (v : Option Addr) (vL : Nat) (vC : Nat) (h : Hp)  (K : Value → Hp → Prop) : slices_Insert_Sint_Sint_b0 s sL sC i v vL vC h  K = (
  (0 ≤ i ∧ i ≤ (sL : Int) ∧ (sL : Int) ≤ (sC : Int)) ∧
  cond (decide ((vL : Int) = 0))
  (K (.slice s sL sC) h)
  (cond (decide (i = (sL : Int)))
  (appendV Tryz.prog 29 29 (.slice s sL sC) (.slice v vL vC) h (slK fun a1 l1 c1 h1 =>
  K (.slice a1 l1 c1) h1))
  (InR ((sL : Int) + (vL : Int)) ∧
  cond (decide ((sC : Int) < ((sL : Int) + (vL : Int))))
  ((0 ≤ (0 : Int) ∧ (0 : Int) ≤ i ∧ i ≤ (sC : Int)) ∧
  InR ((sL : Int) + (vL : Int)) ∧
  InR (((sL : Int) + (vL : Int)) - i) ∧
  appendV Tryz.prog 29 3 (.slice (subAddr s sC (Int.toNat (0 : Int)) 1) (Int.toNat i - Int.toNat (0 : Int)) (sC - Int.toNat (0 : Int))) (.int .i64 (((sL : Int) + (vL : Int)) - i)) h (slK fun a2 l2 c2 h2 =>
  (0 ≤ i ∧ i ≤ (l2 : Int) ∧ (l2 : Int) ≤ (c2 : Int)) ∧
  copyV Tryz.prog 29 (.slice (subAddr a2 c2 (Int.toNat i) 1) (Int.toNat (l2 : Int) - Int.toNat i) (c2 - Int.toNat i)) (.slice v vL vC) h2 fun v1 h3 =>
  InR (i + (vL : Int)) ∧
  (0 ≤ i + (vL : Int) ∧ i + (vL : Int) ≤ (l2 : Int) ∧ (l2 : Int) ≤ (c2 : Int)) ∧
  (0 ≤ i ∧ i ≤ (sL : Int) ∧ (sL : Int) ≤ (sC : Int)) ∧
  copyV Tryz.prog 29 (.slice (subAddr a2 c2 (Int.toNat (i + (vL : Int))) 1) (Int.toNat (l2 : Int) - Int.toNat (i + (vL : Int))) (c2 - Int.toNat (i + (vL : Int)))) (.slice (subAddr s sC (Int.toNat i) 1) (Int.toNat (sL : Int) - Int.toNat i) (sC - Int.toNat i)) h3 fun v2 h4 =>
  K (.slice a2 l2 c2) h4))
  (InR ((sL : Int) + (vL : Int)) ∧
  (0 ≤ (0 : Int) ∧ (0 : Int) ≤ (sL : Int) + (vL : Int) ∧ (sL : Int) + (vL : Int) ≤ (sC : Int)) ∧
  InR (i + (vL : Int)) ∧
  (0 ≤ i + (vL : Int) ∧ i + (vL : Int) ≤ ((Int.toNat ((sL : Int) + (vL : Int)) - Int.toNat (0 : Int) : Nat) : Int) ∧ ((Int.toNat ((sL : Int) + (vL : Int)) - Int.toNat (0 : Int) : Nat) : Int) ≤ ((sC - Int.toNat (0 : Int) : Nat) : Int)) ∧
  ExtCall Tryz.prog 79 #[.slice v vL vC, .slice (subAddr (subAddr s sC (Int.toNat (0 : Int)) 1) (sC - Int.toNat (0 : Int)) (Int.toNat (i + (vL : Int))) 1) (Int.toNat ((Int.toNat ((sL : Int) + (vL : Int)) - Int.toNat (0 : Int) : Nat) : Int) - Int.toNat (i + (vL : Int))) ((sC - Int.toNat (0 : Int)) - Int.toNat (i + (vL : Int)))] h fun v3 => ∃ r1 : Bool, v3 = .bool r1 ∧
  cond (!r1)
  (InR (i + (vL : Int)) ∧
  (0 ≤ i + (vL : Int) ∧ i + (vL : Int) ≤ ((Int.toNat ((sL : Int) + (vL : Int)) - Int.toNat (0 : Int) : Nat) : Int) ∧ ((Int.toNat ((sL : Int) + (vL : Int)) - Int.toNat (0 : Int) : Nat) : Int) ≤ ((sC - Int.toNat (0 : Int) : Nat) : Int)) ∧
  (0 ≤ i ∧ i ≤ ((Int.toNat ((sL : Int) + (vL : Int)) - Int.toNat (0 : Int) : Nat) : Int) ∧ ((Int.toNat ((sL : Int) + (vL : Int)) - Int.toNat (0 : Int) : Nat) : Int) ≤ ((sC - Int.toNat (0 : Int) : Nat) : Int)) ∧
  copyV Tryz.prog 29 (.slice (subAddr (subAddr s sC (Int.toNat (0 : Int)) 1) (sC - Int.toNat (0 : Int)) (Int.toNat (i + (vL : Int))) 1) (Int.toNat ((Int.toNat ((sL : Int) + (vL : Int)) - Int.toNat (0 : Int) : Nat) : Int) - Int.toNat (i + (vL : Int))) ((sC - Int.toNat (0 : Int)) - Int.toNat (i + (vL : Int)))) (.slice (subAddr (subAddr s sC (Int.toNat (0 : Int)) 1) (sC - Int.toNat (0 : Int)) (Int.toNat i) 1) (Int.toNat ((Int.toNat ((sL : Int) + (vL : Int)) - Int.toNat (0 : Int) : Nat) : Int) - Int.toNat i) ((sC - Int.toNat (0 : Int)) - Int.toNat i)) h fun v4 h6 =>
  (0 ≤ i ∧ i ≤ ((Int.toNat ((sL : Int) + (vL : Int)) - Int.toNat (0 : Int) : Nat) : Int) ∧ ((Int.toNat ((sL : Int) + (vL : Int)) - Int.toNat (0 : Int) : Nat) : Int) ≤ ((sC - Int.toNat (0 : Int) : Nat) : Int)) ∧
  copyV Tryz.prog 29 (.slice (subAddr (subAddr s sC (Int.toNat (0 : Int)) 1) (sC - Int.toNat (0 : Int)) (Int.toNat i) 1) (Int.toNat ((Int.toNat ((sL : Int) + (vL : Int)) - Int.toNat (0 : Int) : Nat) : Int) - Int.toNat i) ((sC - Int.toNat (0 : Int)) - Int.toNat i)) (.slice v vL vC) h6 fun v5 h7 =>
  K (.slice (subAddr s sC (Int.toNat (0 : Int)) 1) (Int.toNat ((sL : Int) + (vL : Int)) - Int.toNat (0 : Int)) (sC - Int.toNat (0 : Int))) h7)
  ((0 ≤ (sL : Int) ∧ (sL : Int) ≤ ((Int.toNat ((sL : Int) + (vL : Int)) - Int.toNat (0 : Int) : Nat) : Int) ∧ ((Int.toNat ((sL : Int) + (vL : Int)) - Int.toNat (0 : Int) : Nat) : Int) ≤ ((sC - Int.toNat (0 : Int) : Nat) : Int)) ∧
  copyV Tryz.prog 29 (.slice (subAddr (subAddr s sC (Int.toNat (0 : Int)) 1) (sC - Int.toNat (0 : Int)) (Int.toNat (sL : Int)) 1) (Int.toNat ((Int.toNat ((sL : Int) + (vL : Int)) - Int.toNat (0 : Int) : Nat) : Int) - Int.toNat (sL : Int)) ((sC - Int.toNat (0 : Int)) - Int.toNat (sL : Int))) (.slice v vL vC) h fun v6 h8 =>
  (0 ≤ i ∧ i ≤ ((Int.toNat ((sL : Int) + (vL : Int)) - Int.toNat (0 : Int) : Nat) : Int) ∧ ((Int.toNat ((sL : Int) + (vL : Int)) - Int.toNat (0 : Int) : Nat) : Int) ≤ ((sC - Int.toNat (0 : Int) : Nat) : Int)) ∧
  HCalls Tryz.prog 80 #[.slice (subAddr (subAddr s sC (Int.toNat (0 : Int)) 1) (sC - Int.toNat (0 : Int)) (Int.toNat i) 1) (Int.toNat ((Int.toNat ((sL : Int) + (vL : Int)) - Int.toNat (0 : Int) : Nat) : Int) - Int.toNat i) ((sC - Int.toNat (0 : Int)) - Int.toNat i), .int .i64 (vL : Int)] h8 fun v7 h9 => v7 = .tuple #[] ∧
  K (.slice (subAddr s sC (Int.toNat (0 : Int)) 1) (Int.toNat ((sL : Int) + (vL : Int)) - Int.toNat (0 : Int)) (sC - Int.toNat (0 : Int))) h9))))) := by kernel_rfl
theorem slices_Insert_Sint_Sint_call {s : Option Addr} {sL : Nat} {sC : Nat} {i : Int} {v : Option Addr} {vL : Nat} {vC : Nat} {h : Hp} {K : Value → Hp → Prop} (hk : slices_Insert_Sint_Sint_b0 s sL sC i v vL vC h K) : HCalls Tryz.prog 59 #[.slice s sL sC, .int .i64 i, .slice v vL vC] h K :=
  calls_of_snd slices_Insert_Sint_Sint_an Tryz.func59 (c := bodyOf Tryz.f59) rfl Tryz.ntmps59 (Nat.le_of_ble_eq_true rfl) (snd_1 F_ok F_mixed) hk

/-! ### slices_Delete_Sint_Sint -/
def slices_Delete_Sint_Sint_an : Ann := .node none (.leaf) (.node none (.leaf) (.node none (.leaf) (.node none (.leaf) (.node none (.tail 6) (.leaf)))))
def slices_Delete_Sint_Sint_K0  (K : Value → Hp → Prop) : Exit → Env → Hp → Prop := retK Tryz.prog Tryz.f60.results.toList K
def slices_Delete_Sint_Sint_b0 (s : Option Addr) (sL : Nat) (sC : Nat) (i : Int) (j : Int) (h : Hp)  (K : Value → Hp → Prop) : Prop :=
  sx_1 Tryz.prog F 33 (cp [] (bodyOf Tryz.f60)) (ap [] slices_Delete_Sint_Sint_an) [(0, .slice s sL sC), (1, .int .i64 i), (2, .int .i64 j)] h (slices_Delete_Sint_Sint_K0  K)
theorem slices_Delete_Sint_Sint_b0_eq (s : Option Addr) (sL : Nat) (sC : Nat) (i : Int) (j : Int) (h : Hp)  (K : Value → Hp → Prop) : slices_Delete_Sint_Sint_b0 s sL sC i j h  K = (
  ∃ (a1 : Option Addr) (l1 c1 : Nat), slC Tryz.prog 29 (.slice s sL sC) (some (.int .i64 i)) (some (.int .i64 j)) (.int .i64 (sL : Int)) h a1 l1 c1 ∧
  cond (decide (i = j))
  (K (.slice s sL sC) h)
  ((0 ≤ (0 : Int) ∧ (0 : Int) ≤ i ∧ i ≤ (sC : Int)) ∧
  (0 ≤ j ∧ j ≤ (sL : Int) ∧ (sL : Int) ≤ (sC : Int)) ∧
  appendV Tryz.prog 29 29 (.slice (subAddr s sC (Int.toNat (0 : Int)) 1) (Int.toNat i - Int.toNat (0 : Int)) (sC - Int.toNat (0 : Int))) (.slice (subAddr s sC (Int.toNat j) 1) (Int.toNat (sL : Int) - Int.toNat j) (sC - Int.toNat j)) h (slK fun a2 l2 c2 h1 =>
  (0 ≤ (l2 : Int) ∧ (l2 : Int) ≤ (sL : Int) ∧ (sL : Int) ≤ (c2 : Int)) ∧
  clearV Tryz.prog 29 (.slice (subAddr a2 c2 (Int.toNat (l2 : Int)) 1) (Int.toNat (sL : Int) - Int.toNat (l2 : Int)) (c2 - Int.toNat (l2 : Int))) h1 fun h2 =>
  K (.slice a2 l2 c2) h2))) := by kernel_rfl
theorem slices_Delete_Sint_Sint_call {s : Option Addr} {sL : Nat} {sC : Nat} {i : Int} {j : Int} {h : Hp} {K : Value → Hp → Prop} (hk : slices_Delete_Sint_Sint_b0 s sL sC i j h K) : HCalls Tryz.prog 60 #[.slice s sL sC, .int .i64 i, .int .i64 j] h K :=
  calls_of_snd slices_Delete_Sint_Sint_an Tryz.func60 (c := bodyOf Tryz.f60) rfl Tryz.ntmps60 (Nat.le_of_ble_eq_true rfl) (snd_1 F_ok F_mixed) hk

/-! ### slices_Reverse_Sint_Sint -/
/-! ### model_class -/
/-! ### model_truth -/
/-! ### EqI -/
/-! ### slices_Clone_Sapi_Point_api_Point -/
def slices_Clone_Sapi_Point_api_Point_an : Ann := .leaf
def slices_Clone_Sapi_Point_api_Point_K0  (K : Value → Hp → Prop) : Exit → Env → Hp → Prop := retK Tryz.prog Tryz.f65.results.toList K
def slices_Clone_Sapi_Point_api_Point_b0 (s : Option Addr) (sL : Nat) (sC : Nat) (h : Hp)  (K : Value → Hp → Prop) : Prop :=
  sx_1 Tryz.prog F 8 (cp [] (bodyOf Tryz.f65)) (ap [] slices_Clone_Sapi_Point_api_Point_an) [(0, .slice s sL sC)] h (slices_Clone_Sapi_Point_api_Point_K0  K)
theorem slices_Clone_Sapi_Point_api_Point_b0_eq (s : Option Addr) (sL : Nat) (sC : Nat) (h : Hp)  (K : Value → Hp → Prop) : slices_Clone_Sapi_Point_api_Point_b0 s sL sC h  K = (
  cond (Option.isNone s)
  (K (.slice none 0 0) h)
  (New h (.cells #[] 43) fun b1 h1 =>
  appendV Tryz.prog 49 49 (.slice (some ⟨b1, 0, none⟩) 0 0) (.slice s sL sC) h1 (slK fun a1 l1 c1 h2 =>
  K (.slice a1 l1 c1) h2))) := by kernel_rfl
theorem slices_Clone_Sapi_Point_api_Point_call {s : Option Addr} {sL : Nat} {sC : Nat} {h : Hp} {K : Value → Hp → Prop} (hk : slices_Clone_Sapi_Point_api_Point_b0 s sL sC h K) : HCalls Tryz.prog 65 #[.slice s sL sC] h K :=
  calls_of_snd slices_Clone_Sapi_Point_api_Point_an Tryz.func65 (c := bodyOf Tryz.f65) rfl Tryz.ntmps65 (Nat.le_of_ble_eq_true rfl) (snd_1 F_ok F_mixed) hk

/-! ### slices_SortStableFunc_Sapi_Point_api_Point -/
def slices_SortStableFunc_Sapi_Point_api_Point_an : Ann := .leaf
def slices_SortStableFunc_Sapi_Point_api_Point_K0  (K : Value → Hp → Prop) : Exit → Env → Hp → Prop := retK Tryz.prog Tryz.f66.results.toList K
def slices_SortStableFunc_Sapi_Point_api_Point_b0 (x : Option Addr) (xL : Nat) (xC : Nat) (cmp : Value) (h : Hp)  (K : Value → Hp → Prop) : Prop :=
  sx_1 Tryz.prog F 9 (cp [] (bodyOf Tryz.f66)) (ap [] slices_SortStableFunc_Sapi_Point_api_Point_an) [(0, .slice x xL xC), (1, cmp)] h (slices_SortStableFunc_Sapi_Point_api_Point_K0  K)
theorem slices_SortStableFunc_Sapi_Point_api_Point_b0_eq (x : Option Addr) (xL : Nat) (xC : Nat) (cmp : Value) (h : Hp)  (K : Value → Hp → Prop) : slices_SortStableFunc_Sapi_Point_api_Point_b0 x xL xC cmp h  K = (
  HCalls Tryz.prog 84 #[.slice x xL xC, .int .i64 (xL : Int), cmp] h fun v1 h1 => v1 = .tuple #[] ∧
  K (.tuple #[]) h1) := by kernel_rfl
theorem slices_SortStableFunc_Sapi_Point_api_Point_call {x : Option Addr} {xL : Nat} {xC : Nat} {cmp : Value} {h : Hp} {K : Value → Hp → Prop} (hk : slices_SortStableFunc_Sapi_Point_api_Point_b0 x xL xC cmp h K) : HCalls Tryz.prog 66 #[.slice x xL xC, cmp] h K :=
  calls_of_snd slices_SortStableFunc_Sapi_Point_api_Point_an Tryz.func66 (c := bodyOf Tryz.f66) rfl Tryz.ntmps66 (Nat.le_of_ble_eq_true rfl) (snd_1 F_ok F_mixed) hk

/-! ### rangetree_build -/
def rangetree_build_an : Ann := .node none (.leaf) (.node none (.leaf) (.node none (.leaf) (.node none (.leaf) (.node (some [0, 4]) (.node none (.leaf) (.loop [0, 4, 15, 16] [(17, .int .i64)] (.node none (.leaf) (.node none (.leaf) (.node (some [0, 4, 15, 16, 17]) (.node none (.leaf) (.node none (.plan (.qu 0 (.qu 1 (.qu 2 (.qu 3 (.qu 4 (.qu 5 (.qu 6 (.wo 7 (.wo 8 (.qu 9 (.qu 10 (.wo 11 .fin .no))) .no) .no))))))))) (.plan (.qu 0 (.qu 1 (.qu 2 (.qu 3 (.qu 4 (.qu 5 (.qu 6 (.qu 7 (.qu 8 (.qu 9 (.qu 10 (.qu 11 (.qu 12 (.qu 13 (.qu 14 (.qu 15 (.qu 16 (.qu 17 (.qu 18 (.qu 19 (.wo 20 (.wo 21 (.qu 22 (.qu 23 (.wo 24 .fin .no))) .no) .no)))))))))))))))))))))))) (.leaf)))))) (.node (some [4]) (.node none (.leaf) (.node none (.leaf) (.node none (.plan (.qu 0 (.qu 1 (.qu 2 (.qu 3 (.qu 4 (.qu 6 (.qu 7 (.qu 8 (.wo 5 (.wo 9 (.qu 10 (.qu 11 (.wo 12 (.qu 13 (.qu 14 (.wo 15 .fin .no))) .no))) .no) .no)))))))))) (.leaf)))) (.leaf))))))
def rangetree_build_K0  (K : Value → Hp → Prop) : Exit → Env → Hp → Prop := retK Tryz.prog Tryz.f67.results.toList K
def rangetree_build_K1  (K : Value → Hp → Prop) : Exit → Env → Hp → Prop := thenE (fun env h => sx_2 Tryz.prog F 77 (cp [1, 1, 1, 1, 1] (bodyOf Tryz.f67)) (ap [1, 1, 1, 1, 1] rangetree_build_an) (rs [0, 4] env) h (rangetree_build_K0  K)) (rangetree_build_K0  K)
def rangetree_build_K2  (K : Value → Hp → Prop) : Exit → Env → Hp → Prop := blockE 0 (rangetree_build_K1  K)
def rangetree_build_K3 (nx0 : Int × Unit → Hp → Prop) (K : Value → Hp → Prop) : Exit → Env → Hp → Prop := thenE (fun env h => getV [(17, .int .i64)] env fun s => nx0 s h) (rangetree_build_K2  K)
def rangetree_build_b0 (l : Option Addr) (lL : Nat) (lC : Nat) (h : Hp)  (K : Value → Hp → Prop) : Prop :=
  sx_3 Tryz.prog F 77 (cp [] (bodyOf Tryz.f67)) (ap [] rangetree_build_an) [(0, .slice l lL lC)] h (rangetree_build_K0  K)
def rangetree_build_b1 (t17 : Int) (l : Option Addr) (lL : Nat) (lC : Nat) (out : Option Addr) (t15 : Option Addr) (t15L : Nat) (t15C : Nat) (t16 : Int) (h : Hp) (nx0 : Int × Unit → Hp → Prop) (K : Value → Hp → Prop) : Prop :=
  sx_2 Tryz.prog F 77 (cp [1, 1, 1, 1, 0, 1, 2, 2] (bodyOf Tryz.f67)) (ap [1, 1, 1, 1, 0, 1, 2] rangetree_build_an) [(17, .int .i64 t17), (0, .slice l lL lC), (4, .pointer out), (15, .slice t15 t15L t15C), (16, .int .i64 t16)] h (rangetree_build_K3 nx0 K)
def rangetree_build_b2 (l : Option Addr) (lL : Nat) (lC : Nat) (out : Option Addr) (t15 : Option Addr) (t15L : Nat) (t15C : Nat) (t16 : Int) (t17 : Int) (h : Hp) (nx0 : Int × Unit → Hp → Prop) (K : Value → Hp → Prop) : Prop :=
  sx_1 Tryz.prog F 77 (cp [1, 1, 1, 1, 0, 1, 2, 2, 1, 1, 1] (bodyOf Tryz.f67)) (ap [1, 1, 1, 1, 0, 1, 2, 1, 1, 1] rangetree_build_an) [(0, .slice l lL lC), (4, .pointer out), (15, .slice t15 t15L t15C), (16, .int .i64 t16), (17, .int .i64 t17)] h (rangetree_build_K3 nx0 K)
def rangetree_build_b3 (l : Option Addr) (lL : Nat) (lC : Nat) (out : Option Addr) (h : Hp)  (K : Value → Hp → Prop) : Prop :=
  sx_2 Tryz.prog F 77 (cp [1, 1, 1, 1, 1] (bodyOf Tryz.f67)) (ap [1, 1, 1, 1, 1] rangetree_build_an) [(0, .slice l lL lC), (4, .pointer out)] h (rangetree_build_K0  K)
def rangetree_build_b4 (out : Option Addr) (h : Hp)  (K : Value → Hp → Prop) : Prop :=
  sx_1 Tryz.prog F 77 (cp [1, 1, 1, 1, 1, 1] (bodyOf Tryz.f67)) (ap [1, 1, 1, 1, 1, 1] rangetree_build_an) [(4, .pointer out)] h (rangetree_build_K0  K)
theorem rangetree_build_b0_eq (l : Option Addr) (lL : Nat) (lC : Nat) (h : Hp)  (K : Value → Hp → Prop) : rangetree_build_b0 l lL lC h  K = (
  HCalls Tryz.prog 65 #[.slice l lL lC] h fun v1 h1 => ∃ (r1 : Option Addr) (rL1 rC1 : Nat), v1 = .slice r1 rL1 rC1 ∧
  HCalls Tryz.prog 49 #[.slice r1 rL1 rC1, .func (.func 85) #[] #[]] h1 fun v2 h2 => v2 = .tuple #[] ∧
  New h2 (.cells #[.int .i64 0] 3) fun b1 h3 =>
  New h3 (.cells #[.slice none 0 0, .slice (some ⟨b1, 0, none⟩) 1 1, .pointer none, .pointer none] 121) fun b2 h4 =>
  LoopVC ((0, ()) : Int × Unit) h4 (fun (nx0 : Int × Unit → Hp → Prop) (s1 : Int × Unit) h5 => rangetree_build_b1 s1.1 l lL lC (some ⟨b2, 0, none⟩) r1 rL1 rC1 (rL1 : Int) h5 nx0 K)) := by kernel_rfl
theorem rangetree_build_b1_eq (t17 : Int) (l : Option Addr) (lL : Nat) (lC : Nat) (out : Option Addr) (t15 : Option Addr) (t15L : Nat) (t15C : Nat) (t16 : Int) (h : Hp) (nx0 : Int × Unit → Hp → Prop) (K : Value → Hp → Prop) : rangetree_build_b1 t17 l lL lC out t15 t15L t15C t16 h nx0 K = (
  cond (decide (t17 < t16))
  ((0 ≤ t17 ∧ t17 < (t15L : Int)) ∧
  NN t15 fun a1 =>
  ∃ n1 : Int, ∃ n2 : Int, ∃ n3 : Int, cell h (a1.add (Int.toNat t17 * 3)) = some (.int .i64 n1) ∧
  cell h ((a1.add (Int.toNat t17 * 3)).add 1) = some (.int .i64 n2) ∧
  cell h ((a1.add (Int.toNat t17 * 3)).add 2) = some (.int .i64 n3) ∧
  New h (.cells #[.int .i64 0, .int .i64 0, .int .i64 0] 43) fun b3 h6 =>
  Wr h6 ⟨b3, 0, none⟩ (.int .i64 n1) fun h7 =>
  Wr h7 ((⟨b3, 0, none⟩ : Addr).add 1) (.int .i64 n2) fun h8 =>
  Wr h8 ((⟨b3, 0, none⟩ : Addr).add 2) (.int .i64 n3) fun h9 =>
  NN out fun a2 =>
  ∃ (a3 : Option Addr) (L1 C1 : Nat), cell h9 a2 = some (.slice a3 L1 C1) ∧
  ∃ n4 : Int, cell h9 ((⟨b3, 0, none⟩ : Addr).add 1) = some (.int .i64 n4) ∧
  New h9 (.cells #[.int .i64 n4] 3) fun b4 h10 =>
  (∃ (a4 : Option Addr) (L2 C2 : Nat), cell h10 a2 = some (.slice a4 L2 C2) ∧
  (.slice a4 L2 C2 : Value) = .slice a3 L1 C1) ∧
  appendV Tryz.prog 34 34 (.slice a3 L1 C1) (.slice (some ⟨b4, 0, none⟩) 1 1) h10 (slK fun a5 l1 c1 h11 =>
  NN out fun a6 =>
  Wr h11 a6 (.slice a5 l1 c1) fun h12 =>
  NN out fun a7 =>
  ∃ (a8 : Option Addr) (L3 C3 : Nat), cell h12 (a7.add 1) = some (.slice a8 L3 C3) ∧
  NN out fun a9 =>
  ∃ (a10 : Option Addr) (L4 C4 : Nat), cell h12 (a9.add 1) = some (.slice a10 L4 C4) ∧
  NN out fun a11 =>
  ∃ (a12 : Option Addr) (L5 C5 : Nat), cell h12 (a11.add 1) = some (.slice a12 L5 C5) ∧
  InR ((L5 : Int) - 1) ∧
  (0 ≤ (L5 : Int) - 1 ∧ (L5 : Int) - 1 < (L4 : Int)) ∧
  NN a10 fun a13 =>
  ∃ n5 : Int, cell h12 (a13.add (Int.toNat ((L5 : Int) - 1) * 1)) = some (.int .i64 n5) ∧
  ∃ n6 : Int, cell h12 ((⟨b3, 0, none⟩ : Addr).add 2) = some (.int .i64 n6) ∧
  InR (n5 + n6) ∧
  New h12 (.cells #[.int .i64 (n5 + n6)] 3) fun b5 h13 =>
  (∃ (a14 : Option Addr) (L6 C6 : Nat), cell h13 (a7.add 1) = some (.slice a14 L6 C6) ∧
  (.slice a14 L6 C6 : Value) = .slice a8 L3 C3) ∧
  appendV Tryz.prog 34 34 (.slice a8 L3 C3) (.slice (some ⟨b5, 0, none⟩) 1 1) h13 (slK fun a15 l2 c2 h14 =>
  NN out fun a16 =>
  Wr h14 (a16.add 1) (.slice a15 l2 c2) fun h15 =>
  rangetree_build_b2 l lL lC out t15 t15L t15C t16 t17 h15 nx0 K)))
  (rangetree_build_b3 l lL lC out h  K)) := by kernel_rfl
theorem rangetree_build_b2_eq (l : Option Addr) (lL : Nat) (lC : Nat) (out : Option Addr) (t15 : Option Addr) (t15L : Nat) (t15C : Nat) (t16 : Int) (t17 : Int) (h : Hp) (nx0 : Int × Unit → Hp → Prop) (K : Value → Hp → Prop) : rangetree_build_b2 l lL lC out t15 t15L t15C t16 t17 h nx0 K = (
  InR (t17 + 1) ∧
  nx0 (t17 + 1, ()) h) := by kernel_rfl
theorem rangetree_build_b3_eq (l : Option Addr) (lL : Nat) (lC : Nat) (out : Option Addr) (h : Hp)  (K : Value → Hp → Prop) : rangetree_build_b3 l lL lC out h  K = (
  ∃ q1 : Int, Sx.Quo .i64 (lL : Int) 2 q1 ∧
  cond (decide ((0 : Int) < q1))
  ((0 ≤ (0 : Int) ∧ (0 : Int) ≤ q1 ∧ q1 ≤ (lC : Int)) ∧
  (0 ≤ q1 ∧ q1 ≤ (lL : Int) ∧ (lL : Int) ≤ (lC : Int)) ∧
  HCalls Tryz.prog 67 #[.slice (subAddr l lC (Int.toNat (0 : Int)) 3) (Int.toNat q1 - Int.toNat (0 : Int)) (lC - Int.toNat (0 : Int))] h fun v3 h16 => ∃ r2 : Option Addr, v3 = .pointer r2 ∧
  ((0 ≤ q1 ∧ q1 ≤ (lL : Int) ∧ (lL : Int) ≤ (lC : Int)) ∧
  (.slice (subAddr l lC (Int.toNat q1) 3) (Int.toNat (lL : Int) - Int.toNat q1) (lC - Int.toNat q1) : Value) = .slice (subAddr l lC (Int.toNat q1) 3) (Int.toNat (lL : Int) - Int.toNat q1) (lC - Int.toNat q1)) ∧
  HCalls Tryz.prog 67 #[.slice (subAddr l lC (Int.toNat q1) 3) (Int.toNat (lL : Int) - Int.toNat q1) (lC - Int.toNat q1)] h16 fun v4 h17 => ∃ r3 : Option Addr, v4 = .pointer r3 ∧
  NN out fun a17 =>
  Wr h17 (a17.add 2) (.pointer r2) fun h18 =>
  NN out fun a18 =>
  Wr h18 (a18.add 3) (.pointer r3) fun h19 =>
  rangetree_build_b4 out h19  K)
  (rangetree_build_b4 out h  K)) := by kernel_rfl
theorem rangetree_build_b4_eq (out : Option Addr) (h : Hp)  (K : Value → Hp → Prop) : rangetree_build_b4 out h  K = (
  K (.pointer out) h) := by kernel_rfl
theorem rangetree_build_call {l : Option Addr} {lL : Nat} {lC : Nat} {h : Hp} {K : Value → Hp → Prop} (hk : rangetree_build_b0 l lL lC h K) : HCalls Tryz.prog 67 #[.slice l lL lC] h K :=
  calls_of_snd rangetree_build_an Tryz.func67 (c := bodyOf Tryz.f67) rfl Tryz.ntmps67 (Nat.le_of_ble_eq_true rfl) (snd_3 F_ok F_mixed) hk

/-! ### slices_BinarySearchFunc_Sapi_Point_api_Point_int -/
def slices_BinarySearchFunc_Sapi_Point_api_Point_int_an : Ann := .node none (.leaf) (.node none (.leaf) (.node none (.leaf) (.node (some [0, 1, 2, 8, 9]) (.loop [0, 1, 2, 8] [(9, .int .i64), (10, .int .i64)] (.leaf)) (.leaf))))
def slices_BinarySearchFunc_Sapi_Point_api_Point_int_K0  (K : Value → Hp → Prop) : Exit → Env → Hp → Prop := retK Tryz.prog Tryz.f68.results.toList K
def slices_BinarySearchFunc_Sapi_Point_api_Point_int_K1  (K : Value → Hp → Prop) : Exit → Env → Hp → Prop := thenE (fun env h => sx_1 Tryz.prog F 49 (cp [1, 1, 1, 1] (bodyOf Tryz.f68)) (ap [1, 1, 1, 1] slices_BinarySearchFunc_Sapi_Point_api_Point_int_an) (rs [0, 1, 2, 8, 9] env) h (slices_BinarySearchFunc_Sapi_Point_api_Point_int_K0  K)) (slices_BinarySearchFunc_Sapi_Point_api_Point_int_K0  K)
def slices_BinarySearchFunc_Sapi_Point_api_Point_int_K2  (K : Value → Hp → Prop) : Exit → Env → Hp → Prop := blockE 0 (slices_BinarySearchFunc_Sapi_Point_api_Point_int_K1  K)
def slices_BinarySearchFunc_Sapi_Point_api_Point_int_K3 (nx0 : Int × Int × Unit → Hp → Prop) (K : Value → Hp → Prop) : Exit → Env → Hp → Prop := thenE (fun env h => getV [(9, .int .i64), (10, .int .i64)] env fun s => nx0 s h) (slices_BinarySearchFunc_Sapi_Point_api_Point_int_K2  K)
def slices_BinarySearchFunc_Sapi_Point_api_Point_int_b0 (x : Option Addr) (xL : Nat) (xC : Nat) (target : Int) (cmp : Value) (h : Hp)  (K : Value → Hp → Prop) : Prop :=
  sx_2 Tryz.prog F 49 (cp [] (bodyOf Tryz.f68)) (ap [] slices_BinarySearchFunc_Sapi_Point_api_Point_int_an) [(0, .slice x xL xC), (1, .int .i64 target), (2, cmp)] h (slices_BinarySearchFunc_Sapi_Point_api_Point_int_K0  K)
def slices_BinarySearchFunc_Sapi_Point_api_Point_int_b1 (i : Int) (j : Int) (x : Option Addr) (xL : Nat) (xC : Nat) (target : Int) (cmp : Value) (nv : Int) (h : Hp) (nx0 : Int × Int × Unit → Hp → Prop) (K : Value → Hp → Prop) : Prop :=
  sx_1 Tryz.prog F 49 (cp [1, 1, 1, 0, 2, 2] (bodyOf Tryz.f68)) (ap [1, 1, 1, 0, 2] slices_BinarySearchFunc_Sapi_Point_api_Point_int_an) [(9, .int .i64 i), (10, .int .i64 j), (0, .slice x xL xC), (1, .int .i64 target), (2, cmp), (8, .int .i64 nv)] h (slices_BinarySearchFunc_Sapi_Point_api_Point_int_K3 nx0 K)
def slices_BinarySearchFunc_Sapi_Point_api_Point_int_b2 (x : Option Addr) (xL : Nat) (xC : Nat) (target : Int) (cmp : Value) (nv : Int) (i : Int) (h : Hp)  (K : Value → Hp → Prop) : Prop :=
  sx_1 Tryz.prog F 49 (cp [1, 1, 1, 1] (bodyOf Tryz.f68)) (ap [1, 1, 1, 1] slices_BinarySearchFunc_Sapi_Point_api_Point_int_an) [(0, .slice x xL xC), (1, .int .i64 target), (2, cmp), (8, .int .i64 nv), (9, .int .i64 i)] h (slices_BinarySearchFunc_Sapi_Point_api_Point_int_K0  K)
theorem slices_BinarySearchFunc_Sapi_Point_api_Point_int_b0_eq (x : Option Addr) (xL : Nat) (xC : Nat) (target : Int) (cmp : Value) (h : Hp)  (K : Value → Hp → Prop) : slices_BinarySearchFunc_Sapi_Point_api_Point_int_b0 x xL xC target cmp h  K = (
  LoopVC ((0, (xL : Int), ()) : Int × Int × Unit) h (fun (nx0 : Int × Int × Unit → Hp → Prop) (s1 : Int × Int × Unit) h1 => slices_BinarySearchFunc_Sapi_Point_api_Point_int_b1 s1.1 s1.2.1 x xL xC target cmp (xL : Int) h1 nx0 K)) := by kernel_rfl
theorem slices_BinarySearchFunc_Sapi_Point_api_Point_int_b1_eq (i : Int) (j : Int) (x : Option Addr) (xL : Nat) (xC : Nat) (target : Int) (cmp : Value) (nv : Int) (h : Hp) (nx0 : Int × Int × Unit → Hp → Prop) (K : Value → Hp → Prop) : slices_BinarySearchFunc_Sapi_Point_api_Point_int_b1 i j x xL xC target cmp nv h nx0 K = (
  cond (decide (i < j))
  (InR (i + j) ∧
  ∃ sr1 : Int, Sx.Shr .u64 (IntKind.u64.wrap (i + j)) 1 sr1 ∧
  InR sr1 ∧
  (0 ≤ sr1 ∧ sr1 < (xL : Int)) ∧
  NN x fun a1 =>
  ∃ n1 : Int, ∃ n2 : Int, ∃ n3 : Int, cell h (a1.add (Int.toNat sr1 * 3)) = some (.int .i64 n1) ∧
  cell h ((a1.add (Int.toNat sr1 * 3)).add 1) = some (.int .i64 n2) ∧
  cell h ((a1.add (Int.toNat sr1 * 3)).add 2) = some (.int .i64 n3) ∧
  funV cmp fun fg1 fa1 fc1 => callX Tryz.prog F fg1 (fa1 ++ (([.agg #[.int .i64 n1, .int .i64 n2, .int .i64 n3], .int .i64 target] : List Value) ++ fc1)).toArray h fun v1 h2 => ∃ r1 : Int, v1 = .int .i64 r1 ∧
  cond (decide (r1 < 0))
  (InR (sr1 + 1) ∧
  nx0 (sr1 + 1, j, ()) h2)
  (nx0 (i, sr1, ()) h2))
  (slices_BinarySearchFunc_Sapi_Point_api_Point_int_b2 x xL xC target cmp nv i h  K)) := by kernel_rfl
theorem slices_BinarySearchFunc_Sapi_Point_api_Point_int_b2_eq (x : Option Addr) (xL : Nat) (xC : Nat) (target : Int) (cmp : Value) (nv : Int) (i : Int) (h : Hp)  (K : Value → Hp → Prop) : slices_BinarySearchFunc_Sapi_Point_api_Point_int_b2 x xL xC target cmp nv i h  K = (
  cond (decide (i < nv))
  ((0 ≤ i ∧ i < (xL : Int)) ∧
  NN x fun a2 =>
  ∃ n4 : Int, ∃ n5 : Int, ∃ n6 : Int, cell h (a2.add (Int.toNat i * 3)) = some (.int .i64 n4) ∧
  cell h ((a2.add (Int.toNat i * 3)).add 1) = some (.int .i64 n5) ∧
  cell h ((a2.add (Int.toNat i * 3)).add 2) = some (.int .i64 n6) ∧
  funV cmp fun fg2 fa2 fc2 => callX Tryz.prog F fg2 (fa2 ++ (([.agg #[.int .i64 n4, .int .i64 n5, .int .i64 n6], .int .i64 target] : List Value) ++ fc2)).toArray h fun v2 h3 => ∃ r2 : Int, v2 = .int .i64 r2 ∧
  K (.tuple #[.int .i64 i, .bool (decide (r2 = 0))]) h3)
  (K (.tuple #[.int .i64 i, .bool false]) h)) := by kernel_rfl
theorem slices_BinarySearchFunc_Sapi_Point_api_Point_int_call {x : Option Addr} {xL : Nat} {xC : Nat} {target : Int} {cmp : Value} {h : Hp} {K : Value → Hp → Prop} (hk : slices_BinarySearchFunc_Sapi_Point_api_Point_int_b0 x xL xC target cmp h K) : HCalls Tryz.prog 68 #[.slice x xL xC, .int .i64 target, cmp] h K :=
  calls_of_snd slices_BinarySearchFunc_Sapi_Point_api_Point_int_an Tryz.func68 (c := bodyOf Tryz.f68) rfl Tryz.ntmps68 (Nat.le_of_ble_eq_true rfl) (snd_2 F_ok F_mixed) hk

/-! ### rangetree_part_rectangle_c1 -/
def rangetree_part_rectangle_c1_an : Ann := .leaf
def rangetree_part_rectangle_c1_K0  (K : Value → Hp → Prop) : Exit → Env → Hp → Prop := retK Tryz.prog Tryz.f69.results.toList K
def rangetree_part_rectangle_c1_b0 (p_0 : Int) (p_1 : Int) (p_2 : Int) (x : Int) (h : Hp)  (K : Value → Hp → Prop) : Prop :=
  sx_1 Tryz.prog F 9 (cp [] (bodyOf Tryz.f69)) (ap [] rangetree_part_rectangle_c1_an) [(0, .agg #[.int .i64 p_0, .int .i64 p_1, .int .i64 p_2]), (1, .int .i64 x)] h (rangetree_part_rectangle_c1_K0  K)
theorem rangetree_part_rectangle_c1_b0_eq (p_0 : Int) (p_1 : Int) (p_2 : Int) (x : Int) (h : Hp)  (K : Value → Hp → Prop) : rangetree_part_rectangle_c1_b0 p_0 p_1 p_2 x h  K = (
  New h (.cells #[.int .i64 p_0, .int .i64 p_1, .int .i64 p_2] 43) fun b1 h1 =>
  ∃ n1 : Int, cell h1 ⟨b1, 0, none⟩ = some (.int .i64 n1) ∧
  HCalls Tryz.prog 70 #[.int .i64 n1, .int .i64 x] h1 fun v1 h2 => ∃ r1 : Int, v1 = .int .i64 r1 ∧
  K (.int .i64 r1) h2) := by kernel_rfl
theorem rangetree_part_rectangle_c1_call {p_0 : Int} {p_1 : Int} {p_2 : Int} {x : Int} {h : Hp} {K : Value → Hp → Prop} (hk : rangetree_part_rectangle_c1_b0 p_0 p_1 p_2 x h K) : HCalls Tryz.prog 69 #[.agg #[.int .i64 p_0, .int .i64 p_1, .int .i64 p_2], .int .i64 x] h K :=
  calls_of_snd rangetree_part_rectangle_c1_an Tryz.func69 (c := bodyOf Tryz.f69) rfl Tryz.ntmps69 (Nat.le_of_ble_eq_true rfl) (snd_1 F_ok F_mixed) hk

/-! ### cmp_Compare_int -/
def cmp_Compare_int_an : Ann := .leaf
def cmp_Compare_int_K0  (K : Value → Hp → Prop) : Exit → Env → Hp → Prop := retK Tryz.prog Tryz.f70.results.toList K
def cmp_Compare_int_b0 (x : Int) (y : Int) (h : Hp)  (K : Value → Hp → Prop) : Prop :=
  sx_1 Tryz.prog F 20 (cp [] (bodyOf Tryz.f70)) (ap [] cmp_Compare_int_an) [(0, .int .i64 x), (1, .int .i64 y)] h (cmp_Compare_int_K0  K)
theorem cmp_Compare_int_b0_eq (x : Int) (y : Int) (h : Hp)  (K : Value → Hp → Prop) : cmp_Compare_int_b0 x y h  K = (
  HCalls Tryz.prog 86 #[.int .i64 x] h fun v1 h1 => ∃ r1 : Bool, v1 = .bool r1 ∧
  HCalls Tryz.prog 86 #[.int .i64 y] h1 fun v2 h2 => ∃ r2 : Bool, v2 = .bool r2 ∧
  cond r1
  (cond r2
  (K (.int .i64 0) h2)
  (K (.int .i64 (-1)) h2))
  (cond r2
  (K (.int .i64 1) h2)
  (cond (decide (x < y))
  (K (.int .i64 (-1)) h2)
  (cond (decide (y < x))
  (K (.int .i64 1) h2)
  (K (.int .i64 0) h2))))) := by kernel_rfl
theorem cmp_Compare_int_call {x : Int} {y : Int} {h : Hp} {K : Value → Hp → Prop} (hk : cmp_Compare_int_b0 x y h K) : HCalls Tryz.prog 70 #[.int .i64 x, .int .i64 y] h K :=
  calls_of_snd cmp_Compare_int_an Tryz.func70 (c := bodyOf Tryz.f70) rfl Tryz.ntmps70 (Nat.le_of_ble_eq_true rfl) (snd_1 F_ok F_mixed) hk

/-! ### rangetree_part_rectangle_c2 -/
def rangetree_part_rectangle_c2_an : Ann := .leaf
def rangetree_part_rectangle_c2_K0  (K : Value → Hp → Prop) : Exit → Env → Hp → Prop := retK Tryz.prog Tryz.f71.results.toList K
def rangetree_part_rectangle_c2_b0 (p_0 : Int) (p_1 : Int) (p_2 : Int) (x : Int) (h : Hp)  (K : Value → Hp → Prop) : Prop :=
  sx_1 Tryz.prog F 9 (cp [] (bodyOf Tryz.f71)) (ap [] rangetree_part_rectangle_c2_an) [(0, .agg #[.int .i64 p_0, .int .i64 p_1, .int .i64 p_2]), (1, .int .i64 x)] h (rangetree_part_rectangle_c2_K0  K)
theorem rangetree_part_rectangle_c2_b0_eq (p_0 : Int) (p_1 : Int) (p_2 : Int) (x : Int) (h : Hp)  (K : Value → Hp → Prop) : rangetree_part_rectangle_c2_b0 p_0 p_1 p_2 x h  K = (
  New h (.cells #[.int .i64 p_0, .int .i64 p_1, .int .i64 p_2] 43) fun b1 h1 =>
  ∃ n1 : Int, cell h1 ⟨b1, 0, none⟩ = some (.int .i64 n1) ∧
  cond (decide (n1 ≤ x))
  (K (.int .i64 (-1)) h1)
  (K (.int .i64 1) h1)) := by kernel_rfl
theorem rangetree_part_rectangle_c2_call {p_0 : Int} {p_1 : Int} {p_2 : Int} {x : Int} {h : Hp} {K : Value → Hp → Prop} (hk : rangetree_part_rectangle_c2_b0 p_0 p_1 p_2 x h K) : HCalls Tryz.prog 71 #[.agg #[.int .i64 p_0, .int .i64 p_1, .int .i64 p_2], .int .i64 x] h K :=
  calls_of_snd rangetree_part_rectangle_c2_an Tryz.func71 (c := bodyOf Tryz.f71) rfl Tryz.ntmps71 (Nat.le_of_ble_eq_true rfl) (snd_1 F_ok F_mixed) hk

/-! ### rangetree_layer_ask -/
def rangetree_layer_ask_an : Ann := .node none (.leaf) (.node none (.leaf) (.node (some [0, 1, 2, 3, 4, 5]) (.leaf) (.leaf)))
def rangetree_layer_ask_K0  (K : Value → Hp → Prop) : Exit → Env → Hp → Prop := retK Tryz.prog Tryz.f72.results.toList K
def rangetree_layer_ask_b0 (nv : Option Addr) (size : Int) (fromv : Int) (to : Int) (y1 : Int) (y2 : Int) (h : Hp)  (K : Value → Hp → Prop) : Prop :=
  sx_2 Tryz.prog F 115 (cp [] (bodyOf Tryz.f72)) (ap [] rangetree_layer_ask_an) [(0, .pointer nv), (1, .int .i64 size), (2, .int .i64 fromv), (3, .int .i64 to), (4, .int .i64 y1), (5, .int .i64 y2)] h (rangetree_layer_ask_K0  K)
def rangetree_layer_ask_b1 (nv : Option Addr) (size : Int) (fromv : Int) (to : Int) (y1 : Int) (y2 : Int) (h : Hp)  (K : Value → Hp → Prop) : Prop :=
  sx_1 Tryz.prog F 115 (cp [1, 1, 1] (bodyOf Tryz.f72)) (ap [1, 1, 1] rangetree_layer_ask_an) [(0, .pointer nv), (1, .int .i64 size), (2, .int .i64 fromv), (3, .int .i64 to), (4, .int .i64 y1), (5, .int .i64 y2)] h (rangetree_layer_ask_K0  K)
theorem rangetree_layer_ask_b0_eq (nv : Option Addr) (size : Int) (fromv : Int) (to : Int) (y1 : Int) (y2 : Int) (h : Hp)  (K : Value → Hp → Prop) : rangetree_layer_ask_b0 nv size fromv to y1 y2 h  K = (
  cond (decide (to ≤ fromv))
  (K (.tuple #[.int .i64 0, .int .i64 0]) h)
  (cond (decide (fromv ≤ 0))
  (cond (decide (size ≤ to))
  (NN nv fun a1 =>
  ∃ (a2 : Option Addr) (L1 C1 : Nat), cell h a1 = some (.slice a2 L1 C1) ∧
  HCalls Tryz.prog 87 #[.slice a2 L1 C1, .int .i64 y1] h fun v1 h1 => ∃ r1 : Int, ∃ r2 : Bool, v1 = .tuple #[.int .i64 r1, .bool r2] ∧
  NN nv fun a3 =>
  ∃ (a4 : Option Addr) (L2 C2 : Nat), cell h1 a3 = some (.slice a4 L2 C2) ∧
  HCalls Tryz.prog 88 #[.slice a4 L2 C2, .int .i64 y2, .func (.func 89) #[] #[]] h1 fun v2 h2 => ∃ r3 : Int, ∃ r4 : Bool, v2 = .tuple #[.int .i64 r3, .bool r4] ∧
  cond (decide (r3 ≤ r1))
  (K (.tuple #[.int .i64 0, .int .i64 0]) h2)
  (InR (r3 - r1) ∧
  NN nv fun a5 =>
  ∃ (a6 : Option Addr) (L3 C3 : Nat), cell h2 (a5.add 1) = some (.slice a6 L3 C3) ∧
  (0 ≤ r3 ∧ r3 < (L3 : Int)) ∧
  NN a6 fun a7 =>
  ∃ n1 : Int, cell h2 (a7.add (Int.toNat r3 * 1)) = some (.int .i64 n1) ∧
  NN nv fun a8 =>
  ∃ (a9 : Option Addr) (L4 C4 : Nat), cell h2 (a8.add 1) = some (.slice a9 L4 C4) ∧
  (0 ≤ r1 ∧ r1 < (L4 : Int)) ∧
  NN a9 fun a10 =>
  ∃ n2 : Int, cell h2 (a10.add (Int.toNat r1 * 1)) = some (.int .i64 n2) ∧
  InR (n1 - n2) ∧
  K (.tuple #[.int .i64 (r3 - r1), .int .i64 (n1 - n2)]) h2))
  (rangetree_layer_ask_b1 nv size fromv to y1 y2 h  K))
  (rangetree_layer_ask_b1 nv size fromv to y1 y2 h  K))) := by kernel_rfl
theorem rangetree_layer_ask_b1_eq (nv : Option Addr) (size : Int) (fromv : Int) (to : Int) (y1 : Int) (y2 : Int) (h : Hp)  (K : Value → Hp → Prop) : rangetree_layer_ask_b1 nv size fromv to y1 y2 h  K = (
  ∃ q1 : Int, Sx.Quo .i64 size 2 q1 ∧
  NN nv fun a11 =>
  ∃ p1 : Option Addr, cell h (a11.add 2) = some (.pointer p1) ∧
  HCalls Tryz.prog 72 #[.pointer p1, .int .i64 q1, .int .i64 fromv, .int .i64 (if q1 < to then q1 else to), .int .i64 y1, .int .i64 y2] h fun v3 h3 => ∃ r5 : Int, ∃ r6 : Int, v3 = .tuple #[.int .i64 r5, .int .i64 r6] ∧
  NN nv fun a12 =>
  ∃ p2 : Option Addr, cell h3 (a12.add 3) = some (.pointer p2) ∧
  InR (size - q1) ∧
  InR (fromv - q1) ∧
  InR (to - q1) ∧
  HCalls Tryz.prog 72 #[.pointer p2, .int .i64 (size - q1), .int .i64 (if 0 < fromv - q1 then fromv - q1 else 0), .int .i64 (to - q1), .int .i64 y1, .int .i64 y2] h3 fun v4 h4 => ∃ r7 : Int, ∃ r8 : Int, v4 = .tuple #[.int .i64 r7, .int .i64 r8] ∧
  InR (r5 + r7) ∧
  InR (r6 + r8) ∧
  K (.tuple #[.int .i64 (r5 + r7), .int .i64 (r6 + r8)]) h4) := by kernel_rfl
theorem rangetree_layer_ask_call {nv : Option Addr} {size : Int} {fromv : Int} {to : Int} {y1 : Int} {y2 : Int} {h : Hp} {K : Value → Hp → Prop} (hk : rangetree_layer_ask_b0 nv size fromv to y1 y2 h K) : HCalls Tryz.prog 72 #[.pointer nv, .int .i64 size, .int .i64 fromv, .int .i64 to, .int .i64 y1, .int .i64 y2] h K :=
  calls_of_snd rangetree_layer_ask_an Tryz.func72 (c := bodyOf Tryz.f72) rfl Tryz.ntmps72 (Nat.le_of_ble_eq_true rfl) (snd_2 F_ok F_mixed) hk

/-! ### slices_pdqsortCmpFunc_api_Point -/
def slices_pdqsortCmpFunc_api_Point_an : Ann := .node none (.leaf) (.node none (.leaf) (.loop [0, 4] [(1, .int .i64), (2, .int .i64), (3, .int .i64), (10, .bool), (11, .bool)] (.node none (.leaf) (.node none (.leaf) (.node none (.leaf) (.node (some [0, 1, 2, 3, 4, 10, 11, 12]) (.leaf) (.node none (.leaf) (.node (some [0, 1, 2, 3, 4, 10, 11, 12, 13, 14]) (.leaf) (.node (some [0, 1, 2, 3, 4, 10, 11, 12, 13]) (.leaf) (.node (some [0, 1, 2, 3, 4, 12, 13]) (.node none (.tail 13) (.leaf)) (.leaf)))))))))))
def slices_pdqsortCmpFunc_api_Point_K0  (K : Value → Hp → Prop) : Exit → Env → Hp → Prop := retK Tryz.prog Tryz.f73.results.toList K
def slices_pdqsortCmpFunc_api_Point_K1  (K : Value → Hp → Prop) : Exit → Env → Hp → Prop := blockE 0 (slices_pdqsortCmpFunc_api_Point_K0  K)
def slices_pdqsortCmpFunc_api_Point_K2 (nx0 : Int × Int × Int × Bool × Bool × Unit → Hp → Prop) (K : Value → Hp → Prop) : Exit → Env → Hp → Prop := thenE (fun env h => getV [(1, .int .i64), (2, .int .i64), (3, .int .i64), (10, .bool), (11, .bool)] env fun s => nx0 s h) (slices_pdqsortCmpFunc_api_Point_K1  K)
def slices_pdqsortCmpFunc_api_Point_K3 (nx0 : Int × Int × Int × Bool × Bool × Unit → Hp → Prop) (K : Value → Hp → Prop) : Exit → Env → Hp → Prop := blockE 1 (slices_pdqsortCmpFunc_api_Point_K2 nx0 K)
def slices_pdqsortCmpFunc_api_Point_b0 (data : Option Addr) (dataL : Nat) (dataC : Nat) (a : Int) (b : Int) (limit : Int) (cmp : Value) (h : Hp)  (K : Value → Hp → Prop) : Prop :=
  sx_6 Tryz.prog F 148 (cp [] (bodyOf Tryz.f73)) (ap [] slices_pdqsortCmpFunc_api_Point_an) [(0, .slice data dataL dataC), (1, .int .i64 a), (2, .int .i64 b), (3, .int .i64 limit), (4, cmp)] h (slices_pdqsortCmpFunc_api_Point_K0  K)
def slices_pdqsortCmpFunc_api_Point_b1 (a : Int) (b : Int) (limit : Int) (wasBalanced : Bool) (wasPartitioned : Bool) (data : Option Addr) (dataL : Nat) (dataC : Nat) (cmp : Value) (h : Hp) (nx0 : Int × Int × Int × Bool × Bool × Unit → Hp → Prop) (K : Value → Hp → Prop) : Prop :=
  sx_5 Tryz.prog F 148 (cp [1, 1, 2, 2] (bodyOf Tryz.f73)) (ap [1, 1, 2] slices_pdqsortCmpFunc_api_Point_an) [(1, .int .i64 a), (2, .int .i64 b), (3, .int .i64 limit), (10, .bool wasBalanced), (11, .bool wasPartitioned), (0, .slice data dataL dataC), (4, cmp)] h (slices_pdqsortCmpFunc_api_Point_K2 nx0 K)
def slices_pdqsortCmpFunc_api_Point_b2 (data : Option Addr) (dataL : Nat) (dataC : Nat) (a : Int) (b : Int) (limit : Int) (cmp : Value) (wasBalanced : Bool) (wasPartitioned : Bool) (length : Int) (h : Hp) (nx0 : Int × Int × Int × Bool × Bool × Unit → Hp → Prop) (K : Value → Hp → Prop) : Prop :=
  sx_4 Tryz.prog F 148 (cp [1, 1, 2, 2, 2, 1, 1, 1, 1] (bodyOf Tryz.f73)) (ap [1, 1, 2, 1, 1, 1, 1] slices_pdqsortCmpFunc_api_Point_an) [(0, .slice data dataL dataC), (1, .int .i64 a), (2, .int .i64 b), (3, .int .i64 limit), (4, cmp), (10, .bool wasBalanced), (11, .bool wasPartitioned), (12, .int .i64 length)] h (slices_pdqsortCmpFunc_api_Point_K3 nx0 K)
def slices_pdqsortCmpFunc_api_Point_b3 (data : Option Addr) (dataL : Nat) (dataC : Nat) (a : Int) (b : Int) (limit : Int) (cmp : Value) (wasBalanced : Bool) (wasPartitioned : Bool) (length : Int) (pivot : Int) (hint : Int) (h : Hp) (nx0 : Int × Int × Int × Bool × Bool × Unit → Hp → Prop) (K : Value → Hp → Prop) : Prop :=
  sx_3 Tryz.prog F 148 (cp [1, 1, 2, 2, 2, 1, 1, 1, 1, 1, 1] (bodyOf Tryz.f73)) (ap [1, 1, 2, 1, 1, 1, 1, 1, 1] slices_pdqsortCmpFunc_api_Point_an) [(0, .slice data dataL dataC), (1, .int .i64 a), (2, .int .i64 b), (3, .int .i64 limit), (4, cmp), (10, .bool wasBalanced), (11, .bool wasPartitioned), (12, .int .i64 length), (13, .int .i64 pivot), (14, .int .i64 hint)] h (slices_pdqsortCmpFunc_api_Point_K3 nx0 K)
def slices_pdqsortCmpFunc_api_Point_b4 (data : Option Addr) (dataL : Nat) (dataC : Nat) (a : Int) (b : Int) (limit : Int) (cmp : Value) (wasBalanced : Bool) (wasPartitioned : Bool) (length : Int) (pivot : Int) (h : Hp) (nx0 : Int × Int × Int × Bool × Bool × Unit → Hp → Prop) (K : Value → Hp → Prop) : Prop :=
  sx_2 Tryz.prog F 148 (cp [1, 1, 2, 2, 2, 1, 1, 1, 1, 1, 1, 1] (bodyOf Tryz.f73)) (ap [1, 1, 2, 1, 1, 1, 1, 1, 1, 1] slices_pdqsortCmpFunc_api_Point_an) [(0, .slice data dataL dataC), (1, .int .i64 a), (2, .int .i64 b), (3, .int .i64 limit), (4, cmp), (10, .bool wasBalanced), (11, .bool wasPartitioned), (12, .int .i64 length), (13, .int .i64 pivot)] h (slices_pdqsortCmpFunc_api_Point_K3 nx0 K)
def slices_pdqsortCmpFunc_api_Point_b5 (data : Option Addr) (dataL : Nat) (dataC : Nat) (a : Int) (b : Int) (limit : Int) (cmp : Value) (length : Int) (pivot : Int) (h : Hp) (nx0 : Int × Int × Int × Bool × Bool × Unit → Hp → Prop) (K : Value → Hp → Prop) : Prop :=
  sx_1 Tryz.prog F 148 (cp [1, 1, 2, 2, 2, 1, 1, 1, 1, 1, 1, 1, 1] (bodyOf Tryz.f73)) (ap [1, 1, 2, 1, 1, 1, 1, 1, 1, 1, 1] slices_pdqsortCmpFunc_api_Point_an) [(0, .slice data dataL dataC), (1, .int .i64 a), (2, .int .i64 b), (3, .int .i64 limit), (4, cmp), (12, .int .i64 length), (13, .int .i64 pivot)] h (slices_pdqsortCmpFunc_api_Point_K3 nx0 K)
theorem slices_pdqsortCmpFunc_api_Point_b0_eq (data : Option Addr) (dataL : Nat) (dataC : Nat) (a : Int) (b : Int) (limit : Int) (cmp : Value) (h : Hp)  (K : Value → Hp → Prop) : slices_pdqsortCmpFunc_api_Point_b0 data dataL dataC a b limit cmp h  K = (
  LoopVC ((a, b, limit, true, true, ()) : Int × Int × Int × Bool × Bool × Unit) h (fun (nx0 : Int × Int × Int × Bool × Bool × Unit → Hp → Prop) (s1 : Int × Int × Int × Bool × Bool × Unit) h1 => slices_pdqsortCmpFunc_api_Point_b1 s1.1 s1.2.1 s1.2.2.1 s1.2.2.2.1 s1.2.2.2.2.1 data dataL dataC cmp h1 nx0 K)) := by kernel_rfl
theorem slices_pdqsortCmpFunc_api_Point_b1_eq (a : Int) (b : Int) (limit : Int) (wasBalanced : Bool) (wasPartitioned : Bool) (data : Option Addr) (dataL : Nat) (dataC : Nat) (cmp : Value) (h : Hp) (nx0 : Int × Int × Int × Bool × Bool × Unit → Hp → Prop) (K : Value → Hp → Prop) : slices_pdqsortCmpFunc_api_Point_b1 a b limit wasBalanced wasPartitioned data dataL dataC cmp h nx0 K = (
  InR (b - a) ∧
  cond (decide ((b - a) ≤ 12))
  (HCalls Tryz.prog 90 #[.slice data dataL dataC, .int .i64 a, .int .i64 b, cmp] h fun v1 h2 => v1 = .tuple #[] ∧
  K (.tuple #[]) h2)
  (cond (decide (limit = 0))
  (HCalls Tryz.prog 91 #[.slice data dataL dataC, .int .i64 a, .int .i64 b, cmp] h fun v2 h3 => v2 = .tuple #[] ∧
  K (.tuple #[]) h3)
  (cond (!wasBalanced)
  (HCalls Tryz.prog 92 #[.slice data dataL dataC, .int .i64 a, .int .i64 b, cmp] h fun v3 h4 => v3 = .tuple #[] ∧
  InR (limit - 1) ∧
  slices_pdqsortCmpFunc_api_Point_b2 data dataL dataC a b (limit - 1) cmp wasBalanced wasPartitioned (b - a) h4 nx0 K)
  (slices_pdqsortCmpFunc_api_Point_b2 data dataL dataC a b limit cmp wasBalanced wasPartitioned (b - a) h nx0 K)))) := by kernel_rfl
theorem slices_pdqsortCmpFunc_api_Point_b2_eq (data : Option Addr) (dataL : Nat) (dataC : Nat) (a : Int) (b : Int) (limit : Int) (cmp : Value) (wasBalanced : Bool) (wasPartitioned : Bool) (length : Int) (h : Hp) (nx0 : Int × Int × Int × Bool × Bool × Unit → Hp → Prop) (K : Value → Hp → Prop) : slices_pdqsortCmpFunc_api_Point_b2 data dataL dataC a b limit cmp wasBalanced wasPartitioned length h nx0 K = (
  HCalls Tryz.prog 93 #[.slice data dataL dataC, .int .i64 a, .int .i64 b, cmp] h fun v4 h5 => ∃ r1 : Int, ∃ r2 : Int, v4 = .tuple #[.int .i64 r1, .int .i64 r2] ∧
  cond (decide (r2 = 2))
  (HCalls Tryz.prog 94 #[.slice data dataL dataC, .int .i64 a, .int .i64 b, cmp] h5 fun v5 h6 => v5 = .tuple #[] ∧
  InR (b - 1) ∧
  InR (r1 - a) ∧
  InR ((b - 1) - (r1 - a)) ∧
  slices_pdqsortCmpFunc_api_Point_b3 data dataL dataC a b limit cmp wasBalanced wasPartitioned length ((b - 1) - (r1 - a)) 1 h6 nx0 K)
  (slices_pdqsortCmpFunc_api_Point_b3 data dataL dataC a b limit cmp wasBalanced wasPartitioned length r1 r2 h5 nx0 K)) := by kernel_rfl
theorem slices_pdqsortCmpFunc_api_Point_b3_eq (data : Option Addr) (dataL : Nat) (dataC : Nat) (a : Int) (b : Int) (limit : Int) (cmp : Value) (wasBalanced : Bool) (wasPartitioned : Bool) (length : Int) (pivot : Int) (hint : Int) (h : Hp) (nx0 : Int × Int × Int × Bool × Bool × Unit → Hp → Prop) (K : Value → Hp → Prop) : slices_pdqsortCmpFunc_api_Point_b3 data dataL dataC a b limit cmp wasBalanced wasPartitioned length pivot hint h nx0 K = (
  cond wasBalanced
  (cond wasPartitioned
  (cond (decide (hint = 1))
  (HCalls Tryz.prog 95 #[.slice data dataL dataC, .int .i64 a, .int .i64 b, cmp] h fun v6 h7 => ∃ r3 : Bool, v6 = .bool r3 ∧
  cond r3
  (K (.tuple #[]) h7)
  (slices_pdqsortCmpFunc_api_Point_b4 data dataL dataC a b limit cmp wasBalanced wasPartitioned length pivot h7 nx0 K))
  (slices_pdqsortCmpFunc_api_Point_b4 data dataL dataC a b limit cmp wasBalanced wasPartitioned length pivot h nx0 K))
  (slices_pdqsortCmpFunc_api_Point_b4 data dataL dataC a b limit cmp wasBalanced wasPartitioned length pivot h nx0 K))
  (slices_pdqsortCmpFunc_api_Point_b4 data dataL dataC a b limit cmp wasBalanced wasPartitioned length pivot h nx0 K)) := by kernel_rfl
theorem slices_pdqsortCmpFunc_api_Point_b4_eq (data : Option Addr) (dataL : Nat) (dataC : Nat) (a : Int) (b : Int) (limit : Int) (cmp : Value) (wasBalanced : Bool) (wasPartitioned : Bool) (length : Int) (pivot : Int) (h : Hp) (nx0 : Int × Int × Int × Bool × Bool × Unit → Hp → Prop) (K : Value → Hp → Prop) : slices_pdqsortCmpFunc_api_Point_b4 data dataL dataC a b limit cmp wasBalanced wasPartitioned length pivot h nx0 K = (
  cond (decide ((0 : Int) < a))
  (InR (a - 1) ∧
  (0 ≤ a - 1 ∧ a - 1 < (dataL : Int)) ∧
  NN data fun a1 =>
  ∃ n1 : Int, ∃ n2 : Int, ∃ n3 : Int, cell h (a1.add (Int.toNat (a - 1) * 3)) = some (.int .i64 n1) ∧
  cell h ((a1.add (Int.toNat (a - 1) * 3)).add 1) = some (.int .i64 n2) ∧
  cell h ((a1.add (Int.toNat (a - 1) * 3)).add 2) = some (.int .i64 n3) ∧
  (0 ≤ pivot ∧ pivot < (dataL : Int)) ∧
  NN data fun a2 =>
  ∃ n4 : Int, ∃ n5 : Int, ∃ n6 : Int, cell h (a2.add (Int.toNat pivot * 3)) = some (.int .i64 n4) ∧
  cell h ((a2.add (Int.toNat pivot * 3)).add 1) = some (.int .i64 n5) ∧
  cell h ((a2.add (Int.toNat pivot * 3)).add 2) = some (.int .i64 n6) ∧
  funV cmp fun fg1 fa1 fc1 => callX Tryz.prog F fg1 (fa1 ++ (([.agg #[.int .i64 n1, .int .i64 n2, .int .i64 n3], .agg #[.int .i64 n4, .int .i64 n5, .int .i64 n6]] : List Value) ++ fc1)).toArray h fun v7 h8 => ∃ r4 : Int, v7 = .int .i64 r4 ∧
  cond (!(decide (r4 < 0)))
  (HCalls Tryz.prog 96 #[.slice data dataL dataC, .int .i64 a, .int .i64 b, .int .i64 pivot, cmp] h8 fun v8 h9 => ∃ r5 : Int, v8 = .int .i64 r5 ∧
  nx0 (r5, b, limit, wasBalanced, wasPartitioned, ()) h9)
  (slices_pdqsortCmpFunc_api_Point_b5 data dataL dataC a b limit cmp length pivot h8 nx0 K))
  (slices_pdqsortCmpFunc_api_Point_b5 data dataL dataC a b limit cmp length pivot h nx0 K)) := by kernel_rfl
theorem slices_pdqsortCmpFunc_api_Point_b5_eq (data : Option Addr) (dataL : Nat) (dataC : Nat) (a : Int) (b : Int) (limit : Int) (cmp : Value) (length : Int) (pivot : Int) (h : Hp) (nx0 : Int × Int × Int × Bool × Bool × Unit → Hp → Prop) (K : Value → Hp → Prop) : slices_pdqsortCmpFunc_api_Point_b5 data dataL dataC a b limit cmp length pivot h nx0 K = (
  HCalls Tryz.prog 97 #[.slice data dataL dataC, .int .i64 a, .int .i64 b, .int .i64 pivot, cmp] h fun v9 h10 => ∃ r6 : Int, ∃ r7 : Bool, v9 = .tuple #[.int .i64 r6, .bool r7] ∧
  InR (r6 - a) ∧
  InR (b - r6) ∧
  ∃ q1 : Int, Sx.Quo .i64 length 8 q1 ∧
  cond (decide ((r6 - a) < (b - r6)))
  (HCalls Tryz.prog 73 #[.slice data dataL dataC, .int .i64 a, .int .i64 r6, .int .i64 limit, cmp] h10 fun v10 h11 => v10 = .tuple #[] ∧
  InR (r6 + 1) ∧
  nx0 (r6 + 1, b, limit, decide (q1 ≤ (r6 - a)), r7, ()) h11)
  (InR (r6 + 1) ∧
  HCalls Tryz.prog 73 #[.slice data dataL dataC, .int .i64 (r6 + 1), .int .i64 b, .int .i64 limit, cmp] h10 fun v11 h12 => v11 = .tuple #[] ∧
  nx0 (a, r6, limit, decide (q1 ≤ (b - r6)), r7, ()) h12)) := by kernel_rfl
theorem slices_pdqsortCmpFunc_api_Point_call {data : Option Addr} {dataL : Nat} {dataC : Nat} {a : Int} {b : Int} {limit : Int} {cmp : Value} {h : Hp} {K : Value → Hp → Prop} (hk : slices_pdqsortCmpFunc_api_Point_b0 data dataL dataC a b limit cmp h K) : HCalls Tryz.prog 73 #[.slice data dataL dataC, .int .i64 a, .int .i64 b, .int .i64 limit, cmp] h K :=
  calls_of_snd slices_pdqsortCmpFunc_api_Point_an Tryz.func73 (c := bodyOf Tryz.f73) rfl Tryz.ntmps73 (Nat.le_of_ble_eq_true rfl) (snd_6 F_ok F_mixed) hk

/-! ### math_bits_Len -/
def math_bits_Len_an : Ann := .leaf
def math_bits_Len_K0  (K : Value → Hp → Prop) : Exit → Env → Hp → Prop := retK Tryz.prog Tryz.f74.results.toList K
def math_bits_Len_b0 (x : Int) (h : Hp)  (K : Value → Hp → Prop) : Prop :=
  sx_1 Tryz.prog F 8 (cp [] (bodyOf Tryz.f74)) (ap [] math_bits_Len_an) [(0, .int .u64 x)] h (math_bits_Len_K0  K)
theorem math_bits_Len_b0_eq (x : Int) (h : Hp)  (K : Value → Hp → Prop) : math_bits_Len_b0 x h  K = (
  HCalls Tryz.prog 99 #[.int .u64 x] h fun v1 h1 => ∃ r1 : Int, v1 = .int .i64 r1 ∧
  K (.int .i64 r1) h1) := by kernel_rfl
theorem math_bits_Len_call {x : Int} {h : Hp} {K : Value → Hp → Prop} (hk : math_bits_Len_b0 x h K) : HCalls Tryz.prog 74 #[.int .u64 x] h K :=
  calls_of_snd math_bits_Len_an Tryz.func74 (c := bodyOf Tryz.f74) rfl Tryz.ntmps74 (Nat.le_of_ble_eq_true rfl) (snd_1 F_ok F_mixed) hk

/-! ### cmp_Or_int -/
def cmp_Or_int_an : Ann := .node none (.leaf) (.node none (.leaf) (.node (some [3]) (.node none (.leaf) (.loop [3, 6, 7] [(8, .int .i64)] (.node none (.leaf) (.node none (.leaf) (.node (some [3, 6, 7, 8]) (.leaf) (.leaf)))))) (.leaf)))
def cmp_Or_int_K0  (K : Value → Hp → Prop) : Exit → Env → Hp → Prop := retK Tryz.prog Tryz.f75.results.toList K
def cmp_Or_int_K1  (K : Value → Hp → Prop) : Exit → Env → Hp → Prop := thenE (fun env h => sx_2 Tryz.prog F 18 (cp [1, 1, 1] (bodyOf Tryz.f75)) (ap [1, 1, 1] cmp_Or_int_an) (rs [3] env) h (cmp_Or_int_K0  K)) (cmp_Or_int_K0  K)
def cmp_Or_int_K2  (K : Value → Hp → Prop) : Exit → Env → Hp → Prop := blockE 0 (cmp_Or_int_K1  K)
def cmp_Or_int_K3 (nx0 : Int × Unit → Hp → Prop) (K : Value → Hp → Prop) : Exit → Env → Hp → Prop := thenE (fun env h => getV [(8, .int .i64)] env fun s => nx0 s h) (cmp_Or_int_K2  K)
def cmp_Or_int_b0 (vals : Option Addr) (valsL : Nat) (valsC : Nat) (h : Hp)  (K : Value → Hp → Prop) : Prop :=
  sx_3 Tryz.prog F 18 (cp [] (bodyOf Tryz.f75)) (ap [] cmp_Or_int_an) [(0, .slice vals valsL valsC)] h (cmp_Or_int_K0  K)
def cmp_Or_int_b1 (t8 : Int) (zero : Int) (t6 : Option Addr) (t6L : Nat) (t6C : Nat) (t7 : Int) (h : Hp) (nx0 : Int × Unit → Hp → Prop) (K : Value → Hp → Prop) : Prop :=
  sx_2 Tryz.prog F 18 (cp [1, 1, 0, 1, 2, 2] (bodyOf Tryz.f75)) (ap [1, 1, 0, 1, 2] cmp_Or_int_an) [(8, .int .i64 t8), (3, .int .i64 zero), (6, .slice t6 t6L t6C), (7, .int .i64 t7)] h (cmp_Or_int_K3 nx0 K)
def cmp_Or_int_b2 (zero : Int) (t6 : Option Addr) (t6L : Nat) (t6C : Nat) (t7 : Int) (t8 : Int) (h : Hp) (nx0 : Int × Unit → Hp → Prop) (K : Value → Hp → Prop) : Prop :=
  sx_1 Tryz.prog F 18 (cp [1, 1, 0, 1, 2, 2, 1, 1, 1] (bodyOf Tryz.f75)) (ap [1, 1, 0, 1, 2, 1, 1, 1] cmp_Or_int_an) [(3, .int .i64 zero), (6, .slice t6 t6L t6C), (7, .int .i64 t7), (8, .int .i64 t8)] h (cmp_Or_int_K3 nx0 K)
def cmp_Or_int_b3 (zero : Int) (h : Hp)  (K : Value → Hp → Prop) : Prop :=
  sx_2 Tryz.prog F 18 (cp [1, 1, 1] (bodyOf Tryz.f75)) (ap [1, 1, 1] cmp_Or_int_an) [(3, .int .i64 zero)] h (cmp_Or_int_K0  K)
theorem cmp_Or_int_b0_eq (vals : Option Addr) (valsL : Nat) (valsC : Nat) (h : Hp)  (K : Value → Hp → Prop) : cmp_Or_int_b0 vals valsL valsC h  K = (
  LoopVC ((0, ()) : Int × Unit) h (fun (nx0 : Int × Unit → Hp → Prop) (s1 : Int × Unit) h1 => cmp_Or_int_b1 s1.1 0 vals valsL valsC (valsL : Int) h1 nx0 K)) := by kernel_rfl
theorem cmp_Or_int_b1_eq (t8 : Int) (zero : Int) (t6 : Option Addr) (t6L : Nat) (t6C : Nat) (t7 : Int) (h : Hp) (nx0 : Int × Unit → Hp → Prop) (K : Value → Hp → Prop) : cmp_Or_int_b1 t8 zero t6 t6L t6C t7 h nx0 K = (
  cond (decide (t8 < t7))
  ((0 ≤ t8 ∧ t8 < (t6L : Int)) ∧
  NN t6 fun a1 =>
  ∃ n1 : Int, cell h (a1.add (Int.toNat t8 * 1)) = some (.int .i64 n1) ∧
  cond (!decide (n1 = zero))
  (K (.int .i64 n1) h)
  (cmp_Or_int_b2 zero t6 t6L t6C t7 t8 h nx0 K))
  (cmp_Or_int_b3 zero h  K)) := by kernel_rfl
theorem cmp_Or_int_b2_eq (zero : Int) (t6 : Option Addr) (t6L : Nat) (t6C : Nat) (t7 : Int) (t8 : Int) (h : Hp) (nx0 : Int × Unit → Hp → Prop) (K : Value → Hp → Prop) : cmp_Or_int_b2 zero t6 t6L t6C t7 t8 h nx0 K = (
  InR (t8 + 1) ∧
  nx0 (t8 + 1, ()) h) := by kernel_rfl
theorem cmp_Or_int_b3_eq (zero : Int) (h : Hp)  (K : Value → Hp → Prop) : cmp_Or_int_b3 zero h  K = (
  K (.int .i64 zero) h) := by kernel_rfl
theorem cmp_Or_int_call {vals : Option Addr} {valsL : Nat} {valsC : Nat} {h : Hp} {K : Value → Hp → Prop} (hk : cmp_Or_int_b0 vals valsL valsC h K) : HCalls Tryz.prog 75 #[.slice vals valsL valsC] h K :=
  calls_of_snd cmp_Or_int_an Tryz.func75 (c := bodyOf Tryz.f75) rfl Tryz.ntmps75 (Nat.le_of_ble_eq_true rfl) (snd_3 F_ok F_mixed) hk

end Go.Proofs.YtbfejfejahoblaaGreat
