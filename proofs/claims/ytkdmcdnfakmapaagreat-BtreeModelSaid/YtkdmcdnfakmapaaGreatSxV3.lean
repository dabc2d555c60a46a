/- Plain statements of what each block of code of this seat asks; printed by a program, checked by Lean. -/
import Derived.Test.YtkdmcdnfakmapaaGreatSxV0
set_option maxRecDepth 10000
namespace Go.Proofs.YtkdmcdnfakmapaaGreat
open Go Go.Sx

/-! ### model_dict -/
def model_dict_an : Ann := .node none (.leaf) (.node none (.leaf) (.node none (.node none (.leaf) (.node none (.node (some [0, 5]) (.leaf) (.leaf)) (.leaf))) (.node none (.leaf) (.node (some [0, 3, 5, 7, 8]) (.node none (.leaf) (.node none (.leaf) (.node none (.node none (.node none (.leaf) (.node none (.node none (.tail 9) (.leaf)) (.leaf))) (.leaf)) (.leaf)))) (.node none (.leaf) (.node none (.leaf) (.node (some [0, 5, 9]) (.leaf) (.leaf))))))))
def model_dict_K0  (K : Value → Hp → Prop) : Exit → Env → Hp → Prop := retK Tryz.prog Tryz.f53.results.toList K
def model_dict_K1  (K : Value → Hp → Prop) : Exit → Env → Hp → Prop := thenE (fun env h => sx0 Tryz.prog F 143 (sx_2 Tryz.prog F 143) (cp [1, 1, 1] (bodyOf Tryz.f53)) (ap [1, 1, 1] model_dict_an) env h (model_dict_K0  K)) (model_dict_K0  K)
def model_dict_b0 (rows : Option Addr) (rowsL : Nat) (rowsC : Nat) (o_0 : Int) (o_1 : Option Addr) (o_1L : Nat) (o_1C : Nat) (h : Hp)  (K : Value → Hp → Prop) : Prop :=
  sx_3 Tryz.prog F 143 (cp [] (bodyOf Tryz.f53)) (ap [] model_dict_an) [(0, .slice rows rowsL rowsC), (1, .agg #[.int .i64 o_0, .slice o_1 o_1L o_1C])] h (model_dict_K0  K)
def model_dict_b1 (rows : Option Addr) (rowsL : Nat) (rowsC : Nat) (t5 : Option Addr) (h : Hp)  (K : Value → Hp → Prop) : Prop :=
  sx_2 Tryz.prog F 143 (cp [1, 1, 0, 1, 0, 1] (bodyOf Tryz.f53)) (ap [1, 1, 0, 1, 0, 1] model_dict_an) [(0, .slice rows rowsL rowsC), (5, .pointer t5)] h (model_dict_K1  K)
def model_dict_b2 (rows : Option Addr) (rowsL : Nat) (rowsC : Nat) (o : Option Addr) (t5 : Option Addr) (i : Int) (ok : Bool) (h : Hp)  (K : Value → Hp → Prop) : Prop :=
  sx_2 Tryz.prog F 143 (cp [1, 1, 1, 1, 1] (bodyOf Tryz.f53)) (ap [1, 1, 1, 1, 1] model_dict_an) [(0, .slice rows rowsL rowsC), (3, .pointer o), (5, .pointer t5), (7, .int .i64 i), (8, .bool ok)] h (model_dict_K0  K)
def model_dict_b3 (rows : Option Addr) (rowsL : Nat) (rowsC : Nat) (t5 : Option Addr) (v : Int) (h : Hp)  (K : Value → Hp → Prop) : Prop :=
  sx_1 Tryz.prog F 143 (cp [1, 1, 1, 1, 1, 1, 1, 1] (bodyOf Tryz.f53)) (ap [1, 1, 1, 1, 1, 1, 1, 1] model_dict_an) [(0, .slice rows rowsL rowsC), (5, .pointer t5), (9, .int .i64 v)] h (model_dict_K0  K)
theorem model_dict_b0_eq (rows : Option Addr) (rowsL : Nat) (rowsC : Nat) (o_0 : Int) (o_1 : Option Addr) (o_1L : Nat) (o_1C : Nat) (h : Hp)  (K : Value → Hp → Prop) : model_dict_b0 rows rowsL rowsC o_0 o_1 o_1L o_1C h  K = (
  New h (.cells #[.int .i64 o_0, .slice o_1 o_1L o_1C] 39) fun b1 h1 =>
  New h1 (.cells #[.int .i64 0, .int .i64 0, .slice none 0 0] 41) fun b2 h2 =>
  ∃ n1 : Int, cell h2 ⟨b1, 0, none⟩ = some (.int .i64 n1) ∧
  cond (decide (n1 = 8))
  (HCalls Tryz.prog 75 #[.int .i64 (rowsL : Int)] h2 fun v1 h3 => ∃ r1 : Int, ∃ r2 : Int, ∃ (r3 : Option Addr) (rL1 rC1 : Nat), v1 = .agg #[.int .i64 r1, .int .i64 r2, .slice r3 rL1 rC1] ∧
  Wr h3 ⟨b2, 0, none⟩ (.int .i64 r1) fun h4 =>
  Wr h4 ((⟨b2, 0, none⟩ : Addr).add 1) (.int .i64 r2) fun h5 =>
  Wr h5 ((⟨b2, 0, none⟩ : Addr).add 2) (.slice r3 rL1 rC1) fun h6 =>
  ∃ r4 : Int, ∃ r5 : Int, ∃ (r6 : Option Addr) (rL2 rC2 : Nat), cell h6 ⟨b2, 0, none⟩ = some (.int .i64 r4) ∧
  cell h6 ((⟨b2, 0, none⟩ : Addr).add 1) = some (.int .i64 r5) ∧
  cell h6 ((⟨b2, 0, none⟩ : Addr).add 2) = some (.slice r6 rL2 rC2) ∧
  K (.tuple #[.slice rows rowsL rowsC, .agg #[.int .i64 r4, .int .i64 r5, .slice r6 rL2 rC2]]) h6)
  (∃ n2 : Int, cell h2 ⟨b1, 0, none⟩ = some (.int .i64 n2) ∧
  cond (decide (n2 = 7))
  (∃ (a1 : Option Addr) (L1 C1 : Nat), cell h2 ((⟨b1, 0, none⟩ : Addr).add 1) = some (.slice a1 L1 C1) ∧
  (0 ≤ (0 : Int) ∧ (0 : Int) < (L1 : Int)) ∧
  NN a1 fun a2 =>
  ∃ n3 : Int, cell h2 (a2.add (Int.toNat (0 : Int) * 1)) = some (.int .i64 n3) ∧
  cond (decide ((0 : Int) ≤ n3))
  (cond (decide (n3 < (rowsL : Int)))
  ((0 ≤ n3 ∧ n3 < (rowsL : Int)) ∧
  NN rows fun a3 =>
  ∃ (a4 : Option Addr) (L2 C2 : Nat), cell h2 (a3.add (Int.toNat n3 * 1)) = some (.slice a4 L2 C2) ∧
  (0 ≤ (0 : Int) ∧ (0 : Int) < (L2 : Int)) ∧
  NN a4 fun a5 =>
  ∃ n4 : Int, cell h2 (a5.add (Int.toNat (0 : Int) * 1)) = some (.int .i64 n4) ∧
  HCalls Tryz.prog 75 #[.int .i64 n4] h2 fun v2 h7 => ∃ r7 : Int, ∃ r8 : Int, ∃ (r9 : Option Addr) (rL3 rC3 : Nat), v2 = .agg #[.int .i64 r7, .int .i64 r8, .slice r9 rL3 rC3] ∧
  Wr h7 ⟨b2, 0, none⟩ (.int .i64 r7) fun h8 =>
  Wr h8 ((⟨b2, 0, none⟩ : Addr).add 1) (.int .i64 r8) fun h9 =>
  Wr h9 ((⟨b2, 0, none⟩ : Addr).add 2) (.slice r9 rL3 rC3) fun h10 =>
  ∃ r10 : Int, ∃ r11 : Int, ∃ (r12 : Option Addr) (rL4 rC4 : Nat), cell h10 ⟨b2, 0, none⟩ = some (.int .i64 r10) ∧
  cell h10 ((⟨b2, 0, none⟩ : Addr).add 1) = some (.int .i64 r11) ∧
  cell h10 ((⟨b2, 0, none⟩ : Addr).add 2) = some (.slice r12 rL4 rC4) ∧
  K (.tuple #[.slice rows rowsL rowsC, .agg #[.int .i64 r10, .int .i64 r11, .slice r12 rL4 rC4]]) h10)
  (model_dict_b1 rows rowsL rowsC (some ⟨b2, 0, none⟩) h2  K))
  (model_dict_b1 rows rowsL rowsC (some ⟨b2, 0, none⟩) h2  K))
  (∃ (a6 : Option Addr) (L3 C3 : Nat), cell h2 ((⟨b1, 0, none⟩ : Addr).add 1) = some (.slice a6 L3 C3) ∧
  (0 ≤ (0 : Int) ∧ (0 : Int) ≤ (1 : Int) ∧ (1 : Int) ≤ (C3 : Int)) ∧
  HCalls Tryz.prog 77 #[.slice rows rowsL rowsC, .slice (subAddr a6 C3 (Int.toNat (0 : Int)) 1) (Int.toNat (1 : Int) - Int.toNat (0 : Int)) (C3 - Int.toNat (0 : Int))] h2 fun v3 h11 => ∃ r13 : Int, ∃ r14 : Bool, v3 = .tuple #[.int .i64 r13, .bool r14] ∧
  ∃ n5 : Int, cell h11 ⟨b1, 0, none⟩ = some (.int .i64 n5) ∧
  cond (decide (n5 = 1))
  (cond r14
  ((0 ≤ r13 ∧ r13 < (rowsL : Int)) ∧
  NN rows fun a7 =>
  ∃ (a8 : Option Addr) (L4 C4 : Nat), cell h11 (a7.add (Int.toNat r13 * 1)) = some (.slice a8 L4 C4) ∧
  ∃ (a9 : Option Addr) (L5 C5 : Nat), cell h11 ((⟨b1, 0, none⟩ : Addr).add 1) = some (.slice a9 L5 C5) ∧
  (0 ≤ (1 : Int) ∧ (1 : Int) < (L5 : Int)) ∧
  NN a9 fun a10 =>
  ∃ n6 : Int, cell h11 (a10.add (Int.toNat (1 : Int) * 1)) = some (.int .i64 n6) ∧
  (0 ≤ (1 : Int) ∧ (1 : Int) < (L4 : Int)) ∧
  NN a8 fun a11 =>
  Wr h11 (a11.add (Int.toNat (1 : Int) * 1)) (.int .i64 n6) fun h12 =>
  HCalls Tryz.prog 75 #[.int .i64 1] h12 fun v4 h13 => ∃ r15 : Int, ∃ r16 : Int, ∃ (r17 : Option Addr) (rL5 rC5 : Nat), v4 = .agg #[.int .i64 r15, .int .i64 r16, .slice r17 rL5 rC5] ∧
  Wr h13 ⟨b2, 0, none⟩ (.int .i64 r15) fun h14 =>
  Wr h14 ((⟨b2, 0, none⟩ : Addr).add 1) (.int .i64 r16) fun h15 =>
  Wr h15 ((⟨b2, 0, none⟩ : Addr).add 2) (.slice r17 rL5 rC5) fun h16 =>
  ∃ r18 : Int, ∃ r19 : Int, ∃ (r20 : Option Addr) (rL6 rC6 : Nat), cell h16 ⟨b2, 0, none⟩ = some (.int .i64 r18) ∧
  cell h16 ((⟨b2, 0, none⟩ : Addr).add 1) = some (.int .i64 r19) ∧
  cell h16 ((⟨b2, 0, none⟩ : Addr).add 2) = some (.slice r20 rL6 rC6) ∧
  K (.tuple #[.slice rows rowsL rowsC, .agg #[.int .i64 r18, .int .i64 r19, .slice r20 rL6 rC6]]) h16)
  (cond (decide ((rowsL : Int) = 500))
  (HCalls Tryz.prog 76 #[.int .i64 4] h11 fun v5 h17 => ∃ r21 : Int, ∃ r22 : Int, ∃ (r23 : Option Addr) (rL7 rC7 : Nat), v5 = .agg #[.int .i64 r21, .int .i64 r22, .slice r23 rL7 rC7] ∧
  Wr h17 ⟨b2, 0, none⟩ (.int .i64 r21) fun h18 =>
  Wr h18 ((⟨b2, 0, none⟩ : Addr).add 1) (.int .i64 r22) fun h19 =>
  Wr h19 ((⟨b2, 0, none⟩ : Addr).add 2) (.slice r23 rL7 rC7) fun h20 =>
  ∃ r24 : Int, ∃ r25 : Int, ∃ (r26 : Option Addr) (rL8 rC8 : Nat), cell h20 ⟨b2, 0, none⟩ = some (.int .i64 r24) ∧
  cell h20 ((⟨b2, 0, none⟩ : Addr).add 1) = some (.int .i64 r25) ∧
  cell h20 ((⟨b2, 0, none⟩ : Addr).add 2) = some (.slice r26 rL8 rC8) ∧
  K (.tuple #[.slice rows rowsL rowsC, .agg #[.int .i64 r24, .int .i64 r25, .slice r26 rL8 rC8]]) h20)
  (∃ (a12 : Option Addr) (L6 C6 : Nat), cell h11 ((⟨b1, 0, none⟩ : Addr).add 1) = some (.slice a12 L6 C6) ∧
  HCalls Tryz.prog 40 #[.slice a12 L6 C6] h11 fun v6 h21 => ∃ (r27 : Option Addr) (rL9 rC9 : Nat), v6 = .slice r27 rL9 rC9 ∧
  New h21 (.cells #[.slice r27 rL9 rC9] 37) fun b3 h22 =>
  HCalls Tryz.prog 78 #[.slice rows rowsL rowsC, .int .i64 r13, .slice (some ⟨b3, 0, none⟩) 1 1] h22 fun v7 h23 => ∃ (r28 : Option Addr) (rL10 rC10 : Nat), v7 = .slice r28 rL10 rC10 ∧
  HCalls Tryz.prog 75 #[.int .i64 0] h23 fun v8 h24 => ∃ r29 : Int, ∃ r30 : Int, ∃ (r31 : Option Addr) (rL11 rC11 : Nat), v8 = .agg #[.int .i64 r29, .int .i64 r30, .slice r31 rL11 rC11] ∧
  Wr h24 ⟨b2, 0, none⟩ (.int .i64 r29) fun h25 =>
  Wr h25 ((⟨b2, 0, none⟩ : Addr).add 1) (.int .i64 r30) fun h26 =>
  Wr h26 ((⟨b2, 0, none⟩ : Addr).add 2) (.slice r31 rL11 rC11) fun h27 =>
  ∃ r32 : Int, ∃ r33 : Int, ∃ (r34 : Option Addr) (rL12 rC12 : Nat), cell h27 ⟨b2, 0, none⟩ = some (.int .i64 r32) ∧
  cell h27 ((⟨b2, 0, none⟩ : Addr).add 1) = some (.int .i64 r33) ∧
  cell h27 ((⟨b2, 0, none⟩ : Addr).add 2) = some (.slice r34 rL12 rC12) ∧
  K (.tuple #[.slice r28 rL10 rC10, .agg #[.int .i64 r32, .int .i64 r33, .slice r34 rL12 rC12]]) h27)))
  (cond (decide (n5 = 6))
  (HCalls Tryz.prog 75 #[.int .i64 r13] h11 fun v9 h28 => ∃ r35 : Int, ∃ r36 : Int, ∃ (r37 : Option Addr) (rL13 rC13 : Nat), v9 = .agg #[.int .i64 r35, .int .i64 r36, .slice r37 rL13 rC13] ∧
  Wr h28 ⟨b2, 0, none⟩ (.int .i64 r35) fun h29 =>
  Wr h29 ((⟨b2, 0, none⟩ : Addr).add 1) (.int .i64 r36) fun h30 =>
  Wr h30 ((⟨b2, 0, none⟩ : Addr).add 2) (.slice r37 rL13 rC13) fun h31 =>
  ∃ r38 : Int, ∃ r39 : Int, ∃ (r40 : Option Addr) (rL14 rC14 : Nat), cell h31 ⟨b2, 0, none⟩ = some (.int .i64 r38) ∧
  cell h31 ((⟨b2, 0, none⟩ : Addr).add 1) = some (.int .i64 r39) ∧
  cell h31 ((⟨b2, 0, none⟩ : Addr).add 2) = some (.slice r40 rL14 rC14) ∧
  K (.tuple #[.slice rows rowsL rowsC, .agg #[.int .i64 r38, .int .i64 r39, .slice r40 rL14 rC14]]) h31)
  (cond (decide (n5 = 4))
  (cond r14
  (∃ (a13 : Option Addr) (L7 C7 : Nat), cell h11 ((⟨b1, 0, none⟩ : Addr).add 1) = some (.slice a13 L7 C7) ∧
  (0 ≤ (0 : Int) ∧ (0 : Int) < (L7 : Int)) ∧
  NN a13 fun a14 =>
  ∃ n7 : Int, cell h11 (a14.add (Int.toNat (0 : Int) * 1)) = some (.int .i64 n7) ∧
  HCalls Tryz.prog 75 #[.int .i64 n7] h11 fun v10 h32 => ∃ r41 : Int, ∃ r42 : Int, ∃ (r43 : Option Addr) (rL15 rC15 : Nat), v10 = .agg #[.int .i64 r41, .int .i64 r42, .slice r43 rL15 rC15] ∧
  Wr h32 ⟨b2, 0, none⟩ (.int .i64 r41) fun h33 =>
  Wr h33 ((⟨b2, 0, none⟩ : Addr).add 1) (.int .i64 r42) fun h34 =>
  Wr h34 ((⟨b2, 0, none⟩ : Addr).add 2) (.slice r43 rL15 rC15) fun h35 =>
  ∃ r44 : Int, ∃ r45 : Int, ∃ (r46 : Option Addr) (rL16 rC16 : Nat), cell h35 ⟨b2, 0, none⟩ = some (.int .i64 r44) ∧
  cell h35 ((⟨b2, 0, none⟩ : Addr).add 1) = some (.int .i64 r45) ∧
  cell h35 ((⟨b2, 0, none⟩ : Addr).add 2) = some (.slice r46 rL16 rC16) ∧
  K (.tuple #[.slice rows rowsL rowsC, .agg #[.int .i64 r44, .int .i64 r45, .slice r46 rL16 rC16]]) h35)
  (cond (decide (r13 = 0))
  (HCalls Tryz.prog 76 #[.int .i64 12] h11 fun v11 h36 => ∃ r47 : Int, ∃ r48 : Int, ∃ (r49 : Option Addr) (rL17 rC17 : Nat), v11 = .agg #[.int .i64 r47, .int .i64 r48, .slice r49 rL17 rC17] ∧
  Wr h36 ⟨b2, 0, none⟩ (.int .i64 r47) fun h37 =>
  Wr h37 ((⟨b2, 0, none⟩ : Addr).add 1) (.int .i64 r48) fun h38 =>
  Wr h38 ((⟨b2, 0, none⟩ : Addr).add 2) (.slice r49 rL17 rC17) fun h39 =>
  ∃ r50 : Int, ∃ r51 : Int, ∃ (r52 : Option Addr) (rL18 rC18 : Nat), cell h39 ⟨b2, 0, none⟩ = some (.int .i64 r50) ∧
  cell h39 ((⟨b2, 0, none⟩ : Addr).add 1) = some (.int .i64 r51) ∧
  cell h39 ((⟨b2, 0, none⟩ : Addr).add 2) = some (.slice r52 rL18 rC18) ∧
  K (.tuple #[.slice rows rowsL rowsC, .agg #[.int .i64 r50, .int .i64 r51, .slice r52 rL18 rC18]]) h39)
  (InR (r13 - 1) ∧
  (0 ≤ r13 - 1 ∧ r13 - 1 < (rowsL : Int)) ∧
  NN rows fun a15 =>
  ∃ (a16 : Option Addr) (L8 C8 : Nat), cell h11 (a15.add (Int.toNat (r13 - 1) * 1)) = some (.slice a16 L8 C8) ∧
  (0 ≤ (0 : Int) ∧ (0 : Int) < (L8 : Int)) ∧
  NN a16 fun a17 =>
  ∃ n8 : Int, cell h11 (a17.add (Int.toNat (0 : Int) * 1)) = some (.int .i64 n8) ∧
  HCalls Tryz.prog 75 #[.int .i64 n8] h11 fun v12 h40 => ∃ r53 : Int, ∃ r54 : Int, ∃ (r55 : Option Addr) (rL19 rC19 : Nat), v12 = .agg #[.int .i64 r53, .int .i64 r54, .slice r55 rL19 rC19] ∧
  Wr h40 ⟨b2, 0, none⟩ (.int .i64 r53) fun h41 =>
  Wr h41 ((⟨b2, 0, none⟩ : Addr).add 1) (.int .i64 r54) fun h42 =>
  Wr h42 ((⟨b2, 0, none⟩ : Addr).add 2) (.slice r55 rL19 rC19) fun h43 =>
  ∃ r56 : Int, ∃ r57 : Int, ∃ (r58 : Option Addr) (rL20 rC20 : Nat), cell h43 ⟨b2, 0, none⟩ = some (.int .i64 r56) ∧
  cell h43 ((⟨b2, 0, none⟩ : Addr).add 1) = some (.int .i64 r57) ∧
  cell h43 ((⟨b2, 0, none⟩ : Addr).add 2) = some (.slice r58 rL20 rC20) ∧
  K (.tuple #[.slice rows rowsL rowsC, .agg #[.int .i64 r56, .int .i64 r57, .slice r58 rL20 rC20]]) h43)))
  (cond (decide (n5 = 5))
  (cond (decide (r13 = (rowsL : Int)))
  (HCalls Tryz.prog 76 #[.int .i64 12] h11 fun v13 h44 => ∃ r59 : Int, ∃ r60 : Int, ∃ (r61 : Option Addr) (rL21 rC21 : Nat), v13 = .agg #[.int .i64 r59, .int .i64 r60, .slice r61 rL21 rC21] ∧
  Wr h44 ⟨b2, 0, none⟩ (.int .i64 r59) fun h45 =>
  Wr h45 ((⟨b2, 0, none⟩ : Addr).add 1) (.int .i64 r60) fun h46 =>
  Wr h46 ((⟨b2, 0, none⟩ : Addr).add 2) (.slice r61 rL21 rC21) fun h47 =>
  ∃ r62 : Int, ∃ r63 : Int, ∃ (r64 : Option Addr) (rL22 rC22 : Nat), cell h47 ⟨b2, 0, none⟩ = some (.int .i64 r62) ∧
  cell h47 ((⟨b2, 0, none⟩ : Addr).add 1) = some (.int .i64 r63) ∧
  cell h47 ((⟨b2, 0, none⟩ : Addr).add 2) = some (.slice r64 rL22 rC22) ∧
  K (.tuple #[.slice rows rowsL rowsC, .agg #[.int .i64 r62, .int .i64 r63, .slice r64 rL22 rC22]]) h47)
  ((0 ≤ r13 ∧ r13 < (rowsL : Int)) ∧
  NN rows fun a18 =>
  ∃ (a19 : Option Addr) (L9 C9 : Nat), cell h11 (a18.add (Int.toNat r13 * 1)) = some (.slice a19 L9 C9) ∧
  (0 ≤ (0 : Int) ∧ (0 : Int) < (L9 : Int)) ∧
  NN a19 fun a20 =>
  ∃ n9 : Int, cell h11 (a20.add (Int.toNat (0 : Int) * 1)) = some (.int .i64 n9) ∧
  HCalls Tryz.prog 75 #[.int .i64 n9] h11 fun v14 h48 => ∃ r65 : Int, ∃ r66 : Int, ∃ (r67 : Option Addr) (rL23 rC23 : Nat), v14 = .agg #[.int .i64 r65, .int .i64 r66, .slice r67 rL23 rC23] ∧
  Wr h48 ⟨b2, 0, none⟩ (.int .i64 r65) fun h49 =>
  Wr h49 ((⟨b2, 0, none⟩ : Addr).add 1) (.int .i64 r66) fun h50 =>
  Wr h50 ((⟨b2, 0, none⟩ : Addr).add 2) (.slice r67 rL23 rC23) fun h51 =>
  ∃ r68 : Int, ∃ r69 : Int, ∃ (r70 : Option Addr) (rL24 rC24 : Nat), cell h51 ⟨b2, 0, none⟩ = some (.int .i64 r68) ∧
  cell h51 ((⟨b2, 0, none⟩ : Addr).add 1) = some (.int .i64 r69) ∧
  cell h51 ((⟨b2, 0, none⟩ : Addr).add 2) = some (.slice r70 rL24 rC24) ∧
  K (.tuple #[.slice rows rowsL rowsC, .agg #[.int .i64 r68, .int .i64 r69, .slice r70 rL24 rC24]]) h51))
  (model_dict_b2 rows rowsL rowsC (some ⟨b1, 0, none⟩) (some ⟨b2, 0, none⟩) r13 r14 h11  K))))))) := by kernel_rfl
theorem model_dict_b1_eq (rows : Option Addr) (rowsL : Nat) (rowsC : Nat) (t5 : Option Addr) (h : Hp)  (K : Value → Hp → Prop) : model_dict_b1 rows rowsL rowsC t5 h  K = (
  HCalls Tryz.prog 76 #[.int .i64 2] h fun v15 h52 => ∃ r71 : Int, ∃ r72 : Int, ∃ (r73 : Option Addr) (rL25 rC25 : Nat), v15 = .agg #[.int .i64 r71, .int .i64 r72, .slice r73 rL25 rC25] ∧
  NN t5 fun a21 =>
  Wr h52 a21 (.int .i64 r71) fun h53 =>
  Wr h53 (a21.add 1) (.int .i64 r72) fun h54 =>
  Wr h54 (a21.add 2) (.slice r73 rL25 rC25) fun h55 =>
  NN t5 fun a22 =>
  ∃ r74 : Int, ∃ r75 : Int, ∃ (r76 : Option Addr) (rL26 rC26 : Nat), cell h55 a22 = some (.int .i64 r74) ∧
  cell h55 (a22.add 1) = some (.int .i64 r75) ∧
  cell h55 (a22.add 2) = some (.slice r76 rL26 rC26) ∧
  K (.tuple #[.slice rows rowsL rowsC, .agg #[.int .i64 r74, .int .i64 r75, .slice r76 rL26 rC26]]) h55) := by kernel_rfl
theorem model_dict_b2_eq (rows : Option Addr) (rowsL : Nat) (rowsC : Nat) (o : Option Addr) (t5 : Option Addr) (i : Int) (ok : Bool) (h : Hp)  (K : Value → Hp → Prop) : model_dict_b2 rows rowsL rowsC o t5 i ok h  K = (
  cond (!ok)
  (HCalls Tryz.prog 76 #[.int .i64 12] h fun v16 h56 => ∃ r77 : Int, ∃ r78 : Int, ∃ (r79 : Option Addr) (rL27 rC27 : Nat), v16 = .agg #[.int .i64 r77, .int .i64 r78, .slice r79 rL27 rC27] ∧
  NN t5 fun a23 =>
  Wr h56 a23 (.int .i64 r77) fun h57 =>
  Wr h57 (a23.add 1) (.int .i64 r78) fun h58 =>
  Wr h58 (a23.add 2) (.slice r79 rL27 rC27) fun h59 =>
  NN t5 fun a24 =>
  ∃ r80 : Int, ∃ r81 : Int, ∃ (r82 : Option Addr) (rL28 rC28 : Nat), cell h59 a24 = some (.int .i64 r80) ∧
  cell h59 (a24.add 1) = some (.int .i64 r81) ∧
  cell h59 (a24.add 2) = some (.slice r82 rL28 rC28) ∧
  K (.tuple #[.slice rows rowsL rowsC, .agg #[.int .i64 r80, .int .i64 r81, .slice r82 rL28 rC28]]) h59)
  ((0 ≤ i ∧ i < (rowsL : Int)) ∧
  NN rows fun a25 =>
  ∃ (a26 : Option Addr) (L10 C10 : Nat), cell h (a25.add (Int.toNat i * 1)) = some (.slice a26 L10 C10) ∧
  (0 ≤ (1 : Int) ∧ (1 : Int) < (L10 : Int)) ∧
  NN a26 fun a27 =>
  ∃ n10 : Int, cell h (a27.add (Int.toNat (1 : Int) * 1)) = some (.int .i64 n10) ∧
  NN o fun a28 =>
  ∃ n11 : Int, cell h a28 = some (.int .i64 n11) ∧
  cond (decide (n11 = 3))
  (InR (i + 1) ∧
  HCalls Tryz.prog 79 #[.slice rows rowsL rowsC, .int .i64 i, .int .i64 (i + 1)] h fun v17 h60 => ∃ (r83 : Option Addr) (rL29 rC29 : Nat), v17 = .slice r83 rL29 rC29 ∧
  model_dict_b3 r83 rL29 rC29 t5 n10 h60  K)
  (model_dict_b3 rows rowsL rowsC t5 n10 h  K))) := by kernel_rfl
theorem model_dict_b3_eq (rows : Option Addr) (rowsL : Nat) (rowsC : Nat) (t5 : Option Addr) (v : Int) (h : Hp)  (K : Value → Hp → Prop) : model_dict_b3 rows rowsL rowsC t5 v h  K = (
  HCalls Tryz.prog 75 #[.int .i64 v] h fun v18 h61 => ∃ r84 : Int, ∃ r85 : Int, ∃ (r86 : Option Addr) (rL30 rC30 : Nat), v18 = .agg #[.int .i64 r84, .int .i64 r85, .slice r86 rL30 rC30] ∧
  NN t5 fun a29 =>
  Wr h61 a29 (.int .i64 r84) fun h62 =>
  Wr h62 (a29.add 1) (.int .i64 r85) fun h63 =>
  Wr h63 (a29.add 2) (.slice r86 rL30 rC30) fun h64 =>
  NN t5 fun a30 =>
  ∃ r87 : Int, ∃ r88 : Int, ∃ (r89 : Option Addr) (rL31 rC31 : Nat), cell h64 a30 = some (.int .i64 r87) ∧
  cell h64 (a30.add 1) = some (.int .i64 r88) ∧
  cell h64 (a30.add 2) = some (.slice r89 rL31 rC31) ∧
  K (.tuple #[.slice rows rowsL rowsC, .agg #[.int .i64 r87, .int .i64 r88, .slice r89 rL31 rC31]]) h64) := by kernel_rfl
theorem model_dict_call {rows : Option Addr} {rowsL : Nat} {rowsC : Nat} {o_0 : Int} {o_1 : Option Addr} {o_1L : Nat} {o_1C : Nat} {h : Hp} {K : Value → Hp → Prop} (hk : model_dict_b0 rows rowsL rowsC o_0 o_1 o_1L o_1C h K) : HCalls Tryz.prog 53 #[.slice rows rowsL rowsC, .agg #[.int .i64 o_0, .slice o_1 o_1L o_1C]] h K :=
  calls_of_snd model_dict_an Tryz.func53 (c := bodyOf Tryz.f53) rfl Tryz.ntmps53 (Nat.le_of_ble_eq_true rfl) (snd_3 F_ok F_mixed) hk

/-! ### btree_Tree_path -/
def btree_Tree_path_an : Ann := .node none (.leaf) (.node (some [4, 5]) (.node none (.leaf) (.loop [1] [(4, .slice), (5, .slice), (7, .ptr)] (.node none (.leaf) (.node none (.leaf) (.node none (.leaf) (.node (some [1, 4, 5, 7, 8]) (.leaf) (.leaf))))))) (.leaf))
def btree_Tree_path_K0  (K : Value → Hp → Prop) : Exit → Env → Hp → Prop := retK Tryz.prog Tryz.f59.results.toList K
def btree_Tree_path_K1  (K : Value → Hp → Prop) : Exit → Env → Hp → Prop := thenE (fun env h => sx_2 Tryz.prog F 50 (cp [1, 1] (bodyOf Tryz.f59)) (ap [1, 1] btree_Tree_path_an) (rs [4, 5] env) h (btree_Tree_path_K0  K)) (btree_Tree_path_K0  K)
def btree_Tree_path_K2  (K : Value → Hp → Prop) : Exit → Env → Hp → Prop := blockE 0 (btree_Tree_path_K1  K)
def btree_Tree_path_K3 (nx0 : (Option Addr × Nat × Nat) × (Option Addr × Nat × Nat) × Option Addr × Unit → Hp → Prop) (K : Value → Hp → Prop) : Exit → Env → Hp → Prop := thenE (fun env h => getV [(4, .slice), (5, .slice), (7, .ptr)] env fun s => nx0 s h) (btree_Tree_path_K2  K)
def btree_Tree_path_K4 (nx0 : (Option Addr × Nat × Nat) × (Option Addr × Nat × Nat) × Option Addr × Unit → Hp → Prop) (K : Value → Hp → Prop) : Exit → Env → Hp → Prop := blockE 1 (btree_Tree_path_K3 nx0 K)
def btree_Tree_path_b0 (t : Option Addr) (key : Int) (h : Hp)  (K : Value → Hp → Prop) : Prop :=
  sx_3 Tryz.prog F 50 (cp [] (bodyOf Tryz.f59)) (ap [] btree_Tree_path_an) [(0, .pointer t), (1, .int .i64 key)] h (btree_Tree_path_K0  K)
def btree_Tree_path_b1 (nodes : Option Addr) (nodesL : Nat) (nodesC : Nat) (atv : Option Addr) (atvL : Nat) (atvC : Nat) (nv : Option Addr) (key : Int) (h : Hp) (nx0 : (Option Addr × Nat × Nat) × (Option Addr × Nat × Nat) × Option Addr × Unit → Hp → Prop) (K : Value → Hp → Prop) : Prop :=
  sx_2 Tryz.prog F 50 (cp [1, 0, 1, 2, 2] (bodyOf Tryz.f59)) (ap [1, 0, 1, 2] btree_Tree_path_an) [(4, .slice nodes nodesL nodesC), (5, .slice atv atvL atvC), (7, .pointer nv), (1, .int .i64 key)] h (btree_Tree_path_K3 nx0 K)
def btree_Tree_path_b2 (key : Int) (nodes : Option Addr) (nodesL : Nat) (nodesC : Nat) (atv : Option Addr) (atvL : Nat) (atvC : Nat) (nv : Option Addr) (i : Int) (h : Hp) (nx0 : (Option Addr × Nat × Nat) × (Option Addr × Nat × Nat) × Option Addr × Unit → Hp → Prop) (K : Value → Hp → Prop) : Prop :=
  sx_1 Tryz.prog F 50 (cp [1, 0, 1, 2, 2, 1, 2, 1, 1, 1] (bodyOf Tryz.f59)) (ap [1, 0, 1, 2, 1, 1, 1, 1] btree_Tree_path_an) [(1, .int .i64 key), (4, .slice nodes nodesL nodesC), (5, .slice atv atvL atvC), (7, .pointer nv), (8, .int .i64 i)] h (btree_Tree_path_K4 nx0 K)
def btree_Tree_path_b3 (nodes : Option Addr) (nodesL : Nat) (nodesC : Nat) (atv : Option Addr) (atvL : Nat) (atvC : Nat) (h : Hp)  (K : Value → Hp → Prop) : Prop :=
  sx_2 Tryz.prog F 50 (cp [1, 1] (bodyOf Tryz.f59)) (ap [1, 1] btree_Tree_path_an) [(4, .slice nodes nodesL nodesC), (5, .slice atv atvL atvC)] h (btree_Tree_path_K0  K)
theorem btree_Tree_path_b0_eq (t : Option Addr) (key : Int) (h : Hp)  (K : Value → Hp → Prop) : btree_Tree_path_b0 t key h  K = (
  NN t fun a1 =>
  ∃ p1 : Option Addr, cell h (a1.add 2) = some (.pointer p1) ∧
  LoopVC (((none, 0, 0), (none, 0, 0), p1, ()) : (Option Addr × Nat × Nat) × (Option Addr × Nat × Nat) × Option Addr × Unit) h (fun (nx0 : (Option Addr × Nat × Nat) × (Option Addr × Nat × Nat) × Option Addr × Unit → Hp → Prop) (s1 : (Option Addr × Nat × Nat) × (Option Addr × Nat × Nat) × Option Addr × Unit) h1 => btree_Tree_path_b1 s1.1.1 s1.1.2.1 s1.1.2.2 s1.2.1.1 s1.2.1.2.1 s1.2.1.2.2 s1.2.2.1 key h1 nx0 K)) := by kernel_rfl
theorem btree_Tree_path_b1_eq (nodes : Option Addr) (nodesL : Nat) (nodesC : Nat) (atv : Option Addr) (atvL : Nat) (atvC : Nat) (nv : Option Addr) (key : Int) (h : Hp) (nx0 : (Option Addr × Nat × Nat) × (Option Addr × Nat × Nat) × Option Addr × Unit → Hp → Prop) (K : Value → Hp → Prop) : btree_Tree_path_b1 nodes nodesL nodesC atv atvL atvC nv key h nx0 K = (
  cond (!nv.isNone)
  (NN nv fun a2 =>
  ∃ (a3 : Option Addr) (L1 C1 : Nat), cell h a2 = some (.slice a3 L1 C1) ∧
  HCalls Tryz.prog 68 #[.slice a3 L1 C1, .int .i64 key] h fun v1 h2 => ∃ r1 : Int, ∃ r2 : Bool, v1 = .tuple #[.int .i64 r1, .bool r2] ∧
  New h2 (.cells #[.pointer nv] 60) fun b1 h3 =>
  appendV Tryz.prog 83 83 (.slice nodes nodesL nodesC) (.slice (some ⟨b1, 0, none⟩) 1 1) h3 (slK fun a4 l1 c1 h4 =>
  New h4 (.cells #[.int .i64 r1] 3) fun b2 h5 =>
  appendV Tryz.prog 37 37 (.slice atv atvL atvC) (.slice (some ⟨b2, 0, none⟩) 1 1) h5 (slK fun a5 l2 c2 h6 =>
  cond r2
  (K (.tuple #[.slice a4 l1 c1, .slice a5 l2 c2, .bool r2]) h6)
  (HCalls Tryz.prog 60 #[.pointer nv] h6 fun v2 h7 => ∃ r3 : Bool, v2 = .bool r3 ∧
  cond r3
  (K (.tuple #[.slice a4 l1 c1, .slice a5 l2 c2, .bool r2]) h7)
  (btree_Tree_path_b2 key a4 l1 c1 a5 l2 c2 nv r1 h7 nx0 K)))))
  (btree_Tree_path_b3 nodes nodesL nodesC atv atvL atvC h  K)) := by kernel_rfl
theorem btree_Tree_path_b2_eq (key : Int) (nodes : Option Addr) (nodesL : Nat) (nodesC : Nat) (atv : Option Addr) (atvL : Nat) (atvC : Nat) (nv : Option Addr) (i : Int) (h : Hp) (nx0 : (Option Addr × Nat × Nat) × (Option Addr × Nat × Nat) × Option Addr × Unit → Hp → Prop) (K : Value → Hp → Prop) : btree_Tree_path_b2 key nodes nodesL nodesC atv atvL atvC nv i h nx0 K = (
  NN nv fun a6 =>
  ∃ (a7 : Option Addr) (L2 C2 : Nat), cell h (a6.add 2) = some (.slice a7 L2 C2) ∧
  (0 ≤ i ∧ i < (L2 : Int)) ∧
  NN a7 fun a8 =>
  ∃ p2 : Option Addr, cell h (a8.add (Int.toNat i * 1)) = some (.pointer p2) ∧
  nx0 ((nodes, nodesL, nodesC), (atv, atvL, atvC), p2, ()) h) := by kernel_rfl
theorem btree_Tree_path_b3_eq (nodes : Option Addr) (nodesL : Nat) (nodesC : Nat) (atv : Option Addr) (atvL : Nat) (atvC : Nat) (h : Hp)  (K : Value → Hp → Prop) : btree_Tree_path_b3 nodes nodesL nodesC atv atvL atvC h  K = (
  K (.tuple #[.slice nodes nodesL nodesC, .slice atv atvL atvC, .bool false]) h) := by kernel_rfl
theorem btree_Tree_path_call {t : Option Addr} {key : Int} {h : Hp} {K : Value → Hp → Prop} (hk : btree_Tree_path_b0 t key h K) : HCalls Tryz.prog 59 #[.pointer t, .int .i64 key] h K :=
  calls_of_snd btree_Tree_path_an Tryz.func59 (c := bodyOf Tryz.f59) rfl Tryz.ntmps59 (Nat.le_of_ble_eq_true rfl) (snd_3 F_ok F_mixed) hk

/-! ### btree_node_leaf -/
def btree_node_leaf_an : Ann := .leaf
def btree_node_leaf_K0  (K : Value → Hp → Prop) : Exit → Env → Hp → Prop := retK Tryz.prog Tryz.f60.results.toList K
def btree_node_leaf_b0 (nv : Option Addr) (h : Hp)  (K : Value → Hp → Prop) : Prop :=
  sx_1 Tryz.prog F 9 (cp [] (bodyOf Tryz.f60)) (ap [] btree_node_leaf_an) [(0, .pointer nv)] h (btree_node_leaf_K0  K)
theorem btree_node_leaf_b0_eq (nv : Option Addr) (h : Hp)  (K : Value → Hp → Prop) : btree_node_leaf_b0 nv h  K = (
  NN nv fun a1 =>
  ∃ (a2 : Option Addr) (L1 C1 : Nat), cell h (a1.add 2) = some (.slice a2 L1 C1) ∧
  K (.bool (decide ((L1 : Int) = 0))) h) := by kernel_rfl
theorem btree_node_leaf_call {nv : Option Addr} {h : Hp} {K : Value → Hp → Prop} (hk : btree_node_leaf_b0 nv h K) : HCalls Tryz.prog 60 #[.pointer nv] h K :=
  calls_of_snd btree_node_leaf_an Tryz.func60 (c := bodyOf Tryz.f60) rfl Tryz.ntmps60 (Nat.le_of_ble_eq_true rfl) (snd_1 F_ok F_mixed) hk

/-! ### btree_Tree_shrink -/
def btree_Tree_shrink_an : Ann := .node none (.leaf) (.node none (.leaf) (.node none (.plan (.qu 0 (.qu 1 (.qu 2 (.qu 3 (.qu 4 (.qu 5 (.qu 6 (.qu 7 (.qu 8 (.qu 9 (.qu 10 (.qu 11 (.qu 12 (.qu 13 (.qu 14 (.qu 16 (.qu 17 (.qu 18 (.qu 19 (.qu 20 (.qu 21 (.qu 22 (.qu 23 (.qu 24 (.qu 25 (.qu 26 (.qu 27 (.qu 28 (.wo 15 (.wo 29 (.qu 30 (.qu 31 (.wo 32 (.qu 33 (.qu 34 (.wo 35 .fin .no))) .no))) .no) .no)))))))))))))))))))))))))))))) (.node none (.leaf) (.node (some [0]) (.loop [0, 1, 2, 8] [(6, .int .i64)] (.node (some [0, 1, 2, 6, 8]) (.leaf) (.node (some [0, 1, 2, 6, 8]) (.node none (.leaf) (.node none (.leaf) (.node (some [0, 1, 2, 6, 8, 9, 10]) (.leaf) (.node (some [0, 1, 2, 6, 8, 9, 10]) (.leaf) (.leaf))))) (.leaf)))) (.leaf)))))
def btree_Tree_shrink_K0  (K : Value → Hp → Prop) : Exit → Env → Hp → Prop := retK Tryz.prog Tryz.f61.results.toList K
def btree_Tree_shrink_K1  (K : Value → Hp → Prop) : Exit → Env → Hp → Prop := thenE (fun env h => sx_4 Tryz.prog F 178 (cp [1, 1, 1, 1, 1] (bodyOf Tryz.f61)) (ap [1, 1, 1, 1, 1] btree_Tree_shrink_an) (rs [0] env) h (btree_Tree_shrink_K0  K)) (btree_Tree_shrink_K0  K)
def btree_Tree_shrink_K2  (K : Value → Hp → Prop) : Exit → Env → Hp → Prop := blockE 0 (btree_Tree_shrink_K1  K)
def btree_Tree_shrink_K3 (nx0 : Int × Unit → Hp → Prop) (K : Value → Hp → Prop) : Exit → Env → Hp → Prop := thenE (fun env h => getV [(6, .int .i64)] env fun s => nx0 s h) (btree_Tree_shrink_K2  K)
def btree_Tree_shrink_K4 (nx0 : Int × Unit → Hp → Prop) (K : Value → Hp → Prop) : Exit → Env → Hp → Prop := thenE (fun env h => sx_2 Tryz.prog F 178 (cp [1, 1, 1, 1, 0, 2, 2, 1, 1] (bodyOf Tryz.f61)) (ap [1, 1, 1, 1, 0, 2, 1, 1] btree_Tree_shrink_an) (rs [0, 1, 2, 6, 8] env) h (btree_Tree_shrink_K3 nx0 K)) (btree_Tree_shrink_K3 nx0 K)
def btree_Tree_shrink_K5 (nx0 : Int × Unit → Hp → Prop) (K : Value → Hp → Prop) : Exit → Env → Hp → Prop := blockE 1 (btree_Tree_shrink_K4 nx0 K)
def btree_Tree_shrink_b0 (t : Option Addr) (nodes : Option Addr) (nodesL : Nat) (nodesC : Nat) (atv : Option Addr) (atvL : Nat) (atvC : Nat) (h : Hp)  (K : Value → Hp → Prop) : Prop :=
  sx_5 Tryz.prog F 178 (cp [] (bodyOf Tryz.f61)) (ap [] btree_Tree_shrink_an) [(0, .pointer t), (1, .slice nodes nodesL nodesC), (2, .slice atv atvL atvC)] h (btree_Tree_shrink_K0  K)
def btree_Tree_shrink_b1 (d : Int) (t : Option Addr) (nodes : Option Addr) (nodesL : Nat) (nodesC : Nat) (atv : Option Addr) (atvL : Nat) (atvC : Nat) (least : Int) (h : Hp) (nx0 : Int × Unit → Hp → Prop) (K : Value → Hp → Prop) : Prop :=
  sx_4 Tryz.prog F 178 (cp [1, 1, 1, 1, 0, 2, 2] (bodyOf Tryz.f61)) (ap [1, 1, 1, 1, 0, 2] btree_Tree_shrink_an) [(6, .int .i64 d), (0, .pointer t), (1, .slice nodes nodesL nodesC), (2, .slice atv atvL atvC), (8, .int .i64 least)] h (btree_Tree_shrink_K3 nx0 K)
def btree_Tree_shrink_b2 (t : Option Addr) (nodes : Option Addr) (nodesL : Nat) (nodesC : Nat) (atv : Option Addr) (atvL : Nat) (atvC : Nat) (d : Int) (least : Int) (h : Hp) (nx0 : Int × Unit → Hp → Prop) (K : Value → Hp → Prop) : Prop :=
  sx_3 Tryz.prog F 178 (cp [1, 1, 1, 1, 0, 2, 2, 1] (bodyOf Tryz.f61)) (ap [1, 1, 1, 1, 0, 2, 1] btree_Tree_shrink_an) [(0, .pointer t), (1, .slice nodes nodesL nodesC), (2, .slice atv atvL atvC), (6, .int .i64 d), (8, .int .i64 least)] h (btree_Tree_shrink_K3 nx0 K)
def btree_Tree_shrink_b3 (t : Option Addr) (h : Hp)  (K : Value → Hp → Prop) : Prop :=
  sx_4 Tryz.prog F 178 (cp [1, 1, 1, 1, 1] (bodyOf Tryz.f61)) (ap [1, 1, 1, 1, 1] btree_Tree_shrink_an) [(0, .pointer t)] h (btree_Tree_shrink_K0  K)
def btree_Tree_shrink_b4 (t : Option Addr) (nodes : Option Addr) (nodesL : Nat) (nodesC : Nat) (atv : Option Addr) (atvL : Nat) (atvC : Nat) (d : Int) (least : Int) (p : Option Addr) (i : Int) (h : Hp) (nx0 : Int × Unit → Hp → Prop) (K : Value → Hp → Prop) : Prop :=
  sx_2 Tryz.prog F 178 (cp [1, 1, 1, 1, 0, 2, 2, 1, 0, 2, 1, 1, 1] (bodyOf Tryz.f61)) (ap [1, 1, 1, 1, 0, 2, 1, 0, 1, 1, 1] btree_Tree_shrink_an) [(0, .pointer t), (1, .slice nodes nodesL nodesC), (2, .slice atv atvL atvC), (6, .int .i64 d), (8, .int .i64 least), (9, .pointer p), (10, .int .i64 i)] h (btree_Tree_shrink_K5 nx0 K)
def btree_Tree_shrink_b5 (t : Option Addr) (nodes : Option Addr) (nodesL : Nat) (nodesC : Nat) (atv : Option Addr) (atvL : Nat) (atvC : Nat) (d : Int) (least : Int) (p : Option Addr) (i : Int) (h : Hp) (nx0 : Int × Unit → Hp → Prop) (K : Value → Hp → Prop) : Prop :=
  sx_1 Tryz.prog F 178 (cp [1, 1, 1, 1, 0, 2, 2, 1, 0, 2, 1, 1, 1, 1] (bodyOf Tryz.f61)) (ap [1, 1, 1, 1, 0, 2, 1, 0, 1, 1, 1, 1] btree_Tree_shrink_an) [(0, .pointer t), (1, .slice nodes nodesL nodesC), (2, .slice atv atvL atvC), (6, .int .i64 d), (8, .int .i64 least), (9, .pointer p), (10, .int .i64 i)] h (btree_Tree_shrink_K5 nx0 K)
def btree_Tree_shrink_b6 (t : Option Addr) (nodes : Option Addr) (nodesL : Nat) (nodesC : Nat) (atv : Option Addr) (atvL : Nat) (atvC : Nat) (d : Int) (least : Int) (h : Hp) (nx0 : Int × Unit → Hp → Prop) (K : Value → Hp → Prop) : Prop :=
  sx_2 Tryz.prog F 178 (cp [1, 1, 1, 1, 0, 2, 2, 1, 1] (bodyOf Tryz.f61)) (ap [1, 1, 1, 1, 0, 2, 1, 1] btree_Tree_shrink_an) [(0, .pointer t), (1, .slice nodes nodesL nodesC), (2, .slice atv atvL atvC), (6, .int .i64 d), (8, .int .i64 least)] h (btree_Tree_shrink_K3 nx0 K)
theorem btree_Tree_shrink_b0_eq (t : Option Addr) (nodes : Option Addr) (nodesL : Nat) (nodesC : Nat) (atv : Option Addr) (atvL : Nat) (atvC : Nat) (h : Hp)  (K : Value → Hp → Prop) : btree_Tree_shrink_b0 t nodes nodesL nodesC atv atvL atvC h  K = (
  InR ((nodesL : Int) - 1) ∧
  (0 ≤ (nodesL : Int) - 1 ∧ (nodesL : Int) - 1 < (nodesL : Int)) ∧
  NN nodes fun a1 =>
  ∃ p1 : Option Addr, cell h (a1.add (Int.toNat ((nodesL : Int) - 1) * 1)) = some (.pointer p1) ∧
  NN p1 fun a2 =>
  ∃ (a3 : Option Addr) (L1 C1 : Nat), cell h a2 = some (.slice a3 L1 C1) ∧
  (0 ≤ (nodesL : Int) - 1 ∧ (nodesL : Int) - 1 < (atvL : Int)) ∧
  NN atv fun a4 =>
  ∃ n1 : Int, cell h (a4.add (Int.toNat ((nodesL : Int) - 1) * 1)) = some (.int .i64 n1) ∧
  (0 ≤ (nodesL : Int) - 1 ∧ (nodesL : Int) - 1 < (atvL : Int)) ∧
  NN atv fun a5 =>
  ∃ n2 : Int, cell h (a5.add (Int.toNat ((nodesL : Int) - 1) * 1)) = some (.int .i64 n2) ∧
  InR (n2 + 1) ∧
  NN p1 fun a6 =>
  ∃ (a7 : Option Addr) (L2 C2 : Nat), cell h (a6.add 1) = some (.slice a7 L2 C2) ∧
  (0 ≤ (nodesL : Int) - 1 ∧ (nodesL : Int) - 1 < (atvL : Int)) ∧
  NN atv fun a8 =>
  ∃ n3 : Int, cell h (a8.add (Int.toNat ((nodesL : Int) - 1) * 1)) = some (.int .i64 n3) ∧
  (0 ≤ (nodesL : Int) - 1 ∧ (nodesL : Int) - 1 < (atvL : Int)) ∧
  NN atv fun a9 =>
  ∃ n4 : Int, cell h (a9.add (Int.toNat ((nodesL : Int) - 1) * 1)) = some (.int .i64 n4) ∧
  InR (n4 + 1) ∧
  HCalls Tryz.prog 84 #[.slice a3 L1 C1, .int .i64 n1, .int .i64 (n2 + 1)] h fun v1 h1 => ∃ (r1 : Option Addr) (rL1 rC1 : Nat), v1 = .slice r1 rL1 rC1 ∧
  (∃ n5 : Int, cell h1 (a9.add (Int.toNat ((nodesL : Int) - 1) * 1)) = some (.int .i64 n5) ∧
  (.int .i64 n5 : Value) = .int .i64 n4) ∧
  (∃ n6 : Int, cell h1 (a8.add (Int.toNat ((nodesL : Int) - 1) * 1)) = some (.int .i64 n6) ∧
  (.int .i64 n6 : Value) = .int .i64 n3) ∧
  (∃ (a10 : Option Addr) (L3 C3 : Nat), cell h1 (a6.add 1) = some (.slice a10 L3 C3) ∧
  (.slice a10 L3 C3 : Value) = .slice a7 L2 C2) ∧
  HCalls Tryz.prog 84 #[.slice a7 L2 C2, .int .i64 n3, .int .i64 (n4 + 1)] h1 fun v2 h2 => ∃ (r2 : Option Addr) (rL2 rC2 : Nat), v2 = .slice r2 rL2 rC2 ∧
  NN p1 fun a11 =>
  Wr h2 a11 (.slice r1 rL1 rC1) fun h3 =>
  NN p1 fun a12 =>
  Wr h3 (a12.add 1) (.slice r2 rL2 rC2) fun h4 =>
  NN t fun a13 =>
  ∃ n7 : Int, cell h4 a13 = some (.int .i64 n7) ∧
  InR (n7 + 1) ∧
  ∃ q1 : Int, Sx.Quo .i64 (n7 + 1) 2 q1 ∧
  InR (q1 - 1) ∧
  LoopVC (((nodesL : Int) - 1, ()) : Int × Unit) h4 (fun (nx0 : Int × Unit → Hp → Prop) (s1 : Int × Unit) h5 => btree_Tree_shrink_b1 s1.1 t nodes nodesL nodesC atv atvL atvC (q1 - 1) h5 nx0 K)) := by kernel_rfl
theorem btree_Tree_shrink_b1_eq (d : Int) (t : Option Addr) (nodes : Option Addr) (nodesL : Nat) (nodesC : Nat) (atv : Option Addr) (atvL : Nat) (atvC : Nat) (least : Int) (h : Hp) (nx0 : Int × Unit → Hp → Prop) (K : Value → Hp → Prop) : btree_Tree_shrink_b1 d t nodes nodesL nodesC atv atvL atvC least h nx0 K = (
  cond (decide ((0 : Int) < d))
  ((0 ≤ d ∧ d < (nodesL : Int)) ∧
  NN nodes fun a14 =>
  ∃ p2 : Option Addr, cell h (a14.add (Int.toNat d * 1)) = some (.pointer p2) ∧
  NN p2 fun a15 =>
  ∃ (a16 : Option Addr) (L4 C4 : Nat), cell h a15 = some (.slice a16 L4 C4) ∧
  cond (decide ((L4 : Int) < least))
  (btree_Tree_shrink_b2 t nodes nodesL nodesC atv atvL atvC d least h nx0 K)
  (btree_Tree_shrink_b3 t h  K))
  (btree_Tree_shrink_b3 t h  K)) := by kernel_rfl
theorem btree_Tree_shrink_b2_eq (t : Option Addr) (nodes : Option Addr) (nodesL : Nat) (nodesC : Nat) (atv : Option Addr) (atvL : Nat) (atvC : Nat) (d : Int) (least : Int) (h : Hp) (nx0 : Int × Unit → Hp → Prop) (K : Value → Hp → Prop) : btree_Tree_shrink_b2 t nodes nodesL nodesC atv atvL atvC d least h nx0 K = (
  InR (d - 1) ∧
  (0 ≤ d - 1 ∧ d - 1 < (nodesL : Int)) ∧
  NN nodes fun a17 =>
  ∃ p3 : Option Addr, cell h (a17.add (Int.toNat (d - 1) * 1)) = some (.pointer p3) ∧
  InR (d - 1) ∧
  (0 ≤ d - 1 ∧ d - 1 < (atvL : Int)) ∧
  NN atv fun a18 =>
  ∃ n8 : Int, cell h (a18.add (Int.toNat (d - 1) * 1)) = some (.int .i64 n8) ∧
  NN t fun a19 =>
  ∃ n9 : Int, cell h (a19.add 3) = some (.int .i64 n9) ∧
  InR (n9 + 1) ∧
  NN t fun a20 =>
  Wr h (a20.add 3) (.int .i64 (n9 + 1)) fun h6 =>
  cond (decide ((0 : Int) < n8))
  (NN p3 fun a21 =>
  ∃ (a22 : Option Addr) (L5 C5 : Nat), cell h6 (a21.add 2) = some (.slice a22 L5 C5) ∧
  InR (n8 - 1) ∧
  (0 ≤ n8 - 1 ∧ n8 - 1 < (L5 : Int)) ∧
  NN a22 fun a23 =>
  ∃ p4 : Option Addr, cell h6 (a23.add (Int.toNat (n8 - 1) * 1)) = some (.pointer p4) ∧
  NN p4 fun a24 =>
  ∃ (a25 : Option Addr) (L6 C6 : Nat), cell h6 a24 = some (.slice a25 L6 C6) ∧
  cond (decide (least < (L6 : Int)))
  (HCalls Tryz.prog 85 #[.pointer p3, .int .i64 n8] h6 fun v3 h7 => v3 = .tuple #[] ∧
  K (.tuple #[]) h7)
  (btree_Tree_shrink_b4 t nodes nodesL nodesC atv atvL atvC d least p3 n8 h6 nx0 K))
  (btree_Tree_shrink_b4 t nodes nodesL nodesC atv atvL atvC d least p3 n8 h6 nx0 K)) := by kernel_rfl
theorem btree_Tree_shrink_b3_eq (t : Option Addr) (h : Hp)  (K : Value → Hp → Prop) : btree_Tree_shrink_b3 t h  K = (
  NN t fun a26 =>
  ∃ p5 : Option Addr, cell h (a26.add 2) = some (.pointer p5) ∧
  NN p5 fun a27 =>
  ∃ (a28 : Option Addr) (L7 C7 : Nat), cell h a27 = some (.slice a28 L7 C7) ∧
  cond (decide ((L7 : Int) = 0))
  (NN t fun a29 =>
  ∃ p6 : Option Addr, cell h (a29.add 2) = some (.pointer p6) ∧
  HCalls Tryz.prog 60 #[.pointer p6] h fun v4 h8 => ∃ r3 : Bool, v4 = .bool r3 ∧
  cond r3
  (NN t fun a30 =>
  Wr h8 (a30.add 2) (.pointer none) fun h9 =>
  K (.tuple #[]) h9)
  (NN t fun a31 =>
  ∃ p7 : Option Addr, cell h8 (a31.add 2) = some (.pointer p7) ∧
  NN p7 fun a32 =>
  ∃ (a33 : Option Addr) (L8 C8 : Nat), cell h8 (a32.add 2) = some (.slice a33 L8 C8) ∧
  (0 ≤ (0 : Int) ∧ (0 : Int) < (L8 : Int)) ∧
  NN a33 fun a34 =>
  ∃ p8 : Option Addr, cell h8 (a34.add (Int.toNat (0 : Int) * 1)) = some (.pointer p8) ∧
  NN t fun a35 =>
  Wr h8 (a35.add 2) (.pointer p8) fun h10 =>
  K (.tuple #[]) h10))
  (K (.tuple #[]) h)) := by kernel_rfl
theorem btree_Tree_shrink_b4_eq (t : Option Addr) (nodes : Option Addr) (nodesL : Nat) (nodesC : Nat) (atv : Option Addr) (atvL : Nat) (atvC : Nat) (d : Int) (least : Int) (p : Option Addr) (i : Int) (h : Hp) (nx0 : Int × Unit → Hp → Prop) (K : Value → Hp → Prop) : btree_Tree_shrink_b4 t nodes nodesL nodesC atv atvL atvC d least p i h nx0 K = (
  NN p fun a36 =>
  ∃ (a37 : Option Addr) (L9 C9 : Nat), cell h a36 = some (.slice a37 L9 C9) ∧
  cond (decide (i < (L9 : Int)))
  (NN t fun a38 =>
  ∃ n10 : Int, cell h (a38.add 3) = some (.int .i64 n10) ∧
  InR (n10 + 1) ∧
  NN t fun a39 =>
  Wr h (a39.add 3) (.int .i64 (n10 + 1)) fun h11 =>
  NN p fun a40 =>
  ∃ (a41 : Option Addr) (L10 C10 : Nat), cell h11 (a40.add 2) = some (.slice a41 L10 C10) ∧
  InR (i + 1) ∧
  (0 ≤ i + 1 ∧ i + 1 < (L10 : Int)) ∧
  NN a41 fun a42 =>
  ∃ p9 : Option Addr, cell h11 (a42.add (Int.toNat (i + 1) * 1)) = some (.pointer p9) ∧
  NN p9 fun a43 =>
  ∃ (a44 : Option Addr) (L11 C11 : Nat), cell h11 a43 = some (.slice a44 L11 C11) ∧
  cond (decide (least < (L11 : Int)))
  (HCalls Tryz.prog 86 #[.pointer p, .int .i64 i] h11 fun v5 h12 => v5 = .tuple #[] ∧
  K (.tuple #[]) h12)
  (btree_Tree_shrink_b5 t nodes nodesL nodesC atv atvL atvC d least p i h11 nx0 K))
  (btree_Tree_shrink_b5 t nodes nodesL nodesC atv atvL atvC d least p i h nx0 K)) := by kernel_rfl
theorem btree_Tree_shrink_b5_eq (t : Option Addr) (nodes : Option Addr) (nodesL : Nat) (nodesC : Nat) (atv : Option Addr) (atvL : Nat) (atvC : Nat) (d : Int) (least : Int) (p : Option Addr) (i : Int) (h : Hp) (nx0 : Int × Unit → Hp → Prop) (K : Value → Hp → Prop) : btree_Tree_shrink_b5 t nodes nodesL nodesC atv atvL atvC d least p i h nx0 K = (
  InR (i - 1) ∧
  HCalls Tryz.prog 87 #[.pointer p, .int .i64 (if 0 < i - 1 then i - 1 else 0)] h fun v6 h13 => v6 = .tuple #[] ∧
  btree_Tree_shrink_b6 t nodes nodesL nodesC atv atvL atvC d least h13 nx0 K) := by kernel_rfl
theorem btree_Tree_shrink_b6_eq (t : Option Addr) (nodes : Option Addr) (nodesL : Nat) (nodesC : Nat) (atv : Option Addr) (atvL : Nat) (atvC : Nat) (d : Int) (least : Int) (h : Hp) (nx0 : Int × Unit → Hp → Prop) (K : Value → Hp → Prop) : btree_Tree_shrink_b6 t nodes nodesL nodesC atv atvL atvC d least h nx0 K = (
  InR (d - 1) ∧
  nx0 (d - 1, ()) h) := by kernel_rfl
theorem btree_Tree_shrink_call {t : Option Addr} {nodes : Option Addr} {nodesL : Nat} {nodesC : Nat} {atv : Option Addr} {atvL : Nat} {atvC : Nat} {h : Hp} {K : Value → Hp → Prop} (hk : btree_Tree_shrink_b0 t nodes nodesL nodesC atv atvL atvC h K) : HCalls Tryz.prog 61 #[.pointer t, .slice nodes nodesL nodesC, .slice atv atvL atvC] h K :=
  calls_of_snd btree_Tree_shrink_an Tryz.func61 (c := bodyOf Tryz.f61) rfl Tryz.ntmps61 (Nat.le_of_ble_eq_true rfl) (snd_5 F_ok F_mixed) hk

end Go.Proofs.YtkdmcdnfakmapaaGreat
