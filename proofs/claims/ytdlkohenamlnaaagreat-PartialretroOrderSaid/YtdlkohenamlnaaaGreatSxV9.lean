/- Plain statements of what each block of code of this seat asks; printed by a program, checked by Lean. -/
import Derived.Test.YtdlkohenamlnaaaGreatSxV0
set_option maxRecDepth 10000
namespace Go.Proofs.YtdlkohenamlnaaaGreat
open Go Go.Sx

/-! ### model_Valid_c1 -/
/-! ### model_dict -/
def model_dict_an : Ann := .node none (.leaf) (.node none (.leaf) (.node none (.node none (.leaf) (.node none (.node (some [0, 5]) (.leaf) (.leaf)) (.leaf))) (.node none (.leaf) (.node (some [0, 3, 5, 7, 8]) (.node none (.leaf) (.node none (.leaf) (.node none (.node none (.node none (.leaf) (.node none (.node none (.tail 9) (.leaf)) (.leaf))) (.leaf)) (.leaf)))) (.node none (.leaf) (.node none (.leaf) (.node (some [0, 5, 9]) (.leaf) (.leaf))))))))
def model_dict_K0  (K : Value → Hp → Prop) : Exit → Env → Hp → Prop := retK Tryz.prog Tryz.f137.results.toList K
def model_dict_K1  (K : Value → Hp → Prop) : Exit → Env → Hp → Prop := thenE (fun env h => sx0 Tryz.prog F 143 (sx_2 Tryz.prog F 143) (cp [1, 1, 1] (bodyOf Tryz.f137)) (ap [1, 1, 1] model_dict_an) env h (model_dict_K0  K)) (model_dict_K0  K)
def model_dict_b0 (rows : Option Addr) (rowsL : Nat) (rowsC : Nat) (o_0 : Int) (o_1 : Option Addr) (o_1L : Nat) (o_1C : Nat) (h : Hp)  (K : Value → Hp → Prop) : Prop :=
  sx_3 Tryz.prog F 143 (cp [] (bodyOf Tryz.f137)) (ap [] model_dict_an) [(0, .slice rows rowsL rowsC), (1, .agg #[.int .i64 o_0, .slice o_1 o_1L o_1C])] h (model_dict_K0  K)
def model_dict_b1 (rows : Option Addr) (rowsL : Nat) (rowsC : Nat) (t5 : Option Addr) (h : Hp)  (K : Value → Hp → Prop) : Prop :=
  sx_2 Tryz.prog F 143 (cp [1, 1, 0, 1, 0, 1] (bodyOf Tryz.f137)) (ap [1, 1, 0, 1, 0, 1] model_dict_an) [(0, .slice rows rowsL rowsC), (5, .pointer t5)] h (model_dict_K1  K)
def model_dict_b2 (rows : Option Addr) (rowsL : Nat) (rowsC : Nat) (o : Option Addr) (t5 : Option Addr) (i : Int) (ok : Bool) (h : Hp)  (K : Value → Hp → Prop) : Prop :=
  sx_2 Tryz.prog F 143 (cp [1, 1, 1, 1, 1] (bodyOf Tryz.f137)) (ap [1, 1, 1, 1, 1] model_dict_an) [(0, .slice rows rowsL rowsC), (3, .pointer o), (5, .pointer t5), (7, .int .i64 i), (8, .bool ok)] h (model_dict_K0  K)
def model_dict_b3 (rows : Option Addr) (rowsL : Nat) (rowsC : Nat) (t5 : Option Addr) (v : Int) (h : Hp)  (K : Value → Hp → Prop) : Prop :=
  sx_1 Tryz.prog F 143 (cp [1, 1, 1, 1, 1, 1, 1, 1] (bodyOf Tryz.f137)) (ap [1, 1, 1, 1, 1, 1, 1, 1] model_dict_an) [(0, .slice rows rowsL rowsC), (5, .pointer t5), (9, .int .i64 v)] h (model_dict_K0  K)
theorem model_dict_b0_eq (rows : Option Addr) (rowsL : Nat) (rowsC : Nat) (o_0 : Int) (o_1 : Option Addr) (o_1L : Nat) (o_1C : Nat) (h : Hp)  (K : Value → Hp → Prop) : model_dict_b0 rows rowsL rowsC o_0 o_1 o_1L o_1C h  K = (
  New h (.cells #[.int .i64 o_0, .slice o_1 o_1L o_1C] 25) fun b1 h1 =>
  New h1 (.cells #[.int .i64 0, .int .i64 0, .slice none 0 0] 61) fun b2 h2 =>
  ∃ n1 : Int, cell h2 ⟨b1, 0, none⟩ = some (.int .i64 n1) ∧
  cond (decide (n1 = 8))
  (HCalls Tryz.prog 163 #[.int .i64 (rowsL : Int)] h2 fun v1 h3 => ∃ r1 : Int, ∃ r2 : Int, ∃ (r3 : Option Addr) (rL1 rC1 : Nat), v1 = .agg #[.int .i64 r1, .int .i64 r2, .slice r3 rL1 rC1] ∧
  Wr h3 ⟨b2, 0, none⟩ (.int .i64 r1) fun h4 =>
  Wr h4 ((⟨b2, 0, none⟩ : Addr).add 1) (.int .i64 r2) fun h5 =>
  Wr h5 ((⟨b2, 0, none⟩ : Addr).add 2) (.slice r3 rL1 rC1) fun h6 =>
  ∃ r4 : Int, ∃ r5 : Int, ∃ (r6 : Option Addr) (rL2 rC2 : Nat), cell h6 ⟨b2, 0, none⟩ = some (.int .i64 r4) ∧
  cell h6 ((⟨b2, 0, none⟩ : Addr).add 1) = some (.int .i64 r5) ∧
  cell h6 ((⟨b2, 0, none⟩ : Addr).add 2) = some (.slice r6 rL2 rC2) ∧
  K (.tuple #[.slice rows rowsL rowsC, .agg #[.int .i64 r4, .int .i64 r5, .slice r6 rL2 rC2]]) h6)
  (∃ n2 : Int, cell h2 ⟨b1, 0, none⟩ = some (.int .i64 n2) ∧
  cond (decide (n2 = 7))
  (∃ (a1 : Option Addr) (L1 C1 : Nat), cell h2 ((⟨b1, 0, none⟩ : Addr).add 1) = some (.slice a1 L1 C1) ∧
  (0 ≤ (0 : Int) ∧ (0 : Int) < (L1 : Int)) ∧
  NN a1 fun a2 =>
  ∃ n3 : Int, cell h2 (a2.add (Int.toNat (0 : Int) * 1)) = some (.int .i64 n3) ∧
  cond (decide ((0 : Int) ≤ n3))
  (cond (decide (n3 < (rowsL : Int)))
  ((0 ≤ n3 ∧ n3 < (rowsL : Int)) ∧
  NN rows fun a3 =>
  ∃ (a4 : Option Addr) (L2 C2 : Nat), cell h2 (a3.add (Int.toNat n3 * 1)) = some (.slice a4 L2 C2) ∧
  (0 ≤ (0 : Int) ∧ (0 : Int) < (L2 : Int)) ∧
  NN a4 fun a5 =>
  ∃ n4 : Int, cell h2 (a5.add (Int.toNat (0 : Int) * 1)) = some (.int .i64 n4) ∧
  HCalls Tryz.prog 163 #[.int .i64 n4] h2 fun v2 h7 => ∃ r7 : Int, ∃ r8 : Int, ∃ (r9 : Option Addr) (rL3 rC3 : Nat), v2 = .agg #[.int .i64 r7, .int .i64 r8, .slice r9 rL3 rC3] ∧
  Wr h7 ⟨b2, 0, none⟩ (.int .i64 r7) fun h8 =>
  Wr h8 ((⟨b2, 0, none⟩ : Addr).add 1) (.int .i64 r8) fun h9 =>
  Wr h9 ((⟨b2, 0, none⟩ : Addr).add 2) (.slice r9 rL3 rC3) fun h10 =>
  ∃ r10 : Int, ∃ r11 : Int, ∃ (r12 : Option Addr) (rL4 rC4 : Nat), cell h10 ⟨b2, 0, none⟩ = some (.int .i64 r10) ∧
  cell h10 ((⟨b2, 0, none⟩ : Addr).add 1) = some (.int .i64 r11) ∧
  cell h10 ((⟨b2, 0, none⟩ : Addr).add 2) = some (.slice r12 rL4 rC4) ∧
  K (.tuple #[.slice rows rowsL rowsC, .agg #[.int .i64 r10, .int .i64 r11, .slice r12 rL4 rC4]]) h10)
  (model_dict_b1 rows rowsL rowsC (some ⟨b2, 0, none⟩) h2  K))
  (model_dict_b1 rows rowsL rowsC (some ⟨b2, 0, none⟩) h2  K))
  (∃ (a6 : Option Addr) (L3 C3 : Nat), cell h2 ((⟨b1, 0, none⟩ : Addr).add 1) = some (.slice a6 L3 C3) ∧
  (0 ≤ (0 : Int) ∧ (0 : Int) ≤ (1 : Int) ∧ (1 : Int) ≤ (C3 : Int)) ∧
  HCalls Tryz.prog 165 #[.slice rows rowsL rowsC, .slice (subAddr a6 C3 (Int.toNat (0 : Int)) 1) (Int.toNat (1 : Int) - Int.toNat (0 : Int)) (C3 - Int.toNat (0 : Int))] h2 fun v3 h11 => ∃ r13 : Int, ∃ r14 : Bool, v3 = .tuple #[.int .i64 r13, .bool r14] ∧
  ∃ n5 : Int, cell h11 ⟨b1, 0, none⟩ = some (.int .i64 n5) ∧
  cond (decide (n5 = 1))
  (cond r14
  ((0 ≤ r13 ∧ r13 < (rowsL : Int)) ∧
  NN rows fun a7 =>
  ∃ (a8 : Option Addr) (L4 C4 : Nat), cell h11 (a7.add (Int.toNat r13 * 1)) = some (.slice a8 L4 C4) ∧
  ∃ (a9 : Option Addr) (L5 C5 : Nat), cell h11 ((⟨b1, 0, none⟩ : Addr).add 1) = some (.slice a9 L5 C5) ∧
  (0 ≤ (1 : Int) ∧ (1 : Int) < (L5 : Int)) ∧
  NN a9 fun a10 =>
  ∃ n6 : Int, cell h11 (a10.add (Int.toNat (1 : Int) * 1)) = some (.int .i64 n6) ∧
  (0 ≤ (1 : Int) ∧ (1 : Int) < (L4 : Int)) ∧
  NN a8 fun a11 =>
  Wr h11 (a11.add (Int.toNat (1 : Int) * 1)) (.int .i64 n6) fun h12 =>
  HCalls Tryz.prog 163 #[.int .i64 1] h12 fun v4 h13 => ∃ r15 : Int, ∃ r16 : Int, ∃ (r17 : Option Addr) (rL5 rC5 : Nat), v4 = .agg #[.int .i64 r15, .int .i64 r16, .slice r17 rL5 rC5] ∧
  Wr h13 ⟨b2, 0, none⟩ (.int .i64 r15) fun h14 =>
  Wr h14 ((⟨b2, 0, none⟩ : Addr).add 1) (.int .i64 r16) fun h15 =>
  Wr h15 ((⟨b2, 0, none⟩ : Addr).add 2) (.slice r17 rL5 rC5) fun h16 =>
  ∃ r18 : Int, ∃ r19 : Int, ∃ (r20 : Option Addr) (rL6 rC6 : Nat), cell h16 ⟨b2, 0, none⟩ = some (.int .i64 r18) ∧
  cell h16 ((⟨b2, 0, none⟩ : Addr).add 1) = some (.int .i64 r19) ∧
  cell h16 ((⟨b2, 0, none⟩ : Addr).add 2) = some (.slice r20 rL6 rC6) ∧
  K (.tuple #[.slice rows rowsL rowsC, .agg #[.int .i64 r18, .int .i64 r19, .slice r20 rL6 rC6]]) h16)
  (cond (decide ((rowsL : Int) = 500))
  (HCalls Tryz.prog 164 #[.int .i64 4] h11 fun v5 h17 => ∃ r21 : Int, ∃ r22 : Int, ∃ (r23 : Option Addr) (rL7 rC7 : Nat), v5 = .agg #[.int .i64 r21, .int .i64 r22, .slice r23 rL7 rC7] ∧
  Wr h17 ⟨b2, 0, none⟩ (.int .i64 r21) fun h18 =>
  Wr h18 ((⟨b2, 0, none⟩ : Addr).add 1) (.int .i64 r22) fun h19 =>
  Wr h19 ((⟨b2, 0, none⟩ : Addr).add 2) (.slice r23 rL7 rC7) fun h20 =>
  ∃ r24 : Int, ∃ r25 : Int, ∃ (r26 : Option Addr) (rL8 rC8 : Nat), cell h20 ⟨b2, 0, none⟩ = some (.int .i64 r24) ∧
  cell h20 ((⟨b2, 0, none⟩ : Addr).add 1) = some (.int .i64 r25) ∧
  cell h20 ((⟨b2, 0, none⟩ : Addr).add 2) = some (.slice r26 rL8 rC8) ∧
  K (.tuple #[.slice rows rowsL rowsC, .agg #[.int .i64 r24, .int .i64 r25, .slice r26 rL8 rC8]]) h20)
  (∃ (a12 : Option Addr) (L6 C6 : Nat), cell h11 ((⟨b1, 0, none⟩ : Addr).add 1) = some (.slice a12 L6 C6) ∧
  HCalls Tryz.prog 24 #[.slice a12 L6 C6] h11 fun v6 h21 => ∃ (r27 : Option Addr) (rL9 rC9 : Nat), v6 = .slice r27 rL9 rC9 ∧
  New h21 (.cells #[.slice r27 rL9 rC9] 23) fun b3 h22 =>
  HCalls Tryz.prog 166 #[.slice rows rowsL rowsC, .int .i64 r13, .slice (some ⟨b3, 0, none⟩) 1 1] h22 fun v7 h23 => ∃ (r28 : Option Addr) (rL10 rC10 : Nat), v7 = .slice r28 rL10 rC10 ∧
  HCalls Tryz.prog 163 #[.int .i64 0] h23 fun v8 h24 => ∃ r29 : Int, ∃ r30 : Int, ∃ (r31 : Option Addr) (rL11 rC11 : Nat), v8 = .agg #[.int .i64 r29, .int .i64 r30, .slice r31 rL11 rC11] ∧
  Wr h24 ⟨b2, 0, none⟩ (.int .i64 r29) fun h25 =>
  Wr h25 ((⟨b2, 0, none⟩ : Addr).add 1) (.int .i64 r30) fun h26 =>
  Wr h26 ((⟨b2, 0, none⟩ : Addr).add 2) (.slice r31 rL11 rC11) fun h27 =>
  ∃ r32 : Int, ∃ r33 : Int, ∃ (r34 : Option Addr) (rL12 rC12 : Nat), cell h27 ⟨b2, 0, none⟩ = some (.int .i64 r32) ∧
  cell h27 ((⟨b2, 0, none⟩ : Addr).add 1) = some (.int .i64 r33) ∧
  cell h27 ((⟨b2, 0, none⟩ : Addr).add 2) = some (.slice r34 rL12 rC12) ∧
  K (.tuple #[.slice r28 rL10 rC10, .agg #[.int .i64 r32, .int .i64 r33, .slice r34 rL12 rC12]]) h27)))
  (cond (decide (n5 = 6))
  (HCalls Tryz.prog 163 #[.int .i64 r13] h11 fun v9 h28 => ∃ r35 : Int, ∃ r36 : Int, ∃ (r37 : Option Addr) (rL13 rC13 : Nat), v9 = .agg #[.int .i64 r35, .int .i64 r36, .slice r37 rL13 rC13] ∧
  Wr h28 ⟨b2, 0, none⟩ (.int .i64 r35) fun h29 =>
  Wr h29 ((⟨b2, 0, none⟩ : Addr).add 1) (.int .i64 r36) fun h30 =>
  Wr h30 ((⟨b2, 0, none⟩ : Addr).add 2) (.slice r37 rL13 rC13) fun h31 =>
  ∃ r38 : Int, ∃ r39 : Int, ∃ (r40 : Option Addr) (rL14 rC14 : Nat), cell h31 ⟨b2, 0, none⟩ = some (.int .i64 r38) ∧
  cell h31 ((⟨b2, 0, none⟩ : Addr).add 1) = some (.int .i64 r39) ∧
  cell h31 ((⟨b2, 0, none⟩ : Addr).add 2) = some (.slice r40 rL14 rC14) ∧
  K (.tuple #[.slice rows rowsL rowsC, .agg #[.int .i64 r38, .int .i64 r39, .slice r40 rL14 rC14]]) h31)
  (cond (decide (n5 = 4))
  (cond r14
  (∃ (a13 : Option Addr) (L7 C7 : Nat), cell h11 ((⟨b1, 0, none⟩ : Addr).add 1) = some (.slice a13 L7 C7) ∧
  (0 ≤ (0 : Int) ∧ (0 : Int) < (L7 : Int)) ∧
  NN a13 fun a14 =>
  ∃ n7 : Int, cell h11 (a14.add (Int.toNat (0 : Int) * 1)) = some (.int .i64 n7) ∧
  HCalls Tryz.prog 163 #[.int .i64 n7] h11 fun v10 h32 => ∃ r41 : Int, ∃ r42 : Int, ∃ (r43 : Option Addr) (rL15 rC15 : Nat), v10 = .agg #[.int .i64 r41, .int .i64 r42, .slice r43 rL15 rC15] ∧
  Wr h32 ⟨b2, 0, none⟩ (.int .i64 r41) fun h33 =>
  Wr h33 ((⟨b2, 0, none⟩ : Addr).add 1) (.int .i64 r42) fun h34 =>
  Wr h34 ((⟨b2, 0, none⟩ : Addr).add 2) (.slice r43 rL15 rC15) fun h35 =>
  ∃ r44 : Int, ∃ r45 : Int, ∃ (r46 : Option Addr) (rL16 rC16 : Nat), cell h35 ⟨b2, 0, none⟩ = some (.int .i64 r44) ∧
  cell h35 ((⟨b2, 0, none⟩ : Addr).add 1) = some (.int .i64 r45) ∧
  cell h35 ((⟨b2, 0, none⟩ : Addr).add 2) = some (.slice r46 rL16 rC16) ∧
  K (.tuple #[.slice rows rowsL rowsC, .agg #[.int .i64 r44, .int .i64 r45, .slice r46 rL16 rC16]]) h35)
  (cond (decide (r13 = 0))
  (HCalls Tryz.prog 164 #[.int .i64 12] h11 fun v11 h36 => ∃ r47 : Int, ∃ r48 : Int, ∃ (r49 : Option Addr) (rL17 rC17 : Nat), v11 = .agg #[.int .i64 r47, .int .i64 r48, .slice r49 rL17 rC17] ∧
  Wr h36 ⟨b2, 0, none⟩ (.int .i64 r47) fun h37 =>
  Wr h37 ((⟨b2, 0, none⟩ : Addr).add 1) (.int .i64 r48) fun h38 =>
  Wr h38 ((⟨b2, 0, none⟩ : Addr).add 2) (.slice r49 rL17 rC17) fun h39 =>
  ∃ r50 : Int, ∃ r51 : Int, ∃ (r52 : Option Addr) (rL18 rC18 : Nat), cell h39 ⟨b2, 0, none⟩ = some (.int .i64 r50) ∧
  cell h39 ((⟨b2, 0, none⟩ : Addr).add 1) = some (.int .i64 r51) ∧
  cell h39 ((⟨b2, 0, none⟩ : Addr).add 2) = some (.slice r52 rL18 rC18) ∧
  K (.tuple #[.slice rows rowsL rowsC, .agg #[.int .i64 r50, .int .i64 r51, .slice r52 rL18 rC18]]) h39)
  (InR (r13 - 1) ∧
  (0 ≤ r13 - 1 ∧ r13 - 1 < (rowsL : Int)) ∧
  NN rows fun a15 =>
  ∃ (a16 : Option Addr) (L8 C8 : Nat), cell h11 (a15.add (Int.toNat (r13 - 1) * 1)) = some (.slice a16 L8 C8) ∧
  (0 ≤ (0 : Int) ∧ (0 : Int) < (L8 : Int)) ∧
  NN a16 fun a17 =>
  ∃ n8 : Int, cell h11 (a17.add (Int.toNat (0 : Int) * 1)) = some (.int .i64 n8) ∧
  HCalls Tryz.prog 163 #[.int .i64 n8] h11 fun v12 h40 => ∃ r53 : Int, ∃ r54 : Int, ∃ (r55 : Option Addr) (rL19 rC19 : Nat), v12 = .agg #[.int .i64 r53, .int .i64 r54, .slice r55 rL19 rC19] ∧
  Wr h40 ⟨b2, 0, none⟩ (.int .i64 r53) fun h41 =>
  Wr h41 ((⟨b2, 0, none⟩ : Addr).add 1) (.int .i64 r54) fun h42 =>
  Wr h42 ((⟨b2, 0, none⟩ : Addr).add 2) (.slice r55 rL19 rC19) fun h43 =>
  ∃ r56 : Int, ∃ r57 : Int, ∃ (r58 : Option Addr) (rL20 rC20 : Nat), cell h43 ⟨b2, 0, none⟩ = some (.int .i64 r56) ∧
  cell h43 ((⟨b2, 0, none⟩ : Addr).add 1) = some (.int .i64 r57) ∧
  cell h43 ((⟨b2, 0, none⟩ : Addr).add 2) = some (.slice r58 rL20 rC20) ∧
  K (.tuple #[.slice rows rowsL rowsC, .agg #[.int .i64 r56, .int .i64 r57, .slice r58 rL20 rC20]]) h43)))
  (cond (decide (n5 = 5))
  (cond (decide (r13 = (rowsL : Int)))
  (HCalls Tryz.prog 164 #[.int .i64 12] h11 fun v13 h44 => ∃ r59 : Int, ∃ r60 : Int, ∃ (r61 : Option Addr) (rL21 rC21 : Nat), v13 = .agg #[.int .i64 r59, .int .i64 r60, .slice r61 rL21 rC21] ∧
  Wr h44 ⟨b2, 0, none⟩ (.int .i64 r59) fun h45 =>
  Wr h45 ((⟨b2, 0, none⟩ : Addr).add 1) (.int .i64 r60) fun h46 =>
  Wr h46 ((⟨b2, 0, none⟩ : Addr).add 2) (.slice r61 rL21 rC21) fun h47 =>
  ∃ r62 : Int, ∃ r63 : Int, ∃ (r64 : Option Addr) (rL22 rC22 : Nat), cell h47 ⟨b2, 0, none⟩ = some (.int .i64 r62) ∧
  cell h47 ((⟨b2, 0, none⟩ : Addr).add 1) = some (.int .i64 r63) ∧
  cell h47 ((⟨b2, 0, none⟩ : Addr).add 2) = some (.slice r64 rL22 rC22) ∧
  K (.tuple #[.slice rows rowsL rowsC, .agg #[.int .i64 r62, .int .i64 r63, .slice r64 rL22 rC22]]) h47)
  ((0 ≤ r13 ∧ r13 < (rowsL : Int)) ∧
  NN rows fun a18 =>
  ∃ (a19 : Option Addr) (L9 C9 : Nat), cell h11 (a18.add (Int.toNat r13 * 1)) = some (.slice a19 L9 C9) ∧
  (0 ≤ (0 : Int) ∧ (0 : Int) < (L9 : Int)) ∧
  NN a19 fun a20 =>
  ∃ n9 : Int, cell h11 (a20.add (Int.toNat (0 : Int) * 1)) = some (.int .i64 n9) ∧
  HCalls Tryz.prog 163 #[.int .i64 n9] h11 fun v14 h48 => ∃ r65 : Int, ∃ r66 : Int, ∃ (r67 : Option Addr) (rL23 rC23 : Nat), v14 = .agg #[.int .i64 r65, .int .i64 r66, .slice r67 rL23 rC23] ∧
  Wr h48 ⟨b2, 0, none⟩ (.int .i64 r65) fun h49 =>
  Wr h49 ((⟨b2, 0, none⟩ : Addr).add 1) (.int .i64 r66) fun h50 =>
  Wr h50 ((⟨b2, 0, none⟩ : Addr).add 2) (.slice r67 rL23 rC23) fun h51 =>
  ∃ r68 : Int, ∃ r69 : Int, ∃ (r70 : Option Addr) (rL24 rC24 : Nat), cell h51 ⟨b2, 0, none⟩ = some (.int .i64 r68) ∧
  cell h51 ((⟨b2, 0, none⟩ : Addr).add 1) = some (.int .i64 r69) ∧
  cell h51 ((⟨b2, 0, none⟩ : Addr).add 2) = some (.slice r70 rL24 rC24) ∧
  K (.tuple #[.slice rows rowsL rowsC, .agg #[.int .i64 r68, .int .i64 r69, .slice r70 rL24 rC24]]) h51))
  (model_dict_b2 rows rowsL rowsC (some ⟨b1, 0, none⟩) (some ⟨b2, 0, none⟩) r13 r14 h11  K))))))) := by kernel_rfl
theorem model_dict_b1_eq (rows : Option Addr) (rowsL : Nat) (rowsC : Nat) (t5 : Option Addr) (h : Hp)  (K : Value → Hp → Prop) : model_dict_b1 rows rowsL rowsC t5 h  K = (
  HCalls Tryz.prog 164 #[.int .i64 2] h fun v15 h52 => ∃ r71 : Int, ∃ r72 : Int, ∃ (r73 : Option Addr) (rL25 rC25 : Nat), v15 = .agg #[.int .i64 r71, .int .i64 r72, .slice r73 rL25 rC25] ∧
  NN t5 fun a21 =>
  Wr h52 a21 (.int .i64 r71) fun h53 =>
  Wr h53 (a21.add 1) (.int .i64 r72) fun h54 =>
  Wr h54 (a21.add 2) (.slice r73 rL25 rC25) fun h55 =>
  NN t5 fun a22 =>
  ∃ r74 : Int, ∃ r75 : Int, ∃ (r76 : Option Addr) (rL26 rC26 : Nat), cell h55 a22 = some (.int .i64 r74) ∧
  cell h55 (a22.add 1) = some (.int .i64 r75) ∧
  cell h55 (a22.add 2) = some (.slice r76 rL26 rC26) ∧
  K (.tuple #[.slice rows rowsL rowsC, .agg #[.int .i64 r74, .int .i64 r75, .slice r76 rL26 rC26]]) h55) := by kernel_rfl
theorem model_dict_b2_eq (rows : Option Addr) (rowsL : Nat) (rowsC : Nat) (o : Option Addr) (t5 : Option Addr) (i : Int) (ok : Bool) (h : Hp)  (K : Value → Hp → Prop) : model_dict_b2 rows rowsL rowsC o t5 i ok h  K = (
  cond (!ok)
  (HCalls Tryz.prog 164 #[.int .i64 12] h fun v16 h56 => ∃ r77 : Int, ∃ r78 : Int, ∃ (r79 : Option Addr) (rL27 rC27 : Nat), v16 = .agg #[.int .i64 r77, .int .i64 r78, .slice r79 rL27 rC27] ∧
  NN t5 fun a23 =>
  Wr h56 a23 (.int .i64 r77) fun h57 =>
  Wr h57 (a23.add 1) (.int .i64 r78) fun h58 =>
  Wr h58 (a23.add 2) (.slice r79 rL27 rC27) fun h59 =>
  NN t5 fun a24 =>
  ∃ r80 : Int, ∃ r81 : Int, ∃ (r82 : Option Addr) (rL28 rC28 : Nat), cell h59 a24 = some (.int .i64 r80) ∧
  cell h59 (a24.add 1) = some (.int .i64 r81) ∧
  cell h59 (a24.add 2) = some (.slice r82 rL28 rC28) ∧
  K (.tuple #[.slice rows rowsL rowsC, .agg #[.int .i64 r80, .int .i64 r81, .slice r82 rL28 rC28]]) h59)
  ((0 ≤ i ∧ i < (rowsL : Int)) ∧
  NN rows fun a25 =>
  ∃ (a26 : Option Addr) (L10 C10 : Nat), cell h (a25.add (Int.toNat i * 1)) = some (.slice a26 L10 C10) ∧
  (0 ≤ (1 : Int) ∧ (1 : Int) < (L10 : Int)) ∧
  NN a26 fun a27 =>
  ∃ n10 : Int, cell h (a27.add (Int.toNat (1 : Int) * 1)) = some (.int .i64 n10) ∧
  NN o fun a28 =>
  ∃ n11 : Int, cell h a28 = some (.int .i64 n11) ∧
  cond (decide (n11 = 3))
  (InR (i + 1) ∧
  HCalls Tryz.prog 167 #[.slice rows rowsL rowsC, .int .i64 i, .int .i64 (i + 1)] h fun v17 h60 => ∃ (r83 : Option Addr) (rL29 rC29 : Nat), v17 = .slice r83 rL29 rC29 ∧
  model_dict_b3 r83 rL29 rC29 t5 n10 h60  K)
  (model_dict_b3 rows rowsL rowsC t5 n10 h  K))) := by kernel_rfl
theorem model_dict_b3_eq (rows : Option Addr) (rowsL : Nat) (rowsC : Nat) (t5 : Option Addr) (v : Int) (h : Hp)  (K : Value → Hp → Prop) : model_dict_b3 rows rowsL rowsC t5 v h  K = (
  HCalls Tryz.prog 163 #[.int .i64 v] h fun v18 h61 => ∃ r84 : Int, ∃ r85 : Int, ∃ (r86 : Option Addr) (rL30 rC30 : Nat), v18 = .agg #[.int .i64 r84, .int .i64 r85, .slice r86 rL30 rC30] ∧
  NN t5 fun a29 =>
  Wr h61 a29 (.int .i64 r84) fun h62 =>
  Wr h62 (a29.add 1) (.int .i64 r85) fun h63 =>
  Wr h63 (a29.add 2) (.slice r86 rL30 rC30) fun h64 =>
  NN t5 fun a30 =>
  ∃ r87 : Int, ∃ r88 : Int, ∃ (r89 : Option Addr) (rL31 rC31 : Nat), cell h64 a30 = some (.int .i64 r87) ∧
  cell h64 (a30.add 1) = some (.int .i64 r88) ∧
  cell h64 (a30.add 2) = some (.slice r89 rL31 rC31) ∧
  K (.tuple #[.slice rows rowsL rowsC, .agg #[.int .i64 r87, .int .i64 r88, .slice r89 rL31 rC31]]) h64) := by kernel_rfl
theorem model_dict_call {rows : Option Addr} {rowsL : Nat} {rowsC : Nat} {o_0 : Int} {o_1 : Option Addr} {o_1L : Nat} {o_1C : Nat} {h : Hp} {K : Value → Hp → Prop} (hk : model_dict_b0 rows rowsL rowsC o_0 o_1 o_1L o_1C h K) : HCalls Tryz.prog 137 #[.slice rows rowsL rowsC, .agg #[.int .i64 o_0, .slice o_1 o_1L o_1C]] h K :=
  calls_of_snd model_dict_an Tryz.func137 (c := bodyOf Tryz.f137) rfl Tryz.ntmps137 (Nat.le_of_ble_eq_true rfl) (snd_3 F_ok F_mixed) hk

/-! ### model_heap -/
def model_heap_an : Ann := .node none (.leaf) (.node (some [0, 3, 5]) (.leaf) (.node none (.leaf) (.node none (.leaf) (.node (some [0, 5, 8]) (.leaf) (.leaf)))))
def model_heap_K0  (K : Value → Hp → Prop) : Exit → Env → Hp → Prop := retK Tryz.prog Tryz.f138.results.toList K
def model_heap_b0 (rows : Option Addr) (rowsL : Nat) (rowsC : Nat) (o_0 : Int) (o_1 : Option Addr) (o_1L : Nat) (o_1C : Nat) (h : Hp)  (K : Value → Hp → Prop) : Prop :=
  sx_3 Tryz.prog F 57 (cp [] (bodyOf Tryz.f138)) (ap [] model_heap_an) [(0, .slice rows rowsL rowsC), (1, .agg #[.int .i64 o_0, .slice o_1 o_1L o_1C])] h (model_heap_K0  K)
def model_heap_b1 (rows : Option Addr) (rowsL : Nat) (rowsC : Nat) (o : Option Addr) (t5 : Option Addr) (h : Hp)  (K : Value → Hp → Prop) : Prop :=
  sx_2 Tryz.prog F 57 (cp [1, 1] (bodyOf Tryz.f138)) (ap [1, 1] model_heap_an) [(0, .slice rows rowsL rowsC), (3, .pointer o), (5, .pointer t5)] h (model_heap_K0  K)
def model_heap_b2 (rows : Option Addr) (rowsL : Nat) (rowsC : Nat) (t5 : Option Addr) (nv : Int) (h : Hp)  (K : Value → Hp → Prop) : Prop :=
  sx_1 Tryz.prog F 57 (cp [1, 1, 1, 1, 1] (bodyOf Tryz.f138)) (ap [1, 1, 1, 1, 1] model_heap_an) [(0, .slice rows rowsL rowsC), (5, .pointer t5), (8, .int .i64 nv)] h (model_heap_K0  K)
theorem model_heap_b0_eq (rows : Option Addr) (rowsL : Nat) (rowsC : Nat) (o_0 : Int) (o_1 : Option Addr) (o_1L : Nat) (o_1C : Nat) (h : Hp)  (K : Value → Hp → Prop) : model_heap_b0 rows rowsL rowsC o_0 o_1 o_1L o_1C h  K = (
  New h (.cells #[.int .i64 o_0, .slice o_1 o_1L o_1C] 25) fun b1 h1 =>
  New h1 (.cells #[.int .i64 0, .int .i64 0, .slice none 0 0] 61) fun b2 h2 =>
  ∃ n1 : Int, cell h2 ⟨b1, 0, none⟩ = some (.int .i64 n1) ∧
  cond (decide (n1 = 4))
  (HCalls Tryz.prog 163 #[.int .i64 (rowsL : Int)] h2 fun v1 h3 => ∃ r1 : Int, ∃ r2 : Int, ∃ (r3 : Option Addr) (rL1 rC1 : Nat), v1 = .agg #[.int .i64 r1, .int .i64 r2, .slice r3 rL1 rC1] ∧
  Wr h3 ⟨b2, 0, none⟩ (.int .i64 r1) fun h4 =>
  Wr h4 ((⟨b2, 0, none⟩ : Addr).add 1) (.int .i64 r2) fun h5 =>
  Wr h5 ((⟨b2, 0, none⟩ : Addr).add 2) (.slice r3 rL1 rC1) fun h6 =>
  ∃ r4 : Int, ∃ r5 : Int, ∃ (r6 : Option Addr) (rL2 rC2 : Nat), cell h6 ⟨b2, 0, none⟩ = some (.int .i64 r4) ∧
  cell h6 ((⟨b2, 0, none⟩ : Addr).add 1) = some (.int .i64 r5) ∧
  cell h6 ((⟨b2, 0, none⟩ : Addr).add 2) = some (.slice r6 rL2 rC2) ∧
  K (.tuple #[.slice rows rowsL rowsC, .agg #[.int .i64 r4, .int .i64 r5, .slice r6 rL2 rC2]]) h6)
  (cond (decide (n1 = 1))
  (cond (decide ((rowsL : Int) = 500))
  (HCalls Tryz.prog 164 #[.int .i64 4] h2 fun v2 h7 => ∃ r7 : Int, ∃ r8 : Int, ∃ (r9 : Option Addr) (rL3 rC3 : Nat), v2 = .agg #[.int .i64 r7, .int .i64 r8, .slice r9 rL3 rC3] ∧
  Wr h7 ⟨b2, 0, none⟩ (.int .i64 r7) fun h8 =>
  Wr h8 ((⟨b2, 0, none⟩ : Addr).add 1) (.int .i64 r8) fun h9 =>
  Wr h9 ((⟨b2, 0, none⟩ : Addr).add 2) (.slice r9 rL3 rC3) fun h10 =>
  ∃ r10 : Int, ∃ r11 : Int, ∃ (r12 : Option Addr) (rL4 rC4 : Nat), cell h10 ⟨b2, 0, none⟩ = some (.int .i64 r10) ∧
  cell h10 ((⟨b2, 0, none⟩ : Addr).add 1) = some (.int .i64 r11) ∧
  cell h10 ((⟨b2, 0, none⟩ : Addr).add 2) = some (.slice r12 rL4 rC4) ∧
  K (.tuple #[.slice rows rowsL rowsC, .agg #[.int .i64 r10, .int .i64 r11, .slice r12 rL4 rC4]]) h10)
  (∃ (a1 : Option Addr) (L1 C1 : Nat), cell h2 ((⟨b1, 0, none⟩ : Addr).add 1) = some (.slice a1 L1 C1) ∧
  HCalls Tryz.prog 165 #[.slice rows rowsL rowsC, .slice a1 L1 C1] h2 fun v3 h11 => ∃ r13 : Int, ∃ r14 : Bool, v3 = .tuple #[.int .i64 r13, .bool r14] ∧
  ∃ (a2 : Option Addr) (L2 C2 : Nat), cell h11 ((⟨b1, 0, none⟩ : Addr).add 1) = some (.slice a2 L2 C2) ∧
  HCalls Tryz.prog 24 #[.slice a2 L2 C2] h11 fun v4 h12 => ∃ (r15 : Option Addr) (rL5 rC5 : Nat), v4 = .slice r15 rL5 rC5 ∧
  New h12 (.cells #[.slice r15 rL5 rC5] 23) fun b3 h13 =>
  HCalls Tryz.prog 166 #[.slice rows rowsL rowsC, .int .i64 r13, .slice (some ⟨b3, 0, none⟩) 1 1] h13 fun v5 h14 => ∃ (r16 : Option Addr) (rL6 rC6 : Nat), v5 = .slice r16 rL6 rC6 ∧
  HCalls Tryz.prog 163 #[.int .i64 0] h14 fun v6 h15 => ∃ r17 : Int, ∃ r18 : Int, ∃ (r19 : Option Addr) (rL7 rC7 : Nat), v6 = .agg #[.int .i64 r17, .int .i64 r18, .slice r19 rL7 rC7] ∧
  Wr h15 ⟨b2, 0, none⟩ (.int .i64 r17) fun h16 =>
  Wr h16 ((⟨b2, 0, none⟩ : Addr).add 1) (.int .i64 r18) fun h17 =>
  Wr h17 ((⟨b2, 0, none⟩ : Addr).add 2) (.slice r19 rL7 rC7) fun h18 =>
  ∃ r20 : Int, ∃ r21 : Int, ∃ (r22 : Option Addr) (rL8 rC8 : Nat), cell h18 ⟨b2, 0, none⟩ = some (.int .i64 r20) ∧
  cell h18 ((⟨b2, 0, none⟩ : Addr).add 1) = some (.int .i64 r21) ∧
  cell h18 ((⟨b2, 0, none⟩ : Addr).add 2) = some (.slice r22 rL8 rC8) ∧
  K (.tuple #[.slice r16 rL6 rC6, .agg #[.int .i64 r20, .int .i64 r21, .slice r22 rL8 rC8]]) h18))
  (model_heap_b1 rows rowsL rowsC (some ⟨b1, 0, none⟩) (some ⟨b2, 0, none⟩) h2  K))) := by kernel_rfl
theorem model_heap_b1_eq (rows : Option Addr) (rowsL : Nat) (rowsC : Nat) (o : Option Addr) (t5 : Option Addr) (h : Hp)  (K : Value → Hp → Prop) : model_heap_b1 rows rowsL rowsC o t5 h  K = (
  cond (decide ((rowsL : Int) = 0))
  (HCalls Tryz.prog 164 #[.int .i64 14] h fun v7 h19 => ∃ r23 : Int, ∃ r24 : Int, ∃ (r25 : Option Addr) (rL9 rC9 : Nat), v7 = .agg #[.int .i64 r23, .int .i64 r24, .slice r25 rL9 rC9] ∧
  NN t5 fun a3 =>
  Wr h19 a3 (.int .i64 r23) fun h20 =>
  Wr h20 (a3.add 1) (.int .i64 r24) fun h21 =>
  Wr h21 (a3.add 2) (.slice r25 rL9 rC9) fun h22 =>
  NN t5 fun a4 =>
  ∃ r26 : Int, ∃ r27 : Int, ∃ (r28 : Option Addr) (rL10 rC10 : Nat), cell h22 a4 = some (.int .i64 r26) ∧
  cell h22 (a4.add 1) = some (.int .i64 r27) ∧
  cell h22 (a4.add 2) = some (.slice r28 rL10 rC10) ∧
  K (.tuple #[.slice rows rowsL rowsC, .agg #[.int .i64 r26, .int .i64 r27, .slice r28 rL10 rC10]]) h22)
  ((0 ≤ (0 : Int) ∧ (0 : Int) < (rowsL : Int)) ∧
  NN rows fun a5 =>
  ∃ (a6 : Option Addr) (L3 C3 : Nat), cell h (a5.add (Int.toNat (0 : Int) * 1)) = some (.slice a6 L3 C3) ∧
  (0 ≤ (0 : Int) ∧ (0 : Int) < (L3 : Int)) ∧
  NN a6 fun a7 =>
  ∃ n2 : Int, cell h (a7.add (Int.toNat (0 : Int) * 1)) = some (.int .i64 n2) ∧
  NN o fun a8 =>
  ∃ n3 : Int, cell h a8 = some (.int .i64 n3) ∧
  cond (decide (n3 = 3))
  (HCalls Tryz.prog 167 #[.slice rows rowsL rowsC, .int .i64 0, .int .i64 1] h fun v8 h23 => ∃ (r29 : Option Addr) (rL11 rC11 : Nat), v8 = .slice r29 rL11 rC11 ∧
  model_heap_b2 r29 rL11 rC11 t5 n2 h23  K)
  (model_heap_b2 rows rowsL rowsC t5 n2 h  K))) := by kernel_rfl
theorem model_heap_b2_eq (rows : Option Addr) (rowsL : Nat) (rowsC : Nat) (t5 : Option Addr) (nv : Int) (h : Hp)  (K : Value → Hp → Prop) : model_heap_b2 rows rowsL rowsC t5 nv h  K = (
  HCalls Tryz.prog 163 #[.int .i64 nv] h fun v9 h24 => ∃ r30 : Int, ∃ r31 : Int, ∃ (r32 : Option Addr) (rL12 rC12 : Nat), v9 = .agg #[.int .i64 r30, .int .i64 r31, .slice r32 rL12 rC12] ∧
  NN t5 fun a9 =>
  Wr h24 a9 (.int .i64 r30) fun h25 =>
  Wr h25 (a9.add 1) (.int .i64 r31) fun h26 =>
  Wr h26 (a9.add 2) (.slice r32 rL12 rC12) fun h27 =>
  NN t5 fun a10 =>
  ∃ r33 : Int, ∃ r34 : Int, ∃ (r35 : Option Addr) (rL13 rC13 : Nat), cell h27 a10 = some (.int .i64 r33) ∧
  cell h27 (a10.add 1) = some (.int .i64 r34) ∧
  cell h27 (a10.add 2) = some (.slice r35 rL13 rC13) ∧
  K (.tuple #[.slice rows rowsL rowsC, .agg #[.int .i64 r33, .int .i64 r34, .slice r35 rL13 rC13]]) h27) := by kernel_rfl
theorem model_heap_call {rows : Option Addr} {rowsL : Nat} {rowsC : Nat} {o_0 : Int} {o_1 : Option Addr} {o_1L : Nat} {o_1C : Nat} {h : Hp} {K : Value → Hp → Prop} (hk : model_heap_b0 rows rowsL rowsC o_0 o_1 o_1L o_1C h K) : HCalls Tryz.prog 138 #[.slice rows rowsL rowsC, .agg #[.int .i64 o_0, .slice o_1 o_1L o_1C]] h K :=
  calls_of_snd model_heap_an Tryz.func138 (c := bodyOf Tryz.f138) rfl Tryz.ntmps138 (Nat.le_of_ble_eq_true rfl) (snd_3 F_ok F_mixed) hk

/-! ### model_seq -/
/-! ### model_sets -/
/-! ### model_points -/
/-! ### model_text -/
/-! ### slices_rotateRight_partialretro_action -/
/-! ### slices_Reverse_Sint_int -/
/-! ### slices_Delete_Spartialretro_element_partialretro_element -/
def slices_Delete_Spartialretro_element_partialretro_element_an : Ann := .node none (.leaf) (.node none (.leaf) (.node none (.leaf) (.node none (.leaf) (.node none (.tail 6) (.leaf)))))
def slices_Delete_Spartialretro_element_partialretro_element_K0  (K : Value → Hp → Prop) : Exit → Env → Hp → Prop := retK Tryz.prog Tryz.f146.results.toList K
def slices_Delete_Spartialretro_element_partialretro_element_b0 (s : Option Addr) (sL : Nat) (sC : Nat) (i : Int) (j : Int) (h : Hp)  (K : Value → Hp → Prop) : Prop :=
  sx_1 Tryz.prog F 33 (cp [] (bodyOf Tryz.f146)) (ap [] slices_Delete_Spartialretro_element_partialretro_element_an) [(0, .slice s sL sC), (1, .int .i64 i), (2, .int .i64 j)] h (slices_Delete_Spartialretro_element_partialretro_element_K0  K)
theorem slices_Delete_Spartialretro_element_partialretro_element_b0_eq (s : Option Addr) (sL : Nat) (sC : Nat) (i : Int) (j : Int) (h : Hp)  (K : Value → Hp → Prop) : slices_Delete_Spartialretro_element_partialretro_element_b0 s sL sC i j h  K = (
  ∃ (a1 : Option Addr) (l1 c1 : Nat), slC Tryz.prog 94 (.slice s sL sC) (some (.int .i64 i)) (some (.int .i64 j)) (.int .i64 (sL : Int)) h a1 l1 c1 ∧
  cond (decide (i = j))
  (K (.slice s sL sC) h)
  ((0 ≤ (0 : Int) ∧ (0 : Int) ≤ i ∧ i ≤ (sC : Int)) ∧
  (0 ≤ j ∧ j ≤ (sL : Int) ∧ (sL : Int) ≤ (sC : Int)) ∧
  appendV Tryz.prog 94 94 (.slice (subAddr s sC (Int.toNat (0 : Int)) 2) (Int.toNat i - Int.toNat (0 : Int)) (sC - Int.toNat (0 : Int))) (.slice (subAddr s sC (Int.toNat j) 2) (Int.toNat (sL : Int) - Int.toNat j) (sC - Int.toNat j)) h (slK fun a2 l2 c2 h1 =>
  (0 ≤ (l2 : Int) ∧ (l2 : Int) ≤ (sL : Int) ∧ (sL : Int) ≤ (c2 : Int)) ∧
  clearV Tryz.prog 94 (.slice (subAddr a2 c2 (Int.toNat (l2 : Int)) 2) (Int.toNat (sL : Int) - Int.toNat (l2 : Int)) (c2 - Int.toNat (l2 : Int))) h1 fun h2 =>
  K (.slice a2 l2 c2) h2))) := by kernel_rfl
theorem slices_Delete_Spartialretro_element_partialretro_element_call {s : Option Addr} {sL : Nat} {sC : Nat} {i : Int} {j : Int} {h : Hp} {K : Value → Hp → Prop} (hk : slices_Delete_Spartialretro_element_partialretro_element_b0 s sL sC i j h K) : HCalls Tryz.prog 146 #[.slice s sL sC, .int .i64 i, .int .i64 j] h K :=
  calls_of_snd slices_Delete_Spartialretro_element_partialretro_element_an Tryz.func146 (c := bodyOf Tryz.f146) rfl Tryz.ntmps146 (Nat.le_of_ble_eq_true rfl) (snd_1 F_ok F_mixed) hk

/-! ### slices_BinarySearchFunc_Spartialretro_element_partialretro_element_partialretro_element -/
def slices_BinarySearchFunc_Spartialretro_element_partialretro_element_partialretro_element_an : Ann := .node none (.leaf) (.node none (.leaf) (.node none (.leaf) (.node (some [0, 2, 4, 8, 9]) (.loop [0, 2, 4, 8] [(9, .int .i64), (10, .int .i64)] (.node none (.leaf) (.node none (.leaf) (.node none (.tail 6) (.leaf))))) (.node none (.plan (.qu 0 (.qu 1 (.qu 2 (.qu 3 (.qu 4 (.qu 5 (.qu 6 (.qu 7 (.qu 8 (.qu 9 (.qu 10 (.wo 11 (.qu 12 (.qu 13 (.wo 14 (.wo 15 .fin .no) .no))) .no))))))))))))) (.leaf)))))
def slices_BinarySearchFunc_Spartialretro_element_partialretro_element_partialretro_element_K0  (K : Value → Hp → Prop) : Exit → Env → Hp → Prop := retK Tryz.prog Tryz.f147.results.toList K
def slices_BinarySearchFunc_Spartialretro_element_partialretro_element_partialretro_element_K1  (K : Value → Hp → Prop) : Exit → Env → Hp → Prop := thenE (fun env h => sx_1 Tryz.prog F 49 (cp [1, 1, 1, 1] (bodyOf Tryz.f147)) (ap [1, 1, 1, 1] slices_BinarySearchFunc_Spartialretro_element_partialretro_element_partialretro_element_an) (rs [0, 2, 4, 8, 9] env) h (slices_BinarySearchFunc_Spartialretro_element_partialretro_element_partialretro_element_K0  K)) (slices_BinarySearchFunc_Spartialretro_element_partialretro_element_partialretro_element_K0  K)
def slices_BinarySearchFunc_Spartialretro_element_partialretro_element_partialretro_element_K2  (K : Value → Hp → Prop) : Exit → Env → Hp → Prop := blockE 0 (slices_BinarySearchFunc_Spartialretro_element_partialretro_element_partialretro_element_K1  K)
def slices_BinarySearchFunc_Spartialretro_element_partialretro_element_partialretro_element_K3 (nx0 : Int × Int × Unit → Hp → Prop) (K : Value → Hp → Prop) : Exit → Env → Hp → Prop := thenE (fun env h => getV [(9, .int .i64), (10, .int .i64)] env fun s => nx0 s h) (slices_BinarySearchFunc_Spartialretro_element_partialretro_element_partialretro_element_K2  K)
def slices_BinarySearchFunc_Spartialretro_element_partialretro_element_partialretro_element_b0 (x : Option Addr) (xL : Nat) (xC : Nat) (target_0 : Int) (target_1 : Int) (cmp : Value) (h : Hp)  (K : Value → Hp → Prop) : Prop :=
  sx_2 Tryz.prog F 49 (cp [] (bodyOf Tryz.f147)) (ap [] slices_BinarySearchFunc_Spartialretro_element_partialretro_element_partialretro_element_an) [(0, .slice x xL xC), (1, .agg #[.int .i64 target_0, .int .i64 target_1]), (2, cmp)] h (slices_BinarySearchFunc_Spartialretro_element_partialretro_element_partialretro_element_K0  K)
def slices_BinarySearchFunc_Spartialretro_element_partialretro_element_partialretro_element_b1 (i : Int) (j : Int) (x : Option Addr) (xL : Nat) (xC : Nat) (cmp : Value) (target : Option Addr) (nv : Int) (h : Hp) (nx0 : Int × Int × Unit → Hp → Prop) (K : Value → Hp → Prop) : Prop :=
  sx_1 Tryz.prog F 49 (cp [1, 1, 1, 0, 2, 2] (bodyOf Tryz.f147)) (ap [1, 1, 1, 0, 2] slices_BinarySearchFunc_Spartialretro_element_partialretro_element_partialretro_element_an) [(9, .int .i64 i), (10, .int .i64 j), (0, .slice x xL xC), (2, cmp), (4, .pointer target), (8, .int .i64 nv)] h (slices_BinarySearchFunc_Spartialretro_element_partialretro_element_partialretro_element_K3 nx0 K)
def slices_BinarySearchFunc_Spartialretro_element_partialretro_element_partialretro_element_b2 (x : Option Addr) (xL : Nat) (xC : Nat) (cmp : Value) (target : Option Addr) (nv : Int) (i : Int) (h : Hp)  (K : Value → Hp → Prop) : Prop :=
  sx_1 Tryz.prog F 49 (cp [1, 1, 1, 1] (bodyOf Tryz.f147)) (ap [1, 1, 1, 1] slices_BinarySearchFunc_Spartialretro_element_partialretro_element_partialretro_element_an) [(0, .slice x xL xC), (2, cmp), (4, .pointer target), (8, .int .i64 nv), (9, .int .i64 i)] h (slices_BinarySearchFunc_Spartialretro_element_partialretro_element_partialretro_element_K0  K)
theorem slices_BinarySearchFunc_Spartialretro_element_partialretro_element_partialretro_element_b0_eq (x : Option Addr) (xL : Nat) (xC : Nat) (target_0 : Int) (target_1 : Int) (cmp : Value) (h : Hp)  (K : Value → Hp → Prop) : slices_BinarySearchFunc_Spartialretro_element_partialretro_element_partialretro_element_b0 x xL xC target_0 target_1 cmp h  K = (
  New h (.cells #[.int .i64 target_0, .int .i64 target_1] 101) fun b1 h1 =>
  LoopVC ((0, (xL : Int), ()) : Int × Int × Unit) h1 (fun (nx0 : Int × Int × Unit → Hp → Prop) (s1 : Int × Int × Unit) h2 => slices_BinarySearchFunc_Spartialretro_element_partialretro_element_partialretro_element_b1 s1.1 s1.2.1 x xL xC cmp (some ⟨b1, 0, none⟩) (xL : Int) h2 nx0 K)) := by kernel_rfl
theorem slices_BinarySearchFunc_Spartialretro_element_partialretro_element_partialretro_element_b1_eq (i : Int) (j : Int) (x : Option Addr) (xL : Nat) (xC : Nat) (cmp : Value) (target : Option Addr) (nv : Int) (h : Hp) (nx0 : Int × Int × Unit → Hp → Prop) (K : Value → Hp → Prop) : slices_BinarySearchFunc_Spartialretro_element_partialretro_element_partialretro_element_b1 i j x xL xC cmp target nv h nx0 K = (
  cond (decide (i < j))
  (InR (i + j) ∧
  ∃ sr1 : Int, Sx.Shr .u64 (IntKind.u64.wrap (i + j)) 1 sr1 ∧
  InR sr1 ∧
  (0 ≤ sr1 ∧ sr1 < (xL : Int)) ∧
  NN x fun a1 =>
  ∃ n1 : Int, ∃ n2 : Int, cell h (a1.add (Int.toNat sr1 * 2)) = some (.int .i64 n1) ∧
  cell h ((a1.add (Int.toNat sr1 * 2)).add 1) = some (.int .i64 n2) ∧
  NN target fun a2 =>
  ∃ n3 : Int, ∃ n4 : Int, cell h a2 = some (.int .i64 n3) ∧
  cell h (a2.add 1) = some (.int .i64 n4) ∧
  funV cmp fun fg1 fa1 fc1 => callX Tryz.prog F fg1 (fa1 ++ (([.agg #[.int .i64 n1, .int .i64 n2], .agg #[.int .i64 n3, .int .i64 n4]] : List Value) ++ fc1)).toArray h fun v1 h3 => ∃ r1 : Int, v1 = .int .i64 r1 ∧
  cond (decide (r1 < 0))
  (InR (sr1 + 1) ∧
  nx0 (sr1 + 1, j, ()) h3)
  (nx0 (i, sr1, ()) h3))
  (slices_BinarySearchFunc_Spartialretro_element_partialretro_element_partialretro_element_b2 x xL xC cmp target nv i h  K)) := by kernel_rfl
theorem slices_BinarySearchFunc_Spartialretro_element_partialretro_element_partialretro_element_b2_eq (x : Option Addr) (xL : Nat) (xC : Nat) (cmp : Value) (target : Option Addr) (nv : Int) (i : Int) (h : Hp)  (K : Value → Hp → Prop) : slices_BinarySearchFunc_Spartialretro_element_partialretro_element_partialretro_element_b2 x xL xC cmp target nv i h  K = (
  cond (decide (i < nv))
  ((0 ≤ i ∧ i < (xL : Int)) ∧
  NN x fun a3 =>
  ∃ n5 : Int, ∃ n6 : Int, cell h (a3.add (Int.toNat i * 2)) = some (.int .i64 n5) ∧
  cell h ((a3.add (Int.toNat i * 2)).add 1) = some (.int .i64 n6) ∧
  NN target fun a4 =>
  ∃ n7 : Int, ∃ n8 : Int, cell h a4 = some (.int .i64 n7) ∧
  cell h (a4.add 1) = some (.int .i64 n8) ∧
  funV cmp fun fg2 fa2 fc2 => callX Tryz.prog F fg2 (fa2 ++ (([.agg #[.int .i64 n5, .int .i64 n6], .agg #[.int .i64 n7, .int .i64 n8]] : List Value) ++ fc2)).toArray h fun v2 h4 => ∃ r2 : Int, v2 = .int .i64 r2 ∧
  ((.bool (decide (r2 = 0)) : Value) = .bool (decide (r2 = 0))) ∧
  K (.tuple #[.int .i64 i, .bool (decide (r2 = 0))]) h4)
  (((.bool false : Value) = .bool false) ∧
  K (.tuple #[.int .i64 i, .bool false]) h)) := by kernel_rfl
theorem slices_BinarySearchFunc_Spartialretro_element_partialretro_element_partialretro_element_call {x : Option Addr} {xL : Nat} {xC : Nat} {target_0 : Int} {target_1 : Int} {cmp : Value} {h : Hp} {K : Value → Hp → Prop} (hk : slices_BinarySearchFunc_Spartialretro_element_partialretro_element_partialretro_element_b0 x xL xC target_0 target_1 cmp h K) : HCalls Tryz.prog 147 #[.slice x xL xC, .agg #[.int .i64 target_0, .int .i64 target_1], cmp] h K :=
  calls_of_snd slices_BinarySearchFunc_Spartialretro_element_partialretro_element_partialretro_element_an Tryz.func147 (c := bodyOf Tryz.f147) rfl Tryz.ntmps147 (Nat.le_of_ble_eq_true rfl) (snd_2 F_ok F_mixed) hk

/-! ### partialretro_compare -/
def partialretro_compare_an : Ann := .node none (.leaf) (.node none (.tail 10) (.leaf))
def partialretro_compare_K0  (K : Value → Hp → Prop) : Exit → Env → Hp → Prop := retK Tryz.prog Tryz.f148.results.toList K
def partialretro_compare_b0 (a_0 : Int) (a_1 : Int) (b_0 : Int) (b_1 : Int) (h : Hp)  (K : Value → Hp → Prop) : Prop :=
  sx_1 Tryz.prog F 17 (cp [] (bodyOf Tryz.f148)) (ap [] partialretro_compare_an) [(0, .agg #[.int .i64 a_0, .int .i64 a_1]), (1, .agg #[.int .i64 b_0, .int .i64 b_1])] h (partialretro_compare_K0  K)
theorem partialretro_compare_b0_eq (a_0 : Int) (a_1 : Int) (b_0 : Int) (b_1 : Int) (h : Hp)  (K : Value → Hp → Prop) : partialretro_compare_b0 a_0 a_1 b_0 b_1 h  K = (
  New h (.cells #[.int .i64 a_0, .int .i64 a_1] 101) fun b1 h1 =>
  New h1 (.cells #[.int .i64 b_0, .int .i64 b_1] 101) fun b2 h2 =>
  ∃ n1 : Int, cell h2 ⟨b1, 0, none⟩ = some (.int .i64 n1) ∧
  ∃ n2 : Int, cell h2 ⟨b2, 0, none⟩ = some (.int .i64 n2) ∧
  ∃ r1 : Int, HCalls Tryz.prog 103 #[.int .i64 n1, .int .i64 n2] h2 (fun v1 h3 => v1 = .int .i64 r1 ∧ h3 = h2) ∧
  ∃ n3 : Int, cell h2 ((⟨b1, 0, none⟩ : Addr).add 1) = some (.int .i64 n3) ∧
  ∃ n4 : Int, cell h2 ((⟨b2, 0, none⟩ : Addr).add 1) = some (.int .i64 n4) ∧
  ∃ r2 : Int, HCalls Tryz.prog 103 #[.int .i64 n3, .int .i64 n4] h2 (fun v2 h4 => v2 = .int .i64 r2 ∧ h4 = h2) ∧
  New h2 (.cells #[.int .i64 r1, .int .i64 r2] 3) fun b3 h5 =>
  HCalls Tryz.prog 172 #[.slice (some ⟨b3, 0, none⟩) 2 2] h5 fun v3 h6 => ∃ r3 : Int, v3 = .int .i64 r3 ∧
  K (.int .i64 r3) h6) := by kernel_rfl
theorem partialretro_compare_call {a_0 : Int} {a_1 : Int} {b_0 : Int} {b_1 : Int} {h : Hp} {K : Value → Hp → Prop} (hk : partialretro_compare_b0 a_0 a_1 b_0 b_1 h K) : HCalls Tryz.prog 148 #[.agg #[.int .i64 a_0, .int .i64 a_1], .agg #[.int .i64 b_0, .int .i64 b_1]] h K :=
  calls_of_snd partialretro_compare_an Tryz.func148 (c := bodyOf Tryz.f148) rfl Tryz.ntmps148 (Nat.le_of_ble_eq_true rfl) (snd_1 F_ok F_mixed) hk

end Go.Proofs.YtdlkohenamlnaaaGreat
