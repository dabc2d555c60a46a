/- Plain statements of what each block of code of this seat asks; printed by a program, checked by Lean. -/
import Derived.Test.YtaemnjblcpknpaaSxV0
set_option maxRecDepth 10000
namespace Go.Proofs.Ytaemnjblcpknpaa
open Go Go.Sx

/-! ### r03_seq -/
def r03_seq_an : Ann := .node none (.leaf) (.node none (.leaf) (.node none (.leaf) (.node none (.leaf) (.node (some [2, 3, 4, 5, 6, 7]) (.node none (.leaf) (.node none (.leaf) (.node none (.node (some [2, 3, 4, 5, 6, 7]) (.leaf) (.node none (.leaf) (.node none (.plan (.qu 0 (.qu 1 (.qu 2 (.qu 3 (.qu 4 (.qu 5 (.qu 6 (.wo 7 (.wo 8 (.qu 9 (.wo 10 .fin .no)) .no) .no))))))))) (.leaf)))) (.node (some [2, 3, 4, 5, 6, 7, 63]) (.leaf) (.node none (.node none (.leaf) (.node (some [2, 3, 4, 5, 7, 8]) (.leaf) (.node none (.leaf) (.node (some [2, 3, 4, 5, 7, 8, 9]) (.node none (.leaf) (.loop [2, 3, 4, 5, 7, 8] [(9, .int .i64), (10, .int .i64)] (.node none (.leaf) (.node (some [2, 3, 4, 5, 7, 8, 9, 10]) (.leaf) (.leaf))))) (.node none (.leaf) (.node (some [2, 4, 5]) (.node none (.leaf) (.loop [2, 4, 5, 7, 8] [(11, .int .i64)] (.node none (.leaf) (.node (some [2, 4, 5, 7, 8, 11]) (.plan (.qu 0 (.qu 1 (.qu 2 (.qu 3 (.qu 4 (.qu 5 (.qu 6 (.qu 7 (.qu 8 (.qu 9 (.qu 10 (.qu 11 (.qu 12 (.qu 13 (.qu 14 (.qu 15 (.qu 16 (.qu 17 (.qu 18 (.qu 19 (.qu 20 (.qu 21 (.qu 22 (.qu 23 (.qu 24 (.qu 25 (.qu 26 (.wo 27 (.qu 28 (.wo 29 .fin .no)) .no))))))))))))))))))))))))))))) (.leaf))))) (.leaf))))))) (.leaf)))))) (.node (some [2, 3, 4, 5, 7]) (.leaf) (.node none (.leaf) (.node (some [2, 3, 4, 5, 7, 12]) (.leaf) (.node (some [2, 4, 5, 12]) (.node none (.leaf) (.node none (.tail 10) (.leaf))) (.leaf)))))))))
def r03_seq_K0  (K : Value → Hp → Prop) : Exit → Env → Hp → Prop := retK Try.prog Try.f82.results.toList K
def r03_seq_K1  (K : Value → Hp → Prop) : Exit → Env → Hp → Prop := thenE (fun env h => sx_5 Try.prog F 193 (cp [1, 1, 1, 1, 1] (bodyOf Try.f82)) (ap [1, 1, 1, 1, 1] r03_seq_an) (rs [2, 3, 4, 5, 6, 7] env) h (r03_seq_K0  K)) (r03_seq_K0  K)
def r03_seq_K2  (K : Value → Hp → Prop) : Exit → Env → Hp → Prop := blockE 0 (r03_seq_K1  K)
def r03_seq_K3  (K : Value → Hp → Prop) : Exit → Env → Hp → Prop := thenE (fun env h => sx_3 Try.prog F 193 (cp [1, 1, 1, 1, 0, 1, 2, 1, 1, 1, 0, 1, 1, 1, 1] (bodyOf Try.f82)) (ap [1, 1, 1, 1, 0, 1, 1, 1, 1, 0, 1, 1, 1, 1] r03_seq_an) (rs [2, 3, 4, 5, 7, 8, 9] env) h (r03_seq_K2  K)) (r03_seq_K2  K)
def r03_seq_K4  (K : Value → Hp → Prop) : Exit → Env → Hp → Prop := blockE 1 (r03_seq_K3  K)
def r03_seq_K5 (nx0 : Int × Int × Unit → Hp → Prop) (K : Value → Hp → Prop) : Exit → Env → Hp → Prop := thenE (fun env h => getV [(9, .int .i64), (10, .int .i64)] env fun s => nx0 s h) (r03_seq_K4  K)
def r03_seq_K6  (K : Value → Hp → Prop) : Exit → Env → Hp → Prop := thenE (fun env h => sx_2 Try.prog F 193 (cp [1, 1, 1, 1, 0, 1, 2, 1, 1, 1, 0, 1, 1, 1, 1, 1, 1] (bodyOf Try.f82)) (ap [1, 1, 1, 1, 0, 1, 1, 1, 1, 0, 1, 1, 1, 1, 1, 1] r03_seq_an) (rs [2, 4, 5] env) h (r03_seq_K2  K)) (r03_seq_K2  K)
def r03_seq_K7  (K : Value → Hp → Prop) : Exit → Env → Hp → Prop := blockE 3 (r03_seq_K6  K)
def r03_seq_K8 (nx0 : Int × Unit → Hp → Prop) (K : Value → Hp → Prop) : Exit → Env → Hp → Prop := thenE (fun env h => getV [(11, .int .i64)] env fun s => nx0 s h) (r03_seq_K7  K)
def r03_seq_b0 (s_0 : Int) (s_1 : Option Addr) (s_1L : Nat) (s_1C : Nat) (o_0 : Int) (o_1 : Option Addr) (o_1L : Nat) (o_1C : Nat) (h : Hp)  (K : Value → Hp → Prop) : Prop :=
  sx_6 Try.prog F 193 (cp [] (bodyOf Try.f82)) (ap [] r03_seq_an) [(0, .agg #[.int .i64 s_0, .slice s_1 s_1L s_1C]), (1, .agg #[.int .i64 o_0, .slice o_1 o_1L o_1C])] h (r03_seq_K0  K)
def r03_seq_b1 (s : Option Addr) (o : Option Addr) (t4 : Option Addr) (t5 : Option Addr) (nv : Int) (a : Int) (h : Hp)  (K : Value → Hp → Prop) : Prop :=
  sx_5 Try.prog F 193 (cp [1, 1, 1, 1, 0, 1, 2, 1, 0, 1] (bodyOf Try.f82)) (ap [1, 1, 1, 1, 0, 1, 1, 0, 1] r03_seq_an) [(2, .pointer s), (3, .pointer o), (4, .pointer t4), (5, .pointer t5), (6, .int .i64 nv), (7, .int .i64 a)] h (r03_seq_K2  K)
def r03_seq_b2 (s : Option Addr) (o : Option Addr) (t4 : Option Addr) (t5 : Option Addr) (nv : Int) (a : Int) (t63 : Bool) (h : Hp)  (K : Value → Hp → Prop) : Prop :=
  sx_5 Try.prog F 193 (cp [1, 1, 1, 1, 0, 1, 2, 1, 1, 1] (bodyOf Try.f82)) (ap [1, 1, 1, 1, 0, 1, 1, 1, 1] r03_seq_an) [(2, .pointer s), (3, .pointer o), (4, .pointer t4), (5, .pointer t5), (6, .int .i64 nv), (7, .int .i64 a), (63, .bool t63)] h (r03_seq_K2  K)
def r03_seq_b3 (s : Option Addr) (o : Option Addr) (t4 : Option Addr) (t5 : Option Addr) (a : Int) (b : Int) (h : Hp)  (K : Value → Hp → Prop) : Prop :=
  sx_4 Try.prog F 193 (cp [1, 1, 1, 1, 0, 1, 2, 1, 1, 1, 0, 1, 1] (bodyOf Try.f82)) (ap [1, 1, 1, 1, 0, 1, 1, 1, 1, 0, 1, 1] r03_seq_an) [(2, .pointer s), (3, .pointer o), (4, .pointer t4), (5, .pointer t5), (7, .int .i64 a), (8, .int .i64 b)] h (r03_seq_K2  K)
def r03_seq_b4 (s : Option Addr) (o : Option Addr) (t4 : Option Addr) (t5 : Option Addr) (nv : Int) (a : Int) (h : Hp)  (K : Value → Hp → Prop) : Prop :=
  sx_5 Try.prog F 193 (cp [1, 1, 1, 1, 1] (bodyOf Try.f82)) (ap [1, 1, 1, 1, 1] r03_seq_an) [(2, .pointer s), (3, .pointer o), (4, .pointer t4), (5, .pointer t5), (6, .int .i64 nv), (7, .int .i64 a)] h (r03_seq_K0  K)
def r03_seq_b5 (sum : Int) (i : Int) (s : Option Addr) (o : Option Addr) (t4 : Option Addr) (t5 : Option Addr) (a : Int) (b : Int) (h : Hp) (nx0 : Int × Int × Unit → Hp → Prop) (K : Value → Hp → Prop) : Prop :=
  sx_3 Try.prog F 193 (cp [1, 1, 1, 1, 0, 1, 2, 1, 1, 1, 0, 1, 1, 1, 0, 1, 2, 2] (bodyOf Try.f82)) (ap [1, 1, 1, 1, 0, 1, 1, 1, 1, 0, 1, 1, 1, 0, 1, 2] r03_seq_an) [(9, .int .i64 sum), (10, .int .i64 i), (2, .pointer s), (3, .pointer o), (4, .pointer t4), (5, .pointer t5), (7, .int .i64 a), (8, .int .i64 b)] h (r03_seq_K5 nx0 K)
def r03_seq_b6 (s : Option Addr) (o : Option Addr) (t4 : Option Addr) (t5 : Option Addr) (a : Int) (h : Hp)  (K : Value → Hp → Prop) : Prop :=
  sx_4 Try.prog F 193 (cp [1, 1, 1, 1, 1, 1] (bodyOf Try.f82)) (ap [1, 1, 1, 1, 1, 1] r03_seq_an) [(2, .pointer s), (3, .pointer o), (4, .pointer t4), (5, .pointer t5), (7, .int .i64 a)] h (r03_seq_K0  K)
def r03_seq_b7 (s : Option Addr) (o : Option Addr) (t4 : Option Addr) (t5 : Option Addr) (a : Int) (b : Int) (sum : Int) (i : Int) (h : Hp) (nx0 : Int × Int × Unit → Hp → Prop) (K : Value → Hp → Prop) : Prop :=
  sx_2 Try.prog F 193 (cp [1, 1, 1, 1, 0, 1, 2, 1, 1, 1, 0, 1, 1, 1, 0, 1, 2, 2, 1, 1] (bodyOf Try.f82)) (ap [1, 1, 1, 1, 0, 1, 1, 1, 1, 0, 1, 1, 1, 0, 1, 2, 1, 1] r03_seq_an) [(2, .pointer s), (3, .pointer o), (4, .pointer t4), (5, .pointer t5), (7, .int .i64 a), (8, .int .i64 b), (9, .int .i64 sum), (10, .int .i64 i)] h (r03_seq_K5 nx0 K)
def r03_seq_b8 (s : Option Addr) (o : Option Addr) (t4 : Option Addr) (t5 : Option Addr) (a : Int) (b : Int) (sum : Int) (h : Hp)  (K : Value → Hp → Prop) : Prop :=
  sx_3 Try.prog F 193 (cp [1, 1, 1, 1, 0, 1, 2, 1, 1, 1, 0, 1, 1, 1, 1] (bodyOf Try.f82)) (ap [1, 1, 1, 1, 0, 1, 1, 1, 1, 0, 1, 1, 1, 1] r03_seq_an) [(2, .pointer s), (3, .pointer o), (4, .pointer t4), (5, .pointer t5), (7, .int .i64 a), (8, .int .i64 b), (9, .int .i64 sum)] h (r03_seq_K2  K)
def r03_seq_b9 (s : Option Addr) (o : Option Addr) (t4 : Option Addr) (t5 : Option Addr) (a : Int) (v : Int) (h : Hp)  (K : Value → Hp → Prop) : Prop :=
  sx_3 Try.prog F 193 (cp [1, 1, 1, 1, 1, 1, 1, 1] (bodyOf Try.f82)) (ap [1, 1, 1, 1, 1, 1, 1, 1] r03_seq_an) [(2, .pointer s), (3, .pointer o), (4, .pointer t4), (5, .pointer t5), (7, .int .i64 a), (12, .int .i64 v)] h (r03_seq_K0  K)
def r03_seq_b10 (i : Int) (s : Option Addr) (t4 : Option Addr) (t5 : Option Addr) (a : Int) (b : Int) (h : Hp) (nx0 : Int × Unit → Hp → Prop) (K : Value → Hp → Prop) : Prop :=
  sx_2 Try.prog F 193 (cp [1, 1, 1, 1, 0, 1, 2, 1, 1, 1, 0, 1, 1, 1, 1, 1, 0, 1, 2, 2] (bodyOf Try.f82)) (ap [1, 1, 1, 1, 0, 1, 1, 1, 1, 0, 1, 1, 1, 1, 1, 0, 1, 2] r03_seq_an) [(11, .int .i64 i), (2, .pointer s), (4, .pointer t4), (5, .pointer t5), (7, .int .i64 a), (8, .int .i64 b)] h (r03_seq_K8 nx0 K)
def r03_seq_b11 (s : Option Addr) (t4 : Option Addr) (t5 : Option Addr) (v : Int) (h : Hp)  (K : Value → Hp → Prop) : Prop :=
  sx_2 Try.prog F 193 (cp [1, 1, 1, 1, 1, 1, 1, 1, 1] (bodyOf Try.f82)) (ap [1, 1, 1, 1, 1, 1, 1, 1, 1] r03_seq_an) [(2, .pointer s), (4, .pointer t4), (5, .pointer t5), (12, .int .i64 v)] h (r03_seq_K0  K)
def r03_seq_b12 (s : Option Addr) (t4 : Option Addr) (t5 : Option Addr) (a : Int) (b : Int) (i : Int) (h : Hp) (nx0 : Int × Unit → Hp → Prop) (K : Value → Hp → Prop) : Prop :=
  sx_1 Try.prog F 193 (cp [1, 1, 1, 1, 0, 1, 2, 1, 1, 1, 0, 1, 1, 1, 1, 1, 0, 1, 2, 2, 1, 1] (bodyOf Try.f82)) (ap [1, 1, 1, 1, 0, 1, 1, 1, 1, 0, 1, 1, 1, 1, 1, 0, 1, 2, 1, 1] r03_seq_an) [(2, .pointer s), (4, .pointer t4), (5, .pointer t5), (7, .int .i64 a), (8, .int .i64 b), (11, .int .i64 i)] h (r03_seq_K8 nx0 K)
def r03_seq_b13 (s : Option Addr) (t4 : Option Addr) (t5 : Option Addr) (h : Hp)  (K : Value → Hp → Prop) : Prop :=
  sx_2 Try.prog F 193 (cp [1, 1, 1, 1, 0, 1, 2, 1, 1, 1, 0, 1, 1, 1, 1, 1, 1] (bodyOf Try.f82)) (ap [1, 1, 1, 1, 0, 1, 1, 1, 1, 0, 1, 1, 1, 1, 1, 1] r03_seq_an) [(2, .pointer s), (4, .pointer t4), (5, .pointer t5)] h (r03_seq_K2  K)
theorem r03_seq_b0_eq (s_0 : Int) (s_1 : Option Addr) (s_1L : Nat) (s_1C : Nat) (o_0 : Int) (o_1 : Option Addr) (o_1L : Nat) (o_1C : Nat) (h : Hp)  (K : Value → Hp → Prop) : r03_seq_b0 s_0 s_1 s_1L s_1C o_0 o_1 o_1L o_1C h  K = (
  New h (.cells #[.int .i64 s_0, .slice s_1 s_1L s_1C] 108) fun b1 h1 =>
  New h1 (.cells #[.int .i64 o_0, .slice o_1 o_1L o_1C] 58) fun b2 h2 =>
  New h2 (.cells #[.int .i64 0, .slice none 0 0] 108) fun b3 h3 =>
  New h3 (.cells #[.int .i64 0, .int .i64 0, .slice none 0 0] 61) fun b4 h4 =>
  ∃ (a1 : Option Addr) (L1 C1 : Nat), cell h4 ((⟨b1, 0, none⟩ : Addr).add 1) = some (.slice a1 L1 C1) ∧
  ∃ n1 : Int, cell h4 ⟨b2, 0, none⟩ = some (.int .i64 n1) ∧
  cond (decide (n1 = 7))
  (∃ n2 : Int, ∃ (a2 : Option Addr) (L2 C2 : Nat), cell h4 ⟨b1, 0, none⟩ = some (.int .i64 n2) ∧
  cell h4 ((⟨b1, 0, none⟩ : Addr).add 1) = some (.slice a2 L2 C2) ∧
  HCalls Try.prog 97 #[.agg #[.int .i64 n2, .slice a2 L2 C2], .int .i64 (L1 : Int)] h4 fun v1 h5 => ∃ r1 : Int, ∃ (r2 : Option Addr) (rL1 rC1 : Nat), ∃ r3 : Int, ∃ r4 : Int, ∃ (r5 : Option Addr) (rL2 rC2 : Nat), v1 = .tuple #[.agg #[.int .i64 r1, .slice r2 rL1 rC1], .agg #[.int .i64 r3, .int .i64 r4, .slice r5 rL2 rC2]] ∧
  Wr h5 ⟨b3, 0, none⟩ (.int .i64 r1) fun h6 =>
  Wr h6 ((⟨b3, 0, none⟩ : Addr).add 1) (.slice r2 rL1 rC1) fun h7 =>
  Wr h7 ⟨b4, 0, none⟩ (.int .i64 r3) fun h8 =>
  Wr h8 ((⟨b4, 0, none⟩ : Addr).add 1) (.int .i64 r4) fun h9 =>
  Wr h9 ((⟨b4, 0, none⟩ : Addr).add 2) (.slice r5 rL2 rC2) fun h10 =>
  ∃ r6 : Int, ∃ (r7 : Option Addr) (rL3 rC3 : Nat), cell h10 ⟨b3, 0, none⟩ = some (.int .i64 r6) ∧
  cell h10 ((⟨b3, 0, none⟩ : Addr).add 1) = some (.slice r7 rL3 rC3) ∧
  ∃ r8 : Int, ∃ r9 : Int, ∃ (r10 : Option Addr) (rL4 rC4 : Nat), cell h10 ⟨b4, 0, none⟩ = some (.int .i64 r8) ∧
  cell h10 ((⟨b4, 0, none⟩ : Addr).add 1) = some (.int .i64 r9) ∧
  cell h10 ((⟨b4, 0, none⟩ : Addr).add 2) = some (.slice r10 rL4 rC4) ∧
  K (.tuple #[.agg #[.int .i64 r6, .slice r7 rL3 rC3], .agg #[.int .i64 r8, .int .i64 r9, .slice r10 rL4 rC4]]) h10)
  (∃ (a3 : Option Addr) (L3 C3 : Nat), cell h4 ((⟨b2, 0, none⟩ : Addr).add 1) = some (.slice a3 L3 C3) ∧
  (0 ≤ (0 : Int) ∧ (0 : Int) < (L3 : Int)) ∧
  NN a3 fun a4 =>
  ∃ n3 : Int, cell h4 (a4.add (Int.toNat (0 : Int) * 1)) = some (.int .i64 n3) ∧
  ∃ n4 : Int, cell h4 ⟨b2, 0, none⟩ = some (.int .i64 n4) ∧
  cond (decide (n4 = 1))
  (cond (decide (n3 < 0))
  (∃ n5 : Int, ∃ (a5 : Option Addr) (L4 C4 : Nat), cell h4 ⟨b1, 0, none⟩ = some (.int .i64 n5) ∧
  cell h4 ((⟨b1, 0, none⟩ : Addr).add 1) = some (.slice a5 L4 C4) ∧
  HCalls Try.prog 98 #[.agg #[.int .i64 n5, .slice a5 L4 C4], .int .i64 2] h4 fun v2 h11 => ∃ r11 : Int, ∃ (r12 : Option Addr) (rL5 rC5 : Nat), ∃ r13 : Int, ∃ r14 : Int, ∃ (r15 : Option Addr) (rL6 rC6 : Nat), v2 = .tuple #[.agg #[.int .i64 r11, .slice r12 rL5 rC5], .agg #[.int .i64 r13, .int .i64 r14, .slice r15 rL6 rC6]] ∧
  Wr h11 ⟨b3, 0, none⟩ (.int .i64 r11) fun h12 =>
  Wr h12 ((⟨b3, 0, none⟩ : Addr).add 1) (.slice r12 rL5 rC5) fun h13 =>
  Wr h13 ⟨b4, 0, none⟩ (.int .i64 r13) fun h14 =>
  Wr h14 ((⟨b4, 0, none⟩ : Addr).add 1) (.int .i64 r14) fun h15 =>
  Wr h15 ((⟨b4, 0, none⟩ : Addr).add 2) (.slice r15 rL6 rC6) fun h16 =>
  ∃ r16 : Int, ∃ (r17 : Option Addr) (rL7 rC7 : Nat), cell h16 ⟨b3, 0, none⟩ = some (.int .i64 r16) ∧
  cell h16 ((⟨b3, 0, none⟩ : Addr).add 1) = some (.slice r17 rL7 rC7) ∧
  ∃ r18 : Int, ∃ r19 : Int, ∃ (r20 : Option Addr) (rL8 rC8 : Nat), cell h16 ⟨b4, 0, none⟩ = some (.int .i64 r18) ∧
  cell h16 ((⟨b4, 0, none⟩ : Addr).add 1) = some (.int .i64 r19) ∧
  cell h16 ((⟨b4, 0, none⟩ : Addr).add 2) = some (.slice r20 rL8 rC8) ∧
  K (.tuple #[.agg #[.int .i64 r16, .slice r17 rL7 rC7], .agg #[.int .i64 r18, .int .i64 r19, .slice r20 rL8 rC8]]) h16)
  (cond (decide ((L1 : Int) < n3))
  (∃ n6 : Int, ∃ (a6 : Option Addr) (L5 C5 : Nat), cell h4 ⟨b1, 0, none⟩ = some (.int .i64 n6) ∧
  cell h4 ((⟨b1, 0, none⟩ : Addr).add 1) = some (.slice a6 L5 C5) ∧
  HCalls Try.prog 98 #[.agg #[.int .i64 n6, .slice a6 L5 C5], .int .i64 2] h4 fun v3 h17 => ∃ r21 : Int, ∃ (r22 : Option Addr) (rL9 rC9 : Nat), ∃ r23 : Int, ∃ r24 : Int, ∃ (r25 : Option Addr) (rL10 rC10 : Nat), v3 = .tuple #[.agg #[.int .i64 r21, .slice r22 rL9 rC9], .agg #[.int .i64 r23, .int .i64 r24, .slice r25 rL10 rC10]] ∧
  Wr h17 ⟨b3, 0, none⟩ (.int .i64 r21) fun h18 =>
  Wr h18 ((⟨b3, 0, none⟩ : Addr).add 1) (.slice r22 rL9 rC9) fun h19 =>
  Wr h19 ⟨b4, 0, none⟩ (.int .i64 r23) fun h20 =>
  Wr h20 ((⟨b4, 0, none⟩ : Addr).add 1) (.int .i64 r24) fun h21 =>
  Wr h21 ((⟨b4, 0, none⟩ : Addr).add 2) (.slice r25 rL10 rC10) fun h22 =>
  ∃ r26 : Int, ∃ (r27 : Option Addr) (rL11 rC11 : Nat), cell h22 ⟨b3, 0, none⟩ = some (.int .i64 r26) ∧
  cell h22 ((⟨b3, 0, none⟩ : Addr).add 1) = some (.slice r27 rL11 rC11) ∧
  ∃ r28 : Int, ∃ r29 : Int, ∃ (r30 : Option Addr) (rL12 rC12 : Nat), cell h22 ⟨b4, 0, none⟩ = some (.int .i64 r28) ∧
  cell h22 ((⟨b4, 0, none⟩ : Addr).add 1) = some (.int .i64 r29) ∧
  cell h22 ((⟨b4, 0, none⟩ : Addr).add 2) = some (.slice r30 rL12 rC12) ∧
  K (.tuple #[.agg #[.int .i64 r26, .slice r27 rL11 rC11], .agg #[.int .i64 r28, .int .i64 r29, .slice r30 rL12 rC12]]) h22)
  (r03_seq_b1 (some ⟨b1, 0, none⟩) (some ⟨b2, 0, none⟩) (some ⟨b3, 0, none⟩) (some ⟨b4, 0, none⟩) (L1 : Int) n3 h4  K)))
  (cond (decide (n4 = 5))
  (r03_seq_b2 (some ⟨b1, 0, none⟩) (some ⟨b2, 0, none⟩) (some ⟨b3, 0, none⟩) (some ⟨b4, 0, none⟩) (L1 : Int) n3 (decide (n4 = 5)) h4  K)
  (r03_seq_b2 (some ⟨b1, 0, none⟩) (some ⟨b2, 0, none⟩) (some ⟨b3, 0, none⟩) (some ⟨b4, 0, none⟩) (L1 : Int) n3 (decide (n4 = 6)) h4  K)))) := by kernel_rfl
theorem r03_seq_b1_eq (s : Option Addr) (o : Option Addr) (t4 : Option Addr) (t5 : Option Addr) (nv : Int) (a : Int) (h : Hp)  (K : Value → Hp → Prop) : r03_seq_b1 s o t4 t5 nv a h  K = (
  cond (decide (nv = 500))
  (NN s fun a7 =>
  ∃ n7 : Int, ∃ (a8 : Option Addr) (L6 C6 : Nat), cell h a7 = some (.int .i64 n7) ∧
  cell h (a7.add 1) = some (.slice a8 L6 C6) ∧
  HCalls Try.prog 98 #[.agg #[.int .i64 n7, .slice a8 L6 C6], .int .i64 4] h fun v4 h23 => ∃ r31 : Int, ∃ (r32 : Option Addr) (rL13 rC13 : Nat), ∃ r33 : Int, ∃ r34 : Int, ∃ (r35 : Option Addr) (rL14 rC14 : Nat), v4 = .tuple #[.agg #[.int .i64 r31, .slice r32 rL13 rC13], .agg #[.int .i64 r33, .int .i64 r34, .slice r35 rL14 rC14]] ∧
  NN t4 fun a9 =>
  Wr h23 a9 (.int .i64 r31) fun h24 =>
  Wr h24 (a9.add 1) (.slice r32 rL13 rC13) fun h25 =>
  NN t5 fun a10 =>
  Wr h25 a10 (.int .i64 r33) fun h26 =>
  Wr h26 (a10.add 1) (.int .i64 r34) fun h27 =>
  Wr h27 (a10.add 2) (.slice r35 rL14 rC14) fun h28 =>
  NN t4 fun a11 =>
  ∃ r36 : Int, ∃ (r37 : Option Addr) (rL15 rC15 : Nat), cell h28 a11 = some (.int .i64 r36) ∧
  cell h28 (a11.add 1) = some (.slice r37 rL15 rC15) ∧
  NN t5 fun a12 =>
  ∃ r38 : Int, ∃ r39 : Int, ∃ (r40 : Option Addr) (rL16 rC16 : Nat), cell h28 a12 = some (.int .i64 r38) ∧
  cell h28 (a12.add 1) = some (.int .i64 r39) ∧
  cell h28 (a12.add 2) = some (.slice r40 rL16 rC16) ∧
  K (.tuple #[.agg #[.int .i64 r36, .slice r37 rL15 rC15], .agg #[.int .i64 r38, .int .i64 r39, .slice r40 rL16 rC16]]) h28)
  (NN s fun a13 =>
  ∃ (a14 : Option Addr) (L7 C7 : Nat), cell h (a13.add 1) = some (.slice a14 L7 C7) ∧
  NN o fun a15 =>
  ∃ (a16 : Option Addr) (L8 C8 : Nat), cell h (a15.add 1) = some (.slice a16 L8 C8) ∧
  (0 ≤ (1 : Int) ∧ (1 : Int) < (L8 : Int)) ∧
  NN a16 fun a17 =>
  ∃ n8 : Int, cell h (a17.add (Int.toNat (1 : Int) * 1)) = some (.int .i64 n8) ∧
  New h (.cells #[.int .i64 n8] 3) fun b5 h29 =>
  (∃ (a18 : Option Addr) (L9 C9 : Nat), cell h29 (a13.add 1) = some (.slice a18 L9 C9) ∧
  (.slice a18 L9 C9 : Value) = .slice a14 L7 C7) ∧
  HCalls Try.prog 99 #[.slice a14 L7 C7, .int .i64 a, .slice (some ⟨b5, 0, none⟩) 1 1] h29 fun v5 h30 => ∃ (r41 : Option Addr) (rL17 rC17 : Nat), v5 = .slice r41 rL17 rC17 ∧
  NN s fun a19 =>
  Wr h30 (a19.add 1) (.slice r41 rL17 rC17) fun h31 =>
  NN s fun a20 =>
  ∃ n9 : Int, ∃ (a21 : Option Addr) (L10 C10 : Nat), cell h31 a20 = some (.int .i64 n9) ∧
  cell h31 (a20.add 1) = some (.slice a21 L10 C10) ∧
  HCalls Try.prog 97 #[.agg #[.int .i64 n9, .slice a21 L10 C10], .int .i64 0] h31 fun v6 h32 => ∃ r42 : Int, ∃ (r43 : Option Addr) (rL18 rC18 : Nat), ∃ r44 : Int, ∃ r45 : Int, ∃ (r46 : Option Addr) (rL19 rC19 : Nat), v6 = .tuple #[.agg #[.int .i64 r42, .slice r43 rL18 rC18], .agg #[.int .i64 r44, .int .i64 r45, .slice r46 rL19 rC19]] ∧
  NN t4 fun a22 =>
  Wr h32 a22 (.int .i64 r42) fun h33 =>
  Wr h33 (a22.add 1) (.slice r43 rL18 rC18) fun h34 =>
  NN t5 fun a23 =>
  Wr h34 a23 (.int .i64 r44) fun h35 =>
  Wr h35 (a23.add 1) (.int .i64 r45) fun h36 =>
  Wr h36 (a23.add 2) (.slice r46 rL19 rC19) fun h37 =>
  NN t4 fun a24 =>
  ∃ r47 : Int, ∃ (r48 : Option Addr) (rL20 rC20 : Nat), cell h37 a24 = some (.int .i64 r47) ∧
  cell h37 (a24.add 1) = some (.slice r48 rL20 rC20) ∧
  NN t5 fun a25 =>
  ∃ r49 : Int, ∃ r50 : Int, ∃ (r51 : Option Addr) (rL21 rC21 : Nat), cell h37 a25 = some (.int .i64 r49) ∧
  cell h37 (a25.add 1) = some (.int .i64 r50) ∧
  cell h37 (a25.add 2) = some (.slice r51 rL21 rC21) ∧
  K (.tuple #[.agg #[.int .i64 r47, .slice r48 rL20 rC20], .agg #[.int .i64 r49, .int .i64 r50, .slice r51 rL21 rC21]]) h37)) := by kernel_rfl
theorem r03_seq_b2_eq (s : Option Addr) (o : Option Addr) (t4 : Option Addr) (t5 : Option Addr) (nv : Int) (a : Int) (t63 : Bool) (h : Hp)  (K : Value → Hp → Prop) : r03_seq_b2 s o t4 t5 nv a t63 h  K = (
  cond t63
  (NN o fun a26 =>
  ∃ (a27 : Option Addr) (L11 C11 : Nat), cell h (a26.add 1) = some (.slice a27 L11 C11) ∧
  (0 ≤ (1 : Int) ∧ (1 : Int) < (L11 : Int)) ∧
  NN a27 fun a28 =>
  ∃ n10 : Int, cell h (a28.add (Int.toNat (1 : Int) * 1)) = some (.int .i64 n10) ∧
  cond (decide (a < 0))
  (NN s fun a29 =>
  ∃ n11 : Int, ∃ (a30 : Option Addr) (L12 C12 : Nat), cell h a29 = some (.int .i64 n11) ∧
  cell h (a29.add 1) = some (.slice a30 L12 C12) ∧
  HCalls Try.prog 98 #[.agg #[.int .i64 n11, .slice a30 L12 C12], .int .i64 2] h fun v7 h38 => ∃ r52 : Int, ∃ (r53 : Option Addr) (rL22 rC22 : Nat), ∃ r54 : Int, ∃ r55 : Int, ∃ (r56 : Option Addr) (rL23 rC23 : Nat), v7 = .tuple #[.agg #[.int .i64 r52, .slice r53 rL22 rC22], .agg #[.int .i64 r54, .int .i64 r55, .slice r56 rL23 rC23]] ∧
  NN t4 fun a31 =>
  Wr h38 a31 (.int .i64 r52) fun h39 =>
  Wr h39 (a31.add 1) (.slice r53 rL22 rC22) fun h40 =>
  NN t5 fun a32 =>
  Wr h40 a32 (.int .i64 r54) fun h41 =>
  Wr h41 (a32.add 1) (.int .i64 r55) fun h42 =>
  Wr h42 (a32.add 2) (.slice r56 rL23 rC23) fun h43 =>
  NN t4 fun a33 =>
  ∃ r57 : Int, ∃ (r58 : Option Addr) (rL24 rC24 : Nat), cell h43 a33 = some (.int .i64 r57) ∧
  cell h43 (a33.add 1) = some (.slice r58 rL24 rC24) ∧
  NN t5 fun a34 =>
  ∃ r59 : Int, ∃ r60 : Int, ∃ (r61 : Option Addr) (rL25 rC25 : Nat), cell h43 a34 = some (.int .i64 r59) ∧
  cell h43 (a34.add 1) = some (.int .i64 r60) ∧
  cell h43 (a34.add 2) = some (.slice r61 rL25 rC25) ∧
  K (.tuple #[.agg #[.int .i64 r57, .slice r58 rL24 rC24], .agg #[.int .i64 r59, .int .i64 r60, .slice r61 rL25 rC25]]) h43)
  (cond (decide (n10 < a))
  (NN s fun a35 =>
  ∃ n12 : Int, ∃ (a36 : Option Addr) (L13 C13 : Nat), cell h a35 = some (.int .i64 n12) ∧
  cell h (a35.add 1) = some (.slice a36 L13 C13) ∧
  HCalls Try.prog 98 #[.agg #[.int .i64 n12, .slice a36 L13 C13], .int .i64 2] h fun v8 h44 => ∃ r62 : Int, ∃ (r63 : Option Addr) (rL26 rC26 : Nat), ∃ r64 : Int, ∃ r65 : Int, ∃ (r66 : Option Addr) (rL27 rC27 : Nat), v8 = .tuple #[.agg #[.int .i64 r62, .slice r63 rL26 rC26], .agg #[.int .i64 r64, .int .i64 r65, .slice r66 rL27 rC27]] ∧
  NN t4 fun a37 =>
  Wr h44 a37 (.int .i64 r62) fun h45 =>
  Wr h45 (a37.add 1) (.slice r63 rL26 rC26) fun h46 =>
  NN t5 fun a38 =>
  Wr h46 a38 (.int .i64 r64) fun h47 =>
  Wr h47 (a38.add 1) (.int .i64 r65) fun h48 =>
  Wr h48 (a38.add 2) (.slice r66 rL27 rC27) fun h49 =>
  NN t4 fun a39 =>
  ∃ r67 : Int, ∃ (r68 : Option Addr) (rL28 rC28 : Nat), cell h49 a39 = some (.int .i64 r67) ∧
  cell h49 (a39.add 1) = some (.slice r68 rL28 rC28) ∧
  NN t5 fun a40 =>
  ∃ r69 : Int, ∃ r70 : Int, ∃ (r71 : Option Addr) (rL29 rC29 : Nat), cell h49 a40 = some (.int .i64 r69) ∧
  cell h49 (a40.add 1) = some (.int .i64 r70) ∧
  cell h49 (a40.add 2) = some (.slice r71 rL29 rC29) ∧
  K (.tuple #[.agg #[.int .i64 r67, .slice r68 rL28 rC28], .agg #[.int .i64 r69, .int .i64 r70, .slice r71 rL29 rC29]]) h49)
  (cond (decide (nv < n10))
  (NN s fun a41 =>
  ∃ n13 : Int, ∃ (a42 : Option Addr) (L14 C14 : Nat), cell h a41 = some (.int .i64 n13) ∧
  cell h (a41.add 1) = some (.slice a42 L14 C14) ∧
  HCalls Try.prog 98 #[.agg #[.int .i64 n13, .slice a42 L14 C14], .int .i64 2] h fun v9 h50 => ∃ r72 : Int, ∃ (r73 : Option Addr) (rL30 rC30 : Nat), ∃ r74 : Int, ∃ r75 : Int, ∃ (r76 : Option Addr) (rL31 rC31 : Nat), v9 = .tuple #[.agg #[.int .i64 r72, .slice r73 rL30 rC30], .agg #[.int .i64 r74, .int .i64 r75, .slice r76 rL31 rC31]] ∧
  NN t4 fun a43 =>
  Wr h50 a43 (.int .i64 r72) fun h51 =>
  Wr h51 (a43.add 1) (.slice r73 rL30 rC30) fun h52 =>
  NN t5 fun a44 =>
  Wr h52 a44 (.int .i64 r74) fun h53 =>
  Wr h53 (a44.add 1) (.int .i64 r75) fun h54 =>
  Wr h54 (a44.add 2) (.slice r76 rL31 rC31) fun h55 =>
  NN t4 fun a45 =>
  ∃ r77 : Int, ∃ (r78 : Option Addr) (rL32 rC32 : Nat), cell h55 a45 = some (.int .i64 r77) ∧
  cell h55 (a45.add 1) = some (.slice r78 rL32 rC32) ∧
  NN t5 fun a46 =>
  ∃ r79 : Int, ∃ r80 : Int, ∃ (r81 : Option Addr) (rL33 rC33 : Nat), cell h55 a46 = some (.int .i64 r79) ∧
  cell h55 (a46.add 1) = some (.int .i64 r80) ∧
  cell h55 (a46.add 2) = some (.slice r81 rL33 rC33) ∧
  K (.tuple #[.agg #[.int .i64 r77, .slice r78 rL32 rC32], .agg #[.int .i64 r79, .int .i64 r80, .slice r81 rL33 rC33]]) h55)
  (r03_seq_b3 s o t4 t5 a n10 h  K))))
  (r03_seq_b4 s o t4 t5 nv a h  K)) := by kernel_rfl
theorem r03_seq_b3_eq (s : Option Addr) (o : Option Addr) (t4 : Option Addr) (t5 : Option Addr) (a : Int) (b : Int) (h : Hp)  (K : Value → Hp → Prop) : r03_seq_b3 s o t4 t5 a b h  K = (
  LoopVC ((0, a, ()) : Int × Int × Unit) h (fun (nx0 : Int × Int × Unit → Hp → Prop) (s1 : Int × Int × Unit) h56 => r03_seq_b5 s1.1 s1.2.1 s o t4 t5 a b h56 nx0 K)) := by kernel_rfl
theorem r03_seq_b4_eq (s : Option Addr) (o : Option Addr) (t4 : Option Addr) (t5 : Option Addr) (nv : Int) (a : Int) (h : Hp)  (K : Value → Hp → Prop) : r03_seq_b4 s o t4 t5 nv a h  K = (
  cond (decide (a < 0))
  (NN s fun a47 =>
  ∃ n14 : Int, ∃ (a48 : Option Addr) (L15 C15 : Nat), cell h a47 = some (.int .i64 n14) ∧
  cell h (a47.add 1) = some (.slice a48 L15 C15) ∧
  HCalls Try.prog 98 #[.agg #[.int .i64 n14, .slice a48 L15 C15], .int .i64 2] h fun v10 h57 => ∃ r82 : Int, ∃ (r83 : Option Addr) (rL34 rC34 : Nat), ∃ r84 : Int, ∃ r85 : Int, ∃ (r86 : Option Addr) (rL35 rC35 : Nat), v10 = .tuple #[.agg #[.int .i64 r82, .slice r83 rL34 rC34], .agg #[.int .i64 r84, .int .i64 r85, .slice r86 rL35 rC35]] ∧
  NN t4 fun a49 =>
  Wr h57 a49 (.int .i64 r82) fun h58 =>
  Wr h58 (a49.add 1) (.slice r83 rL34 rC34) fun h59 =>
  NN t5 fun a50 =>
  Wr h59 a50 (.int .i64 r84) fun h60 =>
  Wr h60 (a50.add 1) (.int .i64 r85) fun h61 =>
  Wr h61 (a50.add 2) (.slice r86 rL35 rC35) fun h62 =>
  NN t4 fun a51 =>
  ∃ r87 : Int, ∃ (r88 : Option Addr) (rL36 rC36 : Nat), cell h62 a51 = some (.int .i64 r87) ∧
  cell h62 (a51.add 1) = some (.slice r88 rL36 rC36) ∧
  NN t5 fun a52 =>
  ∃ r89 : Int, ∃ r90 : Int, ∃ (r91 : Option Addr) (rL37 rC37 : Nat), cell h62 a52 = some (.int .i64 r89) ∧
  cell h62 (a52.add 1) = some (.int .i64 r90) ∧
  cell h62 (a52.add 2) = some (.slice r91 rL37 rC37) ∧
  K (.tuple #[.agg #[.int .i64 r87, .slice r88 rL36 rC36], .agg #[.int .i64 r89, .int .i64 r90, .slice r91 rL37 rC37]]) h62)
  (cond (decide (nv ≤ a))
  (NN s fun a53 =>
  ∃ n15 : Int, ∃ (a54 : Option Addr) (L16 C16 : Nat), cell h a53 = some (.int .i64 n15) ∧
  cell h (a53.add 1) = some (.slice a54 L16 C16) ∧
  HCalls Try.prog 98 #[.agg #[.int .i64 n15, .slice a54 L16 C16], .int .i64 2] h fun v11 h63 => ∃ r92 : Int, ∃ (r93 : Option Addr) (rL38 rC38 : Nat), ∃ r94 : Int, ∃ r95 : Int, ∃ (r96 : Option Addr) (rL39 rC39 : Nat), v11 = .tuple #[.agg #[.int .i64 r92, .slice r93 rL38 rC38], .agg #[.int .i64 r94, .int .i64 r95, .slice r96 rL39 rC39]] ∧
  NN t4 fun a55 =>
  Wr h63 a55 (.int .i64 r92) fun h64 =>
  Wr h64 (a55.add 1) (.slice r93 rL38 rC38) fun h65 =>
  NN t5 fun a56 =>
  Wr h65 a56 (.int .i64 r94) fun h66 =>
  Wr h66 (a56.add 1) (.int .i64 r95) fun h67 =>
  Wr h67 (a56.add 2) (.slice r96 rL39 rC39) fun h68 =>
  NN t4 fun a57 =>
  ∃ r97 : Int, ∃ (r98 : Option Addr) (rL40 rC40 : Nat), cell h68 a57 = some (.int .i64 r97) ∧
  cell h68 (a57.add 1) = some (.slice r98 rL40 rC40) ∧
  NN t5 fun a58 =>
  ∃ r99 : Int, ∃ r100 : Int, ∃ (r101 : Option Addr) (rL41 rC41 : Nat), cell h68 a58 = some (.int .i64 r99) ∧
  cell h68 (a58.add 1) = some (.int .i64 r100) ∧
  cell h68 (a58.add 2) = some (.slice r101 rL41 rC41) ∧
  K (.tuple #[.agg #[.int .i64 r97, .slice r98 rL40 rC40], .agg #[.int .i64 r99, .int .i64 r100, .slice r101 rL41 rC41]]) h68)
  (r03_seq_b6 s o t4 t5 a h  K))) := by kernel_rfl
theorem r03_seq_b5_eq (sum : Int) (i : Int) (s : Option Addr) (o : Option Addr) (t4 : Option Addr) (t5 : Option Addr) (a : Int) (b : Int) (h : Hp) (nx0 : Int × Int × Unit → Hp → Prop) (K : Value → Hp → Prop) : r03_seq_b5 sum i s o t4 t5 a b h nx0 K = (
  cond (decide (i < b))
  (NN s fun a59 =>
  ∃ (a60 : Option Addr) (L17 C17 : Nat), cell h (a59.add 1) = some (.slice a60 L17 C17) ∧
  (0 ≤ i ∧ i < (L17 : Int)) ∧
  NN a60 fun a61 =>
  ∃ (a62 : Option Addr) (L18 C18 : Nat), cell h (a61.add (Int.toNat i * 1)) = some (.slice a62 L18 C18) ∧
  (0 ≤ (0 : Int) ∧ (0 : Int) < (L18 : Int)) ∧
  NN a62 fun a63 =>
  ∃ n16 : Int, cell h (a63.add (Int.toNat (0 : Int) * 1)) = some (.int .i64 n16) ∧
  InR (sum + n16) ∧
  r03_seq_b7 s o t4 t5 a b (sum + n16) i h nx0 K)
  (r03_seq_b8 s o t4 t5 a b sum h  K)) := by kernel_rfl
theorem r03_seq_b6_eq (s : Option Addr) (o : Option Addr) (t4 : Option Addr) (t5 : Option Addr) (a : Int) (h : Hp)  (K : Value → Hp → Prop) : r03_seq_b6 s o t4 t5 a h  K = (
  NN s fun a64 =>
  ∃ (a65 : Option Addr) (L19 C19 : Nat), cell h (a64.add 1) = some (.slice a65 L19 C19) ∧
  (0 ≤ a ∧ a < (L19 : Int)) ∧
  NN a65 fun a66 =>
  ∃ (a67 : Option Addr) (L20 C20 : Nat), cell h (a66.add (Int.toNat a * 1)) = some (.slice a67 L20 C20) ∧
  (0 ≤ (0 : Int) ∧ (0 : Int) < (L20 : Int)) ∧
  NN a67 fun a68 =>
  ∃ n17 : Int, cell h (a68.add (Int.toNat (0 : Int) * 1)) = some (.int .i64 n17) ∧
  NN o fun a69 =>
  ∃ n18 : Int, cell h a69 = some (.int .i64 n18) ∧
  cond (decide (n18 = 2))
  (NN s fun a70 =>
  ∃ (a71 : Option Addr) (L21 C21 : Nat), cell h (a70.add 1) = some (.slice a71 L21 C21) ∧
  HCalls Try.prog 100 #[.slice a71 L21 C21, .int .i64 a] h fun v12 h69 => ∃ (r102 : Option Addr) (rL42 rC42 : Nat), v12 = .slice r102 rL42 rC42 ∧
  NN s fun a72 =>
  Wr h69 (a72.add 1) (.slice r102 rL42 rC42) fun h70 =>
  r03_seq_b9 s o t4 t5 a n17 h70  K)
  (r03_seq_b9 s o t4 t5 a n17 h  K)) := by kernel_rfl
theorem r03_seq_b7_eq (s : Option Addr) (o : Option Addr) (t4 : Option Addr) (t5 : Option Addr) (a : Int) (b : Int) (sum : Int) (i : Int) (h : Hp) (nx0 : Int × Int × Unit → Hp → Prop) (K : Value → Hp → Prop) : r03_seq_b7 s o t4 t5 a b sum i h nx0 K = (
  InR (i + 1) ∧
  nx0 (sum, i + 1, ()) h) := by kernel_rfl
theorem r03_seq_b8_eq (s : Option Addr) (o : Option Addr) (t4 : Option Addr) (t5 : Option Addr) (a : Int) (b : Int) (sum : Int) (h : Hp)  (K : Value → Hp → Prop) : r03_seq_b8 s o t4 t5 a b sum h  K = (
  NN o fun a73 =>
  ∃ n19 : Int, cell h a73 = some (.int .i64 n19) ∧
  cond (decide (n19 = 5))
  (NN s fun a74 =>
  ∃ n20 : Int, ∃ (a75 : Option Addr) (L22 C22 : Nat), cell h a74 = some (.int .i64 n20) ∧
  cell h (a74.add 1) = some (.slice a75 L22 C22) ∧
  HCalls Try.prog 97 #[.agg #[.int .i64 n20, .slice a75 L22 C22], .int .i64 sum] h fun v13 h71 => ∃ r103 : Int, ∃ (r104 : Option Addr) (rL43 rC43 : Nat), ∃ r105 : Int, ∃ r106 : Int, ∃ (r107 : Option Addr) (rL44 rC44 : Nat), v13 = .tuple #[.agg #[.int .i64 r103, .slice r104 rL43 rC43], .agg #[.int .i64 r105, .int .i64 r106, .slice r107 rL44 rC44]] ∧
  NN t4 fun a76 =>
  Wr h71 a76 (.int .i64 r103) fun h72 =>
  Wr h72 (a76.add 1) (.slice r104 rL43 rC43) fun h73 =>
  NN t5 fun a77 =>
  Wr h73 a77 (.int .i64 r105) fun h74 =>
  Wr h74 (a77.add 1) (.int .i64 r106) fun h75 =>
  Wr h75 (a77.add 2) (.slice r107 rL44 rC44) fun h76 =>
  NN t4 fun a78 =>
  ∃ r108 : Int, ∃ (r109 : Option Addr) (rL45 rC45 : Nat), cell h76 a78 = some (.int .i64 r108) ∧
  cell h76 (a78.add 1) = some (.slice r109 rL45 rC45) ∧
  NN t5 fun a79 =>
  ∃ r110 : Int, ∃ r111 : Int, ∃ (r112 : Option Addr) (rL46 rC46 : Nat), cell h76 a79 = some (.int .i64 r110) ∧
  cell h76 (a79.add 1) = some (.int .i64 r111) ∧
  cell h76 (a79.add 2) = some (.slice r112 rL46 rC46) ∧
  K (.tuple #[.agg #[.int .i64 r108, .slice r109 rL45 rC45], .agg #[.int .i64 r110, .int .i64 r111, .slice r112 rL46 rC46]]) h76)
  (LoopVC ((0, ()) : Int × Unit) h (fun (nx0 : Int × Unit → Hp → Prop) (s2 : Int × Unit) h77 => r03_seq_b10 s2.1 s t4 t5 a b h77 nx0 K))) := by kernel_rfl
theorem r03_seq_b9_eq (s : Option Addr) (o : Option Addr) (t4 : Option Addr) (t5 : Option Addr) (a : Int) (v : Int) (h : Hp)  (K : Value → Hp → Prop) : r03_seq_b9 s o t4 t5 a v h  K = (
  NN o fun a80 =>
  ∃ n21 : Int, cell h a80 = some (.int .i64 n21) ∧
  cond (decide (n21 = 4))
  (NN s fun a81 =>
  ∃ (a82 : Option Addr) (L23 C23 : Nat), cell h (a81.add 1) = some (.slice a82 L23 C23) ∧
  (0 ≤ a ∧ a < (L23 : Int)) ∧
  NN a82 fun a83 =>
  ∃ (a84 : Option Addr) (L24 C24 : Nat), cell h (a83.add (Int.toNat a * 1)) = some (.slice a84 L24 C24) ∧
  NN o fun a85 =>
  ∃ (a86 : Option Addr) (L25 C25 : Nat), cell h (a85.add 1) = some (.slice a86 L25 C25) ∧
  (0 ≤ (1 : Int) ∧ (1 : Int) < (L25 : Int)) ∧
  NN a86 fun a87 =>
  ∃ n22 : Int, cell h (a87.add (Int.toNat (1 : Int) * 1)) = some (.int .i64 n22) ∧
  (0 ≤ (0 : Int) ∧ (0 : Int) < (L24 : Int)) ∧
  NN a84 fun a88 =>
  Wr h (a88.add (Int.toNat (0 : Int) * 1)) (.int .i64 n22) fun h78 =>
  r03_seq_b11 s t4 t5 v h78  K)
  (r03_seq_b11 s t4 t5 v h  K)) := by kernel_rfl
theorem r03_seq_b10_eq (i : Int) (s : Option Addr) (t4 : Option Addr) (t5 : Option Addr) (a : Int) (b : Int) (h : Hp) (nx0 : Int × Unit → Hp → Prop) (K : Value → Hp → Prop) : r03_seq_b10 i s t4 t5 a b h nx0 K = (
  InR (b - a) ∧
  ∃ q1 : Int, Sx.Quo .i64 (b - a) 2 q1 ∧
  cond (decide (i < q1))
  (NN s fun a89 =>
  ∃ (a90 : Option Addr) (L26 C26 : Nat), cell h (a89.add 1) = some (.slice a90 L26 C26) ∧
  InR (a + i) ∧
  NN s fun a91 =>
  ∃ (a92 : Option Addr) (L27 C27 : Nat), cell h (a91.add 1) = some (.slice a92 L27 C27) ∧
  InR (b - 1) ∧
  InR ((b - 1) - i) ∧
  NN s fun a93 =>
  ∃ (a94 : Option Addr) (L28 C28 : Nat), cell h (a93.add 1) = some (.slice a94 L28 C28) ∧
  InR (b - 1) ∧
  InR ((b - 1) - i) ∧
  (0 ≤ (b - 1) - i ∧ (b - 1) - i < (L28 : Int)) ∧
  NN a94 fun a95 =>
  ∃ (a96 : Option Addr) (L29 C29 : Nat), cell h (a95.add (Int.toNat ((b - 1) - i) * 1)) = some (.slice a96 L29 C29) ∧
  NN s fun a97 =>
  ∃ (a98 : Option Addr) (L30 C30 : Nat), cell h (a97.add 1) = some (.slice a98 L30 C30) ∧
  InR (a + i) ∧
  (0 ≤ a + i ∧ a + i < (L30 : Int)) ∧
  NN a98 fun a99 =>
  ∃ (a100 : Option Addr) (L31 C31 : Nat), cell h (a99.add (Int.toNat (a + i) * 1)) = some (.slice a100 L31 C31) ∧
  (0 ≤ a + i ∧ a + i < (L26 : Int)) ∧
  NN a90 fun a101 =>
  Wr h (a101.add (Int.toNat (a + i) * 1)) (.slice a96 L29 C29) fun h79 =>
  (∃ (a102 : Option Addr) (L32 C32 : Nat), cell h79 (a91.add 1) = some (.slice a102 L32 C32) ∧
  (.slice a102 L32 C32 : Value) = .slice a92 L27 C27) ∧
  (0 ≤ (b - 1) - i ∧ (b - 1) - i < (L27 : Int)) ∧
  NN a92 fun a103 =>
  Wr h79 (a103.add (Int.toNat ((b - 1) - i) * 1)) (.slice a100 L31 C31) fun h80 =>
  r03_seq_b12 s t4 t5 a b i h80 nx0 K)
  (r03_seq_b13 s t4 t5 h  K)) := by kernel_rfl
theorem r03_seq_b11_eq (s : Option Addr) (t4 : Option Addr) (t5 : Option Addr) (v : Int) (h : Hp)  (K : Value → Hp → Prop) : r03_seq_b11 s t4 t5 v h  K = (
  NN s fun a104 =>
  ∃ n23 : Int, ∃ (a105 : Option Addr) (L33 C33 : Nat), cell h a104 = some (.int .i64 n23) ∧
  cell h (a104.add 1) = some (.slice a105 L33 C33) ∧
  HCalls Try.prog 97 #[.agg #[.int .i64 n23, .slice a105 L33 C33], .int .i64 v] h fun v14 h81 => ∃ r113 : Int, ∃ (r114 : Option Addr) (rL47 rC47 : Nat), ∃ r115 : Int, ∃ r116 : Int, ∃ (r117 : Option Addr) (rL48 rC48 : Nat), v14 = .tuple #[.agg #[.int .i64 r113, .slice r114 rL47 rC47], .agg #[.int .i64 r115, .int .i64 r116, .slice r117 rL48 rC48]] ∧
  NN t4 fun a106 =>
  Wr h81 a106 (.int .i64 r113) fun h82 =>
  Wr h82 (a106.add 1) (.slice r114 rL47 rC47) fun h83 =>
  NN t5 fun a107 =>
  Wr h83 a107 (.int .i64 r115) fun h84 =>
  Wr h84 (a107.add 1) (.int .i64 r116) fun h85 =>
  Wr h85 (a107.add 2) (.slice r117 rL48 rC48) fun h86 =>
  NN t4 fun a108 =>
  ∃ r118 : Int, ∃ (r119 : Option Addr) (rL49 rC49 : Nat), cell h86 a108 = some (.int .i64 r118) ∧
  cell h86 (a108.add 1) = some (.slice r119 rL49 rC49) ∧
  NN t5 fun a109 =>
  ∃ r120 : Int, ∃ r121 : Int, ∃ (r122 : Option Addr) (rL50 rC50 : Nat), cell h86 a109 = some (.int .i64 r120) ∧
  cell h86 (a109.add 1) = some (.int .i64 r121) ∧
  cell h86 (a109.add 2) = some (.slice r122 rL50 rC50) ∧
  K (.tuple #[.agg #[.int .i64 r118, .slice r119 rL49 rC49], .agg #[.int .i64 r120, .int .i64 r121, .slice r122 rL50 rC50]]) h86) := by kernel_rfl
theorem r03_seq_b12_eq (s : Option Addr) (t4 : Option Addr) (t5 : Option Addr) (a : Int) (b : Int) (i : Int) (h : Hp) (nx0 : Int × Unit → Hp → Prop) (K : Value → Hp → Prop) : r03_seq_b12 s t4 t5 a b i h nx0 K = (
  InR (i + 1) ∧
  nx0 (i + 1, ()) h) := by kernel_rfl
theorem r03_seq_b13_eq (s : Option Addr) (t4 : Option Addr) (t5 : Option Addr) (h : Hp)  (K : Value → Hp → Prop) : r03_seq_b13 s t4 t5 h  K = (
  NN s fun a110 =>
  ∃ n24 : Int, ∃ (a111 : Option Addr) (L34 C34 : Nat), cell h a110 = some (.int .i64 n24) ∧
  cell h (a110.add 1) = some (.slice a111 L34 C34) ∧
  HCalls Try.prog 97 #[.agg #[.int .i64 n24, .slice a111 L34 C34], .int .i64 0] h fun v15 h87 => ∃ r123 : Int, ∃ (r124 : Option Addr) (rL51 rC51 : Nat), ∃ r125 : Int, ∃ r126 : Int, ∃ (r127 : Option Addr) (rL52 rC52 : Nat), v15 = .tuple #[.agg #[.int .i64 r123, .slice r124 rL51 rC51], .agg #[.int .i64 r125, .int .i64 r126, .slice r127 rL52 rC52]] ∧
  NN t4 fun a112 =>
  Wr h87 a112 (.int .i64 r123) fun h88 =>
  Wr h88 (a112.add 1) (.slice r124 rL51 rC51) fun h89 =>
  NN t5 fun a113 =>
  Wr h89 a113 (.int .i64 r125) fun h90 =>
  Wr h90 (a113.add 1) (.int .i64 r126) fun h91 =>
  Wr h91 (a113.add 2) (.slice r127 rL52 rC52) fun h92 =>
  NN t4 fun a114 =>
  ∃ r128 : Int, ∃ (r129 : Option Addr) (rL53 rC53 : Nat), cell h92 a114 = some (.int .i64 r128) ∧
  cell h92 (a114.add 1) = some (.slice r129 rL53 rC53) ∧
  NN t5 fun a115 =>
  ∃ r130 : Int, ∃ r131 : Int, ∃ (r132 : Option Addr) (rL54 rC54 : Nat), cell h92 a115 = some (.int .i64 r130) ∧
  cell h92 (a115.add 1) = some (.int .i64 r131) ∧
  cell h92 (a115.add 2) = some (.slice r132 rL54 rC54) ∧
  K (.tuple #[.agg #[.int .i64 r128, .slice r129 rL53 rC53], .agg #[.int .i64 r130, .int .i64 r131, .slice r132 rL54 rC54]]) h92) := by kernel_rfl
theorem r03_seq_call {s_0 : Int} {s_1 : Option Addr} {s_1L : Nat} {s_1C : Nat} {o_0 : Int} {o_1 : Option Addr} {o_1L : Nat} {o_1C : Nat} {h : Hp} {K : Value → Hp → Prop} (hk : r03_seq_b0 s_0 s_1 s_1L s_1C o_0 o_1 o_1L o_1C h K) : HCalls Try.prog 82 #[.agg #[.int .i64 s_0, .slice s_1 s_1L s_1C], .agg #[.int .i64 o_0, .slice o_1 o_1L o_1C]] h K :=
  calls_of_snd r03_seq_an Try.func82 (c := bodyOf Try.f82) rfl Try.ntmps82 (Nat.le_of_ble_eq_true rfl) (snd_6 F_ok F_mixed) hk

/-! ### r03_sets -/
def r03_sets_an : Ann := .node none (.leaf) (.node none (.leaf) (.node (some [2, 3, 4, 5]) (.node none (.leaf) (.node none (.leaf) (.node none (.leaf) (.node none (.leaf) (.node none (.leaf) (.node none (.leaf) (.node none (.node none (.tail 5) (.node none (.leaf) (.node none (.plan (.qu 0 (.qu 1 (.qu 2 (.qu 3 (.qu 4 (.qu 5 (.qu 6 (.wo 7 (.qu 8 (.qu 9 (.wo 10 (.wo 11 .fin .no) .no))) .no))))))))) (.leaf)))) (.leaf)))))))) (.node none (.plan (.qu 0 (.qu 1 (.qu 2 (.qu 3 (.qu 4 (.qu 6 (.qu 7 (.qu 8 (.qu 9 (.qu 10 (.wo 5 (.wo 11 (.wo 12 (.wo 13 .fin .no) .no) .no) .no)))))))))))) (.node (some [2, 3, 4, 5, 8, 9]) (.leaf) (.node none (.leaf) (.node none (.leaf) (.node none (.plan (.qu 0 (.qu 1 (.qu 2 (.qu 3 (.qu 4 (.qu 5 (.qu 6 (.qu 7 (.qu 8 (.qu 9 (.qu 10 (.qu 11 (.qu 12 (.qu 13 (.qu 14 (.wo 15 (.qu 16 (.wo 17 .fin .no)) .no))))))))))))))))) (.leaf))))))))
def r03_sets_K0  (K : Value → Hp → Prop) : Exit → Env → Hp → Prop := retK Try.prog Try.f83.results.toList K
def r03_sets_b0 (s_0 : Int) (s_1 : Option Addr) (s_1L : Nat) (s_1C : Nat) (o_0 : Int) (o_1 : Option Addr) (o_1L : Nat) (o_1C : Nat) (h : Hp)  (K : Value → Hp → Prop) : Prop :=
  sx_3 Try.prog F 138 (cp [] (bodyOf Try.f83)) (ap [] r03_sets_an) [(0, .agg #[.int .i64 s_0, .slice s_1 s_1L s_1C]), (1, .agg #[.int .i64 o_0, .slice o_1 o_1L o_1C])] h (r03_sets_K0  K)
def r03_sets_b1 (s : Option Addr) (o : Option Addr) (t4 : Option Addr) (t5 : Option Addr) (h : Hp)  (K : Value → Hp → Prop) : Prop :=
  sx_2 Try.prog F 138 (cp [1, 1, 1] (bodyOf Try.f83)) (ap [1, 1, 1] r03_sets_an) [(2, .pointer s), (3, .pointer o), (4, .pointer t4), (5, .pointer t5)] h (r03_sets_K0  K)
def r03_sets_b2 (s : Option Addr) (o : Option Addr) (t4 : Option Addr) (t5 : Option Addr) (a : Int) (b : Int) (h : Hp)  (K : Value → Hp → Prop) : Prop :=
  sx_1 Try.prog F 138 (cp [1, 1, 1, 1, 1] (bodyOf Try.f83)) (ap [1, 1, 1, 1, 1] r03_sets_an) [(2, .pointer s), (3, .pointer o), (4, .pointer t4), (5, .pointer t5), (8, .int .i64 a), (9, .int .i64 b)] h (r03_sets_K0  K)
theorem r03_sets_b0_eq (s_0 : Int) (s_1 : Option Addr) (s_1L : Nat) (s_1C : Nat) (o_0 : Int) (o_1 : Option Addr) (o_1L : Nat) (o_1C : Nat) (h : Hp)  (K : Value → Hp → Prop) : r03_sets_b0 s_0 s_1 s_1L s_1C o_0 o_1 o_1L o_1C h  K = (
  New h (.cells #[.int .i64 s_0, .slice s_1 s_1L s_1C] 108) fun b1 h1 =>
  New h1 (.cells #[.int .i64 o_0, .slice o_1 o_1L o_1C] 58) fun b2 h2 =>
  New h2 (.cells #[.int .i64 0, .slice none 0 0] 108) fun b3 h3 =>
  New h3 (.cells #[.int .i64 0, .int .i64 0, .slice none 0 0] 61) fun b4 h4 =>
  ∃ n1 : Int, ∃ (a1 : Option Addr) (L1 C1 : Nat), cell h4 ⟨b1, 0, none⟩ = some (.int .i64 n1) ∧
  cell h4 ((⟨b1, 0, none⟩ : Addr).add 1) = some (.slice a1 L1 C1) ∧
  HCalls Try.prog 101 #[.agg #[.int .i64 n1, .slice a1 L1 C1]] h4 fun v1 h5 => ∃ r1 : Int, v1 = .int .i64 r1 ∧
  ∃ n2 : Int, cell h5 ⟨b2, 0, none⟩ = some (.int .i64 n2) ∧
  cond (decide (n2 = 1))
  (cond (decide (r1 = 500))
  (∃ n3 : Int, ∃ (a2 : Option Addr) (L2 C2 : Nat), cell h5 ⟨b1, 0, none⟩ = some (.int .i64 n3) ∧
  cell h5 ((⟨b1, 0, none⟩ : Addr).add 1) = some (.slice a2 L2 C2) ∧
  HCalls Try.prog 98 #[.agg #[.int .i64 n3, .slice a2 L2 C2], .int .i64 4] h5 fun v2 h6 => ∃ r2 : Int, ∃ (r3 : Option Addr) (rL1 rC1 : Nat), ∃ r4 : Int, ∃ r5 : Int, ∃ (r6 : Option Addr) (rL2 rC2 : Nat), v2 = .tuple #[.agg #[.int .i64 r2, .slice r3 rL1 rC1], .agg #[.int .i64 r4, .int .i64 r5, .slice r6 rL2 rC2]] ∧
  Wr h6 ⟨b3, 0, none⟩ (.int .i64 r2) fun h7 =>
  Wr h7 ((⟨b3, 0, none⟩ : Addr).add 1) (.slice r3 rL1 rC1) fun h8 =>
  Wr h8 ⟨b4, 0, none⟩ (.int .i64 r4) fun h9 =>
  Wr h9 ((⟨b4, 0, none⟩ : Addr).add 1) (.int .i64 r5) fun h10 =>
  Wr h10 ((⟨b4, 0, none⟩ : Addr).add 2) (.slice r6 rL2 rC2) fun h11 =>
  ∃ r7 : Int, ∃ (r8 : Option Addr) (rL3 rC3 : Nat), cell h11 ⟨b3, 0, none⟩ = some (.int .i64 r7) ∧
  cell h11 ((⟨b3, 0, none⟩ : Addr).add 1) = some (.slice r8 rL3 rC3) ∧
  ∃ r9 : Int, ∃ r10 : Int, ∃ (r11 : Option Addr) (rL4 rC4 : Nat), cell h11 ⟨b4, 0, none⟩ = some (.int .i64 r9) ∧
  cell h11 ((⟨b4, 0, none⟩ : Addr).add 1) = some (.int .i64 r10) ∧
  cell h11 ((⟨b4, 0, none⟩ : Addr).add 2) = some (.slice r11 rL4 rC4) ∧
  K (.tuple #[.agg #[.int .i64 r7, .slice r8 rL3 rC3], .agg #[.int .i64 r9, .int .i64 r10, .slice r11 rL4 rC4]]) h11)
  (∃ (a3 : Option Addr) (L3 C3 : Nat), cell h5 ((⟨b1, 0, none⟩ : Addr).add 1) = some (.slice a3 L3 C3) ∧
  New h5 (.cells #[.int .i64 r1] 3) fun b5 h12 =>
  New h12 (.cells #[.slice (some ⟨b5, 0, none⟩) 1 1] 38) fun b6 h13 =>
  appendV Try.prog 82 82 (.slice a3 L3 C3) (.slice (some ⟨b6, 0, none⟩) 1 1) h13 (slK fun a4 l1 c1 h14 =>
  Wr h14 ((⟨b1, 0, none⟩ : Addr).add 1) (.slice a4 l1 c1) fun h15 =>
  ∃ n4 : Int, ∃ (a5 : Option Addr) (L4 C4 : Nat), cell h15 ⟨b1, 0, none⟩ = some (.int .i64 n4) ∧
  cell h15 ((⟨b1, 0, none⟩ : Addr).add 1) = some (.slice a5 L4 C4) ∧
  HCalls Try.prog 97 #[.agg #[.int .i64 n4, .slice a5 L4 C4], .int .i64 r1] h15 fun v3 h16 => ∃ r12 : Int, ∃ (r13 : Option Addr) (rL5 rC5 : Nat), ∃ r14 : Int, ∃ r15 : Int, ∃ (r16 : Option Addr) (rL6 rC6 : Nat), v3 = .tuple #[.agg #[.int .i64 r12, .slice r13 rL5 rC5], .agg #[.int .i64 r14, .int .i64 r15, .slice r16 rL6 rC6]] ∧
  Wr h16 ⟨b3, 0, none⟩ (.int .i64 r12) fun h17 =>
  Wr h17 ((⟨b3, 0, none⟩ : Addr).add 1) (.slice r13 rL5 rC5) fun h18 =>
  Wr h18 ⟨b4, 0, none⟩ (.int .i64 r14) fun h19 =>
  Wr h19 ((⟨b4, 0, none⟩ : Addr).add 1) (.int .i64 r15) fun h20 =>
  Wr h20 ((⟨b4, 0, none⟩ : Addr).add 2) (.slice r16 rL6 rC6) fun h21 =>
  ∃ r17 : Int, ∃ (r18 : Option Addr) (rL7 rC7 : Nat), cell h21 ⟨b3, 0, none⟩ = some (.int .i64 r17) ∧
  cell h21 ((⟨b3, 0, none⟩ : Addr).add 1) = some (.slice r18 rL7 rC7) ∧
  ∃ r19 : Int, ∃ r20 : Int, ∃ (r21 : Option Addr) (rL8 rC8 : Nat), cell h21 ⟨b4, 0, none⟩ = some (.int .i64 r19) ∧
  cell h21 ((⟨b4, 0, none⟩ : Addr).add 1) = some (.int .i64 r20) ∧
  cell h21 ((⟨b4, 0, none⟩ : Addr).add 2) = some (.slice r21 rL8 rC8) ∧
  K (.tuple #[.agg #[.int .i64 r17, .slice r18 rL7 rC7], .agg #[.int .i64 r19, .int .i64 r20, .slice r21 rL8 rC8]]) h21)))
  (cond (decide (n2 = 5))
  (∃ n5 : Int, ∃ (a6 : Option Addr) (L5 C5 : Nat), cell h5 ⟨b1, 0, none⟩ = some (.int .i64 n5) ∧
  cell h5 ((⟨b1, 0, none⟩ : Addr).add 1) = some (.slice a6 L5 C5) ∧
  ∃ (a7 : Option Addr) (L6 C6 : Nat), cell h5 ((⟨b1, 0, none⟩ : Addr).add 1) = some (.slice a7 L6 C6) ∧
  HCalls Try.prog 97 #[.agg #[.int .i64 n5, .slice a6 L5 C5], .int .i64 (L6 : Int)] h5 fun v4 h22 => ∃ r22 : Int, ∃ (r23 : Option Addr) (rL9 rC9 : Nat), ∃ r24 : Int, ∃ r25 : Int, ∃ (r26 : Option Addr) (rL10 rC10 : Nat), v4 = .tuple #[.agg #[.int .i64 r22, .slice r23 rL9 rC9], .agg #[.int .i64 r24, .int .i64 r25, .slice r26 rL10 rC10]] ∧
  Wr h22 ⟨b3, 0, none⟩ (.int .i64 r22) fun h23 =>
  Wr h23 ((⟨b3, 0, none⟩ : Addr).add 1) (.slice r23 rL9 rC9) fun h24 =>
  Wr h24 ⟨b4, 0, none⟩ (.int .i64 r24) fun h25 =>
  Wr h25 ((⟨b4, 0, none⟩ : Addr).add 1) (.int .i64 r25) fun h26 =>
  Wr h26 ((⟨b4, 0, none⟩ : Addr).add 2) (.slice r26 rL10 rC10) fun h27 =>
  ∃ r27 : Int, ∃ (r28 : Option Addr) (rL11 rC11 : Nat), cell h27 ⟨b3, 0, none⟩ = some (.int .i64 r27) ∧
  cell h27 ((⟨b3, 0, none⟩ : Addr).add 1) = some (.slice r28 rL11 rC11) ∧
  ∃ r29 : Int, ∃ r30 : Int, ∃ (r31 : Option Addr) (rL12 rC12 : Nat), cell h27 ⟨b4, 0, none⟩ = some (.int .i64 r29) ∧
  cell h27 ((⟨b4, 0, none⟩ : Addr).add 1) = some (.int .i64 r30) ∧
  cell h27 ((⟨b4, 0, none⟩ : Addr).add 2) = some (.slice r31 rL12 rC12) ∧
  K (.tuple #[.agg #[.int .i64 r27, .slice r28 rL11 rC11], .agg #[.int .i64 r29, .int .i64 r30, .slice r31 rL12 rC12]]) h27)
  (cond (decide (n2 = 4))
  (∃ n6 : Int, ∃ (a8 : Option Addr) (L7 C7 : Nat), cell h5 ⟨b1, 0, none⟩ = some (.int .i64 n6) ∧
  cell h5 ((⟨b1, 0, none⟩ : Addr).add 1) = some (.slice a8 L7 C7) ∧
  ∃ (a9 : Option Addr) (L8 C8 : Nat), cell h5 ((⟨b2, 0, none⟩ : Addr).add 1) = some (.slice a9 L8 C8) ∧
  (0 ≤ (0 : Int) ∧ (0 : Int) < (L8 : Int)) ∧
  NN a9 fun a10 =>
  ∃ n7 : Int, cell h5 (a10.add (Int.toNat (0 : Int) * 1)) = some (.int .i64 n7) ∧
  HCalls Try.prog 102 #[.agg #[.int .i64 n6, .slice a8 L7 C7], .int .i64 n7] h5 fun v5 h28 => ∃ r32 : Int, v5 = .int .i64 r32 ∧
  cond (decide (r32 < 0))
  (∃ n8 : Int, ∃ (a11 : Option Addr) (L9 C9 : Nat), cell h28 ⟨b1, 0, none⟩ = some (.int .i64 n8) ∧
  cell h28 ((⟨b1, 0, none⟩ : Addr).add 1) = some (.slice a11 L9 C9) ∧
  HCalls Try.prog 98 #[.agg #[.int .i64 n8, .slice a11 L9 C9], .int .i64 12] h28 fun v6 h29 => ∃ r33 : Int, ∃ (r34 : Option Addr) (rL13 rC13 : Nat), ∃ r35 : Int, ∃ r36 : Int, ∃ (r37 : Option Addr) (rL14 rC14 : Nat), v6 = .tuple #[.agg #[.int .i64 r33, .slice r34 rL13 rC13], .agg #[.int .i64 r35, .int .i64 r36, .slice r37 rL14 rC14]] ∧
  Wr h29 ⟨b3, 0, none⟩ (.int .i64 r33) fun h30 =>
  Wr h30 ((⟨b3, 0, none⟩ : Addr).add 1) (.slice r34 rL13 rC13) fun h31 =>
  Wr h31 ⟨b4, 0, none⟩ (.int .i64 r35) fun h32 =>
  Wr h32 ((⟨b4, 0, none⟩ : Addr).add 1) (.int .i64 r36) fun h33 =>
  Wr h33 ((⟨b4, 0, none⟩ : Addr).add 2) (.slice r37 rL14 rC14) fun h34 =>
  ∃ r38 : Int, ∃ (r39 : Option Addr) (rL15 rC15 : Nat), cell h34 ⟨b3, 0, none⟩ = some (.int .i64 r38) ∧
  cell h34 ((⟨b3, 0, none⟩ : Addr).add 1) = some (.slice r39 rL15 rC15) ∧
  ∃ r40 : Int, ∃ r41 : Int, ∃ (r42 : Option Addr) (rL16 rC16 : Nat), cell h34 ⟨b4, 0, none⟩ = some (.int .i64 r40) ∧
  cell h34 ((⟨b4, 0, none⟩ : Addr).add 1) = some (.int .i64 r41) ∧
  cell h34 ((⟨b4, 0, none⟩ : Addr).add 2) = some (.slice r42 rL16 rC16) ∧
  K (.tuple #[.agg #[.int .i64 r38, .slice r39 rL15 rC15], .agg #[.int .i64 r40, .int .i64 r41, .slice r42 rL16 rC16]]) h34)
  (∃ n9 : Int, ∃ (a12 : Option Addr) (L10 C10 : Nat), cell h28 ⟨b1, 0, none⟩ = some (.int .i64 n9) ∧
  cell h28 ((⟨b1, 0, none⟩ : Addr).add 1) = some (.slice a12 L10 C10) ∧
  ∃ (a13 : Option Addr) (L11 C11 : Nat), cell h28 ((⟨b1, 0, none⟩ : Addr).add 1) = some (.slice a13 L11 C11) ∧
  (0 ≤ r32 ∧ r32 < (L11 : Int)) ∧
  NN a13 fun a14 =>
  ∃ (a15 : Option Addr) (L12 C12 : Nat), cell h28 (a14.add (Int.toNat r32 * 1)) = some (.slice a15 L12 C12) ∧
  HCalls Try.prog 97 #[.agg #[.int .i64 n9, .slice a12 L10 C10], .int .i64 (L12 : Int)] h28 fun v7 h35 => ∃ r43 : Int, ∃ (r44 : Option Addr) (rL17 rC17 : Nat), ∃ r45 : Int, ∃ r46 : Int, ∃ (r47 : Option Addr) (rL18 rC18 : Nat), v7 = .tuple #[.agg #[.int .i64 r43, .slice r44 rL17 rC17], .agg #[.int .i64 r45, .int .i64 r46, .slice r47 rL18 rC18]] ∧
  Wr h35 ⟨b3, 0, none⟩ (.int .i64 r43) fun h36 =>
  Wr h36 ((⟨b3, 0, none⟩ : Addr).add 1) (.slice r44 rL17 rC17) fun h37 =>
  Wr h37 ⟨b4, 0, none⟩ (.int .i64 r45) fun h38 =>
  Wr h38 ((⟨b4, 0, none⟩ : Addr).add 1) (.int .i64 r46) fun h39 =>
  Wr h39 ((⟨b4, 0, none⟩ : Addr).add 2) (.slice r47 rL18 rC18) fun h40 =>
  ∃ r48 : Int, ∃ (r49 : Option Addr) (rL19 rC19 : Nat), cell h40 ⟨b3, 0, none⟩ = some (.int .i64 r48) ∧
  cell h40 ((⟨b3, 0, none⟩ : Addr).add 1) = some (.slice r49 rL19 rC19) ∧
  ∃ r50 : Int, ∃ r51 : Int, ∃ (r52 : Option Addr) (rL20 rC20 : Nat), cell h40 ⟨b4, 0, none⟩ = some (.int .i64 r50) ∧
  cell h40 ((⟨b4, 0, none⟩ : Addr).add 1) = some (.int .i64 r51) ∧
  cell h40 ((⟨b4, 0, none⟩ : Addr).add 2) = some (.slice r52 rL20 rC20) ∧
  K (.tuple #[.agg #[.int .i64 r48, .slice r49 rL19 rC19], .agg #[.int .i64 r50, .int .i64 r51, .slice r52 rL20 rC20]]) h40))
  (r03_sets_b1 (some ⟨b1, 0, none⟩) (some ⟨b2, 0, none⟩) (some ⟨b3, 0, none⟩) (some ⟨b4, 0, none⟩) h5  K)))) := by kernel_rfl
theorem r03_sets_b1_eq (s : Option Addr) (o : Option Addr) (t4 : Option Addr) (t5 : Option Addr) (h : Hp)  (K : Value → Hp → Prop) : r03_sets_b1 s o t4 t5 h  K = (
  NN s fun a16 =>
  ∃ n10 : Int, ∃ (a17 : Option Addr) (L13 C13 : Nat), cell h a16 = some (.int .i64 n10) ∧
  cell h (a16.add 1) = some (.slice a17 L13 C13) ∧
  NN o fun a18 =>
  ∃ (a19 : Option Addr) (L14 C14 : Nat), cell h (a18.add 1) = some (.slice a19 L14 C14) ∧
  (0 ≤ (0 : Int) ∧ (0 : Int) < (L14 : Int)) ∧
  NN a19 fun a20 =>
  ∃ n11 : Int, cell h (a20.add (Int.toNat (0 : Int) * 1)) = some (.int .i64 n11) ∧
  NN s fun a21 =>
  ∃ n12 : Int, ∃ (a22 : Option Addr) (L15 C15 : Nat), cell h a21 = some (.int .i64 n12) ∧
  cell h (a21.add 1) = some (.slice a22 L15 C15) ∧
  NN o fun a23 =>
  ∃ (a24 : Option Addr) (L16 C16 : Nat), cell h (a23.add 1) = some (.slice a24 L16 C16) ∧
  (0 ≤ (1 : Int) ∧ (1 : Int) < (L16 : Int)) ∧
  NN a24 fun a25 =>
  ∃ n13 : Int, cell h (a25.add (Int.toNat (1 : Int) * 1)) = some (.int .i64 n13) ∧
  HCalls Try.prog 102 #[.agg #[.int .i64 n10, .slice a17 L13 C13], .int .i64 n11] h fun v8 h41 => ∃ r53 : Int, v8 = .int .i64 r53 ∧
  (∃ n14 : Int, cell h41 (a25.add (Int.toNat (1 : Int) * 1)) = some (.int .i64 n14) ∧
  (.int .i64 n14 : Value) = .int .i64 n13) ∧
  (∃ (a26 : Option Addr) (L17 C17 : Nat), cell h41 (a23.add 1) = some (.slice a26 L17 C17) ∧
  (.slice a26 L17 C17 : Value) = .slice a24 L16 C16) ∧
  (NN s fun a27 =>
  ∃ n15 : Int, ∃ (a28 : Option Addr) (L18 C18 : Nat), cell h41 a27 = some (.int .i64 n15) ∧
  cell h41 (a27.add 1) = some (.slice a28 L18 C18) ∧
  (.agg #[.int .i64 n15, .slice a28 L18 C18] : Value) = .agg #[.int .i64 n12, .slice a22 L15 C15]) ∧
  HCalls Try.prog 102 #[.agg #[.int .i64 n12, .slice a22 L15 C15], .int .i64 n13] h41 fun v9 h42 => ∃ r54 : Int, v9 = .int .i64 r54 ∧
  cond (decide (r53 < 0))
  (NN s fun a29 =>
  ∃ n16 : Int, ∃ (a30 : Option Addr) (L19 C19 : Nat), cell h42 a29 = some (.int .i64 n16) ∧
  cell h42 (a29.add 1) = some (.slice a30 L19 C19) ∧
  HCalls Try.prog 98 #[.agg #[.int .i64 n16, .slice a30 L19 C19], .int .i64 12] h42 fun v10 h43 => ∃ r55 : Int, ∃ (r56 : Option Addr) (rL21 rC21 : Nat), ∃ r57 : Int, ∃ r58 : Int, ∃ (r59 : Option Addr) (rL22 rC22 : Nat), v10 = .tuple #[.agg #[.int .i64 r55, .slice r56 rL21 rC21], .agg #[.int .i64 r57, .int .i64 r58, .slice r59 rL22 rC22]] ∧
  NN t4 fun a31 =>
  Wr h43 a31 (.int .i64 r55) fun h44 =>
  Wr h44 (a31.add 1) (.slice r56 rL21 rC21) fun h45 =>
  NN t5 fun a32 =>
  Wr h45 a32 (.int .i64 r57) fun h46 =>
  Wr h46 (a32.add 1) (.int .i64 r58) fun h47 =>
  Wr h47 (a32.add 2) (.slice r59 rL22 rC22) fun h48 =>
  NN t4 fun a33 =>
  ∃ r60 : Int, ∃ (r61 : Option Addr) (rL23 rC23 : Nat), cell h48 a33 = some (.int .i64 r60) ∧
  cell h48 (a33.add 1) = some (.slice r61 rL23 rC23) ∧
  NN t5 fun a34 =>
  ∃ r62 : Int, ∃ r63 : Int, ∃ (r64 : Option Addr) (rL24 rC24 : Nat), cell h48 a34 = some (.int .i64 r62) ∧
  cell h48 (a34.add 1) = some (.int .i64 r63) ∧
  cell h48 (a34.add 2) = some (.slice r64 rL24 rC24) ∧
  K (.tuple #[.agg #[.int .i64 r60, .slice r61 rL23 rC23], .agg #[.int .i64 r62, .int .i64 r63, .slice r64 rL24 rC24]]) h48)
  (cond (decide (r54 < 0))
  (NN s fun a35 =>
  ∃ n17 : Int, ∃ (a36 : Option Addr) (L20 C20 : Nat), cell h42 a35 = some (.int .i64 n17) ∧
  cell h42 (a35.add 1) = some (.slice a36 L20 C20) ∧
  HCalls Try.prog 98 #[.agg #[.int .i64 n17, .slice a36 L20 C20], .int .i64 12] h42 fun v11 h49 => ∃ r65 : Int, ∃ (r66 : Option Addr) (rL25 rC25 : Nat), ∃ r67 : Int, ∃ r68 : Int, ∃ (r69 : Option Addr) (rL26 rC26 : Nat), v11 = .tuple #[.agg #[.int .i64 r65, .slice r66 rL25 rC25], .agg #[.int .i64 r67, .int .i64 r68, .slice r69 rL26 rC26]] ∧
  NN t4 fun a37 =>
  Wr h49 a37 (.int .i64 r65) fun h50 =>
  Wr h50 (a37.add 1) (.slice r66 rL25 rC25) fun h51 =>
  NN t5 fun a38 =>
  Wr h51 a38 (.int .i64 r67) fun h52 =>
  Wr h52 (a38.add 1) (.int .i64 r68) fun h53 =>
  Wr h53 (a38.add 2) (.slice r69 rL26 rC26) fun h54 =>
  NN t4 fun a39 =>
  ∃ r70 : Int, ∃ (r71 : Option Addr) (rL27 rC27 : Nat), cell h54 a39 = some (.int .i64 r70) ∧
  cell h54 (a39.add 1) = some (.slice r71 rL27 rC27) ∧
  NN t5 fun a40 =>
  ∃ r72 : Int, ∃ r73 : Int, ∃ (r74 : Option Addr) (rL28 rC28 : Nat), cell h54 a40 = some (.int .i64 r72) ∧
  cell h54 (a40.add 1) = some (.int .i64 r73) ∧
  cell h54 (a40.add 2) = some (.slice r74 rL28 rC28) ∧
  K (.tuple #[.agg #[.int .i64 r70, .slice r71 rL27 rC27], .agg #[.int .i64 r72, .int .i64 r73, .slice r74 rL28 rC28]]) h54)
  (r03_sets_b2 s o t4 t5 r53 r54 h42  K))) := by kernel_rfl
theorem r03_sets_b2_eq (s : Option Addr) (o : Option Addr) (t4 : Option Addr) (t5 : Option Addr) (a : Int) (b : Int) (h : Hp)  (K : Value → Hp → Prop) : r03_sets_b2 s o t4 t5 a b h  K = (
  NN o fun a41 =>
  ∃ n18 : Int, cell h a41 = some (.int .i64 n18) ∧
  cond (decide (n18 = 3))
  (cond (decide (a = b))
  (NN s fun a42 =>
  ∃ n19 : Int, ∃ (a43 : Option Addr) (L21 C21 : Nat), cell h a42 = some (.int .i64 n19) ∧
  cell h (a42.add 1) = some (.slice a43 L21 C21) ∧
  HCalls Try.prog 97 #[.agg #[.int .i64 n19, .slice a43 L21 C21], .int .i64 1] h fun v12 h55 => ∃ r75 : Int, ∃ (r76 : Option Addr) (rL29 rC29 : Nat), ∃ r77 : Int, ∃ r78 : Int, ∃ (r79 : Option Addr) (rL30 rC30 : Nat), v12 = .tuple #[.agg #[.int .i64 r75, .slice r76 rL29 rC29], .agg #[.int .i64 r77, .int .i64 r78, .slice r79 rL30 rC30]] ∧
  NN t4 fun a44 =>
  Wr h55 a44 (.int .i64 r75) fun h56 =>
  Wr h56 (a44.add 1) (.slice r76 rL29 rC29) fun h57 =>
  NN t5 fun a45 =>
  Wr h57 a45 (.int .i64 r77) fun h58 =>
  Wr h58 (a45.add 1) (.int .i64 r78) fun h59 =>
  Wr h59 (a45.add 2) (.slice r79 rL30 rC30) fun h60 =>
  NN t4 fun a46 =>
  ∃ r80 : Int, ∃ (r81 : Option Addr) (rL31 rC31 : Nat), cell h60 a46 = some (.int .i64 r80) ∧
  cell h60 (a46.add 1) = some (.slice r81 rL31 rC31) ∧
  NN t5 fun a47 =>
  ∃ r82 : Int, ∃ r83 : Int, ∃ (r84 : Option Addr) (rL32 rC32 : Nat), cell h60 a47 = some (.int .i64 r82) ∧
  cell h60 (a47.add 1) = some (.int .i64 r83) ∧
  cell h60 (a47.add 2) = some (.slice r84 rL32 rC32) ∧
  K (.tuple #[.agg #[.int .i64 r80, .slice r81 rL31 rC31], .agg #[.int .i64 r82, .int .i64 r83, .slice r84 rL32 rC32]]) h60)
  (NN s fun a48 =>
  ∃ n20 : Int, ∃ (a49 : Option Addr) (L22 C22 : Nat), cell h a48 = some (.int .i64 n20) ∧
  cell h (a48.add 1) = some (.slice a49 L22 C22) ∧
  HCalls Try.prog 97 #[.agg #[.int .i64 n20, .slice a49 L22 C22], .int .i64 0] h fun v13 h61 => ∃ r85 : Int, ∃ (r86 : Option Addr) (rL33 rC33 : Nat), ∃ r87 : Int, ∃ r88 : Int, ∃ (r89 : Option Addr) (rL34 rC34 : Nat), v13 = .tuple #[.agg #[.int .i64 r85, .slice r86 rL33 rC33], .agg #[.int .i64 r87, .int .i64 r88, .slice r89 rL34 rC34]] ∧
  NN t4 fun a50 =>
  Wr h61 a50 (.int .i64 r85) fun h62 =>
  Wr h62 (a50.add 1) (.slice r86 rL33 rC33) fun h63 =>
  NN t5 fun a51 =>
  Wr h63 a51 (.int .i64 r87) fun h64 =>
  Wr h64 (a51.add 1) (.int .i64 r88) fun h65 =>
  Wr h65 (a51.add 2) (.slice r89 rL34 rC34) fun h66 =>
  NN t4 fun a52 =>
  ∃ r90 : Int, ∃ (r91 : Option Addr) (rL35 rC35 : Nat), cell h66 a52 = some (.int .i64 r90) ∧
  cell h66 (a52.add 1) = some (.slice r91 rL35 rC35) ∧
  NN t5 fun a53 =>
  ∃ r92 : Int, ∃ r93 : Int, ∃ (r94 : Option Addr) (rL36 rC36 : Nat), cell h66 a53 = some (.int .i64 r92) ∧
  cell h66 (a53.add 1) = some (.int .i64 r93) ∧
  cell h66 (a53.add 2) = some (.slice r94 rL36 rC36) ∧
  K (.tuple #[.agg #[.int .i64 r90, .slice r91 rL35 rC35], .agg #[.int .i64 r92, .int .i64 r93, .slice r94 rL36 rC36]]) h66))
  (cond (decide (a = b))
  (NN s fun a54 =>
  ∃ n21 : Int, ∃ (a55 : Option Addr) (L23 C23 : Nat), cell h a54 = some (.int .i64 n21) ∧
  cell h (a54.add 1) = some (.slice a55 L23 C23) ∧
  HCalls Try.prog 97 #[.agg #[.int .i64 n21, .slice a55 L23 C23], .int .i64 0] h fun v14 h67 => ∃ r95 : Int, ∃ (r96 : Option Addr) (rL37 rC37 : Nat), ∃ r97 : Int, ∃ r98 : Int, ∃ (r99 : Option Addr) (rL38 rC38 : Nat), v14 = .tuple #[.agg #[.int .i64 r95, .slice r96 rL37 rC37], .agg #[.int .i64 r97, .int .i64 r98, .slice r99 rL38 rC38]] ∧
  NN t4 fun a56 =>
  Wr h67 a56 (.int .i64 r95) fun h68 =>
  Wr h68 (a56.add 1) (.slice r96 rL37 rC37) fun h69 =>
  NN t5 fun a57 =>
  Wr h69 a57 (.int .i64 r97) fun h70 =>
  Wr h70 (a57.add 1) (.int .i64 r98) fun h71 =>
  Wr h71 (a57.add 2) (.slice r99 rL38 rC38) fun h72 =>
  NN t4 fun a58 =>
  ∃ r100 : Int, ∃ (r101 : Option Addr) (rL39 rC39 : Nat), cell h72 a58 = some (.int .i64 r100) ∧
  cell h72 (a58.add 1) = some (.slice r101 rL39 rC39) ∧
  NN t5 fun a59 =>
  ∃ r102 : Int, ∃ r103 : Int, ∃ (r104 : Option Addr) (rL40 rC40 : Nat), cell h72 a59 = some (.int .i64 r102) ∧
  cell h72 (a59.add 1) = some (.int .i64 r103) ∧
  cell h72 (a59.add 2) = some (.slice r104 rL40 rC40) ∧
  K (.tuple #[.agg #[.int .i64 r100, .slice r101 rL39 rC39], .agg #[.int .i64 r102, .int .i64 r103, .slice r104 rL40 rC40]]) h72)
  (NN s fun a60 =>
  ∃ (a61 : Option Addr) (L24 C24 : Nat), cell h (a60.add 1) = some (.slice a61 L24 C24) ∧
  NN s fun a62 =>
  ∃ (a63 : Option Addr) (L25 C25 : Nat), cell h (a62.add 1) = some (.slice a63 L25 C25) ∧
  (0 ≤ a ∧ a < (L25 : Int)) ∧
  NN a63 fun a64 =>
  ∃ (a65 : Option Addr) (L26 C26 : Nat), cell h (a64.add (Int.toNat a * 1)) = some (.slice a65 L26 C26) ∧
  NN s fun a66 =>
  ∃ (a67 : Option Addr) (L27 C27 : Nat), cell h (a66.add 1) = some (.slice a67 L27 C27) ∧
  (0 ≤ b ∧ b < (L27 : Int)) ∧
  NN a67 fun a68 =>
  ∃ (a69 : Option Addr) (L28 C28 : Nat), cell h (a68.add (Int.toNat b * 1)) = some (.slice a69 L28 C28) ∧
  HCalls Try.prog 103 #[.slice a65 L26 C26, .slice a69 L28 C28] h fun v15 h73 => ∃ (r105 : Option Addr) (rL41 rC41 : Nat), v15 = .slice r105 rL41 rC41 ∧
  ((.int .i64 (if b < a then b else a) : Value) = .int .i64 (if b < a then b else a)) ∧
  (∃ (a70 : Option Addr) (L29 C29 : Nat), cell h73 (a60.add 1) = some (.slice a70 L29 C29) ∧
  (.slice a70 L29 C29 : Value) = .slice a61 L24 C24) ∧
  (0 ≤ (if b < a then b else a) ∧ (if b < a then b else a) < (L24 : Int)) ∧
  NN a61 fun a71 =>
  Wr h73 (a71.add (Int.toNat (if b < a then b else a) * 1)) (.slice r105 rL41 rC41) fun h74 =>
  NN s fun a72 =>
  ∃ (a73 : Option Addr) (L30 C30 : Nat), cell h74 (a72.add 1) = some (.slice a73 L30 C30) ∧
  HCalls Try.prog 100 #[.slice a73 L30 C30, .int .i64 (if a < b then b else a)] h74 fun v16 h75 => ∃ (r106 : Option Addr) (rL42 rC42 : Nat), v16 = .slice r106 rL42 rC42 ∧
  NN s fun a74 =>
  Wr h75 (a74.add 1) (.slice r106 rL42 rC42) fun h76 =>
  NN s fun a75 =>
  ∃ n22 : Int, ∃ (a76 : Option Addr) (L31 C31 : Nat), cell h76 a75 = some (.int .i64 n22) ∧
  cell h76 (a75.add 1) = some (.slice a76 L31 C31) ∧
  HCalls Try.prog 97 #[.agg #[.int .i64 n22, .slice a76 L31 C31], .int .i64 1] h76 fun v17 h77 => ∃ r107 : Int, ∃ (r108 : Option Addr) (rL43 rC43 : Nat), ∃ r109 : Int, ∃ r110 : Int, ∃ (r111 : Option Addr) (rL44 rC44 : Nat), v17 = .tuple #[.agg #[.int .i64 r107, .slice r108 rL43 rC43], .agg #[.int .i64 r109, .int .i64 r110, .slice r111 rL44 rC44]] ∧
  NN t4 fun a77 =>
  Wr h77 a77 (.int .i64 r107) fun h78 =>
  Wr h78 (a77.add 1) (.slice r108 rL43 rC43) fun h79 =>
  NN t5 fun a78 =>
  Wr h79 a78 (.int .i64 r109) fun h80 =>
  Wr h80 (a78.add 1) (.int .i64 r110) fun h81 =>
  Wr h81 (a78.add 2) (.slice r111 rL44 rC44) fun h82 =>
  NN t4 fun a79 =>
  ∃ r112 : Int, ∃ (r113 : Option Addr) (rL45 rC45 : Nat), cell h82 a79 = some (.int .i64 r112) ∧
  cell h82 (a79.add 1) = some (.slice r113 rL45 rC45) ∧
  NN t5 fun a80 =>
  ∃ r114 : Int, ∃ r115 : Int, ∃ (r116 : Option Addr) (rL46 rC46 : Nat), cell h82 a80 = some (.int .i64 r114) ∧
  cell h82 (a80.add 1) = some (.int .i64 r115) ∧
  cell h82 (a80.add 2) = some (.slice r116 rL46 rC46) ∧
  K (.tuple #[.agg #[.int .i64 r112, .slice r113 rL45 rC45], .agg #[.int .i64 r114, .int .i64 r115, .slice r116 rL46 rC46]]) h82))) := by kernel_rfl
theorem r03_sets_call {s_0 : Int} {s_1 : Option Addr} {s_1L : Nat} {s_1C : Nat} {o_0 : Int} {o_1 : Option Addr} {o_1L : Nat} {o_1C : Nat} {h : Hp} {K : Value → Hp → Prop} (hk : r03_sets_b0 s_0 s_1 s_1L s_1C o_0 o_1 o_1L o_1C h K) : HCalls Try.prog 83 #[.agg #[.int .i64 s_0, .slice s_1 s_1L s_1C], .agg #[.int .i64 o_0, .slice o_1 o_1L o_1C]] h K :=
  calls_of_snd r03_sets_an Try.func83 (c := bodyOf Try.f83) rfl Try.ntmps83 (Nat.le_of_ble_eq_true rfl) (snd_3 F_ok F_mixed) hk

/-! ### r03_points -/
def r03_points_an : Ann := .node none (.leaf) (.node none (.leaf) (.node none (.leaf) (.node (some [2, 3, 4, 5, 6]) (.node none (.leaf) (.node none (.node none (.leaf) (.node (some [2, 3, 4, 5, 7, 8]) (.node none (.leaf) (.loop [2, 3, 4, 5, 6] [(7, .int .i64), (8, .int .i64), (9, .int .i64)] (.node none (.leaf) (.node (some [2, 3, 4, 5, 6, 7, 8, 9]) (.leaf) (.leaf))))) (.leaf))) (.leaf))) (.node none (.leaf) (.node (some [2, 3, 4, 5, 6, 10]) (.loop [2, 3, 4, 5, 6] [(10, .int .i64)] (.node (some [2, 3, 4, 5, 6, 10]) (.leaf) (.leaf))) (.node (some [2, 3, 4, 5, 6, 10, 11]) (.leaf) (.node none (.leaf) (.node none (.leaf) (.node none (.leaf) (.node none (.plan (.qu 0 (.qu 1 (.qu 2 (.qu 3 (.qu 4 (.wo 5 (.wo 6 (.qu 7 (.wo 8 .fin .no)) .no) .no))))))) (.leaf)))))))))))
def r03_points_K0  (K : Value → Hp → Prop) : Exit → Env → Hp → Prop := retK Try.prog Try.f84.results.toList K
def r03_points_K1  (K : Value → Hp → Prop) : Exit → Env → Hp → Prop := thenE (fun env h => sx_3 Try.prog F 210 (cp [1, 1, 1, 1] (bodyOf Try.f84)) (ap [1, 1, 1, 1] r03_points_an) (rs [2, 3, 4, 5, 6] env) h (r03_points_K0  K)) (r03_points_K0  K)
def r03_points_K2  (K : Value → Hp → Prop) : Exit → Env → Hp → Prop := thenE (fun env h => sx_3 Try.prog F 210 (cp [1, 1, 1, 0, 1, 0, 1, 1] (bodyOf Try.f84)) (ap [1, 1, 1, 0, 1, 0, 1, 1] r03_points_an) (rs [2, 3, 4, 5, 7, 8] env) h (r03_points_K1  K)) (r03_points_K1  K)
def r03_points_K3  (K : Value → Hp → Prop) : Exit → Env → Hp → Prop := blockE 0 (r03_points_K2  K)
def r03_points_K4 (nx0 : Int × Int × Int × Unit → Hp → Prop) (K : Value → Hp → Prop) : Exit → Env → Hp → Prop := thenE (fun env h => getV [(7, .int .i64), (8, .int .i64), (9, .int .i64)] env fun s => nx0 s h) (r03_points_K3  K)
def r03_points_K5  (K : Value → Hp → Prop) : Exit → Env → Hp → Prop := thenE (fun env h => sx_2 Try.prog F 210 (cp [1, 1, 1, 1, 1, 1] (bodyOf Try.f84)) (ap [1, 1, 1, 1, 1, 1] r03_points_an) (rs [2, 3, 4, 5, 6, 10] env) h (r03_points_K0  K)) (r03_points_K0  K)
def r03_points_K6  (K : Value → Hp → Prop) : Exit → Env → Hp → Prop := blockE 2 (r03_points_K5  K)
def r03_points_K7 (nx0 : Int × Unit → Hp → Prop) (K : Value → Hp → Prop) : Exit → Env → Hp → Prop := thenE (fun env h => getV [(10, .int .i64)] env fun s => nx0 s h) (r03_points_K6  K)
def r03_points_b0 (s_0 : Int) (s_1 : Option Addr) (s_1L : Nat) (s_1C : Nat) (o_0 : Int) (o_1 : Option Addr) (o_1L : Nat) (o_1C : Nat) (h : Hp)  (K : Value → Hp → Prop) : Prop :=
  sx_4 Try.prog F 210 (cp [] (bodyOf Try.f84)) (ap [] r03_points_an) [(0, .agg #[.int .i64 s_0, .slice s_1 s_1L s_1C]), (1, .agg #[.int .i64 o_0, .slice o_1 o_1L o_1C])] h (r03_points_K0  K)
def r03_points_b1 (count : Int) (sum : Int) (i : Int) (s : Option Addr) (o : Option Addr) (t4 : Option Addr) (t5 : Option Addr) (nv : Int) (h : Hp) (nx0 : Int × Int × Int × Unit → Hp → Prop) (K : Value → Hp → Prop) : Prop :=
  sx_3 Try.prog F 210 (cp [1, 1, 1, 0, 1, 0, 1, 0, 1, 2, 2] (bodyOf Try.f84)) (ap [1, 1, 1, 0, 1, 0, 1, 0, 1, 2] r03_points_an) [(7, .int .i64 count), (8, .int .i64 sum), (9, .int .i64 i), (2, .pointer s), (3, .pointer o), (4, .pointer t4), (5, .pointer t5), (6, .int .i64 nv)] h (r03_points_K4 nx0 K)
def r03_points_b2 (s : Option Addr) (o : Option Addr) (t4 : Option Addr) (t5 : Option Addr) (nv : Int) (h : Hp)  (K : Value → Hp → Prop) : Prop :=
  sx_3 Try.prog F 210 (cp [1, 1, 1, 1] (bodyOf Try.f84)) (ap [1, 1, 1, 1] r03_points_an) [(2, .pointer s), (3, .pointer o), (4, .pointer t4), (5, .pointer t5), (6, .int .i64 nv)] h (r03_points_K0  K)
def r03_points_b3 (s : Option Addr) (o : Option Addr) (t4 : Option Addr) (t5 : Option Addr) (nv : Int) (count : Int) (sum : Int) (i : Int) (h : Hp) (nx0 : Int × Int × Int × Unit → Hp → Prop) (K : Value → Hp → Prop) : Prop :=
  sx_2 Try.prog F 210 (cp [1, 1, 1, 0, 1, 0, 1, 0, 1, 2, 2, 1, 1] (bodyOf Try.f84)) (ap [1, 1, 1, 0, 1, 0, 1, 0, 1, 2, 1, 1] r03_points_an) [(2, .pointer s), (3, .pointer o), (4, .pointer t4), (5, .pointer t5), (6, .int .i64 nv), (7, .int .i64 count), (8, .int .i64 sum), (9, .int .i64 i)] h (r03_points_K4 nx0 K)
def r03_points_b4 (s : Option Addr) (o : Option Addr) (t4 : Option Addr) (t5 : Option Addr) (count : Int) (sum : Int) (h : Hp)  (K : Value → Hp → Prop) : Prop :=
  sx_3 Try.prog F 210 (cp [1, 1, 1, 0, 1, 0, 1, 1] (bodyOf Try.f84)) (ap [1, 1, 1, 0, 1, 0, 1, 1] r03_points_an) [(2, .pointer s), (3, .pointer o), (4, .pointer t4), (5, .pointer t5), (7, .int .i64 count), (8, .int .i64 sum)] h (r03_points_K1  K)
def r03_points_b5 (atv : Int) (s : Option Addr) (o : Option Addr) (t4 : Option Addr) (t5 : Option Addr) (nv : Int) (h : Hp) (nx0 : Int × Unit → Hp → Prop) (K : Value → Hp → Prop) : Prop :=
  sx_2 Try.prog F 210 (cp [1, 1, 1, 1, 1, 0, 2, 2] (bodyOf Try.f84)) (ap [1, 1, 1, 1, 1, 0, 2] r03_points_an) [(10, .int .i64 atv), (2, .pointer s), (3, .pointer o), (4, .pointer t4), (5, .pointer t5), (6, .int .i64 nv)] h (r03_points_K7 nx0 K)
def r03_points_b6 (s : Option Addr) (o : Option Addr) (t4 : Option Addr) (t5 : Option Addr) (nv : Int) (atv : Int) (h : Hp) (nx0 : Int × Unit → Hp → Prop) (K : Value → Hp → Prop) : Prop :=
  sx_1 Try.prog F 210 (cp [1, 1, 1, 1, 1, 0, 2, 2, 1] (bodyOf Try.f84)) (ap [1, 1, 1, 1, 1, 0, 2, 1] r03_points_an) [(2, .pointer s), (3, .pointer o), (4, .pointer t4), (5, .pointer t5), (6, .int .i64 nv), (10, .int .i64 atv)] h (r03_points_K7 nx0 K)
def r03_points_b7 (s : Option Addr) (o : Option Addr) (t4 : Option Addr) (t5 : Option Addr) (nv : Int) (atv : Int) (h : Hp)  (K : Value → Hp → Prop) : Prop :=
  sx_2 Try.prog F 210 (cp [1, 1, 1, 1, 1, 1] (bodyOf Try.f84)) (ap [1, 1, 1, 1, 1, 1] r03_points_an) [(2, .pointer s), (3, .pointer o), (4, .pointer t4), (5, .pointer t5), (6, .int .i64 nv), (10, .int .i64 atv)] h (r03_points_K0  K)
def r03_points_b8 (s : Option Addr) (o : Option Addr) (t4 : Option Addr) (t5 : Option Addr) (nv : Int) (atv : Int) (there : Bool) (h : Hp)  (K : Value → Hp → Prop) : Prop :=
  sx_1 Try.prog F 210 (cp [1, 1, 1, 1, 1, 1, 1] (bodyOf Try.f84)) (ap [1, 1, 1, 1, 1, 1, 1] r03_points_an) [(2, .pointer s), (3, .pointer o), (4, .pointer t4), (5, .pointer t5), (6, .int .i64 nv), (10, .int .i64 atv), (11, .bool there)] h (r03_points_K0  K)
theorem r03_points_b0_eq (s_0 : Int) (s_1 : Option Addr) (s_1L : Nat) (s_1C : Nat) (o_0 : Int) (o_1 : Option Addr) (o_1L : Nat) (o_1C : Nat) (h : Hp)  (K : Value → Hp → Prop) : r03_points_b0 s_0 s_1 s_1L s_1C o_0 o_1 o_1L o_1C h  K = (
  New h (.cells #[.int .i64 s_0, .slice s_1 s_1L s_1C] 108) fun b1 h1 =>
  New h1 (.cells #[.int .i64 o_0, .slice o_1 o_1L o_1C] 58) fun b2 h2 =>
  New h2 (.cells #[.int .i64 0, .slice none 0 0] 108) fun b3 h3 =>
  New h3 (.cells #[.int .i64 0, .int .i64 0, .slice none 0 0] 61) fun b4 h4 =>
  ∃ (a1 : Option Addr) (L1 C1 : Nat), cell h4 ((⟨b1, 0, none⟩ : Addr).add 1) = some (.slice a1 L1 C1) ∧
  ∃ n1 : Int, cell h4 ⟨b2, 0, none⟩ = some (.int .i64 n1) ∧
  cond (decide (n1 = 5))
  (∃ n2 : Int, ∃ (a2 : Option Addr) (L2 C2 : Nat), cell h4 ⟨b1, 0, none⟩ = some (.int .i64 n2) ∧
  cell h4 ((⟨b1, 0, none⟩ : Addr).add 1) = some (.slice a2 L2 C2) ∧
  HCalls Try.prog 97 #[.agg #[.int .i64 n2, .slice a2 L2 C2], .int .i64 (L1 : Int)] h4 fun v1 h5 => ∃ r1 : Int, ∃ (r2 : Option Addr) (rL1 rC1 : Nat), ∃ r3 : Int, ∃ r4 : Int, ∃ (r5 : Option Addr) (rL2 rC2 : Nat), v1 = .tuple #[.agg #[.int .i64 r1, .slice r2 rL1 rC1], .agg #[.int .i64 r3, .int .i64 r4, .slice r5 rL2 rC2]] ∧
  Wr h5 ⟨b3, 0, none⟩ (.int .i64 r1) fun h6 =>
  Wr h6 ((⟨b3, 0, none⟩ : Addr).add 1) (.slice r2 rL1 rC1) fun h7 =>
  Wr h7 ⟨b4, 0, none⟩ (.int .i64 r3) fun h8 =>
  Wr h8 ((⟨b4, 0, none⟩ : Addr).add 1) (.int .i64 r4) fun h9 =>
  Wr h9 ((⟨b4, 0, none⟩ : Addr).add 2) (.slice r5 rL2 rC2) fun h10 =>
  ∃ r6 : Int, ∃ (r7 : Option Addr) (rL3 rC3 : Nat), cell h10 ⟨b3, 0, none⟩ = some (.int .i64 r6) ∧
  cell h10 ((⟨b3, 0, none⟩ : Addr).add 1) = some (.slice r7 rL3 rC3) ∧
  ∃ r8 : Int, ∃ r9 : Int, ∃ (r10 : Option Addr) (rL4 rC4 : Nat), cell h10 ⟨b4, 0, none⟩ = some (.int .i64 r8) ∧
  cell h10 ((⟨b4, 0, none⟩ : Addr).add 1) = some (.int .i64 r9) ∧
  cell h10 ((⟨b4, 0, none⟩ : Addr).add 2) = some (.slice r10 rL4 rC4) ∧
  K (.tuple #[.agg #[.int .i64 r6, .slice r7 rL3 rC3], .agg #[.int .i64 r8, .int .i64 r9, .slice r10 rL4 rC4]]) h10)
  (∃ n3 : Int, cell h4 ⟨b2, 0, none⟩ = some (.int .i64 n3) ∧
  cond (decide (n3 = 3))
  (LoopVC ((0, 0, 0, ()) : Int × Int × Int × Unit) h4 (fun (nx0 : Int × Int × Int × Unit → Hp → Prop) (s1 : Int × Int × Int × Unit) h11 => r03_points_b1 s1.1 s1.2.1 s1.2.2.1 (some ⟨b1, 0, none⟩) (some ⟨b2, 0, none⟩) (some ⟨b3, 0, none⟩) (some ⟨b4, 0, none⟩) (L1 : Int) h11 nx0 K))
  (∃ n4 : Int, cell h4 ⟨b2, 0, none⟩ = some (.int .i64 n4) ∧
  cond (decide (n4 = 4))
  (LoopVC ((0, 0, 0, ()) : Int × Int × Int × Unit) h4 (fun (nx0 : Int × Int × Int × Unit → Hp → Prop) (s2 : Int × Int × Int × Unit) h12 => r03_points_b1 s2.1 s2.2.1 s2.2.2.1 (some ⟨b1, 0, none⟩) (some ⟨b2, 0, none⟩) (some ⟨b3, 0, none⟩) (some ⟨b4, 0, none⟩) (L1 : Int) h12 nx0 K))
  (r03_points_b2 (some ⟨b1, 0, none⟩) (some ⟨b2, 0, none⟩) (some ⟨b3, 0, none⟩) (some ⟨b4, 0, none⟩) (L1 : Int) h4  K)))) := by kernel_rfl
theorem r03_points_b1_eq (count : Int) (sum : Int) (i : Int) (s : Option Addr) (o : Option Addr) (t4 : Option Addr) (t5 : Option Addr) (nv : Int) (h : Hp) (nx0 : Int × Int × Int × Unit → Hp → Prop) (K : Value → Hp → Prop) : r03_points_b1 count sum i s o t4 t5 nv h nx0 K = (
  cond (decide (i < nv))
  (NN s fun a3 =>
  ∃ (a4 : Option Addr) (L3 C3 : Nat), cell h (a3.add 1) = some (.slice a4 L3 C3) ∧
  (0 ≤ i ∧ i < (L3 : Int)) ∧
  NN a4 fun a5 =>
  ∃ (a6 : Option Addr) (L4 C4 : Nat), cell h (a5.add (Int.toNat i * 1)) = some (.slice a6 L4 C4) ∧
  (0 ≤ (0 : Int) ∧ (0 : Int) < (L4 : Int)) ∧
  NN a6 fun a7 =>
  ∃ n5 : Int, cell h (a7.add (Int.toNat (0 : Int) * 1)) = some (.int .i64 n5) ∧
  NN o fun a8 =>
  ∃ (a9 : Option Addr) (L5 C5 : Nat), cell h (a8.add 1) = some (.slice a9 L5 C5) ∧
  (0 ≤ (0 : Int) ∧ (0 : Int) < (L5 : Int)) ∧
  NN a9 fun a10 =>
  ∃ n6 : Int, cell h (a10.add (Int.toNat (0 : Int) * 1)) = some (.int .i64 n6) ∧
  cond (decide (n6 ≤ n5))
  (NN s fun a11 =>
  ∃ (a12 : Option Addr) (L6 C6 : Nat), cell h (a11.add 1) = some (.slice a12 L6 C6) ∧
  (0 ≤ i ∧ i < (L6 : Int)) ∧
  NN a12 fun a13 =>
  ∃ (a14 : Option Addr) (L7 C7 : Nat), cell h (a13.add (Int.toNat i * 1)) = some (.slice a14 L7 C7) ∧
  (0 ≤ (0 : Int) ∧ (0 : Int) < (L7 : Int)) ∧
  NN a14 fun a15 =>
  ∃ n7 : Int, cell h (a15.add (Int.toNat (0 : Int) * 1)) = some (.int .i64 n7) ∧
  NN o fun a16 =>
  ∃ (a17 : Option Addr) (L8 C8 : Nat), cell h (a16.add 1) = some (.slice a17 L8 C8) ∧
  (0 ≤ (1 : Int) ∧ (1 : Int) < (L8 : Int)) ∧
  NN a17 fun a18 =>
  ∃ n8 : Int, cell h (a18.add (Int.toNat (1 : Int) * 1)) = some (.int .i64 n8) ∧
  cond (decide (n7 ≤ n8))
  (NN s fun a19 =>
  ∃ (a20 : Option Addr) (L9 C9 : Nat), cell h (a19.add 1) = some (.slice a20 L9 C9) ∧
  (0 ≤ i ∧ i < (L9 : Int)) ∧
  NN a20 fun a21 =>
  ∃ (a22 : Option Addr) (L10 C10 : Nat), cell h (a21.add (Int.toNat i * 1)) = some (.slice a22 L10 C10) ∧
  (0 ≤ (1 : Int) ∧ (1 : Int) < (L10 : Int)) ∧
  NN a22 fun a23 =>
  ∃ n9 : Int, cell h (a23.add (Int.toNat (1 : Int) * 1)) = some (.int .i64 n9) ∧
  NN o fun a24 =>
  ∃ (a25 : Option Addr) (L11 C11 : Nat), cell h (a24.add 1) = some (.slice a25 L11 C11) ∧
  (0 ≤ (2 : Int) ∧ (2 : Int) < (L11 : Int)) ∧
  NN a25 fun a26 =>
  ∃ n10 : Int, cell h (a26.add (Int.toNat (2 : Int) * 1)) = some (.int .i64 n10) ∧
  cond (decide (n10 ≤ n9))
  (NN s fun a27 =>
  ∃ (a28 : Option Addr) (L12 C12 : Nat), cell h (a27.add 1) = some (.slice a28 L12 C12) ∧
  (0 ≤ i ∧ i < (L12 : Int)) ∧
  NN a28 fun a29 =>
  ∃ (a30 : Option Addr) (L13 C13 : Nat), cell h (a29.add (Int.toNat i * 1)) = some (.slice a30 L13 C13) ∧
  (0 ≤ (1 : Int) ∧ (1 : Int) < (L13 : Int)) ∧
  NN a30 fun a31 =>
  ∃ n11 : Int, cell h (a31.add (Int.toNat (1 : Int) * 1)) = some (.int .i64 n11) ∧
  NN o fun a32 =>
  ∃ (a33 : Option Addr) (L14 C14 : Nat), cell h (a32.add 1) = some (.slice a33 L14 C14) ∧
  (0 ≤ (3 : Int) ∧ (3 : Int) < (L14 : Int)) ∧
  NN a33 fun a34 =>
  ∃ n12 : Int, cell h (a34.add (Int.toNat (3 : Int) * 1)) = some (.int .i64 n12) ∧
  cond (decide (n11 ≤ n12))
  (InR (count + 1) ∧
  NN s fun a35 =>
  ∃ (a36 : Option Addr) (L15 C15 : Nat), cell h (a35.add 1) = some (.slice a36 L15 C15) ∧
  (0 ≤ i ∧ i < (L15 : Int)) ∧
  NN a36 fun a37 =>
  ∃ (a38 : Option Addr) (L16 C16 : Nat), cell h (a37.add (Int.toNat i * 1)) = some (.slice a38 L16 C16) ∧
  (0 ≤ (2 : Int) ∧ (2 : Int) < (L16 : Int)) ∧
  NN a38 fun a39 =>
  ∃ n13 : Int, cell h (a39.add (Int.toNat (2 : Int) * 1)) = some (.int .i64 n13) ∧
  InR (sum + n13) ∧
  r03_points_b3 s o t4 t5 nv (count + 1) (sum + n13) i h nx0 K)
  (r03_points_b3 s o t4 t5 nv count sum i h nx0 K))
  (r03_points_b3 s o t4 t5 nv count sum i h nx0 K))
  (r03_points_b3 s o t4 t5 nv count sum i h nx0 K))
  (r03_points_b3 s o t4 t5 nv count sum i h nx0 K))
  (r03_points_b4 s o t4 t5 count sum h  K)) := by kernel_rfl
theorem r03_points_b2_eq (s : Option Addr) (o : Option Addr) (t4 : Option Addr) (t5 : Option Addr) (nv : Int) (h : Hp)  (K : Value → Hp → Prop) : r03_points_b2 s o t4 t5 nv h  K = (
  LoopVC ((0, ()) : Int × Unit) h (fun (nx0 : Int × Unit → Hp → Prop) (s3 : Int × Unit) h13 => r03_points_b5 s3.1 s o t4 t5 nv h13 nx0 K)) := by kernel_rfl
theorem r03_points_b3_eq (s : Option Addr) (o : Option Addr) (t4 : Option Addr) (t5 : Option Addr) (nv : Int) (count : Int) (sum : Int) (i : Int) (h : Hp) (nx0 : Int × Int × Int × Unit → Hp → Prop) (K : Value → Hp → Prop) : r03_points_b3 s o t4 t5 nv count sum i h nx0 K = (
  InR (i + 1) ∧
  nx0 (count, sum, i + 1, ()) h) := by kernel_rfl
theorem r03_points_b4_eq (s : Option Addr) (o : Option Addr) (t4 : Option Addr) (t5 : Option Addr) (count : Int) (sum : Int) (h : Hp)  (K : Value → Hp → Prop) : r03_points_b4 s o t4 t5 count sum h  K = (
  NN o fun a40 =>
  ∃ n14 : Int, cell h a40 = some (.int .i64 n14) ∧
  cond (decide (n14 = 3))
  (NN s fun a41 =>
  ∃ n15 : Int, ∃ (a42 : Option Addr) (L17 C17 : Nat), cell h a41 = some (.int .i64 n15) ∧
  cell h (a41.add 1) = some (.slice a42 L17 C17) ∧
  HCalls Try.prog 97 #[.agg #[.int .i64 n15, .slice a42 L17 C17], .int .i64 count] h fun v2 h14 => ∃ r11 : Int, ∃ (r12 : Option Addr) (rL5 rC5 : Nat), ∃ r13 : Int, ∃ r14 : Int, ∃ (r15 : Option Addr) (rL6 rC6 : Nat), v2 = .tuple #[.agg #[.int .i64 r11, .slice r12 rL5 rC5], .agg #[.int .i64 r13, .int .i64 r14, .slice r15 rL6 rC6]] ∧
  NN t4 fun a43 =>
  Wr h14 a43 (.int .i64 r11) fun h15 =>
  Wr h15 (a43.add 1) (.slice r12 rL5 rC5) fun h16 =>
  NN t5 fun a44 =>
  Wr h16 a44 (.int .i64 r13) fun h17 =>
  Wr h17 (a44.add 1) (.int .i64 r14) fun h18 =>
  Wr h18 (a44.add 2) (.slice r15 rL6 rC6) fun h19 =>
  NN t4 fun a45 =>
  ∃ r16 : Int, ∃ (r17 : Option Addr) (rL7 rC7 : Nat), cell h19 a45 = some (.int .i64 r16) ∧
  cell h19 (a45.add 1) = some (.slice r17 rL7 rC7) ∧
  NN t5 fun a46 =>
  ∃ r18 : Int, ∃ r19 : Int, ∃ (r20 : Option Addr) (rL8 rC8 : Nat), cell h19 a46 = some (.int .i64 r18) ∧
  cell h19 (a46.add 1) = some (.int .i64 r19) ∧
  cell h19 (a46.add 2) = some (.slice r20 rL8 rC8) ∧
  K (.tuple #[.agg #[.int .i64 r16, .slice r17 rL7 rC7], .agg #[.int .i64 r18, .int .i64 r19, .slice r20 rL8 rC8]]) h19)
  (NN s fun a47 =>
  ∃ n16 : Int, ∃ (a48 : Option Addr) (L18 C18 : Nat), cell h a47 = some (.int .i64 n16) ∧
  cell h (a47.add 1) = some (.slice a48 L18 C18) ∧
  HCalls Try.prog 97 #[.agg #[.int .i64 n16, .slice a48 L18 C18], .int .i64 sum] h fun v3 h20 => ∃ r21 : Int, ∃ (r22 : Option Addr) (rL9 rC9 : Nat), ∃ r23 : Int, ∃ r24 : Int, ∃ (r25 : Option Addr) (rL10 rC10 : Nat), v3 = .tuple #[.agg #[.int .i64 r21, .slice r22 rL9 rC9], .agg #[.int .i64 r23, .int .i64 r24, .slice r25 rL10 rC10]] ∧
  NN t4 fun a49 =>
  Wr h20 a49 (.int .i64 r21) fun h21 =>
  Wr h21 (a49.add 1) (.slice r22 rL9 rC9) fun h22 =>
  NN t5 fun a50 =>
  Wr h22 a50 (.int .i64 r23) fun h23 =>
  Wr h23 (a50.add 1) (.int .i64 r24) fun h24 =>
  Wr h24 (a50.add 2) (.slice r25 rL10 rC10) fun h25 =>
  NN t4 fun a51 =>
  ∃ r26 : Int, ∃ (r27 : Option Addr) (rL11 rC11 : Nat), cell h25 a51 = some (.int .i64 r26) ∧
  cell h25 (a51.add 1) = some (.slice r27 rL11 rC11) ∧
  NN t5 fun a52 =>
  ∃ r28 : Int, ∃ r29 : Int, ∃ (r30 : Option Addr) (rL12 rC12 : Nat), cell h25 a52 = some (.int .i64 r28) ∧
  cell h25 (a52.add 1) = some (.int .i64 r29) ∧
  cell h25 (a52.add 2) = some (.slice r30 rL12 rC12) ∧
  K (.tuple #[.agg #[.int .i64 r26, .slice r27 rL11 rC11], .agg #[.int .i64 r28, .int .i64 r29, .slice r30 rL12 rC12]]) h25)) := by kernel_rfl
theorem r03_points_b5_eq (atv : Int) (s : Option Addr) (o : Option Addr) (t4 : Option Addr) (t5 : Option Addr) (nv : Int) (h : Hp) (nx0 : Int × Unit → Hp → Prop) (K : Value → Hp → Prop) : r03_points_b5 atv s o t4 t5 nv h nx0 K = (
  cond (decide (atv < nv))
  (NN s fun a53 =>
  ∃ (a54 : Option Addr) (L19 C19 : Nat), cell h (a53.add 1) = some (.slice a54 L19 C19) ∧
  (0 ≤ atv ∧ atv < (L19 : Int)) ∧
  NN a54 fun a55 =>
  ∃ (a56 : Option Addr) (L20 C20 : Nat), cell h (a55.add (Int.toNat atv * 1)) = some (.slice a56 L20 C20) ∧
  NN o fun a57 =>
  ∃ (a58 : Option Addr) (L21 C21 : Nat), cell h (a57.add 1) = some (.slice a58 L21 C21) ∧
  ∃ r31 : Bool, HCalls Try.prog 104 #[.slice a56 L20 C20, .slice a58 L21 C21, .int .i64 2] h (fun v4 h26 => v4 = .bool r31 ∧ h26 = h) ∧
  cond r31
  (r03_points_b6 s o t4 t5 nv atv h nx0 K)
  (r03_points_b7 s o t4 t5 nv atv h  K))
  (r03_points_b7 s o t4 t5 nv atv h  K)) := by kernel_rfl
theorem r03_points_b6_eq (s : Option Addr) (o : Option Addr) (t4 : Option Addr) (t5 : Option Addr) (nv : Int) (atv : Int) (h : Hp) (nx0 : Int × Unit → Hp → Prop) (K : Value → Hp → Prop) : r03_points_b6 s o t4 t5 nv atv h nx0 K = (
  InR (atv + 1) ∧
  nx0 (atv + 1, ()) h) := by kernel_rfl
theorem r03_points_b7_eq (s : Option Addr) (o : Option Addr) (t4 : Option Addr) (t5 : Option Addr) (nv : Int) (atv : Int) (h : Hp)  (K : Value → Hp → Prop) : r03_points_b7 s o t4 t5 nv atv h  K = (
  cond (decide (atv < nv))
  (NN s fun a59 =>
  ∃ (a60 : Option Addr) (L22 C22 : Nat), cell h (a59.add 1) = some (.slice a60 L22 C22) ∧
  (0 ≤ atv ∧ atv < (L22 : Int)) ∧
  NN a60 fun a61 =>
  ∃ (a62 : Option Addr) (L23 C23 : Nat), cell h (a61.add (Int.toNat atv * 1)) = some (.slice a62 L23 C23) ∧
  (0 ≤ (0 : Int) ∧ (0 : Int) < (L23 : Int)) ∧
  NN a62 fun a63 =>
  ∃ n17 : Int, cell h (a63.add (Int.toNat (0 : Int) * 1)) = some (.int .i64 n17) ∧
  NN o fun a64 =>
  ∃ (a65 : Option Addr) (L24 C24 : Nat), cell h (a64.add 1) = some (.slice a65 L24 C24) ∧
  (0 ≤ (0 : Int) ∧ (0 : Int) < (L24 : Int)) ∧
  NN a65 fun a66 =>
  ∃ n18 : Int, cell h (a66.add (Int.toNat (0 : Int) * 1)) = some (.int .i64 n18) ∧
  cond (decide (n17 = n18))
  (NN s fun a67 =>
  ∃ (a68 : Option Addr) (L25 C25 : Nat), cell h (a67.add 1) = some (.slice a68 L25 C25) ∧
  (0 ≤ atv ∧ atv < (L25 : Int)) ∧
  NN a68 fun a69 =>
  ∃ (a70 : Option Addr) (L26 C26 : Nat), cell h (a69.add (Int.toNat atv * 1)) = some (.slice a70 L26 C26) ∧
  (0 ≤ (1 : Int) ∧ (1 : Int) < (L26 : Int)) ∧
  NN a70 fun a71 =>
  ∃ n19 : Int, cell h (a71.add (Int.toNat (1 : Int) * 1)) = some (.int .i64 n19) ∧
  NN o fun a72 =>
  ∃ (a73 : Option Addr) (L27 C27 : Nat), cell h (a72.add 1) = some (.slice a73 L27 C27) ∧
  (0 ≤ (1 : Int) ∧ (1 : Int) < (L27 : Int)) ∧
  NN a73 fun a74 =>
  ∃ n20 : Int, cell h (a74.add (Int.toNat (1 : Int) * 1)) = some (.int .i64 n20) ∧
  r03_points_b8 s o t4 t5 nv atv (decide (n19 = n20)) h  K)
  (r03_points_b8 s o t4 t5 nv atv false h  K))
  (r03_points_b8 s o t4 t5 nv atv false h  K)) := by kernel_rfl
theorem r03_points_b8_eq (s : Option Addr) (o : Option Addr) (t4 : Option Addr) (t5 : Option Addr) (nv : Int) (atv : Int) (there : Bool) (h : Hp)  (K : Value → Hp → Prop) : r03_points_b8 s o t4 t5 nv atv there h  K = (
  NN o fun a75 =>
  ∃ n21 : Int, cell h a75 = some (.int .i64 n21) ∧
  cond (decide (n21 = 2))
  (cond (!there)
  (NN s fun a76 =>
  ∃ n22 : Int, ∃ (a77 : Option Addr) (L28 C28 : Nat), cell h a76 = some (.int .i64 n22) ∧
  cell h (a76.add 1) = some (.slice a77 L28 C28) ∧
  HCalls Try.prog 98 #[.agg #[.int .i64 n22, .slice a77 L28 C28], .int .i64 12] h fun v5 h27 => ∃ r32 : Int, ∃ (r33 : Option Addr) (rL13 rC13 : Nat), ∃ r34 : Int, ∃ r35 : Int, ∃ (r36 : Option Addr) (rL14 rC14 : Nat), v5 = .tuple #[.agg #[.int .i64 r32, .slice r33 rL13 rC13], .agg #[.int .i64 r34, .int .i64 r35, .slice r36 rL14 rC14]] ∧
  NN t4 fun a78 =>
  Wr h27 a78 (.int .i64 r32) fun h28 =>
  Wr h28 (a78.add 1) (.slice r33 rL13 rC13) fun h29 =>
  NN t5 fun a79 =>
  Wr h29 a79 (.int .i64 r34) fun h30 =>
  Wr h30 (a79.add 1) (.int .i64 r35) fun h31 =>
  Wr h31 (a79.add 2) (.slice r36 rL14 rC14) fun h32 =>
  NN t4 fun a80 =>
  ∃ r37 : Int, ∃ (r38 : Option Addr) (rL15 rC15 : Nat), cell h32 a80 = some (.int .i64 r37) ∧
  cell h32 (a80.add 1) = some (.slice r38 rL15 rC15) ∧
  NN t5 fun a81 =>
  ∃ r39 : Int, ∃ r40 : Int, ∃ (r41 : Option Addr) (rL16 rC16 : Nat), cell h32 a81 = some (.int .i64 r39) ∧
  cell h32 (a81.add 1) = some (.int .i64 r40) ∧
  cell h32 (a81.add 2) = some (.slice r41 rL16 rC16) ∧
  K (.tuple #[.agg #[.int .i64 r37, .slice r38 rL15 rC15], .agg #[.int .i64 r39, .int .i64 r40, .slice r41 rL16 rC16]]) h32)
  (NN s fun a82 =>
  ∃ (a83 : Option Addr) (L29 C29 : Nat), cell h (a82.add 1) = some (.slice a83 L29 C29) ∧
  (0 ≤ atv ∧ atv < (L29 : Int)) ∧
  NN a83 fun a84 =>
  ∃ (a85 : Option Addr) (L30 C30 : Nat), cell h (a84.add (Int.toNat atv * 1)) = some (.slice a85 L30 C30) ∧
  (0 ≤ (2 : Int) ∧ (2 : Int) < (L30 : Int)) ∧
  NN a85 fun a86 =>
  ∃ n23 : Int, cell h (a86.add (Int.toNat (2 : Int) * 1)) = some (.int .i64 n23) ∧
  NN s fun a87 =>
  ∃ (a88 : Option Addr) (L31 C31 : Nat), cell h (a87.add 1) = some (.slice a88 L31 C31) ∧
  HCalls Try.prog 100 #[.slice a88 L31 C31, .int .i64 atv] h fun v6 h33 => ∃ (r42 : Option Addr) (rL17 rC17 : Nat), v6 = .slice r42 rL17 rC17 ∧
  NN s fun a89 =>
  Wr h33 (a89.add 1) (.slice r42 rL17 rC17) fun h34 =>
  NN s fun a90 =>
  ∃ n24 : Int, ∃ (a91 : Option Addr) (L32 C32 : Nat), cell h34 a90 = some (.int .i64 n24) ∧
  cell h34 (a90.add 1) = some (.slice a91 L32 C32) ∧
  HCalls Try.prog 97 #[.agg #[.int .i64 n24, .slice a91 L32 C32], .int .i64 n23] h34 fun v7 h35 => ∃ r43 : Int, ∃ (r44 : Option Addr) (rL18 rC18 : Nat), ∃ r45 : Int, ∃ r46 : Int, ∃ (r47 : Option Addr) (rL19 rC19 : Nat), v7 = .tuple #[.agg #[.int .i64 r43, .slice r44 rL18 rC18], .agg #[.int .i64 r45, .int .i64 r46, .slice r47 rL19 rC19]] ∧
  NN t4 fun a92 =>
  Wr h35 a92 (.int .i64 r43) fun h36 =>
  Wr h36 (a92.add 1) (.slice r44 rL18 rC18) fun h37 =>
  NN t5 fun a93 =>
  Wr h37 a93 (.int .i64 r45) fun h38 =>
  Wr h38 (a93.add 1) (.int .i64 r46) fun h39 =>
  Wr h39 (a93.add 2) (.slice r47 rL19 rC19) fun h40 =>
  NN t4 fun a94 =>
  ∃ r48 : Int, ∃ (r49 : Option Addr) (rL20 rC20 : Nat), cell h40 a94 = some (.int .i64 r48) ∧
  cell h40 (a94.add 1) = some (.slice r49 rL20 rC20) ∧
  NN t5 fun a95 =>
  ∃ r50 : Int, ∃ r51 : Int, ∃ (r52 : Option Addr) (rL21 rC21 : Nat), cell h40 a95 = some (.int .i64 r50) ∧
  cell h40 (a95.add 1) = some (.int .i64 r51) ∧
  cell h40 (a95.add 2) = some (.slice r52 rL21 rC21) ∧
  K (.tuple #[.agg #[.int .i64 r48, .slice r49 rL20 rC20], .agg #[.int .i64 r50, .int .i64 r51, .slice r52 rL21 rC21]]) h40))
  (cond there
  (NN s fun a96 =>
  ∃ n25 : Int, ∃ (a97 : Option Addr) (L33 C33 : Nat), cell h a96 = some (.int .i64 n25) ∧
  cell h (a96.add 1) = some (.slice a97 L33 C33) ∧
  HCalls Try.prog 98 #[.agg #[.int .i64 n25, .slice a97 L33 C33], .int .i64 15] h fun v8 h41 => ∃ r53 : Int, ∃ (r54 : Option Addr) (rL22 rC22 : Nat), ∃ r55 : Int, ∃ r56 : Int, ∃ (r57 : Option Addr) (rL23 rC23 : Nat), v8 = .tuple #[.agg #[.int .i64 r53, .slice r54 rL22 rC22], .agg #[.int .i64 r55, .int .i64 r56, .slice r57 rL23 rC23]] ∧
  NN t4 fun a98 =>
  Wr h41 a98 (.int .i64 r53) fun h42 =>
  Wr h42 (a98.add 1) (.slice r54 rL22 rC22) fun h43 =>
  NN t5 fun a99 =>
  Wr h43 a99 (.int .i64 r55) fun h44 =>
  Wr h44 (a99.add 1) (.int .i64 r56) fun h45 =>
  Wr h45 (a99.add 2) (.slice r57 rL23 rC23) fun h46 =>
  NN t4 fun a100 =>
  ∃ r58 : Int, ∃ (r59 : Option Addr) (rL24 rC24 : Nat), cell h46 a100 = some (.int .i64 r58) ∧
  cell h46 (a100.add 1) = some (.slice r59 rL24 rC24) ∧
  NN t5 fun a101 =>
  ∃ r60 : Int, ∃ r61 : Int, ∃ (r62 : Option Addr) (rL25 rC25 : Nat), cell h46 a101 = some (.int .i64 r60) ∧
  cell h46 (a101.add 1) = some (.int .i64 r61) ∧
  cell h46 (a101.add 2) = some (.slice r62 rL25 rC25) ∧
  K (.tuple #[.agg #[.int .i64 r58, .slice r59 rL24 rC24], .agg #[.int .i64 r60, .int .i64 r61, .slice r62 rL25 rC25]]) h46)
  (cond (decide (nv = 500))
  (NN s fun a102 =>
  ∃ n26 : Int, ∃ (a103 : Option Addr) (L34 C34 : Nat), cell h a102 = some (.int .i64 n26) ∧
  cell h (a102.add 1) = some (.slice a103 L34 C34) ∧
  HCalls Try.prog 98 #[.agg #[.int .i64 n26, .slice a103 L34 C34], .int .i64 4] h fun v9 h47 => ∃ r63 : Int, ∃ (r64 : Option Addr) (rL26 rC26 : Nat), ∃ r65 : Int, ∃ r66 : Int, ∃ (r67 : Option Addr) (rL27 rC27 : Nat), v9 = .tuple #[.agg #[.int .i64 r63, .slice r64 rL26 rC26], .agg #[.int .i64 r65, .int .i64 r66, .slice r67 rL27 rC27]] ∧
  NN t4 fun a104 =>
  Wr h47 a104 (.int .i64 r63) fun h48 =>
  Wr h48 (a104.add 1) (.slice r64 rL26 rC26) fun h49 =>
  NN t5 fun a105 =>
  Wr h49 a105 (.int .i64 r65) fun h50 =>
  Wr h50 (a105.add 1) (.int .i64 r66) fun h51 =>
  Wr h51 (a105.add 2) (.slice r67 rL27 rC27) fun h52 =>
  NN t4 fun a106 =>
  ∃ r68 : Int, ∃ (r69 : Option Addr) (rL28 rC28 : Nat), cell h52 a106 = some (.int .i64 r68) ∧
  cell h52 (a106.add 1) = some (.slice r69 rL28 rC28) ∧
  NN t5 fun a107 =>
  ∃ r70 : Int, ∃ r71 : Int, ∃ (r72 : Option Addr) (rL29 rC29 : Nat), cell h52 a107 = some (.int .i64 r70) ∧
  cell h52 (a107.add 1) = some (.int .i64 r71) ∧
  cell h52 (a107.add 2) = some (.slice r72 rL29 rC29) ∧
  K (.tuple #[.agg #[.int .i64 r68, .slice r69 rL28 rC28], .agg #[.int .i64 r70, .int .i64 r71, .slice r72 rL29 rC29]]) h52)
  (NN s fun a108 =>
  ∃ (a109 : Option Addr) (L35 C35 : Nat), cell h (a108.add 1) = some (.slice a109 L35 C35) ∧
  NN o fun a110 =>
  ∃ (a111 : Option Addr) (L36 C36 : Nat), cell h (a110.add 1) = some (.slice a111 L36 C36) ∧
  HCalls Try.prog 96 #[.slice a111 L36 C36] h fun v10 h53 => ∃ (r73 : Option Addr) (rL30 rC30 : Nat), v10 = .slice r73 rL30 rC30 ∧
  (∃ (a112 : Option Addr) (L37 C37 : Nat), cell h53 (a108.add 1) = some (.slice a112 L37 C37) ∧
  (.slice a112 L37 C37 : Value) = .slice a109 L35 C35) ∧
  HCalls Try.prog 99 #[.slice a109 L35 C35, .int .i64 atv, .slice r73 rL30 rC30] h53 fun v11 h54 => ∃ (r74 : Option Addr) (rL31 rC31 : Nat), v11 = .slice r74 rL31 rC31 ∧
  NN s fun a113 =>
  Wr h54 (a113.add 1) (.slice r74 rL31 rC31) fun h55 =>
  NN s fun a114 =>
  ∃ n27 : Int, ∃ (a115 : Option Addr) (L38 C38 : Nat), cell h55 a114 = some (.int .i64 n27) ∧
  cell h55 (a114.add 1) = some (.slice a115 L38 C38) ∧
  HCalls Try.prog 97 #[.agg #[.int .i64 n27, .slice a115 L38 C38], .int .i64 0] h55 fun v12 h56 => ∃ r75 : Int, ∃ (r76 : Option Addr) (rL32 rC32 : Nat), ∃ r77 : Int, ∃ r78 : Int, ∃ (r79 : Option Addr) (rL33 rC33 : Nat), v12 = .tuple #[.agg #[.int .i64 r75, .slice r76 rL32 rC32], .agg #[.int .i64 r77, .int .i64 r78, .slice r79 rL33 rC33]] ∧
  NN t4 fun a116 =>
  Wr h56 a116 (.int .i64 r75) fun h57 =>
  Wr h57 (a116.add 1) (.slice r76 rL32 rC32) fun h58 =>
  NN t5 fun a117 =>
  Wr h58 a117 (.int .i64 r77) fun h59 =>
  Wr h59 (a117.add 1) (.int .i64 r78) fun h60 =>
  Wr h60 (a117.add 2) (.slice r79 rL33 rC33) fun h61 =>
  NN t4 fun a118 =>
  ∃ r80 : Int, ∃ (r81 : Option Addr) (rL34 rC34 : Nat), cell h61 a118 = some (.int .i64 r80) ∧
  cell h61 (a118.add 1) = some (.slice r81 rL34 rC34) ∧
  NN t5 fun a119 =>
  ∃ r82 : Int, ∃ r83 : Int, ∃ (r84 : Option Addr) (rL35 rC35 : Nat), cell h61 a119 = some (.int .i64 r82) ∧
  cell h61 (a119.add 1) = some (.int .i64 r83) ∧
  cell h61 (a119.add 2) = some (.slice r84 rL35 rC35) ∧
  K (.tuple #[.agg #[.int .i64 r80, .slice r81 rL34 rC34], .agg #[.int .i64 r82, .int .i64 r83, .slice r84 rL35 rC35]]) h61)))) := by kernel_rfl
theorem r03_points_call {s_0 : Int} {s_1 : Option Addr} {s_1L : Nat} {s_1C : Nat} {o_0 : Int} {o_1 : Option Addr} {o_1L : Nat} {o_1C : Nat} {h : Hp} {K : Value → Hp → Prop} (hk : r03_points_b0 s_0 s_1 s_1L s_1C o_0 o_1 o_1L o_1C h K) : HCalls Try.prog 84 #[.agg #[.int .i64 s_0, .slice s_1 s_1L s_1C], .agg #[.int .i64 o_0, .slice o_1 o_1L o_1C]] h K :=
  calls_of_snd r03_points_an Try.func84 (c := bodyOf Try.f84) rfl Try.ntmps84 (Nat.le_of_ble_eq_true rfl) (snd_4 F_ok F_mixed) hk

/-! ### r03_text -/
def r03_text_an : Ann := .node none (.leaf) (.node none (.leaf) (.node (some [2, 3, 4, 5, 6]) (.leaf) (.node (some [2, 3, 4, 5, 6]) (.node none (.leaf) (.node none (.leaf) (.node none (.leaf) (.node none (.leaf) (.node none (.node none (.leaf) (.node none (.plan (.qu 0 (.qu 2 (.qu 3 (.wo 1 (.wo 4 (.wo 5 (.qu 6 (.wo 7 .fin .no)) .no) .no) .no))))) (.leaf))) (.leaf)))))) (.node none (.leaf) (.node (some [2, 3, 4, 5, 7, 8]) (.node none (.leaf) (.loop [2, 3, 4, 5, 6] [(7, .int .i64), (8, .int .i64), (9, .int .i64)] (.node none (.leaf) (.node (some [2, 3, 4, 5, 6, 7, 8, 9]) (.leaf) (.leaf))))) (.leaf))))))
def r03_text_K0  (K : Value → Hp → Prop) : Exit → Env → Hp → Prop := retK Try.prog Try.f85.results.toList K
def r03_text_K1  (K : Value → Hp → Prop) : Exit → Env → Hp → Prop := thenE (fun env h => sx_2 Try.prog F 87 (cp [1, 1, 1, 1, 1, 1] (bodyOf Try.f85)) (ap [1, 1, 1, 1, 1, 1] r03_text_an) (rs [2, 3, 4, 5, 7, 8] env) h (r03_text_K0  K)) (r03_text_K0  K)
def r03_text_K2  (K : Value → Hp → Prop) : Exit → Env → Hp → Prop := blockE 1 (r03_text_K1  K)
def r03_text_K3 (nx0 : Int × Int × Int × Unit → Hp → Prop) (K : Value → Hp → Prop) : Exit → Env → Hp → Prop := thenE (fun env h => getV [(7, .int .i64), (8, .int .i64), (9, .int .i64)] env fun s => nx0 s h) (r03_text_K2  K)
def r03_text_b0 (s_0 : Int) (s_1 : Option Addr) (s_1L : Nat) (s_1C : Nat) (o_0 : Int) (o_1 : Option Addr) (o_1L : Nat) (o_1C : Nat) (h : Hp)  (K : Value → Hp → Prop) : Prop :=
  sx_5 Try.prog F 87 (cp [] (bodyOf Try.f85)) (ap [] r03_text_an) [(0, .agg #[.int .i64 s_0, .slice s_1 s_1L s_1C]), (1, .agg #[.int .i64 o_0, .slice o_1 o_1L o_1C])] h (r03_text_K0  K)
def r03_text_b1 (s : Option Addr) (o : Option Addr) (t4 : Option Addr) (t5 : Option Addr) (l : Option Addr) (lL : Nat) (lC : Nat) (h : Hp)  (K : Value → Hp → Prop) : Prop :=
  sx_4 Try.prog F 87 (cp [1, 1, 1] (bodyOf Try.f85)) (ap [1, 1, 1] r03_text_an) [(2, .pointer s), (3, .pointer o), (4, .pointer t4), (5, .pointer t5), (6, .slice l lL lC)] h (r03_text_K0  K)
def r03_text_b2 (s : Option Addr) (o : Option Addr) (t4 : Option Addr) (t5 : Option Addr) (l : Option Addr) (lL : Nat) (lC : Nat) (h : Hp)  (K : Value → Hp → Prop) : Prop :=
  sx_3 Try.prog F 87 (cp [1, 1, 1, 1] (bodyOf Try.f85)) (ap [1, 1, 1, 1] r03_text_an) [(2, .pointer s), (3, .pointer o), (4, .pointer t4), (5, .pointer t5), (6, .slice l lL lC)] h (r03_text_K0  K)
def r03_text_b3 (count : Int) (first : Int) (i : Int) (s : Option Addr) (o : Option Addr) (t4 : Option Addr) (t5 : Option Addr) (l : Option Addr) (lL : Nat) (lC : Nat) (h : Hp) (nx0 : Int × Int × Int × Unit → Hp → Prop) (K : Value → Hp → Prop) : Prop :=
  sx_2 Try.prog F 87 (cp [1, 1, 1, 1, 1, 0, 1, 2, 2] (bodyOf Try.f85)) (ap [1, 1, 1, 1, 1, 0, 1, 2] r03_text_an) [(7, .int .i64 count), (8, .int .i64 first), (9, .int .i64 i), (2, .pointer s), (3, .pointer o), (4, .pointer t4), (5, .pointer t5), (6, .slice l lL lC)] h (r03_text_K3 nx0 K)
def r03_text_b4 (s : Option Addr) (o : Option Addr) (t4 : Option Addr) (t5 : Option Addr) (l : Option Addr) (lL : Nat) (lC : Nat) (count : Int) (first : Int) (i : Int) (h : Hp) (nx0 : Int × Int × Int × Unit → Hp → Prop) (K : Value → Hp → Prop) : Prop :=
  sx_1 Try.prog F 87 (cp [1, 1, 1, 1, 1, 0, 1, 2, 2, 1, 1] (bodyOf Try.f85)) (ap [1, 1, 1, 1, 1, 0, 1, 2, 1, 1] r03_text_an) [(2, .pointer s), (3, .pointer o), (4, .pointer t4), (5, .pointer t5), (6, .slice l lL lC), (7, .int .i64 count), (8, .int .i64 first), (9, .int .i64 i)] h (r03_text_K3 nx0 K)
def r03_text_b5 (s : Option Addr) (o : Option Addr) (t4 : Option Addr) (t5 : Option Addr) (count : Int) (first : Int) (h : Hp)  (K : Value → Hp → Prop) : Prop :=
  sx_2 Try.prog F 87 (cp [1, 1, 1, 1, 1, 1] (bodyOf Try.f85)) (ap [1, 1, 1, 1, 1, 1] r03_text_an) [(2, .pointer s), (3, .pointer o), (4, .pointer t4), (5, .pointer t5), (7, .int .i64 count), (8, .int .i64 first)] h (r03_text_K0  K)
theorem r03_text_b0_eq (s_0 : Int) (s_1 : Option Addr) (s_1L : Nat) (s_1C : Nat) (o_0 : Int) (o_1 : Option Addr) (o_1L : Nat) (o_1C : Nat) (h : Hp)  (K : Value → Hp → Prop) : r03_text_b0 s_0 s_1 s_1L s_1C o_0 o_1 o_1L o_1C h  K = (
  New h (.cells #[.int .i64 s_0, .slice s_1 s_1L s_1C] 108) fun b1 h1 =>
  New h1 (.cells #[.int .i64 o_0, .slice o_1 o_1L o_1C] 58) fun b2 h2 =>
  New h2 (.cells #[.int .i64 0, .slice none 0 0] 108) fun b3 h3 =>
  New h3 (.cells #[.int .i64 0, .int .i64 0, .slice none 0 0] 61) fun b4 h4 =>
  ∃ (a1 : Option Addr) (L1 C1 : Nat), cell h4 ((⟨b1, 0, none⟩ : Addr).add 1) = some (.slice a1 L1 C1) ∧
  cond (decide ((0 : Int) < (L1 : Int)))
  (∃ (a2 : Option Addr) (L2 C2 : Nat), cell h4 ((⟨b1, 0, none⟩ : Addr).add 1) = some (.slice a2 L2 C2) ∧
  (0 ≤ (0 : Int) ∧ (0 : Int) < (L2 : Int)) ∧
  NN a2 fun a3 =>
  ∃ (a4 : Option Addr) (L3 C3 : Nat), cell h4 (a3.add (Int.toNat (0 : Int) * 1)) = some (.slice a4 L3 C3) ∧
  r03_text_b1 (some ⟨b1, 0, none⟩) (some ⟨b2, 0, none⟩) (some ⟨b3, 0, none⟩) (some ⟨b4, 0, none⟩) a4 L3 C3 h4  K)
  (r03_text_b1 (some ⟨b1, 0, none⟩) (some ⟨b2, 0, none⟩) (some ⟨b3, 0, none⟩) (some ⟨b4, 0, none⟩) none 0 0 h4  K)) := by kernel_rfl
theorem r03_text_b1_eq (s : Option Addr) (o : Option Addr) (t4 : Option Addr) (t5 : Option Addr) (l : Option Addr) (lL : Nat) (lC : Nat) (h : Hp)  (K : Value → Hp → Prop) : r03_text_b1 s o t4 t5 l lL lC h  K = (
  NN o fun a5 =>
  ∃ n1 : Int, cell h a5 = some (.int .i64 n1) ∧
  cond (decide (n1 = 4))
  (NN s fun a6 =>
  ∃ n2 : Int, ∃ (a7 : Option Addr) (L4 C4 : Nat), cell h a6 = some (.int .i64 n2) ∧
  cell h (a6.add 1) = some (.slice a7 L4 C4) ∧
  HCalls Try.prog 97 #[.agg #[.int .i64 n2, .slice a7 L4 C4], .int .i64 (lL : Int)] h fun v1 h5 => ∃ r1 : Int, ∃ (r2 : Option Addr) (rL1 rC1 : Nat), ∃ r3 : Int, ∃ r4 : Int, ∃ (r5 : Option Addr) (rL2 rC2 : Nat), v1 = .tuple #[.agg #[.int .i64 r1, .slice r2 rL1 rC1], .agg #[.int .i64 r3, .int .i64 r4, .slice r5 rL2 rC2]] ∧
  NN t4 fun a8 =>
  Wr h5 a8 (.int .i64 r1) fun h6 =>
  Wr h6 (a8.add 1) (.slice r2 rL1 rC1) fun h7 =>
  NN t5 fun a9 =>
  Wr h7 a9 (.int .i64 r3) fun h8 =>
  Wr h8 (a9.add 1) (.int .i64 r4) fun h9 =>
  Wr h9 (a9.add 2) (.slice r5 rL2 rC2) fun h10 =>
  NN t4 fun a10 =>
  ∃ r6 : Int, ∃ (r7 : Option Addr) (rL3 rC3 : Nat), cell h10 a10 = some (.int .i64 r6) ∧
  cell h10 (a10.add 1) = some (.slice r7 rL3 rC3) ∧
  NN t5 fun a11 =>
  ∃ r8 : Int, ∃ r9 : Int, ∃ (r10 : Option Addr) (rL4 rC4 : Nat), cell h10 a11 = some (.int .i64 r8) ∧
  cell h10 (a11.add 1) = some (.int .i64 r9) ∧
  cell h10 (a11.add 2) = some (.slice r10 rL4 rC4) ∧
  K (.tuple #[.agg #[.int .i64 r6, .slice r7 rL3 rC3], .agg #[.int .i64 r8, .int .i64 r9, .slice r10 rL4 rC4]]) h10)
  (cond (decide (n1 = 1))
  (NN o fun a12 =>
  ∃ (a13 : Option Addr) (L5 C5 : Nat), cell h (a12.add 1) = some (.slice a13 L5 C5) ∧
  InR ((lL : Int) + (L5 : Int)) ∧
  cond (decide ((500 : Int) < ((lL : Int) + (L5 : Int))))
  (NN s fun a14 =>
  ∃ n3 : Int, ∃ (a15 : Option Addr) (L6 C6 : Nat), cell h a14 = some (.int .i64 n3) ∧
  cell h (a14.add 1) = some (.slice a15 L6 C6) ∧
  HCalls Try.prog 98 #[.agg #[.int .i64 n3, .slice a15 L6 C6], .int .i64 4] h fun v2 h11 => ∃ r11 : Int, ∃ (r12 : Option Addr) (rL5 rC5 : Nat), ∃ r13 : Int, ∃ r14 : Int, ∃ (r15 : Option Addr) (rL6 rC6 : Nat), v2 = .tuple #[.agg #[.int .i64 r11, .slice r12 rL5 rC5], .agg #[.int .i64 r13, .int .i64 r14, .slice r15 rL6 rC6]] ∧
  NN t4 fun a16 =>
  Wr h11 a16 (.int .i64 r11) fun h12 =>
  Wr h12 (a16.add 1) (.slice r12 rL5 rC5) fun h13 =>
  NN t5 fun a17 =>
  Wr h13 a17 (.int .i64 r13) fun h14 =>
  Wr h14 (a17.add 1) (.int .i64 r14) fun h15 =>
  Wr h15 (a17.add 2) (.slice r15 rL6 rC6) fun h16 =>
  NN t4 fun a18 =>
  ∃ r16 : Int, ∃ (r17 : Option Addr) (rL7 rC7 : Nat), cell h16 a18 = some (.int .i64 r16) ∧
  cell h16 (a18.add 1) = some (.slice r17 rL7 rC7) ∧
  NN t5 fun a19 =>
  ∃ r18 : Int, ∃ r19 : Int, ∃ (r20 : Option Addr) (rL8 rC8 : Nat), cell h16 a19 = some (.int .i64 r18) ∧
  cell h16 (a19.add 1) = some (.int .i64 r19) ∧
  cell h16 (a19.add 2) = some (.slice r20 rL8 rC8) ∧
  K (.tuple #[.agg #[.int .i64 r16, .slice r17 rL7 rC7], .agg #[.int .i64 r18, .int .i64 r19, .slice r20 rL8 rC8]]) h16)
  (NN o fun a20 =>
  ∃ (a21 : Option Addr) (L7 C7 : Nat), cell h (a20.add 1) = some (.slice a21 L7 C7) ∧
  HCalls Try.prog 96 #[.slice l lL lC] h fun v3 h17 => ∃ (r21 : Option Addr) (rL9 rC9 : Nat), v3 = .slice r21 rL9 rC9 ∧
  (∃ (a22 : Option Addr) (L8 C8 : Nat), cell h17 (a20.add 1) = some (.slice a22 L8 C8) ∧
  (.slice a22 L8 C8 : Value) = .slice a21 L7 C7) ∧
  appendV Try.prog 38 38 (.slice r21 rL9 rC9) (.slice a21 L7 C7) h17 (slK fun a23 l1 c1 h18 =>
  New h18 (.cells #[.slice a23 l1 c1] 38) fun b5 h19 =>
  NN s fun a24 =>
  Wr h19 (a24.add 1) (.slice (some ⟨b5, 0, none⟩) 1 1) fun h20 =>
  NN s fun a25 =>
  ∃ n4 : Int, ∃ (a26 : Option Addr) (L9 C9 : Nat), cell h20 a25 = some (.int .i64 n4) ∧
  cell h20 (a25.add 1) = some (.slice a26 L9 C9) ∧
  HCalls Try.prog 97 #[.agg #[.int .i64 n4, .slice a26 L9 C9], .int .i64 0] h20 fun v4 h21 => ∃ r22 : Int, ∃ (r23 : Option Addr) (rL10 rC10 : Nat), ∃ r24 : Int, ∃ r25 : Int, ∃ (r26 : Option Addr) (rL11 rC11 : Nat), v4 = .tuple #[.agg #[.int .i64 r22, .slice r23 rL10 rC10], .agg #[.int .i64 r24, .int .i64 r25, .slice r26 rL11 rC11]] ∧
  NN t4 fun a27 =>
  Wr h21 a27 (.int .i64 r22) fun h22 =>
  Wr h22 (a27.add 1) (.slice r23 rL10 rC10) fun h23 =>
  NN t5 fun a28 =>
  Wr h23 a28 (.int .i64 r24) fun h24 =>
  Wr h24 (a28.add 1) (.int .i64 r25) fun h25 =>
  Wr h25 (a28.add 2) (.slice r26 rL11 rC11) fun h26 =>
  NN t4 fun a29 =>
  ∃ r27 : Int, ∃ (r28 : Option Addr) (rL12 rC12 : Nat), cell h26 a29 = some (.int .i64 r27) ∧
  cell h26 (a29.add 1) = some (.slice r28 rL12 rC12) ∧
  NN t5 fun a30 =>
  ∃ r29 : Int, ∃ r30 : Int, ∃ (r31 : Option Addr) (rL13 rC13 : Nat), cell h26 a30 = some (.int .i64 r29) ∧
  cell h26 (a30.add 1) = some (.int .i64 r30) ∧
  cell h26 (a30.add 2) = some (.slice r31 rL13 rC13) ∧
  K (.tuple #[.agg #[.int .i64 r27, .slice r28 rL12 rC12], .agg #[.int .i64 r29, .int .i64 r30, .slice r31 rL13 rC13]]) h26)))
  (r03_text_b2 s o t4 t5 l lL lC h  K))) := by kernel_rfl
theorem r03_text_b2_eq (s : Option Addr) (o : Option Addr) (t4 : Option Addr) (t5 : Option Addr) (l : Option Addr) (lL : Nat) (lC : Nat) (h : Hp)  (K : Value → Hp → Prop) : r03_text_b2 s o t4 t5 l lL lC h  K = (
  LoopVC ((0, (-1), 0, ()) : Int × Int × Int × Unit) h (fun (nx0 : Int × Int × Int × Unit → Hp → Prop) (s1 : Int × Int × Int × Unit) h27 => r03_text_b3 s1.1 s1.2.1 s1.2.2.1 s o t4 t5 l lL lC h27 nx0 K)) := by kernel_rfl
theorem r03_text_b3_eq (count : Int) (first : Int) (i : Int) (s : Option Addr) (o : Option Addr) (t4 : Option Addr) (t5 : Option Addr) (l : Option Addr) (lL : Nat) (lC : Nat) (h : Hp) (nx0 : Int × Int × Int × Unit → Hp → Prop) (K : Value → Hp → Prop) : r03_text_b3 count first i s o t4 t5 l lL lC h nx0 K = (
  cond (decide (i < (lL : Int)))
  (NN o fun a31 =>
  ∃ (a32 : Option Addr) (L10 C10 : Nat), cell h (a31.add 1) = some (.slice a32 L10 C10) ∧
  HCalls Try.prog 105 #[.slice l lL lC, .int .i64 i, .slice a32 L10 C10] h fun v5 h28 => ∃ r32 : Bool, v5 = .bool r32 ∧
  cond r32
  (InR (count + 1) ∧
  cond (decide (first < 0))
  (r03_text_b4 s o t4 t5 l lL lC (count + 1) i i h28 nx0 K)
  (r03_text_b4 s o t4 t5 l lL lC (count + 1) first i h28 nx0 K))
  (r03_text_b4 s o t4 t5 l lL lC count first i h28 nx0 K))
  (r03_text_b5 s o t4 t5 count first h  K)) := by kernel_rfl
theorem r03_text_b4_eq (s : Option Addr) (o : Option Addr) (t4 : Option Addr) (t5 : Option Addr) (l : Option Addr) (lL : Nat) (lC : Nat) (count : Int) (first : Int) (i : Int) (h : Hp) (nx0 : Int × Int × Int × Unit → Hp → Prop) (K : Value → Hp → Prop) : r03_text_b4 s o t4 t5 l lL lC count first i h nx0 K = (
  InR (i + 1) ∧
  nx0 (count, first, i + 1, ()) h) := by kernel_rfl
theorem r03_text_b5_eq (s : Option Addr) (o : Option Addr) (t4 : Option Addr) (t5 : Option Addr) (count : Int) (first : Int) (h : Hp)  (K : Value → Hp → Prop) : r03_text_b5 s o t4 t5 count first h  K = (
  NN o fun a33 =>
  ∃ n5 : Int, cell h a33 = some (.int .i64 n5) ∧
  cond (decide (n5 = 2))
  (NN s fun a34 =>
  ∃ n6 : Int, ∃ (a35 : Option Addr) (L11 C11 : Nat), cell h a34 = some (.int .i64 n6) ∧
  cell h (a34.add 1) = some (.slice a35 L11 C11) ∧
  HCalls Try.prog 97 #[.agg #[.int .i64 n6, .slice a35 L11 C11], .int .i64 count] h fun v6 h29 => ∃ r33 : Int, ∃ (r34 : Option Addr) (rL14 rC14 : Nat), ∃ r35 : Int, ∃ r36 : Int, ∃ (r37 : Option Addr) (rL15 rC15 : Nat), v6 = .tuple #[.agg #[.int .i64 r33, .slice r34 rL14 rC14], .agg #[.int .i64 r35, .int .i64 r36, .slice r37 rL15 rC15]] ∧
  NN t4 fun a36 =>
  Wr h29 a36 (.int .i64 r33) fun h30 =>
  Wr h30 (a36.add 1) (.slice r34 rL14 rC14) fun h31 =>
  NN t5 fun a37 =>
  Wr h31 a37 (.int .i64 r35) fun h32 =>
  Wr h32 (a37.add 1) (.int .i64 r36) fun h33 =>
  Wr h33 (a37.add 2) (.slice r37 rL15 rC15) fun h34 =>
  NN t4 fun a38 =>
  ∃ r38 : Int, ∃ (r39 : Option Addr) (rL16 rC16 : Nat), cell h34 a38 = some (.int .i64 r38) ∧
  cell h34 (a38.add 1) = some (.slice r39 rL16 rC16) ∧
  NN t5 fun a39 =>
  ∃ r40 : Int, ∃ r41 : Int, ∃ (r42 : Option Addr) (rL17 rC17 : Nat), cell h34 a39 = some (.int .i64 r40) ∧
  cell h34 (a39.add 1) = some (.int .i64 r41) ∧
  cell h34 (a39.add 2) = some (.slice r42 rL17 rC17) ∧
  K (.tuple #[.agg #[.int .i64 r38, .slice r39 rL16 rC16], .agg #[.int .i64 r40, .int .i64 r41, .slice r42 rL17 rC17]]) h34)
  (cond (decide (first < 0))
  (NN s fun a40 =>
  ∃ n7 : Int, ∃ (a41 : Option Addr) (L12 C12 : Nat), cell h a40 = some (.int .i64 n7) ∧
  cell h (a40.add 1) = some (.slice a41 L12 C12) ∧
  HCalls Try.prog 98 #[.agg #[.int .i64 n7, .slice a41 L12 C12], .int .i64 12] h fun v7 h35 => ∃ r43 : Int, ∃ (r44 : Option Addr) (rL18 rC18 : Nat), ∃ r45 : Int, ∃ r46 : Int, ∃ (r47 : Option Addr) (rL19 rC19 : Nat), v7 = .tuple #[.agg #[.int .i64 r43, .slice r44 rL18 rC18], .agg #[.int .i64 r45, .int .i64 r46, .slice r47 rL19 rC19]] ∧
  NN t4 fun a42 =>
  Wr h35 a42 (.int .i64 r43) fun h36 =>
  Wr h36 (a42.add 1) (.slice r44 rL18 rC18) fun h37 =>
  NN t5 fun a43 =>
  Wr h37 a43 (.int .i64 r45) fun h38 =>
  Wr h38 (a43.add 1) (.int .i64 r46) fun h39 =>
  Wr h39 (a43.add 2) (.slice r47 rL19 rC19) fun h40 =>
  NN t4 fun a44 =>
  ∃ r48 : Int, ∃ (r49 : Option Addr) (rL20 rC20 : Nat), cell h40 a44 = some (.int .i64 r48) ∧
  cell h40 (a44.add 1) = some (.slice r49 rL20 rC20) ∧
  NN t5 fun a45 =>
  ∃ r50 : Int, ∃ r51 : Int, ∃ (r52 : Option Addr) (rL21 rC21 : Nat), cell h40 a45 = some (.int .i64 r50) ∧
  cell h40 (a45.add 1) = some (.int .i64 r51) ∧
  cell h40 (a45.add 2) = some (.slice r52 rL21 rC21) ∧
  K (.tuple #[.agg #[.int .i64 r48, .slice r49 rL20 rC20], .agg #[.int .i64 r50, .int .i64 r51, .slice r52 rL21 rC21]]) h40)
  (NN s fun a46 =>
  ∃ n8 : Int, ∃ (a47 : Option Addr) (L13 C13 : Nat), cell h a46 = some (.int .i64 n8) ∧
  cell h (a46.add 1) = some (.slice a47 L13 C13) ∧
  HCalls Try.prog 97 #[.agg #[.int .i64 n8, .slice a47 L13 C13], .int .i64 first] h fun v8 h41 => ∃ r53 : Int, ∃ (r54 : Option Addr) (rL22 rC22 : Nat), ∃ r55 : Int, ∃ r56 : Int, ∃ (r57 : Option Addr) (rL23 rC23 : Nat), v8 = .tuple #[.agg #[.int .i64 r53, .slice r54 rL22 rC22], .agg #[.int .i64 r55, .int .i64 r56, .slice r57 rL23 rC23]] ∧
  NN t4 fun a48 =>
  Wr h41 a48 (.int .i64 r53) fun h42 =>
  Wr h42 (a48.add 1) (.slice r54 rL22 rC22) fun h43 =>
  NN t5 fun a49 =>
  Wr h43 a49 (.int .i64 r55) fun h44 =>
  Wr h44 (a49.add 1) (.int .i64 r56) fun h45 =>
  Wr h45 (a49.add 2) (.slice r57 rL23 rC23) fun h46 =>
  NN t4 fun a50 =>
  ∃ r58 : Int, ∃ (r59 : Option Addr) (rL24 rC24 : Nat), cell h46 a50 = some (.int .i64 r58) ∧
  cell h46 (a50.add 1) = some (.slice r59 rL24 rC24) ∧
  NN t5 fun a51 =>
  ∃ r60 : Int, ∃ r61 : Int, ∃ (r62 : Option Addr) (rL25 rC25 : Nat), cell h46 a51 = some (.int .i64 r60) ∧
  cell h46 (a51.add 1) = some (.int .i64 r61) ∧
  cell h46 (a51.add 2) = some (.slice r62 rL25 rC25) ∧
  K (.tuple #[.agg #[.int .i64 r58, .slice r59 rL24 rC24], .agg #[.int .i64 r60, .int .i64 r61, .slice r62 rL25 rC25]]) h46))) := by kernel_rfl
theorem r03_text_call {s_0 : Int} {s_1 : Option Addr} {s_1L : Nat} {s_1C : Nat} {o_0 : Int} {o_1 : Option Addr} {o_1L : Nat} {o_1C : Nat} {h : Hp} {K : Value → Hp → Prop} (hk : r03_text_b0 s_0 s_1 s_1L s_1C o_0 o_1 o_1L o_1C h K) : HCalls Try.prog 85 #[.agg #[.int .i64 s_0, .slice s_1 s_1L s_1C], .agg #[.int .i64 o_0, .slice o_1 o_1L o_1C]] h K :=
  calls_of_snd r03_text_an Try.func85 (c := bodyOf Try.f85) rfl Try.ntmps85 (Nat.le_of_ble_eq_true rfl) (snd_5 F_ok F_mixed) hk

/-! ### slices_IndexFunc_Sint_int -/
def slices_IndexFunc_Sint_int_an : Ann := .node none (.leaf) (.node (some []) (.node none (.leaf) (.loop [0, 1, 7] [(8, .int .i64)] (.node none (.leaf) (.node none (.leaf) (.node (some [0, 1, 7, 8]) (.leaf) (.leaf)))))) (.leaf))
def slices_IndexFunc_Sint_int_K0  (K : Value → Hp → Prop) : Exit → Env → Hp → Prop := retK Try.prog Try.f86.results.toList K
def slices_IndexFunc_Sint_int_K1  (K : Value → Hp → Prop) : Exit → Env → Hp → Prop := thenE (fun env h => sx_2 Try.prog F 19 (cp [1, 1] (bodyOf Try.f86)) (ap [1, 1] slices_IndexFunc_Sint_int_an) (rs [] env) h (slices_IndexFunc_Sint_int_K0  K)) (slices_IndexFunc_Sint_int_K0  K)
def slices_IndexFunc_Sint_int_K2  (K : Value → Hp → Prop) : Exit → Env → Hp → Prop := blockE 0 (slices_IndexFunc_Sint_int_K1  K)
def slices_IndexFunc_Sint_int_K3 (nx0 : Int × Unit → Hp → Prop) (K : Value → Hp → Prop) : Exit → Env → Hp → Prop := thenE (fun env h => getV [(8, .int .i64)] env fun s => nx0 s h) (slices_IndexFunc_Sint_int_K2  K)
def slices_IndexFunc_Sint_int_b0 (s : Option Addr) (sL : Nat) (sC : Nat) (f : Value) (h : Hp)  (K : Value → Hp → Prop) : Prop :=
  sx_3 Try.prog F 19 (cp [] (bodyOf Try.f86)) (ap [] slices_IndexFunc_Sint_int_an) [(0, .slice s sL sC), (1, f)] h (slices_IndexFunc_Sint_int_K0  K)
def slices_IndexFunc_Sint_int_b1 (t8 : Int) (s : Option Addr) (sL : Nat) (sC : Nat) (f : Value) (t7 : Int) (h : Hp) (nx0 : Int × Unit → Hp → Prop) (K : Value → Hp → Prop) : Prop :=
  sx_2 Try.prog F 19 (cp [1, 0, 1, 2, 2] (bodyOf Try.f86)) (ap [1, 0, 1, 2] slices_IndexFunc_Sint_int_an) [(8, .int .i64 t8), (0, .slice s sL sC), (1, f), (7, .int .i64 t7)] h (slices_IndexFunc_Sint_int_K3 nx0 K)
def slices_IndexFunc_Sint_int_b2 (s : Option Addr) (sL : Nat) (sC : Nat) (f : Value) (t7 : Int) (t8 : Int) (h : Hp) (nx0 : Int × Unit → Hp → Prop) (K : Value → Hp → Prop) : Prop :=
  sx_1 Try.prog F 19 (cp [1, 0, 1, 2, 2, 1, 1, 1] (bodyOf Try.f86)) (ap [1, 0, 1, 2, 1, 1, 1] slices_IndexFunc_Sint_int_an) [(0, .slice s sL sC), (1, f), (7, .int .i64 t7), (8, .int .i64 t8)] h (slices_IndexFunc_Sint_int_K3 nx0 K)
def slices_IndexFunc_Sint_int_b3  (h : Hp)  (K : Value → Hp → Prop) : Prop :=
  sx_2 Try.prog F 19 (cp [1, 1] (bodyOf Try.f86)) (ap [1, 1] slices_IndexFunc_Sint_int_an) [] h (slices_IndexFunc_Sint_int_K0  K)
theorem slices_IndexFunc_Sint_int_b0_eq (s : Option Addr) (sL : Nat) (sC : Nat) (f : Value) (h : Hp)  (K : Value → Hp → Prop) : slices_IndexFunc_Sint_int_b0 s sL sC f h  K = (
  LoopVC ((0, ()) : Int × Unit) h (fun (nx0 : Int × Unit → Hp → Prop) (s1 : Int × Unit) h1 => slices_IndexFunc_Sint_int_b1 s1.1 s sL sC f (sL : Int) h1 nx0 K)) := by kernel_rfl
theorem slices_IndexFunc_Sint_int_b1_eq (t8 : Int) (s : Option Addr) (sL : Nat) (sC : Nat) (f : Value) (t7 : Int) (h : Hp) (nx0 : Int × Unit → Hp → Prop) (K : Value → Hp → Prop) : slices_IndexFunc_Sint_int_b1 t8 s sL sC f t7 h nx0 K = (
  cond (decide (t8 < t7))
  ((0 ≤ t8 ∧ t8 < (sL : Int)) ∧
  NN s fun a1 =>
  ∃ n1 : Int, cell h (a1.add (Int.toNat t8 * 1)) = some (.int .i64 n1) ∧
  funV f fun fg1 fa1 fc1 => callX Try.prog F fg1 (fa1 ++ (([.int .i64 n1] : List Value) ++ fc1)).toArray h fun v1 h2 => ∃ r1 : Bool, v1 = .bool r1 ∧
  cond r1
  (K (.int .i64 t8) h2)
  (slices_IndexFunc_Sint_int_b2 s sL sC f t7 t8 h2 nx0 K))
  (slices_IndexFunc_Sint_int_b3  h  K)) := by kernel_rfl
theorem slices_IndexFunc_Sint_int_b2_eq (s : Option Addr) (sL : Nat) (sC : Nat) (f : Value) (t7 : Int) (t8 : Int) (h : Hp) (nx0 : Int × Unit → Hp → Prop) (K : Value → Hp → Prop) : slices_IndexFunc_Sint_int_b2 s sL sC f t7 t8 h nx0 K = (
  InR (t8 + 1) ∧
  nx0 (t8 + 1, ()) h) := by kernel_rfl
theorem slices_IndexFunc_Sint_int_b3_eq  (h : Hp)  (K : Value → Hp → Prop) : slices_IndexFunc_Sint_int_b3  h  K = (
  K (.int .i64 (-1)) h) := by kernel_rfl
theorem slices_IndexFunc_Sint_int_call {s : Option Addr} {sL : Nat} {sC : Nat} {f : Value} {h : Hp} {K : Value → Hp → Prop} (hk : slices_IndexFunc_Sint_int_b0 s sL sC f h K) : HCalls Try.prog 86 #[.slice s sL sC, f] h K :=
  calls_of_snd slices_IndexFunc_Sint_int_an Try.func86 (c := bodyOf Try.f86) rfl Try.ntmps86 (Nat.le_of_ble_eq_true rfl) (snd_3 F_ok F_mixed) hk


/-! ### slices_rotateRight_int -/
def slices_rotateRight_int_an : Ann := .leaf
def slices_rotateRight_int_K0  (K : Value → Hp → Prop) : Exit → Env → Hp → Prop := retK Try.prog Try.f88.results.toList K
def slices_rotateRight_int_b0 (s : Option Addr) (sL : Nat) (sC : Nat) (r : Int) (h : Hp)  (K : Value → Hp → Prop) : Prop :=
  sx_1 Try.prog F 10 (cp [] (bodyOf Try.f88)) (ap [] slices_rotateRight_int_an) [(0, .slice s sL sC), (1, .int .i64 r)] h (slices_rotateRight_int_K0  K)
theorem slices_rotateRight_int_b0_eq (s : Option Addr) (sL : Nat) (sC : Nat) (r : Int) (h : Hp)  (K : Value → Hp → Prop) : slices_rotateRight_int_b0 s sL sC r h  K = (
  InR ((sL : Int) - r) ∧
  HCalls Try.prog 106 #[.slice s sL sC, .int .i64 ((sL : Int) - r)] h fun v1 h1 => v1 = .tuple #[] ∧
  K (.tuple #[]) h1) := by kernel_rfl
theorem slices_rotateRight_int_call {s : Option Addr} {sL : Nat} {sC : Nat} {r : Int} {h : Hp} {K : Value → Hp → Prop} (hk : slices_rotateRight_int_b0 s sL sC r h K) : HCalls Try.prog 88 #[.slice s sL sC, .int .i64 r] h K :=
  calls_of_snd slices_rotateRight_int_an Try.func88 (c := bodyOf Try.f88) rfl Try.ntmps88 (Nat.le_of_ble_eq_true rfl) (snd_1 F_ok F_mixed) hk


/-! ### slices_rotateRight_btree_node -/
def slices_rotateRight_btree_node_an : Ann := .leaf
def slices_rotateRight_btree_node_K0  (K : Value → Hp → Prop) : Exit → Env → Hp → Prop := retK Try.prog Try.f90.results.toList K
def slices_rotateRight_btree_node_b0 (s : Option Addr) (sL : Nat) (sC : Nat) (r : Int) (h : Hp)  (K : Value → Hp → Prop) : Prop :=
  sx_1 Try.prog F 10 (cp [] (bodyOf Try.f90)) (ap [] slices_rotateRight_btree_node_an) [(0, .slice s sL sC), (1, .int .i64 r)] h (slices_rotateRight_btree_node_K0  K)
theorem slices_rotateRight_btree_node_b0_eq (s : Option Addr) (sL : Nat) (sC : Nat) (r : Int) (h : Hp)  (K : Value → Hp → Prop) : slices_rotateRight_btree_node_b0 s sL sC r h  K = (
  InR ((sL : Int) - r) ∧
  HCalls Try.prog 107 #[.slice s sL sC, .int .i64 ((sL : Int) - r)] h fun v1 h1 => v1 = .tuple #[] ∧
  K (.tuple #[]) h1) := by kernel_rfl
theorem slices_rotateRight_btree_node_call {s : Option Addr} {sL : Nat} {sC : Nat} {r : Int} {h : Hp} {K : Value → Hp → Prop} (hk : slices_rotateRight_btree_node_b0 s sL sC r h K) : HCalls Try.prog 90 #[.slice s sL sC, .int .i64 r] h K :=
  calls_of_snd slices_rotateRight_btree_node_an Try.func90 (c := bodyOf Try.f90) rfl Try.ntmps90 (Nat.le_of_ble_eq_true rfl) (snd_1 F_ok F_mixed) hk

/-! ### slices_Clone_btree_node_btree_node -/
def slices_Clone_btree_node_btree_node_an : Ann := .leaf
def slices_Clone_btree_node_btree_node_K0  (K : Value → Hp → Prop) : Exit → Env → Hp → Prop := retK Try.prog Try.f91.results.toList K
def slices_Clone_btree_node_btree_node_b0 (s : Option Addr) (sL : Nat) (sC : Nat) (h : Hp)  (K : Value → Hp → Prop) : Prop :=
  sx_1 Try.prog F 8 (cp [] (bodyOf Try.f91)) (ap [] slices_Clone_btree_node_btree_node_an) [(0, .slice s sL sC)] h (slices_Clone_btree_node_btree_node_K0  K)
theorem slices_Clone_btree_node_btree_node_b0_eq (s : Option Addr) (sL : Nat) (sC : Nat) (h : Hp)  (K : Value → Hp → Prop) : slices_Clone_btree_node_btree_node_b0 s sL sC h  K = (
  cond (Option.isNone s)
  (K (.slice none 0 0) h)
  (New h (.cells #[] 73) fun b1 h1 =>
  appendV Try.prog 86 86 (.slice (some ⟨b1, 0, none⟩) 0 0) (.slice s sL sC) h1 (slK fun a1 l1 c1 h2 =>
  K (.slice a1 l1 c1) h2))) := by kernel_rfl
theorem slices_Clone_btree_node_btree_node_call {s : Option Addr} {sL : Nat} {sC : Nat} {h : Hp} {K : Value → Hp → Prop} (hk : slices_Clone_btree_node_btree_node_b0 s sL sC h K) : HCalls Try.prog 91 #[.slice s sL sC] h K :=
  calls_of_snd slices_Clone_btree_node_btree_node_an Try.func91 (c := bodyOf Try.f91) rfl Try.ntmps91 (Nat.le_of_ble_eq_true rfl) (snd_1 F_ok F_mixed) hk

/-! ### r43_Least -/
def r43_Least_an : Ann := .leaf
def r43_Least_K0  (K : Value → Hp → Prop) : Exit → Env → Hp → Prop := retK Try.prog Try.f92.results.toList K
def r43_Least_b0 (order : Int) (h : Hp)  (K : Value → Hp → Prop) : Prop :=
  sx_1 Try.prog F 7 (cp [] (bodyOf Try.f92)) (ap [] r43_Least_an) [(0, .int .i64 order)] h (r43_Least_K0  K)
theorem r43_Least_b0_eq (order : Int) (h : Hp)  (K : Value → Hp → Prop) : r43_Least_b0 order h  K = (
  InR (order + 1) ∧
  ∃ q1 : Int, Sx.Quo .i64 (order + 1) 2 q1 ∧
  InR (q1 - 1) ∧
  K (.int .i64 (q1 - 1)) h) := by kernel_rfl
theorem r43_Least_call {order : Int} {h : Hp} {K : Value → Hp → Prop} (hk : r43_Least_b0 order h K) : HCalls Try.prog 92 #[.int .i64 order] h K :=
  calls_of_snd r43_Least_an Try.func92 (c := bodyOf Try.f92) rfl Try.ntmps92 (Nat.le_of_ble_eq_true rfl) (snd_1 F_ok F_mixed) hk

/-! ### cmp_Less_int -/
def cmp_Less_int_an : Ann := .leaf
def cmp_Less_int_K0  (K : Value → Hp → Prop) : Exit → Env → Hp → Prop := retK Try.prog Try.f93.results.toList K
def cmp_Less_int_b0 (x : Int) (y : Int) (h : Hp)  (K : Value → Hp → Prop) : Prop :=
  sx_1 Try.prog F 17 (cp [] (bodyOf Try.f93)) (ap [] cmp_Less_int_an) [(0, .int .i64 x), (1, .int .i64 y)] h (cmp_Less_int_K0  K)
theorem cmp_Less_int_b0_eq (x : Int) (y : Int) (h : Hp)  (K : Value → Hp → Prop) : cmp_Less_int_b0 x y h  K = (
  HCalls Try.prog 108 #[.int .i64 x] h fun v1 h1 => ∃ r1 : Bool, v1 = .bool r1 ∧
  cond r1
  (HCalls Try.prog 108 #[.int .i64 y] h1 fun v2 h2 => ∃ r2 : Bool, v2 = .bool r2 ∧
  cond (!r2)
  (K (.bool true) h2)
  (K (.bool (decide (x < y))) h2))
  (K (.bool (decide (x < y))) h1)) := by kernel_rfl
theorem cmp_Less_int_call {x : Int} {y : Int} {h : Hp} {K : Value → Hp → Prop} (hk : cmp_Less_int_b0 x y h K) : HCalls Try.prog 93 #[.int .i64 x, .int .i64 y] h K :=
  calls_of_snd cmp_Less_int_an Try.func93 (c := bodyOf Try.f93) rfl Try.ntmps93 (Nat.le_of_ble_eq_true rfl) (snd_1 F_ok F_mixed) hk

/-! ### slices_isNaN_int -/
def slices_isNaN_int_an : Ann := .leaf
def slices_isNaN_int_K0  (K : Value → Hp → Prop) : Exit → Env → Hp → Prop := retK Try.prog Try.f94.results.toList K
def slices_isNaN_int_b0 (x : Int) (h : Hp)  (K : Value → Hp → Prop) : Prop :=
  sx_1 Try.prog F 6 (cp [] (bodyOf Try.f94)) (ap [] slices_isNaN_int_an) [(0, .int .i64 x)] h (slices_isNaN_int_K0  K)
theorem slices_isNaN_int_b0_eq (x : Int) (h : Hp)  (K : Value → Hp → Prop) : slices_isNaN_int_b0 x h  K = (
  K (.bool (!decide (x = x))) h) := by kernel_rfl
theorem slices_isNaN_int_call {x : Int} {h : Hp} {K : Value → Hp → Prop} (hk : slices_isNaN_int_b0 x h K) : HCalls Try.prog 94 #[.int .i64 x] h K :=
  calls_of_snd slices_isNaN_int_an Try.func94 (c := bodyOf Try.f94) rfl Try.ntmps94 (Nat.le_of_ble_eq_true rfl) (snd_1 F_ok F_mixed) hk

/-! ### slices_Delete_btree_node_btree_node -/
def slices_Delete_btree_node_btree_node_an : Ann := .node none (.leaf) (.node none (.leaf) (.node none (.leaf) (.node none (.leaf) (.node none (.tail 6) (.leaf)))))
def slices_Delete_btree_node_btree_node_K0  (K : Value → Hp → Prop) : Exit → Env → Hp → Prop := retK Try.prog Try.f95.results.toList K
def slices_Delete_btree_node_btree_node_b0 (s : Option Addr) (sL : Nat) (sC : Nat) (i : Int) (j : Int) (h : Hp)  (K : Value → Hp → Prop) : Prop :=
  sx_1 Try.prog F 33 (cp [] (bodyOf Try.f95)) (ap [] slices_Delete_btree_node_btree_node_an) [(0, .slice s sL sC), (1, .int .i64 i), (2, .int .i64 j)] h (slices_Delete_btree_node_btree_node_K0  K)
theorem slices_Delete_btree_node_btree_node_b0_eq (s : Option Addr) (sL : Nat) (sC : Nat) (i : Int) (j : Int) (h : Hp)  (K : Value → Hp → Prop) : slices_Delete_btree_node_btree_node_b0 s sL sC i j h  K = (
  ∃ (a1 : Option Addr) (l1 c1 : Nat), slC Try.prog 86 (.slice s sL sC) (some (.int .i64 i)) (some (.int .i64 j)) (.int .i64 (sL : Int)) h a1 l1 c1 ∧
  cond (decide (i = j))
  (K (.slice s sL sC) h)
  ((0 ≤ (0 : Int) ∧ (0 : Int) ≤ i ∧ i ≤ (sC : Int)) ∧
  (0 ≤ j ∧ j ≤ (sL : Int) ∧ (sL : Int) ≤ (sC : Int)) ∧
  appendV Try.prog 86 86 (.slice (subAddr s sC (Int.toNat (0 : Int)) 1) (Int.toNat i - Int.toNat (0 : Int)) (sC - Int.toNat (0 : Int))) (.slice (subAddr s sC (Int.toNat j) 1) (Int.toNat (sL : Int) - Int.toNat j) (sC - Int.toNat j)) h (slK fun a2 l2 c2 h1 =>
  (0 ≤ (l2 : Int) ∧ (l2 : Int) ≤ (sL : Int) ∧ (sL : Int) ≤ (c2 : Int)) ∧
  clearV Try.prog 86 (.slice (subAddr a2 c2 (Int.toNat (l2 : Int)) 1) (Int.toNat (sL : Int) - Int.toNat (l2 : Int)) (c2 - Int.toNat (l2 : Int))) h1 fun h2 =>
  K (.slice a2 l2 c2) h2))) := by kernel_rfl
theorem slices_Delete_btree_node_btree_node_call {s : Option Addr} {sL : Nat} {sC : Nat} {i : Int} {j : Int} {h : Hp} {K : Value → Hp → Prop} (hk : slices_Delete_btree_node_btree_node_b0 s sL sC i j h K) : HCalls Try.prog 95 #[.slice s sL sC, .int .i64 i, .int .i64 j] h K :=
  calls_of_snd slices_Delete_btree_node_btree_node_an Try.func95 (c := bodyOf Try.f95) rfl Try.ntmps95 (Nat.le_of_ble_eq_true rfl) (snd_1 F_ok F_mixed) hk

/-! ### r03_row -/
def r03_row_an : Ann := .leaf
def r03_row_K0  (K : Value → Hp → Prop) : Exit → Env → Hp → Prop := retK Try.prog Try.f96.results.toList K
def r03_row_b0 (l : Option Addr) (lL : Nat) (lC : Nat) (h : Hp)  (K : Value → Hp → Prop) : Prop :=
  sx_1 Try.prog F 6 (cp [] (bodyOf Try.f96)) (ap [] r03_row_an) [(0, .slice l lL lC)] h (r03_row_K0  K)
theorem r03_row_b0_eq (l : Option Addr) (lL : Nat) (lC : Nat) (h : Hp)  (K : Value → Hp → Prop) : r03_row_b0 l lL lC h  K = (
  New h (.cells #[] 3) fun b1 h1 =>
  appendV Try.prog 38 38 (.slice (some ⟨b1, 0, none⟩) 0 0) (.slice l lL lC) h1 (slK fun a1 l1 c1 h2 =>
  K (.slice a1 l1 c1) h2)) := by kernel_rfl
theorem r03_row_call {l : Option Addr} {lL : Nat} {lC : Nat} {h : Hp} {K : Value → Hp → Prop} (hk : r03_row_b0 l lL lC h K) : HCalls Try.prog 96 #[.slice l lL lC] h K :=
  calls_of_snd r03_row_an Try.func96 (c := bodyOf Try.f96) rfl Try.ntmps96 (Nat.le_of_ble_eq_true rfl) (snd_1 F_ok F_mixed) hk

end Go.Proofs.Ytaemnjblcpknpaa
