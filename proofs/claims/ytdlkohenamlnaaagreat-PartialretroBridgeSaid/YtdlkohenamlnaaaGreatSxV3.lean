/- Plain statements of what each block of code of this seat asks; printed by a program, checked by Lean. -/
import Derived.Test.YtdlkohenamlnaaaGreatSxV0
set_option maxRecDepth 10000
namespace Go.Proofs.YtdlkohenamlnaaaGreat
open Go Go.Sx

/-! ### r03_ValidOp -/
def r03_ValidOp_an : Ann := .node none (.leaf) (.node (some [0, 3]) (.node none (.plan (.qu 0 (.qu 1 (.qu 2 (.qu 3 (.qu 4 (.qu 5 (.qu 6 (.qu 7 (.qu 8 (.qu 9 (.qu 10 (.qu 11 (.qu 12 (.qu 13 (.qu 14 (.wo 15 (.qu 16 (.qu 17 (.qu 18 (.qu 19 (.qu 20 (.qu 21 (.qu 22 (.qu 23 (.qu 24 .fin))))))))) .no))))))))))))))))) (.leaf)) (.node none (.leaf) (.node (some [0, 3]) (.leaf) (.node (some []) (.node none (.leaf) (.loop [0, 3] [(6, .int .i64)] (.node none (.leaf) (.node (some [0, 3, 6]) (.leaf) (.leaf))))) (.leaf)))))
def r03_ValidOp_K0  (K : Value → Hp → Prop) : Exit → Env → Hp → Prop := retK Tryz.prog Tryz.f37.results.toList K
def r03_ValidOp_K1  (K : Value → Hp → Prop) : Exit → Env → Hp → Prop := thenE (fun env h => sx_2 Tryz.prog F 89 (cp [1, 1, 1, 1, 1] (bodyOf Tryz.f37)) (ap [1, 1, 1, 1, 1] r03_ValidOp_an) (rs [] env) h (r03_ValidOp_K0  K)) (r03_ValidOp_K0  K)
def r03_ValidOp_K2  (K : Value → Hp → Prop) : Exit → Env → Hp → Prop := blockE 0 (r03_ValidOp_K1  K)
def r03_ValidOp_K3 (nx0 : Int × Unit → Hp → Prop) (K : Value → Hp → Prop) : Exit → Env → Hp → Prop := thenE (fun env h => getV [(6, .int .i64)] env fun s => nx0 s h) (r03_ValidOp_K2  K)
def r03_ValidOp_b0 (kind : Int) (o_0 : Int) (o_1 : Option Addr) (o_1L : Nat) (o_1C : Nat) (h : Hp)  (K : Value → Hp → Prop) : Prop :=
  sx_5 Tryz.prog F 89 (cp [] (bodyOf Tryz.f37)) (ap [] r03_ValidOp_an) [(0, .int .i64 kind), (1, .agg #[.int .i64 o_0, .slice o_1 o_1L o_1C])] h (r03_ValidOp_K0  K)
def r03_ValidOp_b1 (kind : Int) (o : Option Addr) (h : Hp)  (K : Value → Hp → Prop) : Prop :=
  sx_4 Tryz.prog F 89 (cp [1, 1] (bodyOf Tryz.f37)) (ap [1, 1] r03_ValidOp_an) [(0, .int .i64 kind), (3, .pointer o)] h (r03_ValidOp_K0  K)
def r03_ValidOp_b2 (kind : Int) (o : Option Addr) (h : Hp)  (K : Value → Hp → Prop) : Prop :=
  sx_3 Tryz.prog F 89 (cp [1, 1, 1, 1] (bodyOf Tryz.f37)) (ap [1, 1, 1, 1] r03_ValidOp_an) [(0, .int .i64 kind), (3, .pointer o)] h (r03_ValidOp_K0  K)
def r03_ValidOp_b3 (i : Int) (kind : Int) (o : Option Addr) (h : Hp) (nx0 : Int × Unit → Hp → Prop) (K : Value → Hp → Prop) : Prop :=
  sx_2 Tryz.prog F 89 (cp [1, 1, 1, 1, 0, 1, 2, 2] (bodyOf Tryz.f37)) (ap [1, 1, 1, 1, 0, 1, 2] r03_ValidOp_an) [(6, .int .i64 i), (0, .int .i64 kind), (3, .pointer o)] h (r03_ValidOp_K3 nx0 K)
def r03_ValidOp_b4 (kind : Int) (o : Option Addr) (i : Int) (h : Hp) (nx0 : Int × Unit → Hp → Prop) (K : Value → Hp → Prop) : Prop :=
  sx_1 Tryz.prog F 89 (cp [1, 1, 1, 1, 0, 1, 2, 2, 1, 1] (bodyOf Tryz.f37)) (ap [1, 1, 1, 1, 0, 1, 2, 1, 1] r03_ValidOp_an) [(0, .int .i64 kind), (3, .pointer o), (6, .int .i64 i)] h (r03_ValidOp_K3 nx0 K)
def r03_ValidOp_b5  (h : Hp)  (K : Value → Hp → Prop) : Prop :=
  sx_2 Tryz.prog F 89 (cp [1, 1, 1, 1, 1] (bodyOf Tryz.f37)) (ap [1, 1, 1, 1, 1] r03_ValidOp_an) [] h (r03_ValidOp_K0  K)
theorem r03_ValidOp_b0_eq (kind : Int) (o_0 : Int) (o_1 : Option Addr) (o_1L : Nat) (o_1C : Nat) (h : Hp)  (K : Value → Hp → Prop) : r03_ValidOp_b0 kind o_0 o_1 o_1L o_1C h  K = (
  New h (.cells #[.int .i64 o_0, .slice o_1 o_1L o_1C] 25) fun b1 h1 =>
  cond (decide (kind < 1))
  (K (.bool false) h1)
  (cond (decide ((6 : Int) < kind))
  (K (.bool false) h1)
  (∃ n1 : Int, cell h1 ⟨b1, 0, none⟩ = some (.int .i64 n1) ∧
  cond (decide (n1 < 1))
  (K (.bool false) h1)
  (∃ n2 : Int, cell h1 ⟨b1, 0, none⟩ = some (.int .i64 n2) ∧
  HCalls Tryz.prog 73 #[.int .i64 kind] h1 fun v1 h2 => ∃ (r1 : Option Addr) (rL1 rC1 : Nat), v1 = .slice r1 rL1 rC1 ∧
  (∃ n3 : Int, cell h2 ⟨b1, 0, none⟩ = some (.int .i64 n3) ∧
  (.int .i64 n3 : Value) = .int .i64 n2) ∧
  cond (decide ((rL1 : Int) < n2))
  (K (.bool false) h2)
  (∃ (a1 : Option Addr) (L1 C1 : Nat), cell h2 ((⟨b1, 0, none⟩ : Addr).add 1) = some (.slice a1 L1 C1) ∧
  cond (decide ((64 : Int) < (L1 : Int)))
  (K (.bool false) h2)
  (r03_ValidOp_b1 kind (some ⟨b1, 0, none⟩) h2  K)))))) := by kernel_rfl
theorem r03_ValidOp_b1_eq (kind : Int) (o : Option Addr) (h : Hp)  (K : Value → Hp → Prop) : r03_ValidOp_b1 kind o h  K = (
  NN o fun a2 =>
  ∃ n4 : Int, cell h a2 = some (.int .i64 n4) ∧
  HCalls Tryz.prog 74 #[.int .i64 kind, .int .i64 n4] h fun v2 h3 => ∃ r2 : Int, v2 = .int .i64 r2 ∧
  cond (decide ((0 : Int) ≤ r2))
  (NN o fun a3 =>
  ∃ (a4 : Option Addr) (L2 C2 : Nat), cell h3 (a3.add 1) = some (.slice a4 L2 C2) ∧
  cond (!decide ((L2 : Int) = r2))
  (K (.bool false) h3)
  (cond (decide (r2 < 0))
  (NN o fun a5 =>
  ∃ (a6 : Option Addr) (L3 C3 : Nat), cell h3 (a5.add 1) = some (.slice a6 L3 C3) ∧
  cond (decide ((L3 : Int) = 0))
  (K (.bool false) h3)
  (r03_ValidOp_b2 kind o h3  K))
  (r03_ValidOp_b2 kind o h3  K)))
  (cond (decide (r2 < 0))
  (NN o fun a7 =>
  ∃ (a8 : Option Addr) (L4 C4 : Nat), cell h3 (a7.add 1) = some (.slice a8 L4 C4) ∧
  cond (decide ((L4 : Int) = 0))
  (K (.bool false) h3)
  (r03_ValidOp_b2 kind o h3  K))
  (r03_ValidOp_b2 kind o h3  K))) := by kernel_rfl
theorem r03_ValidOp_b2_eq (kind : Int) (o : Option Addr) (h : Hp)  (K : Value → Hp → Prop) : r03_ValidOp_b2 kind o h  K = (
  LoopVC ((0, ()) : Int × Unit) h (fun (nx0 : Int × Unit → Hp → Prop) (s1 : Int × Unit) h4 => r03_ValidOp_b3 s1.1 kind o h4 nx0 K)) := by kernel_rfl
theorem r03_ValidOp_b3_eq (i : Int) (kind : Int) (o : Option Addr) (h : Hp) (nx0 : Int × Unit → Hp → Prop) (K : Value → Hp → Prop) : r03_ValidOp_b3 i kind o h nx0 K = (
  NN o fun a9 =>
  ∃ (a10 : Option Addr) (L5 C5 : Nat), cell h (a9.add 1) = some (.slice a10 L5 C5) ∧
  cond (decide (i < (L5 : Int)))
  (NN o fun a11 =>
  ∃ (a12 : Option Addr) (L6 C6 : Nat), cell h (a11.add 1) = some (.slice a12 L6 C6) ∧
  (0 ≤ i ∧ i < (L6 : Int)) ∧
  NN a12 fun a13 =>
  ∃ n5 : Int, cell h (a13.add (Int.toNat i * 1)) = some (.int .i64 n5) ∧
  HCalls Tryz.prog 75 #[.int .i64 n5] h fun v3 h5 => ∃ r3 : Bool, v3 = .bool r3 ∧
  cond (!r3)
  (K (.bool false) h5)
  (cond (decide (kind = 6))
  (NN o fun a14 =>
  ∃ (a15 : Option Addr) (L7 C7 : Nat), cell h5 (a14.add 1) = some (.slice a15 L7 C7) ∧
  (0 ≤ i ∧ i < (L7 : Int)) ∧
  NN a15 fun a16 =>
  ∃ n6 : Int, cell h5 (a16.add (Int.toNat i * 1)) = some (.int .i64 n6) ∧
  cond (decide (n6 < 0))
  (K (.bool false) h5)
  (NN o fun a17 =>
  ∃ (a18 : Option Addr) (L8 C8 : Nat), cell h5 (a17.add 1) = some (.slice a18 L8 C8) ∧
  (0 ≤ i ∧ i < (L8 : Int)) ∧
  NN a18 fun a19 =>
  ∃ n7 : Int, cell h5 (a19.add (Int.toNat i * 1)) = some (.int .i64 n7) ∧
  cond (decide ((255 : Int) < n7))
  (K (.bool false) h5)
  (r03_ValidOp_b4 kind o i h5 nx0 K)))
  (r03_ValidOp_b4 kind o i h5 nx0 K)))
  (r03_ValidOp_b5  h  K)) := by kernel_rfl
theorem r03_ValidOp_b4_eq (kind : Int) (o : Option Addr) (i : Int) (h : Hp) (nx0 : Int × Unit → Hp → Prop) (K : Value → Hp → Prop) : r03_ValidOp_b4 kind o i h nx0 K = (
  InR (i + 1) ∧
  nx0 (i + 1, ()) h) := by kernel_rfl
theorem r03_ValidOp_b5_eq  (h : Hp)  (K : Value → Hp → Prop) : r03_ValidOp_b5  h  K = (
  K (.bool true) h) := by kernel_rfl
theorem r03_ValidOp_call {kind : Int} {o_0 : Int} {o_1 : Option Addr} {o_1L : Nat} {o_1C : Nat} {h : Hp} {K : Value → Hp → Prop} (hk : r03_ValidOp_b0 kind o_0 o_1 o_1L o_1C h K) : HCalls Tryz.prog 37 #[.int .i64 kind, .agg #[.int .i64 o_0, .slice o_1 o_1L o_1C]] h K :=
  calls_of_snd r03_ValidOp_an Tryz.func37 (c := bodyOf Tryz.f37) rfl Tryz.ntmps37 (Nat.le_of_ble_eq_true rfl) (snd_5 F_ok F_mixed) hk

/-! ### r03_Step -/
def r03_Step_an : Ann := .node none (.leaf) (.node none (.leaf) (.node (some [2, 3, 4, 5]) (.leaf) (.leaf)))
def r03_Step_K0  (K : Value → Hp → Prop) : Exit → Env → Hp → Prop := retK Tryz.prog Tryz.f39.results.toList K
def r03_Step_b0 (s_0 : Int) (s_1 : Option Addr) (s_1L : Nat) (s_1C : Nat) (o_0 : Int) (o_1 : Option Addr) (o_1L : Nat) (o_1C : Nat) (h : Hp)  (K : Value → Hp → Prop) : Prop :=
  sx_2 Tryz.prog F 50 (cp [] (bodyOf Tryz.f39)) (ap [] r03_Step_an) [(0, .agg #[.int .i64 s_0, .slice s_1 s_1L s_1C]), (1, .agg #[.int .i64 o_0, .slice o_1 o_1L o_1C])] h (r03_Step_K0  K)
def r03_Step_b1 (s : Option Addr) (o : Option Addr) (t4 : Option Addr) (t5 : Option Addr) (h : Hp)  (K : Value → Hp → Prop) : Prop :=
  sx_1 Tryz.prog F 50 (cp [1, 1, 1] (bodyOf Tryz.f39)) (ap [1, 1, 1] r03_Step_an) [(2, .pointer s), (3, .pointer o), (4, .pointer t4), (5, .pointer t5)] h (r03_Step_K0  K)
theorem r03_Step_b0_eq (s_0 : Int) (s_1 : Option Addr) (s_1L : Nat) (s_1C : Nat) (o_0 : Int) (o_1 : Option Addr) (o_1L : Nat) (o_1C : Nat) (h : Hp)  (K : Value → Hp → Prop) : r03_Step_b0 s_0 s_1 s_1L s_1C o_0 o_1 o_1L o_1C h  K = (
  New h (.cells #[.int .i64 s_0, .slice s_1 s_1L s_1C] 66) fun b1 h1 =>
  New h1 (.cells #[.int .i64 o_0, .slice o_1 o_1L o_1C] 25) fun b2 h2 =>
  New h2 (.cells #[.int .i64 0, .slice none 0 0] 66) fun b3 h3 =>
  New h3 (.cells #[.int .i64 0, .int .i64 0, .slice none 0 0] 61) fun b4 h4 =>
  ∃ n1 : Int, ∃ (a1 : Option Addr) (L1 C1 : Nat), cell h4 ⟨b1, 0, none⟩ = some (.int .i64 n1) ∧
  cell h4 ((⟨b1, 0, none⟩ : Addr).add 1) = some (.slice a1 L1 C1) ∧
  HCalls Tryz.prog 76 #[.agg #[.int .i64 n1, .slice a1 L1 C1]] h4 fun v1 h5 => ∃ r1 : Int, ∃ (r2 : Option Addr) (rL1 rC1 : Nat), v1 = .agg #[.int .i64 r1, .slice r2 rL1 rC1] ∧
  Wr h5 ⟨b1, 0, none⟩ (.int .i64 r1) fun h6 =>
  Wr h6 ((⟨b1, 0, none⟩ : Addr).add 1) (.slice r2 rL1 rC1) fun h7 =>
  ∃ n2 : Int, cell h7 ⟨b1, 0, none⟩ = some (.int .i64 n2) ∧
  cond (decide (n2 = 1))
  (∃ n3 : Int, ∃ (a2 : Option Addr) (L2 C2 : Nat), cell h7 ⟨b1, 0, none⟩ = some (.int .i64 n3) ∧
  cell h7 ((⟨b1, 0, none⟩ : Addr).add 1) = some (.slice a2 L2 C2) ∧
  ∃ n4 : Int, ∃ (a3 : Option Addr) (L3 C3 : Nat), cell h7 ⟨b2, 0, none⟩ = some (.int .i64 n4) ∧
  cell h7 ((⟨b2, 0, none⟩ : Addr).add 1) = some (.slice a3 L3 C3) ∧
  HCalls Tryz.prog 77 #[.agg #[.int .i64 n3, .slice a2 L2 C2], .agg #[.int .i64 n4, .slice a3 L3 C3]] h7 fun v2 h8 => ∃ r3 : Int, ∃ (r4 : Option Addr) (rL2 rC2 : Nat), ∃ r5 : Int, ∃ r6 : Int, ∃ (r7 : Option Addr) (rL3 rC3 : Nat), v2 = .tuple #[.agg #[.int .i64 r3, .slice r4 rL2 rC2], .agg #[.int .i64 r5, .int .i64 r6, .slice r7 rL3 rC3]] ∧
  Wr h8 ⟨b3, 0, none⟩ (.int .i64 r3) fun h9 =>
  Wr h9 ((⟨b3, 0, none⟩ : Addr).add 1) (.slice r4 rL2 rC2) fun h10 =>
  Wr h10 ⟨b4, 0, none⟩ (.int .i64 r5) fun h11 =>
  Wr h11 ((⟨b4, 0, none⟩ : Addr).add 1) (.int .i64 r6) fun h12 =>
  Wr h12 ((⟨b4, 0, none⟩ : Addr).add 2) (.slice r7 rL3 rC3) fun h13 =>
  ∃ r8 : Int, ∃ (r9 : Option Addr) (rL4 rC4 : Nat), cell h13 ⟨b3, 0, none⟩ = some (.int .i64 r8) ∧
  cell h13 ((⟨b3, 0, none⟩ : Addr).add 1) = some (.slice r9 rL4 rC4) ∧
  ∃ r10 : Int, ∃ r11 : Int, ∃ (r12 : Option Addr) (rL5 rC5 : Nat), cell h13 ⟨b4, 0, none⟩ = some (.int .i64 r10) ∧
  cell h13 ((⟨b4, 0, none⟩ : Addr).add 1) = some (.int .i64 r11) ∧
  cell h13 ((⟨b4, 0, none⟩ : Addr).add 2) = some (.slice r12 rL5 rC5) ∧
  K (.tuple #[.agg #[.int .i64 r8, .slice r9 rL4 rC4], .agg #[.int .i64 r10, .int .i64 r11, .slice r12 rL5 rC5]]) h13)
  (cond (decide (n2 = 2))
  (∃ n5 : Int, ∃ (a4 : Option Addr) (L4 C4 : Nat), cell h7 ⟨b1, 0, none⟩ = some (.int .i64 n5) ∧
  cell h7 ((⟨b1, 0, none⟩ : Addr).add 1) = some (.slice a4 L4 C4) ∧
  ∃ n6 : Int, ∃ (a5 : Option Addr) (L5 C5 : Nat), cell h7 ⟨b2, 0, none⟩ = some (.int .i64 n6) ∧
  cell h7 ((⟨b2, 0, none⟩ : Addr).add 1) = some (.slice a5 L5 C5) ∧
  HCalls Tryz.prog 78 #[.agg #[.int .i64 n5, .slice a4 L4 C4], .agg #[.int .i64 n6, .slice a5 L5 C5]] h7 fun v3 h14 => ∃ r13 : Int, ∃ (r14 : Option Addr) (rL6 rC6 : Nat), ∃ r15 : Int, ∃ r16 : Int, ∃ (r17 : Option Addr) (rL7 rC7 : Nat), v3 = .tuple #[.agg #[.int .i64 r13, .slice r14 rL6 rC6], .agg #[.int .i64 r15, .int .i64 r16, .slice r17 rL7 rC7]] ∧
  Wr h14 ⟨b3, 0, none⟩ (.int .i64 r13) fun h15 =>
  Wr h15 ((⟨b3, 0, none⟩ : Addr).add 1) (.slice r14 rL6 rC6) fun h16 =>
  Wr h16 ⟨b4, 0, none⟩ (.int .i64 r15) fun h17 =>
  Wr h17 ((⟨b4, 0, none⟩ : Addr).add 1) (.int .i64 r16) fun h18 =>
  Wr h18 ((⟨b4, 0, none⟩ : Addr).add 2) (.slice r17 rL7 rC7) fun h19 =>
  ∃ r18 : Int, ∃ (r19 : Option Addr) (rL8 rC8 : Nat), cell h19 ⟨b3, 0, none⟩ = some (.int .i64 r18) ∧
  cell h19 ((⟨b3, 0, none⟩ : Addr).add 1) = some (.slice r19 rL8 rC8) ∧
  ∃ r20 : Int, ∃ r21 : Int, ∃ (r22 : Option Addr) (rL9 rC9 : Nat), cell h19 ⟨b4, 0, none⟩ = some (.int .i64 r20) ∧
  cell h19 ((⟨b4, 0, none⟩ : Addr).add 1) = some (.int .i64 r21) ∧
  cell h19 ((⟨b4, 0, none⟩ : Addr).add 2) = some (.slice r22 rL9 rC9) ∧
  K (.tuple #[.agg #[.int .i64 r18, .slice r19 rL8 rC8], .agg #[.int .i64 r20, .int .i64 r21, .slice r22 rL9 rC9]]) h19)
  (cond (decide (n2 = 3))
  (∃ n7 : Int, ∃ (a6 : Option Addr) (L6 C6 : Nat), cell h7 ⟨b1, 0, none⟩ = some (.int .i64 n7) ∧
  cell h7 ((⟨b1, 0, none⟩ : Addr).add 1) = some (.slice a6 L6 C6) ∧
  ∃ n8 : Int, ∃ (a7 : Option Addr) (L7 C7 : Nat), cell h7 ⟨b2, 0, none⟩ = some (.int .i64 n8) ∧
  cell h7 ((⟨b2, 0, none⟩ : Addr).add 1) = some (.slice a7 L7 C7) ∧
  HCalls Tryz.prog 79 #[.agg #[.int .i64 n7, .slice a6 L6 C6], .agg #[.int .i64 n8, .slice a7 L7 C7]] h7 fun v4 h20 => ∃ r23 : Int, ∃ (r24 : Option Addr) (rL10 rC10 : Nat), ∃ r25 : Int, ∃ r26 : Int, ∃ (r27 : Option Addr) (rL11 rC11 : Nat), v4 = .tuple #[.agg #[.int .i64 r23, .slice r24 rL10 rC10], .agg #[.int .i64 r25, .int .i64 r26, .slice r27 rL11 rC11]] ∧
  Wr h20 ⟨b3, 0, none⟩ (.int .i64 r23) fun h21 =>
  Wr h21 ((⟨b3, 0, none⟩ : Addr).add 1) (.slice r24 rL10 rC10) fun h22 =>
  Wr h22 ⟨b4, 0, none⟩ (.int .i64 r25) fun h23 =>
  Wr h23 ((⟨b4, 0, none⟩ : Addr).add 1) (.int .i64 r26) fun h24 =>
  Wr h24 ((⟨b4, 0, none⟩ : Addr).add 2) (.slice r27 rL11 rC11) fun h25 =>
  ∃ r28 : Int, ∃ (r29 : Option Addr) (rL12 rC12 : Nat), cell h25 ⟨b3, 0, none⟩ = some (.int .i64 r28) ∧
  cell h25 ((⟨b3, 0, none⟩ : Addr).add 1) = some (.slice r29 rL12 rC12) ∧
  ∃ r30 : Int, ∃ r31 : Int, ∃ (r32 : Option Addr) (rL13 rC13 : Nat), cell h25 ⟨b4, 0, none⟩ = some (.int .i64 r30) ∧
  cell h25 ((⟨b4, 0, none⟩ : Addr).add 1) = some (.int .i64 r31) ∧
  cell h25 ((⟨b4, 0, none⟩ : Addr).add 2) = some (.slice r32 rL13 rC13) ∧
  K (.tuple #[.agg #[.int .i64 r28, .slice r29 rL12 rC12], .agg #[.int .i64 r30, .int .i64 r31, .slice r32 rL13 rC13]]) h25)
  (cond (decide (n2 = 4))
  (∃ n9 : Int, ∃ (a8 : Option Addr) (L8 C8 : Nat), cell h7 ⟨b1, 0, none⟩ = some (.int .i64 n9) ∧
  cell h7 ((⟨b1, 0, none⟩ : Addr).add 1) = some (.slice a8 L8 C8) ∧
  ∃ n10 : Int, ∃ (a9 : Option Addr) (L9 C9 : Nat), cell h7 ⟨b2, 0, none⟩ = some (.int .i64 n10) ∧
  cell h7 ((⟨b2, 0, none⟩ : Addr).add 1) = some (.slice a9 L9 C9) ∧
  HCalls Tryz.prog 80 #[.agg #[.int .i64 n9, .slice a8 L8 C8], .agg #[.int .i64 n10, .slice a9 L9 C9]] h7 fun v5 h26 => ∃ r33 : Int, ∃ (r34 : Option Addr) (rL14 rC14 : Nat), ∃ r35 : Int, ∃ r36 : Int, ∃ (r37 : Option Addr) (rL15 rC15 : Nat), v5 = .tuple #[.agg #[.int .i64 r33, .slice r34 rL14 rC14], .agg #[.int .i64 r35, .int .i64 r36, .slice r37 rL15 rC15]] ∧
  Wr h26 ⟨b3, 0, none⟩ (.int .i64 r33) fun h27 =>
  Wr h27 ((⟨b3, 0, none⟩ : Addr).add 1) (.slice r34 rL14 rC14) fun h28 =>
  Wr h28 ⟨b4, 0, none⟩ (.int .i64 r35) fun h29 =>
  Wr h29 ((⟨b4, 0, none⟩ : Addr).add 1) (.int .i64 r36) fun h30 =>
  Wr h30 ((⟨b4, 0, none⟩ : Addr).add 2) (.slice r37 rL15 rC15) fun h31 =>
  ∃ r38 : Int, ∃ (r39 : Option Addr) (rL16 rC16 : Nat), cell h31 ⟨b3, 0, none⟩ = some (.int .i64 r38) ∧
  cell h31 ((⟨b3, 0, none⟩ : Addr).add 1) = some (.slice r39 rL16 rC16) ∧
  ∃ r40 : Int, ∃ r41 : Int, ∃ (r42 : Option Addr) (rL17 rC17 : Nat), cell h31 ⟨b4, 0, none⟩ = some (.int .i64 r40) ∧
  cell h31 ((⟨b4, 0, none⟩ : Addr).add 1) = some (.int .i64 r41) ∧
  cell h31 ((⟨b4, 0, none⟩ : Addr).add 2) = some (.slice r42 rL17 rC17) ∧
  K (.tuple #[.agg #[.int .i64 r38, .slice r39 rL16 rC16], .agg #[.int .i64 r40, .int .i64 r41, .slice r42 rL17 rC17]]) h31)
  (cond (decide (n2 = 5))
  (∃ n11 : Int, ∃ (a10 : Option Addr) (L10 C10 : Nat), cell h7 ⟨b1, 0, none⟩ = some (.int .i64 n11) ∧
  cell h7 ((⟨b1, 0, none⟩ : Addr).add 1) = some (.slice a10 L10 C10) ∧
  ∃ n12 : Int, ∃ (a11 : Option Addr) (L11 C11 : Nat), cell h7 ⟨b2, 0, none⟩ = some (.int .i64 n12) ∧
  cell h7 ((⟨b2, 0, none⟩ : Addr).add 1) = some (.slice a11 L11 C11) ∧
  HCalls Tryz.prog 81 #[.agg #[.int .i64 n11, .slice a10 L10 C10], .agg #[.int .i64 n12, .slice a11 L11 C11]] h7 fun v6 h32 => ∃ r43 : Int, ∃ (r44 : Option Addr) (rL18 rC18 : Nat), ∃ r45 : Int, ∃ r46 : Int, ∃ (r47 : Option Addr) (rL19 rC19 : Nat), v6 = .tuple #[.agg #[.int .i64 r43, .slice r44 rL18 rC18], .agg #[.int .i64 r45, .int .i64 r46, .slice r47 rL19 rC19]] ∧
  Wr h32 ⟨b3, 0, none⟩ (.int .i64 r43) fun h33 =>
  Wr h33 ((⟨b3, 0, none⟩ : Addr).add 1) (.slice r44 rL18 rC18) fun h34 =>
  Wr h34 ⟨b4, 0, none⟩ (.int .i64 r45) fun h35 =>
  Wr h35 ((⟨b4, 0, none⟩ : Addr).add 1) (.int .i64 r46) fun h36 =>
  Wr h36 ((⟨b4, 0, none⟩ : Addr).add 2) (.slice r47 rL19 rC19) fun h37 =>
  ∃ r48 : Int, ∃ (r49 : Option Addr) (rL20 rC20 : Nat), cell h37 ⟨b3, 0, none⟩ = some (.int .i64 r48) ∧
  cell h37 ((⟨b3, 0, none⟩ : Addr).add 1) = some (.slice r49 rL20 rC20) ∧
  ∃ r50 : Int, ∃ r51 : Int, ∃ (r52 : Option Addr) (rL21 rC21 : Nat), cell h37 ⟨b4, 0, none⟩ = some (.int .i64 r50) ∧
  cell h37 ((⟨b4, 0, none⟩ : Addr).add 1) = some (.int .i64 r51) ∧
  cell h37 ((⟨b4, 0, none⟩ : Addr).add 2) = some (.slice r52 rL21 rC21) ∧
  K (.tuple #[.agg #[.int .i64 r48, .slice r49 rL20 rC20], .agg #[.int .i64 r50, .int .i64 r51, .slice r52 rL21 rC21]]) h37)
  (r03_Step_b1 (some ⟨b1, 0, none⟩) (some ⟨b2, 0, none⟩) (some ⟨b3, 0, none⟩) (some ⟨b4, 0, none⟩) h7  K)))))) := by kernel_rfl
theorem r03_Step_b1_eq (s : Option Addr) (o : Option Addr) (t4 : Option Addr) (t5 : Option Addr) (h : Hp)  (K : Value → Hp → Prop) : r03_Step_b1 s o t4 t5 h  K = (
  NN s fun a12 =>
  ∃ n13 : Int, ∃ (a13 : Option Addr) (L12 C12 : Nat), cell h a12 = some (.int .i64 n13) ∧
  cell h (a12.add 1) = some (.slice a13 L12 C12) ∧
  NN o fun a14 =>
  ∃ n14 : Int, ∃ (a15 : Option Addr) (L13 C13 : Nat), cell h a14 = some (.int .i64 n14) ∧
  cell h (a14.add 1) = some (.slice a15 L13 C13) ∧
  HCalls Tryz.prog 82 #[.agg #[.int .i64 n13, .slice a13 L12 C12], .agg #[.int .i64 n14, .slice a15 L13 C13]] h fun v7 h38 => ∃ r53 : Int, ∃ (r54 : Option Addr) (rL22 rC22 : Nat), ∃ r55 : Int, ∃ r56 : Int, ∃ (r57 : Option Addr) (rL23 rC23 : Nat), v7 = .tuple #[.agg #[.int .i64 r53, .slice r54 rL22 rC22], .agg #[.int .i64 r55, .int .i64 r56, .slice r57 rL23 rC23]] ∧
  NN t4 fun a16 =>
  Wr h38 a16 (.int .i64 r53) fun h39 =>
  Wr h39 (a16.add 1) (.slice r54 rL22 rC22) fun h40 =>
  NN t5 fun a17 =>
  Wr h40 a17 (.int .i64 r55) fun h41 =>
  Wr h41 (a17.add 1) (.int .i64 r56) fun h42 =>
  Wr h42 (a17.add 2) (.slice r57 rL23 rC23) fun h43 =>
  NN t4 fun a18 =>
  ∃ r58 : Int, ∃ (r59 : Option Addr) (rL24 rC24 : Nat), cell h43 a18 = some (.int .i64 r58) ∧
  cell h43 (a18.add 1) = some (.slice r59 rL24 rC24) ∧
  NN t5 fun a19 =>
  ∃ r60 : Int, ∃ r61 : Int, ∃ (r62 : Option Addr) (rL25 rC25 : Nat), cell h43 a19 = some (.int .i64 r60) ∧
  cell h43 (a19.add 1) = some (.int .i64 r61) ∧
  cell h43 (a19.add 2) = some (.slice r62 rL25 rC25) ∧
  K (.tuple #[.agg #[.int .i64 r58, .slice r59 rL24 rC24], .agg #[.int .i64 r60, .int .i64 r61, .slice r62 rL25 rC25]]) h43) := by kernel_rfl
theorem r03_Step_call {s_0 : Int} {s_1 : Option Addr} {s_1L : Nat} {s_1C : Nat} {o_0 : Int} {o_1 : Option Addr} {o_1L : Nat} {o_1C : Nat} {h : Hp} {K : Value → Hp → Prop} (hk : r03_Step_b0 s_0 s_1 s_1L s_1C o_0 o_1 o_1L o_1C h K) : HCalls Tryz.prog 39 #[.agg #[.int .i64 s_0, .slice s_1 s_1L s_1C], .agg #[.int .i64 o_0, .slice o_1 o_1L o_1C]] h K :=
  calls_of_snd r03_Step_an Tryz.func39 (c := bodyOf Tryz.f39) rfl Tryz.ntmps39 (Nat.le_of_ble_eq_true rfl) (snd_2 F_ok F_mixed) hk

/-! ### r03_SameRes -/
def r03_SameRes_an : Ann := .leaf
def r03_SameRes_K0  (K : Value → Hp → Prop) : Exit → Env → Hp → Prop := retK Tryz.prog Tryz.f40.results.toList K
def r03_SameRes_b0 (a_0 : Int) (a_1 : Int) (a_2 : Option Addr) (a_2L : Nat) (a_2C : Nat) (b_0 : Int) (b_1 : Int) (b_2 : Option Addr) (b_2L : Nat) (b_2C : Nat) (h : Hp)  (K : Value → Hp → Prop) : Prop :=
  sx_1 Tryz.prog F 24 (cp [] (bodyOf Tryz.f40)) (ap [] r03_SameRes_an) [(0, .agg #[.int .i64 a_0, .int .i64 a_1, .slice a_2 a_2L a_2C]), (1, .agg #[.int .i64 b_0, .int .i64 b_1, .slice b_2 b_2L b_2C])] h (r03_SameRes_K0  K)
theorem r03_SameRes_b0_eq (a_0 : Int) (a_1 : Int) (a_2 : Option Addr) (a_2L : Nat) (a_2C : Nat) (b_0 : Int) (b_1 : Int) (b_2 : Option Addr) (b_2L : Nat) (b_2C : Nat) (h : Hp)  (K : Value → Hp → Prop) : r03_SameRes_b0 a_0 a_1 a_2 a_2L a_2C b_0 b_1 b_2 b_2L b_2C h  K = (
  New h (.cells #[.int .i64 a_0, .int .i64 a_1, .slice a_2 a_2L a_2C] 61) fun b1 h1 =>
  New h1 (.cells #[.int .i64 b_0, .int .i64 b_1, .slice b_2 b_2L b_2C] 61) fun b2 h2 =>
  ∃ n1 : Int, cell h2 ⟨b1, 0, none⟩ = some (.int .i64 n1) ∧
  ∃ n2 : Int, cell h2 ⟨b2, 0, none⟩ = some (.int .i64 n2) ∧
  cond (decide (n1 = n2))
  (∃ n3 : Int, cell h2 ((⟨b1, 0, none⟩ : Addr).add 1) = some (.int .i64 n3) ∧
  ∃ n4 : Int, cell h2 ((⟨b2, 0, none⟩ : Addr).add 1) = some (.int .i64 n4) ∧
  cond (decide (n3 = n4))
  (∃ (a1 : Option Addr) (L1 C1 : Nat), cell h2 ((⟨b1, 0, none⟩ : Addr).add 2) = some (.slice a1 L1 C1) ∧
  ∃ (a2 : Option Addr) (L2 C2 : Nat), cell h2 ((⟨b2, 0, none⟩ : Addr).add 2) = some (.slice a2 L2 C2) ∧
  HCalls Tryz.prog 83 #[.slice a1 L1 C1, .slice a2 L2 C2] h2 fun v1 h3 => ∃ r1 : Bool, v1 = .bool r1 ∧
  K (.bool r1) h3)
  (K (.bool false) h2))
  (K (.bool false) h2)) := by kernel_rfl
theorem r03_SameRes_call {a_0 : Int} {a_1 : Int} {a_2 : Option Addr} {a_2L : Nat} {a_2C : Nat} {b_0 : Int} {b_1 : Int} {b_2 : Option Addr} {b_2L : Nat} {b_2C : Nat} {h : Hp} {K : Value → Hp → Prop} (hk : r03_SameRes_b0 a_0 a_1 a_2 a_2L a_2C b_0 b_1 b_2 b_2L b_2C h K) : HCalls Tryz.prog 40 #[.agg #[.int .i64 a_0, .int .i64 a_1, .slice a_2 a_2L a_2C], .agg #[.int .i64 b_0, .int .i64 b_1, .slice b_2 b_2L b_2C]] h K :=
  calls_of_snd r03_SameRes_an Tryz.func40 (c := bodyOf Tryz.f40) rfl Tryz.ntmps40 (Nat.le_of_ble_eq_true rfl) (snd_1 F_ok F_mixed) hk

/-! ### partialretro_Log_Add -/
def partialretro_Log_Add_an : Ann := .node none (.leaf) (.node none (.leaf) (.node none (.leaf) (.node (some [0, 1, 5]) (.node none (.tail 5) (.leaf)) (.node none (.leaf) (.node (some [0, 1, 5, 7]) (.leaf) (.node (some [0, 1, 7, 9]) (.plan (.qu 0 (.qu 1 (.qu 2 (.qu 3 (.wo 4 (.qu 5 (.wo 6 (.wo 7 .fin .no) .no)) (.wo 6 (.wo 4 (.qu 5 (.wo 7 .fin .no)) .no) .no))))))) (.node none (.plan (.qu 0 (.qu 1 (.qu 2 (.qu 3 (.qu 4 (.qu 6 (.qu 7 (.qu 10 (.qu 11 (.qu 12 (.qu 13 (.qu 15 (.qu 16 (.wo 5 (.wo 8 (.wo 9 (.wo 14 (.wo 17 (.wo 18 (.wo 19 (.wo 20 .fin .no) .no) .no) .no) (.wo 17 (.wo 14 (.wo 18 (.wo 19 (.wo 20 .fin .no) .no) .no) .no) .no)) (.wo 17 (.wo 9 (.wo 14 (.wo 18 (.wo 19 (.wo 20 .fin .no) .no) .no) .no) .no) .no)) (.wo 17 (.wo 8 (.wo 9 (.wo 14 (.wo 18 (.wo 19 (.wo 20 .fin .no) .no) .no) .no) .no) .no) .no)) (.wo 8 (.wo 5 (.wo 9 (.wo 14 (.wo 17 (.wo 18 (.wo 19 (.wo 20 .fin .no) .no) .no) .no) (.wo 17 (.wo 14 (.wo 18 (.wo 19 (.wo 20 .fin .no) .no) .no) .no) .no)) (.wo 17 (.wo 9 (.wo 14 (.wo 18 (.wo 19 (.wo 20 .fin .no) .no) .no) .no) .no) .no)) (.wo 17 (.wo 5 (.wo 9 (.wo 14 (.wo 18 (.wo 19 (.wo 20 .fin .no) .no) .no) .no) .no) .no) .no)) (.wo 17 (.wo 5 (.wo 8 (.wo 9 (.wo 14 (.wo 18 (.wo 19 (.wo 20 .fin .no) .no) .no) .no) .no) .no) (.wo 8 (.wo 5 (.wo 9 (.wo 14 (.wo 18 (.wo 19 (.wo 20 .fin .no) .no) .no) .no) .no) .no) .no)) .no))))))))))))))))) (.leaf))))))))
def partialretro_Log_Add_K0  (K : Value → Hp → Prop) : Exit → Env → Hp → Prop := retK Tryz.prog Tryz.f41.results.toList K
def partialretro_Log_Add_b0 (g : Option Addr) (time : Int) (o_0 : Int) (o_1 : Option Addr) (o_1L : Nat) (o_1C : Nat) (h : Hp)  (K : Value → Hp → Prop) : Prop :=
  sx_4 Tryz.prog F 79 (cp [] (bodyOf Tryz.f41)) (ap [] partialretro_Log_Add_an) [(0, .pointer g), (1, .int .i64 time), (2, .agg #[.int .i64 o_0, .slice o_1 o_1L o_1C])] h (partialretro_Log_Add_K0  K)
def partialretro_Log_Add_b1 (g : Option Addr) (time : Int) (o : Option Addr) (h : Hp)  (K : Value → Hp → Prop) : Prop :=
  sx_3 Tryz.prog F 79 (cp [1, 1, 1, 1] (bodyOf Tryz.f41)) (ap [1, 1, 1, 1] partialretro_Log_Add_an) [(0, .pointer g), (1, .int .i64 time), (5, .pointer o)] h (partialretro_Log_Add_K0  K)
def partialretro_Log_Add_b2 (g : Option Addr) (time : Int) (o : Option Addr) (i : Int) (h : Hp)  (K : Value → Hp → Prop) : Prop :=
  sx_2 Tryz.prog F 79 (cp [1, 1, 1, 1, 1, 1] (bodyOf Tryz.f41)) (ap [1, 1, 1, 1, 1, 1] partialretro_Log_Add_an) [(0, .pointer g), (1, .int .i64 time), (5, .pointer o), (7, .int .i64 i)] h (partialretro_Log_Add_K0  K)
def partialretro_Log_Add_b3 (g : Option Addr) (time : Int) (i : Int) (own : Option Addr) (h : Hp)  (K : Value → Hp → Prop) : Prop :=
  sx_1 Tryz.prog F 79 (cp [1, 1, 1, 1, 1, 1, 1] (bodyOf Tryz.f41)) (ap [1, 1, 1, 1, 1, 1, 1] partialretro_Log_Add_an) [(0, .pointer g), (1, .int .i64 time), (7, .int .i64 i), (9, .pointer own)] h (partialretro_Log_Add_K0  K)
theorem partialretro_Log_Add_b0_eq (g : Option Addr) (time : Int) (o_0 : Int) (o_1 : Option Addr) (o_1L : Nat) (o_1C : Nat) (h : Hp)  (K : Value → Hp → Prop) : partialretro_Log_Add_b0 g time o_0 o_1 o_1L o_1C h  K = (
  New h (.cells #[.int .i64 o_0, .slice o_1 o_1L o_1C] 25) fun b1 h1 =>
  cond g.isNone
  (K (.int .i64 1) h1)
  (NN g fun a1 =>
  Wr h1 (a1.add 5) (.int .i64 0) fun h2 =>
  NN g fun a2 =>
  Wr h2 (a2.add 6) (.int .i64 0) fun h3 =>
  NN g fun a3 =>
  ∃ n1 : Int, cell h3 a3 = some (.int .i64 n1) ∧
  ∃ n2 : Int, ∃ (a4 : Option Addr) (L1 C1 : Nat), cell h3 ⟨b1, 0, none⟩ = some (.int .i64 n2) ∧
  cell h3 ((⟨b1, 0, none⟩ : Addr).add 1) = some (.slice a4 L1 C1) ∧
  HCalls Tryz.prog 71 #[.int .i64 n1, .agg #[.int .i64 n2, .slice a4 L1 C1]] h3 fun v1 h4 => ∃ r1 : Bool, v1 = .bool r1 ∧
  cond (!r1)
  (K (.int .i64 1) h4)
  (∃ n3 : Int, ∃ (a5 : Option Addr) (L2 C2 : Nat), cell h4 ⟨b1, 0, none⟩ = some (.int .i64 n3) ∧
  cell h4 ((⟨b1, 0, none⟩ : Addr).add 1) = some (.slice a5 L2 C2) ∧
  HCalls Tryz.prog 72 #[.pointer g, .agg #[.int .i64 n3, .slice a5 L2 C2]] h4 fun v2 h5 => ∃ r2 : Bool, v2 = .bool r2 ∧
  cond (!r2)
  (K (.int .i64 30) h5)
  (HCalls Tryz.prog 65 #[.int .i64 time] h5 fun v3 h6 => ∃ r3 : Bool, v3 = .bool r3 ∧
  cond (!r3)
  (K (.int .i64 2) h6)
  (partialretro_Log_Add_b1 g time (some ⟨b1, 0, none⟩) h6  K))))) := by kernel_rfl
theorem partialretro_Log_Add_b1_eq (g : Option Addr) (time : Int) (o : Option Addr) (h : Hp)  (K : Value → Hp → Prop) : partialretro_Log_Add_b1 g time o h  K = (
  NN g fun a6 =>
  ∃ (a7 : Option Addr) (L3 C3 : Nat), cell h (a6.add 1) = some (.slice a7 L3 C3) ∧
  HCalls Tryz.prog 21 #[.slice a7 L3 C3, .int .i64 time] h fun v4 h7 => ∃ r4 : Int, ∃ r5 : Bool, v4 = .tuple #[.int .i64 r4, .bool r5] ∧
  cond r5
  (K (.int .i64 15) h7)
  (NN g fun a8 =>
  ∃ (a9 : Option Addr) (L4 C4 : Nat), cell h7 (a8.add 1) = some (.slice a9 L4 C4) ∧
  cond (decide ((2000 : Int) ≤ (L4 : Int)))
  (K (.int .i64 4) h7)
  (partialretro_Log_Add_b2 g time o r4 h7  K))) := by kernel_rfl
theorem partialretro_Log_Add_b2_eq (g : Option Addr) (time : Int) (o : Option Addr) (i : Int) (h : Hp)  (K : Value → Hp → Prop) : partialretro_Log_Add_b2 g time o i h  K = (
  NN o fun a10 =>
  ∃ n4 : Int, cell h a10 = some (.int .i64 n4) ∧
  NN o fun a11 =>
  ∃ (a12 : Option Addr) (L5 C5 : Nat), cell h (a11.add 1) = some (.slice a12 L5 C5) ∧
  (HCalls Tryz.prog 24 #[.slice a12 L5 C5] h fun v5 h8 => ∃ (r6 : Option Addr) (rL1 rC1 : Nat), v5 = .slice r6 rL1 rC1 ∧
  (∃ n5 : Int, cell h8 a10 = some (.int .i64 n5) ∧
  (.int .i64 n5 : Value) = .int .i64 n4) ∧
  New h8 (.cells #[.int .i64 0, .slice none 0 0] 25) fun b2 h9 =>
  ((.agg #[.int .i64 n4, .slice r6 rL1 rC1] : Value) = .agg #[.int .i64 n4, .slice r6 rL1 rC1]) ∧
  (∃ n6 : Int, cell h9 a10 = some (.int .i64 n6) ∧
  (.int .i64 n6 : Value) = .int .i64 n4) ∧
  Wr h9 ⟨b2, 0, none⟩ (.int .i64 n4) fun h10 =>
  Wr h10 ((⟨b2, 0, none⟩ : Addr).add 1) (.slice r6 rL1 rC1) fun h11 =>
  partialretro_Log_Add_b3 g time i (some ⟨b2, 0, none⟩) h11  K) ∧
  (New h (.cells #[.int .i64 0, .slice none 0 0] 25) fun b3 h12 =>
  (∃ (a13 : Option Addr) (L6 C6 : Nat), cell h12 (a11.add 1) = some (.slice a13 L6 C6) ∧
  (.slice a13 L6 C6 : Value) = .slice a12 L5 C5) ∧
  (∃ n7 : Int, cell h12 a10 = some (.int .i64 n7) ∧
  (.int .i64 n7 : Value) = .int .i64 n4) ∧
  HCalls Tryz.prog 24 #[.slice a12 L5 C5] h12 fun v6 h13 => ∃ (r7 : Option Addr) (rL2 rC2 : Nat), v6 = .slice r7 rL2 rC2 ∧
  (∃ n8 : Int, cell h13 a10 = some (.int .i64 n8) ∧
  (.int .i64 n8 : Value) = .int .i64 n4) ∧
  Wr h13 ⟨b3, 0, none⟩ (.int .i64 n4) fun h14 =>
  Wr h14 ((⟨b3, 0, none⟩ : Addr).add 1) (.slice r7 rL2 rC2) fun h15 =>
  partialretro_Log_Add_b3 g time i (some ⟨b3, 0, none⟩) h15  K)) := by kernel_rfl
theorem partialretro_Log_Add_b3_eq (g : Option Addr) (time : Int) (i : Int) (own : Option Addr) (h : Hp)  (K : Value → Hp → Prop) : partialretro_Log_Add_b3 g time i own h  K = (
  NN g fun a14 =>
  ∃ (a15 : Option Addr) (L7 C7 : Nat), cell h (a14.add 1) = some (.slice a15 L7 C7) ∧
  NN g fun a16 =>
  ∃ (a17 : Option Addr) (L8 C8 : Nat), cell h (a16.add 2) = some (.slice a17 L8 C8) ∧
  NN own fun a18 =>
  ∃ n9 : Int, ∃ (a19 : Option Addr) (L9 C9 : Nat), cell h a18 = some (.int .i64 n9) ∧
  cell h (a18.add 1) = some (.slice a19 L9 C9) ∧
  (HCalls Tryz.prog 24 #[.slice a15 L7 C7] h fun v7 h16 => ∃ (r8 : Option Addr) (rL3 rC3 : Nat), v7 = .slice r8 rL3 rC3 ∧
  (NN own fun a20 =>
  ∃ n10 : Int, ∃ (a21 : Option Addr) (L10 C10 : Nat), cell h16 a20 = some (.int .i64 n10) ∧
  cell h16 (a20.add 1) = some (.slice a21 L10 C10) ∧
  (.agg #[.int .i64 n10, .slice a21 L10 C10] : Value) = .agg #[.int .i64 n9, .slice a19 L9 C9]) ∧
  (∃ (a22 : Option Addr) (L11 C11 : Nat), cell h16 (a16.add 2) = some (.slice a22 L11 C11) ∧
  (.slice a22 L11 C11 : Value) = .slice a17 L8 C8) ∧
  (New h16 (.cells #[.int .i64 time] 3) fun b4 h17 =>
  (NN own fun a23 =>
  ∃ n11 : Int, ∃ (a24 : Option Addr) (L12 C12 : Nat), cell h17 a23 = some (.int .i64 n11) ∧
  cell h17 (a23.add 1) = some (.slice a24 L12 C12) ∧
  (.agg #[.int .i64 n11, .slice a24 L12 C12] : Value) = .agg #[.int .i64 n9, .slice a19 L9 C9]) ∧
  (∃ (a25 : Option Addr) (L13 C13 : Nat), cell h17 (a16.add 2) = some (.slice a25 L13 C13) ∧
  (.slice a25 L13 C13 : Value) = .slice a17 L8 C8) ∧
  (HCalls Tryz.prog 23 #[.slice r8 rL3 rC3, .int .i64 i, .slice (some ⟨b4, 0, none⟩) 1 1] h17 fun v8 h18 => ∃ (r9 : Option Addr) (rL4 rC4 : Nat), v8 = .slice r9 rL4 rC4 ∧
  (NN own fun a26 =>
  ∃ n12 : Int, ∃ (a27 : Option Addr) (L14 C14 : Nat), cell h18 a26 = some (.int .i64 n12) ∧
  cell h18 (a26.add 1) = some (.slice a27 L14 C14) ∧
  (.agg #[.int .i64 n12, .slice a27 L14 C14] : Value) = .agg #[.int .i64 n9, .slice a19 L9 C9]) ∧
  (∃ (a28 : Option Addr) (L15 C15 : Nat), cell h18 (a16.add 2) = some (.slice a28 L15 C15) ∧
  (.slice a28 L15 C15 : Value) = .slice a17 L8 C8) ∧
  (HCalls Tryz.prog 86 #[.slice a17 L8 C8] h18 fun v9 h19 => ∃ (r10 : Option Addr) (rL5 rC5 : Nat), v9 = .slice r10 rL5 rC5 ∧
  (NN own fun a29 =>
  ∃ n13 : Int, ∃ (a30 : Option Addr) (L16 C16 : Nat), cell h19 a29 = some (.int .i64 n13) ∧
  cell h19 (a29.add 1) = some (.slice a30 L16 C16) ∧
  (.agg #[.int .i64 n13, .slice a30 L16 C16] : Value) = .agg #[.int .i64 n9, .slice a19 L9 C9]) ∧
  New h19 (.cells #[.int .i64 n9, .slice a19 L9 C9] 25) fun b5 h20 =>
  HCalls Tryz.prog 85 #[.slice r10 rL5 rC5, .int .i64 i, .slice (some ⟨b5, 0, none⟩) 1 1] h20 fun v10 h21 => ∃ (r11 : Option Addr) (rL6 rC6 : Nat), v10 = .slice r11 rL6 rC6 ∧
  HCalls Tryz.prog 84 #[.pointer g, .slice r9 rL4 rC4, .slice r11 rL6 rC6] h21 fun v11 h22 => ∃ r12 : Int, v11 = .int .i64 r12 ∧
  K (.int .i64 r12) h22) ∧
  (New h18 (.cells #[.int .i64 n9, .slice a19 L9 C9] 25) fun b6 h23 =>
  (∃ (a31 : Option Addr) (L17 C17 : Nat), cell h23 (a16.add 2) = some (.slice a31 L17 C17) ∧
  (.slice a31 L17 C17 : Value) = .slice a17 L8 C8) ∧
  HCalls Tryz.prog 86 #[.slice a17 L8 C8] h23 fun v12 h24 => ∃ (r13 : Option Addr) (rL7 rC7 : Nat), v12 = .slice r13 rL7 rC7 ∧
  HCalls Tryz.prog 85 #[.slice r13 rL7 rC7, .int .i64 i, .slice (some ⟨b6, 0, none⟩) 1 1] h24 fun v13 h25 => ∃ (r14 : Option Addr) (rL8 rC8 : Nat), v13 = .slice r14 rL8 rC8 ∧
  HCalls Tryz.prog 84 #[.pointer g, .slice r9 rL4 rC4, .slice r14 rL8 rC8] h25 fun v14 h26 => ∃ r15 : Int, v14 = .int .i64 r15 ∧
  K (.int .i64 r15) h26)) ∧
  (New h17 (.cells #[.int .i64 n9, .slice a19 L9 C9] 25) fun b7 h27 =>
  (∃ (a32 : Option Addr) (L18 C18 : Nat), cell h27 (a16.add 2) = some (.slice a32 L18 C18) ∧
  (.slice a32 L18 C18 : Value) = .slice a17 L8 C8) ∧
  HCalls Tryz.prog 23 #[.slice r8 rL3 rC3, .int .i64 i, .slice (some ⟨b4, 0, none⟩) 1 1] h27 fun v15 h28 => ∃ (r16 : Option Addr) (rL9 rC9 : Nat), v15 = .slice r16 rL9 rC9 ∧
  (∃ (a33 : Option Addr) (L19 C19 : Nat), cell h28 (a16.add 2) = some (.slice a33 L19 C19) ∧
  (.slice a33 L19 C19 : Value) = .slice a17 L8 C8) ∧
  HCalls Tryz.prog 86 #[.slice a17 L8 C8] h28 fun v16 h29 => ∃ (r17 : Option Addr) (rL10 rC10 : Nat), v16 = .slice r17 rL10 rC10 ∧
  HCalls Tryz.prog 85 #[.slice r17 rL10 rC10, .int .i64 i, .slice (some ⟨b7, 0, none⟩) 1 1] h29 fun v17 h30 => ∃ (r18 : Option Addr) (rL11 rC11 : Nat), v17 = .slice r18 rL11 rC11 ∧
  HCalls Tryz.prog 84 #[.pointer g, .slice r16 rL9 rC9, .slice r18 rL11 rC11] h30 fun v18 h31 => ∃ r19 : Int, v18 = .int .i64 r19 ∧
  K (.int .i64 r19) h31)) ∧
  (New h16 (.cells #[.int .i64 n9, .slice a19 L9 C9] 25) fun b8 h32 =>
  (∃ (a34 : Option Addr) (L20 C20 : Nat), cell h32 (a16.add 2) = some (.slice a34 L20 C20) ∧
  (.slice a34 L20 C20 : Value) = .slice a17 L8 C8) ∧
  New h32 (.cells #[.int .i64 time] 3) fun b9 h33 =>
  (∃ (a35 : Option Addr) (L21 C21 : Nat), cell h33 (a16.add 2) = some (.slice a35 L21 C21) ∧
  (.slice a35 L21 C21 : Value) = .slice a17 L8 C8) ∧
  HCalls Tryz.prog 23 #[.slice r8 rL3 rC3, .int .i64 i, .slice (some ⟨b9, 0, none⟩) 1 1] h33 fun v19 h34 => ∃ (r20 : Option Addr) (rL12 rC12 : Nat), v19 = .slice r20 rL12 rC12 ∧
  (∃ (a36 : Option Addr) (L22 C22 : Nat), cell h34 (a16.add 2) = some (.slice a36 L22 C22) ∧
  (.slice a36 L22 C22 : Value) = .slice a17 L8 C8) ∧
  HCalls Tryz.prog 86 #[.slice a17 L8 C8] h34 fun v20 h35 => ∃ (r21 : Option Addr) (rL13 rC13 : Nat), v20 = .slice r21 rL13 rC13 ∧
  HCalls Tryz.prog 85 #[.slice r21 rL13 rC13, .int .i64 i, .slice (some ⟨b8, 0, none⟩) 1 1] h35 fun v21 h36 => ∃ (r22 : Option Addr) (rL14 rC14 : Nat), v21 = .slice r22 rL14 rC14 ∧
  HCalls Tryz.prog 84 #[.pointer g, .slice r20 rL12 rC12, .slice r22 rL14 rC14] h36 fun v22 h37 => ∃ r23 : Int, v22 = .int .i64 r23 ∧
  K (.int .i64 r23) h37)) ∧
  (New h (.cells #[.int .i64 time] 3) fun b10 h38 =>
  (NN own fun a37 =>
  ∃ n14 : Int, ∃ (a38 : Option Addr) (L23 C23 : Nat), cell h38 a37 = some (.int .i64 n14) ∧
  cell h38 (a37.add 1) = some (.slice a38 L23 C23) ∧
  (.agg #[.int .i64 n14, .slice a38 L23 C23] : Value) = .agg #[.int .i64 n9, .slice a19 L9 C9]) ∧
  (∃ (a39 : Option Addr) (L24 C24 : Nat), cell h38 (a16.add 2) = some (.slice a39 L24 C24) ∧
  (.slice a39 L24 C24 : Value) = .slice a17 L8 C8) ∧
  (∃ (a40 : Option Addr) (L25 C25 : Nat), cell h38 (a14.add 1) = some (.slice a40 L25 C25) ∧
  (.slice a40 L25 C25 : Value) = .slice a15 L7 C7) ∧
  (HCalls Tryz.prog 24 #[.slice a15 L7 C7] h38 fun v23 h39 => ∃ (r24 : Option Addr) (rL15 rC15 : Nat), v23 = .slice r24 rL15 rC15 ∧
  (NN own fun a41 =>
  ∃ n15 : Int, ∃ (a42 : Option Addr) (L26 C26 : Nat), cell h39 a41 = some (.int .i64 n15) ∧
  cell h39 (a41.add 1) = some (.slice a42 L26 C26) ∧
  (.agg #[.int .i64 n15, .slice a42 L26 C26] : Value) = .agg #[.int .i64 n9, .slice a19 L9 C9]) ∧
  (∃ (a43 : Option Addr) (L27 C27 : Nat), cell h39 (a16.add 2) = some (.slice a43 L27 C27) ∧
  (.slice a43 L27 C27 : Value) = .slice a17 L8 C8) ∧
  (HCalls Tryz.prog 23 #[.slice r24 rL15 rC15, .int .i64 i, .slice (some ⟨b10, 0, none⟩) 1 1] h39 fun v24 h40 => ∃ (r25 : Option Addr) (rL16 rC16 : Nat), v24 = .slice r25 rL16 rC16 ∧
  (NN own fun a44 =>
  ∃ n16 : Int, ∃ (a45 : Option Addr) (L28 C28 : Nat), cell h40 a44 = some (.int .i64 n16) ∧
  cell h40 (a44.add 1) = some (.slice a45 L28 C28) ∧
  (.agg #[.int .i64 n16, .slice a45 L28 C28] : Value) = .agg #[.int .i64 n9, .slice a19 L9 C9]) ∧
  (∃ (a46 : Option Addr) (L29 C29 : Nat), cell h40 (a16.add 2) = some (.slice a46 L29 C29) ∧
  (.slice a46 L29 C29 : Value) = .slice a17 L8 C8) ∧
  (HCalls Tryz.prog 86 #[.slice a17 L8 C8] h40 fun v25 h41 => ∃ (r26 : Option Addr) (rL17 rC17 : Nat), v25 = .slice r26 rL17 rC17 ∧
  (NN own fun a47 =>
  ∃ n17 : Int, ∃ (a48 : Option Addr) (L30 C30 : Nat), cell h41 a47 = some (.int .i64 n17) ∧
  cell h41 (a47.add 1) = some (.slice a48 L30 C30) ∧
  (.agg #[.int .i64 n17, .slice a48 L30 C30] : Value) = .agg #[.int .i64 n9, .slice a19 L9 C9]) ∧
  New h41 (.cells #[.int .i64 n9, .slice a19 L9 C9] 25) fun b11 h42 =>
  HCalls Tryz.prog 85 #[.slice r26 rL17 rC17, .int .i64 i, .slice (some ⟨b11, 0, none⟩) 1 1] h42 fun v26 h43 => ∃ (r27 : Option Addr) (rL18 rC18 : Nat), v26 = .slice r27 rL18 rC18 ∧
  HCalls Tryz.prog 84 #[.pointer g, .slice r25 rL16 rC16, .slice r27 rL18 rC18] h43 fun v27 h44 => ∃ r28 : Int, v27 = .int .i64 r28 ∧
  K (.int .i64 r28) h44) ∧
  (New h40 (.cells #[.int .i64 n9, .slice a19 L9 C9] 25) fun b12 h45 =>
  (∃ (a49 : Option Addr) (L31 C31 : Nat), cell h45 (a16.add 2) = some (.slice a49 L31 C31) ∧
  (.slice a49 L31 C31 : Value) = .slice a17 L8 C8) ∧
  HCalls Tryz.prog 86 #[.slice a17 L8 C8] h45 fun v28 h46 => ∃ (r29 : Option Addr) (rL19 rC19 : Nat), v28 = .slice r29 rL19 rC19 ∧
  HCalls Tryz.prog 85 #[.slice r29 rL19 rC19, .int .i64 i, .slice (some ⟨b12, 0, none⟩) 1 1] h46 fun v29 h47 => ∃ (r30 : Option Addr) (rL20 rC20 : Nat), v29 = .slice r30 rL20 rC20 ∧
  HCalls Tryz.prog 84 #[.pointer g, .slice r25 rL16 rC16, .slice r30 rL20 rC20] h47 fun v30 h48 => ∃ r31 : Int, v30 = .int .i64 r31 ∧
  K (.int .i64 r31) h48)) ∧
  (New h39 (.cells #[.int .i64 n9, .slice a19 L9 C9] 25) fun b13 h49 =>
  (∃ (a50 : Option Addr) (L32 C32 : Nat), cell h49 (a16.add 2) = some (.slice a50 L32 C32) ∧
  (.slice a50 L32 C32 : Value) = .slice a17 L8 C8) ∧
  HCalls Tryz.prog 23 #[.slice r24 rL15 rC15, .int .i64 i, .slice (some ⟨b10, 0, none⟩) 1 1] h49 fun v31 h50 => ∃ (r32 : Option Addr) (rL21 rC21 : Nat), v31 = .slice r32 rL21 rC21 ∧
  (∃ (a51 : Option Addr) (L33 C33 : Nat), cell h50 (a16.add 2) = some (.slice a51 L33 C33) ∧
  (.slice a51 L33 C33 : Value) = .slice a17 L8 C8) ∧
  HCalls Tryz.prog 86 #[.slice a17 L8 C8] h50 fun v32 h51 => ∃ (r33 : Option Addr) (rL22 rC22 : Nat), v32 = .slice r33 rL22 rC22 ∧
  HCalls Tryz.prog 85 #[.slice r33 rL22 rC22, .int .i64 i, .slice (some ⟨b13, 0, none⟩) 1 1] h51 fun v33 h52 => ∃ (r34 : Option Addr) (rL23 rC23 : Nat), v33 = .slice r34 rL23 rC23 ∧
  HCalls Tryz.prog 84 #[.pointer g, .slice r32 rL21 rC21, .slice r34 rL23 rC23] h52 fun v34 h53 => ∃ r35 : Int, v34 = .int .i64 r35 ∧
  K (.int .i64 r35) h53)) ∧
  (New h38 (.cells #[.int .i64 n9, .slice a19 L9 C9] 25) fun b14 h54 =>
  (∃ (a52 : Option Addr) (L34 C34 : Nat), cell h54 (a16.add 2) = some (.slice a52 L34 C34) ∧
  (.slice a52 L34 C34 : Value) = .slice a17 L8 C8) ∧
  (∃ (a53 : Option Addr) (L35 C35 : Nat), cell h54 (a14.add 1) = some (.slice a53 L35 C35) ∧
  (.slice a53 L35 C35 : Value) = .slice a15 L7 C7) ∧
  HCalls Tryz.prog 24 #[.slice a15 L7 C7] h54 fun v35 h55 => ∃ (r36 : Option Addr) (rL24 rC24 : Nat), v35 = .slice r36 rL24 rC24 ∧
  (∃ (a54 : Option Addr) (L36 C36 : Nat), cell h55 (a16.add 2) = some (.slice a54 L36 C36) ∧
  (.slice a54 L36 C36 : Value) = .slice a17 L8 C8) ∧
  HCalls Tryz.prog 23 #[.slice r36 rL24 rC24, .int .i64 i, .slice (some ⟨b10, 0, none⟩) 1 1] h55 fun v36 h56 => ∃ (r37 : Option Addr) (rL25 rC25 : Nat), v36 = .slice r37 rL25 rC25 ∧
  (∃ (a55 : Option Addr) (L37 C37 : Nat), cell h56 (a16.add 2) = some (.slice a55 L37 C37) ∧
  (.slice a55 L37 C37 : Value) = .slice a17 L8 C8) ∧
  HCalls Tryz.prog 86 #[.slice a17 L8 C8] h56 fun v37 h57 => ∃ (r38 : Option Addr) (rL26 rC26 : Nat), v37 = .slice r38 rL26 rC26 ∧
  HCalls Tryz.prog 85 #[.slice r38 rL26 rC26, .int .i64 i, .slice (some ⟨b14, 0, none⟩) 1 1] h57 fun v38 h58 => ∃ (r39 : Option Addr) (rL27 rC27 : Nat), v38 = .slice r39 rL27 rC27 ∧
  HCalls Tryz.prog 84 #[.pointer g, .slice r37 rL25 rC25, .slice r39 rL27 rC27] h58 fun v39 h59 => ∃ r40 : Int, v39 = .int .i64 r40 ∧
  K (.int .i64 r40) h59)) ∧
  (New h (.cells #[.int .i64 n9, .slice a19 L9 C9] 25) fun b15 h60 =>
  (∃ (a56 : Option Addr) (L38 C38 : Nat), cell h60 (a16.add 2) = some (.slice a56 L38 C38) ∧
  (.slice a56 L38 C38 : Value) = .slice a17 L8 C8) ∧
  (∃ (a57 : Option Addr) (L39 C39 : Nat), cell h60 (a14.add 1) = some (.slice a57 L39 C39) ∧
  (.slice a57 L39 C39 : Value) = .slice a15 L7 C7) ∧
  (HCalls Tryz.prog 24 #[.slice a15 L7 C7] h60 fun v40 h61 => ∃ (r41 : Option Addr) (rL28 rC28 : Nat), v40 = .slice r41 rL28 rC28 ∧
  (∃ (a58 : Option Addr) (L40 C40 : Nat), cell h61 (a16.add 2) = some (.slice a58 L40 C40) ∧
  (.slice a58 L40 C40 : Value) = .slice a17 L8 C8) ∧
  New h61 (.cells #[.int .i64 time] 3) fun b16 h62 =>
  (∃ (a59 : Option Addr) (L41 C41 : Nat), cell h62 (a16.add 2) = some (.slice a59 L41 C41) ∧
  (.slice a59 L41 C41 : Value) = .slice a17 L8 C8) ∧
  HCalls Tryz.prog 23 #[.slice r41 rL28 rC28, .int .i64 i, .slice (some ⟨b16, 0, none⟩) 1 1] h62 fun v41 h63 => ∃ (r42 : Option Addr) (rL29 rC29 : Nat), v41 = .slice r42 rL29 rC29 ∧
  (∃ (a60 : Option Addr) (L42 C42 : Nat), cell h63 (a16.add 2) = some (.slice a60 L42 C42) ∧
  (.slice a60 L42 C42 : Value) = .slice a17 L8 C8) ∧
  HCalls Tryz.prog 86 #[.slice a17 L8 C8] h63 fun v42 h64 => ∃ (r43 : Option Addr) (rL30 rC30 : Nat), v42 = .slice r43 rL30 rC30 ∧
  HCalls Tryz.prog 85 #[.slice r43 rL30 rC30, .int .i64 i, .slice (some ⟨b15, 0, none⟩) 1 1] h64 fun v43 h65 => ∃ (r44 : Option Addr) (rL31 rC31 : Nat), v43 = .slice r44 rL31 rC31 ∧
  HCalls Tryz.prog 84 #[.pointer g, .slice r42 rL29 rC29, .slice r44 rL31 rC31] h65 fun v44 h66 => ∃ r45 : Int, v44 = .int .i64 r45 ∧
  K (.int .i64 r45) h66) ∧
  (New h60 (.cells #[.int .i64 time] 3) fun b17 h67 =>
  (∃ (a61 : Option Addr) (L43 C43 : Nat), cell h67 (a16.add 2) = some (.slice a61 L43 C43) ∧
  (.slice a61 L43 C43 : Value) = .slice a17 L8 C8) ∧
  (∃ (a62 : Option Addr) (L44 C44 : Nat), cell h67 (a14.add 1) = some (.slice a62 L44 C44) ∧
  (.slice a62 L44 C44 : Value) = .slice a15 L7 C7) ∧
  HCalls Tryz.prog 24 #[.slice a15 L7 C7] h67 fun v45 h68 => ∃ (r46 : Option Addr) (rL32 rC32 : Nat), v45 = .slice r46 rL32 rC32 ∧
  (∃ (a63 : Option Addr) (L45 C45 : Nat), cell h68 (a16.add 2) = some (.slice a63 L45 C45) ∧
  (.slice a63 L45 C45 : Value) = .slice a17 L8 C8) ∧
  HCalls Tryz.prog 23 #[.slice r46 rL32 rC32, .int .i64 i, .slice (some ⟨b17, 0, none⟩) 1 1] h68 fun v46 h69 => ∃ (r47 : Option Addr) (rL33 rC33 : Nat), v46 = .slice r47 rL33 rC33 ∧
  (∃ (a64 : Option Addr) (L46 C46 : Nat), cell h69 (a16.add 2) = some (.slice a64 L46 C46) ∧
  (.slice a64 L46 C46 : Value) = .slice a17 L8 C8) ∧
  HCalls Tryz.prog 86 #[.slice a17 L8 C8] h69 fun v47 h70 => ∃ (r48 : Option Addr) (rL34 rC34 : Nat), v47 = .slice r48 rL34 rC34 ∧
  HCalls Tryz.prog 85 #[.slice r48 rL34 rC34, .int .i64 i, .slice (some ⟨b15, 0, none⟩) 1 1] h70 fun v48 h71 => ∃ (r49 : Option Addr) (rL35 rC35 : Nat), v48 = .slice r49 rL35 rC35 ∧
  HCalls Tryz.prog 84 #[.pointer g, .slice r47 rL33 rC33, .slice r49 rL35 rC35] h71 fun v49 h72 => ∃ r50 : Int, v49 = .int .i64 r50 ∧
  K (.int .i64 r50) h72))) := by kernel_rfl
theorem partialretro_Log_Add_call {g : Option Addr} {time : Int} {o_0 : Int} {o_1 : Option Addr} {o_1L : Nat} {o_1C : Nat} {h : Hp} {K : Value → Hp → Prop} (hk : partialretro_Log_Add_b0 g time o_0 o_1 o_1L o_1C h K) : HCalls Tryz.prog 41 #[.pointer g, .int .i64 time, .agg #[.int .i64 o_0, .slice o_1 o_1L o_1C]] h K :=
  calls_of_snd partialretro_Log_Add_an Tryz.func41 (c := bodyOf Tryz.f41) rfl Tryz.ntmps41 (Nat.le_of_ble_eq_true rfl) (snd_4 F_ok F_mixed) hk

/-! ### partialretro_Log_Revoke -/
def partialretro_Log_Revoke_an : Ann := .node none (.leaf) (.node none (.leaf) (.node none (.leaf) (.node none (.leaf) (.node none (.leaf) (.node none (.leaf) (.node none (.plan (.qu 0 (.qu 1 (.qu 2 (.qu 3 (.qu 4 (.qu 6 (.qu 7 (.qu 8 (.qu 10 (.qu 11 (.qu 12 (.qu 13 (.qu 15 (.qu 16 (.qu 17 (.wo 5 (.wo 9 (.wo 14 (.wo 18 (.wo 19 (.wo 20 .fin .no) .no) .no) .no) .no) .no))))))))))))))))) (.leaf)))))))
def partialretro_Log_Revoke_K0  (K : Value → Hp → Prop) : Exit → Env → Hp → Prop := retK Tryz.prog Tryz.f44.results.toList K
def partialretro_Log_Revoke_b0 (g : Option Addr) (time : Int) (h : Hp)  (K : Value → Hp → Prop) : Prop :=
  sx_1 Tryz.prog F 49 (cp [] (bodyOf Tryz.f44)) (ap [] partialretro_Log_Revoke_an) [(0, .pointer g), (1, .int .i64 time)] h (partialretro_Log_Revoke_K0  K)
theorem partialretro_Log_Revoke_b0_eq (g : Option Addr) (time : Int) (h : Hp)  (K : Value → Hp → Prop) : partialretro_Log_Revoke_b0 g time h  K = (
  cond g.isNone
  (K (.int .i64 1) h)
  (NN g fun a1 =>
  Wr h (a1.add 5) (.int .i64 0) fun h1 =>
  NN g fun a2 =>
  Wr h1 (a2.add 6) (.int .i64 0) fun h2 =>
  HCalls Tryz.prog 65 #[.int .i64 time] h2 fun v1 h3 => ∃ r1 : Bool, v1 = .bool r1 ∧
  cond (!r1)
  (K (.int .i64 2) h3)
  (NN g fun a3 =>
  ∃ (a4 : Option Addr) (L1 C1 : Nat), cell h3 (a3.add 1) = some (.slice a4 L1 C1) ∧
  HCalls Tryz.prog 21 #[.slice a4 L1 C1, .int .i64 time] h3 fun v2 h4 => ∃ r2 : Int, ∃ r3 : Bool, v2 = .tuple #[.int .i64 r2, .bool r3] ∧
  cond (!r3)
  (K (.int .i64 12) h4)
  (NN g fun a5 =>
  ∃ (a6 : Option Addr) (L2 C2 : Nat), cell h4 (a5.add 1) = some (.slice a6 L2 C2) ∧
  InR (r2 + 1) ∧
  NN g fun a7 =>
  ∃ (a8 : Option Addr) (L3 C3 : Nat), cell h4 (a7.add 2) = some (.slice a8 L3 C3) ∧
  InR (r2 + 1) ∧
  HCalls Tryz.prog 24 #[.slice a6 L2 C2] h4 fun v3 h5 => ∃ (r4 : Option Addr) (rL1 rC1 : Nat), v3 = .slice r4 rL1 rC1 ∧
  (∃ (a9 : Option Addr) (L4 C4 : Nat), cell h5 (a7.add 2) = some (.slice a9 L4 C4) ∧
  (.slice a9 L4 C4 : Value) = .slice a8 L3 C3) ∧
  HCalls Tryz.prog 26 #[.slice r4 rL1 rC1, .int .i64 r2, .int .i64 (r2 + 1)] h5 fun v4 h6 => ∃ (r5 : Option Addr) (rL2 rC2 : Nat), v4 = .slice r5 rL2 rC2 ∧
  (∃ (a10 : Option Addr) (L5 C5 : Nat), cell h6 (a7.add 2) = some (.slice a10 L5 C5) ∧
  (.slice a10 L5 C5 : Value) = .slice a8 L3 C3) ∧
  HCalls Tryz.prog 86 #[.slice a8 L3 C3] h6 fun v5 h7 => ∃ (r6 : Option Addr) (rL3 rC3 : Nat), v5 = .slice r6 rL3 rC3 ∧
  HCalls Tryz.prog 87 #[.slice r6 rL3 rC3, .int .i64 r2, .int .i64 (r2 + 1)] h7 fun v6 h8 => ∃ (r7 : Option Addr) (rL4 rC4 : Nat), v6 = .slice r7 rL4 rC4 ∧
  HCalls Tryz.prog 84 #[.pointer g, .slice r5 rL2 rC2, .slice r7 rL4 rC4] h8 fun v7 h9 => ∃ r8 : Int, v7 = .int .i64 r8 ∧
  K (.int .i64 r8) h9)))) := by kernel_rfl
theorem partialretro_Log_Revoke_call {g : Option Addr} {time : Int} {h : Hp} {K : Value → Hp → Prop} (hk : partialretro_Log_Revoke_b0 g time h K) : HCalls Tryz.prog 44 #[.pointer g, .int .i64 time] h K :=
  calls_of_snd partialretro_Log_Revoke_an Tryz.func44 (c := bodyOf Tryz.f44) rfl Tryz.ntmps44 (Nat.le_of_ble_eq_true rfl) (snd_1 F_ok F_mixed) hk

/-! ### partialretro_Log_Failed -/
def partialretro_Log_Failed_an : Ann := .leaf
def partialretro_Log_Failed_K0  (K : Value → Hp → Prop) : Exit → Env → Hp → Prop := retK Tryz.prog Tryz.f47.results.toList K
def partialretro_Log_Failed_b0 (g : Option Addr) (h : Hp)  (K : Value → Hp → Prop) : Prop :=
  sx_1 Tryz.prog F 14 (cp [] (bodyOf Tryz.f47)) (ap [] partialretro_Log_Failed_an) [(0, .pointer g)] h (partialretro_Log_Failed_K0  K)
theorem partialretro_Log_Failed_b0_eq (g : Option Addr) (h : Hp)  (K : Value → Hp → Prop) : partialretro_Log_Failed_b0 g h  K = (
  cond g.isNone
  (K (.tuple #[.int .i64 0, .int .i64 1]) h)
  (NN g fun a1 =>
  ∃ n1 : Int, cell h (a1.add 5) = some (.int .i64 n1) ∧
  NN g fun a2 =>
  ∃ n2 : Int, cell h (a2.add 6) = some (.int .i64 n2) ∧
  K (.tuple #[.int .i64 n1, .int .i64 n2]) h)) := by kernel_rfl
theorem partialretro_Log_Failed_call {g : Option Addr} {h : Hp} {K : Value → Hp → Prop} (hk : partialretro_Log_Failed_b0 g h K) : HCalls Tryz.prog 47 #[.pointer g] h K :=
  calls_of_snd partialretro_Log_Failed_an Tryz.func47 (c := bodyOf Tryz.f47) rfl Tryz.ntmps47 (Nat.le_of_ble_eq_true rfl) (snd_1 F_ok F_mixed) hk

/-! ### r03_Same -/
def r03_Same_an : Ann := .node none (.leaf) (.node (some [2, 3]) (.leaf) (.node (some []) (.node none (.leaf) (.loop [2, 3] [(5, .int .i64)] (.node none (.leaf) (.node (some [2, 3, 5]) (.leaf) (.leaf))))) (.leaf)))
def r03_Same_K0  (K : Value → Hp → Prop) : Exit → Env → Hp → Prop := retK Tryz.prog Tryz.f48.results.toList K
def r03_Same_K1  (K : Value → Hp → Prop) : Exit → Env → Hp → Prop := thenE (fun env h => sx_2 Tryz.prog F 39 (cp [1, 1, 1] (bodyOf Tryz.f48)) (ap [1, 1, 1] r03_Same_an) (rs [] env) h (r03_Same_K0  K)) (r03_Same_K0  K)
def r03_Same_K2  (K : Value → Hp → Prop) : Exit → Env → Hp → Prop := blockE 0 (r03_Same_K1  K)
def r03_Same_K3 (nx0 : Int × Unit → Hp → Prop) (K : Value → Hp → Prop) : Exit → Env → Hp → Prop := thenE (fun env h => getV [(5, .int .i64)] env fun s => nx0 s h) (r03_Same_K2  K)
def r03_Same_b0 (a_0 : Int) (a_1 : Option Addr) (a_1L : Nat) (a_1C : Nat) (b_0 : Int) (b_1 : Option Addr) (b_1L : Nat) (b_1C : Nat) (h : Hp)  (K : Value → Hp → Prop) : Prop :=
  sx_4 Tryz.prog F 39 (cp [] (bodyOf Tryz.f48)) (ap [] r03_Same_an) [(0, .agg #[.int .i64 a_0, .slice a_1 a_1L a_1C]), (1, .agg #[.int .i64 b_0, .slice b_1 b_1L b_1C])] h (r03_Same_K0  K)
def r03_Same_b1 (a : Option Addr) (b : Option Addr) (h : Hp)  (K : Value → Hp → Prop) : Prop :=
  sx_3 Tryz.prog F 39 (cp [1, 1] (bodyOf Tryz.f48)) (ap [1, 1] r03_Same_an) [(2, .pointer a), (3, .pointer b)] h (r03_Same_K0  K)
def r03_Same_b2 (i : Int) (a : Option Addr) (b : Option Addr) (h : Hp) (nx0 : Int × Unit → Hp → Prop) (K : Value → Hp → Prop) : Prop :=
  sx_2 Tryz.prog F 39 (cp [1, 1, 0, 1, 2, 2] (bodyOf Tryz.f48)) (ap [1, 1, 0, 1, 2] r03_Same_an) [(5, .int .i64 i), (2, .pointer a), (3, .pointer b)] h (r03_Same_K3 nx0 K)
def r03_Same_b3 (a : Option Addr) (b : Option Addr) (i : Int) (h : Hp) (nx0 : Int × Unit → Hp → Prop) (K : Value → Hp → Prop) : Prop :=
  sx_1 Tryz.prog F 39 (cp [1, 1, 0, 1, 2, 2, 1, 1] (bodyOf Tryz.f48)) (ap [1, 1, 0, 1, 2, 1, 1] r03_Same_an) [(2, .pointer a), (3, .pointer b), (5, .int .i64 i)] h (r03_Same_K3 nx0 K)
def r03_Same_b4  (h : Hp)  (K : Value → Hp → Prop) : Prop :=
  sx_2 Tryz.prog F 39 (cp [1, 1, 1] (bodyOf Tryz.f48)) (ap [1, 1, 1] r03_Same_an) [] h (r03_Same_K0  K)
theorem r03_Same_b0_eq (a_0 : Int) (a_1 : Option Addr) (a_1L : Nat) (a_1C : Nat) (b_0 : Int) (b_1 : Option Addr) (b_1L : Nat) (b_1C : Nat) (h : Hp)  (K : Value → Hp → Prop) : r03_Same_b0 a_0 a_1 a_1L a_1C b_0 b_1 b_1L b_1C h  K = (
  New h (.cells #[.int .i64 a_0, .slice a_1 a_1L a_1C] 66) fun b1 h1 =>
  New h1 (.cells #[.int .i64 b_0, .slice b_1 b_1L b_1C] 66) fun b2 h2 =>
  ∃ n1 : Int, cell h2 ⟨b1, 0, none⟩ = some (.int .i64 n1) ∧
  ∃ n2 : Int, cell h2 ⟨b2, 0, none⟩ = some (.int .i64 n2) ∧
  cond (!decide (n1 = n2))
  (K (.bool false) h2)
  (∃ (a1 : Option Addr) (L1 C1 : Nat), cell h2 ((⟨b1, 0, none⟩ : Addr).add 1) = some (.slice a1 L1 C1) ∧
  ∃ (a2 : Option Addr) (L2 C2 : Nat), cell h2 ((⟨b2, 0, none⟩ : Addr).add 1) = some (.slice a2 L2 C2) ∧
  cond (!decide ((L1 : Int) = (L2 : Int)))
  (K (.bool false) h2)
  (r03_Same_b1 (some ⟨b1, 0, none⟩) (some ⟨b2, 0, none⟩) h2  K))) := by kernel_rfl
theorem r03_Same_b1_eq (a : Option Addr) (b : Option Addr) (h : Hp)  (K : Value → Hp → Prop) : r03_Same_b1 a b h  K = (
  LoopVC ((0, ()) : Int × Unit) h (fun (nx0 : Int × Unit → Hp → Prop) (s1 : Int × Unit) h3 => r03_Same_b2 s1.1 a b h3 nx0 K)) := by kernel_rfl
theorem r03_Same_b2_eq (i : Int) (a : Option Addr) (b : Option Addr) (h : Hp) (nx0 : Int × Unit → Hp → Prop) (K : Value → Hp → Prop) : r03_Same_b2 i a b h nx0 K = (
  NN a fun a3 =>
  ∃ (a4 : Option Addr) (L3 C3 : Nat), cell h (a3.add 1) = some (.slice a4 L3 C3) ∧
  cond (decide (i < (L3 : Int)))
  (NN a fun a5 =>
  ∃ (a6 : Option Addr) (L4 C4 : Nat), cell h (a5.add 1) = some (.slice a6 L4 C4) ∧
  (0 ≤ i ∧ i < (L4 : Int)) ∧
  NN a6 fun a7 =>
  ∃ (a8 : Option Addr) (L5 C5 : Nat), cell h (a7.add (Int.toNat i * 1)) = some (.slice a8 L5 C5) ∧
  NN b fun a9 =>
  ∃ (a10 : Option Addr) (L6 C6 : Nat), cell h (a9.add 1) = some (.slice a10 L6 C6) ∧
  (0 ≤ i ∧ i < (L6 : Int)) ∧
  NN a10 fun a11 =>
  ∃ (a12 : Option Addr) (L7 C7 : Nat), cell h (a11.add (Int.toNat i * 1)) = some (.slice a12 L7 C7) ∧
  ∃ r1 : Bool, HCalls Tryz.prog 83 #[.slice a8 L5 C5, .slice a12 L7 C7] h (fun v1 h4 => v1 = .bool r1 ∧ h4 = h) ∧
  cond (!r1)
  (K (.bool false) h)
  (r03_Same_b3 a b i h nx0 K))
  (r03_Same_b4  h  K)) := by kernel_rfl
theorem r03_Same_b3_eq (a : Option Addr) (b : Option Addr) (i : Int) (h : Hp) (nx0 : Int × Unit → Hp → Prop) (K : Value → Hp → Prop) : r03_Same_b3 a b i h nx0 K = (
  InR (i + 1) ∧
  nx0 (i + 1, ()) h) := by kernel_rfl
theorem r03_Same_b4_eq  (h : Hp)  (K : Value → Hp → Prop) : r03_Same_b4  h  K = (
  K (.bool true) h) := by kernel_rfl
theorem r03_Same_call {a_0 : Int} {a_1 : Option Addr} {a_1L : Nat} {a_1C : Nat} {b_0 : Int} {b_1 : Option Addr} {b_1L : Nat} {b_1C : Nat} {h : Hp} {K : Value → Hp → Prop} (hk : r03_Same_b0 a_0 a_1 a_1L a_1C b_0 b_1 b_1L b_1C h K) : HCalls Tryz.prog 48 #[.agg #[.int .i64 a_0, .slice a_1 a_1L a_1C], .agg #[.int .i64 b_0, .slice b_1 b_1L b_1C]] h K :=
  calls_of_snd r03_Same_an Tryz.func48 (c := bodyOf Tryz.f48) rfl Tryz.ntmps48 (Nat.le_of_ble_eq_true rfl) (snd_4 F_ok F_mixed) hk

/-! ### partialretro_Log_State -/
def partialretro_Log_State_an : Ann := .node none (.leaf) (.node none (.leaf) (.node none (.leaf) (.node (some [2, 3]) (.node none (.leaf) (.loop [2, 3, 18, 19] [(20, .int .i64)] (.node none (.leaf) (.node none (.leaf) (.node (some [2, 3, 18, 19, 20]) (.node none (.leaf) (.plan (.qu 0 (.qu 1 (.qu 2 (.wo 3 (.wo 4 (.wo 5 (.qu 6 (.wo 7 .fin .no)) .no) .no) .no)))))) (.leaf)))))) (.leaf))))
def partialretro_Log_State_K0  (K : Value → Hp → Prop) : Exit → Env → Hp → Prop := retK Tryz.prog Tryz.f49.results.toList K
def partialretro_Log_State_K1  (K : Value → Hp → Prop) : Exit → Env → Hp → Prop := thenE (fun env h => sx_2 Tryz.prog F 33 (cp [1, 1, 1, 1] (bodyOf Tryz.f49)) (ap [1, 1, 1, 1] partialretro_Log_State_an) (rs [2, 3] env) h (partialretro_Log_State_K0  K)) (partialretro_Log_State_K0  K)
def partialretro_Log_State_K2  (K : Value → Hp → Prop) : Exit → Env → Hp → Prop := blockE 0 (partialretro_Log_State_K1  K)
def partialretro_Log_State_K3 (nx0 : Int × Unit → Hp → Prop) (K : Value → Hp → Prop) : Exit → Env → Hp → Prop := thenE (fun env h => getV [(20, .int .i64)] env fun s => nx0 s h) (partialretro_Log_State_K2  K)
def partialretro_Log_State_b0 (g : Option Addr) (h : Hp)  (K : Value → Hp → Prop) : Prop :=
  sx_3 Tryz.prog F 33 (cp [] (bodyOf Tryz.f49)) (ap [] partialretro_Log_State_an) [(0, .pointer g)] h (partialretro_Log_State_K0  K)
def partialretro_Log_State_b1 (t20 : Int) (t2 : Option Addr) (out : Option Addr) (t18 : Option Addr) (t18L : Nat) (t18C : Nat) (t19 : Int) (h : Hp) (nx0 : Int × Unit → Hp → Prop) (K : Value → Hp → Prop) : Prop :=
  sx_2 Tryz.prog F 33 (cp [1, 1, 1, 0, 1, 2, 2] (bodyOf Tryz.f49)) (ap [1, 1, 1, 0, 1, 2] partialretro_Log_State_an) [(20, .int .i64 t20), (2, .pointer t2), (3, .pointer out), (18, .slice t18 t18L t18C), (19, .int .i64 t19)] h (partialretro_Log_State_K3 nx0 K)
def partialretro_Log_State_b2 (t2 : Option Addr) (out : Option Addr) (t18 : Option Addr) (t18L : Nat) (t18C : Nat) (t19 : Int) (t20 : Int) (h : Hp) (nx0 : Int × Unit → Hp → Prop) (K : Value → Hp → Prop) : Prop :=
  sx_1 Tryz.prog F 33 (cp [1, 1, 1, 0, 1, 2, 2, 1, 1, 1] (bodyOf Tryz.f49)) (ap [1, 1, 1, 0, 1, 2, 1, 1, 1] partialretro_Log_State_an) [(2, .pointer t2), (3, .pointer out), (18, .slice t18 t18L t18C), (19, .int .i64 t19), (20, .int .i64 t20)] h (partialretro_Log_State_K3 nx0 K)
def partialretro_Log_State_b3 (t2 : Option Addr) (out : Option Addr) (h : Hp)  (K : Value → Hp → Prop) : Prop :=
  sx_2 Tryz.prog F 33 (cp [1, 1, 1, 1] (bodyOf Tryz.f49)) (ap [1, 1, 1, 1] partialretro_Log_State_an) [(2, .pointer t2), (3, .pointer out)] h (partialretro_Log_State_K0  K)
theorem partialretro_Log_State_b0_eq (g : Option Addr) (h : Hp)  (K : Value → Hp → Prop) : partialretro_Log_State_b0 g h  K = (
  New h (.cells #[.int .i64 0, .slice none 0 0] 66) fun b1 h1 =>
  cond g.isNone
  (Wr h1 ⟨b1, 0, none⟩ (.int .i64 0) fun h2 =>
  Wr h2 ((⟨b1, 0, none⟩ : Addr).add 1) (.slice none 0 0) fun h3 =>
  ∃ r1 : Int, ∃ (r2 : Option Addr) (rL1 rC1 : Nat), cell h3 ⟨b1, 0, none⟩ = some (.int .i64 r1) ∧
  cell h3 ((⟨b1, 0, none⟩ : Addr).add 1) = some (.slice r2 rL1 rC1) ∧
  K (.agg #[.int .i64 r1, .slice r2 rL1 rC1]) h3)
  (NN g fun a1 =>
  ∃ n1 : Int, cell h1 a1 = some (.int .i64 n1) ∧
  New h1 (.cells #[.int .i64 0, .slice none 0 0] 66) fun b2 h4 =>
  Wr h4 ⟨b2, 0, none⟩ (.int .i64 n1) fun h5 =>
  Wr h5 ((⟨b2, 0, none⟩ : Addr).add 1) (.slice none 0 0) fun h6 =>
  NN g fun a2 =>
  ∃ (a3 : Option Addr) (L1 C1 : Nat), cell h6 ((a2.add 3).add 1) = some (.slice a3 L1 C1) ∧
  LoopVC ((0, ()) : Int × Unit) h6 (fun (nx0 : Int × Unit → Hp → Prop) (s1 : Int × Unit) h7 => partialretro_Log_State_b1 s1.1 (some ⟨b1, 0, none⟩) (some ⟨b2, 0, none⟩) a3 L1 C1 (L1 : Int) h7 nx0 K))) := by kernel_rfl
theorem partialretro_Log_State_b1_eq (t20 : Int) (t2 : Option Addr) (out : Option Addr) (t18 : Option Addr) (t18L : Nat) (t18C : Nat) (t19 : Int) (h : Hp) (nx0 : Int × Unit → Hp → Prop) (K : Value → Hp → Prop) : partialretro_Log_State_b1 t20 t2 out t18 t18L t18C t19 h nx0 K = (
  cond (decide (t20 < t19))
  ((0 ≤ t20 ∧ t20 < (t18L : Int)) ∧
  NN t18 fun a4 =>
  ∃ (a5 : Option Addr) (L2 C2 : Nat), cell h (a4.add (Int.toNat t20 * 1)) = some (.slice a5 L2 C2) ∧
  NN out fun a6 =>
  ∃ (a7 : Option Addr) (L3 C3 : Nat), cell h (a6.add 1) = some (.slice a7 L3 C3) ∧
  HCalls Tryz.prog 24 #[.slice a5 L2 C2] h fun v1 h8 => ∃ (r3 : Option Addr) (rL2 rC2 : Nat), v1 = .slice r3 rL2 rC2 ∧
  (∃ (a8 : Option Addr) (L4 C4 : Nat), cell h8 (a6.add 1) = some (.slice a8 L4 C4) ∧
  (.slice a8 L4 C4 : Value) = .slice a7 L3 C3) ∧
  New h8 (.cells #[.slice r3 rL2 rC2] 23) fun b3 h9 =>
  (∃ (a9 : Option Addr) (L5 C5 : Nat), cell h9 (a6.add 1) = some (.slice a9 L5 C5) ∧
  (.slice a9 L5 C5 : Value) = .slice a7 L3 C3) ∧
  appendV Tryz.prog 64 64 (.slice a7 L3 C3) (.slice (some ⟨b3, 0, none⟩) 1 1) h9 (slK fun a10 l1 c1 h10 =>
  NN out fun a11 =>
  Wr h10 (a11.add 1) (.slice a10 l1 c1) fun h11 =>
  partialretro_Log_State_b2 t2 out t18 t18L t18C t19 t20 h11 nx0 K))
  (partialretro_Log_State_b3 t2 out h  K)) := by kernel_rfl
theorem partialretro_Log_State_b2_eq (t2 : Option Addr) (out : Option Addr) (t18 : Option Addr) (t18L : Nat) (t18C : Nat) (t19 : Int) (t20 : Int) (h : Hp) (nx0 : Int × Unit → Hp → Prop) (K : Value → Hp → Prop) : partialretro_Log_State_b2 t2 out t18 t18L t18C t19 t20 h nx0 K = (
  InR (t20 + 1) ∧
  nx0 (t20 + 1, ()) h) := by kernel_rfl
theorem partialretro_Log_State_b3_eq (t2 : Option Addr) (out : Option Addr) (h : Hp)  (K : Value → Hp → Prop) : partialretro_Log_State_b3 t2 out h  K = (
  NN out fun a12 =>
  ∃ n2 : Int, ∃ (a13 : Option Addr) (L6 C6 : Nat), cell h a12 = some (.int .i64 n2) ∧
  cell h (a12.add 1) = some (.slice a13 L6 C6) ∧
  NN t2 fun a14 =>
  Wr h a14 (.int .i64 n2) fun h12 =>
  Wr h12 (a14.add 1) (.slice a13 L6 C6) fun h13 =>
  NN t2 fun a15 =>
  ∃ r4 : Int, ∃ (r5 : Option Addr) (rL3 rC3 : Nat), cell h13 a15 = some (.int .i64 r4) ∧
  cell h13 (a15.add 1) = some (.slice r5 rL3 rC3) ∧
  K (.agg #[.int .i64 r4, .slice r5 rL3 rC3]) h13) := by kernel_rfl
theorem partialretro_Log_State_call {g : Option Addr} {h : Hp} {K : Value → Hp → Prop} (hk : partialretro_Log_State_b0 g h K) : HCalls Tryz.prog 49 #[.pointer g] h K :=
  calls_of_snd partialretro_Log_State_an Tryz.func49 (c := bodyOf Tryz.f49) rfl Tryz.ntmps49 (Nat.le_of_ble_eq_true rfl) (snd_3 F_ok F_mixed) hk

/-! ### model_New -/
def model_New_an : Ann := .leaf
def model_New_K0  (K : Value → Hp → Prop) : Exit → Env → Hp → Prop := retK Tryz.prog Tryz.f52.results.toList K
def model_New_b0 (kind : Int) (h : Hp)  (K : Value → Hp → Prop) : Prop :=
  sx_1 Tryz.prog F 10 (cp [] (bodyOf Tryz.f52)) (ap [] model_New_an) [(0, .int .i64 kind)] h (model_New_K0  K)
theorem model_New_b0_eq (kind : Int) (h : Hp)  (K : Value → Hp → Prop) : model_New_b0 kind h  K = (
  New h (.cells #[.int .i64 0, .slice none 0 0] 66) fun b1 h1 =>
  HCalls Tryz.prog 90 #[.int .i64 kind] h1 fun v1 h2 => ∃ (r1 : Option Addr) (rL1 rC1 : Nat), v1 = .slice r1 rL1 rC1 ∧
  cond (Option.isNone r1)
  (Wr h2 ⟨b1, 0, none⟩ (.int .i64 0) fun h3 =>
  Wr h3 ((⟨b1, 0, none⟩ : Addr).add 1) (.slice none 0 0) fun h4 =>
  ∃ r2 : Int, ∃ (r3 : Option Addr) (rL2 rC2 : Nat), cell h4 ⟨b1, 0, none⟩ = some (.int .i64 r2) ∧
  cell h4 ((⟨b1, 0, none⟩ : Addr).add 1) = some (.slice r3 rL2 rC2) ∧
  K (.tuple #[.agg #[.int .i64 r2, .slice r3 rL2 rC2], .int .i64 1]) h4)
  (Wr h2 ⟨b1, 0, none⟩ (.int .i64 kind) fun h5 =>
  Wr h5 ((⟨b1, 0, none⟩ : Addr).add 1) (.slice none 0 0) fun h6 =>
  ∃ r4 : Int, ∃ (r5 : Option Addr) (rL3 rC3 : Nat), cell h6 ⟨b1, 0, none⟩ = some (.int .i64 r4) ∧
  cell h6 ((⟨b1, 0, none⟩ : Addr).add 1) = some (.slice r5 rL3 rC3) ∧
  K (.tuple #[.agg #[.int .i64 r4, .slice r5 rL3 rC3], .int .i64 0]) h6)) := by kernel_rfl
theorem model_New_call {kind : Int} {h : Hp} {K : Value → Hp → Prop} (hk : model_New_b0 kind h K) : HCalls Tryz.prog 52 #[.int .i64 kind] h K :=
  calls_of_snd model_New_an Tryz.func52 (c := bodyOf Tryz.f52) rfl Tryz.ntmps52 (Nat.le_of_ble_eq_true rfl) (snd_1 F_ok F_mixed) hk

/-! ### slices_ContainsFunc_Sl35_Step_l35_Step -/
def slices_ContainsFunc_Sl35_Step_l35_Step_an : Ann := .leaf
def slices_ContainsFunc_Sl35_Step_l35_Step_K0  (K : Value → Hp → Prop) : Exit → Env → Hp → Prop := retK Tryz.prog Tryz.f54.results.toList K
def slices_ContainsFunc_Sl35_Step_l35_Step_b0 (s : Option Addr) (sL : Nat) (sC : Nat) (f : Value) (h : Hp)  (K : Value → Hp → Prop) : Prop :=
  sx_1 Tryz.prog F 9 (cp [] (bodyOf Tryz.f54)) (ap [] slices_ContainsFunc_Sl35_Step_l35_Step_an) [(0, .slice s sL sC), (1, f)] h (slices_ContainsFunc_Sl35_Step_l35_Step_K0  K)
theorem slices_ContainsFunc_Sl35_Step_l35_Step_b0_eq (s : Option Addr) (sL : Nat) (sC : Nat) (f : Value) (h : Hp)  (K : Value → Hp → Prop) : slices_ContainsFunc_Sl35_Step_l35_Step_b0 s sL sC f h  K = (
  HCalls Tryz.prog 94 #[.slice s sL sC, f] h fun v1 h1 => ∃ r1 : Int, v1 = .int .i64 r1 ∧
  K (.bool (decide ((0 : Int) ≤ r1))) h1) := by kernel_rfl
theorem slices_ContainsFunc_Sl35_Step_l35_Step_call {s : Option Addr} {sL : Nat} {sC : Nat} {f : Value} {h : Hp} {K : Value → Hp → Prop} (hk : slices_ContainsFunc_Sl35_Step_l35_Step_b0 s sL sC f h K) : HCalls Tryz.prog 54 #[.slice s sL sC, f] h K :=
  calls_of_snd slices_ContainsFunc_Sl35_Step_l35_Step_an Tryz.func54 (c := bodyOf Tryz.f54) rfl Tryz.ntmps54 (Nat.le_of_ble_eq_true rfl) (snd_1 F_ok F_mixed) hk

/-! ### l35_few_c1 -/
def l35_few_c1_an : Ann := .leaf
def l35_few_c1_K0  (K : Value → Hp → Prop) : Exit → Env → Hp → Prop := retK Tryz.prog Tryz.f55.results.toList K
def l35_few_c1_b0 (s_0 : Int) (s_1 : Int) (s_2 : Int) (s_3 : Int) (s_4 : Option Addr) (s_4L : Nat) (s_4C : Nat) (h : Hp)  (K : Value → Hp → Prop) : Prop :=
  sx_1 Tryz.prog F 8 (cp [] (bodyOf Tryz.f55)) (ap [] l35_few_c1_an) [(0, .agg #[.int .i64 s_0, .int .i64 s_1, .int .i64 s_2, .int .i64 s_3, .slice s_4 s_4L s_4C])] h (l35_few_c1_K0  K)
theorem l35_few_c1_b0_eq (s_0 : Int) (s_1 : Int) (s_2 : Int) (s_3 : Int) (s_4 : Option Addr) (s_4L : Nat) (s_4C : Nat) (h : Hp)  (K : Value → Hp → Prop) : l35_few_c1_b0 s_0 s_1 s_2 s_3 s_4 s_4L s_4C h  K = (
  New h (.cells #[.int .i64 s_0, .int .i64 s_1, .int .i64 s_2, .int .i64 s_3, .slice s_4 s_4L s_4C] 27) fun b1 h1 =>
  ∃ (a1 : Option Addr) (L1 C1 : Nat), cell h1 (((⟨b1, 0, none⟩ : Addr).add 3).add 1) = some (.slice a1 L1 C1) ∧
  K (.bool (decide ((70 : Int) < (L1 : Int)))) h1) := by kernel_rfl
theorem l35_few_c1_call {s_0 : Int} {s_1 : Int} {s_2 : Int} {s_3 : Int} {s_4 : Option Addr} {s_4L : Nat} {s_4C : Nat} {h : Hp} {K : Value → Hp → Prop} (hk : l35_few_c1_b0 s_0 s_1 s_2 s_3 s_4 s_4L s_4C h K) : HCalls Tryz.prog 55 #[.agg #[.int .i64 s_0, .int .i64 s_1, .int .i64 s_2, .int .i64 s_3, .slice s_4 s_4L s_4C]] h K :=
  calls_of_snd l35_few_c1_an Tryz.func55 (c := bodyOf Tryz.f55) rfl Tryz.ntmps55 (Nat.le_of_ble_eq_true rfl) (snd_1 F_ok F_mixed) hk

/-! ### r35_Add -/
def r35_Add_an : Ann := .node none (.leaf) (.node (some [0, 3]) (.leaf) (.leaf))
def r35_Add_K0  (K : Value → Hp → Prop) : Exit → Env → Hp → Prop := retK Tryz.prog Tryz.f56.results.toList K
def r35_Add_b0 (l : Option Addr) (lL : Nat) (lC : Nat) (x_0 : Int) (x_1 : Int) (x_2 : Bool) (h : Hp)  (K : Value → Hp → Prop) : Prop :=
  sx_2 Tryz.prog F 38 (cp [] (bodyOf Tryz.f56)) (ap [] r35_Add_an) [(0, .slice l lL lC), (1, .agg #[.int .i64 x_0, .int .i64 x_1, .bool x_2])] h (r35_Add_K0  K)
def r35_Add_b1 (l : Option Addr) (lL : Nat) (lC : Nat) (x : Option Addr) (h : Hp)  (K : Value → Hp → Prop) : Prop :=
  sx_1 Tryz.prog F 38 (cp [1, 1] (bodyOf Tryz.f56)) (ap [1, 1] r35_Add_an) [(0, .slice l lL lC), (3, .pointer x)] h (r35_Add_K0  K)
theorem r35_Add_b0_eq (l : Option Addr) (lL : Nat) (lC : Nat) (x_0 : Int) (x_1 : Int) (x_2 : Bool) (h : Hp)  (K : Value → Hp → Prop) : r35_Add_b0 l lL lC x_0 x_1 x_2 h  K = (
  New h (.cells #[.int .i64 x_0, .int .i64 x_1, .bool x_2] 41) fun b1 h1 =>
  ∃ b2 : Bool, cell h1 ((⟨b1, 0, none⟩ : Addr).add 2) = some (.bool b2) ∧
  cond (!b2)
  (∃ n1 : Int, cell h1 ((⟨b1, 0, none⟩ : Addr).add 1) = some (.int .i64 n1) ∧
  HCalls Tryz.prog 12 #[.int .i64 n1] h1 fun v1 h2 => ∃ r1 : Bool, v1 = .bool r1 ∧
  cond (!r1)
  (K (.tuple #[.slice l lL lC, .int .i64 1]) h2)
  (r35_Add_b1 l lL lC (some ⟨b1, 0, none⟩) h2  K))
  (r35_Add_b1 l lL lC (some ⟨b1, 0, none⟩) h1  K)) := by kernel_rfl
theorem r35_Add_b1_eq (l : Option Addr) (lL : Nat) (lC : Nat) (x : Option Addr) (h : Hp)  (K : Value → Hp → Prop) : r35_Add_b1 l lL lC x h  K = (
  NN x fun a1 =>
  ∃ n2 : Int, cell h a1 = some (.int .i64 n2) ∧
  HCalls Tryz.prog 11 #[.int .i64 n2] h fun v2 h3 => ∃ r2 : Bool, v2 = .bool r2 ∧
  cond (!r2)
  (K (.tuple #[.slice l lL lC, .int .i64 2]) h3)
  (NN x fun a2 =>
  ∃ n3 : Int, cell h3 a2 = some (.int .i64 n3) ∧
  HCalls Tryz.prog 15 #[.slice l lL lC, .int .i64 n3] h3 fun v3 h4 => ∃ r3 : Int, v3 = .int .i64 r3 ∧
  cond (decide ((0 : Int) ≤ r3))
  (K (.tuple #[.slice l lL lC, .int .i64 15]) h4)
  (cond (decide ((lL : Int) = 2000))
  (K (.tuple #[.slice l lL lC, .int .i64 4]) h4)
  (NN x fun a3 =>
  ∃ n4 : Int, ∃ n5 : Int, ∃ b3 : Bool, cell h4 a3 = some (.int .i64 n4) ∧
  cell h4 (a3.add 1) = some (.int .i64 n5) ∧
  cell h4 (a3.add 2) = some (.bool b3) ∧
  HCalls Tryz.prog 96 #[.slice l lL lC, .agg #[.int .i64 n4, .int .i64 n5, .bool b3]] h4 fun v4 h5 => ∃ (r4 : Option Addr) (rL1 rC1 : Nat), v4 = .slice r4 rL1 rC1 ∧
  HCalls Tryz.prog 95 #[.slice l lL lC, .slice r4 rL1 rC1] h5 fun v5 h6 => ∃ (r5 : Option Addr) (rL2 rC2 : Nat), ∃ r6 : Int, v5 = .tuple #[.slice r5 rL2 rC2, .int .i64 r6] ∧
  K (.tuple #[.slice r5 rL2 rC2, .int .i64 r6]) h6)))) := by kernel_rfl
theorem r35_Add_call {l : Option Addr} {lL : Nat} {lC : Nat} {x_0 : Int} {x_1 : Int} {x_2 : Bool} {h : Hp} {K : Value → Hp → Prop} (hk : r35_Add_b0 l lL lC x_0 x_1 x_2 h K) : HCalls Tryz.prog 56 #[.slice l lL lC, .agg #[.int .i64 x_0, .int .i64 x_1, .bool x_2]] h K :=
  calls_of_snd r35_Add_an Tryz.func56 (c := bodyOf Tryz.f56) rfl Tryz.ntmps56 (Nat.le_of_ble_eq_true rfl) (snd_2 F_ok F_mixed) hk

/-! ### r35_Revoke -/
def r35_Revoke_an : Ann := .leaf
def r35_Revoke_K0  (K : Value → Hp → Prop) : Exit → Env → Hp → Prop := retK Tryz.prog Tryz.f57.results.toList K
def r35_Revoke_b0 (l : Option Addr) (lL : Nat) (lC : Nat) (time : Int) (h : Hp)  (K : Value → Hp → Prop) : Prop :=
  sx_1 Tryz.prog F 24 (cp [] (bodyOf Tryz.f57)) (ap [] r35_Revoke_an) [(0, .slice l lL lC), (1, .int .i64 time)] h (r35_Revoke_K0  K)
theorem r35_Revoke_b0_eq (l : Option Addr) (lL : Nat) (lC : Nat) (time : Int) (h : Hp)  (K : Value → Hp → Prop) : r35_Revoke_b0 l lL lC time h  K = (
  HCalls Tryz.prog 11 #[.int .i64 time] h fun v1 h1 => ∃ r1 : Bool, v1 = .bool r1 ∧
  cond (!r1)
  (K (.tuple #[.slice l lL lC, .int .i64 2]) h1)
  (HCalls Tryz.prog 15 #[.slice l lL lC, .int .i64 time] h1 fun v2 h2 => ∃ r2 : Int, v2 = .int .i64 r2 ∧
  cond (decide (r2 < 0))
  (K (.tuple #[.slice l lL lC, .int .i64 12]) h2)
  (HCalls Tryz.prog 97 #[.slice l lL lC, .int .i64 r2] h2 fun v3 h3 => ∃ (r3 : Option Addr) (rL1 rC1 : Nat), v3 = .slice r3 rL1 rC1 ∧
  HCalls Tryz.prog 95 #[.slice l lL lC, .slice r3 rL1 rC1] h3 fun v4 h4 => ∃ (r4 : Option Addr) (rL2 rC2 : Nat), ∃ r5 : Int, v4 = .tuple #[.slice r4 rL2 rC2, .int .i64 r5] ∧
  K (.tuple #[.slice r4 rL2 rC2, .int .i64 r5]) h4))) := by kernel_rfl
theorem r35_Revoke_call {l : Option Addr} {lL : Nat} {lC : Nat} {time : Int} {h : Hp} {K : Value → Hp → Prop} (hk : r35_Revoke_b0 l lL lC time h K) : HCalls Tryz.prog 57 #[.slice l lL lC, .int .i64 time] h K :=
  calls_of_snd r35_Revoke_an Tryz.func57 (c := bodyOf Tryz.f57) rfl Tryz.ntmps57 (Nat.le_of_ble_eq_true rfl) (snd_1 F_ok F_mixed) hk

end Go.Proofs.YtdlkohenamlnaaaGreat
