/- Plain statements of what each block of code of this seat asks; printed by a program, checked by Lean. -/
import Derived.Test.YtkdmcdnfakmapaaGreatSxV0
set_option maxRecDepth 10000
namespace Go.Proofs.YtkdmcdnfakmapaaGreat
open Go Go.Sx

/-! ### l43_BtreeModel -/
def l43_BtreeModel_an : Ann := .node none (.leaf) (.node (some [0, 1]) (.leaf) (.node none (.leaf) (.node none (.leaf) (.node (some [0, 1, 5, 7]) (.leaf) (.node none (.leaf) (.node (some [0, 1, 5, 7, 9]) (.leaf) (.node (some [0, 5, 7]) (.node none (.leaf) (.loop [0, 5, 7, 9, 73, 74] [(75, .int .i64)] (.node none (.leaf) (.node none (.leaf) (.node (some [0, 5, 7, 9, 73, 74, 75]) (.node none (.leaf) (.node none (.leaf) (.node none (.tail 8) (.leaf)))) (.leaf)))))) (.node none (.leaf) (.node none (.leaf) (.node (some [5, 7, 14, 15]) (.leaf) (.node (some [5, 14, 15]) (.node none (.leaf) (.loop [5, 7, 14, 15, 123] [(124, .int .i64)] (.node none (.leaf) (.node none (.leaf) (.node (some [5, 7, 14, 15, 123, 124]) (.node none (.leaf) (.node none (.leaf) (.node none (.leaf) (.node none (.plan (.qu 0 (.qu 1 (.qu 2 (.qu 3 (.qu 4 (.qu 5 (.qu 6 (.wo 7 (.qu 8 (.qu 9 (.qu 10 (.qu 11 (.wo 12 (.wo 13 (.wo 14 .fin .no) .no) .no))))) .no))))))))) (.leaf))))) (.leaf)))))) (.leaf))))))))))))
def l43_BtreeModel_K0  (K : Value → Hp → Prop) : Exit → Env → Hp → Prop := retK Tryz.prog Tryz.f3.results.toList K
def l43_BtreeModel_K1  (K : Value → Hp → Prop) : Exit → Env → Hp → Prop := thenE (fun env h => sx_4 Tryz.prog F 177 (cp [1, 1, 1, 1, 1, 1, 1, 1] (bodyOf Tryz.f3)) (ap [1, 1, 1, 1, 1, 1, 1, 1] l43_BtreeModel_an) (rs [0, 5, 7] env) h (l43_BtreeModel_K0  K)) (l43_BtreeModel_K0  K)
def l43_BtreeModel_K2  (K : Value → Hp → Prop) : Exit → Env → Hp → Prop := blockE 0 (l43_BtreeModel_K1  K)
def l43_BtreeModel_K3 (nx0 : Int × Unit → Hp → Prop) (K : Value → Hp → Prop) : Exit → Env → Hp → Prop := thenE (fun env h => getV [(75, .int .i64)] env fun s => nx0 s h) (l43_BtreeModel_K2  K)
def l43_BtreeModel_K4  (K : Value → Hp → Prop) : Exit → Env → Hp → Prop := thenE (fun env h => sx_2 Tryz.prog F 177 (cp [1, 1, 1, 1, 1, 1, 1, 1, 1, 1, 1, 1] (bodyOf Tryz.f3)) (ap [1, 1, 1, 1, 1, 1, 1, 1, 1, 1, 1, 1] l43_BtreeModel_an) (rs [5, 14, 15] env) h (l43_BtreeModel_K0  K)) (l43_BtreeModel_K0  K)
def l43_BtreeModel_K5  (K : Value → Hp → Prop) : Exit → Env → Hp → Prop := blockE 2 (l43_BtreeModel_K4  K)
def l43_BtreeModel_K6 (nx0 : Int × Unit → Hp → Prop) (K : Value → Hp → Prop) : Exit → Env → Hp → Prop := thenE (fun env h => getV [(124, .int .i64)] env fun s => nx0 s h) (l43_BtreeModel_K5  K)
def l43_BtreeModel_b0 (order : Int) (l : Option Addr) (lL : Nat) (lC : Nat) (h : Hp)  (K : Value → Hp → Prop) : Prop :=
  sx_8 Tryz.prog F 177 (cp [] (bodyOf Tryz.f3)) (ap [] l43_BtreeModel_an) [(0, .int .u8 order), (1, .slice l lL lC)] h (l43_BtreeModel_K0  K)
def l43_BtreeModel_b1 (order : Int) (l : Option Addr) (lL : Nat) (lC : Nat) (h : Hp)  (K : Value → Hp → Prop) : Prop :=
  sx_7 Tryz.prog F 177 (cp [1, 1] (bodyOf Tryz.f3)) (ap [1, 1] l43_BtreeModel_an) [(0, .int .u8 order), (1, .slice l lL lC)] h (l43_BtreeModel_K0  K)
def l43_BtreeModel_b2 (order : Int) (l : Option Addr) (lL : Nat) (lC : Nat) (t : Option Addr) (s : Option Addr) (h : Hp)  (K : Value → Hp → Prop) : Prop :=
  sx_6 Tryz.prog F 177 (cp [1, 1, 1, 1, 1] (bodyOf Tryz.f3)) (ap [1, 1, 1, 1, 1] l43_BtreeModel_an) [(0, .int .u8 order), (1, .slice l lL lC), (5, .pointer t), (7, .pointer s)] h (l43_BtreeModel_K0  K)
def l43_BtreeModel_b3 (order : Int) (l : Option Addr) (lL : Nat) (lC : Nat) (t : Option Addr) (s : Option Addr) (res : Option Addr) (resL : Nat) (resC : Nat) (h : Hp)  (K : Value → Hp → Prop) : Prop :=
  sx_5 Tryz.prog F 177 (cp [1, 1, 1, 1, 1, 1, 1] (bodyOf Tryz.f3)) (ap [1, 1, 1, 1, 1, 1, 1] l43_BtreeModel_an) [(0, .int .u8 order), (1, .slice l lL lC), (5, .pointer t), (7, .pointer s), (9, .slice res resL resC)] h (l43_BtreeModel_K0  K)
def l43_BtreeModel_b4 (t75 : Int) (order : Int) (t : Option Addr) (s : Option Addr) (res : Option Addr) (resL : Nat) (resC : Nat) (t73 : Option Addr) (t73L : Nat) (t73C : Nat) (t74 : Int) (h : Hp) (nx0 : Int × Unit → Hp → Prop) (K : Value → Hp → Prop) : Prop :=
  sx_4 Tryz.prog F 177 (cp [1, 1, 1, 1, 1, 1, 1, 0, 1, 2, 2] (bodyOf Tryz.f3)) (ap [1, 1, 1, 1, 1, 1, 1, 0, 1, 2] l43_BtreeModel_an) [(75, .int .i64 t75), (0, .int .u8 order), (5, .pointer t), (7, .pointer s), (9, .slice res resL resC), (73, .slice t73 t73L t73C), (74, .int .i64 t74)] h (l43_BtreeModel_K3 nx0 K)
def l43_BtreeModel_b5 (order : Int) (t : Option Addr) (s : Option Addr) (res : Option Addr) (resL : Nat) (resC : Nat) (t73 : Option Addr) (t73L : Nat) (t73C : Nat) (t74 : Int) (t75 : Int) (h : Hp) (nx0 : Int × Unit → Hp → Prop) (K : Value → Hp → Prop) : Prop :=
  sx_3 Tryz.prog F 177 (cp [1, 1, 1, 1, 1, 1, 1, 0, 1, 2, 2, 1, 1, 1] (bodyOf Tryz.f3)) (ap [1, 1, 1, 1, 1, 1, 1, 0, 1, 2, 1, 1, 1] l43_BtreeModel_an) [(0, .int .u8 order), (5, .pointer t), (7, .pointer s), (9, .slice res resL resC), (73, .slice t73 t73L t73C), (74, .int .i64 t74), (75, .int .i64 t75)] h (l43_BtreeModel_K3 nx0 K)
def l43_BtreeModel_b6 (order : Int) (t : Option Addr) (s : Option Addr) (h : Hp)  (K : Value → Hp → Prop) : Prop :=
  sx_4 Tryz.prog F 177 (cp [1, 1, 1, 1, 1, 1, 1, 1] (bodyOf Tryz.f3)) (ap [1, 1, 1, 1, 1, 1, 1, 1] l43_BtreeModel_an) [(0, .int .u8 order), (5, .pointer t), (7, .pointer s)] h (l43_BtreeModel_K0  K)
def l43_BtreeModel_b7 (t : Option Addr) (s : Option Addr) (x : Option Addr) (xL : Nat) (xC : Nat) (u : Option Addr) (h : Hp)  (K : Value → Hp → Prop) : Prop :=
  sx_3 Tryz.prog F 177 (cp [1, 1, 1, 1, 1, 1, 1, 1, 1, 1, 1] (bodyOf Tryz.f3)) (ap [1, 1, 1, 1, 1, 1, 1, 1, 1, 1, 1] l43_BtreeModel_an) [(5, .pointer t), (7, .pointer s), (14, .slice x xL xC), (15, .pointer u)] h (l43_BtreeModel_K0  K)
def l43_BtreeModel_b8 (t124 : Int) (t : Option Addr) (s : Option Addr) (x : Option Addr) (xL : Nat) (xC : Nat) (u : Option Addr) (t123 : Int) (h : Hp) (nx0 : Int × Unit → Hp → Prop) (K : Value → Hp → Prop) : Prop :=
  sx_2 Tryz.prog F 177 (cp [1, 1, 1, 1, 1, 1, 1, 1, 1, 1, 1, 0, 1, 2, 2] (bodyOf Tryz.f3)) (ap [1, 1, 1, 1, 1, 1, 1, 1, 1, 1, 1, 0, 1, 2] l43_BtreeModel_an) [(124, .int .i64 t124), (5, .pointer t), (7, .pointer s), (14, .slice x xL xC), (15, .pointer u), (123, .int .i64 t123)] h (l43_BtreeModel_K6 nx0 K)
def l43_BtreeModel_b9 (t : Option Addr) (s : Option Addr) (x : Option Addr) (xL : Nat) (xC : Nat) (u : Option Addr) (t123 : Int) (t124 : Int) (h : Hp) (nx0 : Int × Unit → Hp → Prop) (K : Value → Hp → Prop) : Prop :=
  sx_1 Tryz.prog F 177 (cp [1, 1, 1, 1, 1, 1, 1, 1, 1, 1, 1, 0, 1, 2, 2, 1, 1, 1] (bodyOf Tryz.f3)) (ap [1, 1, 1, 1, 1, 1, 1, 1, 1, 1, 1, 0, 1, 2, 1, 1, 1] l43_BtreeModel_an) [(5, .pointer t), (7, .pointer s), (14, .slice x xL xC), (15, .pointer u), (123, .int .i64 t123), (124, .int .i64 t124)] h (l43_BtreeModel_K6 nx0 K)
def l43_BtreeModel_b10 (t : Option Addr) (x : Option Addr) (xL : Nat) (xC : Nat) (u : Option Addr) (h : Hp)  (K : Value → Hp → Prop) : Prop :=
  sx_2 Tryz.prog F 177 (cp [1, 1, 1, 1, 1, 1, 1, 1, 1, 1, 1, 1] (bodyOf Tryz.f3)) (ap [1, 1, 1, 1, 1, 1, 1, 1, 1, 1, 1, 1] l43_BtreeModel_an) [(5, .pointer t), (14, .slice x xL xC), (15, .pointer u)] h (l43_BtreeModel_K0  K)
theorem l43_BtreeModel_b0_eq (order : Int) (l : Option Addr) (lL : Nat) (lC : Nat) (h : Hp)  (K : Value → Hp → Prop) : l43_BtreeModel_b0 order l lL lC h  K = (
  HCalls Tryz.prog 4 #[] h fun v1 h1 => ∃ r1 : Bool, v1 = .bool r1 ∧
  cond (!r1)
  (HCalls Tryz.prog 4 #[] h1 fun v2 h2 => ∃ r2 : Bool, v2 = .bool r2 ∧
  K (.bool r2) h2)
  (cond (decide ((40 : Int) < (lL : Int)))
  (HCalls Tryz.prog 4 #[] h1 fun v3 h3 => ∃ r3 : Bool, v3 = .bool r3 ∧
  K (.bool r3) h3)
  (HCalls Tryz.prog 5 #[.int .i64 1, .slice l lL lC] h1 fun v4 h4 => ∃ r4 : Bool, v4 = .bool r4 ∧
  cond (!r4)
  (HCalls Tryz.prog 4 #[] h4 fun v5 h5 => ∃ r5 : Bool, v5 = .bool r5 ∧
  K (.bool r5) h5)
  (l43_BtreeModel_b1 order l lL lC h4  K)))) := by kernel_rfl
theorem l43_BtreeModel_b1_eq (order : Int) (l : Option Addr) (lL : Nat) (lC : Nat) (h : Hp)  (K : Value → Hp → Prop) : l43_BtreeModel_b1 order l lL lC h  K = (
  InR order ∧
  ∃ r6 : Int, Sx.Rem order 10 r6 ∧
  InR (3 + r6) ∧
  HCalls Tryz.prog 6 #[.int .i64 (3 + r6)] h fun v6 h6 => ∃ r7 : Option Addr, ∃ r8 : Int, v6 = .tuple #[.pointer r7, .int .i64 r8] ∧
  HCalls Tryz.prog 7 #[.int .i64 1] h6 fun v7 h7 => ∃ r9 : Int, ∃ (r10 : Option Addr) (rL1 rC1 : Nat), ∃ r11 : Int, v7 = .tuple #[.agg #[.int .i64 r9, .slice r10 rL1 rC1], .int .i64 r11] ∧
  New h7 (.cells #[.int .i64 0, .slice none 0 0] 31) fun b1 h8 =>
  Wr h8 ⟨b1, 0, none⟩ (.int .i64 r9) fun h9 =>
  Wr h9 ((⟨b1, 0, none⟩ : Addr).add 1) (.slice r10 rL1 rC1) fun h10 =>
  cond r7.isNone
  (K (.bool false) h10)
  (cond (!decide (r8 = 0))
  (K (.bool false) h10)
  (cond (!decide (r11 = 0))
  (K (.bool false) h10)
  (l43_BtreeModel_b2 order l lL lC r7 (some ⟨b1, 0, none⟩) h10  K)))) := by kernel_rfl
theorem l43_BtreeModel_b2_eq (order : Int) (l : Option Addr) (lL : Nat) (lC : Nat) (t : Option Addr) (s : Option Addr) (h : Hp)  (K : Value → Hp → Prop) : l43_BtreeModel_b2 order l lL lC t s h  K = (
  NN s fun a1 =>
  ∃ n1 : Int, ∃ (a2 : Option Addr) (L1 C1 : Nat), cell h a1 = some (.int .i64 n1) ∧
  cell h (a1.add 1) = some (.slice a2 L1 C1) ∧
  HCalls Tryz.prog 8 #[.agg #[.int .i64 n1, .slice a2 L1 C1], .slice l lL lC] h fun v8 h11 => ∃ r12 : Int, ∃ (r13 : Option Addr) (rL2 rC2 : Nat), ∃ (r14 : Option Addr) (rL3 rC3 : Nat), ∃ r15 : Int, v8 = .tuple #[.agg #[.int .i64 r12, .slice r13 rL2 rC2], .slice r14 rL3 rC3, .int .i64 r15] ∧
  NN s fun a3 =>
  Wr h11 a3 (.int .i64 r12) fun h12 =>
  Wr h12 (a3.add 1) (.slice r13 rL2 rC2) fun h13 =>
  cond (!decide (r15 = 0))
  (K (.bool false) h13)
  (cond (!decide ((rL3 : Int) = (lL : Int)))
  (K (.bool false) h13)
  (l43_BtreeModel_b3 order l lL lC t s r14 rL3 rC3 h13  K))) := by kernel_rfl
theorem l43_BtreeModel_b3_eq (order : Int) (l : Option Addr) (lL : Nat) (lC : Nat) (t : Option Addr) (s : Option Addr) (res : Option Addr) (resL : Nat) (resC : Nat) (h : Hp)  (K : Value → Hp → Prop) : l43_BtreeModel_b3 order l lL lC t s res resL resC h  K = (
  LoopVC ((0, ()) : Int × Unit) h (fun (nx0 : Int × Unit → Hp → Prop) (s1 : Int × Unit) h14 => l43_BtreeModel_b4 s1.1 order t s res resL resC l lL lC (lL : Int) h14 nx0 K)) := by kernel_rfl
theorem l43_BtreeModel_b4_eq (t75 : Int) (order : Int) (t : Option Addr) (s : Option Addr) (res : Option Addr) (resL : Nat) (resC : Nat) (t73 : Option Addr) (t73L : Nat) (t73C : Nat) (t74 : Int) (h : Hp) (nx0 : Int × Unit → Hp → Prop) (K : Value → Hp → Prop) : l43_BtreeModel_b4 t75 order t s res resL resC t73 t73L t73C t74 h nx0 K = (
  cond (decide (t75 < t74))
  ((0 ≤ t75 ∧ t75 < (t73L : Int)) ∧
  NN t73 fun a4 =>
  ∃ n2 : Int, ∃ (a5 : Option Addr) (L2 C2 : Nat), cell h (a4.add (Int.toNat t75 * 2)) = some (.int .i64 n2) ∧
  cell h ((a4.add (Int.toNat t75 * 2)).add 1) = some (.slice a5 L2 C2) ∧
  New h (.cells #[.int .i64 0, .slice none 0 0] 39) fun b2 h15 =>
  Wr h15 ⟨b2, 0, none⟩ (.int .i64 n2) fun h16 =>
  Wr h16 ((⟨b2, 0, none⟩ : Addr).add 1) (.slice a5 L2 C2) fun h17 =>
  ∃ n3 : Int, ∃ (a6 : Option Addr) (L3 C3 : Nat), cell h17 ⟨b2, 0, none⟩ = some (.int .i64 n3) ∧
  cell h17 ((⟨b2, 0, none⟩ : Addr).add 1) = some (.slice a6 L3 C3) ∧
  HCalls Tryz.prog 9 #[.pointer t, .agg #[.int .i64 n3, .slice a6 L3 C3]] h17 fun v9 h18 => ∃ r16 : Int, ∃ r17 : Int, ∃ (r18 : Option Addr) (rL4 rC4 : Nat), ∃ r19 : Int, v9 = .tuple #[.agg #[.int .i64 r16, .int .i64 r17, .slice r18 rL4 rC4], .int .i64 r19] ∧
  New h18 (.cells #[.int .i64 0, .int .i64 0, .slice none 0 0] 41) fun b3 h19 =>
  Wr h19 ⟨b3, 0, none⟩ (.int .i64 r16) fun h20 =>
  Wr h20 ((⟨b3, 0, none⟩ : Addr).add 1) (.int .i64 r17) fun h21 =>
  Wr h21 ((⟨b3, 0, none⟩ : Addr).add 2) (.slice r18 rL4 rC4) fun h22 =>
  cond (!decide (r19 = 0))
  (K (.bool false) h22)
  (∃ n4 : Int, ∃ n5 : Int, ∃ (a7 : Option Addr) (L4 C4 : Nat), cell h22 ⟨b3, 0, none⟩ = some (.int .i64 n4) ∧
  cell h22 ((⟨b3, 0, none⟩ : Addr).add 1) = some (.int .i64 n5) ∧
  cell h22 ((⟨b3, 0, none⟩ : Addr).add 2) = some (.slice a7 L4 C4) ∧
  (0 ≤ t75 ∧ t75 < (resL : Int)) ∧
  NN res fun a8 =>
  ∃ n6 : Int, ∃ n7 : Int, ∃ (a9 : Option Addr) (L5 C5 : Nat), cell h22 (a8.add (Int.toNat t75 * 3)) = some (.int .i64 n6) ∧
  cell h22 ((a8.add (Int.toNat t75 * 3)).add 1) = some (.int .i64 n7) ∧
  cell h22 ((a8.add (Int.toNat t75 * 3)).add 2) = some (.slice a9 L5 C5) ∧
  HCalls Tryz.prog 10 #[.agg #[.int .i64 n4, .int .i64 n5, .slice a7 L4 C4], .agg #[.int .i64 n6, .int .i64 n7, .slice a9 L5 C5]] h22 fun v10 h23 => ∃ r20 : Bool, v10 = .bool r20 ∧
  cond (!r20)
  (K (.bool false) h23)
  (l43_BtreeModel_b5 order t s res resL resC t73 t73L t73C t74 t75 h23 nx0 K)))
  (l43_BtreeModel_b6 order t s h  K)) := by kernel_rfl
theorem l43_BtreeModel_b5_eq (order : Int) (t : Option Addr) (s : Option Addr) (res : Option Addr) (resL : Nat) (resC : Nat) (t73 : Option Addr) (t73L : Nat) (t73C : Nat) (t74 : Int) (t75 : Int) (h : Hp) (nx0 : Int × Unit → Hp → Prop) (K : Value → Hp → Prop) : l43_BtreeModel_b5 order t s res resL resC t73 t73L t73C t74 t75 h nx0 K = (
  InR (t75 + 1) ∧
  nx0 (t75 + 1, ()) h) := by kernel_rfl
theorem l43_BtreeModel_b6_eq (order : Int) (t : Option Addr) (s : Option Addr) (h : Hp)  (K : Value → Hp → Prop) : l43_BtreeModel_b6 order t s h  K = (
  HCalls Tryz.prog 11 #[.pointer t, .int .i64 (-1048576), .int .i64 1048576] h fun v11 h24 => ∃ (r21 : Option Addr) (rL5 rC5 : Nat), ∃ r22 : Int, v11 = .tuple #[.slice r21 rL5 rC5, .int .i64 r22] ∧
  InR order ∧
  ∃ r23 : Int, Sx.Rem order 10 r23 ∧
  InR (3 + r23) ∧
  HCalls Tryz.prog 6 #[.int .i64 (3 + r23)] h24 fun v12 h25 => ∃ r24 : Option Addr, ∃ r25 : Int, v12 = .tuple #[.pointer r24, .int .i64 r25] ∧
  cond (!decide (r22 = 0))
  (K (.bool false) h25)
  (cond r24.isNone
  (K (.bool false) h25)
  (cond (!decide (r25 = 0))
  (K (.bool false) h25)
  (l43_BtreeModel_b7 t s r21 rL5 rC5 r24 h25  K)))) := by kernel_rfl
theorem l43_BtreeModel_b7_eq (t : Option Addr) (s : Option Addr) (x : Option Addr) (xL : Nat) (xC : Nat) (u : Option Addr) (h : Hp)  (K : Value → Hp → Prop) : l43_BtreeModel_b7 t s x xL xC u h  K = (
  NN s fun a10 =>
  ∃ (a11 : Option Addr) (L6 C6 : Nat), cell h (a10.add 1) = some (.slice a11 L6 C6) ∧
  LoopVC ((0, ()) : Int × Unit) h (fun (nx0 : Int × Unit → Hp → Prop) (s2 : Int × Unit) h26 => l43_BtreeModel_b8 s2.1 t s x xL xC u (L6 : Int) h26 nx0 K)) := by kernel_rfl
theorem l43_BtreeModel_b8_eq (t124 : Int) (t : Option Addr) (s : Option Addr) (x : Option Addr) (xL : Nat) (xC : Nat) (u : Option Addr) (t123 : Int) (h : Hp) (nx0 : Int × Unit → Hp → Prop) (K : Value → Hp → Prop) : l43_BtreeModel_b8 t124 t s x xL xC u t123 h nx0 K = (
  cond (decide (t124 < t123))
  (NN s fun a12 =>
  ∃ (a13 : Option Addr) (L7 C7 : Nat), cell h (a12.add 1) = some (.slice a13 L7 C7) ∧
  NN s fun a14 =>
  ∃ (a15 : Option Addr) (L8 C8 : Nat), cell h (a14.add 1) = some (.slice a15 L8 C8) ∧
  InR ((L8 : Int) - 1) ∧
  InR (((L8 : Int) - 1) - t124) ∧
  (0 ≤ ((L8 : Int) - 1) - t124 ∧ ((L8 : Int) - 1) - t124 < (L7 : Int)) ∧
  NN a13 fun a16 =>
  ∃ (a17 : Option Addr) (L9 C9 : Nat), cell h (a16.add (Int.toNat (((L8 : Int) - 1) - t124) * 1)) = some (.slice a17 L9 C9) ∧
  cond (!decide ((L9 : Int) = 2))
  (K (.bool false) h)
  ((0 ≤ (0 : Int) ∧ (0 : Int) < (L9 : Int)) ∧
  NN a17 fun a18 =>
  ∃ n8 : Int, cell h (a18.add (Int.toNat (0 : Int) * 1)) = some (.int .i64 n8) ∧
  (0 ≤ (1 : Int) ∧ (1 : Int) < (L9 : Int)) ∧
  NN a17 fun a19 =>
  ∃ n9 : Int, cell h (a19.add (Int.toNat (1 : Int) * 1)) = some (.int .i64 n9) ∧
  HCalls Tryz.prog 12 #[.pointer u, .int .i64 n8, .int .i64 n9] h fun v13 h27 => ∃ r26 : Int, ∃ r27 : Bool, ∃ r28 : Int, v13 = .tuple #[.int .i64 r26, .bool r27, .int .i64 r28] ∧
  cond r27
  (K (.bool false) h27)
  (cond (!decide (r28 = 0))
  (K (.bool false) h27)
  (l43_BtreeModel_b9 t s x xL xC u t123 t124 h27 nx0 K))))
  (l43_BtreeModel_b10 t x xL xC u h  K)) := by kernel_rfl
theorem l43_BtreeModel_b9_eq (t : Option Addr) (s : Option Addr) (x : Option Addr) (xL : Nat) (xC : Nat) (u : Option Addr) (t123 : Int) (t124 : Int) (h : Hp) (nx0 : Int × Unit → Hp → Prop) (K : Value → Hp → Prop) : l43_BtreeModel_b9 t s x xL xC u t123 t124 h nx0 K = (
  InR (t124 + 1) ∧
  nx0 (t124 + 1, ()) h) := by kernel_rfl
theorem l43_BtreeModel_b10_eq (t : Option Addr) (x : Option Addr) (xL : Nat) (xC : Nat) (u : Option Addr) (h : Hp)  (K : Value → Hp → Prop) : l43_BtreeModel_b10 t x xL xC u h  K = (
  HCalls Tryz.prog 11 #[.pointer u, .int .i64 (-1048576), .int .i64 1048576] h fun v14 h28 => ∃ (r29 : Option Addr) (rL6 rC6 : Nat), ∃ r30 : Int, v14 = .tuple #[.slice r29 rL6 rC6, .int .i64 r30] ∧
  cond (decide (r30 = 0))
  (HCalls Tryz.prog 13 #[.slice x xL xC, .slice r29 rL6 rC6] h28 fun v15 h29 => ∃ r31 : Bool, v15 = .bool r31 ∧
  cond r31
  (HCalls Tryz.prog 14 #[.pointer t] h29 fun v16 h30 => ∃ r32 : Int, v16 = .int .i64 r32 ∧
  HCalls Tryz.prog 14 #[.pointer u] h30 fun v17 h31 => ∃ r33 : Int, v17 = .int .i64 r33 ∧
  K (.bool (decide (r32 = r33))) h31)
  (K (.bool false) h29))
  (K (.bool false) h28)) := by kernel_rfl
theorem l43_BtreeModel_call {order : Int} {l : Option Addr} {lL : Nat} {lC : Nat} {h : Hp} {K : Value → Hp → Prop} (hk : l43_BtreeModel_b0 order l lL lC h K) : HCalls Tryz.prog 3 #[.int .u8 order, .slice l lL lC] h K :=
  calls_of_snd l43_BtreeModel_an Tryz.func3 (c := bodyOf Tryz.f3) rfl Tryz.ntmps3 (Nat.le_of_ble_eq_true rfl) (snd_8 F_ok F_mixed) hk

/-! ### l43_awake -/
def l43_awake_an : Ann := .node none (.leaf) (.node none (.leaf) (.node (some [1]) (.leaf) (.node (some [1]) (.node none (.leaf) (.loop [1] [(3, .int .i64)] (.node none (.leaf) (.node (some [1, 3]) (.leaf) (.leaf))))) (.leaf))))
def l43_awake_K0  (K : Value → Hp → Prop) : Exit → Env → Hp → Prop := retK Tryz.prog Tryz.f4.results.toList K
def l43_awake_K1  (K : Value → Hp → Prop) : Exit → Env → Hp → Prop := thenE (fun env h => sx_2 Tryz.prog F 69 (cp [1, 1, 1, 1] (bodyOf Tryz.f4)) (ap [1, 1, 1, 1] l43_awake_an) (rs [1] env) h (l43_awake_K0  K)) (l43_awake_K0  K)
def l43_awake_K2  (K : Value → Hp → Prop) : Exit → Env → Hp → Prop := blockE 0 (l43_awake_K1  K)
def l43_awake_K3 (nx0 : Int × Unit → Hp → Prop) (K : Value → Hp → Prop) : Exit → Env → Hp → Prop := thenE (fun env h => getV [(3, .int .i64)] env fun s => nx0 s h) (l43_awake_K2  K)
def l43_awake_b0  (h : Hp)  (K : Value → Hp → Prop) : Prop :=
  sx_4 Tryz.prog F 69 (cp [] (bodyOf Tryz.f4)) (ap [] l43_awake_an) [] h (l43_awake_K0  K)
def l43_awake_b1 (t : Option Addr) (h : Hp)  (K : Value → Hp → Prop) : Prop :=
  sx_3 Tryz.prog F 69 (cp [1, 1, 1] (bodyOf Tryz.f4)) (ap [1, 1, 1] l43_awake_an) [(1, .pointer t)] h (l43_awake_K0  K)
def l43_awake_b2 (k : Int) (t : Option Addr) (h : Hp) (nx0 : Int × Unit → Hp → Prop) (K : Value → Hp → Prop) : Prop :=
  sx_2 Tryz.prog F 69 (cp [1, 1, 1, 0, 1, 2, 2] (bodyOf Tryz.f4)) (ap [1, 1, 1, 0, 1, 2] l43_awake_an) [(3, .int .i64 k), (1, .pointer t)] h (l43_awake_K3 nx0 K)
def l43_awake_b3 (t : Option Addr) (k : Int) (h : Hp) (nx0 : Int × Unit → Hp → Prop) (K : Value → Hp → Prop) : Prop :=
  sx_1 Tryz.prog F 69 (cp [1, 1, 1, 0, 1, 2, 2, 1, 1] (bodyOf Tryz.f4)) (ap [1, 1, 1, 0, 1, 2, 1, 1] l43_awake_an) [(1, .pointer t), (3, .int .i64 k)] h (l43_awake_K3 nx0 K)
def l43_awake_b4 (t : Option Addr) (h : Hp)  (K : Value → Hp → Prop) : Prop :=
  sx_2 Tryz.prog F 69 (cp [1, 1, 1, 1] (bodyOf Tryz.f4)) (ap [1, 1, 1, 1] l43_awake_an) [(1, .pointer t)] h (l43_awake_K0  K)
theorem l43_awake_b0_eq  (h : Hp)  (K : Value → Hp → Prop) : l43_awake_b0  h  K = (
  HCalls Tryz.prog 6 #[.int .i64 3] h fun v1 h1 => ∃ r1 : Option Addr, ∃ r2 : Int, v1 = .tuple #[.pointer r1, .int .i64 r2] ∧
  cond (!decide (r2 = 0))
  (K (.bool false) h1)
  (cond r1.isNone
  (K (.bool false) h1)
  (l43_awake_b1 r1 h1  K))) := by kernel_rfl
theorem l43_awake_b1_eq (t : Option Addr) (h : Hp)  (K : Value → Hp → Prop) : l43_awake_b1 t h  K = (
  LoopVC ((1, ()) : Int × Unit) h (fun (nx0 : Int × Unit → Hp → Prop) (s1 : Int × Unit) h2 => l43_awake_b2 s1.1 t h2 nx0 K)) := by kernel_rfl
theorem l43_awake_b2_eq (k : Int) (t : Option Addr) (h : Hp) (nx0 : Int × Unit → Hp → Prop) (K : Value → Hp → Prop) : l43_awake_b2 k t h nx0 K = (
  cond (decide (k ≤ 3))
  (InR (10 * k) ∧
  HCalls Tryz.prog 12 #[.pointer t, .int .i64 k, .int .i64 (10 * k)] h fun v2 h3 => ∃ r3 : Int, ∃ r4 : Bool, ∃ r5 : Int, v2 = .tuple #[.int .i64 r3, .bool r4, .int .i64 r5] ∧
  cond r4
  (K (.bool false) h3)
  (cond (!decide (r5 = 0))
  (K (.bool false) h3)
  (l43_awake_b3 t k h3 nx0 K)))
  (l43_awake_b4 t h  K)) := by kernel_rfl
theorem l43_awake_b3_eq (t : Option Addr) (k : Int) (h : Hp) (nx0 : Int × Unit → Hp → Prop) (K : Value → Hp → Prop) : l43_awake_b3 t k h nx0 K = (
  InR (k + 1) ∧
  nx0 (k + 1, ()) h) := by kernel_rfl
theorem l43_awake_b4_eq (t : Option Addr) (h : Hp)  (K : Value → Hp → Prop) : l43_awake_b4 t h  K = (
  HCalls Tryz.prog 15 #[.pointer t, .int .i64 2] h fun v3 h4 => ∃ r6 : Int, ∃ r7 : Int, v3 = .tuple #[.int .i64 r6, .int .i64 r7] ∧
  HCalls Tryz.prog 14 #[.pointer t] h4 fun v4 h5 => ∃ r8 : Int, v4 = .int .i64 r8 ∧
  cond (decide (r8 = 3))
  (HCalls Tryz.prog 16 #[.pointer t] h5 fun v5 h6 => ∃ r9 : Int, v5 = .int .i64 r9 ∧
  cond (decide (r9 = 2))
  (cond (decide (r6 = 20))
  (cond (decide (r7 = 0))
  (HCalls Tryz.prog 18 #[.pointer t] h6 fun v6 h7 => ∃ (r10 : Option Addr) (rL1 rC1 : Nat), v6 = .slice r10 rL1 rC1 ∧
  New h7 (.cells #[.int .i64 1, .int .i64 2, .int .i64 3] 3) fun b1 h8 =>
  HCalls Tryz.prog 17 #[.int .i64 3, .slice r10 rL1 rC1, .slice (some ⟨b1, 0, none⟩) 3 3] h8 fun v7 h9 => ∃ r11 : Bool, v7 = .bool r11 ∧
  cond r11
  (HCalls Tryz.prog 19 #[.pointer t] h9 fun v8 h10 => ∃ r12 : Int, v8 = .int .i64 r12 ∧
  K (.bool (decide ((0 : Int) < r12))) h10)
  (K (.bool false) h9))
  (K (.bool false) h6))
  (K (.bool false) h6))
  (K (.bool false) h6))
  (K (.bool false) h5)) := by kernel_rfl
theorem l43_awake_call  {h : Hp} {K : Value → Hp → Prop} (hk : l43_awake_b0  h K) : HCalls Tryz.prog 4 #[] h K :=
  calls_of_snd l43_awake_an Tryz.func4 (c := bodyOf Tryz.f4) rfl Tryz.ntmps4 (Nat.le_of_ble_eq_true rfl) (snd_4 F_ok F_mixed) hk

/-! ### r03_ValidAll -/
def r03_ValidAll_an : Ann := .node none (.leaf) (.node (some []) (.node none (.leaf) (.loop [0, 1] [(5, .int .i64)] (.node none (.leaf) (.node (some [0, 1, 5]) (.leaf) (.leaf))))) (.leaf))
def r03_ValidAll_K0  (K : Value → Hp → Prop) : Exit → Env → Hp → Prop := retK Tryz.prog Tryz.f5.results.toList K
def r03_ValidAll_K1  (K : Value → Hp → Prop) : Exit → Env → Hp → Prop := thenE (fun env h => sx_2 Tryz.prog F 19 (cp [1, 1] (bodyOf Tryz.f5)) (ap [1, 1] r03_ValidAll_an) (rs [] env) h (r03_ValidAll_K0  K)) (r03_ValidAll_K0  K)
def r03_ValidAll_K2  (K : Value → Hp → Prop) : Exit → Env → Hp → Prop := blockE 0 (r03_ValidAll_K1  K)
def r03_ValidAll_K3 (nx0 : Int × Unit → Hp → Prop) (K : Value → Hp → Prop) : Exit → Env → Hp → Prop := thenE (fun env h => getV [(5, .int .i64)] env fun s => nx0 s h) (r03_ValidAll_K2  K)
def r03_ValidAll_b0 (kind : Int) (l : Option Addr) (lL : Nat) (lC : Nat) (h : Hp)  (K : Value → Hp → Prop) : Prop :=
  sx_3 Tryz.prog F 19 (cp [] (bodyOf Tryz.f5)) (ap [] r03_ValidAll_an) [(0, .int .i64 kind), (1, .slice l lL lC)] h (r03_ValidAll_K0  K)
def r03_ValidAll_b1 (i : Int) (kind : Int) (l : Option Addr) (lL : Nat) (lC : Nat) (h : Hp) (nx0 : Int × Unit → Hp → Prop) (K : Value → Hp → Prop) : Prop :=
  sx_2 Tryz.prog F 19 (cp [1, 0, 1, 2, 2] (bodyOf Tryz.f5)) (ap [1, 0, 1, 2] r03_ValidAll_an) [(5, .int .i64 i), (0, .int .i64 kind), (1, .slice l lL lC)] h (r03_ValidAll_K3 nx0 K)
def r03_ValidAll_b2 (kind : Int) (l : Option Addr) (lL : Nat) (lC : Nat) (i : Int) (h : Hp) (nx0 : Int × Unit → Hp → Prop) (K : Value → Hp → Prop) : Prop :=
  sx_1 Tryz.prog F 19 (cp [1, 0, 1, 2, 2, 1, 1] (bodyOf Tryz.f5)) (ap [1, 0, 1, 2, 1, 1] r03_ValidAll_an) [(0, .int .i64 kind), (1, .slice l lL lC), (5, .int .i64 i)] h (r03_ValidAll_K3 nx0 K)
def r03_ValidAll_b3  (h : Hp)  (K : Value → Hp → Prop) : Prop :=
  sx_2 Tryz.prog F 19 (cp [1, 1] (bodyOf Tryz.f5)) (ap [1, 1] r03_ValidAll_an) [] h (r03_ValidAll_K0  K)
theorem r03_ValidAll_b0_eq (kind : Int) (l : Option Addr) (lL : Nat) (lC : Nat) (h : Hp)  (K : Value → Hp → Prop) : r03_ValidAll_b0 kind l lL lC h  K = (
  LoopVC ((0, ()) : Int × Unit) h (fun (nx0 : Int × Unit → Hp → Prop) (s1 : Int × Unit) h1 => r03_ValidAll_b1 s1.1 kind l lL lC h1 nx0 K)) := by kernel_rfl
theorem r03_ValidAll_b1_eq (i : Int) (kind : Int) (l : Option Addr) (lL : Nat) (lC : Nat) (h : Hp) (nx0 : Int × Unit → Hp → Prop) (K : Value → Hp → Prop) : r03_ValidAll_b1 i kind l lL lC h nx0 K = (
  cond (decide (i < (lL : Int)))
  ((0 ≤ i ∧ i < (lL : Int)) ∧
  NN l fun a1 =>
  ∃ n1 : Int, ∃ (a2 : Option Addr) (L1 C1 : Nat), cell h (a1.add (Int.toNat i * 2)) = some (.int .i64 n1) ∧
  cell h ((a1.add (Int.toNat i * 2)).add 1) = some (.slice a2 L1 C1) ∧
  HCalls Tryz.prog 20 #[.int .i64 kind, .agg #[.int .i64 n1, .slice a2 L1 C1]] h fun v1 h2 => ∃ r1 : Bool, v1 = .bool r1 ∧
  cond (!r1)
  (K (.bool false) h2)
  (r03_ValidAll_b2 kind l lL lC i h2 nx0 K))
  (r03_ValidAll_b3  h  K)) := by kernel_rfl
theorem r03_ValidAll_b2_eq (kind : Int) (l : Option Addr) (lL : Nat) (lC : Nat) (i : Int) (h : Hp) (nx0 : Int × Unit → Hp → Prop) (K : Value → Hp → Prop) : r03_ValidAll_b2 kind l lL lC i h nx0 K = (
  InR (i + 1) ∧
  nx0 (i + 1, ()) h) := by kernel_rfl
theorem r03_ValidAll_b3_eq  (h : Hp)  (K : Value → Hp → Prop) : r03_ValidAll_b3  h  K = (
  K (.bool true) h) := by kernel_rfl
theorem r03_ValidAll_call {kind : Int} {l : Option Addr} {lL : Nat} {lC : Nat} {h : Hp} {K : Value → Hp → Prop} (hk : r03_ValidAll_b0 kind l lL lC h K) : HCalls Tryz.prog 5 #[.int .i64 kind, .slice l lL lC] h K :=
  calls_of_snd r03_ValidAll_an Tryz.func5 (c := bodyOf Tryz.f5) rfl Tryz.ntmps5 (Nat.le_of_ble_eq_true rfl) (snd_3 F_ok F_mixed) hk

/-! ### btree_New -/
def btree_New_an : Ann := .node none (.leaf) (.node (some [0]) (.leaf) (.leaf))
def btree_New_K0  (K : Value → Hp → Prop) : Exit → Env → Hp → Prop := retK Tryz.prog Tryz.f6.results.toList K
def btree_New_b0 (order : Int) (h : Hp)  (K : Value → Hp → Prop) : Prop :=
  sx_2 Tryz.prog F 13 (cp [] (bodyOf Tryz.f6)) (ap [] btree_New_an) [(0, .int .i64 order)] h (btree_New_K0  K)
def btree_New_b1 (order : Int) (h : Hp)  (K : Value → Hp → Prop) : Prop :=
  sx_1 Tryz.prog F 13 (cp [1, 1] (bodyOf Tryz.f6)) (ap [1, 1] btree_New_an) [(0, .int .i64 order)] h (btree_New_K0  K)
theorem btree_New_b0_eq (order : Int) (h : Hp)  (K : Value → Hp → Prop) : btree_New_b0 order h  K = (
  cond (decide (order < 3))
  (K (.tuple #[.pointer none, .int .i64 2]) h)
  (cond (decide ((64 : Int) < order))
  (K (.tuple #[.pointer none, .int .i64 2]) h)
  (btree_New_b1 order h  K))) := by kernel_rfl
theorem btree_New_b1_eq (order : Int) (h : Hp)  (K : Value → Hp → Prop) : btree_New_b1 order h  K = (
  New h (.cells #[.int .i64 order, .int .i64 0, .pointer none, .int .i64 0] 62) fun b1 h1 =>
  K (.tuple #[.pointer (some ⟨b1, 0, none⟩), .int .i64 0]) h1) := by kernel_rfl
theorem btree_New_call {order : Int} {h : Hp} {K : Value → Hp → Prop} (hk : btree_New_b0 order h K) : HCalls Tryz.prog 6 #[.int .i64 order] h K :=
  calls_of_snd btree_New_an Tryz.func6 (c := bodyOf Tryz.f6) rfl Tryz.ntmps6 (Nat.le_of_ble_eq_true rfl) (snd_2 F_ok F_mixed) hk

/-! ### model_New -/
def model_New_an : Ann := .leaf
def model_New_K0  (K : Value → Hp → Prop) : Exit → Env → Hp → Prop := retK Tryz.prog Tryz.f7.results.toList K
def model_New_b0 (kind : Int) (h : Hp)  (K : Value → Hp → Prop) : Prop :=
  sx_1 Tryz.prog F 10 (cp [] (bodyOf Tryz.f7)) (ap [] model_New_an) [(0, .int .i64 kind)] h (model_New_K0  K)
theorem model_New_b0_eq (kind : Int) (h : Hp)  (K : Value → Hp → Prop) : model_New_b0 kind h  K = (
  New h (.cells #[.int .i64 0, .slice none 0 0] 31) fun b1 h1 =>
  HCalls Tryz.prog 21 #[.int .i64 kind] h1 fun v1 h2 => ∃ (r1 : Option Addr) (rL1 rC1 : Nat), v1 = .slice r1 rL1 rC1 ∧
  cond (Option.isNone r1)
  (Wr h2 ⟨b1, 0, none⟩ (.int .i64 0) fun h3 =>
  Wr h3 ((⟨b1, 0, none⟩ : Addr).add 1) (.slice none 0 0) fun h4 =>
  ∃ r2 : Int, ∃ (r3 : Option Addr) (rL2 rC2 : Nat), cell h4 ⟨b1, 0, none⟩ = some (.int .i64 r2) ∧
  cell h4 ((⟨b1, 0, none⟩ : Addr).add 1) = some (.slice r3 rL2 rC2) ∧
  K (.tuple #[.agg #[.int .i64 r2, .slice r3 rL2 rC2], .int .i64 1]) h4)
  (Wr h2 ⟨b1, 0, none⟩ (.int .i64 kind) fun h5 =>
  Wr h5 ((⟨b1, 0, none⟩ : Addr).add 1) (.slice none 0 0) fun h6 =>
  ∃ r4 : Int, ∃ (r5 : Option Addr) (rL3 rC3 : Nat), cell h6 ⟨b1, 0, none⟩ = some (.int .i64 r4) ∧
  cell h6 ((⟨b1, 0, none⟩ : Addr).add 1) = some (.slice r5 rL3 rC3) ∧
  K (.tuple #[.agg #[.int .i64 r4, .slice r5 rL3 rC3], .int .i64 0]) h6)) := by kernel_rfl
theorem model_New_call {kind : Int} {h : Hp} {K : Value → Hp → Prop} (hk : model_New_b0 kind h K) : HCalls Tryz.prog 7 #[.int .i64 kind] h K :=
  calls_of_snd model_New_an Tryz.func7 (c := bodyOf Tryz.f7) rfl Tryz.ntmps7 (Nat.le_of_ble_eq_true rfl) (snd_1 F_ok F_mixed) hk

/-! ### model_Run -/
def model_Run_an : Ann := .node none (.leaf) (.node (some [1, 2, 4]) (.leaf) (.node none (.leaf) (.node none (.leaf) (.node none (.leaf) (.node (some [2, 4, 7, 8]) (.node none (.leaf) (.loop [2, 4, 29, 30] [(7, .slice), (8, .slice), (31, .int .i64)] (.node none (.leaf) (.node none (.leaf) (.node (some [2, 4, 7, 8, 29, 30, 31]) (.leaf) (.leaf)))))) (.leaf))))))
def model_Run_K0  (K : Value → Hp → Prop) : Exit → Env → Hp → Prop := retK Tryz.prog Tryz.f8.results.toList K
def model_Run_K1  (K : Value → Hp → Prop) : Exit → Env → Hp → Prop := thenE (fun env h => sx_2 Tryz.prog F 54 (cp [1, 1, 1, 1, 1, 1] (bodyOf Tryz.f8)) (ap [1, 1, 1, 1, 1, 1] model_Run_an) (rs [2, 4, 7, 8] env) h (model_Run_K0  K)) (model_Run_K0  K)
def model_Run_K2  (K : Value → Hp → Prop) : Exit → Env → Hp → Prop := blockE 0 (model_Run_K1  K)
def model_Run_K3 (nx0 : (Option Addr × Nat × Nat) × (Option Addr × Nat × Nat) × Int × Unit → Hp → Prop) (K : Value → Hp → Prop) : Exit → Env → Hp → Prop := thenE (fun env h => getV [(7, .slice), (8, .slice), (31, .int .i64)] env fun s => nx0 s h) (model_Run_K2  K)
def model_Run_b0 (s_0 : Int) (s_1 : Option Addr) (s_1L : Nat) (s_1C : Nat) (l : Option Addr) (lL : Nat) (lC : Nat) (h : Hp)  (K : Value → Hp → Prop) : Prop :=
  sx_4 Tryz.prog F 54 (cp [] (bodyOf Tryz.f8)) (ap [] model_Run_an) [(0, .agg #[.int .i64 s_0, .slice s_1 s_1L s_1C]), (1, .slice l lL lC)] h (model_Run_K0  K)
def model_Run_b1 (l : Option Addr) (lL : Nat) (lC : Nat) (s : Option Addr) (t4 : Option Addr) (h : Hp)  (K : Value → Hp → Prop) : Prop :=
  sx_3 Tryz.prog F 54 (cp [1, 1] (bodyOf Tryz.f8)) (ap [1, 1] model_Run_an) [(1, .slice l lL lC), (2, .pointer s), (4, .pointer t4)] h (model_Run_K0  K)
def model_Run_b2 (rows : Option Addr) (rowsL : Nat) (rowsC : Nat) (out : Option Addr) (outL : Nat) (outC : Nat) (t31 : Int) (s : Option Addr) (t4 : Option Addr) (t29 : Option Addr) (t29L : Nat) (t29C : Nat) (t30 : Int) (h : Hp) (nx0 : (Option Addr × Nat × Nat) × (Option Addr × Nat × Nat) × Int × Unit → Hp → Prop) (K : Value → Hp → Prop) : Prop :=
  sx_2 Tryz.prog F 54 (cp [1, 1, 1, 1, 1, 0, 1, 2, 2] (bodyOf Tryz.f8)) (ap [1, 1, 1, 1, 1, 0, 1, 2] model_Run_an) [(7, .slice rows rowsL rowsC), (8, .slice out outL outC), (31, .int .i64 t31), (2, .pointer s), (4, .pointer t4), (29, .slice t29 t29L t29C), (30, .int .i64 t30)] h (model_Run_K3 nx0 K)
def model_Run_b3 (s : Option Addr) (t4 : Option Addr) (rows : Option Addr) (rowsL : Nat) (rowsC : Nat) (out : Option Addr) (outL : Nat) (outC : Nat) (t29 : Option Addr) (t29L : Nat) (t29C : Nat) (t30 : Int) (t31 : Int) (h : Hp) (nx0 : (Option Addr × Nat × Nat) × (Option Addr × Nat × Nat) × Int × Unit → Hp → Prop) (K : Value → Hp → Prop) : Prop :=
  sx_1 Tryz.prog F 54 (cp [1, 1, 1, 1, 1, 0, 1, 2, 2, 1, 1, 1] (bodyOf Tryz.f8)) (ap [1, 1, 1, 1, 1, 0, 1, 2, 1, 1, 1] model_Run_an) [(2, .pointer s), (4, .pointer t4), (7, .slice rows rowsL rowsC), (8, .slice out outL outC), (29, .slice t29 t29L t29C), (30, .int .i64 t30), (31, .int .i64 t31)] h (model_Run_K3 nx0 K)
def model_Run_b4 (s : Option Addr) (t4 : Option Addr) (rows : Option Addr) (rowsL : Nat) (rowsC : Nat) (out : Option Addr) (outL : Nat) (outC : Nat) (h : Hp)  (K : Value → Hp → Prop) : Prop :=
  sx_2 Tryz.prog F 54 (cp [1, 1, 1, 1, 1, 1] (bodyOf Tryz.f8)) (ap [1, 1, 1, 1, 1, 1] model_Run_an) [(2, .pointer s), (4, .pointer t4), (7, .slice rows rowsL rowsC), (8, .slice out outL outC)] h (model_Run_K0  K)
theorem model_Run_b0_eq (s_0 : Int) (s_1 : Option Addr) (s_1L : Nat) (s_1C : Nat) (l : Option Addr) (lL : Nat) (lC : Nat) (h : Hp)  (K : Value → Hp → Prop) : model_Run_b0 s_0 s_1 s_1L s_1C l lL lC h  K = (
  New h (.cells #[.int .i64 s_0, .slice s_1 s_1L s_1C] 31) fun b1 h1 =>
  New h1 (.cells #[.int .i64 0, .slice none 0 0] 31) fun b2 h2 =>
  ∃ n1 : Int, ∃ (a1 : Option Addr) (L1 C1 : Nat), cell h2 ⟨b1, 0, none⟩ = some (.int .i64 n1) ∧
  cell h2 ((⟨b1, 0, none⟩ : Addr).add 1) = some (.slice a1 L1 C1) ∧
  HCalls Tryz.prog 22 #[.agg #[.int .i64 n1, .slice a1 L1 C1]] h2 fun v1 h3 => ∃ r1 : Bool, v1 = .bool r1 ∧
  cond (!r1)
  (Wr h3 ⟨b2, 0, none⟩ (.int .i64 0) fun h4 =>
  Wr h4 ((⟨b2, 0, none⟩ : Addr).add 1) (.slice none 0 0) fun h5 =>
  ∃ r2 : Int, ∃ (r3 : Option Addr) (rL1 rC1 : Nat), cell h5 ⟨b2, 0, none⟩ = some (.int .i64 r2) ∧
  cell h5 ((⟨b2, 0, none⟩ : Addr).add 1) = some (.slice r3 rL1 rC1) ∧
  K (.tuple #[.agg #[.int .i64 r2, .slice r3 rL1 rC1], .slice none 0 0, .int .i64 1]) h5)
  (HCalls Tryz.prog 23 #[.slice l lL lC, .func (.func 24) #[] #[.pointer (some ⟨b1, 0, none⟩)]] h3 fun v2 h6 => ∃ r4 : Bool, v2 = .bool r4 ∧
  cond r4
  (Wr h6 ⟨b2, 0, none⟩ (.int .i64 0) fun h7 =>
  Wr h7 ((⟨b2, 0, none⟩ : Addr).add 1) (.slice none 0 0) fun h8 =>
  ∃ r5 : Int, ∃ (r6 : Option Addr) (rL2 rC2 : Nat), cell h8 ⟨b2, 0, none⟩ = some (.int .i64 r5) ∧
  cell h8 ((⟨b2, 0, none⟩ : Addr).add 1) = some (.slice r6 rL2 rC2) ∧
  K (.tuple #[.agg #[.int .i64 r5, .slice r6 rL2 rC2], .slice none 0 0, .int .i64 1]) h8)
  (model_Run_b1 l lL lC (some ⟨b1, 0, none⟩) (some ⟨b2, 0, none⟩) h6  K))) := by kernel_rfl
theorem model_Run_b1_eq (l : Option Addr) (lL : Nat) (lC : Nat) (s : Option Addr) (t4 : Option Addr) (h : Hp)  (K : Value → Hp → Prop) : model_Run_b1 l lL lC s t4 h  K = (
  cond (decide ((2000 : Int) < (lL : Int)))
  (NN t4 fun a2 =>
  Wr h a2 (.int .i64 0) fun h9 =>
  Wr h9 (a2.add 1) (.slice none 0 0) fun h10 =>
  NN t4 fun a3 =>
  ∃ r7 : Int, ∃ (r8 : Option Addr) (rL3 rC3 : Nat), cell h10 a3 = some (.int .i64 r7) ∧
  cell h10 (a3.add 1) = some (.slice r8 rL3 rC3) ∧
  K (.tuple #[.agg #[.int .i64 r7, .slice r8 rL3 rC3], .slice none 0 0, .int .i64 4]) h10)
  (NN s fun a4 =>
  ∃ (a5 : Option Addr) (L2 C2 : Nat), cell h (a4.add 1) = some (.slice a5 L2 C2) ∧
  HCalls Tryz.prog 26 #[.slice a5 L2 C2] h fun v3 h11 => ∃ (r9 : Option Addr) (rL4 rC4 : Nat), v3 = .slice r9 rL4 rC4 ∧
  LoopVC (((r9, rL4, rC4), (none, 0, 0), 0, ()) : (Option Addr × Nat × Nat) × (Option Addr × Nat × Nat) × Int × Unit) h11 (fun (nx0 : (Option Addr × Nat × Nat) × (Option Addr × Nat × Nat) × Int × Unit → Hp → Prop) (s1 : (Option Addr × Nat × Nat) × (Option Addr × Nat × Nat) × Int × Unit) h12 => model_Run_b2 s1.1.1 s1.1.2.1 s1.1.2.2 s1.2.1.1 s1.2.1.2.1 s1.2.1.2.2 s1.2.2.1 s t4 l lL lC (lL : Int) h12 nx0 K))) := by kernel_rfl
theorem model_Run_b2_eq (rows : Option Addr) (rowsL : Nat) (rowsC : Nat) (out : Option Addr) (outL : Nat) (outC : Nat) (t31 : Int) (s : Option Addr) (t4 : Option Addr) (t29 : Option Addr) (t29L : Nat) (t29C : Nat) (t30 : Int) (h : Hp) (nx0 : (Option Addr × Nat × Nat) × (Option Addr × Nat × Nat) × Int × Unit → Hp → Prop) (K : Value → Hp → Prop) : model_Run_b2 rows rowsL rowsC out outL outC t31 s t4 t29 t29L t29C t30 h nx0 K = (
  cond (decide (t31 < t30))
  ((0 ≤ t31 ∧ t31 < (t29L : Int)) ∧
  NN t29 fun a6 =>
  ∃ n2 : Int, ∃ (a7 : Option Addr) (L3 C3 : Nat), cell h (a6.add (Int.toNat t31 * 2)) = some (.int .i64 n2) ∧
  cell h ((a6.add (Int.toNat t31 * 2)).add 1) = some (.slice a7 L3 C3) ∧
  New h (.cells #[.int .i64 0, .slice none 0 0] 39) fun b3 h13 =>
  Wr h13 ⟨b3, 0, none⟩ (.int .i64 n2) fun h14 =>
  Wr h14 ((⟨b3, 0, none⟩ : Addr).add 1) (.slice a7 L3 C3) fun h15 =>
  NN s fun a8 =>
  ∃ n3 : Int, cell h15 a8 = some (.int .i64 n3) ∧
  ∃ n4 : Int, ∃ (a9 : Option Addr) (L4 C4 : Nat), cell h15 ⟨b3, 0, none⟩ = some (.int .i64 n4) ∧
  cell h15 ((⟨b3, 0, none⟩ : Addr).add 1) = some (.slice a9 L4 C4) ∧
  HCalls Tryz.prog 27 #[.int .i64 n3, .slice rows rowsL rowsC, .agg #[.int .i64 n4, .slice a9 L4 C4]] h15 fun v4 h16 => ∃ (r10 : Option Addr) (rL5 rC5 : Nat), ∃ r11 : Int, ∃ r12 : Int, ∃ (r13 : Option Addr) (rL6 rC6 : Nat), v4 = .tuple #[.slice r10 rL5 rC5, .agg #[.int .i64 r11, .int .i64 r12, .slice r13 rL6 rC6]] ∧
  New h16 (.cells #[.int .i64 0, .int .i64 0, .slice none 0 0] 41) fun b4 h17 =>
  Wr h17 ⟨b4, 0, none⟩ (.int .i64 r11) fun h18 =>
  Wr h18 ((⟨b4, 0, none⟩ : Addr).add 1) (.int .i64 r12) fun h19 =>
  Wr h19 ((⟨b4, 0, none⟩ : Addr).add 2) (.slice r13 rL6 rC6) fun h20 =>
  ∃ n5 : Int, ∃ n6 : Int, ∃ (a10 : Option Addr) (L5 C5 : Nat), cell h20 ⟨b4, 0, none⟩ = some (.int .i64 n5) ∧
  cell h20 ((⟨b4, 0, none⟩ : Addr).add 1) = some (.int .i64 n6) ∧
  cell h20 ((⟨b4, 0, none⟩ : Addr).add 2) = some (.slice a10 L5 C5) ∧
  New h20 (.cells #[.int .i64 n5, .int .i64 n6, .slice a10 L5 C5] 41) fun b5 h21 =>
  appendV Tryz.prog 34 34 (.slice out outL outC) (.slice (some ⟨b5, 0, none⟩) 1 1) h21 (slK fun a11 l1 c1 h22 =>
  model_Run_b3 s t4 r10 rL5 rC5 a11 l1 c1 t29 t29L t29C t30 t31 h22 nx0 K))
  (model_Run_b4 s t4 rows rowsL rowsC out outL outC h  K)) := by kernel_rfl
theorem model_Run_b3_eq (s : Option Addr) (t4 : Option Addr) (rows : Option Addr) (rowsL : Nat) (rowsC : Nat) (out : Option Addr) (outL : Nat) (outC : Nat) (t29 : Option Addr) (t29L : Nat) (t29C : Nat) (t30 : Int) (t31 : Int) (h : Hp) (nx0 : (Option Addr × Nat × Nat) × (Option Addr × Nat × Nat) × Int × Unit → Hp → Prop) (K : Value → Hp → Prop) : model_Run_b3 s t4 rows rowsL rowsC out outL outC t29 t29L t29C t30 t31 h nx0 K = (
  InR (t31 + 1) ∧
  nx0 ((rows, rowsL, rowsC), (out, outL, outC), t31 + 1, ()) h) := by kernel_rfl
theorem model_Run_b4_eq (s : Option Addr) (t4 : Option Addr) (rows : Option Addr) (rowsL : Nat) (rowsC : Nat) (out : Option Addr) (outL : Nat) (outC : Nat) (h : Hp)  (K : Value → Hp → Prop) : model_Run_b4 s t4 rows rowsL rowsC out outL outC h  K = (
  NN s fun a12 =>
  ∃ n7 : Int, cell h a12 = some (.int .i64 n7) ∧
  NN t4 fun a13 =>
  Wr h a13 (.int .i64 n7) fun h23 =>
  Wr h23 (a13.add 1) (.slice rows rowsL rowsC) fun h24 =>
  NN t4 fun a14 =>
  ∃ r14 : Int, ∃ (r15 : Option Addr) (rL7 rC7 : Nat), cell h24 a14 = some (.int .i64 r14) ∧
  cell h24 (a14.add 1) = some (.slice r15 rL7 rC7) ∧
  K (.tuple #[.agg #[.int .i64 r14, .slice r15 rL7 rC7], .slice out outL outC, .int .i64 0]) h24) := by kernel_rfl
theorem model_Run_call {s_0 : Int} {s_1 : Option Addr} {s_1L : Nat} {s_1C : Nat} {l : Option Addr} {lL : Nat} {lC : Nat} {h : Hp} {K : Value → Hp → Prop} (hk : model_Run_b0 s_0 s_1 s_1L s_1C l lL lC h K) : HCalls Tryz.prog 8 #[.agg #[.int .i64 s_0, .slice s_1 s_1L s_1C], .slice l lL lC] h K :=
  calls_of_snd model_Run_an Tryz.func8 (c := bodyOf Tryz.f8) rfl Tryz.ntmps8 (Nat.le_of_ble_eq_true rfl) (snd_4 F_ok F_mixed) hk

/-! ### btree_Tree_Do -/
def btree_Tree_Do_an : Ann := .node none (.leaf) (.node (some [0, 3, 4]) (.leaf) (.node none (.leaf) (.node (some [4, 6, 7]) (.node none (.leaf) (.node none (.leaf) (.node none (.node none (.plan (.qu 0 (.qu 1 (.qu 2 (.qu 3 (.qu 4 (.qu 5 (.qu 6 (.qu 7 (.qu 8 (.wo 9 (.qu 10 (.qu 11 (.qu 12 (.qu 13 (.wo 14 (.wo 15 (.wo 16 .fin .no) .no) .no))))) .no))))))))))) (.leaf)) (.leaf)))) (.leaf))))
def btree_Tree_Do_K0  (K : Value → Hp → Prop) : Exit → Env → Hp → Prop := retK Tryz.prog Tryz.f9.results.toList K
def btree_Tree_Do_b0 (t : Option Addr) (o_0 : Int) (o_1 : Option Addr) (o_1L : Nat) (o_1C : Nat) (h : Hp)  (K : Value → Hp → Prop) : Prop :=
  sx_3 Tryz.prog F 113 (cp [] (bodyOf Tryz.f9)) (ap [] btree_Tree_Do_an) [(0, .pointer t), (1, .agg #[.int .i64 o_0, .slice o_1 o_1L o_1C])] h (btree_Tree_Do_K0  K)
def btree_Tree_Do_b1 (t : Option Addr) (o : Option Addr) (t4 : Option Addr) (h : Hp)  (K : Value → Hp → Prop) : Prop :=
  sx_2 Tryz.prog F 113 (cp [1, 1] (bodyOf Tryz.f9)) (ap [1, 1] btree_Tree_Do_an) [(0, .pointer t), (3, .pointer o), (4, .pointer t4)] h (btree_Tree_Do_K0  K)
def btree_Tree_Do_b2 (t4 : Option Addr) (nv : Option Addr) (e : Int) (h : Hp)  (K : Value → Hp → Prop) : Prop :=
  sx_1 Tryz.prog F 113 (cp [1, 1, 1, 1] (bodyOf Tryz.f9)) (ap [1, 1, 1, 1] btree_Tree_Do_an) [(4, .pointer t4), (6, .pointer nv), (7, .int .i64 e)] h (btree_Tree_Do_K0  K)
theorem btree_Tree_Do_b0_eq (t : Option Addr) (o_0 : Int) (o_1 : Option Addr) (o_1L : Nat) (o_1C : Nat) (h : Hp)  (K : Value → Hp → Prop) : btree_Tree_Do_b0 t o_0 o_1 o_1L o_1C h  K = (
  New h (.cells #[.int .i64 o_0, .slice o_1 o_1L o_1C] 39) fun b1 h1 =>
  New h1 (.cells #[.int .i64 0, .int .i64 0, .slice none 0 0] 41) fun b2 h2 =>
  cond t.isNone
  (Wr h2 ⟨b2, 0, none⟩ (.int .i64 0) fun h3 =>
  Wr h3 ((⟨b2, 0, none⟩ : Addr).add 1) (.int .i64 0) fun h4 =>
  Wr h4 ((⟨b2, 0, none⟩ : Addr).add 2) (.slice none 0 0) fun h5 =>
  ∃ r1 : Int, ∃ r2 : Int, ∃ (r3 : Option Addr) (rL1 rC1 : Nat), cell h5 ⟨b2, 0, none⟩ = some (.int .i64 r1) ∧
  cell h5 ((⟨b2, 0, none⟩ : Addr).add 1) = some (.int .i64 r2) ∧
  cell h5 ((⟨b2, 0, none⟩ : Addr).add 2) = some (.slice r3 rL1 rC1) ∧
  K (.tuple #[.agg #[.int .i64 r1, .int .i64 r2, .slice r3 rL1 rC1], .int .i64 1]) h5)
  (∃ n1 : Int, ∃ (a1 : Option Addr) (L1 C1 : Nat), cell h2 ⟨b1, 0, none⟩ = some (.int .i64 n1) ∧
  cell h2 ((⟨b1, 0, none⟩ : Addr).add 1) = some (.slice a1 L1 C1) ∧
  HCalls Tryz.prog 25 #[.int .i64 1, .agg #[.int .i64 n1, .slice a1 L1 C1]] h2 fun v1 h6 => ∃ r4 : Bool, v1 = .bool r4 ∧
  cond (!r4)
  (Wr h6 ⟨b2, 0, none⟩ (.int .i64 0) fun h7 =>
  Wr h7 ((⟨b2, 0, none⟩ : Addr).add 1) (.int .i64 0) fun h8 =>
  Wr h8 ((⟨b2, 0, none⟩ : Addr).add 2) (.slice none 0 0) fun h9 =>
  ∃ r5 : Int, ∃ r6 : Int, ∃ (r7 : Option Addr) (rL2 rC2 : Nat), cell h9 ⟨b2, 0, none⟩ = some (.int .i64 r5) ∧
  cell h9 ((⟨b2, 0, none⟩ : Addr).add 1) = some (.int .i64 r6) ∧
  cell h9 ((⟨b2, 0, none⟩ : Addr).add 2) = some (.slice r7 rL2 rC2) ∧
  K (.tuple #[.agg #[.int .i64 r5, .int .i64 r6, .slice r7 rL2 rC2], .int .i64 1]) h9)
  (btree_Tree_Do_b1 t (some ⟨b1, 0, none⟩) (some ⟨b2, 0, none⟩) h6  K))) := by kernel_rfl
theorem btree_Tree_Do_b1_eq (t : Option Addr) (o : Option Addr) (t4 : Option Addr) (h : Hp)  (K : Value → Hp → Prop) : btree_Tree_Do_b1 t o t4 h  K = (
  New h (.cells #[.int .i64 0] 3) fun b3 h10 =>
  Wr h10 ⟨b3, 0, none⟩ (.int .i64 0) fun h11 =>
  NN o fun a2 =>
  ∃ n2 : Int, cell h11 a2 = some (.int .i64 n2) ∧
  cond (decide (n2 = 1))
  (NN o fun a3 =>
  ∃ (a4 : Option Addr) (L2 C2 : Nat), cell h11 (a3.add 1) = some (.slice a4 L2 C2) ∧
  (0 ≤ (0 : Int) ∧ (0 : Int) < (L2 : Int)) ∧
  NN a4 fun a5 =>
  ∃ n3 : Int, cell h11 (a5.add (Int.toNat (0 : Int) * 1)) = some (.int .i64 n3) ∧
  NN o fun a6 =>
  ∃ (a7 : Option Addr) (L3 C3 : Nat), cell h11 (a6.add 1) = some (.slice a7 L3 C3) ∧
  (0 ≤ (1 : Int) ∧ (1 : Int) < (L3 : Int)) ∧
  NN a7 fun a8 =>
  ∃ n4 : Int, cell h11 (a8.add (Int.toNat (1 : Int) * 1)) = some (.int .i64 n4) ∧
  HCalls Tryz.prog 12 #[.pointer t, .int .i64 n3, .int .i64 n4] h11 fun v2 h12 => ∃ r8 : Int, ∃ r9 : Bool, ∃ r10 : Int, v2 = .tuple #[.int .i64 r8, .bool r9, .int .i64 r10] ∧
  cond r9
  (Wr h12 ⟨b3, 0, none⟩ (.int .i64 1) fun h13 =>
  btree_Tree_Do_b2 t4 (some ⟨b3, 0, none⟩) r10 h13  K)
  (btree_Tree_Do_b2 t4 (some ⟨b3, 0, none⟩) r10 h12  K))
  (cond (decide (n2 = 2))
  (NN o fun a9 =>
  ∃ (a10 : Option Addr) (L4 C4 : Nat), cell h11 (a9.add 1) = some (.slice a10 L4 C4) ∧
  (0 ≤ (0 : Int) ∧ (0 : Int) < (L4 : Int)) ∧
  NN a10 fun a11 =>
  ∃ n5 : Int, cell h11 (a11.add (Int.toNat (0 : Int) * 1)) = some (.int .i64 n5) ∧
  HCalls Tryz.prog 15 #[.pointer t, .int .i64 n5] h11 fun v3 h14 => ∃ r11 : Int, ∃ r12 : Int, v3 = .tuple #[.int .i64 r11, .int .i64 r12] ∧
  Wr h14 ⟨b3, 0, none⟩ (.int .i64 r11) fun h15 =>
  btree_Tree_Do_b2 t4 (some ⟨b3, 0, none⟩) r12 h15  K)
  (cond (decide (n2 = 3))
  (NN o fun a12 =>
  ∃ (a13 : Option Addr) (L5 C5 : Nat), cell h11 (a12.add 1) = some (.slice a13 L5 C5) ∧
  (0 ≤ (0 : Int) ∧ (0 : Int) < (L5 : Int)) ∧
  NN a13 fun a14 =>
  ∃ n6 : Int, cell h11 (a14.add (Int.toNat (0 : Int) * 1)) = some (.int .i64 n6) ∧
  HCalls Tryz.prog 28 #[.pointer t, .int .i64 n6] h11 fun v4 h16 => ∃ r13 : Int, ∃ r14 : Int, v4 = .tuple #[.int .i64 r13, .int .i64 r14] ∧
  Wr h16 ⟨b3, 0, none⟩ (.int .i64 r13) fun h17 =>
  btree_Tree_Do_b2 t4 (some ⟨b3, 0, none⟩) r14 h17  K)
  (cond (decide (n2 = 4))
  (NN o fun a15 =>
  ∃ (a16 : Option Addr) (L6 C6 : Nat), cell h11 (a15.add 1) = some (.slice a16 L6 C6) ∧
  (0 ≤ (0 : Int) ∧ (0 : Int) < (L6 : Int)) ∧
  NN a16 fun a17 =>
  ∃ n7 : Int, cell h11 (a17.add (Int.toNat (0 : Int) * 1)) = some (.int .i64 n7) ∧
  HCalls Tryz.prog 29 #[.pointer t, .int .i64 n7] h11 fun v5 h18 => ∃ r15 : Int, ∃ r16 : Int, ∃ r17 : Int, v5 = .tuple #[.int .i64 r15, .int .i64 r16, .int .i64 r17] ∧
  Wr h18 ⟨b3, 0, none⟩ (.int .i64 r15) fun h19 =>
  btree_Tree_Do_b2 t4 (some ⟨b3, 0, none⟩) r17 h19  K)
  (cond (decide (n2 = 5))
  (NN o fun a18 =>
  ∃ (a19 : Option Addr) (L7 C7 : Nat), cell h11 (a18.add 1) = some (.slice a19 L7 C7) ∧
  (0 ≤ (0 : Int) ∧ (0 : Int) < (L7 : Int)) ∧
  NN a19 fun a20 =>
  ∃ n8 : Int, cell h11 (a20.add (Int.toNat (0 : Int) * 1)) = some (.int .i64 n8) ∧
  HCalls Tryz.prog 30 #[.pointer t, .int .i64 n8] h11 fun v6 h20 => ∃ r18 : Int, ∃ r19 : Int, ∃ r20 : Int, v6 = .tuple #[.int .i64 r18, .int .i64 r19, .int .i64 r20] ∧
  Wr h20 ⟨b3, 0, none⟩ (.int .i64 r18) fun h21 =>
  btree_Tree_Do_b2 t4 (some ⟨b3, 0, none⟩) r20 h21  K)
  (cond (decide (n2 = 6))
  (NN t fun a21 =>
  ∃ p1 : Option Addr, cell h11 (a21.add 2) = some (.pointer p1) ∧
  HCalls Tryz.prog 31 #[.pointer p1, .func (.func 32) #[] #[.pointer o, .pointer (some ⟨b3, 0, none⟩)]] h11 fun v7 h22 => ∃ r21 : Bool, v7 = .bool r21 ∧
  btree_Tree_Do_b2 t4 (some ⟨b3, 0, none⟩) 0 h22  K)
  (cond (decide (n2 = 7))
  (NN o fun a22 =>
  ∃ (a23 : Option Addr) (L8 C8 : Nat), cell h11 (a22.add 1) = some (.slice a23 L8 C8) ∧
  (0 ≤ (0 : Int) ∧ (0 : Int) < (L8 : Int)) ∧
  NN a23 fun a24 =>
  ∃ n9 : Int, cell h11 (a24.add (Int.toNat (0 : Int) * 1)) = some (.int .i64 n9) ∧
  HCalls Tryz.prog 33 #[.pointer t, .int .i64 n9] h11 fun v8 h23 => ∃ r22 : Int, ∃ r23 : Int, v8 = .tuple #[.int .i64 r22, .int .i64 r23] ∧
  Wr h23 ⟨b3, 0, none⟩ (.int .i64 r22) fun h24 =>
  btree_Tree_Do_b2 t4 (some ⟨b3, 0, none⟩) r23 h24  K)
  (cond (decide (n2 = 8))
  (NN t fun a25 =>
  ∃ n10 : Int, cell h11 (a25.add 1) = some (.int .i64 n10) ∧
  Wr h11 ⟨b3, 0, none⟩ (.int .i64 n10) fun h25 =>
  btree_Tree_Do_b2 t4 (some ⟨b3, 0, none⟩) 0 h25  K)
  (btree_Tree_Do_b2 t4 (some ⟨b3, 0, none⟩) 0 h11  K))))))))) := by kernel_rfl
theorem btree_Tree_Do_b2_eq (t4 : Option Addr) (nv : Option Addr) (e : Int) (h : Hp)  (K : Value → Hp → Prop) : btree_Tree_Do_b2 t4 nv e h  K = (
  NN nv fun a26 =>
  ∃ n11 : Int, cell h a26 = some (.int .i64 n11) ∧
  NN t4 fun a27 =>
  Wr h a27 (.int .i64 e) fun h26 =>
  Wr h26 (a27.add 1) (.int .i64 n11) fun h27 =>
  Wr h27 (a27.add 2) (.slice none 0 0) fun h28 =>
  NN t4 fun a28 =>
  ∃ r24 : Int, ∃ r25 : Int, ∃ (r26 : Option Addr) (rL3 rC3 : Nat), cell h28 a28 = some (.int .i64 r24) ∧
  cell h28 (a28.add 1) = some (.int .i64 r25) ∧
  cell h28 (a28.add 2) = some (.slice r26 rL3 rC3) ∧
  K (.tuple #[.agg #[.int .i64 r24, .int .i64 r25, .slice r26 rL3 rC3], .int .i64 0]) h28) := by kernel_rfl
theorem btree_Tree_Do_call {t : Option Addr} {o_0 : Int} {o_1 : Option Addr} {o_1L : Nat} {o_1C : Nat} {h : Hp} {K : Value → Hp → Prop} (hk : btree_Tree_Do_b0 t o_0 o_1 o_1L o_1C h K) : HCalls Tryz.prog 9 #[.pointer t, .agg #[.int .i64 o_0, .slice o_1 o_1L o_1C]] h K :=
  calls_of_snd btree_Tree_Do_an Tryz.func9 (c := bodyOf Tryz.f9) rfl Tryz.ntmps9 (Nat.le_of_ble_eq_true rfl) (snd_3 F_ok F_mixed) hk

/-! ### r03_SameRes -/
def r03_SameRes_an : Ann := .leaf
def r03_SameRes_K0  (K : Value → Hp → Prop) : Exit → Env → Hp → Prop := retK Tryz.prog Tryz.f10.results.toList K
def r03_SameRes_b0 (a_0 : Int) (a_1 : Int) (a_2 : Option Addr) (a_2L : Nat) (a_2C : Nat) (b_0 : Int) (b_1 : Int) (b_2 : Option Addr) (b_2L : Nat) (b_2C : Nat) (h : Hp)  (K : Value → Hp → Prop) : Prop :=
  sx_1 Tryz.prog F 24 (cp [] (bodyOf Tryz.f10)) (ap [] r03_SameRes_an) [(0, .agg #[.int .i64 a_0, .int .i64 a_1, .slice a_2 a_2L a_2C]), (1, .agg #[.int .i64 b_0, .int .i64 b_1, .slice b_2 b_2L b_2C])] h (r03_SameRes_K0  K)
theorem r03_SameRes_b0_eq (a_0 : Int) (a_1 : Int) (a_2 : Option Addr) (a_2L : Nat) (a_2C : Nat) (b_0 : Int) (b_1 : Int) (b_2 : Option Addr) (b_2L : Nat) (b_2C : Nat) (h : Hp)  (K : Value → Hp → Prop) : r03_SameRes_b0 a_0 a_1 a_2 a_2L a_2C b_0 b_1 b_2 b_2L b_2C h  K = (
  New h (.cells #[.int .i64 a_0, .int .i64 a_1, .slice a_2 a_2L a_2C] 41) fun b1 h1 =>
  New h1 (.cells #[.int .i64 b_0, .int .i64 b_1, .slice b_2 b_2L b_2C] 41) fun b2 h2 =>
  ∃ n1 : Int, cell h2 ⟨b1, 0, none⟩ = some (.int .i64 n1) ∧
  ∃ n2 : Int, cell h2 ⟨b2, 0, none⟩ = some (.int .i64 n2) ∧
  cond (decide (n1 = n2))
  (∃ n3 : Int, cell h2 ((⟨b1, 0, none⟩ : Addr).add 1) = some (.int .i64 n3) ∧
  ∃ n4 : Int, cell h2 ((⟨b2, 0, none⟩ : Addr).add 1) = some (.int .i64 n4) ∧
  cond (decide (n3 = n4))
  (∃ (a1 : Option Addr) (L1 C1 : Nat), cell h2 ((⟨b1, 0, none⟩ : Addr).add 2) = some (.slice a1 L1 C1) ∧
  ∃ (a2 : Option Addr) (L2 C2 : Nat), cell h2 ((⟨b2, 0, none⟩ : Addr).add 2) = some (.slice a2 L2 C2) ∧
  HCalls Tryz.prog 34 #[.slice a1 L1 C1, .slice a2 L2 C2] h2 fun v1 h3 => ∃ r1 : Bool, v1 = .bool r1 ∧
  K (.bool r1) h3)
  (K (.bool false) h2))
  (K (.bool false) h2)) := by kernel_rfl
theorem r03_SameRes_call {a_0 : Int} {a_1 : Int} {a_2 : Option Addr} {a_2L : Nat} {a_2C : Nat} {b_0 : Int} {b_1 : Int} {b_2 : Option Addr} {b_2L : Nat} {b_2C : Nat} {h : Hp} {K : Value → Hp → Prop} (hk : r03_SameRes_b0 a_0 a_1 a_2 a_2L a_2C b_0 b_1 b_2 b_2L b_2C h K) : HCalls Tryz.prog 10 #[.agg #[.int .i64 a_0, .int .i64 a_1, .slice a_2 a_2L a_2C], .agg #[.int .i64 b_0, .int .i64 b_1, .slice b_2 b_2L b_2C]] h K :=
  calls_of_snd r03_SameRes_an Tryz.func10 (c := bodyOf Tryz.f10) rfl Tryz.ntmps10 (Nat.le_of_ble_eq_true rfl) (snd_1 F_ok F_mixed) hk

/-! ### btree_Tree_Scan -/
def btree_Tree_Scan_an : Ann := .node none (.leaf) (.node (some [0, 4, 5]) (.leaf) (.leaf))
def btree_Tree_Scan_K0  (K : Value → Hp → Prop) : Exit → Env → Hp → Prop := retK Tryz.prog Tryz.f11.results.toList K
def btree_Tree_Scan_b0 (t : Option Addr) (fromv : Int) (to : Int) (h : Hp)  (K : Value → Hp → Prop) : Prop :=
  sx_2 Tryz.prog F 28 (cp [] (bodyOf Tryz.f11)) (ap [] btree_Tree_Scan_an) [(0, .pointer t), (1, .int .i64 fromv), (2, .int .i64 to)] h (btree_Tree_Scan_K0  K)
def btree_Tree_Scan_b1 (t : Option Addr) (fromv : Option Addr) (to : Option Addr) (h : Hp)  (K : Value → Hp → Prop) : Prop :=
  sx_1 Tryz.prog F 28 (cp [1, 1] (bodyOf Tryz.f11)) (ap [1, 1] btree_Tree_Scan_an) [(0, .pointer t), (4, .pointer fromv), (5, .pointer to)] h (btree_Tree_Scan_K0  K)
theorem btree_Tree_Scan_b0_eq (t : Option Addr) (fromv : Int) (to : Int) (h : Hp)  (K : Value → Hp → Prop) : btree_Tree_Scan_b0 t fromv to h  K = (
  New h (.cells #[.int .i64 fromv] 3) fun b1 h1 =>
  New h1 (.cells #[.int .i64 to] 3) fun b2 h2 =>
  cond t.isNone
  (K (.tuple #[.slice none 0 0, .int .i64 1]) h2)
  (∃ n1 : Int, cell h2 ⟨b1, 0, none⟩ = some (.int .i64 n1) ∧
  ∃ n2 : Int, cell h2 ⟨b2, 0, none⟩ = some (.int .i64 n2) ∧
  New h2 (.cells #[.int .i64 n1, .int .i64 n2] 3) fun b3 h3 =>
  HCalls Tryz.prog 35 #[.slice (some ⟨b3, 0, none⟩) 2 2] h3 fun v1 h4 => ∃ r1 : Bool, v1 = .bool r1 ∧
  cond (!r1)
  (K (.tuple #[.slice none 0 0, .int .i64 1]) h4)
  (btree_Tree_Scan_b1 t (some ⟨b1, 0, none⟩) (some ⟨b2, 0, none⟩) h4  K))) := by kernel_rfl
theorem btree_Tree_Scan_b1_eq (t : Option Addr) (fromv : Option Addr) (to : Option Addr) (h : Hp)  (K : Value → Hp → Prop) : btree_Tree_Scan_b1 t fromv to h  K = (
  New h (.cells #[.slice none 0 0] 45) fun b4 h5 =>
  NN t fun a1 =>
  ∃ p1 : Option Addr, cell h5 (a1.add 2) = some (.pointer p1) ∧
  HCalls Tryz.prog 31 #[.pointer p1, .func (.func 36) #[] #[.pointer fromv, .pointer to, .pointer (some ⟨b4, 0, none⟩)]] h5 fun v2 h6 => ∃ r2 : Bool, v2 = .bool r2 ∧
  ∃ (a2 : Option Addr) (L1 C1 : Nat), cell h6 ⟨b4, 0, none⟩ = some (.slice a2 L1 C1) ∧
  cond (decide ((1000 : Int) < (L1 : Int)))
  (K (.tuple #[.slice none 0 0, .int .i64 4]) h6)
  (∃ (a3 : Option Addr) (L2 C2 : Nat), cell h6 ⟨b4, 0, none⟩ = some (.slice a3 L2 C2) ∧
  K (.tuple #[.slice a3 L2 C2, .int .i64 0]) h6)) := by kernel_rfl
theorem btree_Tree_Scan_call {t : Option Addr} {fromv : Int} {to : Int} {h : Hp} {K : Value → Hp → Prop} (hk : btree_Tree_Scan_b0 t fromv to h K) : HCalls Tryz.prog 11 #[.pointer t, .int .i64 fromv, .int .i64 to] h K :=
  calls_of_snd btree_Tree_Scan_an Tryz.func11 (c := bodyOf Tryz.f11) rfl Tryz.ntmps11 (Nat.le_of_ble_eq_true rfl) (snd_2 F_ok F_mixed) hk

/-! ### btree_Tree_Put -/
def btree_Tree_Put_an : Ann := .node none (.leaf) (.node (some [0, 1, 2]) (.leaf) (.leaf))
def btree_Tree_Put_K0  (K : Value → Hp → Prop) : Exit → Env → Hp → Prop := retK Tryz.prog Tryz.f12.results.toList K
def btree_Tree_Put_b0 (t : Option Addr) (key : Int) (value : Int) (h : Hp)  (K : Value → Hp → Prop) : Prop :=
  sx_2 Tryz.prog F 42 (cp [] (bodyOf Tryz.f12)) (ap [] btree_Tree_Put_an) [(0, .pointer t), (1, .int .i64 key), (2, .int .i64 value)] h (btree_Tree_Put_K0  K)
def btree_Tree_Put_b1 (t : Option Addr) (key : Int) (value : Int) (h : Hp)  (K : Value → Hp → Prop) : Prop :=
  sx_1 Tryz.prog F 42 (cp [1, 1] (bodyOf Tryz.f12)) (ap [1, 1] btree_Tree_Put_an) [(0, .pointer t), (1, .int .i64 key), (2, .int .i64 value)] h (btree_Tree_Put_K0  K)
theorem btree_Tree_Put_b0_eq (t : Option Addr) (key : Int) (value : Int) (h : Hp)  (K : Value → Hp → Prop) : btree_Tree_Put_b0 t key value h  K = (
  cond t.isNone
  (K (.tuple #[.int .i64 0, .bool false, .int .i64 1]) h)
  (New h (.cells #[.int .i64 key, .int .i64 value] 3) fun b1 h1 =>
  HCalls Tryz.prog 35 #[.slice (some ⟨b1, 0, none⟩) 2 2] h1 fun v1 h2 => ∃ r1 : Bool, v1 = .bool r1 ∧
  cond (!r1)
  (K (.tuple #[.int .i64 0, .bool false, .int .i64 1]) h2)
  (btree_Tree_Put_b1 t key value h2  K))) := by kernel_rfl
theorem btree_Tree_Put_b1_eq (t : Option Addr) (key : Int) (value : Int) (h : Hp)  (K : Value → Hp → Prop) : btree_Tree_Put_b1 t key value h  K = (
  HCalls Tryz.prog 37 #[.pointer t, .int .i64 key, .int .i64 value] h fun v2 h3 => ∃ r2 : Int, ∃ r3 : Bool, ∃ r4 : Int, ∃ r5 : Int, v2 = .tuple #[.int .i64 r2, .bool r3, .int .i64 r4, .int .i64 r5] ∧
  NN t fun a1 =>
  ∃ n1 : Int, cell h3 (a1.add 3) = some (.int .i64 n1) ∧
  InR (n1 + r4) ∧
  NN t fun a2 =>
  Wr h3 (a2.add 3) (.int .i64 (n1 + r4)) fun h4 =>
  K (.tuple #[.int .i64 r2, .bool r3, .int .i64 r5]) h4) := by kernel_rfl
theorem btree_Tree_Put_call {t : Option Addr} {key : Int} {value : Int} {h : Hp} {K : Value → Hp → Prop} (hk : btree_Tree_Put_b0 t key value h K) : HCalls Tryz.prog 12 #[.pointer t, .int .i64 key, .int .i64 value] h K :=
  calls_of_snd btree_Tree_Put_an Tryz.func12 (c := bodyOf Tryz.f12) rfl Tryz.ntmps12 (Nat.le_of_ble_eq_true rfl) (snd_2 F_ok F_mixed) hk

/-! ### slices_Equal_2_int_2_int -/
def slices_Equal_2_int_2_int_an : Ann := .node none (.leaf) (.node none (.leaf) (.node (some []) (.node none (.leaf) (.loop [0, 1, 12] [(13, .int .i64)] (.node none (.leaf) (.node none (.leaf) (.node (some [0, 1, 12, 13]) (.leaf) (.leaf)))))) (.leaf)))
def slices_Equal_2_int_2_int_K0  (K : Value → Hp → Prop) : Exit → Env → Hp → Prop := retK Tryz.prog Tryz.f13.results.toList K
def slices_Equal_2_int_2_int_K1  (K : Value → Hp → Prop) : Exit → Env → Hp → Prop := thenE (fun env h => sx_2 Tryz.prog F 26 (cp [1, 1, 1] (bodyOf Tryz.f13)) (ap [1, 1, 1] slices_Equal_2_int_2_int_an) (rs [] env) h (slices_Equal_2_int_2_int_K0  K)) (slices_Equal_2_int_2_int_K0  K)
def slices_Equal_2_int_2_int_K2  (K : Value → Hp → Prop) : Exit → Env → Hp → Prop := blockE 0 (slices_Equal_2_int_2_int_K1  K)
def slices_Equal_2_int_2_int_K3 (nx0 : Int × Unit → Hp → Prop) (K : Value → Hp → Prop) : Exit → Env → Hp → Prop := thenE (fun env h => getV [(13, .int .i64)] env fun s => nx0 s h) (slices_Equal_2_int_2_int_K2  K)
def slices_Equal_2_int_2_int_b0 (s1 : Option Addr) (s1L : Nat) (s1C : Nat) (s2 : Option Addr) (s2L : Nat) (s2C : Nat) (h : Hp)  (K : Value → Hp → Prop) : Prop :=
  sx_3 Tryz.prog F 26 (cp [] (bodyOf Tryz.f13)) (ap [] slices_Equal_2_int_2_int_an) [(0, .slice s1 s1L s1C), (1, .slice s2 s2L s2C)] h (slices_Equal_2_int_2_int_K0  K)
def slices_Equal_2_int_2_int_b1 (t13 : Int) (s1 : Option Addr) (s1L : Nat) (s1C : Nat) (s2 : Option Addr) (s2L : Nat) (s2C : Nat) (t12 : Int) (h : Hp) (nx0 : Int × Unit → Hp → Prop) (K : Value → Hp → Prop) : Prop :=
  sx_2 Tryz.prog F 26 (cp [1, 1, 0, 1, 2, 2] (bodyOf Tryz.f13)) (ap [1, 1, 0, 1, 2] slices_Equal_2_int_2_int_an) [(13, .int .i64 t13), (0, .slice s1 s1L s1C), (1, .slice s2 s2L s2C), (12, .int .i64 t12)] h (slices_Equal_2_int_2_int_K3 nx0 K)
def slices_Equal_2_int_2_int_b2 (s1 : Option Addr) (s1L : Nat) (s1C : Nat) (s2 : Option Addr) (s2L : Nat) (s2C : Nat) (t12 : Int) (t13 : Int) (h : Hp) (nx0 : Int × Unit → Hp → Prop) (K : Value → Hp → Prop) : Prop :=
  sx_1 Tryz.prog F 26 (cp [1, 1, 0, 1, 2, 2, 1, 1, 1] (bodyOf Tryz.f13)) (ap [1, 1, 0, 1, 2, 1, 1, 1] slices_Equal_2_int_2_int_an) [(0, .slice s1 s1L s1C), (1, .slice s2 s2L s2C), (12, .int .i64 t12), (13, .int .i64 t13)] h (slices_Equal_2_int_2_int_K3 nx0 K)
def slices_Equal_2_int_2_int_b3  (h : Hp)  (K : Value → Hp → Prop) : Prop :=
  sx_2 Tryz.prog F 26 (cp [1, 1, 1] (bodyOf Tryz.f13)) (ap [1, 1, 1] slices_Equal_2_int_2_int_an) [] h (slices_Equal_2_int_2_int_K0  K)
theorem slices_Equal_2_int_2_int_b0_eq (s1 : Option Addr) (s1L : Nat) (s1C : Nat) (s2 : Option Addr) (s2L : Nat) (s2C : Nat) (h : Hp)  (K : Value → Hp → Prop) : slices_Equal_2_int_2_int_b0 s1 s1L s1C s2 s2L s2C h  K = (
  cond (!decide ((s1L : Int) = (s2L : Int)))
  (K (.bool false) h)
  (LoopVC ((0, ()) : Int × Unit) h (fun (nx0 : Int × Unit → Hp → Prop) (s3 : Int × Unit) h1 => slices_Equal_2_int_2_int_b1 s3.1 s1 s1L s1C s2 s2L s2C (s1L : Int) h1 nx0 K))) := by kernel_rfl
theorem slices_Equal_2_int_2_int_b1_eq (t13 : Int) (s1 : Option Addr) (s1L : Nat) (s1C : Nat) (s2 : Option Addr) (s2L : Nat) (s2C : Nat) (t12 : Int) (h : Hp) (nx0 : Int × Unit → Hp → Prop) (K : Value → Hp → Prop) : slices_Equal_2_int_2_int_b1 t13 s1 s1L s1C s2 s2L s2C t12 h nx0 K = (
  cond (decide (t13 < t12))
  ((0 ≤ t13 ∧ t13 < (s1L : Int)) ∧
  NN s1 fun a1 =>
  ∃ n1 : Int, ∃ n2 : Int, cell h (a1.add (Int.toNat t13 * 2)) = some (.int .i64 n1) ∧
  cell h ((a1.add (Int.toNat t13 * 2)).add 1) = some (.int .i64 n2) ∧
  (0 ≤ t13 ∧ t13 < (s2L : Int)) ∧
  NN s2 fun a2 =>
  ∃ n3 : Int, ∃ n4 : Int, cell h (a2.add (Int.toNat t13 * 2)) = some (.int .i64 n3) ∧
  cell h ((a2.add (Int.toNat t13 * 2)).add 1) = some (.int .i64 n4) ∧
  ∃ b1 : Bool, eqC Tryz.prog .neq 51 (.tmp 19) (.tmp 23) (.agg #[.int .i64 n1, .int .i64 n2]) (.agg #[.int .i64 n3, .int .i64 n4]) h b1 ∧
  cond b1
  (K (.bool false) h)
  (slices_Equal_2_int_2_int_b2 s1 s1L s1C s2 s2L s2C t12 t13 h nx0 K))
  (slices_Equal_2_int_2_int_b3  h  K)) := by kernel_rfl
theorem slices_Equal_2_int_2_int_b2_eq (s1 : Option Addr) (s1L : Nat) (s1C : Nat) (s2 : Option Addr) (s2L : Nat) (s2C : Nat) (t12 : Int) (t13 : Int) (h : Hp) (nx0 : Int × Unit → Hp → Prop) (K : Value → Hp → Prop) : slices_Equal_2_int_2_int_b2 s1 s1L s1C s2 s2L s2C t12 t13 h nx0 K = (
  InR (t13 + 1) ∧
  nx0 (t13 + 1, ()) h) := by kernel_rfl
theorem slices_Equal_2_int_2_int_b3_eq  (h : Hp)  (K : Value → Hp → Prop) : slices_Equal_2_int_2_int_b3  h  K = (
  K (.bool true) h) := by kernel_rfl
theorem slices_Equal_2_int_2_int_call {s1 : Option Addr} {s1L : Nat} {s1C : Nat} {s2 : Option Addr} {s2L : Nat} {s2C : Nat} {h : Hp} {K : Value → Hp → Prop} (hk : slices_Equal_2_int_2_int_b0 s1 s1L s1C s2 s2L s2C h K) : HCalls Tryz.prog 13 #[.slice s1 s1L s1C, .slice s2 s2L s2C] h K :=
  calls_of_snd slices_Equal_2_int_2_int_an Tryz.func13 (c := bodyOf Tryz.f13) rfl Tryz.ntmps13 (Nat.le_of_ble_eq_true rfl) (snd_3 F_ok F_mixed) hk

/-! ### btree_Tree_Len -/
def btree_Tree_Len_an : Ann := .leaf
def btree_Tree_Len_K0  (K : Value → Hp → Prop) : Exit → Env → Hp → Prop := retK Tryz.prog Tryz.f14.results.toList K
def btree_Tree_Len_b0 (t : Option Addr) (h : Hp)  (K : Value → Hp → Prop) : Prop :=
  sx_1 Tryz.prog F 9 (cp [] (bodyOf Tryz.f14)) (ap [] btree_Tree_Len_an) [(0, .pointer t)] h (btree_Tree_Len_K0  K)
theorem btree_Tree_Len_b0_eq (t : Option Addr) (h : Hp)  (K : Value → Hp → Prop) : btree_Tree_Len_b0 t h  K = (
  cond t.isNone
  (K (.int .i64 0) h)
  (NN t fun a1 =>
  ∃ n1 : Int, cell h (a1.add 1) = some (.int .i64 n1) ∧
  K (.int .i64 n1) h)) := by kernel_rfl
theorem btree_Tree_Len_call {t : Option Addr} {h : Hp} {K : Value → Hp → Prop} (hk : btree_Tree_Len_b0 t h K) : HCalls Tryz.prog 14 #[.pointer t] h K :=
  calls_of_snd btree_Tree_Len_an Tryz.func14 (c := bodyOf Tryz.f14) rfl Tryz.ntmps14 (Nat.le_of_ble_eq_true rfl) (snd_1 F_ok F_mixed) hk

/-! ### btree_Tree_Get -/
def btree_Tree_Get_an : Ann := .node none (.leaf) (.node (some [0, 1]) (.leaf) (.node none (.leaf) (.node (some [7]) (.leaf) (.leaf))))
def btree_Tree_Get_K0  (K : Value → Hp → Prop) : Exit → Env → Hp → Prop := retK Tryz.prog Tryz.f15.results.toList K
def btree_Tree_Get_b0 (t : Option Addr) (key : Int) (h : Hp)  (K : Value → Hp → Prop) : Prop :=
  sx_3 Tryz.prog F 32 (cp [] (bodyOf Tryz.f15)) (ap [] btree_Tree_Get_an) [(0, .pointer t), (1, .int .i64 key)] h (btree_Tree_Get_K0  K)
def btree_Tree_Get_b1 (t : Option Addr) (key : Int) (h : Hp)  (K : Value → Hp → Prop) : Prop :=
  sx_2 Tryz.prog F 32 (cp [1, 1] (bodyOf Tryz.f15)) (ap [1, 1] btree_Tree_Get_an) [(0, .pointer t), (1, .int .i64 key)] h (btree_Tree_Get_K0  K)
def btree_Tree_Get_b2 (v : Int) (h : Hp)  (K : Value → Hp → Prop) : Prop :=
  sx_1 Tryz.prog F 32 (cp [1, 1, 1, 1] (bodyOf Tryz.f15)) (ap [1, 1, 1, 1] btree_Tree_Get_an) [(7, .int .i64 v)] h (btree_Tree_Get_K0  K)
theorem btree_Tree_Get_b0_eq (t : Option Addr) (key : Int) (h : Hp)  (K : Value → Hp → Prop) : btree_Tree_Get_b0 t key h  K = (
  cond t.isNone
  (K (.tuple #[.int .i64 0, .int .i64 1]) h)
  (New h (.cells #[.int .i64 key] 3) fun b1 h1 =>
  HCalls Tryz.prog 35 #[.slice (some ⟨b1, 0, none⟩) 1 1] h1 fun v1 h2 => ∃ r1 : Bool, v1 = .bool r1 ∧
  cond (!r1)
  (K (.tuple #[.int .i64 0, .int .i64 1]) h2)
  (btree_Tree_Get_b1 t key h2  K))) := by kernel_rfl
theorem btree_Tree_Get_b1_eq (t : Option Addr) (key : Int) (h : Hp)  (K : Value → Hp → Prop) : btree_Tree_Get_b1 t key h  K = (
  HCalls Tryz.prog 38 #[.pointer t, .int .i64 key] h fun v2 h3 => ∃ r2 : Int, ∃ r3 : Int, ∃ r4 : Bool, v2 = .tuple #[.int .i64 r2, .int .i64 r3, .bool r4] ∧
  cond (!r4)
  (K (.tuple #[.int .i64 0, .int .i64 12]) h3)
  (cond (!decide (r2 = key))
  (K (.tuple #[.int .i64 0, .int .i64 12]) h3)
  (btree_Tree_Get_b2 r3 h3  K))) := by kernel_rfl
theorem btree_Tree_Get_b2_eq (v : Int) (h : Hp)  (K : Value → Hp → Prop) : btree_Tree_Get_b2 v h  K = (
  K (.tuple #[.int .i64 v, .int .i64 0]) h) := by kernel_rfl
theorem btree_Tree_Get_call {t : Option Addr} {key : Int} {h : Hp} {K : Value → Hp → Prop} (hk : btree_Tree_Get_b0 t key h K) : HCalls Tryz.prog 15 #[.pointer t, .int .i64 key] h K :=
  calls_of_snd btree_Tree_Get_an Tryz.func15 (c := bodyOf Tryz.f15) rfl Tryz.ntmps15 (Nat.le_of_ble_eq_true rfl) (snd_3 F_ok F_mixed) hk

/-! ### btree_Tree_Height -/
def btree_Tree_Height_an : Ann := .leaf
def btree_Tree_Height_K0  (K : Value → Hp → Prop) : Exit → Env → Hp → Prop := retK Tryz.prog Tryz.f16.results.toList K
def btree_Tree_Height_b0 (t : Option Addr) (h : Hp)  (K : Value → Hp → Prop) : Prop :=
  sx_1 Tryz.prog F 6 (cp [] (bodyOf Tryz.f16)) (ap [] btree_Tree_Height_an) [(0, .pointer t)] h (btree_Tree_Height_K0  K)
theorem btree_Tree_Height_b0_eq (t : Option Addr) (h : Hp)  (K : Value → Hp → Prop) : btree_Tree_Height_b0 t h  K = (
  HCalls Tryz.prog 18 #[.pointer t] h fun v1 h1 => ∃ (r1 : Option Addr) (rL1 rC1 : Nat), v1 = .slice r1 rL1 rC1 ∧
  K (.int .i64 (rL1 : Int)) h1) := by kernel_rfl
theorem btree_Tree_Height_call {t : Option Addr} {h : Hp} {K : Value → Hp → Prop} (hk : btree_Tree_Height_b0 t h K) : HCalls Tryz.prog 16 #[.pointer t] h K :=
  calls_of_snd btree_Tree_Height_an Tryz.func16 (c := bodyOf Tryz.f16) rfl Tryz.ntmps16 (Nat.le_of_ble_eq_true rfl) (snd_1 F_ok F_mixed) hk

/-! ### r43_Shaped -/
def r43_Shaped_an : Ann := .node none (.leaf) (.node (some [0, 1, 2]) (.leaf) (.node (some [0, 1, 2]) (.leaf) (.node none (.leaf) (.node none (.leaf) (.node (some [1, 7]) (.leaf) (.node (some []) (.node none (.leaf) (.loop [1, 7] [(10, .int .i64)] (.node none (.leaf) (.node (some [1, 7, 10]) (.leaf) (.leaf))))) (.leaf)))))))
def r43_Shaped_K0  (K : Value → Hp → Prop) : Exit → Env → Hp → Prop := retK Tryz.prog Tryz.f17.results.toList K
def r43_Shaped_K1  (K : Value → Hp → Prop) : Exit → Env → Hp → Prop := thenE (fun env h => sx_2 Tryz.prog F 71 (cp [1, 1, 1, 1, 1, 1, 1] (bodyOf Tryz.f17)) (ap [1, 1, 1, 1, 1, 1, 1] r43_Shaped_an) (rs [] env) h (r43_Shaped_K0  K)) (r43_Shaped_K0  K)
def r43_Shaped_K2  (K : Value → Hp → Prop) : Exit → Env → Hp → Prop := blockE 0 (r43_Shaped_K1  K)
def r43_Shaped_K3 (nx0 : Int × Unit → Hp → Prop) (K : Value → Hp → Prop) : Exit → Env → Hp → Prop := thenE (fun env h => getV [(10, .int .i64)] env fun s => nx0 s h) (r43_Shaped_K2  K)
def r43_Shaped_b0 (order : Int) (levels : Option Addr) (levelsL : Nat) (levelsC : Nat) (keys : Option Addr) (keysL : Nat) (keysC : Nat) (h : Hp)  (K : Value → Hp → Prop) : Prop :=
  sx_6 Tryz.prog F 71 (cp [] (bodyOf Tryz.f17)) (ap [] r43_Shaped_an) [(0, .int .i64 order), (1, .slice levels levelsL levelsC), (2, .slice keys keysL keysC)] h (r43_Shaped_K0  K)
def r43_Shaped_b1 (order : Int) (levels : Option Addr) (levelsL : Nat) (levelsC : Nat) (keys : Option Addr) (keysL : Nat) (keysC : Nat) (h : Hp)  (K : Value → Hp → Prop) : Prop :=
  sx_5 Tryz.prog F 71 (cp [1, 1] (bodyOf Tryz.f17)) (ap [1, 1] r43_Shaped_an) [(0, .int .i64 order), (1, .slice levels levelsL levelsC), (2, .slice keys keysL keysC)] h (r43_Shaped_K0  K)
def r43_Shaped_b2 (order : Int) (levels : Option Addr) (levelsL : Nat) (levelsC : Nat) (keys : Option Addr) (keysL : Nat) (keysC : Nat) (h : Hp)  (K : Value → Hp → Prop) : Prop :=
  sx_4 Tryz.prog F 71 (cp [1, 1, 1] (bodyOf Tryz.f17)) (ap [1, 1, 1] r43_Shaped_an) [(0, .int .i64 order), (1, .slice levels levelsL levelsC), (2, .slice keys keysL keysC)] h (r43_Shaped_K0  K)
def r43_Shaped_b3 (levels : Option Addr) (levelsL : Nat) (levelsC : Nat) (next : Option Addr) (nextL : Nat) (nextC : Nat) (h : Hp)  (K : Value → Hp → Prop) : Prop :=
  sx_3 Tryz.prog F 71 (cp [1, 1, 1, 1, 1, 1] (bodyOf Tryz.f17)) (ap [1, 1, 1, 1, 1, 1] r43_Shaped_an) [(1, .slice levels levelsL levelsC), (7, .slice next nextL nextC)] h (r43_Shaped_K0  K)
def r43_Shaped_b4 (i : Int) (levels : Option Addr) (levelsL : Nat) (levelsC : Nat) (next : Option Addr) (nextL : Nat) (nextC : Nat) (h : Hp) (nx0 : Int × Unit → Hp → Prop) (K : Value → Hp → Prop) : Prop :=
  sx_2 Tryz.prog F 71 (cp [1, 1, 1, 1, 1, 1, 0, 1, 2, 2] (bodyOf Tryz.f17)) (ap [1, 1, 1, 1, 1, 1, 0, 1, 2] r43_Shaped_an) [(10, .int .i64 i), (1, .slice levels levelsL levelsC), (7, .slice next nextL nextC)] h (r43_Shaped_K3 nx0 K)
def r43_Shaped_b5 (levels : Option Addr) (levelsL : Nat) (levelsC : Nat) (next : Option Addr) (nextL : Nat) (nextC : Nat) (i : Int) (h : Hp) (nx0 : Int × Unit → Hp → Prop) (K : Value → Hp → Prop) : Prop :=
  sx_1 Tryz.prog F 71 (cp [1, 1, 1, 1, 1, 1, 0, 1, 2, 2, 1, 1] (bodyOf Tryz.f17)) (ap [1, 1, 1, 1, 1, 1, 0, 1, 2, 1, 1] r43_Shaped_an) [(1, .slice levels levelsL levelsC), (7, .slice next nextL nextC), (10, .int .i64 i)] h (r43_Shaped_K3 nx0 K)
def r43_Shaped_b6  (h : Hp)  (K : Value → Hp → Prop) : Prop :=
  sx_2 Tryz.prog F 71 (cp [1, 1, 1, 1, 1, 1, 1] (bodyOf Tryz.f17)) (ap [1, 1, 1, 1, 1, 1, 1] r43_Shaped_an) [] h (r43_Shaped_K0  K)
theorem r43_Shaped_b0_eq (order : Int) (levels : Option Addr) (levelsL : Nat) (levelsC : Nat) (keys : Option Addr) (keysL : Nat) (keysC : Nat) (h : Hp)  (K : Value → Hp → Prop) : r43_Shaped_b0 order levels levelsL levelsC keys keysL keysC h  K = (
  cond (decide ((keysL : Int) = 0))
  (cond (decide ((keysL : Int) = 0))
  (K (.bool (decide ((levelsL : Int) = 0))) h)
  (K (.bool false) h))
  (cond (decide ((levelsL : Int) = 0))
  (cond (decide ((keysL : Int) = 0))
  (K (.bool (decide ((levelsL : Int) = 0))) h)
  (K (.bool false) h))
  (r43_Shaped_b1 order levels levelsL levelsC keys keysL keysC h  K))) := by kernel_rfl
theorem r43_Shaped_b1_eq (order : Int) (levels : Option Addr) (levelsL : Nat) (levelsC : Nat) (keys : Option Addr) (keysL : Nat) (keysC : Nat) (h : Hp)  (K : Value → Hp → Prop) : r43_Shaped_b1 order levels levelsL levelsC keys keysL keysC h  K = (
  cond (decide ((20 : Int) < (levelsL : Int)))
  (K (.bool false) h)
  ((0 ≤ (0 : Int) ∧ (0 : Int) < (levelsL : Int)) ∧
  NN levels fun a1 =>
  ∃ (a2 : Option Addr) (L1 C1 : Nat), cell h (a1.add (Int.toNat (0 : Int) * 1)) = some (.slice a2 L1 C1) ∧
  cond (!decide ((L1 : Int) = 1))
  (K (.bool false) h)
  (r43_Shaped_b2 order levels levelsL levelsC keys keysL keysC h  K))) := by kernel_rfl
theorem r43_Shaped_b2_eq (order : Int) (levels : Option Addr) (levelsL : Nat) (levelsC : Nat) (keys : Option Addr) (keysL : Nat) (keysC : Nat) (h : Hp)  (K : Value → Hp → Prop) : r43_Shaped_b2 order levels levelsL levelsC keys keysL keysC h  K = (
  (0 ≤ (levelsL : Int) ∧ (levelsL : Int) ≤ (levelsL : Int) ∧ (levelsL : Int) ≤ 281474976710656 ∧ (levelsL : Int) * ((8 : Nat) : Int) ≤ 281474976710656) ∧
  New h (.cells (repL (Int.toNat (levelsL : Int) * 1) [.int .i64 0]).toArray 3) fun b1 h1 =>
  HCalls Tryz.prog 39 #[.int .i64 order, .slice levels levelsL levelsC, .int .i64 0, .slice (some ⟨b1, 0, none⟩) (Int.toNat (levelsL : Int)) (Int.toNat (levelsL : Int))] h1 fun v1 h2 => ∃ (r1 : Option Addr) (rL1 rC1 : Nat), ∃ r2 : Bool, v1 = .tuple #[.slice r1 rL1 rC1, .bool r2] ∧
  cond (!r2)
  (K (.bool false) h2)
  (HCalls Tryz.prog 34 #[.slice r1 rL1 rC1, .slice keys keysL keysC] h2 fun v2 h3 => ∃ r3 : Bool, v2 = .bool r3 ∧
  cond (!r3)
  (K (.bool false) h3)
  (r43_Shaped_b3 levels levelsL levelsC (some ⟨b1, 0, none⟩) (Int.toNat (levelsL : Int)) (Int.toNat (levelsL : Int)) h3  K))) := by kernel_rfl
theorem r43_Shaped_b3_eq (levels : Option Addr) (levelsL : Nat) (levelsC : Nat) (next : Option Addr) (nextL : Nat) (nextC : Nat) (h : Hp)  (K : Value → Hp → Prop) : r43_Shaped_b3 levels levelsL levelsC next nextL nextC h  K = (
  LoopVC ((0, ()) : Int × Unit) h (fun (nx0 : Int × Unit → Hp → Prop) (s1 : Int × Unit) h4 => r43_Shaped_b4 s1.1 levels levelsL levelsC next nextL nextC h4 nx0 K)) := by kernel_rfl
theorem r43_Shaped_b4_eq (i : Int) (levels : Option Addr) (levelsL : Nat) (levelsC : Nat) (next : Option Addr) (nextL : Nat) (nextC : Nat) (h : Hp) (nx0 : Int × Unit → Hp → Prop) (K : Value → Hp → Prop) : r43_Shaped_b4 i levels levelsL levelsC next nextL nextC h nx0 K = (
  cond (decide (i < (levelsL : Int)))
  ((0 ≤ i ∧ i < (nextL : Int)) ∧
  NN next fun a3 =>
  ∃ n1 : Int, cell h (a3.add (Int.toNat i * 1)) = some (.int .i64 n1) ∧
  (0 ≤ i ∧ i < (levelsL : Int)) ∧
  NN levels fun a4 =>
  ∃ (a5 : Option Addr) (L2 C2 : Nat), cell h (a4.add (Int.toNat i * 1)) = some (.slice a5 L2 C2) ∧
  cond (!decide (n1 = (L2 : Int)))
  (K (.bool false) h)
  (r43_Shaped_b5 levels levelsL levelsC next nextL nextC i h nx0 K))
  (r43_Shaped_b6  h  K)) := by kernel_rfl
theorem r43_Shaped_b5_eq (levels : Option Addr) (levelsL : Nat) (levelsC : Nat) (next : Option Addr) (nextL : Nat) (nextC : Nat) (i : Int) (h : Hp) (nx0 : Int × Unit → Hp → Prop) (K : Value → Hp → Prop) : r43_Shaped_b5 levels levelsL levelsC next nextL nextC i h nx0 K = (
  InR (i + 1) ∧
  nx0 (i + 1, ()) h) := by kernel_rfl
theorem r43_Shaped_b6_eq  (h : Hp)  (K : Value → Hp → Prop) : r43_Shaped_b6  h  K = (
  K (.bool true) h) := by kernel_rfl
theorem r43_Shaped_call {order : Int} {levels : Option Addr} {levelsL : Nat} {levelsC : Nat} {keys : Option Addr} {keysL : Nat} {keysC : Nat} {h : Hp} {K : Value → Hp → Prop} (hk : r43_Shaped_b0 order levels levelsL levelsC keys keysL keysC h K) : HCalls Tryz.prog 17 #[.int .i64 order, .slice levels levelsL levelsC, .slice keys keysL keysC] h K :=
  calls_of_snd r43_Shaped_an Tryz.func17 (c := bodyOf Tryz.f17) rfl Tryz.ntmps17 (Nat.le_of_ble_eq_true rfl) (snd_6 F_ok F_mixed) hk

/-! ### btree_Tree_Levels -/
def btree_Tree_Levels_an : Ann := .node none (.leaf) (.node (some [0]) (.leaf) (.node none (.leaf) (.node (some [3]) (.node none (.leaf) (.loop [] [(3, .slice), (4, .slice)] (.node none (.leaf) (.node none (.leaf) (.node none (.leaf) (.node (some [3, 5, 6]) (.node none (.leaf) (.loop [3, 26, 27] [(5, .slice), (6, .slice), (28, .int .i64)] (.node none (.leaf) (.node none (.leaf) (.node (some [3, 5, 6, 26, 27, 28]) (.leaf) (.leaf)))))) (.leaf))))))) (.leaf))))
def btree_Tree_Levels_K0  (K : Value → Hp → Prop) : Exit → Env → Hp → Prop := retK Tryz.prog Tryz.f18.results.toList K
def btree_Tree_Levels_K1  (K : Value → Hp → Prop) : Exit → Env → Hp → Prop := thenE (fun env h => sx_3 Tryz.prog F 53 (cp [1, 1, 1, 1] (bodyOf Tryz.f18)) (ap [1, 1, 1, 1] btree_Tree_Levels_an) (rs [3] env) h (btree_Tree_Levels_K0  K)) (btree_Tree_Levels_K0  K)
def btree_Tree_Levels_K2  (K : Value → Hp → Prop) : Exit → Env → Hp → Prop := blockE 0 (btree_Tree_Levels_K1  K)
def btree_Tree_Levels_K3 (nx0 : (Option Addr × Nat × Nat) × (Option Addr × Nat × Nat) × Unit → Hp → Prop) (K : Value → Hp → Prop) : Exit → Env → Hp → Prop := thenE (fun env h => getV [(3, .slice), (4, .slice)] env fun s => nx0 s h) (btree_Tree_Levels_K2  K)
def btree_Tree_Levels_K4 (nx0 : (Option Addr × Nat × Nat) × (Option Addr × Nat × Nat) × Unit → Hp → Prop) (K : Value → Hp → Prop) : Exit → Env → Hp → Prop := blockE 1 (btree_Tree_Levels_K3 nx0 K)
def btree_Tree_Levels_K5 (nx0 : (Option Addr × Nat × Nat) × (Option Addr × Nat × Nat) × Unit → Hp → Prop) (K : Value → Hp → Prop) : Exit → Env → Hp → Prop := thenE (fun env h => sx_2 Tryz.prog F 53 (cp [1, 1, 1, 0, 1, 2, 2, 1, 2, 1, 1, 1] (bodyOf Tryz.f18)) (ap [1, 1, 1, 0, 1, 2, 1, 1, 1, 1] btree_Tree_Levels_an) (rs [3, 5, 6] env) h (btree_Tree_Levels_K4 nx0 K)) (btree_Tree_Levels_K4 nx0 K)
def btree_Tree_Levels_K6 (nx0 : (Option Addr × Nat × Nat) × (Option Addr × Nat × Nat) × Unit → Hp → Prop) (K : Value → Hp → Prop) : Exit → Env → Hp → Prop := blockE 2 (btree_Tree_Levels_K5 nx0 K)
def btree_Tree_Levels_K7 (nx0 : (Option Addr × Nat × Nat) × (Option Addr × Nat × Nat) × Unit → Hp → Prop) (nx1 : (Option Addr × Nat × Nat) × (Option Addr × Nat × Nat) × Int × Unit → Hp → Prop) (K : Value → Hp → Prop) : Exit → Env → Hp → Prop := thenE (fun env h => getV [(5, .slice), (6, .slice), (28, .int .i64)] env fun s => nx1 s h) (btree_Tree_Levels_K6 nx0 K)
def btree_Tree_Levels_b0 (t : Option Addr) (h : Hp)  (K : Value → Hp → Prop) : Prop :=
  sx_5 Tryz.prog F 53 (cp [] (bodyOf Tryz.f18)) (ap [] btree_Tree_Levels_an) [(0, .pointer t)] h (btree_Tree_Levels_K0  K)
def btree_Tree_Levels_b1 (t : Option Addr) (h : Hp)  (K : Value → Hp → Prop) : Prop :=
  sx_4 Tryz.prog F 53 (cp [1, 1] (bodyOf Tryz.f18)) (ap [1, 1] btree_Tree_Levels_an) [(0, .pointer t)] h (btree_Tree_Levels_K0  K)
def btree_Tree_Levels_b2 (out : Option Addr) (outL : Nat) (outC : Nat) (l : Option Addr) (lL : Nat) (lC : Nat) (h : Hp) (nx0 : (Option Addr × Nat × Nat) × (Option Addr × Nat × Nat) × Unit → Hp → Prop) (K : Value → Hp → Prop) : Prop :=
  sx_3 Tryz.prog F 53 (cp [1, 1, 1, 0, 1, 2, 2] (bodyOf Tryz.f18)) (ap [1, 1, 1, 0, 1, 2] btree_Tree_Levels_an) [(3, .slice out outL outC), (4, .slice l lL lC)] h (btree_Tree_Levels_K3 nx0 K)
def btree_Tree_Levels_b3 (level : Option Addr) (levelL : Nat) (levelC : Nat) (next : Option Addr) (nextL : Nat) (nextC : Nat) (t28 : Int) (out : Option Addr) (outL : Nat) (outC : Nat) (t26 : Option Addr) (t26L : Nat) (t26C : Nat) (t27 : Int) (h : Hp) (nx0 : (Option Addr × Nat × Nat) × (Option Addr × Nat × Nat) × Unit → Hp → Prop) (nx1 : (Option Addr × Nat × Nat) × (Option Addr × Nat × Nat) × Int × Unit → Hp → Prop) (K : Value → Hp → Prop) : Prop :=
  sx_2 Tryz.prog F 53 (cp [1, 1, 1, 0, 1, 2, 2, 1, 2, 1, 1, 0, 1, 2, 2] (bodyOf Tryz.f18)) (ap [1, 1, 1, 0, 1, 2, 1, 1, 1, 0, 1, 2] btree_Tree_Levels_an) [(5, .slice level levelL levelC), (6, .slice next nextL nextC), (28, .int .i64 t28), (3, .slice out outL outC), (26, .slice t26 t26L t26C), (27, .int .i64 t27)] h (btree_Tree_Levels_K7 nx0 nx1 K)
def btree_Tree_Levels_b4 (out : Option Addr) (outL : Nat) (outC : Nat) (h : Hp)  (K : Value → Hp → Prop) : Prop :=
  sx_3 Tryz.prog F 53 (cp [1, 1, 1, 1] (bodyOf Tryz.f18)) (ap [1, 1, 1, 1] btree_Tree_Levels_an) [(3, .slice out outL outC)] h (btree_Tree_Levels_K0  K)
def btree_Tree_Levels_b5 (out : Option Addr) (outL : Nat) (outC : Nat) (level : Option Addr) (levelL : Nat) (levelC : Nat) (next : Option Addr) (nextL : Nat) (nextC : Nat) (t26 : Option Addr) (t26L : Nat) (t26C : Nat) (t27 : Int) (t28 : Int) (h : Hp) (nx0 : (Option Addr × Nat × Nat) × (Option Addr × Nat × Nat) × Unit → Hp → Prop) (nx1 : (Option Addr × Nat × Nat) × (Option Addr × Nat × Nat) × Int × Unit → Hp → Prop) (K : Value → Hp → Prop) : Prop :=
  sx_1 Tryz.prog F 53 (cp [1, 1, 1, 0, 1, 2, 2, 1, 2, 1, 1, 0, 1, 2, 2, 1, 1, 1] (bodyOf Tryz.f18)) (ap [1, 1, 1, 0, 1, 2, 1, 1, 1, 0, 1, 2, 1, 1, 1] btree_Tree_Levels_an) [(3, .slice out outL outC), (5, .slice level levelL levelC), (6, .slice next nextL nextC), (26, .slice t26 t26L t26C), (27, .int .i64 t27), (28, .int .i64 t28)] h (btree_Tree_Levels_K7 nx0 nx1 K)
def btree_Tree_Levels_b6 (out : Option Addr) (outL : Nat) (outC : Nat) (level : Option Addr) (levelL : Nat) (levelC : Nat) (next : Option Addr) (nextL : Nat) (nextC : Nat) (h : Hp) (nx0 : (Option Addr × Nat × Nat) × (Option Addr × Nat × Nat) × Unit → Hp → Prop) (K : Value → Hp → Prop) : Prop :=
  sx_2 Tryz.prog F 53 (cp [1, 1, 1, 0, 1, 2, 2, 1, 2, 1, 1, 1] (bodyOf Tryz.f18)) (ap [1, 1, 1, 0, 1, 2, 1, 1, 1, 1] btree_Tree_Levels_an) [(3, .slice out outL outC), (5, .slice level levelL levelC), (6, .slice next nextL nextC)] h (btree_Tree_Levels_K4 nx0 K)
theorem btree_Tree_Levels_b0_eq (t : Option Addr) (h : Hp)  (K : Value → Hp → Prop) : btree_Tree_Levels_b0 t h  K = (
  cond t.isNone
  (K (.slice none 0 0) h)
  (NN t fun a1 =>
  ∃ p1 : Option Addr, cell h (a1.add 2) = some (.pointer p1) ∧
  cond p1.isNone
  (K (.slice none 0 0) h)
  (btree_Tree_Levels_b1 t h  K))) := by kernel_rfl
theorem btree_Tree_Levels_b1_eq (t : Option Addr) (h : Hp)  (K : Value → Hp → Prop) : btree_Tree_Levels_b1 t h  K = (
  NN t fun a2 =>
  ∃ p2 : Option Addr, cell h (a2.add 2) = some (.pointer p2) ∧
  New h (.cells #[.pointer p2] 60) fun b1 h1 =>
  LoopVC (((none, 0, 0), (some ⟨b1, 0, none⟩, 1, 1), ()) : (Option Addr × Nat × Nat) × (Option Addr × Nat × Nat) × Unit) h1 (fun (nx0 : (Option Addr × Nat × Nat) × (Option Addr × Nat × Nat) × Unit → Hp → Prop) (s1 : (Option Addr × Nat × Nat) × (Option Addr × Nat × Nat) × Unit) h2 => btree_Tree_Levels_b2 s1.1.1 s1.1.2.1 s1.1.2.2 s1.2.1.1 s1.2.1.2.1 s1.2.1.2.2 h2 nx0 K)) := by kernel_rfl
theorem btree_Tree_Levels_b2_eq (out : Option Addr) (outL : Nat) (outC : Nat) (l : Option Addr) (lL : Nat) (lC : Nat) (h : Hp) (nx0 : (Option Addr × Nat × Nat) × (Option Addr × Nat × Nat) × Unit → Hp → Prop) (K : Value → Hp → Prop) : btree_Tree_Levels_b2 out outL outC l lL lC h nx0 K = (
  cond (decide ((0 : Int) < (lL : Int)))
  (LoopVC (((none, 0, 0), (none, 0, 0), 0, ()) : (Option Addr × Nat × Nat) × (Option Addr × Nat × Nat) × Int × Unit) h (fun (nx1 : (Option Addr × Nat × Nat) × (Option Addr × Nat × Nat) × Int × Unit → Hp → Prop) (s2 : (Option Addr × Nat × Nat) × (Option Addr × Nat × Nat) × Int × Unit) h3 => btree_Tree_Levels_b3 s2.1.1 s2.1.2.1 s2.1.2.2 s2.2.1.1 s2.2.1.2.1 s2.2.1.2.2 s2.2.2.1 out outL outC l lL lC (lL : Int) h3 nx0 nx1 K))
  (btree_Tree_Levels_b4 out outL outC h  K)) := by kernel_rfl
theorem btree_Tree_Levels_b3_eq (level : Option Addr) (levelL : Nat) (levelC : Nat) (next : Option Addr) (nextL : Nat) (nextC : Nat) (t28 : Int) (out : Option Addr) (outL : Nat) (outC : Nat) (t26 : Option Addr) (t26L : Nat) (t26C : Nat) (t27 : Int) (h : Hp) (nx0 : (Option Addr × Nat × Nat) × (Option Addr × Nat × Nat) × Unit → Hp → Prop) (nx1 : (Option Addr × Nat × Nat) × (Option Addr × Nat × Nat) × Int × Unit → Hp → Prop) (K : Value → Hp → Prop) : btree_Tree_Levels_b3 level levelL levelC next nextL nextC t28 out outL outC t26 t26L t26C t27 h nx0 nx1 K = (
  cond (decide (t28 < t27))
  ((0 ≤ t28 ∧ t28 < (t26L : Int)) ∧
  NN t26 fun a3 =>
  ∃ p3 : Option Addr, cell h (a3.add (Int.toNat t28 * 1)) = some (.pointer p3) ∧
  NN p3 fun a4 =>
  ∃ (a5 : Option Addr) (L1 C1 : Nat), cell h a4 = some (.slice a5 L1 C1) ∧
  HCalls Tryz.prog 40 #[.slice a5 L1 C1] h fun v1 h4 => ∃ (r1 : Option Addr) (rL1 rC1 : Nat), v1 = .slice r1 rL1 rC1 ∧
  New h4 (.cells #[.slice r1 rL1 rC1] 37) fun b2 h5 =>
  appendV Tryz.prog 29 29 (.slice level levelL levelC) (.slice (some ⟨b2, 0, none⟩) 1 1) h5 (slK fun a6 l1 c1 h6 =>
  NN p3 fun a7 =>
  ∃ (a8 : Option Addr) (L2 C2 : Nat), cell h6 (a7.add 2) = some (.slice a8 L2 C2) ∧
  appendV Tryz.prog 83 83 (.slice next nextL nextC) (.slice a8 L2 C2) h6 (slK fun a9 l2 c2 h7 =>
  btree_Tree_Levels_b5 out outL outC a6 l1 c1 a9 l2 c2 t26 t26L t26C t27 t28 h7 nx0 nx1 K)))
  (btree_Tree_Levels_b6 out outL outC level levelL levelC next nextL nextC h nx0 K)) := by kernel_rfl
theorem btree_Tree_Levels_b4_eq (out : Option Addr) (outL : Nat) (outC : Nat) (h : Hp)  (K : Value → Hp → Prop) : btree_Tree_Levels_b4 out outL outC h  K = (
  K (.slice out outL outC) h) := by kernel_rfl
theorem btree_Tree_Levels_b5_eq (out : Option Addr) (outL : Nat) (outC : Nat) (level : Option Addr) (levelL : Nat) (levelC : Nat) (next : Option Addr) (nextL : Nat) (nextC : Nat) (t26 : Option Addr) (t26L : Nat) (t26C : Nat) (t27 : Int) (t28 : Int) (h : Hp) (nx0 : (Option Addr × Nat × Nat) × (Option Addr × Nat × Nat) × Unit → Hp → Prop) (nx1 : (Option Addr × Nat × Nat) × (Option Addr × Nat × Nat) × Int × Unit → Hp → Prop) (K : Value → Hp → Prop) : btree_Tree_Levels_b5 out outL outC level levelL levelC next nextL nextC t26 t26L t26C t27 t28 h nx0 nx1 K = (
  InR (t28 + 1) ∧
  nx1 ((level, levelL, levelC), (next, nextL, nextC), t28 + 1, ()) h) := by kernel_rfl
theorem btree_Tree_Levels_b6_eq (out : Option Addr) (outL : Nat) (outC : Nat) (level : Option Addr) (levelL : Nat) (levelC : Nat) (next : Option Addr) (nextL : Nat) (nextC : Nat) (h : Hp) (nx0 : (Option Addr × Nat × Nat) × (Option Addr × Nat × Nat) × Unit → Hp → Prop) (K : Value → Hp → Prop) : btree_Tree_Levels_b6 out outL outC level levelL levelC next nextL nextC h nx0 K = (
  New h (.cells #[.slice level levelL levelC] 29) fun b3 h8 =>
  appendV Tryz.prog 57 57 (.slice out outL outC) (.slice (some ⟨b3, 0, none⟩) 1 1) h8 (slK fun a10 l3 c3 h9 =>
  nx0 ((a10, l3, c3), (next, nextL, nextC), ()) h9)) := by kernel_rfl
theorem btree_Tree_Levels_call {t : Option Addr} {h : Hp} {K : Value → Hp → Prop} (hk : btree_Tree_Levels_b0 t h K) : HCalls Tryz.prog 18 #[.pointer t] h K :=
  calls_of_snd btree_Tree_Levels_an Tryz.func18 (c := bodyOf Tryz.f18) rfl Tryz.ntmps18 (Nat.le_of_ble_eq_true rfl) (snd_5 F_ok F_mixed) hk

/-! ### btree_Tree_Blocks -/
def btree_Tree_Blocks_an : Ann := .leaf
def btree_Tree_Blocks_K0  (K : Value → Hp → Prop) : Exit → Env → Hp → Prop := retK Tryz.prog Tryz.f19.results.toList K
def btree_Tree_Blocks_b0 (t : Option Addr) (h : Hp)  (K : Value → Hp → Prop) : Prop :=
  sx_1 Tryz.prog F 9 (cp [] (bodyOf Tryz.f19)) (ap [] btree_Tree_Blocks_an) [(0, .pointer t)] h (btree_Tree_Blocks_K0  K)
theorem btree_Tree_Blocks_b0_eq (t : Option Addr) (h : Hp)  (K : Value → Hp → Prop) : btree_Tree_Blocks_b0 t h  K = (
  cond t.isNone
  (K (.int .i64 0) h)
  (NN t fun a1 =>
  ∃ n1 : Int, cell h (a1.add 3) = some (.int .i64 n1) ∧
  K (.int .i64 n1) h)) := by kernel_rfl
theorem btree_Tree_Blocks_call {t : Option Addr} {h : Hp} {K : Value → Hp → Prop} (hk : btree_Tree_Blocks_b0 t h K) : HCalls Tryz.prog 19 #[.pointer t] h K :=
  calls_of_snd btree_Tree_Blocks_an Tryz.func19 (c := bodyOf Tryz.f19) rfl Tryz.ntmps19 (Nat.le_of_ble_eq_true rfl) (snd_1 F_ok F_mixed) hk

/-! ### r03_ValidOp -/
def r03_ValidOp_an : Ann := .node none (.leaf) (.node (some [0, 3]) (.node none (.plan (.qu 0 (.qu 1 (.qu 2 (.qu 3 (.qu 4 (.qu 5 (.qu 6 (.qu 7 (.qu 8 (.qu 9 (.qu 10 (.qu 11 (.qu 12 (.qu 13 (.qu 14 (.wo 15 (.qu 16 (.qu 17 (.qu 18 (.qu 19 (.qu 20 (.qu 21 (.qu 22 (.qu 23 (.qu 24 .fin))))))))) .no))))))))))))))))) (.leaf)) (.node none (.leaf) (.node (some [0, 3]) (.leaf) (.node (some []) (.node none (.leaf) (.loop [0, 3] [(6, .int .i64)] (.node none (.leaf) (.node (some [0, 3, 6]) (.leaf) (.leaf))))) (.leaf)))))
def r03_ValidOp_K0  (K : Value → Hp → Prop) : Exit → Env → Hp → Prop := retK Tryz.prog Tryz.f20.results.toList K
def r03_ValidOp_K1  (K : Value → Hp → Prop) : Exit → Env → Hp → Prop := thenE (fun env h => sx_2 Tryz.prog F 89 (cp [1, 1, 1, 1, 1] (bodyOf Tryz.f20)) (ap [1, 1, 1, 1, 1] r03_ValidOp_an) (rs [] env) h (r03_ValidOp_K0  K)) (r03_ValidOp_K0  K)
def r03_ValidOp_K2  (K : Value → Hp → Prop) : Exit → Env → Hp → Prop := blockE 0 (r03_ValidOp_K1  K)
def r03_ValidOp_K3 (nx0 : Int × Unit → Hp → Prop) (K : Value → Hp → Prop) : Exit → Env → Hp → Prop := thenE (fun env h => getV [(6, .int .i64)] env fun s => nx0 s h) (r03_ValidOp_K2  K)
def r03_ValidOp_b0 (kind : Int) (o_0 : Int) (o_1 : Option Addr) (o_1L : Nat) (o_1C : Nat) (h : Hp)  (K : Value → Hp → Prop) : Prop :=
  sx_5 Tryz.prog F 89 (cp [] (bodyOf Tryz.f20)) (ap [] r03_ValidOp_an) [(0, .int .i64 kind), (1, .agg #[.int .i64 o_0, .slice o_1 o_1L o_1C])] h (r03_ValidOp_K0  K)
def r03_ValidOp_b1 (kind : Int) (o : Option Addr) (h : Hp)  (K : Value → Hp → Prop) : Prop :=
  sx_4 Tryz.prog F 89 (cp [1, 1] (bodyOf Tryz.f20)) (ap [1, 1] r03_ValidOp_an) [(0, .int .i64 kind), (3, .pointer o)] h (r03_ValidOp_K0  K)
def r03_ValidOp_b2 (kind : Int) (o : Option Addr) (h : Hp)  (K : Value → Hp → Prop) : Prop :=
  sx_3 Tryz.prog F 89 (cp [1, 1, 1, 1] (bodyOf Tryz.f20)) (ap [1, 1, 1, 1] r03_ValidOp_an) [(0, .int .i64 kind), (3, .pointer o)] h (r03_ValidOp_K0  K)
def r03_ValidOp_b3 (i : Int) (kind : Int) (o : Option Addr) (h : Hp) (nx0 : Int × Unit → Hp → Prop) (K : Value → Hp → Prop) : Prop :=
  sx_2 Tryz.prog F 89 (cp [1, 1, 1, 1, 0, 1, 2, 2] (bodyOf Tryz.f20)) (ap [1, 1, 1, 1, 0, 1, 2] r03_ValidOp_an) [(6, .int .i64 i), (0, .int .i64 kind), (3, .pointer o)] h (r03_ValidOp_K3 nx0 K)
def r03_ValidOp_b4 (kind : Int) (o : Option Addr) (i : Int) (h : Hp) (nx0 : Int × Unit → Hp → Prop) (K : Value → Hp → Prop) : Prop :=
  sx_1 Tryz.prog F 89 (cp [1, 1, 1, 1, 0, 1, 2, 2, 1, 1] (bodyOf Tryz.f20)) (ap [1, 1, 1, 1, 0, 1, 2, 1, 1] r03_ValidOp_an) [(0, .int .i64 kind), (3, .pointer o), (6, .int .i64 i)] h (r03_ValidOp_K3 nx0 K)
def r03_ValidOp_b5  (h : Hp)  (K : Value → Hp → Prop) : Prop :=
  sx_2 Tryz.prog F 89 (cp [1, 1, 1, 1, 1] (bodyOf Tryz.f20)) (ap [1, 1, 1, 1, 1] r03_ValidOp_an) [] h (r03_ValidOp_K0  K)
theorem r03_ValidOp_b0_eq (kind : Int) (o_0 : Int) (o_1 : Option Addr) (o_1L : Nat) (o_1C : Nat) (h : Hp)  (K : Value → Hp → Prop) : r03_ValidOp_b0 kind o_0 o_1 o_1L o_1C h  K = (
  New h (.cells #[.int .i64 o_0, .slice o_1 o_1L o_1C] 39) fun b1 h1 =>
  cond (decide (kind < 1))
  (K (.bool false) h1)
  (cond (decide ((6 : Int) < kind))
  (K (.bool false) h1)
  (∃ n1 : Int, cell h1 ⟨b1, 0, none⟩ = some (.int .i64 n1) ∧
  cond (decide (n1 < 1))
  (K (.bool false) h1)
  (∃ n2 : Int, cell h1 ⟨b1, 0, none⟩ = some (.int .i64 n2) ∧
  HCalls Tryz.prog 41 #[.int .i64 kind] h1 fun v1 h2 => ∃ (r1 : Option Addr) (rL1 rC1 : Nat), v1 = .slice r1 rL1 rC1 ∧
  (∃ n3 : Int, cell h2 ⟨b1, 0, none⟩ = some (.int .i64 n3) ∧
  (.int .i64 n3 : Value) = .int .i64 n2) ∧
  cond (decide ((rL1 : Int) < n2))
  (K (.bool false) h2)
  (∃ (a1 : Option Addr) (L1 C1 : Nat), cell h2 ((⟨b1, 0, none⟩ : Addr).add 1) = some (.slice a1 L1 C1) ∧
  cond (decide ((64 : Int) < (L1 : Int)))
  (K (.bool false) h2)
  (r03_ValidOp_b1 kind (some ⟨b1, 0, none⟩) h2  K)))))) := by kernel_rfl
theorem r03_ValidOp_b1_eq (kind : Int) (o : Option Addr) (h : Hp)  (K : Value → Hp → Prop) : r03_ValidOp_b1 kind o h  K = (
  NN o fun a2 =>
  ∃ n4 : Int, cell h a2 = some (.int .i64 n4) ∧
  HCalls Tryz.prog 42 #[.int .i64 kind, .int .i64 n4] h fun v2 h3 => ∃ r2 : Int, v2 = .int .i64 r2 ∧
  cond (decide ((0 : Int) ≤ r2))
  (NN o fun a3 =>
  ∃ (a4 : Option Addr) (L2 C2 : Nat), cell h3 (a3.add 1) = some (.slice a4 L2 C2) ∧
  cond (!decide ((L2 : Int) = r2))
  (K (.bool false) h3)
  (cond (decide (r2 < 0))
  (NN o fun a5 =>
  ∃ (a6 : Option Addr) (L3 C3 : Nat), cell h3 (a5.add 1) = some (.slice a6 L3 C3) ∧
  cond (decide ((L3 : Int) = 0))
  (K (.bool false) h3)
  (r03_ValidOp_b2 kind o h3  K))
  (r03_ValidOp_b2 kind o h3  K)))
  (cond (decide (r2 < 0))
  (NN o fun a7 =>
  ∃ (a8 : Option Addr) (L4 C4 : Nat), cell h3 (a7.add 1) = some (.slice a8 L4 C4) ∧
  cond (decide ((L4 : Int) = 0))
  (K (.bool false) h3)
  (r03_ValidOp_b2 kind o h3  K))
  (r03_ValidOp_b2 kind o h3  K))) := by kernel_rfl
theorem r03_ValidOp_b2_eq (kind : Int) (o : Option Addr) (h : Hp)  (K : Value → Hp → Prop) : r03_ValidOp_b2 kind o h  K = (
  LoopVC ((0, ()) : Int × Unit) h (fun (nx0 : Int × Unit → Hp → Prop) (s1 : Int × Unit) h4 => r03_ValidOp_b3 s1.1 kind o h4 nx0 K)) := by kernel_rfl
theorem r03_ValidOp_b3_eq (i : Int) (kind : Int) (o : Option Addr) (h : Hp) (nx0 : Int × Unit → Hp → Prop) (K : Value → Hp → Prop) : r03_ValidOp_b3 i kind o h nx0 K = (
  NN o fun a9 =>
  ∃ (a10 : Option Addr) (L5 C5 : Nat), cell h (a9.add 1) = some (.slice a10 L5 C5) ∧
  cond (decide (i < (L5 : Int)))
  (NN o fun a11 =>
  ∃ (a12 : Option Addr) (L6 C6 : Nat), cell h (a11.add 1) = some (.slice a12 L6 C6) ∧
  (0 ≤ i ∧ i < (L6 : Int)) ∧
  NN a12 fun a13 =>
  ∃ n5 : Int, cell h (a13.add (Int.toNat i * 1)) = some (.int .i64 n5) ∧
  HCalls Tryz.prog 43 #[.int .i64 n5] h fun v3 h5 => ∃ r3 : Bool, v3 = .bool r3 ∧
  cond (!r3)
  (K (.bool false) h5)
  (cond (decide (kind = 6))
  (NN o fun a14 =>
  ∃ (a15 : Option Addr) (L7 C7 : Nat), cell h5 (a14.add 1) = some (.slice a15 L7 C7) ∧
  (0 ≤ i ∧ i < (L7 : Int)) ∧
  NN a15 fun a16 =>
  ∃ n6 : Int, cell h5 (a16.add (Int.toNat i * 1)) = some (.int .i64 n6) ∧
  cond (decide (n6 < 0))
  (K (.bool false) h5)
  (NN o fun a17 =>
  ∃ (a18 : Option Addr) (L8 C8 : Nat), cell h5 (a17.add 1) = some (.slice a18 L8 C8) ∧
  (0 ≤ i ∧ i < (L8 : Int)) ∧
  NN a18 fun a19 =>
  ∃ n7 : Int, cell h5 (a19.add (Int.toNat i * 1)) = some (.int .i64 n7) ∧
  cond (decide ((255 : Int) < n7))
  (K (.bool false) h5)
  (r03_ValidOp_b4 kind o i h5 nx0 K)))
  (r03_ValidOp_b4 kind o i h5 nx0 K)))
  (r03_ValidOp_b5  h  K)) := by kernel_rfl
theorem r03_ValidOp_b4_eq (kind : Int) (o : Option Addr) (i : Int) (h : Hp) (nx0 : Int × Unit → Hp → Prop) (K : Value → Hp → Prop) : r03_ValidOp_b4 kind o i h nx0 K = (
  InR (i + 1) ∧
  nx0 (i + 1, ()) h) := by kernel_rfl
theorem r03_ValidOp_b5_eq  (h : Hp)  (K : Value → Hp → Prop) : r03_ValidOp_b5  h  K = (
  K (.bool true) h) := by kernel_rfl
theorem r03_ValidOp_call {kind : Int} {o_0 : Int} {o_1 : Option Addr} {o_1L : Nat} {o_1C : Nat} {h : Hp} {K : Value → Hp → Prop} (hk : r03_ValidOp_b0 kind o_0 o_1 o_1L o_1C h K) : HCalls Tryz.prog 20 #[.int .i64 kind, .agg #[.int .i64 o_0, .slice o_1 o_1L o_1C]] h K :=
  calls_of_snd r03_ValidOp_an Tryz.func20 (c := bodyOf Tryz.f20) rfl Tryz.ntmps20 (Nat.le_of_ble_eq_true rfl) (snd_5 F_ok F_mixed) hk

/-! ### model_words -/
def model_words_an : Ann := .node none (.leaf) (.node (some []) (.leaf) (.leaf))
def model_words_K0  (K : Value → Hp → Prop) : Exit → Env → Hp → Prop := retK Tryz.prog Tryz.f21.results.toList K
def model_words_b0 (kind : Int) (h : Hp)  (K : Value → Hp → Prop) : Prop :=
  sx_2 Tryz.prog F 55 (cp [] (bodyOf Tryz.f21)) (ap [] model_words_an) [(0, .int .i64 kind)] h (model_words_K0  K)
def model_words_b1  (h : Hp)  (K : Value → Hp → Prop) : Prop :=
  sx_1 Tryz.prog F 55 (cp [1, 1] (bodyOf Tryz.f21)) (ap [1, 1] model_words_an) [] h (model_words_K0  K)
theorem model_words_b0_eq (kind : Int) (h : Hp)  (K : Value → Hp → Prop) : model_words_b0 kind h  K = (
  cond (decide (kind = 1))
  (New h (.cells #[.string (⟨#[112, 117, 116]⟩ : ByteArray), .int .i64 2, .bool true, .string (⟨#[103, 101, 116]⟩ : ByteArray), .int .i64 1, .bool false, .string (⟨#[114, 101, 109, 111, 118, 101]⟩ : ByteArray), .int .i64 1, .bool true, .string (⟨#[102, 108, 111, 111, 114]⟩ : ByteArray), .int .i64 1, .bool false, .string (⟨#[99, 101, 105, 108, 105, 110, 103]⟩ : ByteArray), .int .i64 1, .bool false, .string (⟨#[114, 97, 110, 107]⟩ : ByteArray), .int .i64 1, .bool false, .string (⟨#[115, 101, 108, 101, 99, 116]⟩ : ByteArray), .int .i64 1, .bool false, .string (⟨#[115, 105, 122, 101]⟩ : ByteArray), .int .i64 0, .bool false] 92) fun b1 h1 =>
  K (.slice (some ⟨b1, 0, none⟩) 8 8) h1)
  (cond (decide (kind = 2))
  (New h (.cells #[.string (⟨#[105, 110, 115, 101, 114, 116]⟩ : ByteArray), .int .i64 1, .bool true, .string (⟨#[109, 105, 110]⟩ : ByteArray), .int .i64 0, .bool false, .string (⟨#[100, 101, 108, 101, 116, 101, 109, 105, 110]⟩ : ByteArray), .int .i64 0, .bool true, .string (⟨#[115, 105, 122, 101]⟩ : ByteArray), .int .i64 0, .bool false] 92) fun b2 h2 =>
  K (.slice (some ⟨b2, 0, none⟩) 4 4) h2)
  (cond (decide (kind = 3))
  (New h (.cells #[.string (⟨#[105, 110, 115, 101, 114, 116]⟩ : ByteArray), .int .i64 2, .bool true, .string (⟨#[114, 101, 109, 111, 118, 101]⟩ : ByteArray), .int .i64 1, .bool true, .string (⟨#[103, 101, 116]⟩ : ByteArray), .int .i64 1, .bool false, .string (⟨#[115, 101, 116]⟩ : ByteArray), .int .i64 2, .bool true, .string (⟨#[115, 117, 109]⟩ : ByteArray), .int .i64 2, .bool false, .string (⟨#[114, 101, 118, 101, 114, 115, 101]⟩ : ByteArray), .int .i64 2, .bool true, .string (⟨#[115, 105, 122, 101]⟩ : ByteArray), .int .i64 0, .bool false] 92) fun b3 h3 =>
  K (.slice (some ⟨b3, 0, none⟩) 7 7) h3)
  (cond (decide (kind = 4))
  (New h (.cells #[.string (⟨#[109, 97, 107, 101]⟩ : ByteArray), .int .i64 0, .bool true, .string (⟨#[117, 110, 105, 111, 110]⟩ : ByteArray), .int .i64 2, .bool true, .string (⟨#[115, 97, 109, 101]⟩ : ByteArray), .int .i64 2, .bool false, .string (⟨#[115, 105, 122, 101]⟩ : ByteArray), .int .i64 1, .bool false, .string (⟨#[99, 111, 117, 110, 116]⟩ : ByteArray), .int .i64 0, .bool false] 92) fun b4 h4 =>
  K (.slice (some ⟨b4, 0, none⟩) 5 5) h4)
  (cond (decide (kind = 5))
  (New h (.cells #[.string (⟨#[97, 100, 100]⟩ : ByteArray), .int .i64 3, .bool true, .string (⟨#[114, 101, 109, 111, 118, 101]⟩ : ByteArray), .int .i64 2, .bool true, .string (⟨#[99, 111, 117, 110, 116]⟩ : ByteArray), .int .i64 4, .bool false, .string (⟨#[115, 117, 109]⟩ : ByteArray), .int .i64 4, .bool false, .string (⟨#[115, 105, 122, 101]⟩ : ByteArray), .int .i64 0, .bool false] 92) fun b5 h5 =>
  K (.slice (some ⟨b5, 0, none⟩) 5 5) h5)
  (cond (decide (kind = 6))
  (New h (.cells #[.string (⟨#[97, 112, 112, 101, 110, 100]⟩ : ByteArray), .int .i64 (-1), .bool true, .string (⟨#[99, 111, 117, 110, 116]⟩ : ByteArray), .int .i64 (-1), .bool false, .string (⟨#[102, 105, 110, 100]⟩ : ByteArray), .int .i64 (-1), .bool false, .string (⟨#[115, 105, 122, 101]⟩ : ByteArray), .int .i64 0, .bool false] 92) fun b6 h6 =>
  K (.slice (some ⟨b6, 0, none⟩) 4 4) h6)
  (model_words_b1  h  K))))))) := by kernel_rfl
theorem model_words_b1_eq  (h : Hp)  (K : Value → Hp → Prop) : model_words_b1  h  K = (
  K (.slice none 0 0) h) := by kernel_rfl
theorem model_words_call {kind : Int} {h : Hp} {K : Value → Hp → Prop} (hk : model_words_b0 kind h K) : HCalls Tryz.prog 21 #[.int .i64 kind] h K :=
  calls_of_snd model_words_an Tryz.func21 (c := bodyOf Tryz.f21) rfl Tryz.ntmps21 (Nat.le_of_ble_eq_true rfl) (snd_2 F_ok F_mixed) hk

/-! ### model_Valid -/
def model_Valid_an : Ann := .node none (.leaf) (.node (some []) (.node none (.leaf) (.node (some [1, 4, 5]) (.leaf) (.leaf))) (.leaf))
def model_Valid_K0  (K : Value → Hp → Prop) : Exit → Env → Hp → Prop := retK Tryz.prog Tryz.f22.results.toList K
def model_Valid_K1  (K : Value → Hp → Prop) : Exit → Env → Hp → Prop := thenE (fun env h => sx_1 Tryz.prog F 53 (cp [1, 1] (bodyOf Tryz.f22)) (ap [1, 1] model_Valid_an) (rs [] env) h (model_Valid_K0  K)) (model_Valid_K0  K)
def model_Valid_K2  (K : Value → Hp → Prop) : Exit → Env → Hp → Prop := blockE 0 (model_Valid_K1  K)
def model_Valid_b0 (s_0 : Int) (s_1 : Option Addr) (s_1L : Nat) (s_1C : Nat) (h : Hp)  (K : Value → Hp → Prop) : Prop :=
  sx_2 Tryz.prog F 53 (cp [] (bodyOf Tryz.f22)) (ap [] model_Valid_an) [(0, .agg #[.int .i64 s_0, .slice s_1 s_1L s_1C])] h (model_Valid_K0  K)
def model_Valid_b1 (s : Option Addr) (t4 : Int) (t5 : Bool) (h : Hp)  (K : Value → Hp → Prop) : Prop :=
  sx_1 Tryz.prog F 53 (cp [1, 0, 1, 2, 1] (bodyOf Tryz.f22)) (ap [1, 0, 1, 1] model_Valid_an) [(1, .pointer s), (4, .int .i64 t4), (5, .bool t5)] h (model_Valid_K2  K)
def model_Valid_b2  (h : Hp)  (K : Value → Hp → Prop) : Prop :=
  sx_1 Tryz.prog F 53 (cp [1, 1] (bodyOf Tryz.f22)) (ap [1, 1] model_Valid_an) [] h (model_Valid_K0  K)
theorem model_Valid_b0_eq (s_0 : Int) (s_1 : Option Addr) (s_1L : Nat) (s_1C : Nat) (h : Hp)  (K : Value → Hp → Prop) : model_Valid_b0 s_0 s_1 s_1L s_1C h  K = (
  New h (.cells #[.int .i64 s_0, .slice s_1 s_1L s_1C] 31) fun b1 h1 =>
  ∃ n1 : Int, cell h1 ⟨b1, 0, none⟩ = some (.int .i64 n1) ∧
  cond (decide (n1 = 1))
  (model_Valid_b1 (some ⟨b1, 0, none⟩) n1 (decide (n1 = 1)) h1  K)
  (cond (decide (n1 = 2))
  (model_Valid_b1 (some ⟨b1, 0, none⟩) n1 (decide (n1 = 2)) h1  K)
  (cond (decide (n1 = 3))
  (model_Valid_b1 (some ⟨b1, 0, none⟩) n1 (decide (n1 = 3)) h1  K)
  (model_Valid_b1 (some ⟨b1, 0, none⟩) n1 (decide (n1 = 5)) h1  K)))) := by kernel_rfl
theorem model_Valid_b1_eq (s : Option Addr) (t4 : Int) (t5 : Bool) (h : Hp)  (K : Value → Hp → Prop) : model_Valid_b1 s t4 t5 h  K = (
  cond t5
  (NN s fun a1 =>
  ∃ n2 : Int, ∃ (a2 : Option Addr) (L1 C1 : Nat), cell h a1 = some (.int .i64 n2) ∧
  cell h (a1.add 1) = some (.slice a2 L1 C1) ∧
  HCalls Tryz.prog 44 #[.agg #[.int .i64 n2, .slice a2 L1 C1]] h fun v1 h2 => ∃ r1 : Bool, v1 = .bool r1 ∧
  K (.bool r1) h2)
  (cond (decide (t4 = 4))
  (NN s fun a3 =>
  ∃ (a4 : Option Addr) (L2 C2 : Nat), cell h (a3.add 1) = some (.slice a4 L2 C2) ∧
  HCalls Tryz.prog 45 #[.slice a4 L2 C2] h fun v2 h3 => ∃ r2 : Bool, v2 = .bool r2 ∧
  K (.bool r2) h3)
  (cond (decide (t4 = 6))
  (NN s fun a5 =>
  ∃ (a6 : Option Addr) (L3 C3 : Nat), cell h (a5.add 1) = some (.slice a6 L3 C3) ∧
  cond (decide ((L3 : Int) = 0))
  (K (.bool true) h)
  (NN s fun a7 =>
  ∃ (a8 : Option Addr) (L4 C4 : Nat), cell h (a7.add 1) = some (.slice a8 L4 C4) ∧
  cond (decide ((L4 : Int) = 1))
  (NN s fun a9 =>
  ∃ (a10 : Option Addr) (L5 C5 : Nat), cell h (a9.add 1) = some (.slice a10 L5 C5) ∧
  (0 ≤ (0 : Int) ∧ (0 : Int) < (L5 : Int)) ∧
  NN a10 fun a11 =>
  ∃ (a12 : Option Addr) (L6 C6 : Nat), cell h (a11.add (Int.toNat (0 : Int) * 1)) = some (.slice a12 L6 C6) ∧
  cond (decide ((0 : Int) < (L6 : Int)))
  (NN s fun a13 =>
  ∃ (a14 : Option Addr) (L7 C7 : Nat), cell h (a13.add 1) = some (.slice a14 L7 C7) ∧
  (0 ≤ (0 : Int) ∧ (0 : Int) < (L7 : Int)) ∧
  NN a14 fun a15 =>
  ∃ (a16 : Option Addr) (L8 C8 : Nat), cell h (a15.add (Int.toNat (0 : Int) * 1)) = some (.slice a16 L8 C8) ∧
  cond (decide ((L8 : Int) ≤ 500))
  (NN s fun a17 =>
  ∃ (a18 : Option Addr) (L9 C9 : Nat), cell h (a17.add 1) = some (.slice a18 L9 C9) ∧
  (0 ≤ (0 : Int) ∧ (0 : Int) < (L9 : Int)) ∧
  NN a18 fun a19 =>
  ∃ (a20 : Option Addr) (L10 C10 : Nat), cell h (a19.add (Int.toNat (0 : Int) * 1)) = some (.slice a20 L10 C10) ∧
  HCalls Tryz.prog 46 #[.slice a20 L10 C10, .func (.func 47) #[] #[]] h fun v3 h4 => ∃ r3 : Bool, v3 = .bool r3 ∧
  K (.bool (!r3)) h4)
  (K (.bool false) h))
  (K (.bool false) h))
  (K (.bool false) h)))
  (model_Valid_b2  h  K)))) := by kernel_rfl
theorem model_Valid_b2_eq  (h : Hp)  (K : Value → Hp → Prop) : model_Valid_b2  h  K = (
  K (.bool false) h) := by kernel_rfl
theorem model_Valid_call {s_0 : Int} {s_1 : Option Addr} {s_1L : Nat} {s_1C : Nat} {h : Hp} {K : Value → Hp → Prop} (hk : model_Valid_b0 s_0 s_1 s_1L s_1C h K) : HCalls Tryz.prog 22 #[.agg #[.int .i64 s_0, .slice s_1 s_1L s_1C]] h K :=
  calls_of_snd model_Valid_an Tryz.func22 (c := bodyOf Tryz.f22) rfl Tryz.ntmps22 (Nat.le_of_ble_eq_true rfl) (snd_2 F_ok F_mixed) hk

/-! ### slices_ContainsFunc_Sapi_Op_api_Op -/
def slices_ContainsFunc_Sapi_Op_api_Op_an : Ann := .leaf
def slices_ContainsFunc_Sapi_Op_api_Op_K0  (K : Value → Hp → Prop) : Exit → Env → Hp → Prop := retK Tryz.prog Tryz.f23.results.toList K
def slices_ContainsFunc_Sapi_Op_api_Op_b0 (s : Option Addr) (sL : Nat) (sC : Nat) (f : Value) (h : Hp)  (K : Value → Hp → Prop) : Prop :=
  sx_1 Tryz.prog F 9 (cp [] (bodyOf Tryz.f23)) (ap [] slices_ContainsFunc_Sapi_Op_api_Op_an) [(0, .slice s sL sC), (1, f)] h (slices_ContainsFunc_Sapi_Op_api_Op_K0  K)
theorem slices_ContainsFunc_Sapi_Op_api_Op_b0_eq (s : Option Addr) (sL : Nat) (sC : Nat) (f : Value) (h : Hp)  (K : Value → Hp → Prop) : slices_ContainsFunc_Sapi_Op_api_Op_b0 s sL sC f h  K = (
  HCalls Tryz.prog 49 #[.slice s sL sC, f] h fun v1 h1 => ∃ r1 : Int, v1 = .int .i64 r1 ∧
  K (.bool (decide ((0 : Int) ≤ r1))) h1) := by kernel_rfl
theorem slices_ContainsFunc_Sapi_Op_api_Op_call {s : Option Addr} {sL : Nat} {sC : Nat} {f : Value} {h : Hp} {K : Value → Hp → Prop} (hk : slices_ContainsFunc_Sapi_Op_api_Op_b0 s sL sC f h K) : HCalls Tryz.prog 23 #[.slice s sL sC, f] h K :=
  calls_of_snd slices_ContainsFunc_Sapi_Op_api_Op_an Tryz.func23 (c := bodyOf Tryz.f23) rfl Tryz.ntmps23 (Nat.le_of_ble_eq_true rfl) (snd_1 F_ok F_mixed) hk

/-! ### model_Run_c1 -/
def model_Run_c1_an : Ann := .leaf
def model_Run_c1_K0  (K : Value → Hp → Prop) : Exit → Env → Hp → Prop := retK Tryz.prog Tryz.f24.results.toList K
def model_Run_c1_b0 (o_0 : Int) (o_1 : Option Addr) (o_1L : Nat) (o_1C : Nat) (t1 : Option Addr) (h : Hp)  (K : Value → Hp → Prop) : Prop :=
  sx_1 Tryz.prog F 9 (cp [] (bodyOf Tryz.f24)) (ap [] model_Run_c1_an) [(0, .agg #[.int .i64 o_0, .slice o_1 o_1L o_1C]), (1, .pointer t1)] h (model_Run_c1_K0  K)
theorem model_Run_c1_b0_eq (o_0 : Int) (o_1 : Option Addr) (o_1L : Nat) (o_1C : Nat) (t1 : Option Addr) (h : Hp)  (K : Value → Hp → Prop) : model_Run_c1_b0 o_0 o_1 o_1L o_1C t1 h  K = (
  New h (.cells #[.int .i64 o_0, .slice o_1 o_1L o_1C] 39) fun b1 h1 =>
  NN t1 fun a1 =>
  ∃ n1 : Int, cell h1 a1 = some (.int .i64 n1) ∧
  ∃ n2 : Int, ∃ (a2 : Option Addr) (L1 C1 : Nat), cell h1 ⟨b1, 0, none⟩ = some (.int .i64 n2) ∧
  cell h1 ((⟨b1, 0, none⟩ : Addr).add 1) = some (.slice a2 L1 C1) ∧
  HCalls Tryz.prog 25 #[.int .i64 n1, .agg #[.int .i64 n2, .slice a2 L1 C1]] h1 fun v1 h2 => ∃ r1 : Bool, v1 = .bool r1 ∧
  K (.bool (!r1)) h2) := by kernel_rfl
theorem model_Run_c1_call {o_0 : Int} {o_1 : Option Addr} {o_1L : Nat} {o_1C : Nat} {t1 : Option Addr} {h : Hp} {K : Value → Hp → Prop} (hk : model_Run_c1_b0 o_0 o_1 o_1L o_1C t1 h K) : HCalls Tryz.prog 24 #[.agg #[.int .i64 o_0, .slice o_1 o_1L o_1C], .pointer t1] h K :=
  calls_of_snd model_Run_c1_an Tryz.func24 (c := bodyOf Tryz.f24) rfl Tryz.ntmps24 (Nat.le_of_ble_eq_true rfl) (snd_1 F_ok F_mixed) hk

/-! ### model_ValidOp -/
def model_ValidOp_an : Ann := .node none (.leaf) (.node none (.leaf) (.node (some [3, 5]) (.leaf) (.leaf)))
def model_ValidOp_K0  (K : Value → Hp → Prop) : Exit → Env → Hp → Prop := retK Tryz.prog Tryz.f25.results.toList K
def model_ValidOp_b0 (kind : Int) (o_0 : Int) (o_1 : Option Addr) (o_1L : Nat) (o_1C : Nat) (h : Hp)  (K : Value → Hp → Prop) : Prop :=
  sx_2 Tryz.prog F 56 (cp [] (bodyOf Tryz.f25)) (ap [] model_ValidOp_an) [(0, .int .i64 kind), (1, .agg #[.int .i64 o_0, .slice o_1 o_1L o_1C])] h (model_ValidOp_K0  K)
def model_ValidOp_b1 (o : Option Addr) (l : Option Addr) (lL : Nat) (lC : Nat) (h : Hp)  (K : Value → Hp → Prop) : Prop :=
  sx_1 Tryz.prog F 56 (cp [1, 1, 1] (bodyOf Tryz.f25)) (ap [1, 1, 1] model_ValidOp_an) [(3, .pointer o), (5, .slice l lL lC)] h (model_ValidOp_K0  K)
theorem model_ValidOp_b0_eq (kind : Int) (o_0 : Int) (o_1 : Option Addr) (o_1L : Nat) (o_1C : Nat) (h : Hp)  (K : Value → Hp → Prop) : model_ValidOp_b0 kind o_0 o_1 o_1L o_1C h  K = (
  New h (.cells #[.int .i64 o_0, .slice o_1 o_1L o_1C] 39) fun b1 h1 =>
  HCalls Tryz.prog 21 #[.int .i64 kind] h1 fun v1 h2 => ∃ (r1 : Option Addr) (rL1 rC1 : Nat), v1 = .slice r1 rL1 rC1 ∧
  ∃ n1 : Int, cell h2 ⟨b1, 0, none⟩ = some (.int .i64 n1) ∧
  cond (decide (n1 < 1))
  (K (.bool false) h2)
  (∃ n2 : Int, cell h2 ⟨b1, 0, none⟩ = some (.int .i64 n2) ∧
  cond (decide ((rL1 : Int) < n2))
  (K (.bool false) h2)
  (model_ValidOp_b1 (some ⟨b1, 0, none⟩) r1 rL1 rC1 h2  K))) := by kernel_rfl
theorem model_ValidOp_b1_eq (o : Option Addr) (l : Option Addr) (lL : Nat) (lC : Nat) (h : Hp)  (K : Value → Hp → Prop) : model_ValidOp_b1 o l lL lC h  K = (
  NN o fun a1 =>
  ∃ n3 : Int, cell h a1 = some (.int .i64 n3) ∧
  InR (n3 - 1) ∧
  (0 ≤ n3 - 1 ∧ n3 - 1 < (lL : Int)) ∧
  NN l fun a2 =>
  ∃ s1 : ByteArray, ∃ n4 : Int, ∃ b2 : Bool, cell h (a2.add (Int.toNat (n3 - 1) * 3)) = some (.string s1) ∧
  cell h ((a2.add (Int.toNat (n3 - 1) * 3)).add 1) = some (.int .i64 n4) ∧
  cell h ((a2.add (Int.toNat (n3 - 1) * 3)).add 2) = some (.bool b2) ∧
  New h (.cells #[.string (⟨#[]⟩ : ByteArray), .int .i64 0, .bool false] 92) fun b3 h3 =>
  Wr h3 ⟨b3, 0, none⟩ (.string s1) fun h4 =>
  Wr h4 ((⟨b3, 0, none⟩ : Addr).add 1) (.int .i64 n4) fun h5 =>
  Wr h5 ((⟨b3, 0, none⟩ : Addr).add 2) (.bool b2) fun h6 =>
  ∃ n5 : Int, cell h6 ((⟨b3, 0, none⟩ : Addr).add 1) = some (.int .i64 n5) ∧
  cond (decide (n5 < 0))
  (NN o fun a3 =>
  ∃ (a4 : Option Addr) (L1 C1 : Nat), cell h6 (a3.add 1) = some (.slice a4 L1 C1) ∧
  cond (decide ((1 : Int) ≤ (L1 : Int)))
  (NN o fun a5 =>
  ∃ (a6 : Option Addr) (L2 C2 : Nat), cell h6 (a5.add 1) = some (.slice a6 L2 C2) ∧
  cond (decide ((L2 : Int) ≤ 64))
  (NN o fun a7 =>
  ∃ (a8 : Option Addr) (L3 C3 : Nat), cell h6 (a7.add 1) = some (.slice a8 L3 C3) ∧
  HCalls Tryz.prog 46 #[.slice a8 L3 C3, .func (.func 50) #[] #[]] h6 fun v2 h7 => ∃ r2 : Bool, v2 = .bool r2 ∧
  K (.bool (!r2)) h7)
  (K (.bool false) h6))
  (K (.bool false) h6))
  (NN o fun a9 =>
  ∃ (a10 : Option Addr) (L4 C4 : Nat), cell h6 (a9.add 1) = some (.slice a10 L4 C4) ∧
  ∃ n6 : Int, cell h6 ((⟨b3, 0, none⟩ : Addr).add 1) = some (.int .i64 n6) ∧
  cond (decide ((L4 : Int) = n6))
  (NN o fun a11 =>
  ∃ (a12 : Option Addr) (L5 C5 : Nat), cell h6 (a11.add 1) = some (.slice a12 L5 C5) ∧
  HCalls Tryz.prog 46 #[.slice a12 L5 C5, .func (.func 51) #[] #[]] h6 fun v3 h8 => ∃ r3 : Bool, v3 = .bool r3 ∧
  K (.bool (!r3)) h8)
  (K (.bool false) h6))) := by kernel_rfl
theorem model_ValidOp_call {kind : Int} {o_0 : Int} {o_1 : Option Addr} {o_1L : Nat} {o_1C : Nat} {h : Hp} {K : Value → Hp → Prop} (hk : model_ValidOp_b0 kind o_0 o_1 o_1L o_1C h K) : HCalls Tryz.prog 25 #[.int .i64 kind, .agg #[.int .i64 o_0, .slice o_1 o_1L o_1C]] h K :=
  calls_of_snd model_ValidOp_an Tryz.func25 (c := bodyOf Tryz.f25) rfl Tryz.ntmps25 (Nat.le_of_ble_eq_true rfl) (snd_2 F_ok F_mixed) hk

/-! ### model_copied -/
def model_copied_an : Ann := .node none (.leaf) (.node none (.leaf) (.node (some [3]) (.node none (.leaf) (.loop [6, 7] [(3, .slice), (8, .int .i64)] (.node none (.leaf) (.node none (.leaf) (.node (some [3, 6, 7, 8]) (.leaf) (.leaf)))))) (.leaf)))
def model_copied_K0  (K : Value → Hp → Prop) : Exit → Env → Hp → Prop := retK Tryz.prog Tryz.f26.results.toList K
def model_copied_K1  (K : Value → Hp → Prop) : Exit → Env → Hp → Prop := thenE (fun env h => sx_2 Tryz.prog F 19 (cp [1, 1, 1] (bodyOf Tryz.f26)) (ap [1, 1, 1] model_copied_an) (rs [3] env) h (model_copied_K0  K)) (model_copied_K0  K)
def model_copied_K2  (K : Value → Hp → Prop) : Exit → Env → Hp → Prop := blockE 0 (model_copied_K1  K)
def model_copied_K3 (nx0 : (Option Addr × Nat × Nat) × Int × Unit → Hp → Prop) (K : Value → Hp → Prop) : Exit → Env → Hp → Prop := thenE (fun env h => getV [(3, .slice), (8, .int .i64)] env fun s => nx0 s h) (model_copied_K2  K)
def model_copied_b0 (rows : Option Addr) (rowsL : Nat) (rowsC : Nat) (h : Hp)  (K : Value → Hp → Prop) : Prop :=
  sx_3 Tryz.prog F 19 (cp [] (bodyOf Tryz.f26)) (ap [] model_copied_an) [(0, .slice rows rowsL rowsC)] h (model_copied_K0  K)
def model_copied_b1 (out : Option Addr) (outL : Nat) (outC : Nat) (t8 : Int) (t6 : Option Addr) (t6L : Nat) (t6C : Nat) (t7 : Int) (h : Hp) (nx0 : (Option Addr × Nat × Nat) × Int × Unit → Hp → Prop) (K : Value → Hp → Prop) : Prop :=
  sx_2 Tryz.prog F 19 (cp [1, 1, 0, 1, 2, 2] (bodyOf Tryz.f26)) (ap [1, 1, 0, 1, 2] model_copied_an) [(3, .slice out outL outC), (8, .int .i64 t8), (6, .slice t6 t6L t6C), (7, .int .i64 t7)] h (model_copied_K3 nx0 K)
def model_copied_b2 (out : Option Addr) (outL : Nat) (outC : Nat) (t6 : Option Addr) (t6L : Nat) (t6C : Nat) (t7 : Int) (t8 : Int) (h : Hp) (nx0 : (Option Addr × Nat × Nat) × Int × Unit → Hp → Prop) (K : Value → Hp → Prop) : Prop :=
  sx_1 Tryz.prog F 19 (cp [1, 1, 0, 1, 2, 2, 1, 1, 1] (bodyOf Tryz.f26)) (ap [1, 1, 0, 1, 2, 1, 1, 1] model_copied_an) [(3, .slice out outL outC), (6, .slice t6 t6L t6C), (7, .int .i64 t7), (8, .int .i64 t8)] h (model_copied_K3 nx0 K)
def model_copied_b3 (out : Option Addr) (outL : Nat) (outC : Nat) (h : Hp)  (K : Value → Hp → Prop) : Prop :=
  sx_2 Tryz.prog F 19 (cp [1, 1, 1] (bodyOf Tryz.f26)) (ap [1, 1, 1] model_copied_an) [(3, .slice out outL outC)] h (model_copied_K0  K)
theorem model_copied_b0_eq (rows : Option Addr) (rowsL : Nat) (rowsC : Nat) (h : Hp)  (K : Value → Hp → Prop) : model_copied_b0 rows rowsL rowsC h  K = (
  LoopVC (((none, 0, 0), 0, ()) : (Option Addr × Nat × Nat) × Int × Unit) h (fun (nx0 : (Option Addr × Nat × Nat) × Int × Unit → Hp → Prop) (s1 : (Option Addr × Nat × Nat) × Int × Unit) h1 => model_copied_b1 s1.1.1 s1.1.2.1 s1.1.2.2 s1.2.1 rows rowsL rowsC (rowsL : Int) h1 nx0 K)) := by kernel_rfl
theorem model_copied_b1_eq (out : Option Addr) (outL : Nat) (outC : Nat) (t8 : Int) (t6 : Option Addr) (t6L : Nat) (t6C : Nat) (t7 : Int) (h : Hp) (nx0 : (Option Addr × Nat × Nat) × Int × Unit → Hp → Prop) (K : Value → Hp → Prop) : model_copied_b1 out outL outC t8 t6 t6L t6C t7 h nx0 K = (
  cond (decide (t8 < t7))
  ((0 ≤ t8 ∧ t8 < (t6L : Int)) ∧
  NN t6 fun a1 =>
  ∃ (a2 : Option Addr) (L1 C1 : Nat), cell h (a1.add (Int.toNat t8 * 1)) = some (.slice a2 L1 C1) ∧
  HCalls Tryz.prog 40 #[.slice a2 L1 C1] h fun v1 h2 => ∃ (r1 : Option Addr) (rL1 rC1 : Nat), v1 = .slice r1 rL1 rC1 ∧
  New h2 (.cells #[.slice r1 rL1 rC1] 37) fun b1 h3 =>
  appendV Tryz.prog 29 29 (.slice out outL outC) (.slice (some ⟨b1, 0, none⟩) 1 1) h3 (slK fun a3 l1 c1 h4 =>
  model_copied_b2 a3 l1 c1 t6 t6L t6C t7 t8 h4 nx0 K))
  (model_copied_b3 out outL outC h  K)) := by kernel_rfl
theorem model_copied_b2_eq (out : Option Addr) (outL : Nat) (outC : Nat) (t6 : Option Addr) (t6L : Nat) (t6C : Nat) (t7 : Int) (t8 : Int) (h : Hp) (nx0 : (Option Addr × Nat × Nat) × Int × Unit → Hp → Prop) (K : Value → Hp → Prop) : model_copied_b2 out outL outC t6 t6L t6C t7 t8 h nx0 K = (
  InR (t8 + 1) ∧
  nx0 ((out, outL, outC), t8 + 1, ()) h) := by kernel_rfl
theorem model_copied_b3_eq (out : Option Addr) (outL : Nat) (outC : Nat) (h : Hp)  (K : Value → Hp → Prop) : model_copied_b3 out outL outC h  K = (
  K (.slice out outL outC) h) := by kernel_rfl
theorem model_copied_call {rows : Option Addr} {rowsL : Nat} {rowsC : Nat} {h : Hp} {K : Value → Hp → Prop} (hk : model_copied_b0 rows rowsL rowsC h K) : HCalls Tryz.prog 26 #[.slice rows rowsL rowsC] h K :=
  calls_of_snd model_copied_an Tryz.func26 (c := bodyOf Tryz.f26) rfl Tryz.ntmps26 (Nat.le_of_ble_eq_true rfl) (snd_3 F_ok F_mixed) hk

/-! ### model_apply -/
def model_apply_an : Ann := .node none (.leaf) (.node (some [1, 5, 7]) (.leaf) (.leaf))
def model_apply_K0  (K : Value → Hp → Prop) : Exit → Env → Hp → Prop := retK Tryz.prog Tryz.f27.results.toList K
def model_apply_b0 (kind : Int) (rows : Option Addr) (rowsL : Nat) (rowsC : Nat) (o_0 : Int) (o_1 : Option Addr) (o_1L : Nat) (o_1C : Nat) (h : Hp)  (K : Value → Hp → Prop) : Prop :=
  sx_2 Tryz.prog F 49 (cp [] (bodyOf Tryz.f27)) (ap [] model_apply_an) [(0, .int .i64 kind), (1, .slice rows rowsL rowsC), (2, .agg #[.int .i64 o_0, .slice o_1 o_1L o_1C])] h (model_apply_K0  K)
def model_apply_b1 (rows : Option Addr) (rowsL : Nat) (rowsC : Nat) (o : Option Addr) (t7 : Option Addr) (h : Hp)  (K : Value → Hp → Prop) : Prop :=
  sx_1 Tryz.prog F 49 (cp [1, 1] (bodyOf Tryz.f27)) (ap [1, 1] model_apply_an) [(1, .slice rows rowsL rowsC), (5, .pointer o), (7, .pointer t7)] h (model_apply_K0  K)
theorem model_apply_b0_eq (kind : Int) (rows : Option Addr) (rowsL : Nat) (rowsC : Nat) (o_0 : Int) (o_1 : Option Addr) (o_1L : Nat) (o_1C : Nat) (h : Hp)  (K : Value → Hp → Prop) : model_apply_b0 kind rows rowsL rowsC o_0 o_1 o_1L o_1C h  K = (
  New h (.cells #[.int .i64 o_0, .slice o_1 o_1L o_1C] 39) fun b1 h1 =>
  New h1 (.cells #[.int .i64 0, .int .i64 0, .slice none 0 0] 41) fun b2 h2 =>
  cond (decide (kind = 1))
  (∃ n1 : Int, ∃ (a1 : Option Addr) (L1 C1 : Nat), cell h2 ⟨b1, 0, none⟩ = some (.int .i64 n1) ∧
  cell h2 ((⟨b1, 0, none⟩ : Addr).add 1) = some (.slice a1 L1 C1) ∧
  HCalls Tryz.prog 53 #[.slice rows rowsL rowsC, .agg #[.int .i64 n1, .slice a1 L1 C1]] h2 fun v1 h3 => ∃ (r1 : Option Addr) (rL1 rC1 : Nat), ∃ r2 : Int, ∃ r3 : Int, ∃ (r4 : Option Addr) (rL2 rC2 : Nat), v1 = .tuple #[.slice r1 rL1 rC1, .agg #[.int .i64 r2, .int .i64 r3, .slice r4 rL2 rC2]] ∧
  Wr h3 ⟨b2, 0, none⟩ (.int .i64 r2) fun h4 =>
  Wr h4 ((⟨b2, 0, none⟩ : Addr).add 1) (.int .i64 r3) fun h5 =>
  Wr h5 ((⟨b2, 0, none⟩ : Addr).add 2) (.slice r4 rL2 rC2) fun h6 =>
  ∃ r5 : Int, ∃ r6 : Int, ∃ (r7 : Option Addr) (rL3 rC3 : Nat), cell h6 ⟨b2, 0, none⟩ = some (.int .i64 r5) ∧
  cell h6 ((⟨b2, 0, none⟩ : Addr).add 1) = some (.int .i64 r6) ∧
  cell h6 ((⟨b2, 0, none⟩ : Addr).add 2) = some (.slice r7 rL3 rC3) ∧
  K (.tuple #[.slice r1 rL1 rC1, .agg #[.int .i64 r5, .int .i64 r6, .slice r7 rL3 rC3]]) h6)
  (cond (decide (kind = 2))
  (∃ n2 : Int, ∃ (a2 : Option Addr) (L2 C2 : Nat), cell h2 ⟨b1, 0, none⟩ = some (.int .i64 n2) ∧
  cell h2 ((⟨b1, 0, none⟩ : Addr).add 1) = some (.slice a2 L2 C2) ∧
  HCalls Tryz.prog 54 #[.slice rows rowsL rowsC, .agg #[.int .i64 n2, .slice a2 L2 C2]] h2 fun v2 h7 => ∃ (r8 : Option Addr) (rL4 rC4 : Nat), ∃ r9 : Int, ∃ r10 : Int, ∃ (r11 : Option Addr) (rL5 rC5 : Nat), v2 = .tuple #[.slice r8 rL4 rC4, .agg #[.int .i64 r9, .int .i64 r10, .slice r11 rL5 rC5]] ∧
  Wr h7 ⟨b2, 0, none⟩ (.int .i64 r9) fun h8 =>
  Wr h8 ((⟨b2, 0, none⟩ : Addr).add 1) (.int .i64 r10) fun h9 =>
  Wr h9 ((⟨b2, 0, none⟩ : Addr).add 2) (.slice r11 rL5 rC5) fun h10 =>
  ∃ r12 : Int, ∃ r13 : Int, ∃ (r14 : Option Addr) (rL6 rC6 : Nat), cell h10 ⟨b2, 0, none⟩ = some (.int .i64 r12) ∧
  cell h10 ((⟨b2, 0, none⟩ : Addr).add 1) = some (.int .i64 r13) ∧
  cell h10 ((⟨b2, 0, none⟩ : Addr).add 2) = some (.slice r14 rL6 rC6) ∧
  K (.tuple #[.slice r8 rL4 rC4, .agg #[.int .i64 r12, .int .i64 r13, .slice r14 rL6 rC6]]) h10)
  (cond (decide (kind = 3))
  (∃ n3 : Int, ∃ (a3 : Option Addr) (L3 C3 : Nat), cell h2 ⟨b1, 0, none⟩ = some (.int .i64 n3) ∧
  cell h2 ((⟨b1, 0, none⟩ : Addr).add 1) = some (.slice a3 L3 C3) ∧
  HCalls Tryz.prog 55 #[.slice rows rowsL rowsC, .agg #[.int .i64 n3, .slice a3 L3 C3]] h2 fun v3 h11 => ∃ (r15 : Option Addr) (rL7 rC7 : Nat), ∃ r16 : Int, ∃ r17 : Int, ∃ (r18 : Option Addr) (rL8 rC8 : Nat), v3 = .tuple #[.slice r15 rL7 rC7, .agg #[.int .i64 r16, .int .i64 r17, .slice r18 rL8 rC8]] ∧
  Wr h11 ⟨b2, 0, none⟩ (.int .i64 r16) fun h12 =>
  Wr h12 ((⟨b2, 0, none⟩ : Addr).add 1) (.int .i64 r17) fun h13 =>
  Wr h13 ((⟨b2, 0, none⟩ : Addr).add 2) (.slice r18 rL8 rC8) fun h14 =>
  ∃ r19 : Int, ∃ r20 : Int, ∃ (r21 : Option Addr) (rL9 rC9 : Nat), cell h14 ⟨b2, 0, none⟩ = some (.int .i64 r19) ∧
  cell h14 ((⟨b2, 0, none⟩ : Addr).add 1) = some (.int .i64 r20) ∧
  cell h14 ((⟨b2, 0, none⟩ : Addr).add 2) = some (.slice r21 rL9 rC9) ∧
  K (.tuple #[.slice r15 rL7 rC7, .agg #[.int .i64 r19, .int .i64 r20, .slice r21 rL9 rC9]]) h14)
  (cond (decide (kind = 4))
  (∃ n4 : Int, ∃ (a4 : Option Addr) (L4 C4 : Nat), cell h2 ⟨b1, 0, none⟩ = some (.int .i64 n4) ∧
  cell h2 ((⟨b1, 0, none⟩ : Addr).add 1) = some (.slice a4 L4 C4) ∧
  HCalls Tryz.prog 56 #[.slice rows rowsL rowsC, .agg #[.int .i64 n4, .slice a4 L4 C4]] h2 fun v4 h15 => ∃ (r22 : Option Addr) (rL10 rC10 : Nat), ∃ r23 : Int, ∃ r24 : Int, ∃ (r25 : Option Addr) (rL11 rC11 : Nat), v4 = .tuple #[.slice r22 rL10 rC10, .agg #[.int .i64 r23, .int .i64 r24, .slice r25 rL11 rC11]] ∧
  Wr h15 ⟨b2, 0, none⟩ (.int .i64 r23) fun h16 =>
  Wr h16 ((⟨b2, 0, none⟩ : Addr).add 1) (.int .i64 r24) fun h17 =>
  Wr h17 ((⟨b2, 0, none⟩ : Addr).add 2) (.slice r25 rL11 rC11) fun h18 =>
  ∃ r26 : Int, ∃ r27 : Int, ∃ (r28 : Option Addr) (rL12 rC12 : Nat), cell h18 ⟨b2, 0, none⟩ = some (.int .i64 r26) ∧
  cell h18 ((⟨b2, 0, none⟩ : Addr).add 1) = some (.int .i64 r27) ∧
  cell h18 ((⟨b2, 0, none⟩ : Addr).add 2) = some (.slice r28 rL12 rC12) ∧
  K (.tuple #[.slice r22 rL10 rC10, .agg #[.int .i64 r26, .int .i64 r27, .slice r28 rL12 rC12]]) h18)
  (cond (decide (kind = 5))
  (∃ n5 : Int, ∃ (a5 : Option Addr) (L5 C5 : Nat), cell h2 ⟨b1, 0, none⟩ = some (.int .i64 n5) ∧
  cell h2 ((⟨b1, 0, none⟩ : Addr).add 1) = some (.slice a5 L5 C5) ∧
  HCalls Tryz.prog 57 #[.slice rows rowsL rowsC, .agg #[.int .i64 n5, .slice a5 L5 C5]] h2 fun v5 h19 => ∃ (r29 : Option Addr) (rL13 rC13 : Nat), ∃ r30 : Int, ∃ r31 : Int, ∃ (r32 : Option Addr) (rL14 rC14 : Nat), v5 = .tuple #[.slice r29 rL13 rC13, .agg #[.int .i64 r30, .int .i64 r31, .slice r32 rL14 rC14]] ∧
  Wr h19 ⟨b2, 0, none⟩ (.int .i64 r30) fun h20 =>
  Wr h20 ((⟨b2, 0, none⟩ : Addr).add 1) (.int .i64 r31) fun h21 =>
  Wr h21 ((⟨b2, 0, none⟩ : Addr).add 2) (.slice r32 rL14 rC14) fun h22 =>
  ∃ r33 : Int, ∃ r34 : Int, ∃ (r35 : Option Addr) (rL15 rC15 : Nat), cell h22 ⟨b2, 0, none⟩ = some (.int .i64 r33) ∧
  cell h22 ((⟨b2, 0, none⟩ : Addr).add 1) = some (.int .i64 r34) ∧
  cell h22 ((⟨b2, 0, none⟩ : Addr).add 2) = some (.slice r35 rL15 rC15) ∧
  K (.tuple #[.slice r29 rL13 rC13, .agg #[.int .i64 r33, .int .i64 r34, .slice r35 rL15 rC15]]) h22)
  (model_apply_b1 rows rowsL rowsC (some ⟨b1, 0, none⟩) (some ⟨b2, 0, none⟩) h2  K)))))) := by kernel_rfl
theorem model_apply_b1_eq (rows : Option Addr) (rowsL : Nat) (rowsC : Nat) (o : Option Addr) (t7 : Option Addr) (h : Hp)  (K : Value → Hp → Prop) : model_apply_b1 rows rowsL rowsC o t7 h  K = (
  NN o fun a6 =>
  ∃ n6 : Int, ∃ (a7 : Option Addr) (L6 C6 : Nat), cell h a6 = some (.int .i64 n6) ∧
  cell h (a6.add 1) = some (.slice a7 L6 C6) ∧
  HCalls Tryz.prog 58 #[.slice rows rowsL rowsC, .agg #[.int .i64 n6, .slice a7 L6 C6]] h fun v6 h23 => ∃ (r36 : Option Addr) (rL16 rC16 : Nat), ∃ r37 : Int, ∃ r38 : Int, ∃ (r39 : Option Addr) (rL17 rC17 : Nat), v6 = .tuple #[.slice r36 rL16 rC16, .agg #[.int .i64 r37, .int .i64 r38, .slice r39 rL17 rC17]] ∧
  NN t7 fun a8 =>
  Wr h23 a8 (.int .i64 r37) fun h24 =>
  Wr h24 (a8.add 1) (.int .i64 r38) fun h25 =>
  Wr h25 (a8.add 2) (.slice r39 rL17 rC17) fun h26 =>
  NN t7 fun a9 =>
  ∃ r40 : Int, ∃ r41 : Int, ∃ (r42 : Option Addr) (rL18 rC18 : Nat), cell h26 a9 = some (.int .i64 r40) ∧
  cell h26 (a9.add 1) = some (.int .i64 r41) ∧
  cell h26 (a9.add 2) = some (.slice r42 rL18 rC18) ∧
  K (.tuple #[.slice r36 rL16 rC16, .agg #[.int .i64 r40, .int .i64 r41, .slice r42 rL18 rC18]]) h26) := by kernel_rfl
theorem model_apply_call {kind : Int} {rows : Option Addr} {rowsL : Nat} {rowsC : Nat} {o_0 : Int} {o_1 : Option Addr} {o_1L : Nat} {o_1C : Nat} {h : Hp} {K : Value → Hp → Prop} (hk : model_apply_b0 kind rows rowsL rowsC o_0 o_1 o_1L o_1C h K) : HCalls Tryz.prog 27 #[.int .i64 kind, .slice rows rowsL rowsC, .agg #[.int .i64 o_0, .slice o_1 o_1L o_1C]] h K :=
  calls_of_snd model_apply_an Tryz.func27 (c := bodyOf Tryz.f27) rfl Tryz.ntmps27 (Nat.le_of_ble_eq_true rfl) (snd_2 F_ok F_mixed) hk

end Go.Proofs.YtkdmcdnfakmapaaGreat
