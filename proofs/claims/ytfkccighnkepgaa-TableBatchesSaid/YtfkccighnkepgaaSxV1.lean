/- Plain statements of what each block of code of this seat asks; printed by a program, checked by Lean. -/
import Derived.Test.YtfkccighnkepgaaSxV0
set_option maxRecDepth 10000
namespace Go.Proofs.Ytfkccighnkepgaa
open Go Go.Sx

/-! ### l50_TableQueries -/
/-! ### l50_TableBatches -/
def l50_TableBatches_an : Ann := .node none (.leaf) (.node none (.leaf) (.node (some [0, 1, 2]) (.leaf) (.node none (.leaf) (.node none (.leaf) (.node (some [1, 2, 7, 10]) (.leaf) (.node none (.leaf) (.node none (.node none (.leaf) (.node none (.node (some [7, 10]) (.leaf) (.leaf)) (.leaf))) (.node none (.leaf) (.node (some [2, 7, 10, 13]) (.node none (.leaf) (.loop [2, 7, 10, 13, 99, 100] [(101, .int .i64)] (.node none (.leaf) (.node none (.leaf) (.node (some [2, 7, 10, 13, 99, 100, 101]) (.leaf) (.leaf)))))) (.node (some [7, 10]) (.node none (.leaf) (.loop [7, 10, 13, 110, 111] [(112, .int .i64)] (.node none (.leaf) (.node none (.leaf) (.node (some [7, 10, 13, 110, 111, 112]) (.leaf) (.leaf)))))) (.leaf)))))))))))
def l50_TableBatches_K0  (K : Value → Hp → Prop) : Exit → Env → Hp → Prop := retK Try.prog Try.f4.results.toList K
def l50_TableBatches_K1  (K : Value → Hp → Prop) : Exit → Env → Hp → Prop := thenE (fun env h => sx0 Try.prog F 137 (sx_3 Try.prog F 137) (cp [1, 1, 1, 1, 1, 1, 1, 1] (bodyOf Try.f4)) (ap [1, 1, 1, 1, 1, 1, 1, 1] l50_TableBatches_an) env h (l50_TableBatches_K0  K)) (l50_TableBatches_K0  K)
def l50_TableBatches_K2  (K : Value → Hp → Prop) : Exit → Env → Hp → Prop := thenE (fun env h => sx_3 Try.prog F 137 (cp [1, 1, 1, 1, 1, 1, 1, 1, 1, 1] (bodyOf Try.f4)) (ap [1, 1, 1, 1, 1, 1, 1, 1, 1, 1] l50_TableBatches_an) (rs [2, 7, 10, 13] env) h (l50_TableBatches_K0  K)) (l50_TableBatches_K0  K)
def l50_TableBatches_K3  (K : Value → Hp → Prop) : Exit → Env → Hp → Prop := blockE 0 (l50_TableBatches_K2  K)
def l50_TableBatches_K4 (nx0 : Int × Unit → Hp → Prop) (K : Value → Hp → Prop) : Exit → Env → Hp → Prop := thenE (fun env h => getV [(101, .int .i64)] env fun s => nx0 s h) (l50_TableBatches_K3  K)
def l50_TableBatches_K5  (K : Value → Hp → Prop) : Exit → Env → Hp → Prop := thenE (fun env h => sx_2 Try.prog F 137 (cp [1, 1, 1, 1, 1, 1, 1, 1, 1, 1, 1] (bodyOf Try.f4)) (ap [1, 1, 1, 1, 1, 1, 1, 1, 1, 1, 1] l50_TableBatches_an) (rs [7, 10] env) h (l50_TableBatches_K0  K)) (l50_TableBatches_K0  K)
def l50_TableBatches_K6  (K : Value → Hp → Prop) : Exit → Env → Hp → Prop := blockE 2 (l50_TableBatches_K5  K)
def l50_TableBatches_K7 (nx0 : Int × Unit → Hp → Prop) (K : Value → Hp → Prop) : Exit → Env → Hp → Prop := thenE (fun env h => getV [(112, .int .i64)] env fun s => nx0 s h) (l50_TableBatches_K6  K)
def l50_TableBatches_b0 (l : Option Addr) (lL : Nat) (lC : Nat) (deletes : Option Addr) (deletesL : Nat) (deletesC : Nat) (inserts : Option Addr) (insertsL : Nat) (insertsC : Nat) (h : Hp)  (K : Value → Hp → Prop) : Prop :=
  sx_6 Try.prog F 137 (cp [] (bodyOf Try.f4)) (ap [] l50_TableBatches_an) [(0, .slice l lL lC), (1, .slice deletes deletesL deletesC), (2, .slice inserts insertsL insertsC)] h (l50_TableBatches_K0  K)
def l50_TableBatches_b1 (l : Option Addr) (lL : Nat) (lC : Nat) (deletes : Option Addr) (deletesL : Nat) (deletesC : Nat) (inserts : Option Addr) (insertsL : Nat) (insertsC : Nat) (h : Hp)  (K : Value → Hp → Prop) : Prop :=
  sx_5 Try.prog F 137 (cp [1, 1, 1] (bodyOf Try.f4)) (ap [1, 1, 1] l50_TableBatches_an) [(0, .slice l lL lC), (1, .slice deletes deletesL deletesC), (2, .slice inserts insertsL insertsC)] h (l50_TableBatches_K0  K)
def l50_TableBatches_b2 (deletes : Option Addr) (deletesL : Nat) (deletesC : Nat) (inserts : Option Addr) (insertsL : Nat) (insertsC : Nat) (t : Option Addr) (u : Option Addr) (h : Hp)  (K : Value → Hp → Prop) : Prop :=
  sx_4 Try.prog F 137 (cp [1, 1, 1, 1, 1, 1] (bodyOf Try.f4)) (ap [1, 1, 1, 1, 1, 1] l50_TableBatches_an) [(1, .slice deletes deletesL deletesC), (2, .slice inserts insertsL insertsC), (7, .pointer t), (10, .pointer u)] h (l50_TableBatches_K0  K)
def l50_TableBatches_b3 (t : Option Addr) (u : Option Addr) (h : Hp)  (K : Value → Hp → Prop) : Prop :=
  sx_3 Try.prog F 137 (cp [1, 1, 1, 1, 1, 1, 1, 0, 1, 0, 1] (bodyOf Try.f4)) (ap [1, 1, 1, 1, 1, 1, 1, 0, 1, 0, 1] l50_TableBatches_an) [(7, .pointer t), (10, .pointer u)] h (l50_TableBatches_K1  K)
def l50_TableBatches_b4 (t101 : Int) (inserts : Option Addr) (insertsL : Nat) (insertsC : Nat) (t : Option Addr) (u : Option Addr) (ids : Option Addr) (idsL : Nat) (idsC : Nat) (t99 : Option Addr) (t99L : Nat) (t99C : Nat) (t100 : Int) (h : Hp) (nx0 : Int × Unit → Hp → Prop) (K : Value → Hp → Prop) : Prop :=
  sx_3 Try.prog F 137 (cp [1, 1, 1, 1, 1, 1, 1, 1, 1, 0, 1, 2, 2] (bodyOf Try.f4)) (ap [1, 1, 1, 1, 1, 1, 1, 1, 1, 0, 1, 2] l50_TableBatches_an) [(101, .int .i64 t101), (2, .slice inserts insertsL insertsC), (7, .pointer t), (10, .pointer u), (13, .slice ids idsL idsC), (99, .slice t99 t99L t99C), (100, .int .i64 t100)] h (l50_TableBatches_K4 nx0 K)
def l50_TableBatches_b5 (inserts : Option Addr) (insertsL : Nat) (insertsC : Nat) (t : Option Addr) (u : Option Addr) (ids : Option Addr) (idsL : Nat) (idsC : Nat) (t99 : Option Addr) (t99L : Nat) (t99C : Nat) (t100 : Int) (t101 : Int) (h : Hp) (nx0 : Int × Unit → Hp → Prop) (K : Value → Hp → Prop) : Prop :=
  sx_2 Try.prog F 137 (cp [1, 1, 1, 1, 1, 1, 1, 1, 1, 0, 1, 2, 2, 1, 1, 1] (bodyOf Try.f4)) (ap [1, 1, 1, 1, 1, 1, 1, 1, 1, 0, 1, 2, 1, 1, 1] l50_TableBatches_an) [(2, .slice inserts insertsL insertsC), (7, .pointer t), (10, .pointer u), (13, .slice ids idsL idsC), (99, .slice t99 t99L t99C), (100, .int .i64 t100), (101, .int .i64 t101)] h (l50_TableBatches_K4 nx0 K)
def l50_TableBatches_b6 (inserts : Option Addr) (insertsL : Nat) (insertsC : Nat) (t : Option Addr) (u : Option Addr) (ids : Option Addr) (idsL : Nat) (idsC : Nat) (h : Hp)  (K : Value → Hp → Prop) : Prop :=
  sx_3 Try.prog F 137 (cp [1, 1, 1, 1, 1, 1, 1, 1, 1, 1] (bodyOf Try.f4)) (ap [1, 1, 1, 1, 1, 1, 1, 1, 1, 1] l50_TableBatches_an) [(2, .slice inserts insertsL insertsC), (7, .pointer t), (10, .pointer u), (13, .slice ids idsL idsC)] h (l50_TableBatches_K0  K)
def l50_TableBatches_b7 (t112 : Int) (t : Option Addr) (u : Option Addr) (ids : Option Addr) (idsL : Nat) (idsC : Nat) (t110 : Option Addr) (t110L : Nat) (t110C : Nat) (t111 : Int) (h : Hp) (nx0 : Int × Unit → Hp → Prop) (K : Value → Hp → Prop) : Prop :=
  sx_2 Try.prog F 137 (cp [1, 1, 1, 1, 1, 1, 1, 1, 1, 1, 0, 1, 2, 2] (bodyOf Try.f4)) (ap [1, 1, 1, 1, 1, 1, 1, 1, 1, 1, 0, 1, 2] l50_TableBatches_an) [(112, .int .i64 t112), (7, .pointer t), (10, .pointer u), (13, .slice ids idsL idsC), (110, .slice t110 t110L t110C), (111, .int .i64 t111)] h (l50_TableBatches_K7 nx0 K)
def l50_TableBatches_b8 (t : Option Addr) (u : Option Addr) (ids : Option Addr) (idsL : Nat) (idsC : Nat) (t110 : Option Addr) (t110L : Nat) (t110C : Nat) (t111 : Int) (t112 : Int) (h : Hp) (nx0 : Int × Unit → Hp → Prop) (K : Value → Hp → Prop) : Prop :=
  sx_1 Try.prog F 137 (cp [1, 1, 1, 1, 1, 1, 1, 1, 1, 1, 0, 1, 2, 2, 1, 1, 1] (bodyOf Try.f4)) (ap [1, 1, 1, 1, 1, 1, 1, 1, 1, 1, 0, 1, 2, 1, 1, 1] l50_TableBatches_an) [(7, .pointer t), (10, .pointer u), (13, .slice ids idsL idsC), (110, .slice t110 t110L t110C), (111, .int .i64 t111), (112, .int .i64 t112)] h (l50_TableBatches_K7 nx0 K)
def l50_TableBatches_b9 (t : Option Addr) (u : Option Addr) (h : Hp)  (K : Value → Hp → Prop) : Prop :=
  sx_2 Try.prog F 137 (cp [1, 1, 1, 1, 1, 1, 1, 1, 1, 1, 1] (bodyOf Try.f4)) (ap [1, 1, 1, 1, 1, 1, 1, 1, 1, 1, 1] l50_TableBatches_an) [(7, .pointer t), (10, .pointer u)] h (l50_TableBatches_K0  K)
theorem l50_TableBatches_b0_eq (l : Option Addr) (lL : Nat) (lC : Nat) (deletes : Option Addr) (deletesL : Nat) (deletesC : Nat) (inserts : Option Addr) (insertsL : Nat) (insertsC : Nat) (h : Hp)  (K : Value → Hp → Prop) : l50_TableBatches_b0 l lL lC deletes deletesL deletesC inserts insertsL insertsC h  K = (
  HCalls Try.prog 7 #[] h fun v1 h1 => ∃ r1 : Bool, v1 = .bool r1 ∧
  cond (!r1)
  (K (.bool false) h1)
  (HCalls Try.prog 8 #[.slice l lL lC] h1 fun v2 h2 => ∃ r2 : Bool, v2 = .bool r2 ∧
  cond r2
  (K (.bool true) h2)
  (New h2 (.cells #[.int .u8 0, .int .i64 0, .int .i64 0, .int .i64 0, .int .i64 0, .int .i64 0, .string (⟨#[]⟩ : ByteArray), .slice deletes deletesL deletesC, .slice inserts insertsL insertsC] 48) fun b1 h3 =>
  HCalls Try.prog 8 #[.slice (some ⟨b1, 0, none⟩) 1 1] h3 fun v3 h4 => ∃ r3 : Bool, v3 = .bool r3 ∧
  cond r3
  (K (.bool true) h4)
  (l50_TableBatches_b1 l lL lC deletes deletesL deletesC inserts insertsL insertsC h4  K)))) := by kernel_rfl
theorem l50_TableBatches_b1_eq (l : Option Addr) (lL : Nat) (lC : Nat) (deletes : Option Addr) (deletesL : Nat) (deletesC : Nat) (inserts : Option Addr) (insertsL : Nat) (insertsC : Nat) (h : Hp)  (K : Value → Hp → Prop) : l50_TableBatches_b1 l lL lC deletes deletesL deletesC inserts insertsL insertsC h  K = (
  HCalls Try.prog 9 #[.slice l lL lC] h fun v4 h5 => ∃ r4 : Option Addr, ∃ (r5 : Option Addr) (rL1 rC1 : Nat), ∃ (r6 : Option Addr) (rL2 rC2 : Nat), ∃ r7 : Int, ∃ r8 : Bool, v4 = .tuple #[.pointer r4, .agg #[.slice r5 rL1 rC1, .slice r6 rL2 rC2, .int .i64 r7], .bool r8] ∧
  New h5 (.cells #[.slice none 0 0, .slice none 0 0, .int .i64 0] 29) fun b2 h6 =>
  Wr h6 ⟨b2, 0, none⟩ (.slice r5 rL1 rC1) fun h7 =>
  Wr h7 ((⟨b2, 0, none⟩ : Addr).add 1) (.slice r6 rL2 rC2) fun h8 =>
  Wr h8 ((⟨b2, 0, none⟩ : Addr).add 2) (.int .i64 r7) fun h9 =>
  HCalls Try.prog 9 #[.slice l lL lC] h9 fun v5 h10 => ∃ r9 : Option Addr, ∃ (r10 : Option Addr) (rL3 rC3 : Nat), ∃ (r11 : Option Addr) (rL4 rC4 : Nat), ∃ r12 : Int, ∃ r13 : Bool, v5 = .tuple #[.pointer r9, .agg #[.slice r10 rL3 rC3, .slice r11 rL4 rC4, .int .i64 r12], .bool r13] ∧
  New h10 (.cells #[.slice none 0 0, .slice none 0 0, .int .i64 0] 29) fun b3 h11 =>
  Wr h11 ⟨b3, 0, none⟩ (.slice r10 rL3 rC3) fun h12 =>
  Wr h12 ((⟨b3, 0, none⟩ : Addr).add 1) (.slice r11 rL4 rC4) fun h13 =>
  Wr h13 ((⟨b3, 0, none⟩ : Addr).add 2) (.int .i64 r12) fun h14 =>
  cond (!r8)
  (K (.bool false) h14)
  (cond (!r13)
  (K (.bool false) h14)
  (l50_TableBatches_b2 deletes deletesL deletesC inserts insertsL insertsC r4 r9 h14  K))) := by kernel_rfl
theorem l50_TableBatches_b2_eq (deletes : Option Addr) (deletesL : Nat) (deletesC : Nat) (inserts : Option Addr) (insertsL : Nat) (insertsC : Nat) (t : Option Addr) (u : Option Addr) (h : Hp)  (K : Value → Hp → Prop) : l50_TableBatches_b2 deletes deletesL deletesC inserts insertsL insertsC t u h  K = (
  HCalls Try.prog 19 #[.pointer t, .slice deletes deletesL deletesC, .slice inserts insertsL insertsC] h fun v6 h15 => ∃ (r14 : Option Addr) (rL5 rC5 : Nat), ∃ r15 : Int, v6 = .tuple #[.slice r14 rL5 rC5, .int .i64 r15] ∧
  cond (!decide (r15 = 0))
  (cond (!decide ((rL5 : Int) = 0))
  (K (.bool false) h15)
  (HCalls Try.prog 20 #[.pointer t] h15 fun v7 h16 => ∃ (r16 : Option Addr) (rL6 rC6 : Nat), v7 = .slice r16 rL6 rC6 ∧
  HCalls Try.prog 20 #[.pointer u] h16 fun v8 h17 => ∃ (r17 : Option Addr) (rL7 rC7 : Nat), v8 = .slice r17 rL7 rC7 ∧
  HCalls Try.prog 14 #[.slice r16 rL6 rC6, .slice r17 rL7 rC7] h17 fun v9 h18 => ∃ r18 : Bool, v9 = .bool r18 ∧
  cond (!r18)
  (K (.bool false) h18)
  (l50_TableBatches_b3 t u h18  K)))
  (cond (!decide ((rL5 : Int) = (insertsL : Int)))
  (K (.bool false) h15)
  (LoopVC ((0, ()) : Int × Unit) h15 (fun (nx0 : Int × Unit → Hp → Prop) (s1 : Int × Unit) h19 => l50_TableBatches_b4 s1.1 inserts insertsL insertsC t u r14 rL5 rC5 deletes deletesL deletesC (deletesL : Int) h19 nx0 K)))) := by kernel_rfl
theorem l50_TableBatches_b3_eq (t : Option Addr) (u : Option Addr) (h : Hp)  (K : Value → Hp → Prop) : l50_TableBatches_b3 t u h  K = (
  HCalls Try.prog 21 #[.pointer t, .agg #[.int .i64 1048576, .int .i64 0, .int .i64 0, .int .i64 0, .string (⟨#[]⟩ : ByteArray)]] h fun v10 h20 => ∃ r19 : Int, ∃ r20 : Int, v10 = .tuple #[.int .i64 r19, .int .i64 r20] ∧
  HCalls Try.prog 21 #[.pointer u, .agg #[.int .i64 1048576, .int .i64 0, .int .i64 0, .int .i64 0, .string (⟨#[]⟩ : ByteArray)]] h20 fun v11 h21 => ∃ r21 : Int, ∃ r22 : Int, v11 = .tuple #[.int .i64 r21, .int .i64 r22] ∧
  cond (decide (r19 = r21))
  (K (.bool (decide (r20 = r22))) h21)
  (K (.bool false) h21)) := by kernel_rfl
theorem l50_TableBatches_b4_eq (t101 : Int) (inserts : Option Addr) (insertsL : Nat) (insertsC : Nat) (t : Option Addr) (u : Option Addr) (ids : Option Addr) (idsL : Nat) (idsC : Nat) (t99 : Option Addr) (t99L : Nat) (t99C : Nat) (t100 : Int) (h : Hp) (nx0 : Int × Unit → Hp → Prop) (K : Value → Hp → Prop) : l50_TableBatches_b4 t101 inserts insertsL insertsC t u ids idsL idsC t99 t99L t99C t100 h nx0 K = (
  cond (decide (t101 < t100))
  ((0 ≤ t101 ∧ t101 < (t99L : Int)) ∧
  NN t99 fun a1 =>
  ∃ n1 : Int, cell h (a1.add (Int.toNat t101 * 1)) = some (.int .i64 n1) ∧
  HCalls Try.prog 22 #[.pointer u, .int .i64 n1] h fun v12 h22 => ∃ r23 : Int, v12 = .int .i64 r23 ∧
  cond (!decide (r23 = 0))
  (K (.bool false) h22)
  (l50_TableBatches_b5 inserts insertsL insertsC t u ids idsL idsC t99 t99L t99C t100 t101 h22 nx0 K))
  (l50_TableBatches_b6 inserts insertsL insertsC t u ids idsL idsC h  K)) := by kernel_rfl
theorem l50_TableBatches_b5_eq (inserts : Option Addr) (insertsL : Nat) (insertsC : Nat) (t : Option Addr) (u : Option Addr) (ids : Option Addr) (idsL : Nat) (idsC : Nat) (t99 : Option Addr) (t99L : Nat) (t99C : Nat) (t100 : Int) (t101 : Int) (h : Hp) (nx0 : Int × Unit → Hp → Prop) (K : Value → Hp → Prop) : l50_TableBatches_b5 inserts insertsL insertsC t u ids idsL idsC t99 t99L t99C t100 t101 h nx0 K = (
  InR (t101 + 1) ∧
  nx0 (t101 + 1, ()) h) := by kernel_rfl
theorem l50_TableBatches_b6_eq (inserts : Option Addr) (insertsL : Nat) (insertsC : Nat) (t : Option Addr) (u : Option Addr) (ids : Option Addr) (idsL : Nat) (idsC : Nat) (h : Hp)  (K : Value → Hp → Prop) : l50_TableBatches_b6 inserts insertsL insertsC t u ids idsL idsC h  K = (
  LoopVC ((0, ()) : Int × Unit) h (fun (nx0 : Int × Unit → Hp → Prop) (s2 : Int × Unit) h23 => l50_TableBatches_b7 s2.1 t u ids idsL idsC inserts insertsL insertsC (insertsL : Int) h23 nx0 K)) := by kernel_rfl
theorem l50_TableBatches_b7_eq (t112 : Int) (t : Option Addr) (u : Option Addr) (ids : Option Addr) (idsL : Nat) (idsC : Nat) (t110 : Option Addr) (t110L : Nat) (t110C : Nat) (t111 : Int) (h : Hp) (nx0 : Int × Unit → Hp → Prop) (K : Value → Hp → Prop) : l50_TableBatches_b7 t112 t u ids idsL idsC t110 t110L t110C t111 h nx0 K = (
  cond (decide (t112 < t111))
  ((0 ≤ t112 ∧ t112 < (t110L : Int)) ∧
  NN t110 fun a2 =>
  ∃ n2 : Int, ∃ n3 : Int, ∃ n4 : Int, ∃ n5 : Int, ∃ s3 : ByteArray, cell h (a2.add (Int.toNat t112 * 5)) = some (.int .i64 n2) ∧
  cell h ((a2.add (Int.toNat t112 * 5)).add 1) = some (.int .i64 n3) ∧
  cell h ((a2.add (Int.toNat t112 * 5)).add 2) = some (.int .i64 n4) ∧
  cell h ((a2.add (Int.toNat t112 * 5)).add 3) = some (.int .i64 n5) ∧
  cell h ((a2.add (Int.toNat t112 * 5)).add 4) = some (.string s3) ∧
  New h (.cells #[.int .i64 0, .int .i64 0, .int .i64 0, .int .i64 0, .string (⟨#[]⟩ : ByteArray)] 46) fun b4 h24 =>
  Wr h24 ⟨b4, 0, none⟩ (.int .i64 n2) fun h25 =>
  Wr h25 ((⟨b4, 0, none⟩ : Addr).add 1) (.int .i64 n3) fun h26 =>
  Wr h26 ((⟨b4, 0, none⟩ : Addr).add 2) (.int .i64 n4) fun h27 =>
  Wr h27 ((⟨b4, 0, none⟩ : Addr).add 3) (.int .i64 n5) fun h28 =>
  Wr h28 ((⟨b4, 0, none⟩ : Addr).add 4) (.string s3) fun h29 =>
  ∃ n6 : Int, ∃ n7 : Int, ∃ n8 : Int, ∃ n9 : Int, ∃ s4 : ByteArray, cell h29 ⟨b4, 0, none⟩ = some (.int .i64 n6) ∧
  cell h29 ((⟨b4, 0, none⟩ : Addr).add 1) = some (.int .i64 n7) ∧
  cell h29 ((⟨b4, 0, none⟩ : Addr).add 2) = some (.int .i64 n8) ∧
  cell h29 ((⟨b4, 0, none⟩ : Addr).add 3) = some (.int .i64 n9) ∧
  cell h29 ((⟨b4, 0, none⟩ : Addr).add 4) = some (.string s4) ∧
  HCalls Try.prog 21 #[.pointer u, .agg #[.int .i64 n6, .int .i64 n7, .int .i64 n8, .int .i64 n9, .string s4]] h29 fun v13 h30 => ∃ r24 : Int, ∃ r25 : Int, v13 = .tuple #[.int .i64 r24, .int .i64 r25] ∧
  cond (!decide (r25 = 0))
  (K (.bool false) h30)
  ((0 ≤ t112 ∧ t112 < (idsL : Int)) ∧
  NN ids fun a3 =>
  ∃ n10 : Int, cell h30 (a3.add (Int.toNat t112 * 1)) = some (.int .i64 n10) ∧
  cond (!decide (r24 = n10))
  (K (.bool false) h30)
  (l50_TableBatches_b8 t u ids idsL idsC t110 t110L t110C t111 t112 h30 nx0 K)))
  (l50_TableBatches_b9 t u h  K)) := by kernel_rfl
theorem l50_TableBatches_b8_eq (t : Option Addr) (u : Option Addr) (ids : Option Addr) (idsL : Nat) (idsC : Nat) (t110 : Option Addr) (t110L : Nat) (t110C : Nat) (t111 : Int) (t112 : Int) (h : Hp) (nx0 : Int × Unit → Hp → Prop) (K : Value → Hp → Prop) : l50_TableBatches_b8 t u ids idsL idsC t110 t110L t110C t111 t112 h nx0 K = (
  InR (t112 + 1) ∧
  nx0 (t112 + 1, ()) h) := by kernel_rfl
theorem l50_TableBatches_b9_eq (t : Option Addr) (u : Option Addr) (h : Hp)  (K : Value → Hp → Prop) : l50_TableBatches_b9 t u h  K = (
  HCalls Try.prog 23 #[.pointer t, .pointer u] h fun v14 h31 => ∃ r26 : Bool, v14 = .bool r26 ∧
  K (.bool r26) h31) := by kernel_rfl
theorem l50_TableBatches_call {l : Option Addr} {lL : Nat} {lC : Nat} {deletes : Option Addr} {deletesL : Nat} {deletesC : Nat} {inserts : Option Addr} {insertsL : Nat} {insertsC : Nat} {h : Hp} {K : Value → Hp → Prop} (hk : l50_TableBatches_b0 l lL lC deletes deletesL deletesC inserts insertsL insertsC h K) : HCalls Try.prog 4 #[.slice l lL lC, .slice deletes deletesL deletesC, .slice inserts insertsL insertsC] h K :=
  calls_of_snd l50_TableBatches_an Try.func4 (c := bodyOf Try.f4) rfl Try.ntmps4 (Nat.le_of_ble_eq_true rfl) (snd_6 F_ok F_mixed) hk

/-! ### l50_TableJoins -/
/-! ### l50_TablePlays -/
/-! ### l50_awake -/
def l50_awake_an : Ann := .leaf
def l50_awake_K0  (K : Value → Hp → Prop) : Exit → Env → Hp → Prop := retK Try.prog Try.f7.results.toList K
def l50_awake_b0  (h : Hp)  (K : Value → Hp → Prop) : Prop :=
  sx_1 Try.prog F 98 (cp [] (bodyOf Try.f7)) (ap [] l50_awake_an) [] h (l50_awake_K0  K)
theorem l50_awake_b0_eq  (h : Hp)  (K : Value → Hp → Prop) : l50_awake_b0  h  K = (
  HCalls Try.prog 32 #[] h fun v1 h1 => ∃ r1 : Option Addr, v1 = .pointer r1 ∧
  cond r1.isNone
  (K (.bool false) h1)
  (HCalls Try.prog 21 #[.pointer r1, .agg #[.int .i64 5, .int .i64 1, .int .i64 2, .int .i64 3, .string (⟨#[97, 110, 110]⟩ : ByteArray)]] h1 fun v2 h2 => ∃ r2 : Int, ∃ r3 : Int, v2 = .tuple #[.int .i64 r2, .int .i64 r3] ∧
  HCalls Try.prog 21 #[.pointer r1, .agg #[.int .i64 4, .int .i64 2, .int .i64 2, .int .i64 1, .string (⟨#[97, 110, 110, 97]⟩ : ByteArray)]] h2 fun v3 h3 => ∃ r4 : Int, ∃ r5 : Int, v3 = .tuple #[.int .i64 r4, .int .i64 r5] ∧
  HCalls Try.prog 10 #[.pointer r1, .int .i64 0, .int .i64 9] h3 fun v4 h4 => ∃ (r6 : Option Addr) (rL1 rC1 : Nat), ∃ r7 : Int, v4 = .tuple #[.slice r6 rL1 rC1, .int .i64 r7] ∧
  HCalls Try.prog 12 #[.pointer r1, .string (⟨#[110, 110]⟩ : ByteArray)] h4 fun v5 h5 => ∃ (r8 : Option Addr) (rL2 rC2 : Nat), ∃ r9 : Int, v5 = .tuple #[.slice r8 rL2 rC2, .int .i64 r9] ∧
  HCalls Try.prog 12 #[.pointer r1, .string (⟨#[110, 97]⟩ : ByteArray)] h5 fun v6 h6 => ∃ (r10 : Option Addr) (rL3 rC3 : Nat), ∃ r11 : Int, v6 = .tuple #[.slice r10 rL3 rC3, .int .i64 r11] ∧
  HCalls Try.prog 13 #[.pointer r1, .int .i64 0, .int .i64 5, .int .i64 0, .int .i64 5] h6 fun v7 h7 => ∃ r12 : Int, ∃ r13 : Int, v7 = .tuple #[.int .i64 r12, .int .i64 r13] ∧
  cond (decide (r3 = 0))
  (cond (decide (r2 = 0))
  (cond (decide (r5 = 0))
  (cond (decide (r4 = 1))
  (cond (decide (r7 = 0))
  (New h7 (.cells #[.int .i64 1, .int .i64 0] 3) fun b1 h8 =>
  HCalls Try.prog 14 #[.slice r6 rL1 rC1, .slice (some ⟨b1, 0, none⟩) 2 2] h8 fun v8 h9 => ∃ r14 : Bool, v8 = .bool r14 ∧
  cond r14
  (cond (decide (r9 = 0))
  (New h9 (.cells #[.int .i64 0, .int .i64 1] 3) fun b2 h10 =>
  HCalls Try.prog 14 #[.slice r8 rL2 rC2, .slice (some ⟨b2, 0, none⟩) 2 2] h10 fun v9 h11 => ∃ r15 : Bool, v9 = .bool r15 ∧
  cond r15
  (cond (decide (r11 = 0))
  (New h11 (.cells #[.int .i64 1] 3) fun b3 h12 =>
  HCalls Try.prog 14 #[.slice r10 rL3 rC3, .slice (some ⟨b3, 0, none⟩) 1 1] h12 fun v10 h13 => ∃ r16 : Bool, v10 = .bool r16 ∧
  cond r16
  (cond (decide (r13 = 0))
  (K (.bool (decide (r12 = 4))) h13)
  (K (.bool false) h13))
  (K (.bool false) h13))
  (K (.bool false) h11))
  (K (.bool false) h11))
  (K (.bool false) h9))
  (K (.bool false) h9))
  (K (.bool false) h7))
  (K (.bool false) h7))
  (K (.bool false) h7))
  (K (.bool false) h7))
  (K (.bool false) h7))) := by kernel_rfl
theorem l50_awake_call  {h : Hp} {K : Value → Hp → Prop} (hk : l50_awake_b0  h K) : HCalls Try.prog 7 #[] h K :=
  calls_of_snd l50_awake_an Try.func7 (c := bodyOf Try.f7) rfl Try.ntmps7 (Nat.le_of_ble_eq_true rfl) (snd_1 F_ok F_mixed) hk

/-! ### l50_great -/
def l50_great_an : Ann := .leaf
def l50_great_K0  (K : Value → Hp → Prop) : Exit → Env → Hp → Prop := retK Try.prog Try.f8.results.toList K
def l50_great_b0 (l : Option Addr) (lL : Nat) (lC : Nat) (h : Hp)  (K : Value → Hp → Prop) : Prop :=
  sx_1 Try.prog F 10 (cp [] (bodyOf Try.f8)) (ap [] l50_great_an) [(0, .slice l lL lC)] h (l50_great_K0  K)
theorem l50_great_b0_eq (l : Option Addr) (lL : Nat) (lC : Nat) (h : Hp)  (K : Value → Hp → Prop) : l50_great_b0 l lL lC h  K = (
  cond (decide ((40 : Int) < (lL : Int)))
  (K (.bool true) h)
  (HCalls Try.prog 33 #[.slice l lL lC, .func (.func 34) #[] #[]] h fun v1 h1 => ∃ r1 : Bool, v1 = .bool r1 ∧
  K (.bool r1) h1)) := by kernel_rfl
theorem l50_great_call {l : Option Addr} {lL : Nat} {lC : Nat} {h : Hp} {K : Value → Hp → Prop} (hk : l50_great_b0 l lL lC h K) : HCalls Try.prog 8 #[.slice l lL lC] h K :=
  calls_of_snd l50_great_an Try.func8 (c := bodyOf Try.f8) rfl Try.ntmps8 (Nat.le_of_ble_eq_true rfl) (snd_1 F_ok F_mixed) hk

/-! ### l50_played -/
def l50_played_an : Ann := .node none (.leaf) (.node none (.leaf) (.node none (.leaf) (.node none (.node none (.leaf) (.node none (.node none (.tail 2) (.leaf)) (.leaf))) (.node (some [3, 5, 6]) (.node none (.leaf) (.loop [3, 5, 6, 15, 16] [(17, .int .i64)] (.node none (.leaf) (.node none (.leaf) (.node (some [3, 5, 6, 15, 16, 17]) (.node none (.leaf) (.node none (.leaf) (.node (some [3, 5, 6, 9, 15, 16, 17]) (.node none (.leaf) (.node none (.node none (.tail 2) (.leaf)) (.leaf))) (.leaf)))) (.leaf)))))) (.node none (.tail 3) (.leaf))))))
def l50_played_K0  (K : Value → Hp → Prop) : Exit → Env → Hp → Prop := retK Try.prog Try.f9.results.toList K
def l50_played_K1  (K : Value → Hp → Prop) : Exit → Env → Hp → Prop := thenE (fun env h => sx_2 Try.prog F 43 (cp [1, 1, 1, 1, 1] (bodyOf Try.f9)) (ap [1, 1, 1, 1, 1] l50_played_an) (rs [3, 5, 6] env) h (l50_played_K0  K)) (l50_played_K0  K)
def l50_played_K2  (K : Value → Hp → Prop) : Exit → Env → Hp → Prop := blockE 0 (l50_played_K1  K)
def l50_played_K3 (nx0 : Int × Unit → Hp → Prop) (K : Value → Hp → Prop) : Exit → Env → Hp → Prop := thenE (fun env h => getV [(17, .int .i64)] env fun s => nx0 s h) (l50_played_K2  K)
def l50_played_K4 (nx0 : Int × Unit → Hp → Prop) (K : Value → Hp → Prop) : Exit → Env → Hp → Prop := thenE (fun env h => sx_1 Try.prog F 43 (cp [1, 1, 1, 1, 0, 1, 2, 2, 1, 1, 1] (bodyOf Try.f9)) (ap [1, 1, 1, 1, 0, 1, 2, 1, 1, 1] l50_played_an) (rs [3, 5, 6, 15, 16, 17] env) h (l50_played_K3 nx0 K)) (l50_played_K3 nx0 K)
def l50_played_K5 (nx0 : Int × Unit → Hp → Prop) (K : Value → Hp → Prop) : Exit → Env → Hp → Prop := blockE 1 (l50_played_K4 nx0 K)
def l50_played_b0 (l : Option Addr) (lL : Nat) (lC : Nat) (h : Hp)  (K : Value → Hp → Prop) : Prop :=
  sx_3 Try.prog F 43 (cp [] (bodyOf Try.f9)) (ap [] l50_played_an) [(0, .slice l lL lC)] h (l50_played_K0  K)
def l50_played_b1 (t17 : Int) (t3 : Option Addr) (t : Option Addr) (s : Option Addr) (t15 : Option Addr) (t15L : Nat) (t15C : Nat) (t16 : Int) (h : Hp) (nx0 : Int × Unit → Hp → Prop) (K : Value → Hp → Prop) : Prop :=
  sx_2 Try.prog F 43 (cp [1, 1, 1, 1, 0, 1, 2, 2] (bodyOf Try.f9)) (ap [1, 1, 1, 1, 0, 1, 2] l50_played_an) [(17, .int .i64 t17), (3, .pointer t3), (5, .pointer t), (6, .pointer s), (15, .slice t15 t15L t15C), (16, .int .i64 t16)] h (l50_played_K3 nx0 K)
def l50_played_b2 (t3 : Option Addr) (t : Option Addr) (s : Option Addr) (next : Option Addr) (t15 : Option Addr) (t15L : Nat) (t15C : Nat) (t16 : Int) (t17 : Int) (h : Hp) (nx0 : Int × Unit → Hp → Prop) (K : Value → Hp → Prop) : Prop :=
  sx_1 Try.prog F 43 (cp [1, 1, 1, 1, 0, 1, 2, 2, 1, 1, 0, 2, 1, 1, 1] (bodyOf Try.f9)) (ap [1, 1, 1, 1, 0, 1, 2, 1, 1, 0, 1, 1, 1] l50_played_an) [(3, .pointer t3), (5, .pointer t), (6, .pointer s), (9, .pointer next), (15, .slice t15 t15L t15C), (16, .int .i64 t16), (17, .int .i64 t17)] h (l50_played_K5 nx0 K)
def l50_played_b3 (t3 : Option Addr) (t : Option Addr) (s : Option Addr) (h : Hp)  (K : Value → Hp → Prop) : Prop :=
  sx_2 Try.prog F 43 (cp [1, 1, 1, 1, 1] (bodyOf Try.f9)) (ap [1, 1, 1, 1, 1] l50_played_an) [(3, .pointer t3), (5, .pointer t), (6, .pointer s)] h (l50_played_K0  K)
def l50_played_b4 (t3 : Option Addr) (t : Option Addr) (s : Option Addr) (t15 : Option Addr) (t15L : Nat) (t15C : Nat) (t16 : Int) (t17 : Int) (h : Hp) (nx0 : Int × Unit → Hp → Prop) (K : Value → Hp → Prop) : Prop :=
  sx_1 Try.prog F 43 (cp [1, 1, 1, 1, 0, 1, 2, 2, 1, 1, 1] (bodyOf Try.f9)) (ap [1, 1, 1, 1, 0, 1, 2, 1, 1, 1] l50_played_an) [(3, .pointer t3), (5, .pointer t), (6, .pointer s), (15, .slice t15 t15L t15C), (16, .int .i64 t16), (17, .int .i64 t17)] h (l50_played_K3 nx0 K)
theorem l50_played_b0_eq (l : Option Addr) (lL : Nat) (lC : Nat) (h : Hp)  (K : Value → Hp → Prop) : l50_played_b0 l lL lC h  K = (
  New h (.cells #[.slice none 0 0, .slice none 0 0, .int .i64 0] 29) fun b1 h1 =>
  HCalls Try.prog 32 #[] h1 fun v1 h2 => ∃ r1 : Option Addr, v1 = .pointer r1 ∧
  New h2 (.cells #[.slice none 0 0, .slice none 0 0, .int .i64 0] 29) fun b2 h3 =>
  cond r1.isNone
  (∃ (a1 : Option Addr) (L1 C1 : Nat), ∃ (a2 : Option Addr) (L2 C2 : Nat), ∃ n1 : Int, cell h3 ⟨b2, 0, none⟩ = some (.slice a1 L1 C1) ∧
  cell h3 ((⟨b2, 0, none⟩ : Addr).add 1) = some (.slice a2 L2 C2) ∧
  cell h3 ((⟨b2, 0, none⟩ : Addr).add 2) = some (.int .i64 n1) ∧
  Wr h3 ⟨b1, 0, none⟩ (.slice a1 L1 C1) fun h4 =>
  Wr h4 ((⟨b1, 0, none⟩ : Addr).add 1) (.slice a2 L2 C2) fun h5 =>
  Wr h5 ((⟨b1, 0, none⟩ : Addr).add 2) (.int .i64 n1) fun h6 =>
  ∃ (r2 : Option Addr) (rL1 rC1 : Nat), ∃ (r3 : Option Addr) (rL2 rC2 : Nat), ∃ r4 : Int, cell h6 ⟨b1, 0, none⟩ = some (.slice r2 rL1 rC1) ∧
  cell h6 ((⟨b1, 0, none⟩ : Addr).add 1) = some (.slice r3 rL2 rC2) ∧
  cell h6 ((⟨b1, 0, none⟩ : Addr).add 2) = some (.int .i64 r4) ∧
  K (.tuple #[.pointer none, .agg #[.slice r2 rL1 rC1, .slice r3 rL2 rC2, .int .i64 r4], .bool false]) h6)
  (LoopVC ((0, ()) : Int × Unit) h3 (fun (nx0 : Int × Unit → Hp → Prop) (s1 : Int × Unit) h7 => l50_played_b1 s1.1 (some ⟨b1, 0, none⟩) r1 (some ⟨b2, 0, none⟩) l lL lC (lL : Int) h7 nx0 K))) := by kernel_rfl
theorem l50_played_b1_eq (t17 : Int) (t3 : Option Addr) (t : Option Addr) (s : Option Addr) (t15 : Option Addr) (t15L : Nat) (t15C : Nat) (t16 : Int) (h : Hp) (nx0 : Int × Unit → Hp → Prop) (K : Value → Hp → Prop) : l50_played_b1 t17 t3 t s t15 t15L t15C t16 h nx0 K = (
  cond (decide (t17 < t16))
  ((0 ≤ t17 ∧ t17 < (t15L : Int)) ∧
  NN t15 fun a3 =>
  ∃ n2 : Int, ∃ n3 : Int, ∃ n4 : Int, ∃ n5 : Int, ∃ n6 : Int, ∃ n7 : Int, ∃ s2 : ByteArray, ∃ (a4 : Option Addr) (L3 C3 : Nat), ∃ (a5 : Option Addr) (L4 C4 : Nat), cell h (a3.add (Int.toNat t17 * 9)) = some (.int .u8 n2) ∧
  cell h ((a3.add (Int.toNat t17 * 9)).add 1) = some (.int .i64 n3) ∧
  cell h ((a3.add (Int.toNat t17 * 9)).add 2) = some (.int .i64 n4) ∧
  cell h ((a3.add (Int.toNat t17 * 9)).add 3) = some (.int .i64 n5) ∧
  cell h ((a3.add (Int.toNat t17 * 9)).add 4) = some (.int .i64 n6) ∧
  cell h ((a3.add (Int.toNat t17 * 9)).add 5) = some (.int .i64 n7) ∧
  cell h ((a3.add (Int.toNat t17 * 9)).add 6) = some (.string s2) ∧
  cell h ((a3.add (Int.toNat t17 * 9)).add 7) = some (.slice a4 L3 C3) ∧
  cell h ((a3.add (Int.toNat t17 * 9)).add 8) = some (.slice a5 L4 C4) ∧
  New h (.cells #[.int .u8 0, .int .i64 0, .int .i64 0, .int .i64 0, .int .i64 0, .int .i64 0, .string (⟨#[]⟩ : ByteArray), .slice none 0 0, .slice none 0 0] 48) fun b3 h8 =>
  Wr h8 ⟨b3, 0, none⟩ (.int .u8 n2) fun h9 =>
  Wr h9 ((⟨b3, 0, none⟩ : Addr).add 1) (.int .i64 n3) fun h10 =>
  Wr h10 ((⟨b3, 0, none⟩ : Addr).add 2) (.int .i64 n4) fun h11 =>
  Wr h11 ((⟨b3, 0, none⟩ : Addr).add 3) (.int .i64 n5) fun h12 =>
  Wr h12 ((⟨b3, 0, none⟩ : Addr).add 4) (.int .i64 n6) fun h13 =>
  Wr h13 ((⟨b3, 0, none⟩ : Addr).add 5) (.int .i64 n7) fun h14 =>
  Wr h14 ((⟨b3, 0, none⟩ : Addr).add 6) (.string s2) fun h15 =>
  Wr h15 ((⟨b3, 0, none⟩ : Addr).add 7) (.slice a4 L3 C3) fun h16 =>
  Wr h16 ((⟨b3, 0, none⟩ : Addr).add 8) (.slice a5 L4 C4) fun h17 =>
  NN s fun a6 =>
  ∃ (a7 : Option Addr) (L5 C5 : Nat), ∃ (a8 : Option Addr) (L6 C6 : Nat), ∃ n8 : Int, cell h17 a6 = some (.slice a7 L5 C5) ∧
  cell h17 (a6.add 1) = some (.slice a8 L6 C6) ∧
  cell h17 (a6.add 2) = some (.int .i64 n8) ∧
  ∃ n9 : Int, ∃ n10 : Int, ∃ n11 : Int, ∃ n12 : Int, ∃ n13 : Int, ∃ n14 : Int, ∃ s3 : ByteArray, ∃ (a9 : Option Addr) (L7 C7 : Nat), ∃ (a10 : Option Addr) (L8 C8 : Nat), cell h17 ⟨b3, 0, none⟩ = some (.int .u8 n9) ∧
  cell h17 ((⟨b3, 0, none⟩ : Addr).add 1) = some (.int .i64 n10) ∧
  cell h17 ((⟨b3, 0, none⟩ : Addr).add 2) = some (.int .i64 n11) ∧
  cell h17 ((⟨b3, 0, none⟩ : Addr).add 3) = some (.int .i64 n12) ∧
  cell h17 ((⟨b3, 0, none⟩ : Addr).add 4) = some (.int .i64 n13) ∧
  cell h17 ((⟨b3, 0, none⟩ : Addr).add 5) = some (.int .i64 n14) ∧
  cell h17 ((⟨b3, 0, none⟩ : Addr).add 6) = some (.string s3) ∧
  cell h17 ((⟨b3, 0, none⟩ : Addr).add 7) = some (.slice a9 L7 C7) ∧
  cell h17 ((⟨b3, 0, none⟩ : Addr).add 8) = some (.slice a10 L8 C8) ∧
  HCalls Try.prog 37 #[.pointer t, .agg #[.slice a7 L5 C5, .slice a8 L6 C6, .int .i64 n8], .agg #[.int .u8 n9, .int .i64 n10, .int .i64 n11, .int .i64 n12, .int .i64 n13, .int .i64 n14, .string s3, .slice a9 L7 C7, .slice a10 L8 C8]] h17 fun v2 h18 => ∃ (r5 : Option Addr) (rL3 rC3 : Nat), ∃ (r6 : Option Addr) (rL4 rC4 : Nat), ∃ r7 : Int, ∃ r8 : Bool, v2 = .tuple #[.agg #[.slice r5 rL3 rC3, .slice r6 rL4 rC4, .int .i64 r7], .bool r8] ∧
  New h18 (.cells #[.slice none 0 0, .slice none 0 0, .int .i64 0] 29) fun b4 h19 =>
  Wr h19 ⟨b4, 0, none⟩ (.slice r5 rL3 rC3) fun h20 =>
  Wr h20 ((⟨b4, 0, none⟩ : Addr).add 1) (.slice r6 rL4 rC4) fun h21 =>
  Wr h21 ((⟨b4, 0, none⟩ : Addr).add 2) (.int .i64 r7) fun h22 =>
  cond (!r8)
  (NN s fun a11 =>
  ∃ (a12 : Option Addr) (L9 C9 : Nat), ∃ (a13 : Option Addr) (L10 C10 : Nat), ∃ n15 : Int, cell h22 a11 = some (.slice a12 L9 C9) ∧
  cell h22 (a11.add 1) = some (.slice a13 L10 C10) ∧
  cell h22 (a11.add 2) = some (.int .i64 n15) ∧
  NN t3 fun a14 =>
  Wr h22 a14 (.slice a12 L9 C9) fun h23 =>
  Wr h23 (a14.add 1) (.slice a13 L10 C10) fun h24 =>
  Wr h24 (a14.add 2) (.int .i64 n15) fun h25 =>
  NN t3 fun a15 =>
  ∃ (r9 : Option Addr) (rL5 rC5 : Nat), ∃ (r10 : Option Addr) (rL6 rC6 : Nat), ∃ r11 : Int, cell h25 a15 = some (.slice r9 rL5 rC5) ∧
  cell h25 (a15.add 1) = some (.slice r10 rL6 rC6) ∧
  cell h25 (a15.add 2) = some (.int .i64 r11) ∧
  K (.tuple #[.pointer none, .agg #[.slice r9 rL5 rC5, .slice r10 rL6 rC6, .int .i64 r11], .bool false]) h25)
  (∃ r12 : Int, HCalls Try.prog 38 #[.pointer t] h22 (fun v3 h26 => v3 = .int .i64 r12 ∧ h26 = h22) ∧
  ∃ (a16 : Option Addr) (L11 C11 : Nat), cell h22 ⟨b4, 0, none⟩ = some (.slice a16 L11 C11) ∧
  cond (!decide (r12 = (L11 : Int)))
  (NN s fun a17 =>
  ∃ (a18 : Option Addr) (L12 C12 : Nat), ∃ (a19 : Option Addr) (L13 C13 : Nat), ∃ n16 : Int, cell h22 a17 = some (.slice a18 L12 C12) ∧
  cell h22 (a17.add 1) = some (.slice a19 L13 C13) ∧
  cell h22 (a17.add 2) = some (.int .i64 n16) ∧
  NN t3 fun a20 =>
  Wr h22 a20 (.slice a18 L12 C12) fun h27 =>
  Wr h27 (a20.add 1) (.slice a19 L13 C13) fun h28 =>
  Wr h28 (a20.add 2) (.int .i64 n16) fun h29 =>
  NN t3 fun a21 =>
  ∃ (r13 : Option Addr) (rL7 rC7 : Nat), ∃ (r14 : Option Addr) (rL8 rC8 : Nat), ∃ r15 : Int, cell h29 a21 = some (.slice r13 rL7 rC7) ∧
  cell h29 (a21.add 1) = some (.slice r14 rL8 rC8) ∧
  cell h29 (a21.add 2) = some (.int .i64 r15) ∧
  K (.tuple #[.pointer none, .agg #[.slice r13 rL7 rC7, .slice r14 rL8 rC8, .int .i64 r15], .bool false]) h29)
  (l50_played_b2 t3 t s (some ⟨b4, 0, none⟩) t15 t15L t15C t16 t17 h22 nx0 K)))
  (l50_played_b3 t3 t s h  K)) := by kernel_rfl
theorem l50_played_b2_eq (t3 : Option Addr) (t : Option Addr) (s : Option Addr) (next : Option Addr) (t15 : Option Addr) (t15L : Nat) (t15C : Nat) (t16 : Int) (t17 : Int) (h : Hp) (nx0 : Int × Unit → Hp → Prop) (K : Value → Hp → Prop) : l50_played_b2 t3 t s next t15 t15L t15C t16 t17 h nx0 K = (
  NN next fun a22 =>
  ∃ (a23 : Option Addr) (L14 C14 : Nat), ∃ (a24 : Option Addr) (L15 C15 : Nat), ∃ n17 : Int, cell h a22 = some (.slice a23 L14 C14) ∧
  cell h (a22.add 1) = some (.slice a24 L15 C15) ∧
  cell h (a22.add 2) = some (.int .i64 n17) ∧
  NN s fun a25 =>
  Wr h a25 (.slice a23 L14 C14) fun h30 =>
  Wr h30 (a25.add 1) (.slice a24 L15 C15) fun h31 =>
  Wr h31 (a25.add 2) (.int .i64 n17) fun h32 =>
  l50_played_b4 t3 t s t15 t15L t15C t16 t17 h32 nx0 K) := by kernel_rfl
theorem l50_played_b3_eq (t3 : Option Addr) (t : Option Addr) (s : Option Addr) (h : Hp)  (K : Value → Hp → Prop) : l50_played_b3 t3 t s h  K = (
  NN s fun a26 =>
  ∃ (a27 : Option Addr) (L16 C16 : Nat), ∃ (a28 : Option Addr) (L17 C17 : Nat), ∃ n18 : Int, cell h a26 = some (.slice a27 L16 C16) ∧
  cell h (a26.add 1) = some (.slice a28 L17 C17) ∧
  cell h (a26.add 2) = some (.int .i64 n18) ∧
  NN t3 fun a29 =>
  Wr h a29 (.slice a27 L16 C16) fun h33 =>
  Wr h33 (a29.add 1) (.slice a28 L17 C17) fun h34 =>
  Wr h34 (a29.add 2) (.int .i64 n18) fun h35 =>
  NN t3 fun a30 =>
  ∃ (r16 : Option Addr) (rL9 rC9 : Nat), ∃ (r17 : Option Addr) (rL10 rC10 : Nat), ∃ r18 : Int, cell h35 a30 = some (.slice r16 rL9 rC9) ∧
  cell h35 (a30.add 1) = some (.slice r17 rL10 rC10) ∧
  cell h35 (a30.add 2) = some (.int .i64 r18) ∧
  K (.tuple #[.pointer t, .agg #[.slice r16 rL9 rC9, .slice r17 rL10 rC10, .int .i64 r18], .bool true]) h35) := by kernel_rfl
theorem l50_played_b4_eq (t3 : Option Addr) (t : Option Addr) (s : Option Addr) (t15 : Option Addr) (t15L : Nat) (t15C : Nat) (t16 : Int) (t17 : Int) (h : Hp) (nx0 : Int × Unit → Hp → Prop) (K : Value → Hp → Prop) : l50_played_b4 t3 t s t15 t15L t15C t16 t17 h nx0 K = (
  InR (t17 + 1) ∧
  nx0 (t17 + 1, ()) h) := by kernel_rfl
theorem l50_played_call {l : Option Addr} {lL : Nat} {lC : Nat} {h : Hp} {K : Value → Hp → Prop} (hk : l50_played_b0 l lL lC h K) : HCalls Try.prog 9 #[.slice l lL lC] h K :=
  calls_of_snd l50_played_an Try.func9 (c := bodyOf Try.f9) rfl Try.ntmps9 (Nat.le_of_ble_eq_true rfl) (snd_3 F_ok F_mixed) hk

/-! ### table_Table_ByKey -/
def table_Table_ByKey_an : Ann := .node none (.leaf) (.node none (.leaf) (.node none (.tail 7) (.leaf)))
def table_Table_ByKey_K0  (K : Value → Hp → Prop) : Exit → Env → Hp → Prop := retK Try.prog Try.f10.results.toList K
def table_Table_ByKey_b0 (t : Option Addr) (fromv : Int) (to : Int) (h : Hp)  (K : Value → Hp → Prop) : Prop :=
  sx_1 Try.prog F 23 (cp [] (bodyOf Try.f10)) (ap [] table_Table_ByKey_an) [(0, .pointer t), (1, .int .i64 fromv), (2, .int .i64 to)] h (table_Table_ByKey_K0  K)
theorem table_Table_ByKey_b0_eq (t : Option Addr) (fromv : Int) (to : Int) (h : Hp)  (K : Value → Hp → Prop) : table_Table_ByKey_b0 t fromv to h  K = (
  New h (.cells #[.pointer t] 25) fun b1 h1 =>
  ∃ p1 : Option Addr, cell h1 ⟨b1, 0, none⟩ = some (.pointer p1) ∧
  cond p1.isNone
  (K (.tuple #[.slice none 0 0, .int .i64 1]) h1)
  (∃ p2 : Option Addr, cell h1 ⟨b1, 0, none⟩ = some (.pointer p2) ∧
  ∃ p3 : Option Addr, cell h1 ⟨b1, 0, none⟩ = some (.pointer p3) ∧
  NN p3 fun a1 =>
  ∃ (a2 : Option Addr) (L1 C1 : Nat), cell h1 (a1.add 3) = some (.slice a2 L1 C1) ∧
  HCalls Try.prog 39 #[.pointer p2, .slice a2 L1 C1, .func (.func 40) #[] #[], .int .i64 fromv, .int .i64 to, .func (.func 41) #[] #[]] h1 fun v1 h2 => ∃ (r1 : Option Addr) (rL1 rC1 : Nat), v1 = .slice r1 rL1 rC1 ∧
  HCalls Try.prog 42 #[.slice r1 rL1 rC1, .func (.func 43) #[] #[.pointer (some ⟨b1, 0, none⟩)]] h2 fun v2 h3 => v2 = .tuple #[] ∧
  K (.tuple #[.slice r1 rL1 rC1, .int .i64 0]) h3)) := by kernel_rfl
theorem table_Table_ByKey_call {t : Option Addr} {fromv : Int} {to : Int} {h : Hp} {K : Value → Hp → Prop} (hk : table_Table_ByKey_b0 t fromv to h K) : HCalls Try.prog 10 #[.pointer t, .int .i64 fromv, .int .i64 to] h K :=
  calls_of_snd table_Table_ByKey_an Try.func10 (c := bodyOf Try.f10) rfl Try.ntmps10 (Nat.le_of_ble_eq_true rfl) (snd_1 F_ok F_mixed) hk

/-! ### table_Table_ByPlace -/
def table_Table_ByPlace_an : Ann := .leaf
def table_Table_ByPlace_K0  (K : Value → Hp → Prop) : Exit → Env → Hp → Prop := retK Try.prog Try.f11.results.toList K
def table_Table_ByPlace_b0 (t : Option Addr) (x1 : Int) (x2 : Int) (y1 : Int) (y2 : Int) (h : Hp)  (K : Value → Hp → Prop) : Prop :=
  sx_1 Try.prog F 27 (cp [] (bodyOf Try.f11)) (ap [] table_Table_ByPlace_an) [(0, .pointer t), (1, .int .i64 x1), (2, .int .i64 x2), (3, .int .i64 y1), (4, .int .i64 y2)] h (table_Table_ByPlace_K0  K)
theorem table_Table_ByPlace_b0_eq (t : Option Addr) (x1 : Int) (x2 : Int) (y1 : Int) (y2 : Int) (h : Hp)  (K : Value → Hp → Prop) : table_Table_ByPlace_b0 t x1 x2 y1 y2 h  K = (
  New h (.cells #[.int .i64 y1] 3) fun b1 h1 =>
  New h1 (.cells #[.int .i64 y2] 3) fun b2 h2 =>
  cond t.isNone
  (K (.tuple #[.slice none 0 0, .int .i64 1]) h2)
  (NN t fun a1 =>
  ∃ (a2 : Option Addr) (L1 C1 : Nat), cell h2 (a1.add 4) = some (.slice a2 L1 C1) ∧
  HCalls Try.prog 39 #[.pointer t, .slice a2 L1 C1, .func (.func 45) #[] #[], .int .i64 x1, .int .i64 x2, .func (.func 46) #[] #[.pointer (some ⟨b1, 0, none⟩), .pointer (some ⟨b2, 0, none⟩)]] h2 fun v1 h3 => ∃ (r1 : Option Addr) (rL1 rC1 : Nat), v1 = .slice r1 rL1 rC1 ∧
  HCalls Try.prog 47 #[.slice r1 rL1 rC1] h3 fun v2 h4 => v2 = .tuple #[] ∧
  K (.tuple #[.slice r1 rL1 rC1, .int .i64 0]) h4)) := by kernel_rfl
theorem table_Table_ByPlace_call {t : Option Addr} {x1 : Int} {x2 : Int} {y1 : Int} {y2 : Int} {h : Hp} {K : Value → Hp → Prop} (hk : table_Table_ByPlace_b0 t x1 x2 y1 y2 h K) : HCalls Try.prog 11 #[.pointer t, .int .i64 x1, .int .i64 x2, .int .i64 y1, .int .i64 y2] h K :=
  calls_of_snd table_Table_ByPlace_an Try.func11 (c := bodyOf Try.f11) rfl Try.ntmps11 (Nat.le_of_ble_eq_true rfl) (snd_1 F_ok F_mixed) hk

/-! ### table_Table_ByName -/
def table_Table_ByName_an : Ann := .leaf
def table_Table_ByName_K0  (K : Value → Hp → Prop) : Exit → Env → Hp → Prop := retK Try.prog Try.f12.results.toList K
def table_Table_ByName_b0 (t : Option Addr) (part : ByteArray) (h : Hp)  (K : Value → Hp → Prop) : Prop :=
  sx_1 Try.prog F 11 (cp [] (bodyOf Try.f12)) (ap [] table_Table_ByName_an) [(0, .pointer t), (1, .string part)] h (table_Table_ByName_K0  K)
theorem table_Table_ByName_b0_eq (t : Option Addr) (part : ByteArray) (h : Hp)  (K : Value → Hp → Prop) : table_Table_ByName_b0 t part h  K = (
  New h (.cells #[.string part] 9) fun b1 h1 =>
  cond t.isNone
  (K (.tuple #[.slice none 0 0, .int .i64 1]) h1)
  (HCalls Try.prog 48 #[.pointer t, .func (.func 49) #[] #[.pointer (some ⟨b1, 0, none⟩)]] h1 fun v1 h2 => ∃ (r1 : Option Addr) (rL1 rC1 : Nat), v1 = .slice r1 rL1 rC1 ∧
  K (.tuple #[.slice r1 rL1 rC1, .int .i64 0]) h2)) := by kernel_rfl
theorem table_Table_ByName_call {t : Option Addr} {part : ByteArray} {h : Hp} {K : Value → Hp → Prop} (hk : table_Table_ByName_b0 t part h K) : HCalls Try.prog 12 #[.pointer t, .string part] h K :=
  calls_of_snd table_Table_ByName_an Try.func12 (c := bodyOf Try.f12) rfl Try.ntmps12 (Nat.le_of_ble_eq_true rfl) (snd_1 F_ok F_mixed) hk

/-! ### table_Table_Weight -/
def table_Table_Weight_an : Ann := .node none (.leaf) (.node none (.leaf) (.node none (.leaf) (.node (some [13, 14]) (.node none (.leaf) (.loop [0, 13, 26, 27] [(14, .int .i64), (28, .int .i64)] (.node none (.leaf) (.node none (.leaf) (.node (some [0, 13, 14, 26, 27, 28]) (.leaf) (.leaf)))))) (.leaf))))
def table_Table_Weight_K0  (K : Value → Hp → Prop) : Exit → Env → Hp → Prop := retK Try.prog Try.f13.results.toList K
def table_Table_Weight_K1  (K : Value → Hp → Prop) : Exit → Env → Hp → Prop := thenE (fun env h => sx_2 Try.prog F 46 (cp [1, 1, 1, 1] (bodyOf Try.f13)) (ap [1, 1, 1, 1] table_Table_Weight_an) (rs [13, 14] env) h (table_Table_Weight_K0  K)) (table_Table_Weight_K0  K)
def table_Table_Weight_K2  (K : Value → Hp → Prop) : Exit → Env → Hp → Prop := blockE 0 (table_Table_Weight_K1  K)
def table_Table_Weight_K3 (nx0 : Int × Int × Unit → Hp → Prop) (K : Value → Hp → Prop) : Exit → Env → Hp → Prop := thenE (fun env h => getV [(14, .int .i64), (28, .int .i64)] env fun s => nx0 s h) (table_Table_Weight_K2  K)
def table_Table_Weight_b0 (t : Option Addr) (x1 : Int) (x2 : Int) (y1 : Int) (y2 : Int) (h : Hp)  (K : Value → Hp → Prop) : Prop :=
  sx_3 Try.prog F 46 (cp [] (bodyOf Try.f13)) (ap [] table_Table_Weight_an) [(0, .pointer t), (1, .int .i64 x1), (2, .int .i64 x2), (3, .int .i64 y1), (4, .int .i64 y2)] h (table_Table_Weight_K0  K)
def table_Table_Weight_b1 (sum : Int) (t28 : Int) (t : Option Addr) (e : Int) (t26 : Option Addr) (t26L : Nat) (t26C : Nat) (t27 : Int) (h : Hp) (nx0 : Int × Int × Unit → Hp → Prop) (K : Value → Hp → Prop) : Prop :=
  sx_2 Try.prog F 46 (cp [1, 1, 1, 0, 1, 2, 2] (bodyOf Try.f13)) (ap [1, 1, 1, 0, 1, 2] table_Table_Weight_an) [(14, .int .i64 sum), (28, .int .i64 t28), (0, .pointer t), (13, .int .i64 e), (26, .slice t26 t26L t26C), (27, .int .i64 t27)] h (table_Table_Weight_K3 nx0 K)
def table_Table_Weight_b2 (t : Option Addr) (e : Int) (sum : Int) (t26 : Option Addr) (t26L : Nat) (t26C : Nat) (t27 : Int) (t28 : Int) (h : Hp) (nx0 : Int × Int × Unit → Hp → Prop) (K : Value → Hp → Prop) : Prop :=
  sx_1 Try.prog F 46 (cp [1, 1, 1, 0, 1, 2, 2, 1, 1, 1] (bodyOf Try.f13)) (ap [1, 1, 1, 0, 1, 2, 1, 1, 1] table_Table_Weight_an) [(0, .pointer t), (13, .int .i64 e), (14, .int .i64 sum), (26, .slice t26 t26L t26C), (27, .int .i64 t27), (28, .int .i64 t28)] h (table_Table_Weight_K3 nx0 K)
def table_Table_Weight_b3 (e : Int) (sum : Int) (h : Hp)  (K : Value → Hp → Prop) : Prop :=
  sx_2 Try.prog F 46 (cp [1, 1, 1, 1] (bodyOf Try.f13)) (ap [1, 1, 1, 1] table_Table_Weight_an) [(13, .int .i64 e), (14, .int .i64 sum)] h (table_Table_Weight_K0  K)
theorem table_Table_Weight_b0_eq (t : Option Addr) (x1 : Int) (x2 : Int) (y1 : Int) (y2 : Int) (h : Hp)  (K : Value → Hp → Prop) : table_Table_Weight_b0 t x1 x2 y1 y2 h  K = (
  HCalls Try.prog 11 #[.pointer t, .int .i64 x1, .int .i64 x2, .int .i64 y1, .int .i64 y2] h fun v1 h1 => ∃ (r1 : Option Addr) (rL1 rC1 : Nat), ∃ r2 : Int, v1 = .tuple #[.slice r1 rL1 rC1, .int .i64 r2] ∧
  LoopVC ((0, 0, ()) : Int × Int × Unit) h1 (fun (nx0 : Int × Int × Unit → Hp → Prop) (s1 : Int × Int × Unit) h2 => table_Table_Weight_b1 s1.1 s1.2.1 t r2 r1 rL1 rC1 (rL1 : Int) h2 nx0 K)) := by kernel_rfl
theorem table_Table_Weight_b1_eq (sum : Int) (t28 : Int) (t : Option Addr) (e : Int) (t26 : Option Addr) (t26L : Nat) (t26C : Nat) (t27 : Int) (h : Hp) (nx0 : Int × Int × Unit → Hp → Prop) (K : Value → Hp → Prop) : table_Table_Weight_b1 sum t28 t e t26 t26L t26C t27 h nx0 K = (
  cond (decide (t28 < t27))
  ((0 ≤ t28 ∧ t28 < (t26L : Int)) ∧
  NN t26 fun a1 =>
  ∃ n1 : Int, cell h (a1.add (Int.toNat t28 * 1)) = some (.int .i64 n1) ∧
  NN t fun a2 =>
  ∃ v2 : Value, cell h a2 = some (v2) ∧
  lookV Try.prog 75 v2 (.int .i64 n1) false h fun v3 => ∃ r3 : Option Addr, v3 = .pointer r3 ∧
  NN r3 fun a3 =>
  ∃ n2 : Int, cell h (a3.add 3) = some (.int .i64 n2) ∧
  InR (sum + n2) ∧
  table_Table_Weight_b2 t e (sum + n2) t26 t26L t26C t27 t28 h nx0 K)
  (table_Table_Weight_b3 e sum h  K)) := by kernel_rfl
theorem table_Table_Weight_b2_eq (t : Option Addr) (e : Int) (sum : Int) (t26 : Option Addr) (t26L : Nat) (t26C : Nat) (t27 : Int) (t28 : Int) (h : Hp) (nx0 : Int × Int × Unit → Hp → Prop) (K : Value → Hp → Prop) : table_Table_Weight_b2 t e sum t26 t26L t26C t27 t28 h nx0 K = (
  InR (t28 + 1) ∧
  nx0 (sum, t28 + 1, ()) h) := by kernel_rfl
theorem table_Table_Weight_b3_eq (e : Int) (sum : Int) (h : Hp)  (K : Value → Hp → Prop) : table_Table_Weight_b3 e sum h  K = (
  K (.tuple #[.int .i64 sum, .int .i64 e]) h) := by kernel_rfl
theorem table_Table_Weight_call {t : Option Addr} {x1 : Int} {x2 : Int} {y1 : Int} {y2 : Int} {h : Hp} {K : Value → Hp → Prop} (hk : table_Table_Weight_b0 t x1 x2 y1 y2 h K) : HCalls Try.prog 13 #[.pointer t, .int .i64 x1, .int .i64 x2, .int .i64 y1, .int .i64 y2] h K :=
  calls_of_snd table_Table_Weight_an Try.func13 (c := bodyOf Try.f13) rfl Try.ntmps13 (Nat.le_of_ble_eq_true rfl) (snd_3 F_ok F_mixed) hk

/-! ### EqI -/
def EqI_an : Ann := .node none (.leaf) (.node none (.leaf) (.node (some []) (.node none (.leaf) (.loop [0, 1, 12] [(13, .int .i64)] (.node none (.leaf) (.node none (.leaf) (.node (some [0, 1, 12, 13]) (.leaf) (.leaf)))))) (.leaf)))
def EqI_K0  (K : Value → Hp → Prop) : Exit → Env → Hp → Prop := retK Try.prog Try.f14.results.toList K
def EqI_K1  (K : Value → Hp → Prop) : Exit → Env → Hp → Prop := thenE (fun env h => sx_2 Try.prog F 26 (cp [1, 1, 1] (bodyOf Try.f14)) (ap [1, 1, 1] EqI_an) (rs [] env) h (EqI_K0  K)) (EqI_K0  K)
def EqI_K2  (K : Value → Hp → Prop) : Exit → Env → Hp → Prop := blockE 0 (EqI_K1  K)
def EqI_K3 (nx0 : Int × Unit → Hp → Prop) (K : Value → Hp → Prop) : Exit → Env → Hp → Prop := thenE (fun env h => getV [(13, .int .i64)] env fun s => nx0 s h) (EqI_K2  K)
def EqI_b0 (s1 : Option Addr) (s1L : Nat) (s1C : Nat) (s2 : Option Addr) (s2L : Nat) (s2C : Nat) (h : Hp)  (K : Value → Hp → Prop) : Prop :=
  sx_3 Try.prog F 26 (cp [] (bodyOf Try.f14)) (ap [] EqI_an) [(0, .slice s1 s1L s1C), (1, .slice s2 s2L s2C)] h (EqI_K0  K)
def EqI_b1 (t13 : Int) (s1 : Option Addr) (s1L : Nat) (s1C : Nat) (s2 : Option Addr) (s2L : Nat) (s2C : Nat) (t12 : Int) (h : Hp) (nx0 : Int × Unit → Hp → Prop) (K : Value → Hp → Prop) : Prop :=
  sx_2 Try.prog F 26 (cp [1, 1, 0, 1, 2, 2] (bodyOf Try.f14)) (ap [1, 1, 0, 1, 2] EqI_an) [(13, .int .i64 t13), (0, .slice s1 s1L s1C), (1, .slice s2 s2L s2C), (12, .int .i64 t12)] h (EqI_K3 nx0 K)
def EqI_b2 (s1 : Option Addr) (s1L : Nat) (s1C : Nat) (s2 : Option Addr) (s2L : Nat) (s2C : Nat) (t12 : Int) (t13 : Int) (h : Hp) (nx0 : Int × Unit → Hp → Prop) (K : Value → Hp → Prop) : Prop :=
  sx_1 Try.prog F 26 (cp [1, 1, 0, 1, 2, 2, 1, 1, 1] (bodyOf Try.f14)) (ap [1, 1, 0, 1, 2, 1, 1, 1] EqI_an) [(0, .slice s1 s1L s1C), (1, .slice s2 s2L s2C), (12, .int .i64 t12), (13, .int .i64 t13)] h (EqI_K3 nx0 K)
def EqI_b3  (h : Hp)  (K : Value → Hp → Prop) : Prop :=
  sx_2 Try.prog F 26 (cp [1, 1, 1] (bodyOf Try.f14)) (ap [1, 1, 1] EqI_an) [] h (EqI_K0  K)
theorem EqI_b0_eq (s1 : Option Addr) (s1L : Nat) (s1C : Nat) (s2 : Option Addr) (s2L : Nat) (s2C : Nat) (h : Hp)  (K : Value → Hp → Prop) : EqI_b0 s1 s1L s1C s2 s2L s2C h  K = (
  cond (!decide ((s1L : Int) = (s2L : Int)))
  (K (.bool false) h)
  (LoopVC ((0, ()) : Int × Unit) h (fun (nx0 : Int × Unit → Hp → Prop) (s3 : Int × Unit) h1 => EqI_b1 s3.1 s1 s1L s1C s2 s2L s2C (s1L : Int) h1 nx0 K))) := by kernel_rfl
theorem EqI_b1_eq (t13 : Int) (s1 : Option Addr) (s1L : Nat) (s1C : Nat) (s2 : Option Addr) (s2L : Nat) (s2C : Nat) (t12 : Int) (h : Hp) (nx0 : Int × Unit → Hp → Prop) (K : Value → Hp → Prop) : EqI_b1 t13 s1 s1L s1C s2 s2L s2C t12 h nx0 K = (
  cond (decide (t13 < t12))
  ((0 ≤ t13 ∧ t13 < (s1L : Int)) ∧
  NN s1 fun a1 =>
  ∃ n1 : Int, cell h (a1.add (Int.toNat t13 * 1)) = some (.int .i64 n1) ∧
  (0 ≤ t13 ∧ t13 < (s2L : Int)) ∧
  NN s2 fun a2 =>
  ∃ n2 : Int, cell h (a2.add (Int.toNat t13 * 1)) = some (.int .i64 n2) ∧
  cond (!decide (n1 = n2))
  (K (.bool false) h)
  (EqI_b2 s1 s1L s1C s2 s2L s2C t12 t13 h nx0 K))
  (EqI_b3  h  K)) := by kernel_rfl
theorem EqI_b2_eq (s1 : Option Addr) (s1L : Nat) (s1C : Nat) (s2 : Option Addr) (s2L : Nat) (s2C : Nat) (t12 : Int) (t13 : Int) (h : Hp) (nx0 : Int × Unit → Hp → Prop) (K : Value → Hp → Prop) : EqI_b2 s1 s1L s1C s2 s2L s2C t12 t13 h nx0 K = (
  InR (t13 + 1) ∧
  nx0 (t13 + 1, ()) h) := by kernel_rfl
theorem EqI_b3_eq  (h : Hp)  (K : Value → Hp → Prop) : EqI_b3  h  K = (
  K (.bool true) h) := by kernel_rfl
theorem EqI_call {s1 : Option Addr} {s1L : Nat} {s1C : Nat} {s2 : Option Addr} {s2L : Nat} {s2C : Nat} {h : Hp} {K : Value → Hp → Prop} (hk : EqI_b0 s1 s1L s1C s2 s2L s2C h K) : HCalls Try.prog 14 #[.slice s1 s1L s1C, .slice s2 s2L s2C] h K :=
  calls_of_snd EqI_an Try.func14 (c := bodyOf Try.f14) rfl Try.ntmps14 (Nat.le_of_ble_eq_true rfl) (snd_3 F_ok F_mixed) hk

/-! ### r50_ByKey -/
/-! ### r50_ByPlace -/
/-! ### r50_ByName -/
/-! ### r50_Weight -/
end Go.Proofs.Ytfkccighnkepgaa
