/- Plain statements of what each block of code of this seat asks; printed by a program, checked by Lean. -/
import Derived.Test.YtfkccighnkepgaaGreatSxV0
set_option maxRecDepth 10000
namespace Go.Proofs.YtfkccighnkepgaaGreat
open Go Go.Sx

/-! ### l50_TableAgrees -/
def l50_TableAgrees_an : Ann := .node none (.leaf) (.node none (.leaf) (.node (some [0, 1, 2]) (.leaf) (.node none (.leaf) (.node none (.leaf) (.node none (.leaf) (.node none (.leaf) (.node none (.leaf) (.node none (.leaf) (.node none (.leaf) (.node none (.leaf) (.node none (.leaf) (.node none (.leaf) (.node none (.leaf) (.node none (.leaf) (.node (some [2, 7, 10, 11, 13, 15, 17, 19, 21, 23]) (.leaf) (.node none (.leaf) (.node none (.leaf) (.node (some [2, 7, 11, 17, 23]) (.leaf) (.node none (.leaf) (.node none (.leaf) (.node (some [2, 7, 17, 23, 32]) (.node none (.leaf) (.loop [2, 7, 17, 23, 173, 174] [(31, .int .i64), (32, .int .i64), (175, .int .i64)] (.node none (.leaf) (.node none (.leaf) (.node (some [2, 7, 17, 23, 31, 32, 173, 174, 175]) (.node none (.leaf) (.node none (.leaf) (.node (some [2, 7, 17, 23, 32, 35, 173, 174, 175]) (.leaf) (.leaf)))) (.leaf)))))) (.leaf))))))))))))))))))))))
def l50_TableAgrees_K0  (K : Value → Hp → Prop) : Exit → Env → Hp → Prop := retK Tryz.prog Tryz.f3.results.toList K
def l50_TableAgrees_K1  (K : Value → Hp → Prop) : Exit → Env → Hp → Prop := thenE (fun env h => sx_2 Tryz.prog F 229 (cp [1, 1, 1, 1, 1, 1, 1, 1, 1, 1, 1, 1, 1, 1, 1, 1, 1, 1, 1, 1, 1, 1] (bodyOf Tryz.f3)) (ap [1, 1, 1, 1, 1, 1, 1, 1, 1, 1, 1, 1, 1, 1, 1, 1, 1, 1, 1, 1, 1, 1] l50_TableAgrees_an) (rs [2, 7, 17, 23, 32] env) h (l50_TableAgrees_K0  K)) (l50_TableAgrees_K0  K)
def l50_TableAgrees_K2  (K : Value → Hp → Prop) : Exit → Env → Hp → Prop := blockE 0 (l50_TableAgrees_K1  K)
def l50_TableAgrees_K3 (nx0 : Int × Int × Int × Unit → Hp → Prop) (K : Value → Hp → Prop) : Exit → Env → Hp → Prop := thenE (fun env h => getV [(31, .int .i64), (32, .int .i64), (175, .int .i64)] env fun s => nx0 s h) (l50_TableAgrees_K2  K)
def l50_TableAgrees_K4 (nx0 : Int × Int × Int × Unit → Hp → Prop) (K : Value → Hp → Prop) : Exit → Env → Hp → Prop := thenE (fun env h => sx_1 Tryz.prog F 229 (cp [1, 1, 1, 1, 1, 1, 1, 1, 1, 1, 1, 1, 1, 1, 1, 1, 1, 1, 1, 1, 1, 0, 1, 2, 2, 1, 1, 1] (bodyOf Tryz.f3)) (ap [1, 1, 1, 1, 1, 1, 1, 1, 1, 1, 1, 1, 1, 1, 1, 1, 1, 1, 1, 1, 1, 0, 1, 2, 1, 1, 1] l50_TableAgrees_an) (rs [2, 7, 17, 23, 31, 32, 173, 174, 175] env) h (l50_TableAgrees_K3 nx0 K)) (l50_TableAgrees_K3 nx0 K)
def l50_TableAgrees_K5 (nx0 : Int × Int × Int × Unit → Hp → Prop) (K : Value → Hp → Prop) : Exit → Env → Hp → Prop := blockE 1 (l50_TableAgrees_K4 nx0 K)
def l50_TableAgrees_b0 (l : Option Addr) (lL : Nat) (lC : Nat) (cut : Int) (part : ByteArray) (h : Hp)  (K : Value → Hp → Prop) : Prop :=
  sx_6 Tryz.prog F 229 (cp [] (bodyOf Tryz.f3)) (ap [] l50_TableAgrees_an) [(0, .slice l lL lC), (1, .int .i64 cut), (2, .string part)] h (l50_TableAgrees_K0  K)
def l50_TableAgrees_b1 (l : Option Addr) (lL : Nat) (lC : Nat) (cut : Int) (part : ByteArray) (h : Hp)  (K : Value → Hp → Prop) : Prop :=
  sx_5 Tryz.prog F 229 (cp [1, 1, 1] (bodyOf Tryz.f3)) (ap [1, 1, 1] l50_TableAgrees_an) [(0, .slice l lL lC), (1, .int .i64 cut), (2, .string part)] h (l50_TableAgrees_K0  K)
def l50_TableAgrees_b2 (part : ByteArray) (t : Option Addr) (all : Option Addr) (allL : Nat) (allC : Nat) (keys : Option Addr) (keysL : Nat) (keysC : Nat) (places : Option Addr) (placesL : Nat) (placesC : Nat) (names : Option Addr) (namesL : Nat) (namesC : Nat) (somev : Option Addr) (somevL : Nat) (somevC : Nat) (left : Option Addr) (leftL : Nat) (leftC : Nat) (right : Option Addr) (rightL : Nat) (rightC : Nat) (w : Int) (h : Hp)  (K : Value → Hp → Prop) : Prop :=
  sx_4 Tryz.prog F 229 (cp [1, 1, 1, 1, 1, 1, 1, 1, 1, 1, 1, 1, 1, 1, 1, 1] (bodyOf Tryz.f3)) (ap [1, 1, 1, 1, 1, 1, 1, 1, 1, 1, 1, 1, 1, 1, 1, 1] l50_TableAgrees_an) [(2, .string part), (7, .pointer t), (10, .slice all allL allC), (11, .slice keys keysL keysC), (13, .slice places placesL placesC), (15, .slice names namesL namesC), (17, .slice somev somevL somevC), (19, .slice left leftL leftC), (21, .slice right rightL rightC), (23, .int .i64 w)] h (l50_TableAgrees_K0  K)
def l50_TableAgrees_b3 (part : ByteArray) (t : Option Addr) (keys : Option Addr) (keysL : Nat) (keysC : Nat) (somev : Option Addr) (somevL : Nat) (somevC : Nat) (w : Int) (h : Hp)  (K : Value → Hp → Prop) : Prop :=
  sx_3 Tryz.prog F 229 (cp [1, 1, 1, 1, 1, 1, 1, 1, 1, 1, 1, 1, 1, 1, 1, 1, 1, 1, 1] (bodyOf Tryz.f3)) (ap [1, 1, 1, 1, 1, 1, 1, 1, 1, 1, 1, 1, 1, 1, 1, 1, 1, 1, 1] l50_TableAgrees_an) [(2, .string part), (7, .pointer t), (11, .slice keys keysL keysC), (17, .slice somev somevL somevC), (23, .int .i64 w)] h (l50_TableAgrees_K0  K)
def l50_TableAgrees_b4 (last : Int) (sum : Int) (t175 : Int) (part : ByteArray) (t : Option Addr) (somev : Option Addr) (somevL : Nat) (somevC : Nat) (w : Int) (t173 : Option Addr) (t173L : Nat) (t173C : Nat) (t174 : Int) (h : Hp) (nx0 : Int × Int × Int × Unit → Hp → Prop) (K : Value → Hp → Prop) : Prop :=
  sx_2 Tryz.prog F 229 (cp [1, 1, 1, 1, 1, 1, 1, 1, 1, 1, 1, 1, 1, 1, 1, 1, 1, 1, 1, 1, 1, 0, 1, 2, 2] (bodyOf Tryz.f3)) (ap [1, 1, 1, 1, 1, 1, 1, 1, 1, 1, 1, 1, 1, 1, 1, 1, 1, 1, 1, 1, 1, 0, 1, 2] l50_TableAgrees_an) [(31, .int .i64 last), (32, .int .i64 sum), (175, .int .i64 t175), (2, .string part), (7, .pointer t), (17, .slice somev somevL somevC), (23, .int .i64 w), (173, .slice t173 t173L t173C), (174, .int .i64 t174)] h (l50_TableAgrees_K3 nx0 K)
def l50_TableAgrees_b5 (part : ByteArray) (t : Option Addr) (somev : Option Addr) (somevL : Nat) (somevC : Nat) (w : Int) (sum : Int) (r : Option Addr) (t173 : Option Addr) (t173L : Nat) (t173C : Nat) (t174 : Int) (t175 : Int) (h : Hp) (nx0 : Int × Int × Int × Unit → Hp → Prop) (K : Value → Hp → Prop) : Prop :=
  sx_1 Tryz.prog F 229 (cp [1, 1, 1, 1, 1, 1, 1, 1, 1, 1, 1, 1, 1, 1, 1, 1, 1, 1, 1, 1, 1, 0, 1, 2, 2, 1, 1, 0, 2, 1, 1, 1] (bodyOf Tryz.f3)) (ap [1, 1, 1, 1, 1, 1, 1, 1, 1, 1, 1, 1, 1, 1, 1, 1, 1, 1, 1, 1, 1, 0, 1, 2, 1, 1, 0, 1, 1, 1] l50_TableAgrees_an) [(2, .string part), (7, .pointer t), (17, .slice somev somevL somevC), (23, .int .i64 w), (32, .int .i64 sum), (35, .pointer r), (173, .slice t173 t173L t173C), (174, .int .i64 t174), (175, .int .i64 t175)] h (l50_TableAgrees_K5 nx0 K)
def l50_TableAgrees_b6 (part : ByteArray) (t : Option Addr) (somev : Option Addr) (somevL : Nat) (somevC : Nat) (w : Int) (sum : Int) (h : Hp)  (K : Value → Hp → Prop) : Prop :=
  sx_2 Tryz.prog F 229 (cp [1, 1, 1, 1, 1, 1, 1, 1, 1, 1, 1, 1, 1, 1, 1, 1, 1, 1, 1, 1, 1, 1] (bodyOf Tryz.f3)) (ap [1, 1, 1, 1, 1, 1, 1, 1, 1, 1, 1, 1, 1, 1, 1, 1, 1, 1, 1, 1, 1, 1] l50_TableAgrees_an) [(2, .string part), (7, .pointer t), (17, .slice somev somevL somevC), (23, .int .i64 w), (32, .int .i64 sum)] h (l50_TableAgrees_K0  K)
def l50_TableAgrees_b7 (part : ByteArray) (t : Option Addr) (somev : Option Addr) (somevL : Nat) (somevC : Nat) (w : Int) (last : Int) (sum : Int) (t173 : Option Addr) (t173L : Nat) (t173C : Nat) (t174 : Int) (t175 : Int) (h : Hp) (nx0 : Int × Int × Int × Unit → Hp → Prop) (K : Value → Hp → Prop) : Prop :=
  sx_1 Tryz.prog F 229 (cp [1, 1, 1, 1, 1, 1, 1, 1, 1, 1, 1, 1, 1, 1, 1, 1, 1, 1, 1, 1, 1, 0, 1, 2, 2, 1, 1, 1] (bodyOf Tryz.f3)) (ap [1, 1, 1, 1, 1, 1, 1, 1, 1, 1, 1, 1, 1, 1, 1, 1, 1, 1, 1, 1, 1, 0, 1, 2, 1, 1, 1] l50_TableAgrees_an) [(2, .string part), (7, .pointer t), (17, .slice somev somevL somevC), (23, .int .i64 w), (31, .int .i64 last), (32, .int .i64 sum), (173, .slice t173 t173L t173C), (174, .int .i64 t174), (175, .int .i64 t175)] h (l50_TableAgrees_K3 nx0 K)
theorem l50_TableAgrees_b0_eq (l : Option Addr) (lL : Nat) (lC : Nat) (cut : Int) (part : ByteArray) (h : Hp)  (K : Value → Hp → Prop) : l50_TableAgrees_b0 l lL lC cut part h  K = (
  HCalls Tryz.prog 5 #[] h fun v1 h1 => ∃ r1 : Bool, v1 = .bool r1 ∧
  cond (!r1)
  (K (.bool false) h1)
  (HCalls Tryz.prog 6 #[.slice l lL lC] h1 fun v2 h2 => ∃ r2 : Bool, v2 = .bool r2 ∧
  cond r2
  (K (.bool true) h2)
  (cond (decide ((100 : Int) < (part.size : Int)))
  (K (.bool true) h2)
  (cond (decide (cut < (-1048576)))
  (K (.bool true) h2)
  (cond (decide ((1048576 : Int) ≤ cut))
  (K (.bool true) h2)
  (l50_TableAgrees_b1 l lL lC cut part h2  K)))))) := by kernel_rfl
theorem l50_TableAgrees_b1_eq (l : Option Addr) (lL : Nat) (lC : Nat) (cut : Int) (part : ByteArray) (h : Hp)  (K : Value → Hp → Prop) : l50_TableAgrees_b1 l lL lC cut part h  K = (
  HCalls Tryz.prog 7 #[.slice l lL lC] h fun v3 h3 => ∃ r3 : Option Addr, ∃ (r4 : Option Addr) (rL1 rC1 : Nat), ∃ (r5 : Option Addr) (rL2 rC2 : Nat), ∃ r6 : Int, ∃ r7 : Bool, v3 = .tuple #[.pointer r3, .agg #[.slice r4 rL1 rC1, .slice r5 rL2 rC2, .int .i64 r6], .bool r7] ∧
  New h3 (.cells #[.slice none 0 0, .slice none 0 0, .int .i64 0] 29) fun b1 h4 =>
  Wr h4 ⟨b1, 0, none⟩ (.slice r4 rL1 rC1) fun h5 =>
  Wr h5 ((⟨b1, 0, none⟩ : Addr).add 1) (.slice r5 rL2 rC2) fun h6 =>
  Wr h6 ((⟨b1, 0, none⟩ : Addr).add 2) (.int .i64 r6) fun h7 =>
  cond (!r7)
  (K (.bool false) h7)
  (HCalls Tryz.prog 8 #[.pointer r3] h7 fun v4 h8 => ∃ (r8 : Option Addr) (rL3 rC3 : Nat), v4 = .slice r8 rL3 rC3 ∧
  HCalls Tryz.prog 9 #[.pointer r3, .int .i64 (-1048576), .int .i64 1048576] h8 fun v5 h9 => ∃ (r9 : Option Addr) (rL4 rC4 : Nat), ∃ r10 : Int, v5 = .tuple #[.slice r9 rL4 rC4, .int .i64 r10] ∧
  HCalls Tryz.prog 10 #[.pointer r3, .int .i64 (-1048576), .int .i64 1048576, .int .i64 (-1048576), .int .i64 1048576] h9 fun v6 h10 => ∃ (r11 : Option Addr) (rL5 rC5 : Nat), ∃ r12 : Int, v6 = .tuple #[.slice r11 rL5 rC5, .int .i64 r12] ∧
  HCalls Tryz.prog 11 #[.pointer r3, .string (⟨#[]⟩ : ByteArray)] h10 fun v7 h11 => ∃ (r13 : Option Addr) (rL6 rC6 : Nat), ∃ r14 : Int, v7 = .tuple #[.slice r13 rL6 rC6, .int .i64 r14] ∧
  HCalls Tryz.prog 11 #[.pointer r3, .string part] h11 fun v8 h12 => ∃ (r15 : Option Addr) (rL7 rC7 : Nat), ∃ r16 : Int, v8 = .tuple #[.slice r15 rL7 rC7, .int .i64 r16] ∧
  HCalls Tryz.prog 10 #[.pointer r3, .int .i64 (-1048576), .int .i64 cut, .int .i64 (-1048576), .int .i64 1048576] h12 fun v9 h13 => ∃ (r17 : Option Addr) (rL8 rC8 : Nat), ∃ r18 : Int, v9 = .tuple #[.slice r17 rL8 rC8, .int .i64 r18] ∧
  InR (cut + 1) ∧
  HCalls Tryz.prog 10 #[.pointer r3, .int .i64 (cut + 1), .int .i64 1048576, .int .i64 (-1048576), .int .i64 1048576] h13 fun v10 h14 => ∃ (r19 : Option Addr) (rL9 rC9 : Nat), ∃ r20 : Int, v10 = .tuple #[.slice r19 rL9 rC9, .int .i64 r20] ∧
  HCalls Tryz.prog 12 #[.pointer r3, .int .i64 (-1048576), .int .i64 1048576, .int .i64 (-1048576), .int .i64 1048576] h14 fun v11 h15 => ∃ r21 : Int, ∃ r22 : Int, v11 = .tuple #[.int .i64 r21, .int .i64 r22] ∧
  HCalls Tryz.prog 12 #[.pointer r3, .int .i64 (-1048576), .int .i64 cut, .int .i64 (-1048576), .int .i64 1048576] h15 fun v12 h16 => ∃ r23 : Int, ∃ r24 : Int, v12 = .tuple #[.int .i64 r23, .int .i64 r24] ∧
  InR (cut + 1) ∧
  HCalls Tryz.prog 12 #[.pointer r3, .int .i64 (cut + 1), .int .i64 1048576, .int .i64 (-1048576), .int .i64 1048576] h16 fun v13 h17 => ∃ r25 : Int, ∃ r26 : Int, v13 = .tuple #[.int .i64 r25, .int .i64 r26] ∧
  New h17 (.cells #[.int .i64 r10, .int .i64 r12, .int .i64 r14, .int .i64 r16, .int .i64 r18, .int .i64 r20, .int .i64 r22, .int .i64 r24, .int .i64 r26] 33) fun b2 h18 =>
  HCalls Tryz.prog 13 #[.slice (some ⟨b2, 0, none⟩) 9 9] h18 fun v14 h19 => ∃ r27 : Int, v14 = .int .i64 r27 ∧
  cond (!decide (r27 = 0))
  (K (.bool false) h19)
  (cond (decide ((1000 : Int) < (rL3 : Int)))
  (K (.bool false) h19)
  (InR (r23 + r25) ∧
  cond (!decide ((r23 + r25) = r21))
  (K (.bool false) h19)
  (l50_TableAgrees_b2 part r3 r8 rL3 rC3 r9 rL4 rC4 r11 rL5 rC5 r13 rL6 rC6 r15 rL7 rC7 r17 rL8 rC8 r19 rL9 rC9 r21 h19  K))))) := by kernel_rfl
theorem l50_TableAgrees_b2_eq (part : ByteArray) (t : Option Addr) (all : Option Addr) (allL : Nat) (allC : Nat) (keys : Option Addr) (keysL : Nat) (keysC : Nat) (places : Option Addr) (placesL : Nat) (placesC : Nat) (names : Option Addr) (namesL : Nat) (namesC : Nat) (somev : Option Addr) (somevL : Nat) (somevC : Nat) (left : Option Addr) (leftL : Nat) (leftC : Nat) (right : Option Addr) (rightL : Nat) (rightC : Nat) (w : Int) (h : Hp)  (K : Value → Hp → Prop) : l50_TableAgrees_b2 part t all allL allC keys keysL keysC places placesL placesC names namesL namesC somev somevL somevC left leftL leftC right rightL rightC w h  K = (
  HCalls Tryz.prog 15 #[.slice keys keysL keysC] h fun v15 h20 => ∃ r28 : Value, v15 = r28 ∧
  HCalls Tryz.prog 14 #[r28] h20 fun v16 h21 => ∃ (r29 : Option Addr) (rL10 rC10 : Nat), v16 = .slice r29 rL10 rC10 ∧
  New h21 (.cells #[.slice left leftL leftC, .slice right rightL rightC] 26) fun b3 h22 =>
  HCalls Tryz.prog 16 #[.slice (some ⟨b3, 0, none⟩) 2 2] h22 fun v17 h23 => ∃ (r30 : Option Addr) (rL11 rC11 : Nat), v17 = .slice r30 rL11 rC11 ∧
  HCalls Tryz.prog 15 #[.slice r30 rL11 rC11] h23 fun v18 h24 => ∃ r31 : Value, v18 = r31 ∧
  HCalls Tryz.prog 14 #[r31] h24 fun v19 h25 => ∃ (r32 : Option Addr) (rL12 rC12 : Nat), v19 = .slice r32 rL12 rC12 ∧
  HCalls Tryz.prog 17 #[.slice r29 rL10 rC10, .slice all allL allC] h25 fun v20 h26 => ∃ r33 : Bool, v20 = .bool r33 ∧
  cond (!r33)
  (K (.bool false) h26)
  (HCalls Tryz.prog 17 #[.slice places placesL placesC, .slice all allL allC] h26 fun v21 h27 => ∃ r34 : Bool, v21 = .bool r34 ∧
  cond (!r34)
  (K (.bool false) h27)
  (HCalls Tryz.prog 17 #[.slice names namesL namesC, .slice all allL allC] h27 fun v22 h28 => ∃ r35 : Bool, v22 = .bool r35 ∧
  cond (!r35)
  (K (.bool false) h28)
  (HCalls Tryz.prog 17 #[.slice r32 rL12 rC12, .slice all allL allC] h28 fun v23 h29 => ∃ r36 : Bool, v23 = .bool r36 ∧
  cond (!r36)
  (K (.bool false) h29)
  (l50_TableAgrees_b3 part t keys keysL keysC somev somevL somevC w h29  K))))) := by kernel_rfl
theorem l50_TableAgrees_b3_eq (part : ByteArray) (t : Option Addr) (keys : Option Addr) (keysL : Nat) (keysC : Nat) (somev : Option Addr) (somevL : Nat) (somevC : Nat) (w : Int) (h : Hp)  (K : Value → Hp → Prop) : l50_TableAgrees_b3 part t keys keysL keysC somev somevL somevC w h  K = (
  LoopVC (((-1048577), 0, 0, ()) : Int × Int × Int × Unit) h (fun (nx0 : Int × Int × Int × Unit → Hp → Prop) (s1 : Int × Int × Int × Unit) h30 => l50_TableAgrees_b4 s1.1 s1.2.1 s1.2.2.1 part t somev somevL somevC w keys keysL keysC (keysL : Int) h30 nx0 K)) := by kernel_rfl
theorem l50_TableAgrees_b4_eq (last : Int) (sum : Int) (t175 : Int) (part : ByteArray) (t : Option Addr) (somev : Option Addr) (somevL : Nat) (somevC : Nat) (w : Int) (t173 : Option Addr) (t173L : Nat) (t173C : Nat) (t174 : Int) (h : Hp) (nx0 : Int × Int × Int × Unit → Hp → Prop) (K : Value → Hp → Prop) : l50_TableAgrees_b4 last sum t175 part t somev somevL somevC w t173 t173L t173C t174 h nx0 K = (
  cond (decide (t175 < t174))
  ((0 ≤ t175 ∧ t175 < (t173L : Int)) ∧
  NN t173 fun a1 =>
  ∃ n1 : Int, cell h (a1.add (Int.toNat t175 * 1)) = some (.int .i64 n1) ∧
  HCalls Tryz.prog 18 #[.pointer t, .int .i64 n1] h fun v24 h31 => ∃ r37 : Int, ∃ r38 : Int, ∃ r39 : Int, ∃ r40 : Int, ∃ r41 : ByteArray, ∃ r42 : Int, v24 = .tuple #[.agg #[.int .i64 r37, .int .i64 r38, .int .i64 r39, .int .i64 r40, .string r41], .int .i64 r42] ∧
  New h31 (.cells #[.int .i64 0, .int .i64 0, .int .i64 0, .int .i64 0, .string (⟨#[]⟩ : ByteArray)] 49) fun b4 h32 =>
  Wr h32 ⟨b4, 0, none⟩ (.int .i64 r37) fun h33 =>
  Wr h33 ((⟨b4, 0, none⟩ : Addr).add 1) (.int .i64 r38) fun h34 =>
  Wr h34 ((⟨b4, 0, none⟩ : Addr).add 2) (.int .i64 r39) fun h35 =>
  Wr h35 ((⟨b4, 0, none⟩ : Addr).add 3) (.int .i64 r40) fun h36 =>
  Wr h36 ((⟨b4, 0, none⟩ : Addr).add 4) (.string r41) fun h37 =>
  cond (!decide (r42 = 0))
  (K (.bool false) h37)
  (∃ n2 : Int, cell h37 ⟨b4, 0, none⟩ = some (.int .i64 n2) ∧
  cond (decide (n2 ≤ last))
  (K (.bool false) h37)
  (∃ n3 : Int, ∃ n4 : Int, ∃ n5 : Int, ∃ n6 : Int, ∃ s2 : ByteArray, cell h37 ⟨b4, 0, none⟩ = some (.int .i64 n3) ∧
  cell h37 ((⟨b4, 0, none⟩ : Addr).add 1) = some (.int .i64 n4) ∧
  cell h37 ((⟨b4, 0, none⟩ : Addr).add 2) = some (.int .i64 n5) ∧
  cell h37 ((⟨b4, 0, none⟩ : Addr).add 3) = some (.int .i64 n6) ∧
  cell h37 ((⟨b4, 0, none⟩ : Addr).add 4) = some (.string s2) ∧
  HCalls Tryz.prog 19 #[.pointer t, .int .i64 n1, .agg #[.int .i64 n3, .int .i64 n4, .int .i64 n5, .int .i64 n6, .string s2]] h37 fun v25 h38 => ∃ r43 : Int, v25 = .int .i64 r43 ∧
  cond (!decide (r43 = 0))
  (K (.bool false) h38)
  (l50_TableAgrees_b5 part t somev somevL somevC w sum (some ⟨b4, 0, none⟩) t173 t173L t173C t174 t175 h38 nx0 K))))
  (l50_TableAgrees_b6 part t somev somevL somevC w sum h  K)) := by kernel_rfl
theorem l50_TableAgrees_b5_eq (part : ByteArray) (t : Option Addr) (somev : Option Addr) (somevL : Nat) (somevC : Nat) (w : Int) (sum : Int) (r : Option Addr) (t173 : Option Addr) (t173L : Nat) (t173C : Nat) (t174 : Int) (t175 : Int) (h : Hp) (nx0 : Int × Int × Int × Unit → Hp → Prop) (K : Value → Hp → Prop) : l50_TableAgrees_b5 part t somev somevL somevC w sum r t173 t173L t173C t174 t175 h nx0 K = (
  NN r fun a2 =>
  ∃ n7 : Int, cell h a2 = some (.int .i64 n7) ∧
  NN r fun a3 =>
  ∃ n8 : Int, cell h (a3.add 3) = some (.int .i64 n8) ∧
  InR (sum + n8) ∧
  l50_TableAgrees_b7 part t somev somevL somevC w n7 (sum + n8) t173 t173L t173C t174 t175 h nx0 K) := by kernel_rfl
theorem l50_TableAgrees_b6_eq (part : ByteArray) (t : Option Addr) (somev : Option Addr) (somevL : Nat) (somevC : Nat) (w : Int) (sum : Int) (h : Hp)  (K : Value → Hp → Prop) : l50_TableAgrees_b6 part t somev somevL somevC w sum h  K = (
  HCalls Tryz.prog 11 #[.pointer t, .string part] h fun v26 h39 => ∃ (r44 : Option Addr) (rL13 rC13 : Nat), ∃ r45 : Int, v26 = .tuple #[.slice r44 rL13 rC13, .int .i64 r45] ∧
  cond (decide (sum = w))
  (cond (decide (r45 = 0))
  (HCalls Tryz.prog 17 #[.slice somev somevL somevC, .slice r44 rL13 rC13] h39 fun v27 h40 => ∃ r46 : Bool, v27 = .bool r46 ∧
  cond r46
  (HCalls Tryz.prog 20 #[.pointer t] h40 fun v28 h41 => ∃ r47 : Bool, v28 = .bool r47 ∧
  K (.bool r47) h41)
  (K (.bool false) h40))
  (K (.bool false) h39))
  (K (.bool false) h39)) := by kernel_rfl
theorem l50_TableAgrees_b7_eq (part : ByteArray) (t : Option Addr) (somev : Option Addr) (somevL : Nat) (somevC : Nat) (w : Int) (last : Int) (sum : Int) (t173 : Option Addr) (t173L : Nat) (t173C : Nat) (t174 : Int) (t175 : Int) (h : Hp) (nx0 : Int × Int × Int × Unit → Hp → Prop) (K : Value → Hp → Prop) : l50_TableAgrees_b7 part t somev somevL somevC w last sum t173 t173L t173C t174 t175 h nx0 K = (
  InR (t175 + 1) ∧
  nx0 (last, sum, t175 + 1, ()) h) := by kernel_rfl
theorem l50_TableAgrees_call {l : Option Addr} {lL : Nat} {lC : Nat} {cut : Int} {part : ByteArray} {h : Hp} {K : Value → Hp → Prop} (hk : l50_TableAgrees_b0 l lL lC cut part h K) : HCalls Tryz.prog 3 #[.slice l lL lC, .int .i64 cut, .string part] h K :=
  calls_of_snd l50_TableAgrees_an Tryz.func3 (c := bodyOf Tryz.f3) rfl Tryz.ntmps3 (Nat.le_of_ble_eq_true rfl) (snd_6 F_ok F_mixed) hk

/-! ### l50_TableNone -/
/-! ### l50_awake -/
def l50_awake_an : Ann := .leaf
def l50_awake_K0  (K : Value → Hp → Prop) : Exit → Env → Hp → Prop := retK Tryz.prog Tryz.f5.results.toList K
def l50_awake_b0  (h : Hp)  (K : Value → Hp → Prop) : Prop :=
  sx_1 Tryz.prog F 98 (cp [] (bodyOf Tryz.f5)) (ap [] l50_awake_an) [] h (l50_awake_K0  K)
theorem l50_awake_b0_eq  (h : Hp)  (K : Value → Hp → Prop) : l50_awake_b0  h  K = (
  HCalls Tryz.prog 24 #[] h fun v1 h1 => ∃ r1 : Option Addr, v1 = .pointer r1 ∧
  cond r1.isNone
  (K (.bool false) h1)
  (HCalls Tryz.prog 21 #[.pointer r1, .agg #[.int .i64 5, .int .i64 1, .int .i64 2, .int .i64 3, .string (⟨#[97, 110, 110]⟩ : ByteArray)]] h1 fun v2 h2 => ∃ r2 : Int, ∃ r3 : Int, v2 = .tuple #[.int .i64 r2, .int .i64 r3] ∧
  HCalls Tryz.prog 21 #[.pointer r1, .agg #[.int .i64 4, .int .i64 2, .int .i64 2, .int .i64 1, .string (⟨#[97, 110, 110, 97]⟩ : ByteArray)]] h2 fun v3 h3 => ∃ r4 : Int, ∃ r5 : Int, v3 = .tuple #[.int .i64 r4, .int .i64 r5] ∧
  HCalls Tryz.prog 9 #[.pointer r1, .int .i64 0, .int .i64 9] h3 fun v4 h4 => ∃ (r6 : Option Addr) (rL1 rC1 : Nat), ∃ r7 : Int, v4 = .tuple #[.slice r6 rL1 rC1, .int .i64 r7] ∧
  HCalls Tryz.prog 11 #[.pointer r1, .string (⟨#[110, 110]⟩ : ByteArray)] h4 fun v5 h5 => ∃ (r8 : Option Addr) (rL2 rC2 : Nat), ∃ r9 : Int, v5 = .tuple #[.slice r8 rL2 rC2, .int .i64 r9] ∧
  HCalls Tryz.prog 11 #[.pointer r1, .string (⟨#[110, 97]⟩ : ByteArray)] h5 fun v6 h6 => ∃ (r10 : Option Addr) (rL3 rC3 : Nat), ∃ r11 : Int, v6 = .tuple #[.slice r10 rL3 rC3, .int .i64 r11] ∧
  HCalls Tryz.prog 12 #[.pointer r1, .int .i64 0, .int .i64 5, .int .i64 0, .int .i64 5] h6 fun v7 h7 => ∃ r12 : Int, ∃ r13 : Int, v7 = .tuple #[.int .i64 r12, .int .i64 r13] ∧
  cond (decide (r3 = 0))
  (cond (decide (r2 = 0))
  (cond (decide (r5 = 0))
  (cond (decide (r4 = 1))
  (cond (decide (r7 = 0))
  (New h7 (.cells #[.int .i64 1, .int .i64 0] 3) fun b1 h8 =>
  HCalls Tryz.prog 17 #[.slice r6 rL1 rC1, .slice (some ⟨b1, 0, none⟩) 2 2] h8 fun v8 h9 => ∃ r14 : Bool, v8 = .bool r14 ∧
  cond r14
  (cond (decide (r9 = 0))
  (New h9 (.cells #[.int .i64 0, .int .i64 1] 3) fun b2 h10 =>
  HCalls Tryz.prog 17 #[.slice r8 rL2 rC2, .slice (some ⟨b2, 0, none⟩) 2 2] h10 fun v9 h11 => ∃ r15 : Bool, v9 = .bool r15 ∧
  cond r15
  (cond (decide (r11 = 0))
  (New h11 (.cells #[.int .i64 1] 3) fun b3 h12 =>
  HCalls Tryz.prog 17 #[.slice r10 rL3 rC3, .slice (some ⟨b3, 0, none⟩) 1 1] h12 fun v10 h13 => ∃ r16 : Bool, v10 = .bool r16 ∧
  cond r16
  (cond (decide (r13 = 0))
  (K (.bool (decide (r12 = 4))) h13)
  (K (.bool false) h13))
  (K (.bool false) h13))
  (K (.bool false) h11))
  (K (.bool false) h11))
  (K (.bool false) h9))
  (K (.bool false) h9))
  (K (.bool false) h7))
  (K (.bool false) h7))
  (K (.bool false) h7))
  (K (.bool false) h7))
  (K (.bool false) h7))) := by kernel_rfl
theorem l50_awake_call  {h : Hp} {K : Value → Hp → Prop} (hk : l50_awake_b0  h K) : HCalls Tryz.prog 5 #[] h K :=
  calls_of_snd l50_awake_an Tryz.func5 (c := bodyOf Tryz.f5) rfl Tryz.ntmps5 (Nat.le_of_ble_eq_true rfl) (snd_1 F_ok F_mixed) hk

/-! ### l50_great -/
def l50_great_an : Ann := .leaf
def l50_great_K0  (K : Value → Hp → Prop) : Exit → Env → Hp → Prop := retK Tryz.prog Tryz.f6.results.toList K
def l50_great_b0 (l : Option Addr) (lL : Nat) (lC : Nat) (h : Hp)  (K : Value → Hp → Prop) : Prop :=
  sx_1 Tryz.prog F 10 (cp [] (bodyOf Tryz.f6)) (ap [] l50_great_an) [(0, .slice l lL lC)] h (l50_great_K0  K)
theorem l50_great_b0_eq (l : Option Addr) (lL : Nat) (lC : Nat) (h : Hp)  (K : Value → Hp → Prop) : l50_great_b0 l lL lC h  K = (
  cond (decide ((40 : Int) < (lL : Int)))
  (K (.bool true) h)
  (HCalls Tryz.prog 30 #[.slice l lL lC, .func (.func 31) #[] #[]] h fun v1 h1 => ∃ r1 : Bool, v1 = .bool r1 ∧
  K (.bool r1) h1)) := by kernel_rfl
theorem l50_great_call {l : Option Addr} {lL : Nat} {lC : Nat} {h : Hp} {K : Value → Hp → Prop} (hk : l50_great_b0 l lL lC h K) : HCalls Tryz.prog 6 #[.slice l lL lC] h K :=
  calls_of_snd l50_great_an Tryz.func6 (c := bodyOf Tryz.f6) rfl Tryz.ntmps6 (Nat.le_of_ble_eq_true rfl) (snd_1 F_ok F_mixed) hk

/-! ### l50_played -/
def l50_played_an : Ann := .node none (.leaf) (.node none (.leaf) (.node none (.leaf) (.node none (.node none (.leaf) (.node none (.node none (.tail 2) (.leaf)) (.leaf))) (.node (some [3, 5, 6]) (.node none (.leaf) (.loop [3, 5, 6, 15, 16] [(17, .int .i64)] (.node none (.leaf) (.node none (.leaf) (.node (some [3, 5, 6, 15, 16, 17]) (.node none (.leaf) (.node none (.leaf) (.node (some [3, 5, 6, 9, 15, 16, 17]) (.node none (.leaf) (.node none (.node none (.tail 2) (.leaf)) (.leaf))) (.leaf)))) (.leaf)))))) (.node none (.tail 3) (.leaf))))))
def l50_played_K0  (K : Value → Hp → Prop) : Exit → Env → Hp → Prop := retK Tryz.prog Tryz.f7.results.toList K
def l50_played_K1  (K : Value → Hp → Prop) : Exit → Env → Hp → Prop := thenE (fun env h => sx_2 Tryz.prog F 43 (cp [1, 1, 1, 1, 1] (bodyOf Tryz.f7)) (ap [1, 1, 1, 1, 1] l50_played_an) (rs [3, 5, 6] env) h (l50_played_K0  K)) (l50_played_K0  K)
def l50_played_K2  (K : Value → Hp → Prop) : Exit → Env → Hp → Prop := blockE 0 (l50_played_K1  K)
def l50_played_K3 (nx0 : Int × Unit → Hp → Prop) (K : Value → Hp → Prop) : Exit → Env → Hp → Prop := thenE (fun env h => getV [(17, .int .i64)] env fun s => nx0 s h) (l50_played_K2  K)
def l50_played_K4 (nx0 : Int × Unit → Hp → Prop) (K : Value → Hp → Prop) : Exit → Env → Hp → Prop := thenE (fun env h => sx_1 Tryz.prog F 43 (cp [1, 1, 1, 1, 0, 1, 2, 2, 1, 1, 1] (bodyOf Tryz.f7)) (ap [1, 1, 1, 1, 0, 1, 2, 1, 1, 1] l50_played_an) (rs [3, 5, 6, 15, 16, 17] env) h (l50_played_K3 nx0 K)) (l50_played_K3 nx0 K)
def l50_played_K5 (nx0 : Int × Unit → Hp → Prop) (K : Value → Hp → Prop) : Exit → Env → Hp → Prop := blockE 1 (l50_played_K4 nx0 K)
def l50_played_b0 (l : Option Addr) (lL : Nat) (lC : Nat) (h : Hp)  (K : Value → Hp → Prop) : Prop :=
  sx_3 Tryz.prog F 43 (cp [] (bodyOf Tryz.f7)) (ap [] l50_played_an) [(0, .slice l lL lC)] h (l50_played_K0  K)
def l50_played_b1 (t17 : Int) (t3 : Option Addr) (t : Option Addr) (s : Option Addr) (t15 : Option Addr) (t15L : Nat) (t15C : Nat) (t16 : Int) (h : Hp) (nx0 : Int × Unit → Hp → Prop) (K : Value → Hp → Prop) : Prop :=
  sx_2 Tryz.prog F 43 (cp [1, 1, 1, 1, 0, 1, 2, 2] (bodyOf Tryz.f7)) (ap [1, 1, 1, 1, 0, 1, 2] l50_played_an) [(17, .int .i64 t17), (3, .pointer t3), (5, .pointer t), (6, .pointer s), (15, .slice t15 t15L t15C), (16, .int .i64 t16)] h (l50_played_K3 nx0 K)
def l50_played_b2 (t3 : Option Addr) (t : Option Addr) (s : Option Addr) (next : Option Addr) (t15 : Option Addr) (t15L : Nat) (t15C : Nat) (t16 : Int) (t17 : Int) (h : Hp) (nx0 : Int × Unit → Hp → Prop) (K : Value → Hp → Prop) : Prop :=
  sx_1 Tryz.prog F 43 (cp [1, 1, 1, 1, 0, 1, 2, 2, 1, 1, 0, 2, 1, 1, 1] (bodyOf Tryz.f7)) (ap [1, 1, 1, 1, 0, 1, 2, 1, 1, 0, 1, 1, 1] l50_played_an) [(3, .pointer t3), (5, .pointer t), (6, .pointer s), (9, .pointer next), (15, .slice t15 t15L t15C), (16, .int .i64 t16), (17, .int .i64 t17)] h (l50_played_K5 nx0 K)
def l50_played_b3 (t3 : Option Addr) (t : Option Addr) (s : Option Addr) (h : Hp)  (K : Value → Hp → Prop) : Prop :=
  sx_2 Tryz.prog F 43 (cp [1, 1, 1, 1, 1] (bodyOf Tryz.f7)) (ap [1, 1, 1, 1, 1] l50_played_an) [(3, .pointer t3), (5, .pointer t), (6, .pointer s)] h (l50_played_K0  K)
def l50_played_b4 (t3 : Option Addr) (t : Option Addr) (s : Option Addr) (t15 : Option Addr) (t15L : Nat) (t15C : Nat) (t16 : Int) (t17 : Int) (h : Hp) (nx0 : Int × Unit → Hp → Prop) (K : Value → Hp → Prop) : Prop :=
  sx_1 Tryz.prog F 43 (cp [1, 1, 1, 1, 0, 1, 2, 2, 1, 1, 1] (bodyOf Tryz.f7)) (ap [1, 1, 1, 1, 0, 1, 2, 1, 1, 1] l50_played_an) [(3, .pointer t3), (5, .pointer t), (6, .pointer s), (15, .slice t15 t15L t15C), (16, .int .i64 t16), (17, .int .i64 t17)] h (l50_played_K3 nx0 K)
theorem l50_played_b0_eq (l : Option Addr) (lL : Nat) (lC : Nat) (h : Hp)  (K : Value → Hp → Prop) : l50_played_b0 l lL lC h  K = (
  New h (.cells #[.slice none 0 0, .slice none 0 0, .int .i64 0] 29) fun b1 h1 =>
  HCalls Tryz.prog 24 #[] h1 fun v1 h2 => ∃ r1 : Option Addr, v1 = .pointer r1 ∧
  New h2 (.cells #[.slice none 0 0, .slice none 0 0, .int .i64 0] 29) fun b2 h3 =>
  cond r1.isNone
  (∃ (a1 : Option Addr) (L1 C1 : Nat), ∃ (a2 : Option Addr) (L2 C2 : Nat), ∃ n1 : Int, cell h3 ⟨b2, 0, none⟩ = some (.slice a1 L1 C1) ∧
  cell h3 ((⟨b2, 0, none⟩ : Addr).add 1) = some (.slice a2 L2 C2) ∧
  cell h3 ((⟨b2, 0, none⟩ : Addr).add 2) = some (.int .i64 n1) ∧
  Wr h3 ⟨b1, 0, none⟩ (.slice a1 L1 C1) fun h4 =>
  Wr h4 ((⟨b1, 0, none⟩ : Addr).add 1) (.slice a2 L2 C2) fun h5 =>
  Wr h5 ((⟨b1, 0, none⟩ : Addr).add 2) (.int .i64 n1) fun h6 =>
  ∃ (r2 : Option Addr) (rL1 rC1 : Nat), ∃ (r3 : Option Addr) (rL2 rC2 : Nat), ∃ r4 : Int, cell h6 ⟨b1, 0, none⟩ = some (.slice r2 rL1 rC1) ∧
  cell h6 ((⟨b1, 0, none⟩ : Addr).add 1) = some (.slice r3 rL2 rC2) ∧
  cell h6 ((⟨b1, 0, none⟩ : Addr).add 2) = some (.int .i64 r4) ∧
  K (.tuple #[.pointer none, .agg #[.slice r2 rL1 rC1, .slice r3 rL2 rC2, .int .i64 r4], .bool false]) h6)
  (LoopVC ((0, ()) : Int × Unit) h3 (fun (nx0 : Int × Unit → Hp → Prop) (s1 : Int × Unit) h7 => l50_played_b1 s1.1 (some ⟨b1, 0, none⟩) r1 (some ⟨b2, 0, none⟩) l lL lC (lL : Int) h7 nx0 K))) := by kernel_rfl
theorem l50_played_b1_eq (t17 : Int) (t3 : Option Addr) (t : Option Addr) (s : Option Addr) (t15 : Option Addr) (t15L : Nat) (t15C : Nat) (t16 : Int) (h : Hp) (nx0 : Int × Unit → Hp → Prop) (K : Value → Hp → Prop) : l50_played_b1 t17 t3 t s t15 t15L t15C t16 h nx0 K = (
  cond (decide (t17 < t16))
  ((0 ≤ t17 ∧ t17 < (t15L : Int)) ∧
  NN t15 fun a3 =>
  ∃ n2 : Int, ∃ n3 : Int, ∃ n4 : Int, ∃ n5 : Int, ∃ n6 : Int, ∃ n7 : Int, ∃ s2 : ByteArray, ∃ (a4 : Option Addr) (L3 C3 : Nat), ∃ (a5 : Option Addr) (L4 C4 : Nat), cell h (a3.add (Int.toNat t17 * 9)) = some (.int .u8 n2) ∧
  cell h ((a3.add (Int.toNat t17 * 9)).add 1) = some (.int .i64 n3) ∧
  cell h ((a3.add (Int.toNat t17 * 9)).add 2) = some (.int .i64 n4) ∧
  cell h ((a3.add (Int.toNat t17 * 9)).add 3) = some (.int .i64 n5) ∧
  cell h ((a3.add (Int.toNat t17 * 9)).add 4) = some (.int .i64 n6) ∧
  cell h ((a3.add (Int.toNat t17 * 9)).add 5) = some (.int .i64 n7) ∧
  cell h ((a3.add (Int.toNat t17 * 9)).add 6) = some (.string s2) ∧
  cell h ((a3.add (Int.toNat t17 * 9)).add 7) = some (.slice a4 L3 C3) ∧
  cell h ((a3.add (Int.toNat t17 * 9)).add 8) = some (.slice a5 L4 C4) ∧
  New h (.cells #[.int .u8 0, .int .i64 0, .int .i64 0, .int .i64 0, .int .i64 0, .int .i64 0, .string (⟨#[]⟩ : ByteArray), .slice none 0 0, .slice none 0 0] 68) fun b3 h8 =>
  Wr h8 ⟨b3, 0, none⟩ (.int .u8 n2) fun h9 =>
  Wr h9 ((⟨b3, 0, none⟩ : Addr).add 1) (.int .i64 n3) fun h10 =>
  Wr h10 ((⟨b3, 0, none⟩ : Addr).add 2) (.int .i64 n4) fun h11 =>
  Wr h11 ((⟨b3, 0, none⟩ : Addr).add 3) (.int .i64 n5) fun h12 =>
  Wr h12 ((⟨b3, 0, none⟩ : Addr).add 4) (.int .i64 n6) fun h13 =>
  Wr h13 ((⟨b3, 0, none⟩ : Addr).add 5) (.int .i64 n7) fun h14 =>
  Wr h14 ((⟨b3, 0, none⟩ : Addr).add 6) (.string s2) fun h15 =>
  Wr h15 ((⟨b3, 0, none⟩ : Addr).add 7) (.slice a4 L3 C3) fun h16 =>
  Wr h16 ((⟨b3, 0, none⟩ : Addr).add 8) (.slice a5 L4 C4) fun h17 =>
  NN s fun a6 =>
  ∃ (a7 : Option Addr) (L5 C5 : Nat), ∃ (a8 : Option Addr) (L6 C6 : Nat), ∃ n8 : Int, cell h17 a6 = some (.slice a7 L5 C5) ∧
  cell h17 (a6.add 1) = some (.slice a8 L6 C6) ∧
  cell h17 (a6.add 2) = some (.int .i64 n8) ∧
  ∃ n9 : Int, ∃ n10 : Int, ∃ n11 : Int, ∃ n12 : Int, ∃ n13 : Int, ∃ n14 : Int, ∃ s3 : ByteArray, ∃ (a9 : Option Addr) (L7 C7 : Nat), ∃ (a10 : Option Addr) (L8 C8 : Nat), cell h17 ⟨b3, 0, none⟩ = some (.int .u8 n9) ∧
  cell h17 ((⟨b3, 0, none⟩ : Addr).add 1) = some (.int .i64 n10) ∧
  cell h17 ((⟨b3, 0, none⟩ : Addr).add 2) = some (.int .i64 n11) ∧
  cell h17 ((⟨b3, 0, none⟩ : Addr).add 3) = some (.int .i64 n12) ∧
  cell h17 ((⟨b3, 0, none⟩ : Addr).add 4) = some (.int .i64 n13) ∧
  cell h17 ((⟨b3, 0, none⟩ : Addr).add 5) = some (.int .i64 n14) ∧
  cell h17 ((⟨b3, 0, none⟩ : Addr).add 6) = some (.string s3) ∧
  cell h17 ((⟨b3, 0, none⟩ : Addr).add 7) = some (.slice a9 L7 C7) ∧
  cell h17 ((⟨b3, 0, none⟩ : Addr).add 8) = some (.slice a10 L8 C8) ∧
  HCalls Tryz.prog 34 #[.pointer t, .agg #[.slice a7 L5 C5, .slice a8 L6 C6, .int .i64 n8], .agg #[.int .u8 n9, .int .i64 n10, .int .i64 n11, .int .i64 n12, .int .i64 n13, .int .i64 n14, .string s3, .slice a9 L7 C7, .slice a10 L8 C8]] h17 fun v2 h18 => ∃ (r5 : Option Addr) (rL3 rC3 : Nat), ∃ (r6 : Option Addr) (rL4 rC4 : Nat), ∃ r7 : Int, ∃ r8 : Bool, v2 = .tuple #[.agg #[.slice r5 rL3 rC3, .slice r6 rL4 rC4, .int .i64 r7], .bool r8] ∧
  New h18 (.cells #[.slice none 0 0, .slice none 0 0, .int .i64 0] 29) fun b4 h19 =>
  Wr h19 ⟨b4, 0, none⟩ (.slice r5 rL3 rC3) fun h20 =>
  Wr h20 ((⟨b4, 0, none⟩ : Addr).add 1) (.slice r6 rL4 rC4) fun h21 =>
  Wr h21 ((⟨b4, 0, none⟩ : Addr).add 2) (.int .i64 r7) fun h22 =>
  cond (!r8)
  (NN s fun a11 =>
  ∃ (a12 : Option Addr) (L9 C9 : Nat), ∃ (a13 : Option Addr) (L10 C10 : Nat), ∃ n15 : Int, cell h22 a11 = some (.slice a12 L9 C9) ∧
  cell h22 (a11.add 1) = some (.slice a13 L10 C10) ∧
  cell h22 (a11.add 2) = some (.int .i64 n15) ∧
  NN t3 fun a14 =>
  Wr h22 a14 (.slice a12 L9 C9) fun h23 =>
  Wr h23 (a14.add 1) (.slice a13 L10 C10) fun h24 =>
  Wr h24 (a14.add 2) (.int .i64 n15) fun h25 =>
  NN t3 fun a15 =>
  ∃ (r9 : Option Addr) (rL5 rC5 : Nat), ∃ (r10 : Option Addr) (rL6 rC6 : Nat), ∃ r11 : Int, cell h25 a15 = some (.slice r9 rL5 rC5) ∧
  cell h25 (a15.add 1) = some (.slice r10 rL6 rC6) ∧
  cell h25 (a15.add 2) = some (.int .i64 r11) ∧
  K (.tuple #[.pointer none, .agg #[.slice r9 rL5 rC5, .slice r10 rL6 rC6, .int .i64 r11], .bool false]) h25)
  (∃ r12 : Int, HCalls Tryz.prog 28 #[.pointer t] h22 (fun v3 h26 => v3 = .int .i64 r12 ∧ h26 = h22) ∧
  ∃ (a16 : Option Addr) (L11 C11 : Nat), cell h22 ⟨b4, 0, none⟩ = some (.slice a16 L11 C11) ∧
  cond (!decide (r12 = (L11 : Int)))
  (NN s fun a17 =>
  ∃ (a18 : Option Addr) (L12 C12 : Nat), ∃ (a19 : Option Addr) (L13 C13 : Nat), ∃ n16 : Int, cell h22 a17 = some (.slice a18 L12 C12) ∧
  cell h22 (a17.add 1) = some (.slice a19 L13 C13) ∧
  cell h22 (a17.add 2) = some (.int .i64 n16) ∧
  NN t3 fun a20 =>
  Wr h22 a20 (.slice a18 L12 C12) fun h27 =>
  Wr h27 (a20.add 1) (.slice a19 L13 C13) fun h28 =>
  Wr h28 (a20.add 2) (.int .i64 n16) fun h29 =>
  NN t3 fun a21 =>
  ∃ (r13 : Option Addr) (rL7 rC7 : Nat), ∃ (r14 : Option Addr) (rL8 rC8 : Nat), ∃ r15 : Int, cell h29 a21 = some (.slice r13 rL7 rC7) ∧
  cell h29 (a21.add 1) = some (.slice r14 rL8 rC8) ∧
  cell h29 (a21.add 2) = some (.int .i64 r15) ∧
  K (.tuple #[.pointer none, .agg #[.slice r13 rL7 rC7, .slice r14 rL8 rC8, .int .i64 r15], .bool false]) h29)
  (l50_played_b2 t3 t s (some ⟨b4, 0, none⟩) t15 t15L t15C t16 t17 h22 nx0 K)))
  (l50_played_b3 t3 t s h  K)) := by kernel_rfl
theorem l50_played_b2_eq (t3 : Option Addr) (t : Option Addr) (s : Option Addr) (next : Option Addr) (t15 : Option Addr) (t15L : Nat) (t15C : Nat) (t16 : Int) (t17 : Int) (h : Hp) (nx0 : Int × Unit → Hp → Prop) (K : Value → Hp → Prop) : l50_played_b2 t3 t s next t15 t15L t15C t16 t17 h nx0 K = (
  NN next fun a22 =>
  ∃ (a23 : Option Addr) (L14 C14 : Nat), ∃ (a24 : Option Addr) (L15 C15 : Nat), ∃ n17 : Int, cell h a22 = some (.slice a23 L14 C14) ∧
  cell h (a22.add 1) = some (.slice a24 L15 C15) ∧
  cell h (a22.add 2) = some (.int .i64 n17) ∧
  NN s fun a25 =>
  Wr h a25 (.slice a23 L14 C14) fun h30 =>
  Wr h30 (a25.add 1) (.slice a24 L15 C15) fun h31 =>
  Wr h31 (a25.add 2) (.int .i64 n17) fun h32 =>
  l50_played_b4 t3 t s t15 t15L t15C t16 t17 h32 nx0 K) := by kernel_rfl
theorem l50_played_b3_eq (t3 : Option Addr) (t : Option Addr) (s : Option Addr) (h : Hp)  (K : Value → Hp → Prop) : l50_played_b3 t3 t s h  K = (
  NN s fun a26 =>
  ∃ (a27 : Option Addr) (L16 C16 : Nat), ∃ (a28 : Option Addr) (L17 C17 : Nat), ∃ n18 : Int, cell h a26 = some (.slice a27 L16 C16) ∧
  cell h (a26.add 1) = some (.slice a28 L17 C17) ∧
  cell h (a26.add 2) = some (.int .i64 n18) ∧
  NN t3 fun a29 =>
  Wr h a29 (.slice a27 L16 C16) fun h33 =>
  Wr h33 (a29.add 1) (.slice a28 L17 C17) fun h34 =>
  Wr h34 (a29.add 2) (.int .i64 n18) fun h35 =>
  NN t3 fun a30 =>
  ∃ (r16 : Option Addr) (rL9 rC9 : Nat), ∃ (r17 : Option Addr) (rL10 rC10 : Nat), ∃ r18 : Int, cell h35 a30 = some (.slice r16 rL9 rC9) ∧
  cell h35 (a30.add 1) = some (.slice r17 rL10 rC10) ∧
  cell h35 (a30.add 2) = some (.int .i64 r18) ∧
  K (.tuple #[.pointer t, .agg #[.slice r16 rL9 rC9, .slice r17 rL10 rC10, .int .i64 r18], .bool true]) h35) := by kernel_rfl
theorem l50_played_b4_eq (t3 : Option Addr) (t : Option Addr) (s : Option Addr) (t15 : Option Addr) (t15L : Nat) (t15C : Nat) (t16 : Int) (t17 : Int) (h : Hp) (nx0 : Int × Unit → Hp → Prop) (K : Value → Hp → Prop) : l50_played_b4 t3 t s t15 t15L t15C t16 t17 h nx0 K = (
  InR (t17 + 1) ∧
  nx0 (t17 + 1, ()) h) := by kernel_rfl
theorem l50_played_call {l : Option Addr} {lL : Nat} {lC : Nat} {h : Hp} {K : Value → Hp → Prop} (hk : l50_played_b0 l lL lC h K) : HCalls Tryz.prog 7 #[.slice l lL lC] h K :=
  calls_of_snd l50_played_an Tryz.func7 (c := bodyOf Tryz.f7) rfl Tryz.ntmps7 (Nat.le_of_ble_eq_true rfl) (snd_3 F_ok F_mixed) hk

/-! ### table_Table_List -/
def table_Table_List_an : Ann := .leaf
def table_Table_List_K0  (K : Value → Hp → Prop) : Exit → Env → Hp → Prop := retK Tryz.prog Tryz.f8.results.toList K
def table_Table_List_b0 (t : Option Addr) (h : Hp)  (K : Value → Hp → Prop) : Prop :=
  sx_1 Tryz.prog F 7 (cp [] (bodyOf Tryz.f8)) (ap [] table_Table_List_an) [(0, .pointer t)] h (table_Table_List_K0  K)
theorem table_Table_List_b0_eq (t : Option Addr) (h : Hp)  (K : Value → Hp → Prop) : table_Table_List_b0 t h  K = (
  cond t.isNone
  (K (.slice none 0 0) h)
  (HCalls Tryz.prog 35 #[.pointer t, .func (.func 36) #[] #[]] h fun v1 h1 => ∃ (r1 : Option Addr) (rL1 rC1 : Nat), v1 = .slice r1 rL1 rC1 ∧
  K (.slice r1 rL1 rC1) h1)) := by kernel_rfl
theorem table_Table_List_call {t : Option Addr} {h : Hp} {K : Value → Hp → Prop} (hk : table_Table_List_b0 t h K) : HCalls Tryz.prog 8 #[.pointer t] h K :=
  calls_of_snd table_Table_List_an Tryz.func8 (c := bodyOf Tryz.f8) rfl Tryz.ntmps8 (Nat.le_of_ble_eq_true rfl) (snd_1 F_ok F_mixed) hk

/-! ### table_Table_ByKey -/
def table_Table_ByKey_an : Ann := .node none (.leaf) (.node none (.leaf) (.node none (.tail 7) (.leaf)))
def table_Table_ByKey_K0  (K : Value → Hp → Prop) : Exit → Env → Hp → Prop := retK Tryz.prog Tryz.f9.results.toList K
def table_Table_ByKey_b0 (t : Option Addr) (fromv : Int) (to : Int) (h : Hp)  (K : Value → Hp → Prop) : Prop :=
  sx_1 Tryz.prog F 23 (cp [] (bodyOf Tryz.f9)) (ap [] table_Table_ByKey_an) [(0, .pointer t), (1, .int .i64 fromv), (2, .int .i64 to)] h (table_Table_ByKey_K0  K)
theorem table_Table_ByKey_b0_eq (t : Option Addr) (fromv : Int) (to : Int) (h : Hp)  (K : Value → Hp → Prop) : table_Table_ByKey_b0 t fromv to h  K = (
  New h (.cells #[.pointer t] 25) fun b1 h1 =>
  ∃ p1 : Option Addr, cell h1 ⟨b1, 0, none⟩ = some (.pointer p1) ∧
  cond p1.isNone
  (K (.tuple #[.slice none 0 0, .int .i64 1]) h1)
  (∃ p2 : Option Addr, cell h1 ⟨b1, 0, none⟩ = some (.pointer p2) ∧
  ∃ p3 : Option Addr, cell h1 ⟨b1, 0, none⟩ = some (.pointer p3) ∧
  NN p3 fun a1 =>
  ∃ (a2 : Option Addr) (L1 C1 : Nat), cell h1 (a1.add 3) = some (.slice a2 L1 C1) ∧
  HCalls Tryz.prog 37 #[.pointer p2, .slice a2 L1 C1, .func (.func 38) #[] #[], .int .i64 fromv, .int .i64 to, .func (.func 39) #[] #[]] h1 fun v1 h2 => ∃ (r1 : Option Addr) (rL1 rC1 : Nat), v1 = .slice r1 rL1 rC1 ∧
  HCalls Tryz.prog 40 #[.slice r1 rL1 rC1, .func (.func 41) #[] #[.pointer (some ⟨b1, 0, none⟩)]] h2 fun v2 h3 => v2 = .tuple #[] ∧
  K (.tuple #[.slice r1 rL1 rC1, .int .i64 0]) h3)) := by kernel_rfl
theorem table_Table_ByKey_call {t : Option Addr} {fromv : Int} {to : Int} {h : Hp} {K : Value → Hp → Prop} (hk : table_Table_ByKey_b0 t fromv to h K) : HCalls Tryz.prog 9 #[.pointer t, .int .i64 fromv, .int .i64 to] h K :=
  calls_of_snd table_Table_ByKey_an Tryz.func9 (c := bodyOf Tryz.f9) rfl Tryz.ntmps9 (Nat.le_of_ble_eq_true rfl) (snd_1 F_ok F_mixed) hk

/-! ### table_Table_ByPlace -/
def table_Table_ByPlace_an : Ann := .leaf
def table_Table_ByPlace_K0  (K : Value → Hp → Prop) : Exit → Env → Hp → Prop := retK Tryz.prog Tryz.f10.results.toList K
def table_Table_ByPlace_b0 (t : Option Addr) (x1 : Int) (x2 : Int) (y1 : Int) (y2 : Int) (h : Hp)  (K : Value → Hp → Prop) : Prop :=
  sx_1 Tryz.prog F 27 (cp [] (bodyOf Tryz.f10)) (ap [] table_Table_ByPlace_an) [(0, .pointer t), (1, .int .i64 x1), (2, .int .i64 x2), (3, .int .i64 y1), (4, .int .i64 y2)] h (table_Table_ByPlace_K0  K)
theorem table_Table_ByPlace_b0_eq (t : Option Addr) (x1 : Int) (x2 : Int) (y1 : Int) (y2 : Int) (h : Hp)  (K : Value → Hp → Prop) : table_Table_ByPlace_b0 t x1 x2 y1 y2 h  K = (
  New h (.cells #[.int .i64 y1] 3) fun b1 h1 =>
  New h1 (.cells #[.int .i64 y2] 3) fun b2 h2 =>
  cond t.isNone
  (K (.tuple #[.slice none 0 0, .int .i64 1]) h2)
  (NN t fun a1 =>
  ∃ (a2 : Option Addr) (L1 C1 : Nat), cell h2 (a1.add 4) = some (.slice a2 L1 C1) ∧
  HCalls Tryz.prog 37 #[.pointer t, .slice a2 L1 C1, .func (.func 43) #[] #[], .int .i64 x1, .int .i64 x2, .func (.func 44) #[] #[.pointer (some ⟨b1, 0, none⟩), .pointer (some ⟨b2, 0, none⟩)]] h2 fun v1 h3 => ∃ (r1 : Option Addr) (rL1 rC1 : Nat), v1 = .slice r1 rL1 rC1 ∧
  HCalls Tryz.prog 45 #[.slice r1 rL1 rC1] h3 fun v2 h4 => v2 = .tuple #[] ∧
  K (.tuple #[.slice r1 rL1 rC1, .int .i64 0]) h4)) := by kernel_rfl
theorem table_Table_ByPlace_call {t : Option Addr} {x1 : Int} {x2 : Int} {y1 : Int} {y2 : Int} {h : Hp} {K : Value → Hp → Prop} (hk : table_Table_ByPlace_b0 t x1 x2 y1 y2 h K) : HCalls Tryz.prog 10 #[.pointer t, .int .i64 x1, .int .i64 x2, .int .i64 y1, .int .i64 y2] h K :=
  calls_of_snd table_Table_ByPlace_an Tryz.func10 (c := bodyOf Tryz.f10) rfl Tryz.ntmps10 (Nat.le_of_ble_eq_true rfl) (snd_1 F_ok F_mixed) hk

/-! ### table_Table_ByName -/
def table_Table_ByName_an : Ann := .leaf
def table_Table_ByName_K0  (K : Value → Hp → Prop) : Exit → Env → Hp → Prop := retK Tryz.prog Tryz.f11.results.toList K
def table_Table_ByName_b0 (t : Option Addr) (part : ByteArray) (h : Hp)  (K : Value → Hp → Prop) : Prop :=
  sx_1 Tryz.prog F 11 (cp [] (bodyOf Tryz.f11)) (ap [] table_Table_ByName_an) [(0, .pointer t), (1, .string part)] h (table_Table_ByName_K0  K)
theorem table_Table_ByName_b0_eq (t : Option Addr) (part : ByteArray) (h : Hp)  (K : Value → Hp → Prop) : table_Table_ByName_b0 t part h  K = (
  New h (.cells #[.string part] 9) fun b1 h1 =>
  cond t.isNone
  (K (.tuple #[.slice none 0 0, .int .i64 1]) h1)
  (HCalls Tryz.prog 35 #[.pointer t, .func (.func 46) #[] #[.pointer (some ⟨b1, 0, none⟩)]] h1 fun v1 h2 => ∃ (r1 : Option Addr) (rL1 rC1 : Nat), v1 = .slice r1 rL1 rC1 ∧
  K (.tuple #[.slice r1 rL1 rC1, .int .i64 0]) h2)) := by kernel_rfl
theorem table_Table_ByName_call {t : Option Addr} {part : ByteArray} {h : Hp} {K : Value → Hp → Prop} (hk : table_Table_ByName_b0 t part h K) : HCalls Tryz.prog 11 #[.pointer t, .string part] h K :=
  calls_of_snd table_Table_ByName_an Tryz.func11 (c := bodyOf Tryz.f11) rfl Tryz.ntmps11 (Nat.le_of_ble_eq_true rfl) (snd_1 F_ok F_mixed) hk

/-! ### table_Table_Weight -/
def table_Table_Weight_an : Ann := .node none (.leaf) (.node none (.leaf) (.node none (.leaf) (.node (some [13, 14]) (.node none (.leaf) (.loop [0, 13, 26, 27] [(14, .int .i64), (28, .int .i64)] (.node none (.leaf) (.node none (.leaf) (.node (some [0, 13, 14, 26, 27, 28]) (.leaf) (.leaf)))))) (.leaf))))
def table_Table_Weight_K0  (K : Value → Hp → Prop) : Exit → Env → Hp → Prop := retK Tryz.prog Tryz.f12.results.toList K
def table_Table_Weight_K1  (K : Value → Hp → Prop) : Exit → Env → Hp → Prop := thenE (fun env h => sx_2 Tryz.prog F 46 (cp [1, 1, 1, 1] (bodyOf Tryz.f12)) (ap [1, 1, 1, 1] table_Table_Weight_an) (rs [13, 14] env) h (table_Table_Weight_K0  K)) (table_Table_Weight_K0  K)
def table_Table_Weight_K2  (K : Value → Hp → Prop) : Exit → Env → Hp → Prop := blockE 0 (table_Table_Weight_K1  K)
def table_Table_Weight_K3 (nx0 : Int × Int × Unit → Hp → Prop) (K : Value → Hp → Prop) : Exit → Env → Hp → Prop := thenE (fun env h => getV [(14, .int .i64), (28, .int .i64)] env fun s => nx0 s h) (table_Table_Weight_K2  K)
def table_Table_Weight_b0 (t : Option Addr) (x1 : Int) (x2 : Int) (y1 : Int) (y2 : Int) (h : Hp)  (K : Value → Hp → Prop) : Prop :=
  sx_3 Tryz.prog F 46 (cp [] (bodyOf Tryz.f12)) (ap [] table_Table_Weight_an) [(0, .pointer t), (1, .int .i64 x1), (2, .int .i64 x2), (3, .int .i64 y1), (4, .int .i64 y2)] h (table_Table_Weight_K0  K)
def table_Table_Weight_b1 (sum : Int) (t28 : Int) (t : Option Addr) (e : Int) (t26 : Option Addr) (t26L : Nat) (t26C : Nat) (t27 : Int) (h : Hp) (nx0 : Int × Int × Unit → Hp → Prop) (K : Value → Hp → Prop) : Prop :=
  sx_2 Tryz.prog F 46 (cp [1, 1, 1, 0, 1, 2, 2] (bodyOf Tryz.f12)) (ap [1, 1, 1, 0, 1, 2] table_Table_Weight_an) [(14, .int .i64 sum), (28, .int .i64 t28), (0, .pointer t), (13, .int .i64 e), (26, .slice t26 t26L t26C), (27, .int .i64 t27)] h (table_Table_Weight_K3 nx0 K)
def table_Table_Weight_b2 (t : Option Addr) (e : Int) (sum : Int) (t26 : Option Addr) (t26L : Nat) (t26C : Nat) (t27 : Int) (t28 : Int) (h : Hp) (nx0 : Int × Int × Unit → Hp → Prop) (K : Value → Hp → Prop) : Prop :=
  sx_1 Tryz.prog F 46 (cp [1, 1, 1, 0, 1, 2, 2, 1, 1, 1] (bodyOf Tryz.f12)) (ap [1, 1, 1, 0, 1, 2, 1, 1, 1] table_Table_Weight_an) [(0, .pointer t), (13, .int .i64 e), (14, .int .i64 sum), (26, .slice t26 t26L t26C), (27, .int .i64 t27), (28, .int .i64 t28)] h (table_Table_Weight_K3 nx0 K)
def table_Table_Weight_b3 (e : Int) (sum : Int) (h : Hp)  (K : Value → Hp → Prop) : Prop :=
  sx_2 Tryz.prog F 46 (cp [1, 1, 1, 1] (bodyOf Tryz.f12)) (ap [1, 1, 1, 1] table_Table_Weight_an) [(13, .int .i64 e), (14, .int .i64 sum)] h (table_Table_Weight_K0  K)
theorem table_Table_Weight_b0_eq (t : Option Addr) (x1 : Int) (x2 : Int) (y1 : Int) (y2 : Int) (h : Hp)  (K : Value → Hp → Prop) : table_Table_Weight_b0 t x1 x2 y1 y2 h  K = (
  HCalls Tryz.prog 10 #[.pointer t, .int .i64 x1, .int .i64 x2, .int .i64 y1, .int .i64 y2] h fun v1 h1 => ∃ (r1 : Option Addr) (rL1 rC1 : Nat), ∃ r2 : Int, v1 = .tuple #[.slice r1 rL1 rC1, .int .i64 r2] ∧
  LoopVC ((0, 0, ()) : Int × Int × Unit) h1 (fun (nx0 : Int × Int × Unit → Hp → Prop) (s1 : Int × Int × Unit) h2 => table_Table_Weight_b1 s1.1 s1.2.1 t r2 r1 rL1 rC1 (rL1 : Int) h2 nx0 K)) := by kernel_rfl
theorem table_Table_Weight_b1_eq (sum : Int) (t28 : Int) (t : Option Addr) (e : Int) (t26 : Option Addr) (t26L : Nat) (t26C : Nat) (t27 : Int) (h : Hp) (nx0 : Int × Int × Unit → Hp → Prop) (K : Value → Hp → Prop) : table_Table_Weight_b1 sum t28 t e t26 t26L t26C t27 h nx0 K = (
  cond (decide (t28 < t27))
  ((0 ≤ t28 ∧ t28 < (t26L : Int)) ∧
  NN t26 fun a1 =>
  ∃ n1 : Int, cell h (a1.add (Int.toNat t28 * 1)) = some (.int .i64 n1) ∧
  NN t fun a2 =>
  ∃ v2 : Value, cell h a2 = some (v2) ∧
  lookV Tryz.prog 78 v2 (.int .i64 n1) false h fun v3 => ∃ r3 : Option Addr, v3 = .pointer r3 ∧
  NN r3 fun a3 =>
  ∃ n2 : Int, cell h (a3.add 3) = some (.int .i64 n2) ∧
  InR (sum + n2) ∧
  table_Table_Weight_b2 t e (sum + n2) t26 t26L t26C t27 t28 h nx0 K)
  (table_Table_Weight_b3 e sum h  K)) := by kernel_rfl
theorem table_Table_Weight_b2_eq (t : Option Addr) (e : Int) (sum : Int) (t26 : Option Addr) (t26L : Nat) (t26C : Nat) (t27 : Int) (t28 : Int) (h : Hp) (nx0 : Int × Int × Unit → Hp → Prop) (K : Value → Hp → Prop) : table_Table_Weight_b2 t e sum t26 t26L t26C t27 t28 h nx0 K = (
  InR (t28 + 1) ∧
  nx0 (sum, t28 + 1, ()) h) := by kernel_rfl
theorem table_Table_Weight_b3_eq (e : Int) (sum : Int) (h : Hp)  (K : Value → Hp → Prop) : table_Table_Weight_b3 e sum h  K = (
  K (.tuple #[.int .i64 sum, .int .i64 e]) h) := by kernel_rfl
theorem table_Table_Weight_call {t : Option Addr} {x1 : Int} {x2 : Int} {y1 : Int} {y2 : Int} {h : Hp} {K : Value → Hp → Prop} (hk : table_Table_Weight_b0 t x1 x2 y1 y2 h K) : HCalls Tryz.prog 12 #[.pointer t, .int .i64 x1, .int .i64 x2, .int .i64 y1, .int .i64 y2] h K :=
  calls_of_snd table_Table_Weight_an Tryz.func12 (c := bodyOf Tryz.f12) rfl Tryz.ntmps12 (Nat.le_of_ble_eq_true rfl) (snd_3 F_ok F_mixed) hk

/-! ### slices_Max_Sapi_Errno_api_Errno -/
def slices_Max_Sapi_Errno_api_Errno_an : Ann := .node none (.leaf) (.node (some [0]) (.leaf) (.node none (.leaf) (.node (some [3]) (.node none (.leaf) (.loop [0] [(3, .int .i64), (4, .int .i64)] (.node none (.leaf) (.node (some [0, 3, 4]) (.leaf) (.leaf))))) (.leaf))))
def slices_Max_Sapi_Errno_api_Errno_K0  (K : Value → Hp → Prop) : Exit → Env → Hp → Prop := retK Tryz.prog Tryz.f13.results.toList K
def slices_Max_Sapi_Errno_api_Errno_K1  (K : Value → Hp → Prop) : Exit → Env → Hp → Prop := thenE (fun env h => sx_2 Tryz.prog F 25 (cp [1, 1, 1, 1] (bodyOf Tryz.f13)) (ap [1, 1, 1, 1] slices_Max_Sapi_Errno_api_Errno_an) (rs [3] env) h (slices_Max_Sapi_Errno_api_Errno_K0  K)) (slices_Max_Sapi_Errno_api_Errno_K0  K)
def slices_Max_Sapi_Errno_api_Errno_K2  (K : Value → Hp → Prop) : Exit → Env → Hp → Prop := blockE 0 (slices_Max_Sapi_Errno_api_Errno_K1  K)
def slices_Max_Sapi_Errno_api_Errno_K3 (nx0 : Int × Int × Unit → Hp → Prop) (K : Value → Hp → Prop) : Exit → Env → Hp → Prop := thenE (fun env h => getV [(3, .int .i64), (4, .int .i64)] env fun s => nx0 s h) (slices_Max_Sapi_Errno_api_Errno_K2  K)
def slices_Max_Sapi_Errno_api_Errno_b0 (x : Option Addr) (xL : Nat) (xC : Nat) (h : Hp)  (K : Value → Hp → Prop) : Prop :=
  sx_4 Tryz.prog F 25 (cp [] (bodyOf Tryz.f13)) (ap [] slices_Max_Sapi_Errno_api_Errno_an) [(0, .slice x xL xC)] h (slices_Max_Sapi_Errno_api_Errno_K0  K)
def slices_Max_Sapi_Errno_api_Errno_b1 (x : Option Addr) (xL : Nat) (xC : Nat) (h : Hp)  (K : Value → Hp → Prop) : Prop :=
  sx_3 Tryz.prog F 25 (cp [1, 1] (bodyOf Tryz.f13)) (ap [1, 1] slices_Max_Sapi_Errno_api_Errno_an) [(0, .slice x xL xC)] h (slices_Max_Sapi_Errno_api_Errno_K0  K)
def slices_Max_Sapi_Errno_api_Errno_b2 (m : Int) (i : Int) (x : Option Addr) (xL : Nat) (xC : Nat) (h : Hp) (nx0 : Int × Int × Unit → Hp → Prop) (K : Value → Hp → Prop) : Prop :=
  sx_2 Tryz.prog F 25 (cp [1, 1, 1, 0, 1, 2, 2] (bodyOf Tryz.f13)) (ap [1, 1, 1, 0, 1, 2] slices_Max_Sapi_Errno_api_Errno_an) [(3, .int .i64 m), (4, .int .i64 i), (0, .slice x xL xC)] h (slices_Max_Sapi_Errno_api_Errno_K3 nx0 K)
def slices_Max_Sapi_Errno_api_Errno_b3 (x : Option Addr) (xL : Nat) (xC : Nat) (m : Int) (i : Int) (h : Hp) (nx0 : Int × Int × Unit → Hp → Prop) (K : Value → Hp → Prop) : Prop :=
  sx_1 Tryz.prog F 25 (cp [1, 1, 1, 0, 1, 2, 2, 1, 1] (bodyOf Tryz.f13)) (ap [1, 1, 1, 0, 1, 2, 1, 1] slices_Max_Sapi_Errno_api_Errno_an) [(0, .slice x xL xC), (3, .int .i64 m), (4, .int .i64 i)] h (slices_Max_Sapi_Errno_api_Errno_K3 nx0 K)
def slices_Max_Sapi_Errno_api_Errno_b4 (m : Int) (h : Hp)  (K : Value → Hp → Prop) : Prop :=
  sx_2 Tryz.prog F 25 (cp [1, 1, 1, 1] (bodyOf Tryz.f13)) (ap [1, 1, 1, 1] slices_Max_Sapi_Errno_api_Errno_an) [(3, .int .i64 m)] h (slices_Max_Sapi_Errno_api_Errno_K0  K)
theorem slices_Max_Sapi_Errno_api_Errno_b0_eq (x : Option Addr) (xL : Nat) (xC : Nat) (h : Hp)  (K : Value → Hp → Prop) : slices_Max_Sapi_Errno_api_Errno_b0 x xL xC h  K = (
  cond (decide ((xL : Int) < 1))
  (hw Tryz.prog (Instr.makeInterface 9 (.string (⟨#[115, 108, 105, 99, 101, 115, 46, 77, 97, 120, 58, 32, 101, 109, 112, 116, 121, 32, 108, 105, 115, 116]⟩ : ByteArray))) h fun v1 h1 =>
  False)
  (slices_Max_Sapi_Errno_api_Errno_b1 x xL xC h  K)) := by kernel_rfl
theorem slices_Max_Sapi_Errno_api_Errno_b1_eq (x : Option Addr) (xL : Nat) (xC : Nat) (h : Hp)  (K : Value → Hp → Prop) : slices_Max_Sapi_Errno_api_Errno_b1 x xL xC h  K = (
  (0 ≤ (0 : Int) ∧ (0 : Int) < (xL : Int)) ∧
  NN x fun a1 =>
  ∃ n1 : Int, cell h (a1.add (Int.toNat (0 : Int) * 1)) = some (.int .i64 n1) ∧
  LoopVC ((n1, 1, ()) : Int × Int × Unit) h (fun (nx0 : Int × Int × Unit → Hp → Prop) (s1 : Int × Int × Unit) h2 => slices_Max_Sapi_Errno_api_Errno_b2 s1.1 s1.2.1 x xL xC h2 nx0 K)) := by kernel_rfl
theorem slices_Max_Sapi_Errno_api_Errno_b2_eq (m : Int) (i : Int) (x : Option Addr) (xL : Nat) (xC : Nat) (h : Hp) (nx0 : Int × Int × Unit → Hp → Prop) (K : Value → Hp → Prop) : slices_Max_Sapi_Errno_api_Errno_b2 m i x xL xC h nx0 K = (
  cond (decide (i < (xL : Int)))
  ((0 ≤ i ∧ i < (xL : Int)) ∧
  NN x fun a2 =>
  ∃ n2 : Int, cell h (a2.add (Int.toNat i * 1)) = some (.int .i64 n2) ∧
  slices_Max_Sapi_Errno_api_Errno_b3 x xL xC (if m < n2 then n2 else m) i h nx0 K)
  (slices_Max_Sapi_Errno_api_Errno_b4 m h  K)) := by kernel_rfl
theorem slices_Max_Sapi_Errno_api_Errno_b3_eq (x : Option Addr) (xL : Nat) (xC : Nat) (m : Int) (i : Int) (h : Hp) (nx0 : Int × Int × Unit → Hp → Prop) (K : Value → Hp → Prop) : slices_Max_Sapi_Errno_api_Errno_b3 x xL xC m i h nx0 K = (
  InR (i + 1) ∧
  nx0 (m, i + 1, ()) h) := by kernel_rfl
theorem slices_Max_Sapi_Errno_api_Errno_b4_eq (m : Int) (h : Hp)  (K : Value → Hp → Prop) : slices_Max_Sapi_Errno_api_Errno_b4 m h  K = (
  K (.int .i64 m) h) := by kernel_rfl
theorem slices_Max_Sapi_Errno_api_Errno_call {x : Option Addr} {xL : Nat} {xC : Nat} {h : Hp} {K : Value → Hp → Prop} (hk : slices_Max_Sapi_Errno_api_Errno_b0 x xL xC h K) : HCalls Tryz.prog 13 #[.slice x xL xC] h K :=
  calls_of_snd slices_Max_Sapi_Errno_api_Errno_an Tryz.func13 (c := bodyOf Tryz.f13) rfl Tryz.ntmps13 (Nat.le_of_ble_eq_true rfl) (snd_4 F_ok F_mixed) hk

/-! ### slices_Sorted_int -/
def slices_Sorted_int_an : Ann := .leaf
def slices_Sorted_int_K0  (K : Value → Hp → Prop) : Exit → Env → Hp → Prop := retK Tryz.prog Tryz.f14.results.toList K
def slices_Sorted_int_b0 (seq : Value) (h : Hp)  (K : Value → Hp → Prop) : Prop :=
  sx_1 Tryz.prog F 9 (cp [] (bodyOf Tryz.f14)) (ap [] slices_Sorted_int_an) [(0, seq)] h (slices_Sorted_int_K0  K)
theorem slices_Sorted_int_b0_eq (seq : Value) (h : Hp)  (K : Value → Hp → Prop) : slices_Sorted_int_b0 seq h  K = (
  HCalls Tryz.prog 48 #[seq] h fun v1 h1 => ∃ (r1 : Option Addr) (rL1 rC1 : Nat), v1 = .slice r1 rL1 rC1 ∧
  HCalls Tryz.prog 45 #[.slice r1 rL1 rC1] h1 fun v2 h2 => v2 = .tuple #[] ∧
  K (.slice r1 rL1 rC1) h2) := by kernel_rfl
theorem slices_Sorted_int_call {seq : Value} {h : Hp} {K : Value → Hp → Prop} (hk : slices_Sorted_int_b0 seq h K) : HCalls Tryz.prog 14 #[seq] h K :=
  calls_of_snd slices_Sorted_int_an Tryz.func14 (c := bodyOf Tryz.f14) rfl Tryz.ntmps14 (Nat.le_of_ble_eq_true rfl) (snd_1 F_ok F_mixed) hk

/-! ### slices_Values_Sint_int -/
def slices_Values_Sint_int_an : Ann := .leaf
def slices_Values_Sint_int_K0  (K : Value → Hp → Prop) : Exit → Env → Hp → Prop := retK Tryz.prog Tryz.f15.results.toList K
def slices_Values_Sint_int_b0 (s : Option Addr) (sL : Nat) (sC : Nat) (h : Hp)  (K : Value → Hp → Prop) : Prop :=
  sx_1 Tryz.prog F 4 (cp [] (bodyOf Tryz.f15)) (ap [] slices_Values_Sint_int_an) [(0, .slice s sL sC)] h (slices_Values_Sint_int_K0  K)
theorem slices_Values_Sint_int_b0_eq (s : Option Addr) (sL : Nat) (sC : Nat) (h : Hp)  (K : Value → Hp → Prop) : slices_Values_Sint_int_b0 s sL sC h  K = (
  New h (.cells #[.slice s sL sC] 26) fun b1 h1 =>
  K (.func (.func 49) #[] #[.pointer (some ⟨b1, 0, none⟩)]) h1) := by kernel_rfl
theorem slices_Values_Sint_int_call {s : Option Addr} {sL : Nat} {sC : Nat} {h : Hp} {K : Value → Hp → Prop} (hk : slices_Values_Sint_int_b0 s sL sC h K) : HCalls Tryz.prog 15 #[.slice s sL sC] h K :=
  calls_of_snd slices_Values_Sint_int_an Tryz.func15 (c := bodyOf Tryz.f15) rfl Tryz.ntmps15 (Nat.le_of_ble_eq_true rfl) (snd_1 F_ok F_mixed) hk

/-! ### slices_Concat_Sint_int -/
def slices_Concat_Sint_int_an : Ann := .node none (.leaf) (.node none (.leaf) (.node (some [0, 3]) (.node none (.leaf) (.loop [0, 9, 10] [(3, .int .i64), (11, .int .i64)] (.node none (.leaf) (.node none (.leaf) (.node (some [0, 3, 9, 10, 11]) (.leaf) (.leaf)))))) (.node none (.leaf) (.node (some [6]) (.node none (.leaf) (.loop [25, 26] [(6, .slice), (27, .int .i64)] (.node none (.leaf) (.node none (.leaf) (.node (some [6, 25, 26, 27]) (.leaf) (.leaf)))))) (.leaf)))))
def slices_Concat_Sint_int_K0  (K : Value → Hp → Prop) : Exit → Env → Hp → Prop := retK Tryz.prog Tryz.f16.results.toList K
def slices_Concat_Sint_int_K1  (K : Value → Hp → Prop) : Exit → Env → Hp → Prop := thenE (fun env h => sx_3 Tryz.prog F 36 (cp [1, 1, 1] (bodyOf Tryz.f16)) (ap [1, 1, 1] slices_Concat_Sint_int_an) (rs [0, 3] env) h (slices_Concat_Sint_int_K0  K)) (slices_Concat_Sint_int_K0  K)
def slices_Concat_Sint_int_K2  (K : Value → Hp → Prop) : Exit → Env → Hp → Prop := blockE 0 (slices_Concat_Sint_int_K1  K)
def slices_Concat_Sint_int_K3 (nx0 : Int × Int × Unit → Hp → Prop) (K : Value → Hp → Prop) : Exit → Env → Hp → Prop := thenE (fun env h => getV [(3, .int .i64), (11, .int .i64)] env fun s => nx0 s h) (slices_Concat_Sint_int_K2  K)
def slices_Concat_Sint_int_K4  (K : Value → Hp → Prop) : Exit → Env → Hp → Prop := thenE (fun env h => sx_2 Tryz.prog F 36 (cp [1, 1, 1, 1, 1] (bodyOf Tryz.f16)) (ap [1, 1, 1, 1, 1] slices_Concat_Sint_int_an) (rs [6] env) h (slices_Concat_Sint_int_K0  K)) (slices_Concat_Sint_int_K0  K)
def slices_Concat_Sint_int_K5  (K : Value → Hp → Prop) : Exit → Env → Hp → Prop := blockE 2 (slices_Concat_Sint_int_K4  K)
def slices_Concat_Sint_int_K6 (nx0 : (Option Addr × Nat × Nat) × Int × Unit → Hp → Prop) (K : Value → Hp → Prop) : Exit → Env → Hp → Prop := thenE (fun env h => getV [(6, .slice), (27, .int .i64)] env fun s => nx0 s h) (slices_Concat_Sint_int_K5  K)
def slices_Concat_Sint_int_b0 (slices : Option Addr) (slicesL : Nat) (slicesC : Nat) (h : Hp)  (K : Value → Hp → Prop) : Prop :=
  sx_4 Tryz.prog F 36 (cp [] (bodyOf Tryz.f16)) (ap [] slices_Concat_Sint_int_an) [(0, .slice slices slicesL slicesC)] h (slices_Concat_Sint_int_K0  K)
def slices_Concat_Sint_int_b1 (size : Int) (t11 : Int) (slices : Option Addr) (slicesL : Nat) (slicesC : Nat) (t9 : Option Addr) (t9L : Nat) (t9C : Nat) (t10 : Int) (h : Hp) (nx0 : Int × Int × Unit → Hp → Prop) (K : Value → Hp → Prop) : Prop :=
  sx_3 Tryz.prog F 36 (cp [1, 1, 0, 1, 2, 2] (bodyOf Tryz.f16)) (ap [1, 1, 0, 1, 2] slices_Concat_Sint_int_an) [(3, .int .i64 size), (11, .int .i64 t11), (0, .slice slices slicesL slicesC), (9, .slice t9 t9L t9C), (10, .int .i64 t10)] h (slices_Concat_Sint_int_K3 nx0 K)
def slices_Concat_Sint_int_b2 (slices : Option Addr) (slicesL : Nat) (slicesC : Nat) (size : Int) (t9 : Option Addr) (t9L : Nat) (t9C : Nat) (t10 : Int) (t11 : Int) (h : Hp) (nx0 : Int × Int × Unit → Hp → Prop) (K : Value → Hp → Prop) : Prop :=
  sx_2 Tryz.prog F 36 (cp [1, 1, 0, 1, 2, 2, 1, 1, 1] (bodyOf Tryz.f16)) (ap [1, 1, 0, 1, 2, 1, 1, 1] slices_Concat_Sint_int_an) [(0, .slice slices slicesL slicesC), (3, .int .i64 size), (9, .slice t9 t9L t9C), (10, .int .i64 t10), (11, .int .i64 t11)] h (slices_Concat_Sint_int_K3 nx0 K)
def slices_Concat_Sint_int_b3 (slices : Option Addr) (slicesL : Nat) (slicesC : Nat) (size : Int) (h : Hp)  (K : Value → Hp → Prop) : Prop :=
  sx_3 Tryz.prog F 36 (cp [1, 1, 1] (bodyOf Tryz.f16)) (ap [1, 1, 1] slices_Concat_Sint_int_an) [(0, .slice slices slicesL slicesC), (3, .int .i64 size)] h (slices_Concat_Sint_int_K0  K)
def slices_Concat_Sint_int_b4 (newslice : Option Addr) (newsliceL : Nat) (newsliceC : Nat) (t27 : Int) (t25 : Option Addr) (t25L : Nat) (t25C : Nat) (t26 : Int) (h : Hp) (nx0 : (Option Addr × Nat × Nat) × Int × Unit → Hp → Prop) (K : Value → Hp → Prop) : Prop :=
  sx_2 Tryz.prog F 36 (cp [1, 1, 1, 1, 0, 1, 2, 2] (bodyOf Tryz.f16)) (ap [1, 1, 1, 1, 0, 1, 2] slices_Concat_Sint_int_an) [(6, .slice newslice newsliceL newsliceC), (27, .int .i64 t27), (25, .slice t25 t25L t25C), (26, .int .i64 t26)] h (slices_Concat_Sint_int_K6 nx0 K)
def slices_Concat_Sint_int_b5 (newslice : Option Addr) (newsliceL : Nat) (newsliceC : Nat) (t25 : Option Addr) (t25L : Nat) (t25C : Nat) (t26 : Int) (t27 : Int) (h : Hp) (nx0 : (Option Addr × Nat × Nat) × Int × Unit → Hp → Prop) (K : Value → Hp → Prop) : Prop :=
  sx_1 Tryz.prog F 36 (cp [1, 1, 1, 1, 0, 1, 2, 2, 1, 1, 1] (bodyOf Tryz.f16)) (ap [1, 1, 1, 1, 0, 1, 2, 1, 1, 1] slices_Concat_Sint_int_an) [(6, .slice newslice newsliceL newsliceC), (25, .slice t25 t25L t25C), (26, .int .i64 t26), (27, .int .i64 t27)] h (slices_Concat_Sint_int_K6 nx0 K)
def slices_Concat_Sint_int_b6 (newslice : Option Addr) (newsliceL : Nat) (newsliceC : Nat) (h : Hp)  (K : Value → Hp → Prop) : Prop :=
  sx_2 Tryz.prog F 36 (cp [1, 1, 1, 1, 1] (bodyOf Tryz.f16)) (ap [1, 1, 1, 1, 1] slices_Concat_Sint_int_an) [(6, .slice newslice newsliceL newsliceC)] h (slices_Concat_Sint_int_K0  K)
theorem slices_Concat_Sint_int_b0_eq (slices : Option Addr) (slicesL : Nat) (slicesC : Nat) (h : Hp)  (K : Value → Hp → Prop) : slices_Concat_Sint_int_b0 slices slicesL slicesC h  K = (
  LoopVC ((0, 0, ()) : Int × Int × Unit) h (fun (nx0 : Int × Int × Unit → Hp → Prop) (s1 : Int × Int × Unit) h1 => slices_Concat_Sint_int_b1 s1.1 s1.2.1 slices slicesL slicesC slices slicesL slicesC (slicesL : Int) h1 nx0 K)) := by kernel_rfl
theorem slices_Concat_Sint_int_b1_eq (size : Int) (t11 : Int) (slices : Option Addr) (slicesL : Nat) (slicesC : Nat) (t9 : Option Addr) (t9L : Nat) (t9C : Nat) (t10 : Int) (h : Hp) (nx0 : Int × Int × Unit → Hp → Prop) (K : Value → Hp → Prop) : slices_Concat_Sint_int_b1 size t11 slices slicesL slicesC t9 t9L t9C t10 h nx0 K = (
  cond (decide (t11 < t10))
  ((0 ≤ t11 ∧ t11 < (t9L : Int)) ∧
  NN t9 fun a1 =>
  ∃ (a2 : Option Addr) (L1 C1 : Nat), cell h (a1.add (Int.toNat t11 * 1)) = some (.slice a2 L1 C1) ∧
  InR (size + (L1 : Int)) ∧
  cond (decide ((size + (L1 : Int)) < 0))
  (hw Tryz.prog (Instr.makeInterface 9 (.string (⟨#[108, 101, 110, 32, 111, 117, 116, 32, 111, 102, 32, 114, 97, 110, 103, 101]⟩ : ByteArray))) h fun v1 h2 =>
  False)
  (slices_Concat_Sint_int_b2 slices slicesL slicesC (size + (L1 : Int)) t9 t9L t9C t10 t11 h nx0 K))
  (slices_Concat_Sint_int_b3 slices slicesL slicesC size h  K)) := by kernel_rfl
theorem slices_Concat_Sint_int_b2_eq (slices : Option Addr) (slicesL : Nat) (slicesC : Nat) (size : Int) (t9 : Option Addr) (t9L : Nat) (t9C : Nat) (t10 : Int) (t11 : Int) (h : Hp) (nx0 : Int × Int × Unit → Hp → Prop) (K : Value → Hp → Prop) : slices_Concat_Sint_int_b2 slices slicesL slicesC size t9 t9L t9C t10 t11 h nx0 K = (
  InR (t11 + 1) ∧
  nx0 (size, t11 + 1, ()) h) := by kernel_rfl
theorem slices_Concat_Sint_int_b3_eq (slices : Option Addr) (slicesL : Nat) (slicesC : Nat) (size : Int) (h : Hp)  (K : Value → Hp → Prop) : slices_Concat_Sint_int_b3 slices slicesL slicesC size h  K = (
  HCalls Tryz.prog 50 #[.slice none 0 0, .int .i64 size] h fun v2 h3 => ∃ (r1 : Option Addr) (rL1 rC1 : Nat), v2 = .slice r1 rL1 rC1 ∧
  LoopVC (((r1, rL1, rC1), 0, ()) : (Option Addr × Nat × Nat) × Int × Unit) h3 (fun (nx0 : (Option Addr × Nat × Nat) × Int × Unit → Hp → Prop) (s2 : (Option Addr × Nat × Nat) × Int × Unit) h4 => slices_Concat_Sint_int_b4 s2.1.1 s2.1.2.1 s2.1.2.2 s2.2.1 slices slicesL slicesC (slicesL : Int) h4 nx0 K)) := by kernel_rfl
theorem slices_Concat_Sint_int_b4_eq (newslice : Option Addr) (newsliceL : Nat) (newsliceC : Nat) (t27 : Int) (t25 : Option Addr) (t25L : Nat) (t25C : Nat) (t26 : Int) (h : Hp) (nx0 : (Option Addr × Nat × Nat) × Int × Unit → Hp → Prop) (K : Value → Hp → Prop) : slices_Concat_Sint_int_b4 newslice newsliceL newsliceC t27 t25 t25L t25C t26 h nx0 K = (
  cond (decide (t27 < t26))
  ((0 ≤ t27 ∧ t27 < (t25L : Int)) ∧
  NN t25 fun a3 =>
  ∃ (a4 : Option Addr) (L2 C2 : Nat), cell h (a3.add (Int.toNat t27 * 1)) = some (.slice a4 L2 C2) ∧
  appendV Tryz.prog 26 26 (.slice newslice newsliceL newsliceC) (.slice a4 L2 C2) h (slK fun a5 l1 c1 h5 =>
  slices_Concat_Sint_int_b5 a5 l1 c1 t25 t25L t25C t26 t27 h5 nx0 K))
  (slices_Concat_Sint_int_b6 newslice newsliceL newsliceC h  K)) := by kernel_rfl
theorem slices_Concat_Sint_int_b5_eq (newslice : Option Addr) (newsliceL : Nat) (newsliceC : Nat) (t25 : Option Addr) (t25L : Nat) (t25C : Nat) (t26 : Int) (t27 : Int) (h : Hp) (nx0 : (Option Addr × Nat × Nat) × Int × Unit → Hp → Prop) (K : Value → Hp → Prop) : slices_Concat_Sint_int_b5 newslice newsliceL newsliceC t25 t25L t25C t26 t27 h nx0 K = (
  InR (t27 + 1) ∧
  nx0 ((newslice, newsliceL, newsliceC), t27 + 1, ()) h) := by kernel_rfl
theorem slices_Concat_Sint_int_b6_eq (newslice : Option Addr) (newsliceL : Nat) (newsliceC : Nat) (h : Hp)  (K : Value → Hp → Prop) : slices_Concat_Sint_int_b6 newslice newsliceL newsliceC h  K = (
  K (.slice newslice newsliceL newsliceC) h) := by kernel_rfl
theorem slices_Concat_Sint_int_call {slices : Option Addr} {slicesL : Nat} {slicesC : Nat} {h : Hp} {K : Value → Hp → Prop} (hk : slices_Concat_Sint_int_b0 slices slicesL slicesC h K) : HCalls Tryz.prog 16 #[.slice slices slicesL slicesC] h K :=
  calls_of_snd slices_Concat_Sint_int_an Tryz.func16 (c := bodyOf Tryz.f16) rfl Tryz.ntmps16 (Nat.le_of_ble_eq_true rfl) (snd_4 F_ok F_mixed) hk

/-! ### EqI -/
def EqI_an : Ann := .node none (.leaf) (.node none (.leaf) (.node (some []) (.node none (.leaf) (.loop [0, 1, 12] [(13, .int .i64)] (.node none (.leaf) (.node none (.leaf) (.node (some [0, 1, 12, 13]) (.leaf) (.leaf)))))) (.leaf)))
def EqI_K0  (K : Value → Hp → Prop) : Exit → Env → Hp → Prop := retK Tryz.prog Tryz.f17.results.toList K
def EqI_K1  (K : Value → Hp → Prop) : Exit → Env → Hp → Prop := thenE (fun env h => sx_2 Tryz.prog F 26 (cp [1, 1, 1] (bodyOf Tryz.f17)) (ap [1, 1, 1] EqI_an) (rs [] env) h (EqI_K0  K)) (EqI_K0  K)
def EqI_K2  (K : Value → Hp → Prop) : Exit → Env → Hp → Prop := blockE 0 (EqI_K1  K)
def EqI_K3 (nx0 : Int × Unit → Hp → Prop) (K : Value → Hp → Prop) : Exit → Env → Hp → Prop := thenE (fun env h => getV [(13, .int .i64)] env fun s => nx0 s h) (EqI_K2  K)
def EqI_b0 (s1 : Option Addr) (s1L : Nat) (s1C : Nat) (s2 : Option Addr) (s2L : Nat) (s2C : Nat) (h : Hp)  (K : Value → Hp → Prop) : Prop :=
  sx_3 Tryz.prog F 26 (cp [] (bodyOf Tryz.f17)) (ap [] EqI_an) [(0, .slice s1 s1L s1C), (1, .slice s2 s2L s2C)] h (EqI_K0  K)
def EqI_b1 (t13 : Int) (s1 : Option Addr) (s1L : Nat) (s1C : Nat) (s2 : Option Addr) (s2L : Nat) (s2C : Nat) (t12 : Int) (h : Hp) (nx0 : Int × Unit → Hp → Prop) (K : Value → Hp → Prop) : Prop :=
  sx_2 Tryz.prog F 26 (cp [1, 1, 0, 1, 2, 2] (bodyOf Tryz.f17)) (ap [1, 1, 0, 1, 2] EqI_an) [(13, .int .i64 t13), (0, .slice s1 s1L s1C), (1, .slice s2 s2L s2C), (12, .int .i64 t12)] h (EqI_K3 nx0 K)
def EqI_b2 (s1 : Option Addr) (s1L : Nat) (s1C : Nat) (s2 : Option Addr) (s2L : Nat) (s2C : Nat) (t12 : Int) (t13 : Int) (h : Hp) (nx0 : Int × Unit → Hp → Prop) (K : Value → Hp → Prop) : Prop :=
  sx_1 Tryz.prog F 26 (cp [1, 1, 0, 1, 2, 2, 1, 1, 1] (bodyOf Tryz.f17)) (ap [1, 1, 0, 1, 2, 1, 1, 1] EqI_an) [(0, .slice s1 s1L s1C), (1, .slice s2 s2L s2C), (12, .int .i64 t12), (13, .int .i64 t13)] h (EqI_K3 nx0 K)
def EqI_b3  (h : Hp)  (K : Value → Hp → Prop) : Prop :=
  sx_2 Tryz.prog F 26 (cp [1, 1, 1] (bodyOf Tryz.f17)) (ap [1, 1, 1] EqI_an) [] h (EqI_K0  K)
theorem EqI_b0_eq (s1 : Option Addr) (s1L : Nat) (s1C : Nat) (s2 : Option Addr) (s2L : Nat) (s2C : Nat) (h : Hp)  (K : Value → Hp → Prop) : EqI_b0 s1 s1L s1C s2 s2L s2C h  K = (
  cond (!decide ((s1L : Int) = (s2L : Int)))
  (K (.bool false) h)
  (LoopVC ((0, ()) : Int × Unit) h (fun (nx0 : Int × Unit → Hp → Prop) (s3 : Int × Unit) h1 => EqI_b1 s3.1 s1 s1L s1C s2 s2L s2C (s1L : Int) h1 nx0 K))) := by kernel_rfl
theorem EqI_b1_eq (t13 : Int) (s1 : Option Addr) (s1L : Nat) (s1C : Nat) (s2 : Option Addr) (s2L : Nat) (s2C : Nat) (t12 : Int) (h : Hp) (nx0 : Int × Unit → Hp → Prop) (K : Value → Hp → Prop) : EqI_b1 t13 s1 s1L s1C s2 s2L s2C t12 h nx0 K = (
  cond (decide (t13 < t12))
  ((0 ≤ t13 ∧ t13 < (s1L : Int)) ∧
  NN s1 fun a1 =>
  ∃ n1 : Int, cell h (a1.add (Int.toNat t13 * 1)) = some (.int .i64 n1) ∧
  (0 ≤ t13 ∧ t13 < (s2L : Int)) ∧
  NN s2 fun a2 =>
  ∃ n2 : Int, cell h (a2.add (Int.toNat t13 * 1)) = some (.int .i64 n2) ∧
  cond (!decide (n1 = n2))
  (K (.bool false) h)
  (EqI_b2 s1 s1L s1C s2 s2L s2C t12 t13 h nx0 K))
  (EqI_b3  h  K)) := by kernel_rfl
theorem EqI_b2_eq (s1 : Option Addr) (s1L : Nat) (s1C : Nat) (s2 : Option Addr) (s2L : Nat) (s2C : Nat) (t12 : Int) (t13 : Int) (h : Hp) (nx0 : Int × Unit → Hp → Prop) (K : Value → Hp → Prop) : EqI_b2 s1 s1L s1C s2 s2L s2C t12 t13 h nx0 K = (
  InR (t13 + 1) ∧
  nx0 (t13 + 1, ()) h) := by kernel_rfl
theorem EqI_b3_eq  (h : Hp)  (K : Value → Hp → Prop) : EqI_b3  h  K = (
  K (.bool true) h) := by kernel_rfl
theorem EqI_call {s1 : Option Addr} {s1L : Nat} {s1C : Nat} {s2 : Option Addr} {s2L : Nat} {s2C : Nat} {h : Hp} {K : Value → Hp → Prop} (hk : EqI_b0 s1 s1L s1C s2 s2L s2C h K) : HCalls Tryz.prog 17 #[.slice s1 s1L s1C, .slice s2 s2L s2C] h K :=
  calls_of_snd EqI_an Tryz.func17 (c := bodyOf Tryz.f17) rfl Tryz.ntmps17 (Nat.le_of_ble_eq_true rfl) (snd_3 F_ok F_mixed) hk

/-! ### table_Table_Get -/
def table_Table_Get_an : Ann := .node none (.leaf) (.node (some [0, 1, 4]) (.leaf) (.leaf))
def table_Table_Get_K0  (K : Value → Hp → Prop) : Exit → Env → Hp → Prop := retK Tryz.prog Tryz.f18.results.toList K
def table_Table_Get_b0 (t : Option Addr) (id : Int) (h : Hp)  (K : Value → Hp → Prop) : Prop :=
  sx_2 Tryz.prog F 27 (cp [] (bodyOf Tryz.f18)) (ap [] table_Table_Get_an) [(0, .pointer t), (1, .int .i64 id)] h (table_Table_Get_K0  K)
def table_Table_Get_b1 (t : Option Addr) (id : Int) (t4 : Option Addr) (h : Hp)  (K : Value → Hp → Prop) : Prop :=
  sx_1 Tryz.prog F 27 (cp [1, 1] (bodyOf Tryz.f18)) (ap [1, 1] table_Table_Get_an) [(0, .pointer t), (1, .int .i64 id), (4, .pointer t4)] h (table_Table_Get_K0  K)
theorem table_Table_Get_b0_eq (t : Option Addr) (id : Int) (h : Hp)  (K : Value → Hp → Prop) : table_Table_Get_b0 t id h  K = (
  New h (.cells #[.int .i64 0, .int .i64 0, .int .i64 0, .int .i64 0, .string (⟨#[]⟩ : ByteArray)] 49) fun b1 h1 =>
  cond t.isNone
  (Wr h1 ⟨b1, 0, none⟩ (.int .i64 0) fun h2 =>
  Wr h2 ((⟨b1, 0, none⟩ : Addr).add 1) (.int .i64 0) fun h3 =>
  Wr h3 ((⟨b1, 0, none⟩ : Addr).add 2) (.int .i64 0) fun h4 =>
  Wr h4 ((⟨b1, 0, none⟩ : Addr).add 3) (.int .i64 0) fun h5 =>
  Wr h5 ((⟨b1, 0, none⟩ : Addr).add 4) (.string (⟨#[]⟩ : ByteArray)) fun h6 =>
  ∃ r1 : Int, ∃ r2 : Int, ∃ r3 : Int, ∃ r4 : Int, ∃ r5 : ByteArray, cell h6 ⟨b1, 0, none⟩ = some (.int .i64 r1) ∧
  cell h6 ((⟨b1, 0, none⟩ : Addr).add 1) = some (.int .i64 r2) ∧
  cell h6 ((⟨b1, 0, none⟩ : Addr).add 2) = some (.int .i64 r3) ∧
  cell h6 ((⟨b1, 0, none⟩ : Addr).add 3) = some (.int .i64 r4) ∧
  cell h6 ((⟨b1, 0, none⟩ : Addr).add 4) = some (.string r5) ∧
  K (.tuple #[.agg #[.int .i64 r1, .int .i64 r2, .int .i64 r3, .int .i64 r4, .string r5], .int .i64 1]) h6)
  (NN t fun a1 =>
  ∃ v1 : Value, cell h1 a1 = some (v1) ∧
  lookV Tryz.prog 78 v1 (.int .i64 id) false h1 fun v2 => ∃ r6 : Option Addr, v2 = .pointer r6 ∧
  cond r6.isNone
  (Wr h1 ⟨b1, 0, none⟩ (.int .i64 0) fun h7 =>
  Wr h7 ((⟨b1, 0, none⟩ : Addr).add 1) (.int .i64 0) fun h8 =>
  Wr h8 ((⟨b1, 0, none⟩ : Addr).add 2) (.int .i64 0) fun h9 =>
  Wr h9 ((⟨b1, 0, none⟩ : Addr).add 3) (.int .i64 0) fun h10 =>
  Wr h10 ((⟨b1, 0, none⟩ : Addr).add 4) (.string (⟨#[]⟩ : ByteArray)) fun h11 =>
  ∃ r7 : Int, ∃ r8 : Int, ∃ r9 : Int, ∃ r10 : Int, ∃ r11 : ByteArray, cell h11 ⟨b1, 0, none⟩ = some (.int .i64 r7) ∧
  cell h11 ((⟨b1, 0, none⟩ : Addr).add 1) = some (.int .i64 r8) ∧
  cell h11 ((⟨b1, 0, none⟩ : Addr).add 2) = some (.int .i64 r9) ∧
  cell h11 ((⟨b1, 0, none⟩ : Addr).add 3) = some (.int .i64 r10) ∧
  cell h11 ((⟨b1, 0, none⟩ : Addr).add 4) = some (.string r11) ∧
  K (.tuple #[.agg #[.int .i64 r7, .int .i64 r8, .int .i64 r9, .int .i64 r10, .string r11], .int .i64 12]) h11)
  (table_Table_Get_b1 t id (some ⟨b1, 0, none⟩) h1  K))) := by kernel_rfl
theorem table_Table_Get_b1_eq (t : Option Addr) (id : Int) (t4 : Option Addr) (h : Hp)  (K : Value → Hp → Prop) : table_Table_Get_b1 t id t4 h  K = (
  NN t fun a2 =>
  ∃ v3 : Value, cell h a2 = some (v3) ∧
  lookV Tryz.prog 78 v3 (.int .i64 id) false h fun v4 => ∃ r12 : Option Addr, v4 = .pointer r12 ∧
  NN r12 fun a3 =>
  ∃ n1 : Int, ∃ n2 : Int, ∃ n3 : Int, ∃ n4 : Int, ∃ s1 : ByteArray, cell h a3 = some (.int .i64 n1) ∧
  cell h (a3.add 1) = some (.int .i64 n2) ∧
  cell h (a3.add 2) = some (.int .i64 n3) ∧
  cell h (a3.add 3) = some (.int .i64 n4) ∧
  cell h (a3.add 4) = some (.string s1) ∧
  NN t4 fun a4 =>
  Wr h a4 (.int .i64 n1) fun h12 =>
  Wr h12 (a4.add 1) (.int .i64 n2) fun h13 =>
  Wr h13 (a4.add 2) (.int .i64 n3) fun h14 =>
  Wr h14 (a4.add 3) (.int .i64 n4) fun h15 =>
  Wr h15 (a4.add 4) (.string s1) fun h16 =>
  NN t4 fun a5 =>
  ∃ r13 : Int, ∃ r14 : Int, ∃ r15 : Int, ∃ r16 : Int, ∃ r17 : ByteArray, cell h16 a5 = some (.int .i64 r13) ∧
  cell h16 (a5.add 1) = some (.int .i64 r14) ∧
  cell h16 (a5.add 2) = some (.int .i64 r15) ∧
  cell h16 (a5.add 3) = some (.int .i64 r16) ∧
  cell h16 (a5.add 4) = some (.string r17) ∧
  K (.tuple #[.agg #[.int .i64 r13, .int .i64 r14, .int .i64 r15, .int .i64 r16, .string r17], .int .i64 0]) h16) := by kernel_rfl
theorem table_Table_Get_call {t : Option Addr} {id : Int} {h : Hp} {K : Value → Hp → Prop} (hk : table_Table_Get_b0 t id h K) : HCalls Tryz.prog 18 #[.pointer t, .int .i64 id] h K :=
  calls_of_snd table_Table_Get_an Tryz.func18 (c := bodyOf Tryz.f18) rfl Tryz.ntmps18 (Nat.le_of_ble_eq_true rfl) (snd_2 F_ok F_mixed) hk

/-! ### table_Table_Update -/
def table_Table_Update_an : Ann := .node none (.leaf) (.node (some [0, 1, 5]) (.leaf) (.node none (.leaf) (.node (some [0, 1, 5]) (.node none (.plan (.qu 0 (.qu 1 (.qu 2 (.qu 3 (.qu 4 (.qu 5 (.wo 6 (.qu 7 (.qu 8 (.qu 9 (.wo 10 (.wo 11 .fin .no) .no)))) .no)))))))) (.leaf)) (.leaf))))
def table_Table_Update_K0  (K : Value → Hp → Prop) : Exit → Env → Hp → Prop := retK Tryz.prog Tryz.f19.results.toList K
def table_Table_Update_b0 (t : Option Addr) (id : Int) (r_0 : Int) (r_1 : Int) (r_2 : Int) (r_3 : Int) (r_4 : ByteArray) (h : Hp)  (K : Value → Hp → Prop) : Prop :=
  sx_3 Tryz.prog F 48 (cp [] (bodyOf Tryz.f19)) (ap [] table_Table_Update_an) [(0, .pointer t), (1, .int .i64 id), (2, .agg #[.int .i64 r_0, .int .i64 r_1, .int .i64 r_2, .int .i64 r_3, .string r_4])] h (table_Table_Update_K0  K)
def table_Table_Update_b1 (t : Option Addr) (id : Int) (r : Option Addr) (h : Hp)  (K : Value → Hp → Prop) : Prop :=
  sx_2 Tryz.prog F 48 (cp [1, 1] (bodyOf Tryz.f19)) (ap [1, 1] table_Table_Update_an) [(0, .pointer t), (1, .int .i64 id), (5, .pointer r)] h (table_Table_Update_K0  K)
def table_Table_Update_b2 (t : Option Addr) (id : Int) (r : Option Addr) (h : Hp)  (K : Value → Hp → Prop) : Prop :=
  sx_1 Tryz.prog F 48 (cp [1, 1, 1, 1] (bodyOf Tryz.f19)) (ap [1, 1, 1, 1] table_Table_Update_an) [(0, .pointer t), (1, .int .i64 id), (5, .pointer r)] h (table_Table_Update_K0  K)
theorem table_Table_Update_b0_eq (t : Option Addr) (id : Int) (r_0 : Int) (r_1 : Int) (r_2 : Int) (r_3 : Int) (r_4 : ByteArray) (h : Hp)  (K : Value → Hp → Prop) : table_Table_Update_b0 t id r_0 r_1 r_2 r_3 r_4 h  K = (
  New h (.cells #[.int .i64 r_0, .int .i64 r_1, .int .i64 r_2, .int .i64 r_3, .string r_4] 49) fun b1 h1 =>
  cond t.isNone
  (K (.int .i64 1) h1)
  (∃ n1 : Int, ∃ n2 : Int, ∃ n3 : Int, ∃ n4 : Int, ∃ s1 : ByteArray, cell h1 ⟨b1, 0, none⟩ = some (.int .i64 n1) ∧
  cell h1 ((⟨b1, 0, none⟩ : Addr).add 1) = some (.int .i64 n2) ∧
  cell h1 ((⟨b1, 0, none⟩ : Addr).add 2) = some (.int .i64 n3) ∧
  cell h1 ((⟨b1, 0, none⟩ : Addr).add 3) = some (.int .i64 n4) ∧
  cell h1 ((⟨b1, 0, none⟩ : Addr).add 4) = some (.string s1) ∧
  HCalls Tryz.prog 51 #[.agg #[.int .i64 n1, .int .i64 n2, .int .i64 n3, .int .i64 n4, .string s1]] h1 fun v1 h2 => ∃ r1 : Bool, v1 = .bool r1 ∧
  cond (!r1)
  (K (.int .i64 1) h2)
  (table_Table_Update_b1 t id (some ⟨b1, 0, none⟩) h2  K))) := by kernel_rfl
theorem table_Table_Update_b1_eq (t : Option Addr) (id : Int) (r : Option Addr) (h : Hp)  (K : Value → Hp → Prop) : table_Table_Update_b1 t id r h  K = (
  NN t fun a1 =>
  ∃ v2 : Value, cell h a1 = some (v2) ∧
  lookV Tryz.prog 78 v2 (.int .i64 id) false h fun v3 => ∃ r2 : Option Addr, v3 = .pointer r2 ∧
  cond r2.isNone
  (K (.int .i64 12) h)
  (NN t fun a2 =>
  ∃ v4 : Value, cell h (a2.add 1) = some (v4) ∧
  NN r fun a3 =>
  ∃ n5 : Int, cell h a3 = some (.int .i64 n5) ∧
  lookV Tryz.prog 79 v4 (.int .i64 n5) true h fun v5 => ∃ r3 : Int, ∃ r4 : Bool, v5 = .tuple #[.int .i64 r3, .bool r4] ∧
  cond r4
  (cond (!decide (r3 = id))
  (K (.int .i64 15) h)
  (table_Table_Update_b2 t id r h  K))
  (table_Table_Update_b2 t id r h  K))) := by kernel_rfl
theorem table_Table_Update_b2_eq (t : Option Addr) (id : Int) (r : Option Addr) (h : Hp)  (K : Value → Hp → Prop) : table_Table_Update_b2 t id r h  K = (
  HCalls Tryz.prog 52 #[.pointer t, .int .i64 id] h fun v6 h3 => v6 = .tuple #[] ∧
  NN r fun a4 =>
  ∃ n6 : Int, ∃ n7 : Int, ∃ n8 : Int, ∃ n9 : Int, ∃ s2 : ByteArray, cell h3 a4 = some (.int .i64 n6) ∧
  cell h3 (a4.add 1) = some (.int .i64 n7) ∧
  cell h3 (a4.add 2) = some (.int .i64 n8) ∧
  cell h3 (a4.add 3) = some (.int .i64 n9) ∧
  cell h3 (a4.add 4) = some (.string s2) ∧
  HCalls Tryz.prog 53 #[.pointer t, .int .i64 id, .agg #[.int .i64 n6, .int .i64 n7, .int .i64 n8, .int .i64 n9, .string s2]] h3 fun v7 h4 => v7 = .tuple #[] ∧
  HCalls Tryz.prog 54 #[.pointer t] h4 fun v8 h5 => v8 = .tuple #[] ∧
  K (.int .i64 0) h5) := by kernel_rfl
theorem table_Table_Update_call {t : Option Addr} {id : Int} {r_0 : Int} {r_1 : Int} {r_2 : Int} {r_3 : Int} {r_4 : ByteArray} {h : Hp} {K : Value → Hp → Prop} (hk : table_Table_Update_b0 t id r_0 r_1 r_2 r_3 r_4 h K) : HCalls Tryz.prog 19 #[.pointer t, .int .i64 id, .agg #[.int .i64 r_0, .int .i64 r_1, .int .i64 r_2, .int .i64 r_3, .string r_4]] h K :=
  calls_of_snd table_Table_Update_an Tryz.func19 (c := bodyOf Tryz.f19) rfl Tryz.ntmps19 (Nat.le_of_ble_eq_true rfl) (snd_3 F_ok F_mixed) hk

/-! ### table_Table_Check -/
def table_Table_Check_an : Ann := .node none (.leaf) (.node none (.leaf) (.node none (.node none (.plan (.qu 0 (.qu 1 (.qu 2 (.qu 3 (.qu 5 (.qu 6 (.qu 7 (.qu 8 (.wo 4 (.wo 9 (.qu 10 .fin) .no) .no)))))))))) (.leaf)) (.node (some [0]) (.node none (.leaf) (.loop [0, 26] [] (.node none (.leaf) (.node none (.leaf) (.node none (.leaf) (.node none (.plan (.qu 0 (.qu 1 (.qu 2 (.qu 3 (.qu 4 (.qu 5 (.qu 6 (.qu 7 (.qu 9 (.wo 8 (.qu 10 .fin) .no))))))))))) (.leaf))))))) (.leaf))))
def table_Table_Check_K0  (K : Value → Hp → Prop) : Exit → Env → Hp → Prop := retK Tryz.prog Tryz.f20.results.toList K
def table_Table_Check_K1  (K : Value → Hp → Prop) : Exit → Env → Hp → Prop := thenE (fun env h => sx_1 Tryz.prog F 64 (cp [1, 1, 1, 1] (bodyOf Tryz.f20)) (ap [1, 1, 1, 1] table_Table_Check_an) (rs [0] env) h (table_Table_Check_K0  K)) (table_Table_Check_K0  K)
def table_Table_Check_K2  (K : Value → Hp → Prop) : Exit → Env → Hp → Prop := blockE 0 (table_Table_Check_K1  K)
def table_Table_Check_K3 (nx0 : Unit → Hp → Prop) (K : Value → Hp → Prop) : Exit → Env → Hp → Prop := thenE (fun env h => getV [] env fun s => nx0 s h) (table_Table_Check_K2  K)
def table_Table_Check_b0 (t : Option Addr) (h : Hp)  (K : Value → Hp → Prop) : Prop :=
  sx_2 Tryz.prog F 64 (cp [] (bodyOf Tryz.f20)) (ap [] table_Table_Check_an) [(0, .pointer t)] h (table_Table_Check_K0  K)
def table_Table_Check_b1 (t : Option Addr) (t26 : Value) (h : Hp) (nx0 : Unit → Hp → Prop) (K : Value → Hp → Prop) : Prop :=
  sx_1 Tryz.prog F 64 (cp [1, 1, 1, 0, 1, 2, 2] (bodyOf Tryz.f20)) (ap [1, 1, 1, 0, 1, 2] table_Table_Check_an) [(0, .pointer t), (26, t26)] h (table_Table_Check_K3 nx0 K)
def table_Table_Check_b2 (t : Option Addr) (h : Hp)  (K : Value → Hp → Prop) : Prop :=
  sx_1 Tryz.prog F 64 (cp [1, 1, 1, 1] (bodyOf Tryz.f20)) (ap [1, 1, 1, 1] table_Table_Check_an) [(0, .pointer t)] h (table_Table_Check_K0  K)
theorem table_Table_Check_b0_eq (t : Option Addr) (h : Hp)  (K : Value → Hp → Prop) : table_Table_Check_b0 t h  K = (
  cond t.isNone
  (K (.bool false) h)
  (NN t fun a1 =>
  ∃ v1 : Value, cell h (a1.add 1) = some (v1) ∧
  NN t fun a2 =>
  ∃ v2 : Value, cell h a2 = some (v2) ∧
  mapLenV v1 h fun n1 =>
  (∃ v3 : Value, cell h a2 = some (v3) ∧
  (v3 : Value) = v2) ∧
  mapLenV v2 h fun n2 =>
  cond (!decide (n1 = n2))
  (K (.bool false) h)
  (NN t fun a3 =>
  ∃ v4 : Value, cell h a3 = some (v4) ∧
  rangeV Tryz.prog 78 v4 h fun it1 h1 =>
  LoopVC (() : Unit) h1 (fun (nx0 : Unit → Hp → Prop) (_ : Unit) h2 => table_Table_Check_b1 t (.pointer (some ⟨it1, 0, none⟩)) h2 nx0 K)))) := by kernel_rfl
theorem table_Table_Check_b1_eq (t : Option Addr) (t26 : Value) (h : Hp) (nx0 : Unit → Hp → Prop) (K : Value → Hp → Prop) : table_Table_Check_b1 t t26 h nx0 K = (
  nextV Tryz.prog t26 false h (fun h3 =>
  table_Table_Check_b2 t h3  K) fun x1 y1 h4 =>
  entryV Tryz.prog t26 h4 fun v5 => ∃ k1 : Int, ∃ e1 : Option Addr, v5 = .tuple #[.int .i64 k1, .pointer e1] ∧
  NN t fun a4 =>
  ∃ v6 : Value, cell h4 (a4.add 1) = some (v6) ∧
  NN e1 fun a5 =>
  ∃ n3 : Int, cell h4 a5 = some (.int .i64 n3) ∧
  lookV Tryz.prog 79 v6 (.int .i64 n3) false h4 fun v7 => ∃ r1 : Int, v7 = .int .i64 r1 ∧
  cond (!decide (r1 = k1))
  (K (.bool false) h4)
  (nx0 () h4)) := by kernel_rfl
theorem table_Table_Check_b2_eq (t : Option Addr) (h : Hp)  (K : Value → Hp → Prop) : table_Table_Check_b2 t h  K = (
  HCalls Tryz.prog 9 #[.pointer t, .int .i64 (-1048576), .int .i64 1048576] h fun v8 h5 => ∃ (r2 : Option Addr) (rL1 rC1 : Nat), ∃ r3 : Int, v8 = .tuple #[.slice r2 rL1 rC1, .int .i64 r3] ∧
  HCalls Tryz.prog 10 #[.pointer t, .int .i64 (-1048576), .int .i64 1048576, .int .i64 (-1048576), .int .i64 1048576] h5 fun v9 h6 => ∃ (r4 : Option Addr) (rL2 rC2 : Nat), ∃ r5 : Int, v9 = .tuple #[.slice r4 rL2 rC2, .int .i64 r5] ∧
  HCalls Tryz.prog 45 #[.slice r2 rL1 rC1] h6 fun v10 h7 => v10 = .tuple #[] ∧
  HCalls Tryz.prog 17 #[.slice r2 rL1 rC1, .slice r4 rL2 rC2] h7 fun v11 h8 => ∃ r6 : Bool, v11 = .bool r6 ∧
  cond r6
  (HCalls Tryz.prog 8 #[.pointer t] h8 fun v12 h9 => ∃ (r7 : Option Addr) (rL3 rC3 : Nat), v12 = .slice r7 rL3 rC3 ∧
  HCalls Tryz.prog 17 #[.slice r2 rL1 rC1, .slice r7 rL3 rC3] h9 fun v13 h10 => ∃ r8 : Bool, v13 = .bool r8 ∧
  K (.bool r8) h10)
  (K (.bool false) h8)) := by kernel_rfl
theorem table_Table_Check_call {t : Option Addr} {h : Hp} {K : Value → Hp → Prop} (hk : table_Table_Check_b0 t h K) : HCalls Tryz.prog 20 #[.pointer t] h K :=
  calls_of_snd table_Table_Check_an Tryz.func20 (c := bodyOf Tryz.f20) rfl Tryz.ntmps20 (Nat.le_of_ble_eq_true rfl) (snd_2 F_ok F_mixed) hk

/-! ### table_Table_Insert -/
def table_Table_Insert_an : Ann := .node none (.leaf) (.node (some [0, 3]) (.leaf) (.node none (.node none (.plan (.qu 0 (.qu 1 (.qu 2 (.qu 3 (.qu 4 (.qu 5 (.wo 6 (.qu 7 (.qu 8 (.qu 9 (.wo 10 (.wo 11 .fin .no) .no)))) .no)))))))) (.leaf)) (.leaf)))
def table_Table_Insert_K0  (K : Value → Hp → Prop) : Exit → Env → Hp → Prop := retK Tryz.prog Tryz.f21.results.toList K
def table_Table_Insert_b0 (t : Option Addr) (r_0 : Int) (r_1 : Int) (r_2 : Int) (r_3 : Int) (r_4 : ByteArray) (h : Hp)  (K : Value → Hp → Prop) : Prop :=
  sx_2 Tryz.prog F 51 (cp [] (bodyOf Tryz.f21)) (ap [] table_Table_Insert_an) [(0, .pointer t), (1, .agg #[.int .i64 r_0, .int .i64 r_1, .int .i64 r_2, .int .i64 r_3, .string r_4])] h (table_Table_Insert_K0  K)
def table_Table_Insert_b1 (t : Option Addr) (r : Option Addr) (h : Hp)  (K : Value → Hp → Prop) : Prop :=
  sx_1 Tryz.prog F 51 (cp [1, 1] (bodyOf Tryz.f21)) (ap [1, 1] table_Table_Insert_an) [(0, .pointer t), (3, .pointer r)] h (table_Table_Insert_K0  K)
theorem table_Table_Insert_b0_eq (t : Option Addr) (r_0 : Int) (r_1 : Int) (r_2 : Int) (r_3 : Int) (r_4 : ByteArray) (h : Hp)  (K : Value → Hp → Prop) : table_Table_Insert_b0 t r_0 r_1 r_2 r_3 r_4 h  K = (
  New h (.cells #[.int .i64 r_0, .int .i64 r_1, .int .i64 r_2, .int .i64 r_3, .string r_4] 49) fun b1 h1 =>
  cond t.isNone
  (K (.tuple #[.int .i64 0, .int .i64 1]) h1)
  (∃ n1 : Int, ∃ n2 : Int, ∃ n3 : Int, ∃ n4 : Int, ∃ s1 : ByteArray, cell h1 ⟨b1, 0, none⟩ = some (.int .i64 n1) ∧
  cell h1 ((⟨b1, 0, none⟩ : Addr).add 1) = some (.int .i64 n2) ∧
  cell h1 ((⟨b1, 0, none⟩ : Addr).add 2) = some (.int .i64 n3) ∧
  cell h1 ((⟨b1, 0, none⟩ : Addr).add 3) = some (.int .i64 n4) ∧
  cell h1 ((⟨b1, 0, none⟩ : Addr).add 4) = some (.string s1) ∧
  HCalls Tryz.prog 51 #[.agg #[.int .i64 n1, .int .i64 n2, .int .i64 n3, .int .i64 n4, .string s1]] h1 fun v1 h2 => ∃ r1 : Bool, v1 = .bool r1 ∧
  cond (!r1)
  (K (.tuple #[.int .i64 0, .int .i64 1]) h2)
  (table_Table_Insert_b1 t (some ⟨b1, 0, none⟩) h2  K))) := by kernel_rfl
theorem table_Table_Insert_b1_eq (t : Option Addr) (r : Option Addr) (h : Hp)  (K : Value → Hp → Prop) : table_Table_Insert_b1 t r h  K = (
  NN t fun a1 =>
  ∃ v2 : Value, cell h (a1.add 1) = some (v2) ∧
  NN r fun a2 =>
  ∃ n5 : Int, cell h a2 = some (.int .i64 n5) ∧
  lookV Tryz.prog 79 v2 (.int .i64 n5) true h fun v3 => ∃ r2 : Int, ∃ r3 : Bool, v3 = .tuple #[.int .i64 r2, .bool r3] ∧
  cond r3
  (K (.tuple #[.int .i64 0, .int .i64 15]) h)
  (NN t fun a3 =>
  ∃ v4 : Value, cell h a3 = some (v4) ∧
  mapLenV v4 h fun n6 =>
  cond (decide ((1000 : Int) ≤ n6))
  (K (.tuple #[.int .i64 0, .int .i64 4]) h)
  (NN t fun a4 =>
  ∃ n7 : Int, cell h (a4.add 2) = some (.int .i64 n7) ∧
  NN t fun a5 =>
  ∃ n8 : Int, cell h (a5.add 2) = some (.int .i64 n8) ∧
  InR (n8 + 1) ∧
  NN t fun a6 =>
  Wr h (a6.add 2) (.int .i64 (n8 + 1)) fun h3 =>
  NN r fun a7 =>
  ∃ n9 : Int, ∃ n10 : Int, ∃ n11 : Int, ∃ n12 : Int, ∃ s2 : ByteArray, cell h3 a7 = some (.int .i64 n9) ∧
  cell h3 (a7.add 1) = some (.int .i64 n10) ∧
  cell h3 (a7.add 2) = some (.int .i64 n11) ∧
  cell h3 (a7.add 3) = some (.int .i64 n12) ∧
  cell h3 (a7.add 4) = some (.string s2) ∧
  HCalls Tryz.prog 53 #[.pointer t, .int .i64 n7, .agg #[.int .i64 n9, .int .i64 n10, .int .i64 n11, .int .i64 n12, .string s2]] h3 fun v5 h4 => v5 = .tuple #[] ∧
  HCalls Tryz.prog 54 #[.pointer t] h4 fun v6 h5 => v6 = .tuple #[] ∧
  K (.tuple #[.int .i64 n7, .int .i64 0]) h5))) := by kernel_rfl
theorem table_Table_Insert_call {t : Option Addr} {r_0 : Int} {r_1 : Int} {r_2 : Int} {r_3 : Int} {r_4 : ByteArray} {h : Hp} {K : Value → Hp → Prop} (hk : table_Table_Insert_b0 t r_0 r_1 r_2 r_3 r_4 h K) : HCalls Tryz.prog 21 #[.pointer t, .agg #[.int .i64 r_0, .int .i64 r_1, .int .i64 r_2, .int .i64 r_3, .string r_4]] h K :=
  calls_of_snd table_Table_Insert_an Tryz.func21 (c := bodyOf Tryz.f21) rfl Tryz.ntmps21 (Nat.le_of_ble_eq_true rfl) (snd_2 F_ok F_mixed) hk

end Go.Proofs.YtfkccighnkepgaaGreat
