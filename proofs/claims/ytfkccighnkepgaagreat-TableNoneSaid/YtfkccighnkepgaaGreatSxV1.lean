/- Plain statements of what each block of code of this seat asks; printed by a program, checked by Lean. -/
import Derived.Test.YtfkccighnkepgaaGreatSxV0
set_option maxRecDepth 10000
namespace Go.Proofs.YtfkccighnkepgaaGreat
open Go Go.Sx

/-! ### l50_TableAgrees -/
/-! ### l50_TableNone -/
def l50_TableNone_an : Ann := .node none (.leaf) (.node none (.leaf) (.node (some [0, 3]) (.leaf) (.node none (.leaf) (.node none (.leaf) (.node none (.leaf) (.node none (.leaf) (.node none (.leaf) (.node none (.leaf) (.node none (.leaf) (.node none (.leaf) (.node none (.leaf) (.node (some [0]) (.leaf) (.node none (.leaf) (.node none (.leaf) (.node none (.leaf) (.node none (.leaf) (.node none (.leaf) (.node none (.leaf) (.node none (.leaf) (.node none (.leaf) (.node none (.plan (.qu 0 (.qu 1 (.qu 2 (.qu 3 (.qu 5 (.qu 6 (.wo 4 (.wo 7 (.qu 8 (.qu 9 (.qu 10 (.qu 11 (.wo 12 (.wo 13 (.qu 14 (.wo 15 .fin .no)) .no) .no))))) .no) .no)))))))) (.leaf))))))))))))))))))))))
def l50_TableNone_K0  (K : Value → Hp → Prop) : Exit → Env → Hp → Prop := retK Tryz.prog Tryz.f4.results.toList K
def l50_TableNone_b0 (l : Option Addr) (lL : Nat) (lC : Nat) (r_0 : Int) (r_1 : Int) (r_2 : Int) (r_3 : Int) (r_4 : ByteArray) (h : Hp)  (K : Value → Hp → Prop) : Prop :=
  sx_3 Tryz.prog F 158 (cp [] (bodyOf Tryz.f4)) (ap [] l50_TableNone_an) [(0, .slice l lL lC), (1, .agg #[.int .i64 r_0, .int .i64 r_1, .int .i64 r_2, .int .i64 r_3, .string r_4])] h (l50_TableNone_K0  K)
def l50_TableNone_b1 (l : Option Addr) (lL : Nat) (lC : Nat) (r : Option Addr) (h : Hp)  (K : Value → Hp → Prop) : Prop :=
  sx_2 Tryz.prog F 158 (cp [1, 1, 1] (bodyOf Tryz.f4)) (ap [1, 1, 1] l50_TableNone_an) [(0, .slice l lL lC), (3, .pointer r)] h (l50_TableNone_K0  K)
def l50_TableNone_b2 (l : Option Addr) (lL : Nat) (lC : Nat) (h : Hp)  (K : Value → Hp → Prop) : Prop :=
  sx_1 Tryz.prog F 158 (cp [1, 1, 1, 1, 1, 1, 1, 1, 1, 1, 1, 1, 1] (bodyOf Tryz.f4)) (ap [1, 1, 1, 1, 1, 1, 1, 1, 1, 1, 1, 1, 1] l50_TableNone_an) [(0, .slice l lL lC)] h (l50_TableNone_K0  K)
theorem l50_TableNone_b0_eq (l : Option Addr) (lL : Nat) (lC : Nat) (r_0 : Int) (r_1 : Int) (r_2 : Int) (r_3 : Int) (r_4 : ByteArray) (h : Hp)  (K : Value → Hp → Prop) : l50_TableNone_b0 l lL lC r_0 r_1 r_2 r_3 r_4 h  K = (
  New h (.cells #[.int .i64 r_0, .int .i64 r_1, .int .i64 r_2, .int .i64 r_3, .string r_4] 49) fun b1 h1 =>
  HCalls Tryz.prog 5 #[] h1 fun v1 h2 => ∃ r1 : Bool, v1 = .bool r1 ∧
  cond (!r1)
  (K (.bool false) h2)
  (HCalls Tryz.prog 6 #[.slice l lL lC] h2 fun v2 h3 => ∃ r2 : Bool, v2 = .bool r2 ∧
  cond r2
  (K (.bool true) h3)
  (∃ s1 : ByteArray, cell h3 ((⟨b1, 0, none⟩ : Addr).add 4) = some (.string s1) ∧
  cond (decide ((100 : Int) < (s1.size : Int)))
  (K (.bool true) h3)
  (l50_TableNone_b1 l lL lC (some ⟨b1, 0, none⟩) h3  K)))) := by kernel_rfl
theorem l50_TableNone_b1_eq (l : Option Addr) (lL : Nat) (lC : Nat) (r : Option Addr) (h : Hp)  (K : Value → Hp → Prop) : l50_TableNone_b1 l lL lC r h  K = (
  NN r fun a1 =>
  ∃ n1 : Int, ∃ n2 : Int, ∃ n3 : Int, ∃ n4 : Int, ∃ s2 : ByteArray, cell h a1 = some (.int .i64 n1) ∧
  cell h (a1.add 1) = some (.int .i64 n2) ∧
  cell h (a1.add 2) = some (.int .i64 n3) ∧
  cell h (a1.add 3) = some (.int .i64 n4) ∧
  cell h (a1.add 4) = some (.string s2) ∧
  HCalls Tryz.prog 21 #[.pointer none, .agg #[.int .i64 n1, .int .i64 n2, .int .i64 n3, .int .i64 n4, .string s2]] h fun v3 h4 => ∃ r3 : Int, ∃ r4 : Int, v3 = .tuple #[.int .i64 r3, .int .i64 r4] ∧
  HCalls Tryz.prog 18 #[.pointer none, .int .i64 0] h4 fun v4 h5 => ∃ r5 : Int, ∃ r6 : Int, ∃ r7 : Int, ∃ r8 : Int, ∃ r9 : ByteArray, ∃ r10 : Int, v4 = .tuple #[.agg #[.int .i64 r5, .int .i64 r6, .int .i64 r7, .int .i64 r8, .string r9], .int .i64 r10] ∧
  New h5 (.cells #[.int .i64 0, .int .i64 0, .int .i64 0, .int .i64 0, .string (⟨#[]⟩ : ByteArray)] 49) fun b2 h6 =>
  Wr h6 ⟨b2, 0, none⟩ (.int .i64 r5) fun h7 =>
  Wr h7 ((⟨b2, 0, none⟩ : Addr).add 1) (.int .i64 r6) fun h8 =>
  Wr h8 ((⟨b2, 0, none⟩ : Addr).add 2) (.int .i64 r7) fun h9 =>
  Wr h9 ((⟨b2, 0, none⟩ : Addr).add 3) (.int .i64 r8) fun h10 =>
  Wr h10 ((⟨b2, 0, none⟩ : Addr).add 4) (.string r9) fun h11 =>
  HCalls Tryz.prog 9 #[.pointer none, .int .i64 0, .int .i64 1] h11 fun v5 h12 => ∃ (r11 : Option Addr) (rL1 rC1 : Nat), ∃ r12 : Int, v5 = .tuple #[.slice r11 rL1 rC1, .int .i64 r12] ∧
  HCalls Tryz.prog 10 #[.pointer none, .int .i64 0, .int .i64 1, .int .i64 0, .int .i64 1] h12 fun v6 h13 => ∃ (r13 : Option Addr) (rL2 rC2 : Nat), ∃ r14 : Int, v6 = .tuple #[.slice r13 rL2 rC2, .int .i64 r14] ∧
  HCalls Tryz.prog 11 #[.pointer none, .string (⟨#[]⟩ : ByteArray)] h13 fun v7 h14 => ∃ (r15 : Option Addr) (rL3 rC3 : Nat), ∃ r16 : Int, v7 = .tuple #[.slice r15 rL3 rC3, .int .i64 r16] ∧
  HCalls Tryz.prog 12 #[.pointer none, .int .i64 0, .int .i64 1, .int .i64 0, .int .i64 1] h14 fun v8 h15 => ∃ r17 : Int, ∃ r18 : Int, v8 = .tuple #[.int .i64 r17, .int .i64 r18] ∧
  HCalls Tryz.prog 22 #[.pointer none, .slice none 0 0, .slice none 0 0] h15 fun v9 h16 => ∃ (r19 : Option Addr) (rL4 rC4 : Nat), ∃ r20 : Int, v9 = .tuple #[.slice r19 rL4 rC4, .int .i64 r20] ∧
  HCalls Tryz.prog 24 #[] h16 fun v10 h17 => ∃ r21 : Option Addr, v10 = .pointer r21 ∧
  HCalls Tryz.prog 23 #[.pointer none, .pointer r21] h17 fun v11 h18 => ∃ (r22 : Option Addr) (rL5 rC5 : Nat), ∃ r23 : Int, v11 = .tuple #[.slice r22 rL5 rC5, .int .i64 r23] ∧
  NN r fun a2 =>
  ∃ n5 : Int, ∃ n6 : Int, ∃ n7 : Int, ∃ n8 : Int, ∃ s3 : ByteArray, cell h18 a2 = some (.int .i64 n5) ∧
  cell h18 (a2.add 1) = some (.int .i64 n6) ∧
  cell h18 (a2.add 2) = some (.int .i64 n7) ∧
  cell h18 (a2.add 3) = some (.int .i64 n8) ∧
  cell h18 (a2.add 4) = some (.string s3) ∧
  HCalls Tryz.prog 19 #[.pointer none, .int .i64 0, .agg #[.int .i64 n5, .int .i64 n6, .int .i64 n7, .int .i64 n8, .string s3]] h18 fun v12 h19 => ∃ r24 : Int, v12 = .int .i64 r24 ∧
  HCalls Tryz.prog 26 #[.pointer none, .int .i64 0] h19 fun v13 h20 => ∃ r25 : Int, v13 = .int .i64 r25 ∧
  New h20 (.cells #[.int .i64 r4, .int .i64 r10, .int .i64 r12, .int .i64 r14, .int .i64 r16, .int .i64 r18, .int .i64 r20, .int .i64 r23, .int .i64 r24, .int .i64 r25] 33) fun b3 h21 =>
  New h21 (.cells #[.int .i64 1] 33) fun b4 h22 =>
  HCalls Tryz.prog 27 #[.slice (some ⟨b4, 0, none⟩) 1 1, .int .i64 10] h22 fun v14 h23 => ∃ (r26 : Option Addr) (rL6 rC6 : Nat), v14 = .slice r26 rL6 rC6 ∧
  HCalls Tryz.prog 25 #[.slice (some ⟨b3, 0, none⟩) 10 10, .slice r26 rL6 rC6] h23 fun v15 h24 => ∃ r27 : Bool, v15 = .bool r27 ∧
  cond (!r27)
  (K (.bool false) h24)
  (HCalls Tryz.prog 28 #[.pointer none] h24 fun v16 h25 => ∃ r28 : Int, v16 = .int .i64 r28 ∧
  cond (!decide (r28 = 0))
  (K (.bool false) h25)
  (HCalls Tryz.prog 8 #[.pointer none] h25 fun v17 h26 => ∃ (r29 : Option Addr) (rL7 rC7 : Nat), v17 = .slice r29 rL7 rC7 ∧
  cond (!decide ((rL7 : Int) = 0))
  (K (.bool false) h26)
  (HCalls Tryz.prog 20 #[.pointer none] h26 fun v18 h27 => ∃ r30 : Bool, v18 = .bool r30 ∧
  cond r30
  (K (.bool false) h27)
  (l50_TableNone_b2 l lL lC h27  K))))) := by kernel_rfl
theorem l50_TableNone_b2_eq (l : Option Addr) (lL : Nat) (lC : Nat) (h : Hp)  (K : Value → Hp → Prop) : l50_TableNone_b2 l lL lC h  K = (
  HCalls Tryz.prog 7 #[.slice l lL lC] h fun v19 h28 => ∃ r31 : Option Addr, ∃ (r32 : Option Addr) (rL8 rC8 : Nat), ∃ (r33 : Option Addr) (rL9 rC9 : Nat), ∃ r34 : Int, ∃ r35 : Bool, v19 = .tuple #[.pointer r31, .agg #[.slice r32 rL8 rC8, .slice r33 rL9 rC9, .int .i64 r34], .bool r35] ∧
  New h28 (.cells #[.slice none 0 0, .slice none 0 0, .int .i64 0] 29) fun b5 h29 =>
  Wr h29 ⟨b5, 0, none⟩ (.slice r32 rL8 rC8) fun h30 =>
  Wr h30 ((⟨b5, 0, none⟩ : Addr).add 1) (.slice r33 rL9 rC9) fun h31 =>
  Wr h31 ((⟨b5, 0, none⟩ : Addr).add 2) (.int .i64 r34) fun h32 =>
  cond (!r35)
  (K (.bool false) h32)
  (HCalls Tryz.prog 8 #[.pointer r31] h32 fun v20 h33 => ∃ (r36 : Option Addr) (rL10 rC10 : Nat), v20 = .slice r36 rL10 rC10 ∧
  clearV Tryz.prog 26 (.slice r36 rL10 rC10) h33 fun h34 =>
  HCalls Tryz.prog 9 #[.pointer r31, .int .i64 (-1048576), .int .i64 1048576] h34 fun v21 h35 => ∃ (r37 : Option Addr) (rL11 rC11 : Nat), ∃ r38 : Int, v21 = .tuple #[.slice r37 rL11 rC11, .int .i64 r38] ∧
  clearV Tryz.prog 26 (.slice r37 rL11 rC11) h35 fun h36 =>
  HCalls Tryz.prog 11 #[.pointer r31, .string (⟨#[]⟩ : ByteArray)] h36 fun v22 h37 => ∃ (r39 : Option Addr) (rL12 rC12 : Nat), ∃ r40 : Int, v22 = .tuple #[.slice r39 rL12 rC12, .int .i64 r40] ∧
  clearV Tryz.prog 26 (.slice r39 rL12 rC12) h37 fun h38 =>
  HCalls Tryz.prog 9 #[.pointer r31, .int .i64 (-1048576), .int .i64 1048576] h38 fun v23 h39 => ∃ (r41 : Option Addr) (rL13 rC13 : Nat), ∃ r42 : Int, v23 = .tuple #[.slice r41 rL13 rC13, .int .i64 r42] ∧
  cond (decide (r42 = 0))
  (∃ (a3 : Option Addr) (L1 C1 : Nat), cell h39 ⟨b5, 0, none⟩ = some (.slice a3 L1 C1) ∧
  HCalls Tryz.prog 8 #[.pointer r31] h39 fun v24 h40 => ∃ (r43 : Option Addr) (rL14 rC14 : Nat), v24 = .slice r43 rL14 rC14 ∧
  (∃ (a4 : Option Addr) (L2 C2 : Nat), cell h40 ⟨b5, 0, none⟩ = some (.slice a4 L2 C2) ∧
  (.slice a4 L2 C2 : Value) = .slice a3 L1 C1) ∧
  HCalls Tryz.prog 17 #[.slice r43 rL14 rC14, .slice a3 L1 C1] h40 fun v25 h41 => ∃ r44 : Bool, v25 = .bool r44 ∧
  cond r44
  (∃ (a5 : Option Addr) (L3 C3 : Nat), ∃ (a6 : Option Addr) (L4 C4 : Nat), ∃ n9 : Int, cell h41 ⟨b5, 0, none⟩ = some (.slice a5 L3 C3) ∧
  cell h41 ((⟨b5, 0, none⟩ : Addr).add 1) = some (.slice a6 L4 C4) ∧
  cell h41 ((⟨b5, 0, none⟩ : Addr).add 2) = some (.int .i64 n9) ∧
  HCalls Tryz.prog 29 #[.agg #[.slice a5 L3 C3, .slice a6 L4 C4, .int .i64 n9], .int .i64 (-1048576), .int .i64 1048576] h41 fun v26 h42 => ∃ (r45 : Option Addr) (rL15 rC15 : Nat), v26 = .slice r45 rL15 rC15 ∧
  HCalls Tryz.prog 17 #[.slice r41 rL13 rC13, .slice r45 rL15 rC15] h42 fun v27 h43 => ∃ r46 : Bool, v27 = .bool r46 ∧
  K (.bool r46) h43)
  (K (.bool false) h41))
  (K (.bool false) h39))) := by kernel_rfl
theorem l50_TableNone_call {l : Option Addr} {lL : Nat} {lC : Nat} {r_0 : Int} {r_1 : Int} {r_2 : Int} {r_3 : Int} {r_4 : ByteArray} {h : Hp} {K : Value → Hp → Prop} (hk : l50_TableNone_b0 l lL lC r_0 r_1 r_2 r_3 r_4 h K) : HCalls Tryz.prog 4 #[.slice l lL lC, .agg #[.int .i64 r_0, .int .i64 r_1, .int .i64 r_2, .int .i64 r_3, .string r_4]] h K :=
  calls_of_snd l50_TableNone_an Tryz.func4 (c := bodyOf Tryz.f4) rfl Tryz.ntmps4 (Nat.le_of_ble_eq_true rfl) (snd_3 F_ok F_mixed) hk

/-! ### l50_awake -/
def l50_awake_an : Ann := .leaf
def l50_awake_K0  (K : Value → Hp → Prop) : Exit → Env → Hp → Prop := retK Tryz.prog Tryz.f5.results.toList K
def l50_awake_b0  (h : Hp)  (K : Value → Hp → Prop) : Prop :=
  sx_1 Tryz.prog F 98 (cp [] (bodyOf Tryz.f5)) (ap [] l50_awake_an) [] h (l50_awake_K0  K)
theorem l50_awake_b0_eq  (h : Hp)  (K : Value → Hp → Prop) : l50_awake_b0  h  K = (
  HCalls Tryz.prog 24 #[] h fun v1 h1 => ∃ r1 : Option Addr, v1 = .pointer r1 ∧
  cond r1.isNone
  (K (.bool false) h1)
  (HCalls Tryz.prog 21 #[.pointer r1, .agg #[.int .i64 5, .int .i64 1, .int .i64 2, .int .i64 3, .string (⟨#[97, 110, 110]⟩ : ByteArray)]] h1 fun v2 h2 => ∃ r2 : Int, ∃ r3 : Int, v2 = .tuple #[.int .i64 r2, .int .i64 r3] ∧
  HCalls Tryz.prog 21 #[.pointer r1, .agg #[.int .i64 4, .int .i64 2, .int .i64 2, .int .i64 1, .string (⟨#[97, 110, 110, 97]⟩ : ByteArray)]] h2 fun v3 h3 => ∃ r4 : Int, ∃ r5 : Int, v3 = .tuple #[.int .i64 r4, .int .i64 r5] ∧
  HCalls Tryz.prog 9 #[.pointer r1, .int .i64 0, .int .i64 9] h3 fun v4 h4 => ∃ (r6 : Option Addr) (rL1 rC1 : Nat), ∃ r7 : Int, v4 = .tuple #[.slice r6 rL1 rC1, .int .i64 r7] ∧
  HCalls Tryz.prog 11 #[.pointer r1, .string (⟨#[110, 110]⟩ : ByteArray)] h4 fun v5 h5 => ∃ (r8 : Option Addr) (rL2 rC2 : Nat), ∃ r9 : Int, v5 = .tuple #[.slice r8 rL2 rC2, .int .i64 r9] ∧
  HCalls Tryz.prog 11 #[.pointer r1, .string (⟨#[110, 97]⟩ : ByteArray)] h5 fun v6 h6 => ∃ (r10 : Option Addr) (rL3 rC3 : Nat), ∃ r11 : Int, v6 = .tuple #[.slice r10 rL3 rC3, .int .i64 r11] ∧
  HCalls Tryz.prog 12 #[.pointer r1, .int .i64 0, .int .i64 5, .int .i64 0, .int .i64 5] h6 fun v7 h7 => ∃ r12 : Int, ∃ r13 : Int, v7 = .tuple #[.int .i64 r12, .int .i64 r13] ∧
  cond (decide (r3 = 0))
  (cond (decide (r2 = 0))
  (cond (decide (r5 = 0))
  (cond (decide (r4 = 1))
  (cond (decide (r7 = 0))
  (New h7 (.cells #[.int .i64 1, .int .i64 0] 3) fun b1 h8 =>
  HCalls Tryz.prog 17 #[.slice r6 rL1 rC1, .slice (some ⟨b1, 0, none⟩) 2 2] h8 fun v8 h9 => ∃ r14 : Bool, v8 = .bool r14 ∧
  cond r14
  (cond (decide (r9 = 0))
  (New h9 (.cells #[.int .i64 0, .int .i64 1] 3) fun b2 h10 =>
  HCalls Tryz.prog 17 #[.slice r8 rL2 rC2, .slice (some ⟨b2, 0, none⟩) 2 2] h10 fun v9 h11 => ∃ r15 : Bool, v9 = .bool r15 ∧
  cond r15
  (cond (decide (r11 = 0))
  (New h11 (.cells #[.int .i64 1] 3) fun b3 h12 =>
  HCalls Tryz.prog 17 #[.slice r10 rL3 rC3, .slice (some ⟨b3, 0, none⟩) 1 1] h12 fun v10 h13 => ∃ r16 : Bool, v10 = .bool r16 ∧
  cond r16
  (cond (decide (r13 = 0))
  (K (.bool (decide (r12 = 4))) h13)
  (K (.bool false) h13))
  (K (.bool false) h13))
  (K (.bool false) h11))
  (K (.bool false) h11))
  (K (.bool false) h9))
  (K (.bool false) h9))
  (K (.bool false) h7))
  (K (.bool false) h7))
  (K (.bool false) h7))
  (K (.bool false) h7))
  (K (.bool false) h7))) := by kernel_rfl
theorem l50_awake_call  {h : Hp} {K : Value → Hp → Prop} (hk : l50_awake_b0  h K) : HCalls Tryz.prog 5 #[] h K :=
  calls_of_snd l50_awake_an Tryz.func5 (c := bodyOf Tryz.f5) rfl Tryz.ntmps5 (Nat.le_of_ble_eq_true rfl) (snd_1 F_ok F_mixed) hk

/-! ### l50_great -/
def l50_great_an : Ann := .leaf
def l50_great_K0  (K : Value → Hp → Prop) : Exit → Env → Hp → Prop := retK Tryz.prog Tryz.f6.results.toList K
def l50_great_b0 (l : Option Addr) (lL : Nat) (lC : Nat) (h : Hp)  (K : Value → Hp → Prop) : Prop :=
  sx_1 Tryz.prog F 10 (cp [] (bodyOf Tryz.f6)) (ap [] l50_great_an) [(0, .slice l lL lC)] h (l50_great_K0  K)
theorem l50_great_b0_eq (l : Option Addr) (lL : Nat) (lC : Nat) (h : Hp)  (K : Value → Hp → Prop) : l50_great_b0 l lL lC h  K = (
  cond (decide ((40 : Int) < (lL : Int)))
  (K (.bool true) h)
  (HCalls Tryz.prog 30 #[.slice l lL lC, .func (.func 31) #[] #[]] h fun v1 h1 => ∃ r1 : Bool, v1 = .bool r1 ∧
  K (.bool r1) h1)) := by kernel_rfl
theorem l50_great_call {l : Option Addr} {lL : Nat} {lC : Nat} {h : Hp} {K : Value → Hp → Prop} (hk : l50_great_b0 l lL lC h K) : HCalls Tryz.prog 6 #[.slice l lL lC] h K :=
  calls_of_snd l50_great_an Tryz.func6 (c := bodyOf Tryz.f6) rfl Tryz.ntmps6 (Nat.le_of_ble_eq_true rfl) (snd_1 F_ok F_mixed) hk

/-! ### l50_played -/
def l50_played_an : Ann := .node none (.leaf) (.node none (.leaf) (.node none (.leaf) (.node none (.node none (.leaf) (.node none (.node none (.tail 2) (.leaf)) (.leaf))) (.node (some [3, 5, 6]) (.node none (.leaf) (.loop [3, 5, 6, 15, 16] [(17, .int .i64)] (.node none (.leaf) (.node none (.leaf) (.node (some [3, 5, 6, 15, 16, 17]) (.node none (.leaf) (.node none (.leaf) (.node (some [3, 5, 6, 9, 15, 16, 17]) (.node none (.leaf) (.node none (.node none (.tail 2) (.leaf)) (.leaf))) (.leaf)))) (.leaf)))))) (.node none (.tail 3) (.leaf))))))
def l50_played_K0  (K : Value → Hp → Prop) : Exit → Env → Hp → Prop := retK Tryz.prog Tryz.f7.results.toList K
def l50_played_K1  (K : Value → Hp → Prop) : Exit → Env → Hp → Prop := thenE (fun env h => sx_2 Tryz.prog F 43 (cp [1, 1, 1, 1, 1] (bodyOf Tryz.f7)) (ap [1, 1, 1, 1, 1] l50_played_an) (rs [3, 5, 6] env) h (l50_played_K0  K)) (l50_played_K0  K)
def l50_played_K2  (K : Value → Hp → Prop) : Exit → Env → Hp → Prop := blockE 0 (l50_played_K1  K)
def l50_played_K3 (nx0 : Int × Unit → Hp → Prop) (K : Value → Hp → Prop) : Exit → Env → Hp → Prop := thenE (fun env h => getV [(17, .int .i64)] env fun s => nx0 s h) (l50_played_K2  K)
def l50_played_K4 (nx0 : Int × Unit → Hp → Prop) (K : Value → Hp → Prop) : Exit → Env → Hp → Prop := thenE (fun env h => sx_1 Tryz.prog F 43 (cp [1, 1, 1, 1, 0, 1, 2, 2, 1, 1, 1] (bodyOf Tryz.f7)) (ap [1, 1, 1, 1, 0, 1, 2, 1, 1, 1] l50_played_an) (rs [3, 5, 6, 15, 16, 17] env) h (l50_played_K3 nx0 K)) (l50_played_K3 nx0 K)
def l50_played_K5 (nx0 : Int × Unit → Hp → Prop) (K : Value → Hp → Prop) : Exit → Env → Hp → Prop := blockE 1 (l50_played_K4 nx0 K)
def l50_played_b0 (l : Option Addr) (lL : Nat) (lC : Nat) (h : Hp)  (K : Value → Hp → Prop) : Prop :=
  sx_3 Tryz.prog F 43 (cp [] (bodyOf Tryz.f7)) (ap [] l50_played_an) [(0, .slice l lL lC)] h (l50_played_K0  K)
def l50_played_b1 (t17 : Int) (t3 : Option Addr) (t : Option Addr) (s : Option Addr) (t15 : Option Addr) (t15L : Nat) (t15C : Nat) (t16 : Int) (h : Hp) (nx0 : Int × Unit → Hp → Prop) (K : Value → Hp → Prop) : Prop :=
  sx_2 Tryz.prog F 43 (cp [1, 1, 1, 1, 0, 1, 2, 2] (bodyOf Tryz.f7)) (ap [1, 1, 1, 1, 0, 1, 2] l50_played_an) [(17, .int .i64 t17), (3, .pointer t3), (5, .pointer t), (6, .pointer s), (15, .slice t15 t15L t15C), (16, .int .i64 t16)] h (l50_played_K3 nx0 K)
def l50_played_b2 (t3 : Option Addr) (t : Option Addr) (s : Option Addr) (next : Option Addr) (t15 : Option Addr) (t15L : Nat) (t15C : Nat) (t16 : Int) (t17 : Int) (h : Hp) (nx0 : Int × Unit → Hp → Prop) (K : Value → Hp → Prop) : Prop :=
  sx_1 Tryz.prog F 43 (cp [1, 1, 1, 1, 0, 1, 2, 2, 1, 1, 0, 2, 1, 1, 1] (bodyOf Tryz.f7)) (ap [1, 1, 1, 1, 0, 1, 2, 1, 1, 0, 1, 1, 1] l50_played_an) [(3, .pointer t3), (5, .pointer t), (6, .pointer s), (9, .pointer next), (15, .slice t15 t15L t15C), (16, .int .i64 t16), (17, .int .i64 t17)] h (l50_played_K5 nx0 K)
def l50_played_b3 (t3 : Option Addr) (t : Option Addr) (s : Option Addr) (h : Hp)  (K : Value → Hp → Prop) : Prop :=
  sx_2 Tryz.prog F 43 (cp [1, 1, 1, 1, 1] (bodyOf Tryz.f7)) (ap [1, 1, 1, 1, 1] l50_played_an) [(3, .pointer t3), (5, .pointer t), (6, .pointer s)] h (l50_played_K0  K)
def l50_played_b4 (t3 : Option Addr) (t : Option Addr) (s : Option Addr) (t15 : Option Addr) (t15L : Nat) (t15C : Nat) (t16 : Int) (t17 : Int) (h : Hp) (nx0 : Int × Unit → Hp → Prop) (K : Value → Hp → Prop) : Prop :=
  sx_1 Tryz.prog F 43 (cp [1, 1, 1, 1, 0, 1, 2, 2, 1, 1, 1] (bodyOf Tryz.f7)) (ap [1, 1, 1, 1, 0, 1, 2, 1, 1, 1] l50_played_an) [(3, .pointer t3), (5, .pointer t), (6, .pointer s), (15, .slice t15 t15L t15C), (16, .int .i64 t16), (17, .int .i64 t17)] h (l50_played_K3 nx0 K)
theorem l50_played_b0_eq (l : Option Addr) (lL : Nat) (lC : Nat) (h : Hp)  (K : Value → Hp → Prop) : l50_played_b0 l lL lC h  K = (
  New h (.cells #[.slice none 0 0, .slice none 0 0, .int .i64 0] 29) fun b1 h1 =>
  HCalls Tryz.prog 24 #[] h1 fun v1 h2 => ∃ r1 : Option Addr, v1 = .pointer r1 ∧
  New h2 (.cells #[.slice none 0 0, .slice none 0 0, .int .i64 0] 29) fun b2 h3 =>
  cond r1.isNone
  (∃ (a1 : Option Addr) (L1 C1 : Nat), ∃ (a2 : Option Addr) (L2 C2 : Nat), ∃ n1 : Int, cell h3 ⟨b2, 0, none⟩ = some (.slice a1 L1 C1) ∧
  cell h3 ((⟨b2, 0, none⟩ : Addr).add 1) = some (.slice a2 L2 C2) ∧
  cell h3 ((⟨b2, 0, none⟩ : Addr).add 2) = some (.int .i64 n1) ∧
  Wr h3 ⟨b1, 0, none⟩ (.slice a1 L1 C1) fun h4 =>
  Wr h4 ((⟨b1, 0, none⟩ : Addr).add 1) (.slice a2 L2 C2) fun h5 =>
  Wr h5 ((⟨b1, 0, none⟩ : Addr).add 2) (.int .i64 n1) fun h6 =>
  ∃ (r2 : Option Addr) (rL1 rC1 : Nat), ∃ (r3 : Option Addr) (rL2 rC2 : Nat), ∃ r4 : Int, cell h6 ⟨b1, 0, none⟩ = some (.slice r2 rL1 rC1) ∧
  cell h6 ((⟨b1, 0, none⟩ : Addr).add 1) = some (.slice r3 rL2 rC2) ∧
  cell h6 ((⟨b1, 0, none⟩ : Addr).add 2) = some (.int .i64 r4) ∧
  K (.tuple #[.pointer none, .agg #[.slice r2 rL1 rC1, .slice r3 rL2 rC2, .int .i64 r4], .bool false]) h6)
  (LoopVC ((0, ()) : Int × Unit) h3 (fun (nx0 : Int × Unit → Hp → Prop) (s1 : Int × Unit) h7 => l50_played_b1 s1.1 (some ⟨b1, 0, none⟩) r1 (some ⟨b2, 0, none⟩) l lL lC (lL : Int) h7 nx0 K))) := by kernel_rfl
theorem l50_played_b1_eq (t17 : Int) (t3 : Option Addr) (t : Option Addr) (s : Option Addr) (t15 : Option Addr) (t15L : Nat) (t15C : Nat) (t16 : Int) (h : Hp) (nx0 : Int × Unit → Hp → Prop) (K : Value → Hp → Prop) : l50_played_b1 t17 t3 t s t15 t15L t15C t16 h nx0 K = (
  cond (decide (t17 < t16))
  ((0 ≤ t17 ∧ t17 < (t15L : Int)) ∧
  NN t15 fun a3 =>
  ∃ n2 : Int, ∃ n3 : Int, ∃ n4 : Int, ∃ n5 : Int, ∃ n6 : Int, ∃ n7 : Int, ∃ s2 : ByteArray, ∃ (a4 : Option Addr) (L3 C3 : Nat), ∃ (a5 : Option Addr) (L4 C4 : Nat), cell h (a3.add (Int.toNat t17 * 9)) = some (.int .u8 n2) ∧
  cell h ((a3.add (Int.toNat t17 * 9)).add 1) = some (.int .i64 n3) ∧
  cell h ((a3.add (Int.toNat t17 * 9)).add 2) = some (.int .i64 n4) ∧
  cell h ((a3.add (Int.toNat t17 * 9)).add 3) = some (.int .i64 n5) ∧
  cell h ((a3.add (Int.toNat t17 * 9)).add 4) = some (.int .i64 n6) ∧
  cell h ((a3.add (Int.toNat t17 * 9)).add 5) = some (.int .i64 n7) ∧
  cell h ((a3.add (Int.toNat t17 * 9)).add 6) = some (.string s2) ∧
  cell h ((a3.add (Int.toNat t17 * 9)).add 7) = some (.slice a4 L3 C3) ∧
  cell h ((a3.add (Int.toNat t17 * 9)).add 8) = some (.slice a5 L4 C4) ∧
  New h (.cells #[.int .u8 0, .int .i64 0, .int .i64 0, .int .i64 0, .int .i64 0, .int .i64 0, .string (⟨#[]⟩ : ByteArray), .slice none 0 0, .slice none 0 0] 68) fun b3 h8 =>
  Wr h8 ⟨b3, 0, none⟩ (.int .u8 n2) fun h9 =>
  Wr h9 ((⟨b3, 0, none⟩ : Addr).add 1) (.int .i64 n3) fun h10 =>
  Wr h10 ((⟨b3, 0, none⟩ : Addr).add 2) (.int .i64 n4) fun h11 =>
  Wr h11 ((⟨b3, 0, none⟩ : Addr).add 3) (.int .i64 n5) fun h12 =>
  Wr h12 ((⟨b3, 0, none⟩ : Addr).add 4) (.int .i64 n6) fun h13 =>
  Wr h13 ((⟨b3, 0, none⟩ : Addr).add 5) (.int .i64 n7) fun h14 =>
  Wr h14 ((⟨b3, 0, none⟩ : Addr).add 6) (.string s2) fun h15 =>
  Wr h15 ((⟨b3, 0, none⟩ : Addr).add 7) (.slice a4 L3 C3) fun h16 =>
  Wr h16 ((⟨b3, 0, none⟩ : Addr).add 8) (.slice a5 L4 C4) fun h17 =>
  NN s fun a6 =>
  ∃ (a7 : Option Addr) (L5 C5 : Nat), ∃ (a8 : Option Addr) (L6 C6 : Nat), ∃ n8 : Int, cell h17 a6 = some (.slice a7 L5 C5) ∧
  cell h17 (a6.add 1) = some (.slice a8 L6 C6) ∧
  cell h17 (a6.add 2) = some (.int .i64 n8) ∧
  ∃ n9 : Int, ∃ n10 : Int, ∃ n11 : Int, ∃ n12 : Int, ∃ n13 : Int, ∃ n14 : Int, ∃ s3 : ByteArray, ∃ (a9 : Option Addr) (L7 C7 : Nat), ∃ (a10 : Option Addr) (L8 C8 : Nat), cell h17 ⟨b3, 0, none⟩ = some (.int .u8 n9) ∧
  cell h17 ((⟨b3, 0, none⟩ : Addr).add 1) = some (.int .i64 n10) ∧
  cell h17 ((⟨b3, 0, none⟩ : Addr).add 2) = some (.int .i64 n11) ∧
  cell h17 ((⟨b3, 0, none⟩ : Addr).add 3) = some (.int .i64 n12) ∧
  cell h17 ((⟨b3, 0, none⟩ : Addr).add 4) = some (.int .i64 n13) ∧
  cell h17 ((⟨b3, 0, none⟩ : Addr).add 5) = some (.int .i64 n14) ∧
  cell h17 ((⟨b3, 0, none⟩ : Addr).add 6) = some (.string s3) ∧
  cell h17 ((⟨b3, 0, none⟩ : Addr).add 7) = some (.slice a9 L7 C7) ∧
  cell h17 ((⟨b3, 0, none⟩ : Addr).add 8) = some (.slice a10 L8 C8) ∧
  HCalls Tryz.prog 34 #[.pointer t, .agg #[.slice a7 L5 C5, .slice a8 L6 C6, .int .i64 n8], .agg #[.int .u8 n9, .int .i64 n10, .int .i64 n11, .int .i64 n12, .int .i64 n13, .int .i64 n14, .string s3, .slice a9 L7 C7, .slice a10 L8 C8]] h17 fun v2 h18 => ∃ (r5 : Option Addr) (rL3 rC3 : Nat), ∃ (r6 : Option Addr) (rL4 rC4 : Nat), ∃ r7 : Int, ∃ r8 : Bool, v2 = .tuple #[.agg #[.slice r5 rL3 rC3, .slice r6 rL4 rC4, .int .i64 r7], .bool r8] ∧
  New h18 (.cells #[.slice none 0 0, .slice none 0 0, .int .i64 0] 29) fun b4 h19 =>
  Wr h19 ⟨b4, 0, none⟩ (.slice r5 rL3 rC3) fun h20 =>
  Wr h20 ((⟨b4, 0, none⟩ : Addr).add 1) (.slice r6 rL4 rC4) fun h21 =>
  Wr h21 ((⟨b4, 0, none⟩ : Addr).add 2) (.int .i64 r7) fun h22 =>
  cond (!r8)
  (NN s fun a11 =>
  ∃ (a12 : Option Addr) (L9 C9 : Nat), ∃ (a13 : Option Addr) (L10 C10 : Nat), ∃ n15 : Int, cell h22 a11 = some (.slice a12 L9 C9) ∧
  cell h22 (a11.add 1) = some (.slice a13 L10 C10) ∧
  cell h22 (a11.add 2) = some (.int .i64 n15) ∧
  NN t3 fun a14 =>
  Wr h22 a14 (.slice a12 L9 C9) fun h23 =>
  Wr h23 (a14.add 1) (.slice a13 L10 C10) fun h24 =>
  Wr h24 (a14.add 2) (.int .i64 n15) fun h25 =>
  NN t3 fun a15 =>
  ∃ (r9 : Option Addr) (rL5 rC5 : Nat), ∃ (r10 : Option Addr) (rL6 rC6 : Nat), ∃ r11 : Int, cell h25 a15 = some (.slice r9 rL5 rC5) ∧
  cell h25 (a15.add 1) = some (.slice r10 rL6 rC6) ∧
  cell h25 (a15.add 2) = some (.int .i64 r11) ∧
  K (.tuple #[.pointer none, .agg #[.slice r9 rL5 rC5, .slice r10 rL6 rC6, .int .i64 r11], .bool false]) h25)
  (∃ r12 : Int, HCalls Tryz.prog 28 #[.pointer t] h22 (fun v3 h26 => v3 = .int .i64 r12 ∧ h26 = h22) ∧
  ∃ (a16 : Option Addr) (L11 C11 : Nat), cell h22 ⟨b4, 0, none⟩ = some (.slice a16 L11 C11) ∧
  cond (!decide (r12 = (L11 : Int)))
  (NN s fun a17 =>
  ∃ (a18 : Option Addr) (L12 C12 : Nat), ∃ (a19 : Option Addr) (L13 C13 : Nat), ∃ n16 : Int, cell h22 a17 = some (.slice a18 L12 C12) ∧
  cell h22 (a17.add 1) = some (.slice a19 L13 C13) ∧
  cell h22 (a17.add 2) = some (.int .i64 n16) ∧
  NN t3 fun a20 =>
  Wr h22 a20 (.slice a18 L12 C12) fun h27 =>
  Wr h27 (a20.add 1) (.slice a19 L13 C13) fun h28 =>
  Wr h28 (a20.add 2) (.int .i64 n16) fun h29 =>
  NN t3 fun a21 =>
  ∃ (r13 : Option Addr) (rL7 rC7 : Nat), ∃ (r14 : Option Addr) (rL8 rC8 : Nat), ∃ r15 : Int, cell h29 a21 = some (.slice r13 rL7 rC7) ∧
  cell h29 (a21.add 1) = some (.slice r14 rL8 rC8) ∧
  cell h29 (a21.add 2) = some (.int .i64 r15) ∧
  K (.tuple #[.pointer none, .agg #[.slice r13 rL7 rC7, .slice r14 rL8 rC8, .int .i64 r15], .bool false]) h29)
  (l50_played_b2 t3 t s (some ⟨b4, 0, none⟩) t15 t15L t15C t16 t17 h22 nx0 K)))
  (l50_played_b3 t3 t s h  K)) := by kernel_rfl
theorem l50_played_b2_eq (t3 : Option Addr) (t : Option Addr) (s : Option Addr) (next : Option Addr) (t15 : Option Addr) (t15L : Nat) (t15C : Nat) (t16 : Int) (t17 : Int) (h : Hp) (nx0 : Int × Unit → Hp → Prop) (K : Value → Hp → Prop) : l50_played_b2 t3 t s next t15 t15L t15C t16 t17 h nx0 K = (
  NN next fun a22 =>
  ∃ (a23 : Option Addr) (L14 C14 : Nat), ∃ (a24 : Option Addr) (L15 C15 : Nat), ∃ n17 : Int, cell h a22 = some (.slice a23 L14 C14) ∧
  cell h (a22.add 1) = some (.slice a24 L15 C15) ∧
  cell h (a22.add 2) = some (.int .i64 n17) ∧
  NN s fun a25 =>
  Wr h a25 (.slice a23 L14 C14) fun h30 =>
  Wr h30 (a25.add 1) (.slice a24 L15 C15) fun h31 =>
  Wr h31 (a25.add 2) (.int .i64 n17) fun h32 =>
  l50_played_b4 t3 t s t15 t15L t15C t16 t17 h32 nx0 K) := by kernel_rfl
theorem l50_played_b3_eq (t3 : Option Addr) (t : Option Addr) (s : Option Addr) (h : Hp)  (K : Value → Hp → Prop) : l50_played_b3 t3 t s h  K = (
  NN s fun a26 =>
  ∃ (a27 : Option Addr) (L16 C16 : Nat), ∃ (a28 : Option Addr) (L17 C17 : Nat), ∃ n18 : Int, cell h a26 = some (.slice a27 L16 C16) ∧
  cell h (a26.add 1) = some (.slice a28 L17 C17) ∧
  cell h (a26.add 2) = some (.int .i64 n18) ∧
  NN t3 fun a29 =>
  Wr h a29 (.slice a27 L16 C16) fun h33 =>
  Wr h33 (a29.add 1) (.slice a28 L17 C17) fun h34 =>
  Wr h34 (a29.add 2) (.int .i64 n18) fun h35 =>
  NN t3 fun a30 =>
  ∃ (r16 : Option Addr) (rL9 rC9 : Nat), ∃ (r17 : Option Addr) (rL10 rC10 : Nat), ∃ r18 : Int, cell h35 a30 = some (.slice r16 rL9 rC9) ∧
  cell h35 (a30.add 1) = some (.slice r17 rL10 rC10) ∧
  cell h35 (a30.add 2) = some (.int .i64 r18) ∧
  K (.tuple #[.pointer t, .agg #[.slice r16 rL9 rC9, .slice r17 rL10 rC10, .int .i64 r18], .bool true]) h35) := by kernel_rfl
theorem l50_played_b4_eq (t3 : Option Addr) (t : Option Addr) (s : Option Addr) (t15 : Option Addr) (t15L : Nat) (t15C : Nat) (t16 : Int) (t17 : Int) (h : Hp) (nx0 : Int × Unit → Hp → Prop) (K : Value → Hp → Prop) : l50_played_b4 t3 t s t15 t15L t15C t16 t17 h nx0 K = (
  InR (t17 + 1) ∧
  nx0 (t17 + 1, ()) h) := by kernel_rfl
theorem l50_played_call {l : Option Addr} {lL : Nat} {lC : Nat} {h : Hp} {K : Value → Hp → Prop} (hk : l50_played_b0 l lL lC h K) : HCalls Tryz.prog 7 #[.slice l lL lC] h K :=
  calls_of_snd l50_played_an Tryz.func7 (c := bodyOf Tryz.f7) rfl Tryz.ntmps7 (Nat.le_of_ble_eq_true rfl) (snd_3 F_ok F_mixed) hk

/-! ### table_Table_List -/
def table_Table_List_an : Ann := .leaf
def table_Table_List_K0  (K : Value → Hp → Prop) : Exit → Env → Hp → Prop := retK Tryz.prog Tryz.f8.results.toList K
def table_Table_List_b0 (t : Option Addr) (h : Hp)  (K : Value → Hp → Prop) : Prop :=
  sx_1 Tryz.prog F 7 (cp [] (bodyOf Tryz.f8)) (ap [] table_Table_List_an) [(0, .pointer t)] h (table_Table_List_K0  K)
theorem table_Table_List_b0_eq (t : Option Addr) (h : Hp)  (K : Value → Hp → Prop) : table_Table_List_b0 t h  K = (
  cond t.isNone
  (K (.slice none 0 0) h)
  (HCalls Tryz.prog 35 #[.pointer t, .func (.func 36) #[] #[]] h fun v1 h1 => ∃ (r1 : Option Addr) (rL1 rC1 : Nat), v1 = .slice r1 rL1 rC1 ∧
  K (.slice r1 rL1 rC1) h1)) := by kernel_rfl
theorem table_Table_List_call {t : Option Addr} {h : Hp} {K : Value → Hp → Prop} (hk : table_Table_List_b0 t h K) : HCalls Tryz.prog 8 #[.pointer t] h K :=
  calls_of_snd table_Table_List_an Tryz.func8 (c := bodyOf Tryz.f8) rfl Tryz.ntmps8 (Nat.le_of_ble_eq_true rfl) (snd_1 F_ok F_mixed) hk

/-! ### table_Table_ByKey -/
def table_Table_ByKey_an : Ann := .node none (.leaf) (.node none (.leaf) (.node none (.tail 7) (.leaf)))
def table_Table_ByKey_K0  (K : Value → Hp → Prop) : Exit → Env → Hp → Prop := retK Tryz.prog Tryz.f9.results.toList K
def table_Table_ByKey_b0 (t : Option Addr) (fromv : Int) (to : Int) (h : Hp)  (K : Value → Hp → Prop) : Prop :=
  sx_1 Tryz.prog F 23 (cp [] (bodyOf Tryz.f9)) (ap [] table_Table_ByKey_an) [(0, .pointer t), (1, .int .i64 fromv), (2, .int .i64 to)] h (table_Table_ByKey_K0  K)
theorem table_Table_ByKey_b0_eq (t : Option Addr) (fromv : Int) (to : Int) (h : Hp)  (K : Value → Hp → Prop) : table_Table_ByKey_b0 t fromv to h  K = (
  New h (.cells #[.pointer t] 25) fun b1 h1 =>
  ∃ p1 : Option Addr, cell h1 ⟨b1, 0, none⟩ = some (.pointer p1) ∧
  cond p1.isNone
  (K (.tuple #[.slice none 0 0, .int .i64 1]) h1)
  (∃ p2 : Option Addr, cell h1 ⟨b1, 0, none⟩ = some (.pointer p2) ∧
  ∃ p3 : Option Addr, cell h1 ⟨b1, 0, none⟩ = some (.pointer p3) ∧
  NN p3 fun a1 =>
  ∃ (a2 : Option Addr) (L1 C1 : Nat), cell h1 (a1.add 3) = some (.slice a2 L1 C1) ∧
  HCalls Tryz.prog 37 #[.pointer p2, .slice a2 L1 C1, .func (.func 38) #[] #[], .int .i64 fromv, .int .i64 to, .func (.func 39) #[] #[]] h1 fun v1 h2 => ∃ (r1 : Option Addr) (rL1 rC1 : Nat), v1 = .slice r1 rL1 rC1 ∧
  HCalls Tryz.prog 40 #[.slice r1 rL1 rC1, .func (.func 41) #[] #[.pointer (some ⟨b1, 0, none⟩)]] h2 fun v2 h3 => v2 = .tuple #[] ∧
  K (.tuple #[.slice r1 rL1 rC1, .int .i64 0]) h3)) := by kernel_rfl
theorem table_Table_ByKey_call {t : Option Addr} {fromv : Int} {to : Int} {h : Hp} {K : Value → Hp → Prop} (hk : table_Table_ByKey_b0 t fromv to h K) : HCalls Tryz.prog 9 #[.pointer t, .int .i64 fromv, .int .i64 to] h K :=
  calls_of_snd table_Table_ByKey_an Tryz.func9 (c := bodyOf Tryz.f9) rfl Tryz.ntmps9 (Nat.le_of_ble_eq_true rfl) (snd_1 F_ok F_mixed) hk

/-! ### table_Table_ByPlace -/
def table_Table_ByPlace_an : Ann := .leaf
def table_Table_ByPlace_K0  (K : Value → Hp → Prop) : Exit → Env → Hp → Prop := retK Tryz.prog Tryz.f10.results.toList K
def table_Table_ByPlace_b0 (t : Option Addr) (x1 : Int) (x2 : Int) (y1 : Int) (y2 : Int) (h : Hp)  (K : Value → Hp → Prop) : Prop :=
  sx_1 Tryz.prog F 27 (cp [] (bodyOf Tryz.f10)) (ap [] table_Table_ByPlace_an) [(0, .pointer t), (1, .int .i64 x1), (2, .int .i64 x2), (3, .int .i64 y1), (4, .int .i64 y2)] h (table_Table_ByPlace_K0  K)
theorem table_Table_ByPlace_b0_eq (t : Option Addr) (x1 : Int) (x2 : Int) (y1 : Int) (y2 : Int) (h : Hp)  (K : Value → Hp → Prop) : table_Table_ByPlace_b0 t x1 x2 y1 y2 h  K = (
  New h (.cells #[.int .i64 y1] 3) fun b1 h1 =>
  New h1 (.cells #[.int .i64 y2] 3) fun b2 h2 =>
  cond t.isNone
  (K (.tuple #[.slice none 0 0, .int .i64 1]) h2)
  (NN t fun a1 =>
  ∃ (a2 : Option Addr) (L1 C1 : Nat), cell h2 (a1.add 4) = some (.slice a2 L1 C1) ∧
  HCalls Tryz.prog 37 #[.pointer t, .slice a2 L1 C1, .func (.func 43) #[] #[], .int .i64 x1, .int .i64 x2, .func (.func 44) #[] #[.pointer (some ⟨b1, 0, none⟩), .pointer (some ⟨b2, 0, none⟩)]] h2 fun v1 h3 => ∃ (r1 : Option Addr) (rL1 rC1 : Nat), v1 = .slice r1 rL1 rC1 ∧
  HCalls Tryz.prog 45 #[.slice r1 rL1 rC1] h3 fun v2 h4 => v2 = .tuple #[] ∧
  K (.tuple #[.slice r1 rL1 rC1, .int .i64 0]) h4)) := by kernel_rfl
theorem table_Table_ByPlace_call {t : Option Addr} {x1 : Int} {x2 : Int} {y1 : Int} {y2 : Int} {h : Hp} {K : Value → Hp → Prop} (hk : table_Table_ByPlace_b0 t x1 x2 y1 y2 h K) : HCalls Tryz.prog 10 #[.pointer t, .int .i64 x1, .int .i64 x2, .int .i64 y1, .int .i64 y2] h K :=
  calls_of_snd table_Table_ByPlace_an Tryz.func10 (c := bodyOf Tryz.f10) rfl Tryz.ntmps10 (Nat.le_of_ble_eq_true rfl) (snd_1 F_ok F_mixed) hk

/-! ### table_Table_ByName -/
def table_Table_ByName_an : Ann := .leaf
def table_Table_ByName_K0  (K : Value → Hp → Prop) : Exit → Env → Hp → Prop := retK Tryz.prog Tryz.f11.results.toList K
def table_Table_ByName_b0 (t : Option Addr) (part : ByteArray) (h : Hp)  (K : Value → Hp → Prop) : Prop :=
  sx_1 Tryz.prog F 11 (cp [] (bodyOf Tryz.f11)) (ap [] table_Table_ByName_an) [(0, .pointer t), (1, .string part)] h (table_Table_ByName_K0  K)
theorem table_Table_ByName_b0_eq (t : Option Addr) (part : ByteArray) (h : Hp)  (K : Value → Hp → Prop) : table_Table_ByName_b0 t part h  K = (
  New h (.cells #[.string part] 9) fun b1 h1 =>
  cond t.isNone
  (K (.tuple #[.slice none 0 0, .int .i64 1]) h1)
  (HCalls Tryz.prog 35 #[.pointer t, .func (.func 46) #[] #[.pointer (some ⟨b1, 0, none⟩)]] h1 fun v1 h2 => ∃ (r1 : Option Addr) (rL1 rC1 : Nat), v1 = .slice r1 rL1 rC1 ∧
  K (.tuple #[.slice r1 rL1 rC1, .int .i64 0]) h2)) := by kernel_rfl
theorem table_Table_ByName_call {t : Option Addr} {part : ByteArray} {h : Hp} {K : Value → Hp → Prop} (hk : table_Table_ByName_b0 t part h K) : HCalls Tryz.prog 11 #[.pointer t, .string part] h K :=
  calls_of_snd table_Table_ByName_an Tryz.func11 (c := bodyOf Tryz.f11) rfl Tryz.ntmps11 (Nat.le_of_ble_eq_true rfl) (snd_1 F_ok F_mixed) hk

/-! ### table_Table_Weight -/
def table_Table_Weight_an : Ann := .node none (.leaf) (.node none (.leaf) (.node none (.leaf) (.node (some [13, 14]) (.node none (.leaf) (.loop [0, 13, 26, 27] [(14, .int .i64), (28, .int .i64)] (.node none (.leaf) (.node none (.leaf) (.node (some [0, 13, 14, 26, 27, 28]) (.leaf) (.leaf)))))) (.leaf))))
def table_Table_Weight_K0  (K : Value → Hp → Prop) : Exit → Env → Hp → Prop := retK Tryz.prog Tryz.f12.results.toList K
def table_Table_Weight_K1  (K : Value → Hp → Prop) : Exit → Env → Hp → Prop := thenE (fun env h => sx_2 Tryz.prog F 46 (cp [1, 1, 1, 1] (bodyOf Tryz.f12)) (ap [1, 1, 1, 1] table_Table_Weight_an) (rs [13, 14] env) h (table_Table_Weight_K0  K)) (table_Table_Weight_K0  K)
def table_Table_Weight_K2  (K : Value → Hp → Prop) : Exit → Env → Hp → Prop := blockE 0 (table_Table_Weight_K1  K)
def table_Table_Weight_K3 (nx0 : Int × Int × Unit → Hp → Prop) (K : Value → Hp → Prop) : Exit → Env → Hp → Prop := thenE (fun env h => getV [(14, .int .i64), (28, .int .i64)] env fun s => nx0 s h) (table_Table_Weight_K2  K)
def table_Table_Weight_b0 (t : Option Addr) (x1 : Int) (x2 : Int) (y1 : Int) (y2 : Int) (h : Hp)  (K : Value → Hp → Prop) : Prop :=
  sx_3 Tryz.prog F 46 (cp [] (bodyOf Tryz.f12)) (ap [] table_Table_Weight_an) [(0, .pointer t), (1, .int .i64 x1), (2, .int .i64 x2), (3, .int .i64 y1), (4, .int .i64 y2)] h (table_Table_Weight_K0  K)
def table_Table_Weight_b1 (sum : Int) (t28 : Int) (t : Option Addr) (e : Int) (t26 : Option Addr) (t26L : Nat) (t26C : Nat) (t27 : Int) (h : Hp) (nx0 : Int × Int × Unit → Hp → Prop) (K : Value → Hp → Prop) : Prop :=
  sx_2 Tryz.prog F 46 (cp [1, 1, 1, 0, 1, 2, 2] (bodyOf Tryz.f12)) (ap [1, 1, 1, 0, 1, 2] table_Table_Weight_an) [(14, .int .i64 sum), (28, .int .i64 t28), (0, .pointer t), (13, .int .i64 e), (26, .slice t26 t26L t26C), (27, .int .i64 t27)] h (table_Table_Weight_K3 nx0 K)
def table_Table_Weight_b2 (t : Option Addr) (e : Int) (sum : Int) (t26 : Option Addr) (t26L : Nat) (t26C : Nat) (t27 : Int) (t28 : Int) (h : Hp) (nx0 : Int × Int × Unit → Hp → Prop) (K : Value → Hp → Prop) : Prop :=
  sx_1 Tryz.prog F 46 (cp [1, 1, 1, 0, 1, 2, 2, 1, 1, 1] (bodyOf Tryz.f12)) (ap [1, 1, 1, 0, 1, 2, 1, 1, 1] table_Table_Weight_an) [(0, .pointer t), (13, .int .i64 e), (14, .int .i64 sum), (26, .slice t26 t26L t26C), (27, .int .i64 t27), (28, .int .i64 t28)] h (table_Table_Weight_K3 nx0 K)
def table_Table_Weight_b3 (e : Int) (sum : Int) (h : Hp)  (K : Value → Hp → Prop) : Prop :=
  sx_2 Tryz.prog F 46 (cp [1, 1, 1, 1] (bodyOf Tryz.f12)) (ap [1, 1, 1, 1] table_Table_Weight_an) [(13, .int .i64 e), (14, .int .i64 sum)] h (table_Table_Weight_K0  K)
theorem table_Table_Weight_b0_eq (t : Option Addr) (x1 : Int) (x2 : Int) (y1 : Int) (y2 : Int) (h : Hp)  (K : Value → Hp → Prop) : table_Table_Weight_b0 t x1 x2 y1 y2 h  K = (
  HCalls Tryz.prog 10 #[.pointer t, .int .i64 x1, .int .i64 x2, .int .i64 y1, .int .i64 y2] h fun v1 h1 => ∃ (r1 : Option Addr) (rL1 rC1 : Nat), ∃ r2 : Int, v1 = .tuple #[.slice r1 rL1 rC1, .int .i64 r2] ∧
  LoopVC ((0, 0, ()) : Int × Int × Unit) h1 (fun (nx0 : Int × Int × Unit → Hp → Prop) (s1 : Int × Int × Unit) h2 => table_Table_Weight_b1 s1.1 s1.2.1 t r2 r1 rL1 rC1 (rL1 : Int) h2 nx0 K)) := by kernel_rfl
theorem table_Table_Weight_b1_eq (sum : Int) (t28 : Int) (t : Option Addr) (e : Int) (t26 : Option Addr) (t26L : Nat) (t26C : Nat) (t27 : Int) (h : Hp) (nx0 : Int × Int × Unit → Hp → Prop) (K : Value → Hp → Prop) : table_Table_Weight_b1 sum t28 t e t26 t26L t26C t27 h nx0 K = (
  cond (decide (t28 < t27))
  ((0 ≤ t28 ∧ t28 < (t26L : Int)) ∧
  NN t26 fun a1 =>
  ∃ n1 : Int, cell h (a1.add (Int.toNat t28 * 1)) = some (.int .i64 n1) ∧
  NN t fun a2 =>
  ∃ v2 : Value, cell h a2 = some (v2) ∧
  lookV Tryz.prog 78 v2 (.int .i64 n1) false h fun v3 => ∃ r3 : Option Addr, v3 = .pointer r3 ∧
  NN r3 fun a3 =>
  ∃ n2 : Int, cell h (a3.add 3) = some (.int .i64 n2) ∧
  InR (sum + n2) ∧
  table_Table_Weight_b2 t e (sum + n2) t26 t26L t26C t27 t28 h nx0 K)
  (table_Table_Weight_b3 e sum h  K)) := by kernel_rfl
theorem table_Table_Weight_b2_eq (t : Option Addr) (e : Int) (sum : Int) (t26 : Option Addr) (t26L : Nat) (t26C : Nat) (t27 : Int) (t28 : Int) (h : Hp) (nx0 : Int × Int × Unit → Hp → Prop) (K : Value → Hp → Prop) : table_Table_Weight_b2 t e sum t26 t26L t26C t27 t28 h nx0 K = (
  InR (t28 + 1) ∧
  nx0 (sum, t28 + 1, ()) h) := by kernel_rfl
theorem table_Table_Weight_b3_eq (e : Int) (sum : Int) (h : Hp)  (K : Value → Hp → Prop) : table_Table_Weight_b3 e sum h  K = (
  K (.tuple #[.int .i64 sum, .int .i64 e]) h) := by kernel_rfl
theorem table_Table_Weight_call {t : Option Addr} {x1 : Int} {x2 : Int} {y1 : Int} {y2 : Int} {h : Hp} {K : Value → Hp → Prop} (hk : table_Table_Weight_b0 t x1 x2 y1 y2 h K) : HCalls Tryz.prog 12 #[.pointer t, .int .i64 x1, .int .i64 x2, .int .i64 y1, .int .i64 y2] h K :=
  calls_of_snd table_Table_Weight_an Tryz.func12 (c := bodyOf Tryz.f12) rfl Tryz.ntmps12 (Nat.le_of_ble_eq_true rfl) (snd_3 F_ok F_mixed) hk

/-! ### slices_Max_Sapi_Errno_api_Errno -/
/-! ### slices_Sorted_int -/
/-! ### slices_Values_Sint_int -/
/-! ### slices_Concat_Sint_int -/
/-! ### EqI -/
def EqI_an : Ann := .node none (.leaf) (.node none (.leaf) (.node (some []) (.node none (.leaf) (.loop [0, 1, 12] [(13, .int .i64)] (.node none (.leaf) (.node none (.leaf) (.node (some [0, 1, 12, 13]) (.leaf) (.leaf)))))) (.leaf)))
def EqI_K0  (K : Value → Hp → Prop) : Exit → Env → Hp → Prop := retK Tryz.prog Tryz.f17.results.toList K
def EqI_K1  (K : Value → Hp → Prop) : Exit → Env → Hp → Prop := thenE (fun env h => sx_2 Tryz.prog F 26 (cp [1, 1, 1] (bodyOf Tryz.f17)) (ap [1, 1, 1] EqI_an) (rs [] env) h (EqI_K0  K)) (EqI_K0  K)
def EqI_K2  (K : Value → Hp → Prop) : Exit → Env → Hp → Prop := blockE 0 (EqI_K1  K)
def EqI_K3 (nx0 : Int × Unit → Hp → Prop) (K : Value → Hp → Prop) : Exit → Env → Hp → Prop := thenE (fun env h => getV [(13, .int .i64)] env fun s => nx0 s h) (EqI_K2  K)
def EqI_b0 (s1 : Option Addr) (s1L : Nat) (s1C : Nat) (s2 : Option Addr) (s2L : Nat) (s2C : Nat) (h : Hp)  (K : Value → Hp → Prop) : Prop :=
  sx_3 Tryz.prog F 26 (cp [] (bodyOf Tryz.f17)) (ap [] EqI_an) [(0, .slice s1 s1L s1C), (1, .slice s2 s2L s2C)] h (EqI_K0  K)
def EqI_b1 (t13 : Int) (s1 : Option Addr) (s1L : Nat) (s1C : Nat) (s2 : Option Addr) (s2L : Nat) (s2C : Nat) (t12 : Int) (h : Hp) (nx0 : Int × Unit → Hp → Prop) (K : Value → Hp → Prop) : Prop :=
  sx_2 Tryz.prog F 26 (cp [1, 1, 0, 1, 2, 2] (bodyOf Tryz.f17)) (ap [1, 1, 0, 1, 2] EqI_an) [(13, .int .i64 t13), (0, .slice s1 s1L s1C), (1, .slice s2 s2L s2C), (12, .int .i64 t12)] h (EqI_K3 nx0 K)
def EqI_b2 (s1 : Option Addr) (s1L : Nat) (s1C : Nat) (s2 : Option Addr) (s2L : Nat) (s2C : Nat) (t12 : Int) (t13 : Int) (h : Hp) (nx0 : Int × Unit → Hp → Prop) (K : Value → Hp → Prop) : Prop :=
  sx_1 Tryz.prog F 26 (cp [1, 1, 0, 1, 2, 2, 1, 1, 1] (bodyOf Tryz.f17)) (ap [1, 1, 0, 1, 2, 1, 1, 1] EqI_an) [(0, .slice s1 s1L s1C), (1, .slice s2 s2L s2C), (12, .int .i64 t12), (13, .int .i64 t13)] h (EqI_K3 nx0 K)
def EqI_b3  (h : Hp)  (K : Value → Hp → Prop) : Prop :=
  sx_2 Tryz.prog F 26 (cp [1, 1, 1] (bodyOf Tryz.f17)) (ap [1, 1, 1] EqI_an) [] h (EqI_K0  K)
theorem EqI_b0_eq (s1 : Option Addr) (s1L : Nat) (s1C : Nat) (s2 : Option Addr) (s2L : Nat) (s2C : Nat) (h : Hp)  (K : Value → Hp → Prop) : EqI_b0 s1 s1L s1C s2 s2L s2C h  K = (
  cond (!decide ((s1L : Int) = (s2L : Int)))
  (K (.bool false) h)
  (LoopVC ((0, ()) : Int × Unit) h (fun (nx0 : Int × Unit → Hp → Prop) (s3 : Int × Unit) h1 => EqI_b1 s3.1 s1 s1L s1C s2 s2L s2C (s1L : Int) h1 nx0 K))) := by kernel_rfl
theorem EqI_b1_eq (t13 : Int) (s1 : Option Addr) (s1L : Nat) (s1C : Nat) (s2 : Option Addr) (s2L : Nat) (s2C : Nat) (t12 : Int) (h : Hp) (nx0 : Int × Unit → Hp → Prop) (K : Value → Hp → Prop) : EqI_b1 t13 s1 s1L s1C s2 s2L s2C t12 h nx0 K = (
  cond (decide (t13 < t12))
  ((0 ≤ t13 ∧ t13 < (s1L : Int)) ∧
  NN s1 fun a1 =>
  ∃ n1 : Int, cell h (a1.add (Int.toNat t13 * 1)) = some (.int .i64 n1) ∧
  (0 ≤ t13 ∧ t13 < (s2L : Int)) ∧
  NN s2 fun a2 =>
  ∃ n2 : Int, cell h (a2.add (Int.toNat t13 * 1)) = some (.int .i64 n2) ∧
  cond (!decide (n1 = n2))
  (K (.bool false) h)
  (EqI_b2 s1 s1L s1C s2 s2L s2C t12 t13 h nx0 K))
  (EqI_b3  h  K)) := by kernel_rfl
theorem EqI_b2_eq (s1 : Option Addr) (s1L : Nat) (s1C : Nat) (s2 : Option Addr) (s2L : Nat) (s2C : Nat) (t12 : Int) (t13 : Int) (h : Hp) (nx0 : Int × Unit → Hp → Prop) (K : Value → Hp → Prop) : EqI_b2 s1 s1L s1C s2 s2L s2C t12 t13 h nx0 K = (
  InR (t13 + 1) ∧
  nx0 (t13 + 1, ()) h) := by kernel_rfl
theorem EqI_b3_eq  (h : Hp)  (K : Value → Hp → Prop) : EqI_b3  h  K = (
  K (.bool true) h) := by kernel_rfl
theorem EqI_call {s1 : Option Addr} {s1L : Nat} {s1C : Nat} {s2 : Option Addr} {s2L : Nat} {s2C : Nat} {h : Hp} {K : Value → Hp → Prop} (hk : EqI_b0 s1 s1L s1C s2 s2L s2C h K) : HCalls Tryz.prog 17 #[.slice s1 s1L s1C, .slice s2 s2L s2C] h K :=
  calls_of_snd EqI_an Tryz.func17 (c := bodyOf Tryz.f17) rfl Tryz.ntmps17 (Nat.le_of_ble_eq_true rfl) (snd_3 F_ok F_mixed) hk

/-! ### table_Table_Get -/
def table_Table_Get_an : Ann := .node none (.leaf) (.node (some [0, 1, 4]) (.leaf) (.leaf))
def table_Table_Get_K0  (K : Value → Hp → Prop) : Exit → Env → Hp → Prop := retK Tryz.prog Tryz.f18.results.toList K
def table_Table_Get_b0 (t : Option Addr) (id : Int) (h : Hp)  (K : Value → Hp → Prop) : Prop :=
  sx_2 Tryz.prog F 27 (cp [] (bodyOf Tryz.f18)) (ap [] table_Table_Get_an) [(0, .pointer t), (1, .int .i64 id)] h (table_Table_Get_K0  K)
def table_Table_Get_b1 (t : Option Addr) (id : Int) (t4 : Option Addr) (h : Hp)  (K : Value → Hp → Prop) : Prop :=
  sx_1 Tryz.prog F 27 (cp [1, 1] (bodyOf Tryz.f18)) (ap [1, 1] table_Table_Get_an) [(0, .pointer t), (1, .int .i64 id), (4, .pointer t4)] h (table_Table_Get_K0  K)
theorem table_Table_Get_b0_eq (t : Option Addr) (id : Int) (h : Hp)  (K : Value → Hp → Prop) : table_Table_Get_b0 t id h  K = (
  New h (.cells #[.int .i64 0, .int .i64 0, .int .i64 0, .int .i64 0, .string (⟨#[]⟩ : ByteArray)] 49) fun b1 h1 =>
  cond t.isNone
  (Wr h1 ⟨b1, 0, none⟩ (.int .i64 0) fun h2 =>
  Wr h2 ((⟨b1, 0, none⟩ : Addr).add 1) (.int .i64 0) fun h3 =>
  Wr h3 ((⟨b1, 0, none⟩ : Addr).add 2) (.int .i64 0) fun h4 =>
  Wr h4 ((⟨b1, 0, none⟩ : Addr).add 3) (.int .i64 0) fun h5 =>
  Wr h5 ((⟨b1, 0, none⟩ : Addr).add 4) (.string (⟨#[]⟩ : ByteArray)) fun h6 =>
  ∃ r1 : Int, ∃ r2 : Int, ∃ r3 : Int, ∃ r4 : Int, ∃ r5 : ByteArray, cell h6 ⟨b1, 0, none⟩ = some (.int .i64 r1) ∧
  cell h6 ((⟨b1, 0, none⟩ : Addr).add 1) = some (.int .i64 r2) ∧
  cell h6 ((⟨b1, 0, none⟩ : Addr).add 2) = some (.int .i64 r3) ∧
  cell h6 ((⟨b1, 0, none⟩ : Addr).add 3) = some (.int .i64 r4) ∧
  cell h6 ((⟨b1, 0, none⟩ : Addr).add 4) = some (.string r5) ∧
  K (.tuple #[.agg #[.int .i64 r1, .int .i64 r2, .int .i64 r3, .int .i64 r4, .string r5], .int .i64 1]) h6)
  (NN t fun a1 =>
  ∃ v1 : Value, cell h1 a1 = some (v1) ∧
  lookV Tryz.prog 78 v1 (.int .i64 id) false h1 fun v2 => ∃ r6 : Option Addr, v2 = .pointer r6 ∧
  cond r6.isNone
  (Wr h1 ⟨b1, 0, none⟩ (.int .i64 0) fun h7 =>
  Wr h7 ((⟨b1, 0, none⟩ : Addr).add 1) (.int .i64 0) fun h8 =>
  Wr h8 ((⟨b1, 0, none⟩ : Addr).add 2) (.int .i64 0) fun h9 =>
  Wr h9 ((⟨b1, 0, none⟩ : Addr).add 3) (.int .i64 0) fun h10 =>
  Wr h10 ((⟨b1, 0, none⟩ : Addr).add 4) (.string (⟨#[]⟩ : ByteArray)) fun h11 =>
  ∃ r7 : Int, ∃ r8 : Int, ∃ r9 : Int, ∃ r10 : Int, ∃ r11 : ByteArray, cell h11 ⟨b1, 0, none⟩ = some (.int .i64 r7) ∧
  cell h11 ((⟨b1, 0, none⟩ : Addr).add 1) = some (.int .i64 r8) ∧
  cell h11 ((⟨b1, 0, none⟩ : Addr).add 2) = some (.int .i64 r9) ∧
  cell h11 ((⟨b1, 0, none⟩ : Addr).add 3) = some (.int .i64 r10) ∧
  cell h11 ((⟨b1, 0, none⟩ : Addr).add 4) = some (.string r11) ∧
  K (.tuple #[.agg #[.int .i64 r7, .int .i64 r8, .int .i64 r9, .int .i64 r10, .string r11], .int .i64 12]) h11)
  (table_Table_Get_b1 t id (some ⟨b1, 0, none⟩) h1  K))) := by kernel_rfl
theorem table_Table_Get_call {t : Option Addr} {id : Int} {h : Hp} {K : Value → Hp → Prop} (hk : table_Table_Get_b0 t id h K) : HCalls Tryz.prog 18 #[.pointer t, .int .i64 id] h K :=
  calls_of_snd table_Table_Get_an Tryz.func18 (c := bodyOf Tryz.f18) rfl Tryz.ntmps18 (Nat.le_of_ble_eq_true rfl) (snd_2 F_ok F_mixed) hk

/-! ### table_Table_Update -/
def table_Table_Update_an : Ann := .node none (.leaf) (.node (some [0, 1, 5]) (.leaf) (.node none (.leaf) (.node (some [0, 1, 5]) (.node none (.plan (.qu 0 (.qu 1 (.qu 2 (.qu 3 (.qu 4 (.qu 5 (.wo 6 (.qu 7 (.qu 8 (.qu 9 (.wo 10 (.wo 11 .fin .no) .no)))) .no)))))))) (.leaf)) (.leaf))))
def table_Table_Update_K0  (K : Value → Hp → Prop) : Exit → Env → Hp → Prop := retK Tryz.prog Tryz.f19.results.toList K
def table_Table_Update_b0 (t : Option Addr) (id : Int) (r_0 : Int) (r_1 : Int) (r_2 : Int) (r_3 : Int) (r_4 : ByteArray) (h : Hp)  (K : Value → Hp → Prop) : Prop :=
  sx_3 Tryz.prog F 48 (cp [] (bodyOf Tryz.f19)) (ap [] table_Table_Update_an) [(0, .pointer t), (1, .int .i64 id), (2, .agg #[.int .i64 r_0, .int .i64 r_1, .int .i64 r_2, .int .i64 r_3, .string r_4])] h (table_Table_Update_K0  K)
def table_Table_Update_b1 (t : Option Addr) (id : Int) (r : Option Addr) (h : Hp)  (K : Value → Hp → Prop) : Prop :=
  sx_2 Tryz.prog F 48 (cp [1, 1] (bodyOf Tryz.f19)) (ap [1, 1] table_Table_Update_an) [(0, .pointer t), (1, .int .i64 id), (5, .pointer r)] h (table_Table_Update_K0  K)
def table_Table_Update_b2 (t : Option Addr) (id : Int) (r : Option Addr) (h : Hp)  (K : Value → Hp → Prop) : Prop :=
  sx_1 Tryz.prog F 48 (cp [1, 1, 1, 1] (bodyOf Tryz.f19)) (ap [1, 1, 1, 1] table_Table_Update_an) [(0, .pointer t), (1, .int .i64 id), (5, .pointer r)] h (table_Table_Update_K0  K)
theorem table_Table_Update_b0_eq (t : Option Addr) (id : Int) (r_0 : Int) (r_1 : Int) (r_2 : Int) (r_3 : Int) (r_4 : ByteArray) (h : Hp)  (K : Value → Hp → Prop) : table_Table_Update_b0 t id r_0 r_1 r_2 r_3 r_4 h  K = (
  New h (.cells #[.int .i64 r_0, .int .i64 r_1, .int .i64 r_2, .int .i64 r_3, .string r_4] 49) fun b1 h1 =>
  cond t.isNone
  (K (.int .i64 1) h1)
  (∃ n1 : Int, ∃ n2 : Int, ∃ n3 : Int, ∃ n4 : Int, ∃ s1 : ByteArray, cell h1 ⟨b1, 0, none⟩ = some (.int .i64 n1) ∧
  cell h1 ((⟨b1, 0, none⟩ : Addr).add 1) = some (.int .i64 n2) ∧
  cell h1 ((⟨b1, 0, none⟩ : Addr).add 2) = some (.int .i64 n3) ∧
  cell h1 ((⟨b1, 0, none⟩ : Addr).add 3) = some (.int .i64 n4) ∧
  cell h1 ((⟨b1, 0, none⟩ : Addr).add 4) = some (.string s1) ∧
  HCalls Tryz.prog 51 #[.agg #[.int .i64 n1, .int .i64 n2, .int .i64 n3, .int .i64 n4, .string s1]] h1 fun v1 h2 => ∃ r1 : Bool, v1 = .bool r1 ∧
  cond (!r1)
  (K (.int .i64 1) h2)
  (table_Table_Update_b1 t id (some ⟨b1, 0, none⟩) h2  K))) := by kernel_rfl
theorem table_Table_Update_b1_eq (t : Option Addr) (id : Int) (r : Option Addr) (h : Hp)  (K : Value → Hp → Prop) : table_Table_Update_b1 t id r h  K = (
  NN t fun a1 =>
  ∃ v2 : Value, cell h a1 = some (v2) ∧
  lookV Tryz.prog 78 v2 (.int .i64 id) false h fun v3 => ∃ r2 : Option Addr, v3 = .pointer r2 ∧
  cond r2.isNone
  (K (.int .i64 12) h)
  (NN t fun a2 =>
  ∃ v4 : Value, cell h (a2.add 1) = some (v4) ∧
  NN r fun a3 =>
  ∃ n5 : Int, cell h a3 = some (.int .i64 n5) ∧
  lookV Tryz.prog 79 v4 (.int .i64 n5) true h fun v5 => ∃ r3 : Int, ∃ r4 : Bool, v5 = .tuple #[.int .i64 r3, .bool r4] ∧
  cond r4
  (cond (!decide (r3 = id))
  (K (.int .i64 15) h)
  (table_Table_Update_b2 t id r h  K))
  (table_Table_Update_b2 t id r h  K))) := by kernel_rfl
theorem table_Table_Update_b2_eq (t : Option Addr) (id : Int) (r : Option Addr) (h : Hp)  (K : Value → Hp → Prop) : table_Table_Update_b2 t id r h  K = (
  HCalls Tryz.prog 52 #[.pointer t, .int .i64 id] h fun v6 h3 => v6 = .tuple #[] ∧
  NN r fun a4 =>
  ∃ n6 : Int, ∃ n7 : Int, ∃ n8 : Int, ∃ n9 : Int, ∃ s2 : ByteArray, cell h3 a4 = some (.int .i64 n6) ∧
  cell h3 (a4.add 1) = some (.int .i64 n7) ∧
  cell h3 (a4.add 2) = some (.int .i64 n8) ∧
  cell h3 (a4.add 3) = some (.int .i64 n9) ∧
  cell h3 (a4.add 4) = some (.string s2) ∧
  HCalls Tryz.prog 53 #[.pointer t, .int .i64 id, .agg #[.int .i64 n6, .int .i64 n7, .int .i64 n8, .int .i64 n9, .string s2]] h3 fun v7 h4 => v7 = .tuple #[] ∧
  HCalls Tryz.prog 54 #[.pointer t] h4 fun v8 h5 => v8 = .tuple #[] ∧
  K (.int .i64 0) h5) := by kernel_rfl
theorem table_Table_Update_call {t : Option Addr} {id : Int} {r_0 : Int} {r_1 : Int} {r_2 : Int} {r_3 : Int} {r_4 : ByteArray} {h : Hp} {K : Value → Hp → Prop} (hk : table_Table_Update_b0 t id r_0 r_1 r_2 r_3 r_4 h K) : HCalls Tryz.prog 19 #[.pointer t, .int .i64 id, .agg #[.int .i64 r_0, .int .i64 r_1, .int .i64 r_2, .int .i64 r_3, .string r_4]] h K :=
  calls_of_snd table_Table_Update_an Tryz.func19 (c := bodyOf Tryz.f19) rfl Tryz.ntmps19 (Nat.le_of_ble_eq_true rfl) (snd_3 F_ok F_mixed) hk

/-! ### table_Table_Check -/
def table_Table_Check_an : Ann := .node none (.leaf) (.node none (.leaf) (.node none (.node none (.plan (.qu 0 (.qu 1 (.qu 2 (.qu 3 (.qu 5 (.qu 6 (.qu 7 (.qu 8 (.wo 4 (.wo 9 (.qu 10 .fin) .no) .no)))))))))) (.leaf)) (.node (some [0]) (.node none (.leaf) (.loop [0, 26] [] (.node none (.leaf) (.node none (.leaf) (.node none (.leaf) (.node none (.plan (.qu 0 (.qu 1 (.qu 2 (.qu 3 (.qu 4 (.qu 5 (.qu 6 (.qu 7 (.qu 9 (.wo 8 (.qu 10 .fin) .no))))))))))) (.leaf))))))) (.leaf))))
def table_Table_Check_K0  (K : Value → Hp → Prop) : Exit → Env → Hp → Prop := retK Tryz.prog Tryz.f20.results.toList K
def table_Table_Check_K1  (K : Value → Hp → Prop) : Exit → Env → Hp → Prop := thenE (fun env h => sx_1 Tryz.prog F 64 (cp [1, 1, 1, 1] (bodyOf Tryz.f20)) (ap [1, 1, 1, 1] table_Table_Check_an) (rs [0] env) h (table_Table_Check_K0  K)) (table_Table_Check_K0  K)
def table_Table_Check_K2  (K : Value → Hp → Prop) : Exit → Env → Hp → Prop := blockE 0 (table_Table_Check_K1  K)
def table_Table_Check_K3 (nx0 : Unit → Hp → Prop) (K : Value → Hp → Prop) : Exit → Env → Hp → Prop := thenE (fun env h => getV [] env fun s => nx0 s h) (table_Table_Check_K2  K)
def table_Table_Check_b0 (t : Option Addr) (h : Hp)  (K : Value → Hp → Prop) : Prop :=
  sx_2 Tryz.prog F 64 (cp [] (bodyOf Tryz.f20)) (ap [] table_Table_Check_an) [(0, .pointer t)] h (table_Table_Check_K0  K)
def table_Table_Check_b1 (t : Option Addr) (t26 : Value) (h : Hp) (nx0 : Unit → Hp → Prop) (K : Value → Hp → Prop) : Prop :=
  sx_1 Tryz.prog F 64 (cp [1, 1, 1, 0, 1, 2, 2] (bodyOf Tryz.f20)) (ap [1, 1, 1, 0, 1, 2] table_Table_Check_an) [(0, .pointer t), (26, t26)] h (table_Table_Check_K3 nx0 K)
theorem table_Table_Check_b0_eq (t : Option Addr) (h : Hp)  (K : Value → Hp → Prop) : table_Table_Check_b0 t h  K = (
  cond t.isNone
  (K (.bool false) h)
  (NN t fun a1 =>
  ∃ v1 : Value, cell h (a1.add 1) = some (v1) ∧
  NN t fun a2 =>
  ∃ v2 : Value, cell h a2 = some (v2) ∧
  mapLenV v1 h fun n1 =>
  (∃ v3 : Value, cell h a2 = some (v3) ∧
  (v3 : Value) = v2) ∧
  mapLenV v2 h fun n2 =>
  cond (!decide (n1 = n2))
  (K (.bool false) h)
  (NN t fun a3 =>
  ∃ v4 : Value, cell h a3 = some (v4) ∧
  rangeV Tryz.prog 78 v4 h fun it1 h1 =>
  LoopVC (() : Unit) h1 (fun (nx0 : Unit → Hp → Prop) (_ : Unit) h2 => table_Table_Check_b1 t (.pointer (some ⟨it1, 0, none⟩)) h2 nx0 K)))) := by kernel_rfl
theorem table_Table_Check_call {t : Option Addr} {h : Hp} {K : Value → Hp → Prop} (hk : table_Table_Check_b0 t h K) : HCalls Tryz.prog 20 #[.pointer t] h K :=
  calls_of_snd table_Table_Check_an Tryz.func20 (c := bodyOf Tryz.f20) rfl Tryz.ntmps20 (Nat.le_of_ble_eq_true rfl) (snd_2 F_ok F_mixed) hk

/-! ### table_Table_Insert -/
def table_Table_Insert_an : Ann := .node none (.leaf) (.node (some [0, 3]) (.leaf) (.node none (.node none (.plan (.qu 0 (.qu 1 (.qu 2 (.qu 3 (.qu 4 (.qu 5 (.wo 6 (.qu 7 (.qu 8 (.qu 9 (.wo 10 (.wo 11 .fin .no) .no)))) .no)))))))) (.leaf)) (.leaf)))
def table_Table_Insert_K0  (K : Value → Hp → Prop) : Exit → Env → Hp → Prop := retK Tryz.prog Tryz.f21.results.toList K
def table_Table_Insert_b0 (t : Option Addr) (r_0 : Int) (r_1 : Int) (r_2 : Int) (r_3 : Int) (r_4 : ByteArray) (h : Hp)  (K : Value → Hp → Prop) : Prop :=
  sx_2 Tryz.prog F 51 (cp [] (bodyOf Tryz.f21)) (ap [] table_Table_Insert_an) [(0, .pointer t), (1, .agg #[.int .i64 r_0, .int .i64 r_1, .int .i64 r_2, .int .i64 r_3, .string r_4])] h (table_Table_Insert_K0  K)
def table_Table_Insert_b1 (t : Option Addr) (r : Option Addr) (h : Hp)  (K : Value → Hp → Prop) : Prop :=
  sx_1 Tryz.prog F 51 (cp [1, 1] (bodyOf Tryz.f21)) (ap [1, 1] table_Table_Insert_an) [(0, .pointer t), (3, .pointer r)] h (table_Table_Insert_K0  K)
theorem table_Table_Insert_b0_eq (t : Option Addr) (r_0 : Int) (r_1 : Int) (r_2 : Int) (r_3 : Int) (r_4 : ByteArray) (h : Hp)  (K : Value → Hp → Prop) : table_Table_Insert_b0 t r_0 r_1 r_2 r_3 r_4 h  K = (
  New h (.cells #[.int .i64 r_0, .int .i64 r_1, .int .i64 r_2, .int .i64 r_3, .string r_4] 49) fun b1 h1 =>
  cond t.isNone
  (K (.tuple #[.int .i64 0, .int .i64 1]) h1)
  (∃ n1 : Int, ∃ n2 : Int, ∃ n3 : Int, ∃ n4 : Int, ∃ s1 : ByteArray, cell h1 ⟨b1, 0, none⟩ = some (.int .i64 n1) ∧
  cell h1 ((⟨b1, 0, none⟩ : Addr).add 1) = some (.int .i64 n2) ∧
  cell h1 ((⟨b1, 0, none⟩ : Addr).add 2) = some (.int .i64 n3) ∧
  cell h1 ((⟨b1, 0, none⟩ : Addr).add 3) = some (.int .i64 n4) ∧
  cell h1 ((⟨b1, 0, none⟩ : Addr).add 4) = some (.string s1) ∧
  HCalls Tryz.prog 51 #[.agg #[.int .i64 n1, .int .i64 n2, .int .i64 n3, .int .i64 n4, .string s1]] h1 fun v1 h2 => ∃ r1 : Bool, v1 = .bool r1 ∧
  cond (!r1)
  (K (.tuple #[.int .i64 0, .int .i64 1]) h2)
  (table_Table_Insert_b1 t (some ⟨b1, 0, none⟩) h2  K))) := by kernel_rfl
theorem table_Table_Insert_b1_eq (t : Option Addr) (r : Option Addr) (h : Hp)  (K : Value → Hp → Prop) : table_Table_Insert_b1 t r h  K = (
  NN t fun a1 =>
  ∃ v2 : Value, cell h (a1.add 1) = some (v2) ∧
  NN r fun a2 =>
  ∃ n5 : Int, cell h a2 = some (.int .i64 n5) ∧
  lookV Tryz.prog 79 v2 (.int .i64 n5) true h fun v3 => ∃ r2 : Int, ∃ r3 : Bool, v3 = .tuple #[.int .i64 r2, .bool r3] ∧
  cond r3
  (K (.tuple #[.int .i64 0, .int .i64 15]) h)
  (NN t fun a3 =>
  ∃ v4 : Value, cell h a3 = some (v4) ∧
  mapLenV v4 h fun n6 =>
  cond (decide ((1000 : Int) ≤ n6))
  (K (.tuple #[.int .i64 0, .int .i64 4]) h)
  (NN t fun a4 =>
  ∃ n7 : Int, cell h (a4.add 2) = some (.int .i64 n7) ∧
  NN t fun a5 =>
  ∃ n8 : Int, cell h (a5.add 2) = some (.int .i64 n8) ∧
  InR (n8 + 1) ∧
  NN t fun a6 =>
  Wr h (a6.add 2) (.int .i64 (n8 + 1)) fun h3 =>
  NN r fun a7 =>
  ∃ n9 : Int, ∃ n10 : Int, ∃ n11 : Int, ∃ n12 : Int, ∃ s2 : ByteArray, cell h3 a7 = some (.int .i64 n9) ∧
  cell h3 (a7.add 1) = some (.int .i64 n10) ∧
  cell h3 (a7.add 2) = some (.int .i64 n11) ∧
  cell h3 (a7.add 3) = some (.int .i64 n12) ∧
  cell h3 (a7.add 4) = some (.string s2) ∧
  HCalls Tryz.prog 53 #[.pointer t, .int .i64 n7, .agg #[.int .i64 n9, .int .i64 n10, .int .i64 n11, .int .i64 n12, .string s2]] h3 fun v5 h4 => v5 = .tuple #[] ∧
  HCalls Tryz.prog 54 #[.pointer t] h4 fun v6 h5 => v6 = .tuple #[] ∧
  K (.tuple #[.int .i64 n7, .int .i64 0]) h5))) := by kernel_rfl
theorem table_Table_Insert_call {t : Option Addr} {r_0 : Int} {r_1 : Int} {r_2 : Int} {r_3 : Int} {r_4 : ByteArray} {h : Hp} {K : Value → Hp → Prop} (hk : table_Table_Insert_b0 t r_0 r_1 r_2 r_3 r_4 h K) : HCalls Tryz.prog 21 #[.pointer t, .agg #[.int .i64 r_0, .int .i64 r_1, .int .i64 r_2, .int .i64 r_3, .string r_4]] h K :=
  calls_of_snd table_Table_Insert_an Tryz.func21 (c := bodyOf Tryz.f21) rfl Tryz.ntmps21 (Nat.le_of_ble_eq_true rfl) (snd_2 F_ok F_mixed) hk

end Go.Proofs.YtfkccighnkepgaaGreat
