/- Plain statements of what each block of code of this seat asks; printed by a program, checked by Lean. -/
import Derived.Test.YtdlkohenamlnaaaGreatSxV0
set_option maxRecDepth 10000
namespace Go.Proofs.YtdlkohenamlnaaaGreat
open Go Go.Sx

/-! ### r03_ValidOp -/
/-! ### r03_IsUpdate -/
/-! ### r03_Step -/
/-! ### r03_SameRes -/
/-! ### partialretro_Log_Add -/
def partialretro_Log_Add_an : Ann := .node none (.leaf) (.node none (.leaf) (.node none (.leaf) (.node (some [0, 1, 5]) (.node none (.tail 5) (.leaf)) (.node none (.leaf) (.node (some [0, 1, 5, 7]) (.leaf) (.node (some [0, 1, 7, 9]) (.plan (.qu 0 (.qu 1 (.qu 2 (.qu 3 (.wo 4 (.qu 5 (.wo 6 (.wo 7 .fin .no) .no)) (.wo 6 (.wo 4 (.qu 5 (.wo 7 .fin .no)) .no) .no))))))) (.node none (.plan (.qu 0 (.qu 1 (.qu 2 (.qu 3 (.qu 4 (.qu 6 (.qu 7 (.qu 10 (.qu 11 (.qu 12 (.qu 13 (.qu 15 (.qu 16 (.wo 5 (.wo 8 (.wo 9 (.wo 14 (.wo 17 (.wo 18 (.wo 19 (.wo 20 .fin .no) .no) .no) .no) (.wo 17 (.wo 14 (.wo 18 (.wo 19 (.wo 20 .fin .no) .no) .no) .no) .no)) (.wo 17 (.wo 9 (.wo 14 (.wo 18 (.wo 19 (.wo 20 .fin .no) .no) .no) .no) .no) .no)) (.wo 17 (.wo 8 (.wo 9 (.wo 14 (.wo 18 (.wo 19 (.wo 20 .fin .no) .no) .no) .no) .no) .no) .no)) (.wo 8 (.wo 5 (.wo 9 (.wo 14 (.wo 17 (.wo 18 (.wo 19 (.wo 20 .fin .no) .no) .no) .no) (.wo 17 (.wo 14 (.wo 18 (.wo 19 (.wo 20 .fin .no) .no) .no) .no) .no)) (.wo 17 (.wo 9 (.wo 14 (.wo 18 (.wo 19 (.wo 20 .fin .no) .no) .no) .no) .no) .no)) (.wo 17 (.wo 5 (.wo 9 (.wo 14 (.wo 18 (.wo 19 (.wo 20 .fin .no) .no) .no) .no) .no) .no) .no)) (.wo 17 (.wo 5 (.wo 8 (.wo 9 (.wo 14 (.wo 18 (.wo 19 (.wo 20 .fin .no) .no) .no) .no) .no) .no) (.wo 8 (.wo 5 (.wo 9 (.wo 14 (.wo 18 (.wo 19 (.wo 20 .fin .no) .no) .no) .no) .no) .no) .no)) .no))))))))))))))))) (.leaf))))))))
def partialretro_Log_Add_K0  (K : Value → Hp → Prop) : Exit → Env → Hp → Prop := retK Tryz.prog Tryz.f41.results.toList K
def partialretro_Log_Add_b0 (g : Option Addr) (time : Int) (o_0 : Int) (o_1 : Option Addr) (o_1L : Nat) (o_1C : Nat) (h : Hp)  (K : Value → Hp → Prop) : Prop :=
  sx_4 Tryz.prog F 79 (cp [] (bodyOf Tryz.f41)) (ap [] partialretro_Log_Add_an) [(0, .pointer g), (1, .int .i64 time), (2, .agg #[.int .i64 o_0, .slice o_1 o_1L o_1C])] h (partialretro_Log_Add_K0  K)
def partialretro_Log_Add_b1 (g : Option Addr) (time : Int) (o : Option Addr) (h : Hp)  (K : Value → Hp → Prop) : Prop :=
  sx_3 Tryz.prog F 79 (cp [1, 1, 1, 1] (bodyOf Tryz.f41)) (ap [1, 1, 1, 1] partialretro_Log_Add_an) [(0, .pointer g), (1, .int .i64 time), (5, .pointer o)] h (partialretro_Log_Add_K0  K)
def partialretro_Log_Add_b2 (g : Option Addr) (time : Int) (o : Option Addr) (i : Int) (h : Hp)  (K : Value → Hp → Prop) : Prop :=
  sx_2 Tryz.prog F 79 (cp [1, 1, 1, 1, 1, 1] (bodyOf Tryz.f41)) (ap [1, 1, 1, 1, 1, 1] partialretro_Log_Add_an) [(0, .pointer g), (1, .int .i64 time), (5, .pointer o), (7, .int .i64 i)] h (partialretro_Log_Add_K0  K)
def partialretro_Log_Add_b3 (g : Option Addr) (time : Int) (i : Int) (own : Option Addr) (h : Hp)  (K : Value → Hp → Prop) : Prop :=
  sx_1 Tryz.prog F 79 (cp [1, 1, 1, 1, 1, 1, 1] (bodyOf Tryz.f41)) (ap [1, 1, 1, 1, 1, 1, 1] partialretro_Log_Add_an) [(0, .pointer g), (1, .int .i64 time), (7, .int .i64 i), (9, .pointer own)] h (partialretro_Log_Add_K0  K)
theorem partialretro_Log_Add_b0_eq (g : Option Addr) (time : Int) (o_0 : Int) (o_1 : Option Addr) (o_1L : Nat) (o_1C : Nat) (h : Hp)  (K : Value → Hp → Prop) : partialretro_Log_Add_b0 g time o_0 o_1 o_1L o_1C h  K = (
  New h (.cells #[.int .i64 o_0, .slice o_1 o_1L o_1C] 25) fun b1 h1 =>
  cond g.isNone
  (K (.int .i64 1) h1)
  (NN g fun a1 =>
  Wr h1 (a1.add 5) (.int .i64 0) fun h2 =>
  NN g fun a2 =>
  Wr h2 (a2.add 6) (.int .i64 0) fun h3 =>
  NN g fun a3 =>
  ∃ n1 : Int, cell h3 a3 = some (.int .i64 n1) ∧
  ∃ n2 : Int, ∃ (a4 : Option Addr) (L1 C1 : Nat), cell h3 ⟨b1, 0, none⟩ = some (.int .i64 n2) ∧
  cell h3 ((⟨b1, 0, none⟩ : Addr).add 1) = some (.slice a4 L1 C1) ∧
  HCalls Tryz.prog 71 #[.int .i64 n1, .agg #[.int .i64 n2, .slice a4 L1 C1]] h3 fun v1 h4 => ∃ r1 : Bool, v1 = .bool r1 ∧
  cond (!r1)
  (K (.int .i64 1) h4)
  (∃ n3 : Int, ∃ (a5 : Option Addr) (L2 C2 : Nat), cell h4 ⟨b1, 0, none⟩ = some (.int .i64 n3) ∧
  cell h4 ((⟨b1, 0, none⟩ : Addr).add 1) = some (.slice a5 L2 C2) ∧
  HCalls Tryz.prog 72 #[.pointer g, .agg #[.int .i64 n3, .slice a5 L2 C2]] h4 fun v2 h5 => ∃ r2 : Bool, v2 = .bool r2 ∧
  cond (!r2)
  (K (.int .i64 30) h5)
  (HCalls Tryz.prog 65 #[.int .i64 time] h5 fun v3 h6 => ∃ r3 : Bool, v3 = .bool r3 ∧
  cond (!r3)
  (K (.int .i64 2) h6)
  (partialretro_Log_Add_b1 g time (some ⟨b1, 0, none⟩) h6  K))))) := by kernel_rfl
theorem partialretro_Log_Add_b1_eq (g : Option Addr) (time : Int) (o : Option Addr) (h : Hp)  (K : Value → Hp → Prop) : partialretro_Log_Add_b1 g time o h  K = (
  NN g fun a6 =>
  ∃ (a7 : Option Addr) (L3 C3 : Nat), cell h (a6.add 1) = some (.slice a7 L3 C3) ∧
  HCalls Tryz.prog 21 #[.slice a7 L3 C3, .int .i64 time] h fun v4 h7 => ∃ r4 : Int, ∃ r5 : Bool, v4 = .tuple #[.int .i64 r4, .bool r5] ∧
  cond r5
  (K (.int .i64 15) h7)
  (NN g fun a8 =>
  ∃ (a9 : Option Addr) (L4 C4 : Nat), cell h7 (a8.add 1) = some (.slice a9 L4 C4) ∧
  cond (decide ((2000 : Int) ≤ (L4 : Int)))
  (K (.int .i64 4) h7)
  (partialretro_Log_Add_b2 g time o r4 h7  K))) := by kernel_rfl
theorem partialretro_Log_Add_b2_eq (g : Option Addr) (time : Int) (o : Option Addr) (i : Int) (h : Hp)  (K : Value → Hp → Prop) : partialretro_Log_Add_b2 g time o i h  K = (
  NN o fun a10 =>
  ∃ n4 : Int, cell h a10 = some (.int .i64 n4) ∧
  NN o fun a11 =>
  ∃ (a12 : Option Addr) (L5 C5 : Nat), cell h (a11.add 1) = some (.slice a12 L5 C5) ∧
  (HCalls Tryz.prog 24 #[.slice a12 L5 C5] h fun v5 h8 => ∃ (r6 : Option Addr) (rL1 rC1 : Nat), v5 = .slice r6 rL1 rC1 ∧
  (∃ n5 : Int, cell h8 a10 = some (.int .i64 n5) ∧
  (.int .i64 n5 : Value) = .int .i64 n4) ∧
  New h8 (.cells #[.int .i64 0, .slice none 0 0] 25) fun b2 h9 =>
  ((.agg #[.int .i64 n4, .slice r6 rL1 rC1] : Value) = .agg #[.int .i64 n4, .slice r6 rL1 rC1]) ∧
  (∃ n6 : Int, cell h9 a10 = some (.int .i64 n6) ∧
  (.int .i64 n6 : Value) = .int .i64 n4) ∧
  Wr h9 ⟨b2, 0, none⟩ (.int .i64 n4) fun h10 =>
  Wr h10 ((⟨b2, 0, none⟩ : Addr).add 1) (.slice r6 rL1 rC1) fun h11 =>
  partialretro_Log_Add_b3 g time i (some ⟨b2, 0, none⟩) h11  K) ∧
  (New h (.cells #[.int .i64 0, .slice none 0 0] 25) fun b3 h12 =>
  (∃ (a13 : Option Addr) (L6 C6 : Nat), cell h12 (a11.add 1) = some (.slice a13 L6 C6) ∧
  (.slice a13 L6 C6 : Value) = .slice a12 L5 C5) ∧
  (∃ n7 : Int, cell h12 a10 = some (.int .i64 n7) ∧
  (.int .i64 n7 : Value) = .int .i64 n4) ∧
  HCalls Tryz.prog 24 #[.slice a12 L5 C5] h12 fun v6 h13 => ∃ (r7 : Option Addr) (rL2 rC2 : Nat), v6 = .slice r7 rL2 rC2 ∧
  (∃ n8 : Int, cell h13 a10 = some (.int .i64 n8) ∧
  (.int .i64 n8 : Value) = .int .i64 n4) ∧
  Wr h13 ⟨b3, 0, none⟩ (.int .i64 n4) fun h14 =>
  Wr h14 ((⟨b3, 0, none⟩ : Addr).add 1) (.slice r7 rL2 rC2) fun h15 =>
  partialretro_Log_Add_b3 g time i (some ⟨b3, 0, none⟩) h15  K)) := by kernel_rfl
theorem partialretro_Log_Add_b3_eq (g : Option Addr) (time : Int) (i : Int) (own : Option Addr) (h : Hp)  (K : Value → Hp → Prop) : partialretro_Log_Add_b3 g time i own h  K = (
  NN g fun a14 =>
  ∃ (a15 : Option Addr) (L7 C7 : Nat), cell h (a14.add 1) = some (.slice a15 L7 C7) ∧
  NN g fun a16 =>
  ∃ (a17 : Option Addr) (L8 C8 : Nat), cell h (a16.add 2) = some (.slice a17 L8 C8) ∧
  NN own fun a18 =>
  ∃ n9 : Int, ∃ (a19 : Option Addr) (L9 C9 : Nat), cell h a18 = some (.int .i64 n9) ∧
  cell h (a18.add 1) = some (.slice a19 L9 C9) ∧
  (HCalls Tryz.prog 24 #[.slice a15 L7 C7] h fun v7 h16 => ∃ (r8 : Option Addr) (rL3 rC3 : Nat), v7 = .slice r8 rL3 rC3 ∧
  (NN own fun a20 =>
  ∃ n10 : Int, ∃ (a21 : Option Addr) (L10 C10 : Nat), cell h16 a20 = some (.int .i64 n10) ∧
  cell h16 (a20.add 1) = some (.slice a21 L10 C10) ∧
  (.agg #[.int .i64 n10, .slice a21 L10 C10] : Value) = .agg #[.int .i64 n9, .slice a19 L9 C9]) ∧
  (∃ (a22 : Option Addr) (L11 C11 : Nat), cell h16 (a16.add 2) = some (.slice a22 L11 C11) ∧
  (.slice a22 L11 C11 : Value) = .slice a17 L8 C8) ∧
  (New h16 (.cells #[.int .i64 time] 3) fun b4 h17 =>
  (NN own fun a23 =>
  ∃ n11 : Int, ∃ (a24 : Option Addr) (L12 C12 : Nat), cell h17 a23 = some (.int .i64 n11) ∧
  cell h17 (a23.add 1) = some (.slice a24 L12 C12) ∧
  (.agg #[.int .i64 n11, .slice a24 L12 C12] : Value) = .agg #[.int .i64 n9, .slice a19 L9 C9]) ∧
  (∃ (a25 : Option Addr) (L13 C13 : Nat), cell h17 (a16.add 2) = some (.slice a25 L13 C13) ∧
  (.slice a25 L13 C13 : Value) = .slice a17 L8 C8) ∧
  (HCalls Tryz.prog 23 #[.slice r8 rL3 rC3, .int .i64 i, .slice (some ⟨b4, 0, none⟩) 1 1] h17 fun v8 h18 => ∃ (r9 : Option Addr) (rL4 rC4 : Nat), v8 = .slice r9 rL4 rC4 ∧
  (NN own fun a26 =>
  ∃ n12 : Int, ∃ (a27 : Option Addr) (L14 C14 : Nat), cell h18 a26 = some (.int .i64 n12) ∧
  cell h18 (a26.add 1) = some (.slice a27 L14 C14) ∧
  (.agg #[.int .i64 n12, .slice a27 L14 C14] : Value) = .agg #[.int .i64 n9, .slice a19 L9 C9]) ∧
  (∃ (a28 : Option Addr) (L15 C15 : Nat), cell h18 (a16.add 2) = some (.slice a28 L15 C15) ∧
  (.slice a28 L15 C15 : Value) = .slice a17 L8 C8) ∧
  (HCalls Tryz.prog 86 #[.slice a17 L8 C8] h18 fun v9 h19 => ∃ (r10 : Option Addr) (rL5 rC5 : Nat), v9 = .slice r10 rL5 rC5 ∧
  (NN own fun a29 =>
  ∃ n13 : Int, ∃ (a30 : Option Addr) (L16 C16 : Nat), cell h19 a29 = some (.int .i64 n13) ∧
  cell h19 (a29.add 1) = some (.slice a30 L16 C16) ∧
  (.agg #[.int .i64 n13, .slice a30 L16 C16] : Value) = .agg #[.int .i64 n9, .slice a19 L9 C9]) ∧
  New h19 (.cells #[.int .i64 n9, .slice a19 L9 C9] 25) fun b5 h20 =>
  HCalls Tryz.prog 85 #[.slice r10 rL5 rC5, .int .i64 i, .slice (some ⟨b5, 0, none⟩) 1 1] h20 fun v10 h21 => ∃ (r11 : Option Addr) (rL6 rC6 : Nat), v10 = .slice r11 rL6 rC6 ∧
  HCalls Tryz.prog 84 #[.pointer g, .slice r9 rL4 rC4, .slice r11 rL6 rC6] h21 fun v11 h22 => ∃ r12 : Int, v11 = .int .i64 r12 ∧
  K (.int .i64 r12) h22) ∧
  (New h18 (.cells #[.int .i64 n9, .slice a19 L9 C9] 25) fun b6 h23 =>
  (∃ (a31 : Option Addr) (L17 C17 : Nat), cell h23 (a16.add 2) = some (.slice a31 L17 C17) ∧
  (.slice a31 L17 C17 : Value) = .slice a17 L8 C8) ∧
  HCalls Tryz.prog 86 #[.slice a17 L8 C8] h23 fun v12 h24 => ∃ (r13 : Option Addr) (rL7 rC7 : Nat), v12 = .slice r13 rL7 rC7 ∧
  HCalls Tryz.prog 85 #[.slice r13 rL7 rC7, .int .i64 i, .slice (some ⟨b6, 0, none⟩) 1 1] h24 fun v13 h25 => ∃ (r14 : Option Addr) (rL8 rC8 : Nat), v13 = .slice r14 rL8 rC8 ∧
  HCalls Tryz.prog 84 #[.pointer g, .slice r9 rL4 rC4, .slice r14 rL8 rC8] h25 fun v14 h26 => ∃ r15 : Int, v14 = .int .i64 r15 ∧
  K (.int .i64 r15) h26)) ∧
  (New h17 (.cells #[.int .i64 n9, .slice a19 L9 C9] 25) fun b7 h27 =>
  (∃ (a32 : Option Addr) (L18 C18 : Nat), cell h27 (a16.add 2) = some (.slice a32 L18 C18) ∧
  (.slice a32 L18 C18 : Value) = .slice a17 L8 C8) ∧
  HCalls Tryz.prog 23 #[.slice r8 rL3 rC3, .int .i64 i, .slice (some ⟨b4, 0, none⟩) 1 1] h27 fun v15 h28 => ∃ (r16 : Option Addr) (rL9 rC9 : Nat), v15 = .slice r16 rL9 rC9 ∧
  (∃ (a33 : Option Addr) (L19 C19 : Nat), cell h28 (a16.add 2) = some (.slice a33 L19 C19) ∧
  (.slice a33 L19 C19 : Value) = .slice a17 L8 C8) ∧
  HCalls Tryz.prog 86 #[.slice a17 L8 C8] h28 fun v16 h29 => ∃ (r17 : Option Addr) (rL10 rC10 : Nat), v16 = .slice r17 rL10 rC10 ∧
  HCalls Tryz.prog 85 #[.slice r17 rL10 rC10, .int .i64 i, .slice (some ⟨b7, 0, none⟩) 1 1] h29 fun v17 h30 => ∃ (r18 : Option Addr) (rL11 rC11 : Nat), v17 = .slice r18 rL11 rC11 ∧
  HCalls Tryz.prog 84 #[.pointer g, .slice r16 rL9 rC9, .slice r18 rL11 rC11] h30 fun v18 h31 => ∃ r19 : Int, v18 = .int .i64 r19 ∧
  K (.int .i64 r19) h31)) ∧
  (New h16 (.cells #[.int .i64 n9, .slice a19 L9 C9] 25) fun b8 h32 =>
  (∃ (a34 : Option Addr) (L20 C20 : Nat), cell h32 (a16.add 2) = some (.slice a34 L20 C20) ∧
  (.slice a34 L20 C20 : Value) = .slice a17 L8 C8) ∧
  New h32 (.cells #[.int .i64 time] 3) fun b9 h33 =>
  (∃ (a35 : Option Addr) (L21 C21 : Nat), cell h33 (a16.add 2) = some (.slice a35 L21 C21) ∧
  (.slice a35 L21 C21 : Value) = .slice a17 L8 C8) ∧
  HCalls Tryz.prog 23 #[.slice r8 rL3 rC3, .int .i64 i, .slice (some ⟨b9, 0, none⟩) 1 1] h33 fun v19 h34 => ∃ (r20 : Option Addr) (rL12 rC12 : Nat), v19 = .slice r20 rL12 rC12 ∧
  (∃ (a36 : Option Addr) (L22 C22 : Nat), cell h34 (a16.add 2) = some (.slice a36 L22 C22) ∧
  (.slice a36 L22 C22 : Value) = .slice a17 L8 C8) ∧
  HCalls Tryz.prog 86 #[.slice a17 L8 C8] h34 fun v20 h35 => ∃ (r21 : Option Addr) (rL13 rC13 : Nat), v20 = .slice r21 rL13 rC13 ∧
  HCalls Tryz.prog 85 #[.slice r21 rL13 rC13, .int .i64 i, .slice (some ⟨b8, 0, none⟩) 1 1] h35 fun v21 h36 => ∃ (r22 : Option Addr) (rL14 rC14 : Nat), v21 = .slice r22 rL14 rC14 ∧
  HCalls Tryz.prog 84 #[.pointer g, .slice r20 rL12 rC12, .slice r22 rL14 rC14] h36 fun v22 h37 => ∃ r23 : Int, v22 = .int .i64 r23 ∧
  K (.int .i64 r23) h37)) ∧
  (New h (.cells #[.int .i64 time] 3) fun b10 h38 =>
  (NN own fun a37 =>
  ∃ n14 : Int, ∃ (a38 : Option Addr) (L23 C23 : Nat), cell h38 a37 = some (.int .i64 n14) ∧
  cell h38 (a37.add 1) = some (.slice a38 L23 C23) ∧
  (.agg #[.int .i64 n14, .slice a38 L23 C23] : Value) = .agg #[.int .i64 n9, .slice a19 L9 C9]) ∧
  (∃ (a39 : Option Addr) (L24 C24 : Nat), cell h38 (a16.add 2) = some (.slice a39 L24 C24) ∧
  (.slice a39 L24 C24 : Value) = .slice a17 L8 C8) ∧
  (∃ (a40 : Option Addr) (L25 C25 : Nat), cell h38 (a14.add 1) = some (.slice a40 L25 C25) ∧
  (.slice a40 L25 C25 : Value) = .slice a15 L7 C7) ∧
  (HCalls Tryz.prog 24 #[.slice a15 L7 C7] h38 fun v23 h39 => ∃ (r24 : Option Addr) (rL15 rC15 : Nat), v23 = .slice r24 rL15 rC15 ∧
  (NN own fun a41 =>
  ∃ n15 : Int, ∃ (a42 : Option Addr) (L26 C26 : Nat), cell h39 a41 = some (.int .i64 n15) ∧
  cell h39 (a41.add 1) = some (.slice a42 L26 C26) ∧
  (.agg #[.int .i64 n15, .slice a42 L26 C26] : Value) = .agg #[.int .i64 n9, .slice a19 L9 C9]) ∧
  (∃ (a43 : Option Addr) (L27 C27 : Nat), cell h39 (a16.add 2) = some (.slice a43 L27 C27) ∧
  (.slice a43 L27 C27 : Value) = .slice a17 L8 C8) ∧
  (HCalls Tryz.prog 23 #[.slice r24 rL15 rC15, .int .i64 i, .slice (some ⟨b10, 0, none⟩) 1 1] h39 fun v24 h40 => ∃ (r25 : Option Addr) (rL16 rC16 : Nat), v24 = .slice r25 rL16 rC16 ∧
  (NN own fun a44 =>
  ∃ n16 : Int, ∃ (a45 : Option Addr) (L28 C28 : Nat), cell h40 a44 = some (.int .i64 n16) ∧
  cell h40 (a44.add 1) = some (.slice a45 L28 C28) ∧
  (.agg #[.int .i64 n16, .slice a45 L28 C28] : Value) = .agg #[.int .i64 n9, .slice a19 L9 C9]) ∧
  (∃ (a46 : Option Addr) (L29 C29 : Nat), cell h40 (a16.add 2) = some (.slice a46 L29 C29) ∧
  (.slice a46 L29 C29 : Value) = .slice a17 L8 C8) ∧
  (HCalls Tryz.prog 86 #[.slice a17 L8 C8] h40 fun v25 h41 => ∃ (r26 : Option Addr) (rL17 rC17 : Nat), v25 = .slice r26 rL17 rC17 ∧
  (NN own fun a47 =>
  ∃ n17 : Int, ∃ (a48 : Option Addr) (L30 C30 : Nat), cell h41 a47 = some (.int .i64 n17) ∧
  cell h41 (a47.add 1) = some (.slice a48 L30 C30) ∧
  (.agg #[.int .i64 n17, .slice a48 L30 C30] : Value) = .agg #[.int .i64 n9, .slice a19 L9 C9]) ∧
  New h41 (.cells #[.int .i64 n9, .slice a19 L9 C9] 25) fun b11 h42 =>
  HCalls Tryz.prog 85 #[.slice r26 rL17 rC17, .int .i64 i, .slice (some ⟨b11, 0, none⟩) 1 1] h42 fun v26 h43 => ∃ (r27 : Option Addr) (rL18 rC18 : Nat), v26 = .slice r27 rL18 rC18 ∧
  HCalls Tryz.prog 84 #[.pointer g, .slice r25 rL16 rC16, .slice r27 rL18 rC18] h43 fun v27 h44 => ∃ r28 : Int, v27 = .int .i64 r28 ∧
  K (.int .i64 r28) h44) ∧
  (New h40 (.cells #[.int .i64 n9, .slice a19 L9 C9] 25) fun b12 h45 =>
  (∃ (a49 : Option Addr) (L31 C31 : Nat), cell h45 (a16.add 2) = some (.slice a49 L31 C31) ∧
  (.slice a49 L31 C31 : Value) = .slice a17 L8 C8) ∧
  HCalls Tryz.prog 86 #[.slice a17 L8 C8] h45 fun v28 h46 => ∃ (r29 : Option Addr) (rL19 rC19 : Nat), v28 = .slice r29 rL19 rC19 ∧
  HCalls Tryz.prog 85 #[.slice r29 rL19 rC19, .int .i64 i, .slice (some ⟨b12, 0, none⟩) 1 1] h46 fun v29 h47 => ∃ (r30 : Option Addr) (rL20 rC20 : Nat), v29 = .slice r30 rL20 rC20 ∧
  HCalls Tryz.prog 84 #[.pointer g, .slice r25 rL16 rC16, .slice r30 rL20 rC20] h47 fun v30 h48 => ∃ r31 : Int, v30 = .int .i64 r31 ∧
  K (.int .i64 r31) h48)) ∧
  (New h39 (.cells #[.int .i64 n9, .slice a19 L9 C9] 25) fun b13 h49 =>
  (∃ (a50 : Option Addr) (L32 C32 : Nat), cell h49 (a16.add 2) = some (.slice a50 L32 C32) ∧
  (.slice a50 L32 C32 : Value) = .slice a17 L8 C8) ∧
  HCalls Tryz.prog 23 #[.slice r24 rL15 rC15, .int .i64 i, .slice (some ⟨b10, 0, none⟩) 1 1] h49 fun v31 h50 => ∃ (r32 : Option Addr) (rL21 rC21 : Nat), v31 = .slice r32 rL21 rC21 ∧
  (∃ (a51 : Option Addr) (L33 C33 : Nat), cell h50 (a16.add 2) = some (.slice a51 L33 C33) ∧
  (.slice a51 L33 C33 : Value) = .slice a17 L8 C8) ∧
  HCalls Tryz.prog 86 #[.slice a17 L8 C8] h50 fun v32 h51 => ∃ (r33 : Option Addr) (rL22 rC22 : Nat), v32 = .slice r33 rL22 rC22 ∧
  HCalls Tryz.prog 85 #[.slice r33 rL22 rC22, .int .i64 i, .slice (some ⟨b13, 0, none⟩) 1 1] h51 fun v33 h52 => ∃ (r34 : Option Addr) (rL23 rC23 : Nat), v33 = .slice r34 rL23 rC23 ∧
  HCalls Tryz.prog 84 #[.pointer g, .slice r32 rL21 rC21, .slice r34 rL23 rC23] h52 fun v34 h53 => ∃ r35 : Int, v34 = .int .i64 r35 ∧
  K (.int .i64 r35) h53)) ∧
  (New h38 (.cells #[.int .i64 n9, .slice a19 L9 C9] 25) fun b14 h54 =>
  (∃ (a52 : Option Addr) (L34 C34 : Nat), cell h54 (a16.add 2) = some (.slice a52 L34 C34) ∧
  (.slice a52 L34 C34 : Value) = .slice a17 L8 C8) ∧
  (∃ (a53 : Option Addr) (L35 C35 : Nat), cell h54 (a14.add 1) = some (.slice a53 L35 C35) ∧
  (.slice a53 L35 C35 : Value) = .slice a15 L7 C7) ∧
  HCalls Tryz.prog 24 #[.slice a15 L7 C7] h54 fun v35 h55 => ∃ (r36 : Option Addr) (rL24 rC24 : Nat), v35 = .slice r36 rL24 rC24 ∧
  (∃ (a54 : Option Addr) (L36 C36 : Nat), cell h55 (a16.add 2) = some (.slice a54 L36 C36) ∧
  (.slice a54 L36 C36 : Value) = .slice a17 L8 C8) ∧
  HCalls Tryz.prog 23 #[.slice r36 rL24 rC24, .int .i64 i, .slice (some ⟨b10, 0, none⟩) 1 1] h55 fun v36 h56 => ∃ (r37 : Option Addr) (rL25 rC25 : Nat), v36 = .slice r37 rL25 rC25 ∧
  (∃ (a55 : Option Addr) (L37 C37 : Nat), cell h56 (a16.add 2) = some (.slice a55 L37 C37) ∧
  (.slice a55 L37 C37 : Value) = .slice a17 L8 C8) ∧
  HCalls Tryz.prog 86 #[.slice a17 L8 C8] h56 fun v37 h57 => ∃ (r38 : Option Addr) (rL26 rC26 : Nat), v37 = .slice r38 rL26 rC26 ∧
  HCalls Tryz.prog 85 #[.slice r38 rL26 rC26, .int .i64 i, .slice (some ⟨b14, 0, none⟩) 1 1] h57 fun v38 h58 => ∃ (r39 : Option Addr) (rL27 rC27 : Nat), v38 = .slice r39 rL27 rC27 ∧
  HCalls Tryz.prog 84 #[.pointer g, .slice r37 rL25 rC25, .slice r39 rL27 rC27] h58 fun v39 h59 => ∃ r40 : Int, v39 = .int .i64 r40 ∧
  K (.int .i64 r40) h59)) ∧
  (New h (.cells #[.int .i64 n9, .slice a19 L9 C9] 25) fun b15 h60 =>
  (∃ (a56 : Option Addr) (L38 C38 : Nat), cell h60 (a16.add 2) = some (.slice a56 L38 C38) ∧
  (.slice a56 L38 C38 : Value) = .slice a17 L8 C8) ∧
  (∃ (a57 : Option Addr) (L39 C39 : Nat), cell h60 (a14.add 1) = some (.slice a57 L39 C39) ∧
  (.slice a57 L39 C39 : Value) = .slice a15 L7 C7) ∧
  (HCalls Tryz.prog 24 #[.slice a15 L7 C7] h60 fun v40 h61 => ∃ (r41 : Option Addr) (rL28 rC28 : Nat), v40 = .slice r41 rL28 rC28 ∧
  (∃ (a58 : Option Addr) (L40 C40 : Nat), cell h61 (a16.add 2) = some (.slice a58 L40 C40) ∧
  (.slice a58 L40 C40 : Value) = .slice a17 L8 C8) ∧
  New h61 (.cells #[.int .i64 time] 3) fun b16 h62 =>
  (∃ (a59 : Option Addr) (L41 C41 : Nat), cell h62 (a16.add 2) = some (.slice a59 L41 C41) ∧
  (.slice a59 L41 C41 : Value) = .slice a17 L8 C8) ∧
  HCalls Tryz.prog 23 #[.slice r41 rL28 rC28, .int .i64 i, .slice (some ⟨b16, 0, none⟩) 1 1] h62 fun v41 h63 => ∃ (r42 : Option Addr) (rL29 rC29 : Nat), v41 = .slice r42 rL29 rC29 ∧
  (∃ (a60 : Option Addr) (L42 C42 : Nat), cell h63 (a16.add 2) = some (.slice a60 L42 C42) ∧
  (.slice a60 L42 C42 : Value) = .slice a17 L8 C8) ∧
  HCalls Tryz.prog 86 #[.slice a17 L8 C8] h63 fun v42 h64 => ∃ (r43 : Option Addr) (rL30 rC30 : Nat), v42 = .slice r43 rL30 rC30 ∧
  HCalls Tryz.prog 85 #[.slice r43 rL30 rC30, .int .i64 i, .slice (some ⟨b15, 0, none⟩) 1 1] h64 fun v43 h65 => ∃ (r44 : Option Addr) (rL31 rC31 : Nat), v43 = .slice r44 rL31 rC31 ∧
  HCalls Tryz.prog 84 #[.pointer g, .slice r42 rL29 rC29, .slice r44 rL31 rC31] h65 fun v44 h66 => ∃ r45 : Int, v44 = .int .i64 r45 ∧
  K (.int .i64 r45) h66) ∧
  (New h60 (.cells #[.int .i64 time] 3) fun b17 h67 =>
  (∃ (a61 : Option Addr) (L43 C43 : Nat), cell h67 (a16.add 2) = some (.slice a61 L43 C43) ∧
  (.slice a61 L43 C43 : Value) = .slice a17 L8 C8) ∧
  (∃ (a62 : Option Addr) (L44 C44 : Nat), cell h67 (a14.add 1) = some (.slice a62 L44 C44) ∧
  (.slice a62 L44 C44 : Value) = .slice a15 L7 C7) ∧
  HCalls Tryz.prog 24 #[.slice a15 L7 C7] h67 fun v45 h68 => ∃ (r46 : Option Addr) (rL32 rC32 : Nat), v45 = .slice r46 rL32 rC32 ∧
  (∃ (a63 : Option Addr) (L45 C45 : Nat), cell h68 (a16.add 2) = some (.slice a63 L45 C45) ∧
  (.slice a63 L45 C45 : Value) = .slice a17 L8 C8) ∧
  HCalls Tryz.prog 23 #[.slice r46 rL32 rC32, .int .i64 i, .slice (some ⟨b17, 0, none⟩) 1 1] h68 fun v46 h69 => ∃ (r47 : Option Addr) (rL33 rC33 : Nat), v46 = .slice r47 rL33 rC33 ∧
  (∃ (a64 : Option Addr) (L46 C46 : Nat), cell h69 (a16.add 2) = some (.slice a64 L46 C46) ∧
  (.slice a64 L46 C46 : Value) = .slice a17 L8 C8) ∧
  HCalls Tryz.prog 86 #[.slice a17 L8 C8] h69 fun v47 h70 => ∃ (r48 : Option Addr) (rL34 rC34 : Nat), v47 = .slice r48 rL34 rC34 ∧
  HCalls Tryz.prog 85 #[.slice r48 rL34 rC34, .int .i64 i, .slice (some ⟨b15, 0, none⟩) 1 1] h70 fun v48 h71 => ∃ (r49 : Option Addr) (rL35 rC35 : Nat), v48 = .slice r49 rL35 rC35 ∧
  HCalls Tryz.prog 84 #[.pointer g, .slice r47 rL33 rC33, .slice r49 rL35 rC35] h71 fun v49 h72 => ∃ r50 : Int, v49 = .int .i64 r50 ∧
  K (.int .i64 r50) h72))) := by kernel_rfl
theorem partialretro_Log_Add_call {g : Option Addr} {time : Int} {o_0 : Int} {o_1 : Option Addr} {o_1L : Nat} {o_1C : Nat} {h : Hp} {K : Value → Hp → Prop} (hk : partialretro_Log_Add_b0 g time o_0 o_1 o_1L o_1C h K) : HCalls Tryz.prog 41 #[.pointer g, .int .i64 time, .agg #[.int .i64 o_0, .slice o_1 o_1L o_1C]] h K :=
  calls_of_snd partialretro_Log_Add_an Tryz.func41 (c := bodyOf Tryz.f41) rfl Tryz.ntmps41 (Nat.le_of_ble_eq_true rfl) (snd_4 F_ok F_mixed) hk

/-! ### r35_Added -/
/-! ### r35_Put -/
/-! ### partialretro_Log_Revoke -/
/-! ### r35_At -/
/-! ### r35_Cut -/
/-! ### partialretro_Log_Failed -/
/-! ### r03_Same -/
/-! ### partialretro_Log_State -/
/-! ### slices_SortFunc_Sl35_Step_l35_Step -/
def slices_SortFunc_Sl35_Step_l35_Step_an : Ann := .leaf
def slices_SortFunc_Sl35_Step_l35_Step_K0  (K : Value → Hp → Prop) : Exit → Env → Hp → Prop := retK Tryz.prog Tryz.f50.results.toList K
def slices_SortFunc_Sl35_Step_l35_Step_b0 (x : Option Addr) (xL : Nat) (xC : Nat) (cmp : Value) (h : Hp)  (K : Value → Hp → Prop) : Prop :=
  sx_1 Tryz.prog F 14 (cp [] (bodyOf Tryz.f50)) (ap [] slices_SortFunc_Sl35_Step_l35_Step_an) [(0, .slice x xL xC), (1, cmp)] h (slices_SortFunc_Sl35_Step_l35_Step_K0  K)
theorem slices_SortFunc_Sl35_Step_l35_Step_b0_eq (x : Option Addr) (xL : Nat) (xC : Nat) (cmp : Value) (h : Hp)  (K : Value → Hp → Prop) : slices_SortFunc_Sl35_Step_l35_Step_b0 x xL xC cmp h  K = (
  HCalls Tryz.prog 89 #[.int .u64 (IntKind.u64.wrap (xL : Int))] h fun v1 h1 => ∃ r1 : Int, v1 = .int .i64 r1 ∧
  HCalls Tryz.prog 88 #[.slice x xL xC, .int .i64 0, .int .i64 (xL : Int), .int .i64 r1, cmp] h1 fun v2 h2 => v2 = .tuple #[] ∧
  K (.tuple #[]) h2) := by kernel_rfl
theorem slices_SortFunc_Sl35_Step_l35_Step_call {x : Option Addr} {xL : Nat} {xC : Nat} {cmp : Value} {h : Hp} {K : Value → Hp → Prop} (hk : slices_SortFunc_Sl35_Step_l35_Step_b0 x xL xC cmp h K) : HCalls Tryz.prog 50 #[.slice x xL xC, cmp] h K :=
  calls_of_snd slices_SortFunc_Sl35_Step_l35_Step_an Tryz.func50 (c := bodyOf Tryz.f50) rfl Tryz.ntmps50 (Nat.le_of_ble_eq_true rfl) (snd_1 F_ok F_mixed) hk

/-! ### l35_PartialretroOrder_c1 -/
def l35_PartialretroOrder_c1_an : Ann := .leaf
def l35_PartialretroOrder_c1_K0  (K : Value → Hp → Prop) : Exit → Env → Hp → Prop := retK Tryz.prog Tryz.f51.results.toList K
def l35_PartialretroOrder_c1_b0 (x_0 : Int) (x_1 : Int) (x_2 : Int) (x_3 : Int) (x_4 : Option Addr) (x_4L : Nat) (x_4C : Nat) (y_0 : Int) (y_1 : Int) (y_2 : Int) (y_3 : Int) (y_4 : Option Addr) (y_4L : Nat) (y_4C : Nat) (h : Hp)  (K : Value → Hp → Prop) : Prop :=
  sx_1 Tryz.prog F 10 (cp [] (bodyOf Tryz.f51)) (ap [] l35_PartialretroOrder_c1_an) [(0, .agg #[.int .i64 x_0, .int .i64 x_1, .int .i64 x_2, .int .i64 x_3, .slice x_4 x_4L x_4C]), (1, .agg #[.int .i64 y_0, .int .i64 y_1, .int .i64 y_2, .int .i64 y_3, .slice y_4 y_4L y_4C])] h (l35_PartialretroOrder_c1_K0  K)
theorem l35_PartialretroOrder_c1_b0_eq (x_0 : Int) (x_1 : Int) (x_2 : Int) (x_3 : Int) (x_4 : Option Addr) (x_4L : Nat) (x_4C : Nat) (y_0 : Int) (y_1 : Int) (y_2 : Int) (y_3 : Int) (y_4 : Option Addr) (y_4L : Nat) (y_4C : Nat) (h : Hp)  (K : Value → Hp → Prop) : l35_PartialretroOrder_c1_b0 x_0 x_1 x_2 x_3 x_4 x_4L x_4C y_0 y_1 y_2 y_3 y_4 y_4L y_4C h  K = (
  New h (.cells #[.int .i64 x_0, .int .i64 x_1, .int .i64 x_2, .int .i64 x_3, .slice x_4 x_4L x_4C] 27) fun b1 h1 =>
  New h1 (.cells #[.int .i64 y_0, .int .i64 y_1, .int .i64 y_2, .int .i64 y_3, .slice y_4 y_4L y_4C] 27) fun b2 h2 =>
  ∃ n1 : Int, cell h2 ((⟨b1, 0, none⟩ : Addr).add 1) = some (.int .i64 n1) ∧
  ∃ n2 : Int, cell h2 ((⟨b2, 0, none⟩ : Addr).add 1) = some (.int .i64 n2) ∧
  InR (n1 - n2) ∧
  K (.int .i64 (n1 - n2)) h2) := by kernel_rfl
theorem l35_PartialretroOrder_c1_call {x_0 : Int} {x_1 : Int} {x_2 : Int} {x_3 : Int} {x_4 : Option Addr} {x_4L : Nat} {x_4C : Nat} {y_0 : Int} {y_1 : Int} {y_2 : Int} {y_3 : Int} {y_4 : Option Addr} {y_4L : Nat} {y_4C : Nat} {h : Hp} {K : Value → Hp → Prop} (hk : l35_PartialretroOrder_c1_b0 x_0 x_1 x_2 x_3 x_4 x_4L x_4C y_0 y_1 y_2 y_3 y_4 y_4L y_4C h K) : HCalls Tryz.prog 51 #[.agg #[.int .i64 x_0, .int .i64 x_1, .int .i64 x_2, .int .i64 x_3, .slice x_4 x_4L x_4C], .agg #[.int .i64 y_0, .int .i64 y_1, .int .i64 y_2, .int .i64 y_3, .slice y_4 y_4L y_4C]] h K :=
  calls_of_snd l35_PartialretroOrder_c1_an Tryz.func51 (c := bodyOf Tryz.f51) rfl Tryz.ntmps51 (Nat.le_of_ble_eq_true rfl) (snd_1 F_ok F_mixed) hk

/-! ### model_New -/
def model_New_an : Ann := .leaf
def model_New_K0  (K : Value → Hp → Prop) : Exit → Env → Hp → Prop := retK Tryz.prog Tryz.f52.results.toList K
def model_New_b0 (kind : Int) (h : Hp)  (K : Value → Hp → Prop) : Prop :=
  sx_1 Tryz.prog F 10 (cp [] (bodyOf Tryz.f52)) (ap [] model_New_an) [(0, .int .i64 kind)] h (model_New_K0  K)
theorem model_New_b0_eq (kind : Int) (h : Hp)  (K : Value → Hp → Prop) : model_New_b0 kind h  K = (
  New h (.cells #[.int .i64 0, .slice none 0 0] 66) fun b1 h1 =>
  HCalls Tryz.prog 90 #[.int .i64 kind] h1 fun v1 h2 => ∃ (r1 : Option Addr) (rL1 rC1 : Nat), v1 = .slice r1 rL1 rC1 ∧
  cond (Option.isNone r1)
  (Wr h2 ⟨b1, 0, none⟩ (.int .i64 0) fun h3 =>
  Wr h3 ((⟨b1, 0, none⟩ : Addr).add 1) (.slice none 0 0) fun h4 =>
  ∃ r2 : Int, ∃ (r3 : Option Addr) (rL2 rC2 : Nat), cell h4 ⟨b1, 0, none⟩ = some (.int .i64 r2) ∧
  cell h4 ((⟨b1, 0, none⟩ : Addr).add 1) = some (.slice r3 rL2 rC2) ∧
  K (.tuple #[.agg #[.int .i64 r2, .slice r3 rL2 rC2], .int .i64 1]) h4)
  (Wr h2 ⟨b1, 0, none⟩ (.int .i64 kind) fun h5 =>
  Wr h5 ((⟨b1, 0, none⟩ : Addr).add 1) (.slice none 0 0) fun h6 =>
  ∃ r4 : Int, ∃ (r5 : Option Addr) (rL3 rC3 : Nat), cell h6 ⟨b1, 0, none⟩ = some (.int .i64 r4) ∧
  cell h6 ((⟨b1, 0, none⟩ : Addr).add 1) = some (.slice r5 rL3 rC3) ∧
  K (.tuple #[.agg #[.int .i64 r4, .slice r5 rL3 rC3], .int .i64 0]) h6)) := by kernel_rfl
theorem model_New_call {kind : Int} {h : Hp} {K : Value → Hp → Prop} (hk : model_New_b0 kind h K) : HCalls Tryz.prog 52 #[.int .i64 kind] h K :=
  calls_of_snd model_New_an Tryz.func52 (c := bodyOf Tryz.f52) rfl Tryz.ntmps52 (Nat.le_of_ble_eq_true rfl) (snd_1 F_ok F_mixed) hk

/-! ### model_Apply -/
def model_Apply_an : Ann := .node none (.leaf) (.node (some [2, 3, 4, 5]) (.leaf) (.node (some [2, 4, 5, 7, 8]) (.plan (.qu 0 (.qu 1 (.qu 2 (.qu 3 (.qu 5 (.wo 4 (.wo 6 (.qu 7 (.qu 8 (.qu 9 (.wo 10 (.wo 11 (.wo 12 .fin .no) .no) .no)))) (.wo 10 (.wo 6 (.qu 7 (.qu 8 (.qu 9 (.wo 11 (.wo 12 .fin .no) .no)))) .no) .no)) (.wo 10 (.wo 4 (.wo 6 (.qu 7 (.qu 8 (.qu 9 (.wo 11 (.wo 12 .fin .no) .no)))) .no) .no) .no)))))))) (.node none (.plan (.qu 0 (.qu 1 (.qu 2 (.qu 3 (.qu 4 (.wo 5 (.wo 6 (.wo 7 .fin .no) .no) .no))))))) (.leaf))))
def model_Apply_K0  (K : Value → Hp → Prop) : Exit → Env → Hp → Prop := retK Tryz.prog Tryz.f53.results.toList K
def model_Apply_b0 (s_0 : Int) (s_1 : Option Addr) (s_1L : Nat) (s_1C : Nat) (o_0 : Int) (o_1 : Option Addr) (o_1L : Nat) (o_1C : Nat) (h : Hp)  (K : Value → Hp → Prop) : Prop :=
  sx_3 Tryz.prog F 36 (cp [] (bodyOf Tryz.f53)) (ap [] model_Apply_an) [(0, .agg #[.int .i64 s_0, .slice s_1 s_1L s_1C]), (1, .agg #[.int .i64 o_0, .slice o_1 o_1L o_1C])] h (model_Apply_K0  K)
def model_Apply_b1 (s : Option Addr) (o : Option Addr) (t4 : Option Addr) (t5 : Option Addr) (h : Hp)  (K : Value → Hp → Prop) : Prop :=
  sx_2 Tryz.prog F 36 (cp [1, 1] (bodyOf Tryz.f53)) (ap [1, 1] model_Apply_an) [(2, .pointer s), (3, .pointer o), (4, .pointer t4), (5, .pointer t5)] h (model_Apply_K0  K)
def model_Apply_b2 (s : Option Addr) (t4 : Option Addr) (t5 : Option Addr) (rows : Option Addr) (rowsL : Nat) (rowsC : Nat) (r : Option Addr) (h : Hp)  (K : Value → Hp → Prop) : Prop :=
  sx_1 Tryz.prog F 36 (cp [1, 1, 1] (bodyOf Tryz.f53)) (ap [1, 1, 1] model_Apply_an) [(2, .pointer s), (4, .pointer t4), (5, .pointer t5), (7, .slice rows rowsL rowsC), (8, .pointer r)] h (model_Apply_K0  K)
theorem model_Apply_b0_eq (s_0 : Int) (s_1 : Option Addr) (s_1L : Nat) (s_1C : Nat) (o_0 : Int) (o_1 : Option Addr) (o_1L : Nat) (o_1C : Nat) (h : Hp)  (K : Value → Hp → Prop) : model_Apply_b0 s_0 s_1 s_1L s_1C o_0 o_1 o_1L o_1C h  K = (
  New h (.cells #[.int .i64 s_0, .slice s_1 s_1L s_1C] 66) fun b1 h1 =>
  New h1 (.cells #[.int .i64 o_0, .slice o_1 o_1L o_1C] 25) fun b2 h2 =>
  New h2 (.cells #[.int .i64 0, .slice none 0 0] 66) fun b3 h3 =>
  New h3 (.cells #[.int .i64 0, .int .i64 0, .slice none 0 0] 61) fun b4 h4 =>
  ∃ n1 : Int, ∃ (a1 : Option Addr) (L1 C1 : Nat), cell h4 ⟨b1, 0, none⟩ = some (.int .i64 n1) ∧
  cell h4 ((⟨b1, 0, none⟩ : Addr).add 1) = some (.slice a1 L1 C1) ∧
  HCalls Tryz.prog 91 #[.agg #[.int .i64 n1, .slice a1 L1 C1]] h4 fun v1 h5 => ∃ r1 : Bool, v1 = .bool r1 ∧
  cond (!r1)
  (Wr h5 ⟨b3, 0, none⟩ (.int .i64 0) fun h6 =>
  Wr h6 ((⟨b3, 0, none⟩ : Addr).add 1) (.slice none 0 0) fun h7 =>
  Wr h7 ⟨b4, 0, none⟩ (.int .i64 0) fun h8 =>
  Wr h8 ((⟨b4, 0, none⟩ : Addr).add 1) (.int .i64 0) fun h9 =>
  Wr h9 ((⟨b4, 0, none⟩ : Addr).add 2) (.slice none 0 0) fun h10 =>
  ∃ r2 : Int, ∃ (r3 : Option Addr) (rL1 rC1 : Nat), cell h10 ⟨b3, 0, none⟩ = some (.int .i64 r2) ∧
  cell h10 ((⟨b3, 0, none⟩ : Addr).add 1) = some (.slice r3 rL1 rC1) ∧
  ∃ r4 : Int, ∃ r5 : Int, ∃ (r6 : Option Addr) (rL2 rC2 : Nat), cell h10 ⟨b4, 0, none⟩ = some (.int .i64 r4) ∧
  cell h10 ((⟨b4, 0, none⟩ : Addr).add 1) = some (.int .i64 r5) ∧
  cell h10 ((⟨b4, 0, none⟩ : Addr).add 2) = some (.slice r6 rL2 rC2) ∧
  K (.tuple #[.agg #[.int .i64 r2, .slice r3 rL1 rC1], .agg #[.int .i64 r4, .int .i64 r5, .slice r6 rL2 rC2], .int .i64 1]) h10)
  (∃ n2 : Int, cell h5 ⟨b1, 0, none⟩ = some (.int .i64 n2) ∧
  ∃ n3 : Int, ∃ (a2 : Option Addr) (L2 C2 : Nat), cell h5 ⟨b2, 0, none⟩ = some (.int .i64 n3) ∧
  cell h5 ((⟨b2, 0, none⟩ : Addr).add 1) = some (.slice a2 L2 C2) ∧
  HCalls Tryz.prog 71 #[.int .i64 n2, .agg #[.int .i64 n3, .slice a2 L2 C2]] h5 fun v2 h11 => ∃ r7 : Bool, v2 = .bool r7 ∧
  cond (!r7)
  (Wr h11 ⟨b3, 0, none⟩ (.int .i64 0) fun h12 =>
  Wr h12 ((⟨b3, 0, none⟩ : Addr).add 1) (.slice none 0 0) fun h13 =>
  Wr h13 ⟨b4, 0, none⟩ (.int .i64 0) fun h14 =>
  Wr h14 ((⟨b4, 0, none⟩ : Addr).add 1) (.int .i64 0) fun h15 =>
  Wr h15 ((⟨b4, 0, none⟩ : Addr).add 2) (.slice none 0 0) fun h16 =>
  ∃ r8 : Int, ∃ (r9 : Option Addr) (rL3 rC3 : Nat), cell h16 ⟨b3, 0, none⟩ = some (.int .i64 r8) ∧
  cell h16 ((⟨b3, 0, none⟩ : Addr).add 1) = some (.slice r9 rL3 rC3) ∧
  ∃ r10 : Int, ∃ r11 : Int, ∃ (r12 : Option Addr) (rL4 rC4 : Nat), cell h16 ⟨b4, 0, none⟩ = some (.int .i64 r10) ∧
  cell h16 ((⟨b4, 0, none⟩ : Addr).add 1) = some (.int .i64 r11) ∧
  cell h16 ((⟨b4, 0, none⟩ : Addr).add 2) = some (.slice r12 rL4 rC4) ∧
  K (.tuple #[.agg #[.int .i64 r8, .slice r9 rL3 rC3], .agg #[.int .i64 r10, .int .i64 r11, .slice r12 rL4 rC4], .int .i64 1]) h16)
  (model_Apply_b1 (some ⟨b1, 0, none⟩) (some ⟨b2, 0, none⟩) (some ⟨b3, 0, none⟩) (some ⟨b4, 0, none⟩) h11  K))) := by kernel_rfl
theorem model_Apply_b1_eq (s : Option Addr) (o : Option Addr) (t4 : Option Addr) (t5 : Option Addr) (h : Hp)  (K : Value → Hp → Prop) : model_Apply_b1 s o t4 t5 h  K = (
  NN s fun a3 =>
  ∃ n4 : Int, cell h a3 = some (.int .i64 n4) ∧
  NN s fun a4 =>
  ∃ (a5 : Option Addr) (L3 C3 : Nat), cell h (a4.add 1) = some (.slice a5 L3 C3) ∧
  NN o fun a6 =>
  ∃ n5 : Int, ∃ (a7 : Option Addr) (L4 C4 : Nat), cell h a6 = some (.int .i64 n5) ∧
  cell h (a6.add 1) = some (.slice a7 L4 C4) ∧
  (HCalls Tryz.prog 93 #[.slice a5 L3 C3] h fun v3 h17 => ∃ (r13 : Option Addr) (rL5 rC5 : Nat), v3 = .slice r13 rL5 rC5 ∧
  (NN o fun a8 =>
  ∃ n6 : Int, ∃ (a9 : Option Addr) (L5 C5 : Nat), cell h17 a8 = some (.int .i64 n6) ∧
  cell h17 (a8.add 1) = some (.slice a9 L5 C5) ∧
  (.agg #[.int .i64 n6, .slice a9 L5 C5] : Value) = .agg #[.int .i64 n5, .slice a7 L4 C4]) ∧
  (∃ n7 : Int, cell h17 a3 = some (.int .i64 n7) ∧
  (.int .i64 n7 : Value) = .int .i64 n4) ∧
  (HCalls Tryz.prog 92 #[.int .i64 n4, .slice r13 rL5 rC5, .agg #[.int .i64 n5, .slice a7 L4 C4]] h17 fun v4 h18 => ∃ (r14 : Option Addr) (rL6 rC6 : Nat), ∃ r15 : Int, ∃ r16 : Int, ∃ (r17 : Option Addr) (rL7 rC7 : Nat), v4 = .tuple #[.slice r14 rL6 rC6, .agg #[.int .i64 r15, .int .i64 r16, .slice r17 rL7 rC7]] ∧
  New h18 (.cells #[.int .i64 0, .int .i64 0, .slice none 0 0] 61) fun b5 h19 =>
  Wr h19 ⟨b5, 0, none⟩ (.int .i64 r15) fun h20 =>
  Wr h20 ((⟨b5, 0, none⟩ : Addr).add 1) (.int .i64 r16) fun h21 =>
  Wr h21 ((⟨b5, 0, none⟩ : Addr).add 2) (.slice r17 rL7 rC7) fun h22 =>
  model_Apply_b2 s t4 t5 r14 rL6 rC6 (some ⟨b5, 0, none⟩) h22  K) ∧
  (New h17 (.cells #[.int .i64 0, .int .i64 0, .slice none 0 0] 61) fun b6 h23 =>
  (NN o fun a10 =>
  ∃ n8 : Int, ∃ (a11 : Option Addr) (L6 C6 : Nat), cell h23 a10 = some (.int .i64 n8) ∧
  cell h23 (a10.add 1) = some (.slice a11 L6 C6) ∧
  (.agg #[.int .i64 n8, .slice a11 L6 C6] : Value) = .agg #[.int .i64 n5, .slice a7 L4 C4]) ∧
  (∃ n9 : Int, cell h23 a3 = some (.int .i64 n9) ∧
  (.int .i64 n9 : Value) = .int .i64 n4) ∧
  HCalls Tryz.prog 92 #[.int .i64 n4, .slice r13 rL5 rC5, .agg #[.int .i64 n5, .slice a7 L4 C4]] h23 fun v5 h24 => ∃ (r18 : Option Addr) (rL8 rC8 : Nat), ∃ r19 : Int, ∃ r20 : Int, ∃ (r21 : Option Addr) (rL9 rC9 : Nat), v5 = .tuple #[.slice r18 rL8 rC8, .agg #[.int .i64 r19, .int .i64 r20, .slice r21 rL9 rC9]] ∧
  Wr h24 ⟨b6, 0, none⟩ (.int .i64 r19) fun h25 =>
  Wr h25 ((⟨b6, 0, none⟩ : Addr).add 1) (.int .i64 r20) fun h26 =>
  Wr h26 ((⟨b6, 0, none⟩ : Addr).add 2) (.slice r21 rL9 rC9) fun h27 =>
  model_Apply_b2 s t4 t5 r18 rL8 rC8 (some ⟨b6, 0, none⟩) h27  K)) ∧
  (New h (.cells #[.int .i64 0, .int .i64 0, .slice none 0 0] 61) fun b7 h28 =>
  (NN o fun a12 =>
  ∃ n10 : Int, ∃ (a13 : Option Addr) (L7 C7 : Nat), cell h28 a12 = some (.int .i64 n10) ∧
  cell h28 (a12.add 1) = some (.slice a13 L7 C7) ∧
  (.agg #[.int .i64 n10, .slice a13 L7 C7] : Value) = .agg #[.int .i64 n5, .slice a7 L4 C4]) ∧
  (∃ (a14 : Option Addr) (L8 C8 : Nat), cell h28 (a4.add 1) = some (.slice a14 L8 C8) ∧
  (.slice a14 L8 C8 : Value) = .slice a5 L3 C3) ∧
  (∃ n11 : Int, cell h28 a3 = some (.int .i64 n11) ∧
  (.int .i64 n11 : Value) = .int .i64 n4) ∧
  HCalls Tryz.prog 93 #[.slice a5 L3 C3] h28 fun v6 h29 => ∃ (r22 : Option Addr) (rL10 rC10 : Nat), v6 = .slice r22 rL10 rC10 ∧
  (NN o fun a15 =>
  ∃ n12 : Int, ∃ (a16 : Option Addr) (L9 C9 : Nat), cell h29 a15 = some (.int .i64 n12) ∧
  cell h29 (a15.add 1) = some (.slice a16 L9 C9) ∧
  (.agg #[.int .i64 n12, .slice a16 L9 C9] : Value) = .agg #[.int .i64 n5, .slice a7 L4 C4]) ∧
  (∃ n13 : Int, cell h29 a3 = some (.int .i64 n13) ∧
  (.int .i64 n13 : Value) = .int .i64 n4) ∧
  HCalls Tryz.prog 92 #[.int .i64 n4, .slice r22 rL10 rC10, .agg #[.int .i64 n5, .slice a7 L4 C4]] h29 fun v7 h30 => ∃ (r23 : Option Addr) (rL11 rC11 : Nat), ∃ r24 : Int, ∃ r25 : Int, ∃ (r26 : Option Addr) (rL12 rC12 : Nat), v7 = .tuple #[.slice r23 rL11 rC11, .agg #[.int .i64 r24, .int .i64 r25, .slice r26 rL12 rC12]] ∧
  Wr h30 ⟨b7, 0, none⟩ (.int .i64 r24) fun h31 =>
  Wr h31 ((⟨b7, 0, none⟩ : Addr).add 1) (.int .i64 r25) fun h32 =>
  Wr h32 ((⟨b7, 0, none⟩ : Addr).add 2) (.slice r26 rL12 rC12) fun h33 =>
  model_Apply_b2 s t4 t5 r23 rL11 rC11 (some ⟨b7, 0, none⟩) h33  K)) := by kernel_rfl
theorem model_Apply_b2_eq (s : Option Addr) (t4 : Option Addr) (t5 : Option Addr) (rows : Option Addr) (rowsL : Nat) (rowsC : Nat) (r : Option Addr) (h : Hp)  (K : Value → Hp → Prop) : model_Apply_b2 s t4 t5 rows rowsL rowsC r h  K = (
  NN s fun a17 =>
  ∃ n14 : Int, cell h a17 = some (.int .i64 n14) ∧
  NN r fun a18 =>
  ∃ n15 : Int, ∃ n16 : Int, ∃ (a19 : Option Addr) (L10 C10 : Nat), cell h a18 = some (.int .i64 n15) ∧
  cell h (a18.add 1) = some (.int .i64 n16) ∧
  cell h (a18.add 2) = some (.slice a19 L10 C10) ∧
  NN t4 fun a20 =>
  Wr h a20 (.int .i64 n14) fun h34 =>
  Wr h34 (a20.add 1) (.slice rows rowsL rowsC) fun h35 =>
  (NN r fun a21 =>
  ∃ n17 : Int, ∃ n18 : Int, ∃ (a22 : Option Addr) (L11 C11 : Nat), cell h35 a21 = some (.int .i64 n17) ∧
  cell h35 (a21.add 1) = some (.int .i64 n18) ∧
  cell h35 (a21.add 2) = some (.slice a22 L11 C11) ∧
  (.agg #[.int .i64 n17, .int .i64 n18, .slice a22 L11 C11] : Value) = .agg #[.int .i64 n15, .int .i64 n16, .slice a19 L10 C10]) ∧
  NN t5 fun a23 =>
  Wr h35 a23 (.int .i64 n15) fun h36 =>
  Wr h36 (a23.add 1) (.int .i64 n16) fun h37 =>
  Wr h37 (a23.add 2) (.slice a19 L10 C10) fun h38 =>
  NN t4 fun a24 =>
  ∃ r27 : Int, ∃ (r28 : Option Addr) (rL13 rC13 : Nat), cell h38 a24 = some (.int .i64 r27) ∧
  cell h38 (a24.add 1) = some (.slice r28 rL13 rC13) ∧
  NN t5 fun a25 =>
  ∃ r29 : Int, ∃ r30 : Int, ∃ (r31 : Option Addr) (rL14 rC14 : Nat), cell h38 a25 = some (.int .i64 r29) ∧
  cell h38 (a25.add 1) = some (.int .i64 r30) ∧
  cell h38 (a25.add 2) = some (.slice r31 rL14 rC14) ∧
  K (.tuple #[.agg #[.int .i64 r27, .slice r28 rL13 rC13], .agg #[.int .i64 r29, .int .i64 r30, .slice r31 rL14 rC14], .int .i64 0]) h38) := by kernel_rfl
theorem model_Apply_call {s_0 : Int} {s_1 : Option Addr} {s_1L : Nat} {s_1C : Nat} {o_0 : Int} {o_1 : Option Addr} {o_1L : Nat} {o_1C : Nat} {h : Hp} {K : Value → Hp → Prop} (hk : model_Apply_b0 s_0 s_1 s_1L s_1C o_0 o_1 o_1L o_1C h K) : HCalls Tryz.prog 53 #[.agg #[.int .i64 s_0, .slice s_1 s_1L s_1C], .agg #[.int .i64 o_0, .slice o_1 o_1L o_1C]] h K :=
  calls_of_snd model_Apply_an Tryz.func53 (c := bodyOf Tryz.f53) rfl Tryz.ntmps53 (Nat.le_of_ble_eq_true rfl) (snd_3 F_ok F_mixed) hk

/-! ### slices_ContainsFunc_Sl35_Step_l35_Step -/
def slices_ContainsFunc_Sl35_Step_l35_Step_an : Ann := .leaf
def slices_ContainsFunc_Sl35_Step_l35_Step_K0  (K : Value → Hp → Prop) : Exit → Env → Hp → Prop := retK Tryz.prog Tryz.f54.results.toList K
def slices_ContainsFunc_Sl35_Step_l35_Step_b0 (s : Option Addr) (sL : Nat) (sC : Nat) (f : Value) (h : Hp)  (K : Value → Hp → Prop) : Prop :=
  sx_1 Tryz.prog F 9 (cp [] (bodyOf Tryz.f54)) (ap [] slices_ContainsFunc_Sl35_Step_l35_Step_an) [(0, .slice s sL sC), (1, f)] h (slices_ContainsFunc_Sl35_Step_l35_Step_K0  K)
theorem slices_ContainsFunc_Sl35_Step_l35_Step_b0_eq (s : Option Addr) (sL : Nat) (sC : Nat) (f : Value) (h : Hp)  (K : Value → Hp → Prop) : slices_ContainsFunc_Sl35_Step_l35_Step_b0 s sL sC f h  K = (
  HCalls Tryz.prog 94 #[.slice s sL sC, f] h fun v1 h1 => ∃ r1 : Int, v1 = .int .i64 r1 ∧
  K (.bool (decide ((0 : Int) ≤ r1))) h1) := by kernel_rfl
theorem slices_ContainsFunc_Sl35_Step_l35_Step_call {s : Option Addr} {sL : Nat} {sC : Nat} {f : Value} {h : Hp} {K : Value → Hp → Prop} (hk : slices_ContainsFunc_Sl35_Step_l35_Step_b0 s sL sC f h K) : HCalls Tryz.prog 54 #[.slice s sL sC, f] h K :=
  calls_of_snd slices_ContainsFunc_Sl35_Step_l35_Step_an Tryz.func54 (c := bodyOf Tryz.f54) rfl Tryz.ntmps54 (Nat.le_of_ble_eq_true rfl) (snd_1 F_ok F_mixed) hk

/-! ### l35_few_c1 -/
def l35_few_c1_an : Ann := .leaf
def l35_few_c1_K0  (K : Value → Hp → Prop) : Exit → Env → Hp → Prop := retK Tryz.prog Tryz.f55.results.toList K
def l35_few_c1_b0 (s_0 : Int) (s_1 : Int) (s_2 : Int) (s_3 : Int) (s_4 : Option Addr) (s_4L : Nat) (s_4C : Nat) (h : Hp)  (K : Value → Hp → Prop) : Prop :=
  sx_1 Tryz.prog F 8 (cp [] (bodyOf Tryz.f55)) (ap [] l35_few_c1_an) [(0, .agg #[.int .i64 s_0, .int .i64 s_1, .int .i64 s_2, .int .i64 s_3, .slice s_4 s_4L s_4C])] h (l35_few_c1_K0  K)
theorem l35_few_c1_b0_eq (s_0 : Int) (s_1 : Int) (s_2 : Int) (s_3 : Int) (s_4 : Option Addr) (s_4L : Nat) (s_4C : Nat) (h : Hp)  (K : Value → Hp → Prop) : l35_few_c1_b0 s_0 s_1 s_2 s_3 s_4 s_4L s_4C h  K = (
  New h (.cells #[.int .i64 s_0, .int .i64 s_1, .int .i64 s_2, .int .i64 s_3, .slice s_4 s_4L s_4C] 27) fun b1 h1 =>
  ∃ (a1 : Option Addr) (L1 C1 : Nat), cell h1 (((⟨b1, 0, none⟩ : Addr).add 3).add 1) = some (.slice a1 L1 C1) ∧
  K (.bool (decide ((70 : Int) < (L1 : Int)))) h1) := by kernel_rfl
theorem l35_few_c1_call {s_0 : Int} {s_1 : Int} {s_2 : Int} {s_3 : Int} {s_4 : Option Addr} {s_4L : Nat} {s_4C : Nat} {h : Hp} {K : Value → Hp → Prop} (hk : l35_few_c1_b0 s_0 s_1 s_2 s_3 s_4 s_4L s_4C h K) : HCalls Tryz.prog 55 #[.agg #[.int .i64 s_0, .int .i64 s_1, .int .i64 s_2, .int .i64 s_3, .slice s_4 s_4L s_4C]] h K :=
  calls_of_snd l35_few_c1_an Tryz.func55 (c := bodyOf Tryz.f55) rfl Tryz.ntmps55 (Nat.le_of_ble_eq_true rfl) (snd_1 F_ok F_mixed) hk

/-! ### r35_Add -/
/-! ### r35_Revoke -/
end Go.Proofs.YtdlkohenamlnaaaGreat
