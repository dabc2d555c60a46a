/- Plain statements of what each block of code of this seat asks; printed by a program, checked by Lean. -/
import Derived.Test.YtaemnjblcpknpaaSxV0
set_option maxRecDepth 10000
namespace Go.Proofs.Ytaemnjblcpknpaa
open Go Go.Sx

/-! ### slices_Delete_Sint_int -/
def slices_Delete_Sint_int_an : Ann := .node none (.leaf) (.node none (.leaf) (.node none (.leaf) (.node none (.leaf) (.node none (.tail 6) (.leaf)))))
def slices_Delete_Sint_int_K0  (K : Value → Hp → Prop) : Exit → Env → Hp → Prop := retK Try.prog Try.f68.results.toList K
def slices_Delete_Sint_int_b0 (s : Option Addr) (sL : Nat) (sC : Nat) (i : Int) (j : Int) (h : Hp)  (K : Value → Hp → Prop) : Prop :=
  sx_1 Try.prog F 33 (cp [] (bodyOf Try.f68)) (ap [] slices_Delete_Sint_int_an) [(0, .slice s sL sC), (1, .int .i64 i), (2, .int .i64 j)] h (slices_Delete_Sint_int_K0  K)
theorem slices_Delete_Sint_int_b0_eq (s : Option Addr) (sL : Nat) (sC : Nat) (i : Int) (j : Int) (h : Hp)  (K : Value → Hp → Prop) : slices_Delete_Sint_int_b0 s sL sC i j h  K = (
  ∃ (a1 : Option Addr) (l1 c1 : Nat), slC Try.prog 38 (.slice s sL sC) (some (.int .i64 i)) (some (.int .i64 j)) (.int .i64 (sL : Int)) h a1 l1 c1 ∧
  cond (decide (i = j))
  (K (.slice s sL sC) h)
  ((0 ≤ (0 : Int) ∧ (0 : Int) ≤ i ∧ i ≤ (sC : Int)) ∧
  (0 ≤ j ∧ j ≤ (sL : Int) ∧ (sL : Int) ≤ (sC : Int)) ∧
  appendV Try.prog 38 38 (.slice (subAddr s sC (Int.toNat (0 : Int)) 1) (Int.toNat i - Int.toNat (0 : Int)) (sC - Int.toNat (0 : Int))) (.slice (subAddr s sC (Int.toNat j) 1) (Int.toNat (sL : Int) - Int.toNat j) (sC - Int.toNat j)) h (slK fun a2 l2 c2 h1 =>
  (0 ≤ (l2 : Int) ∧ (l2 : Int) ≤ (sL : Int) ∧ (sL : Int) ≤ (c2 : Int)) ∧
  clearV Try.prog 38 (.slice (subAddr a2 c2 (Int.toNat (l2 : Int)) 1) (Int.toNat (sL : Int) - Int.toNat (l2 : Int)) (c2 - Int.toNat (l2 : Int))) h1 fun h2 =>
  K (.slice a2 l2 c2) h2))) := by kernel_rfl
theorem slices_Delete_Sint_int_call {s : Option Addr} {sL : Nat} {sC : Nat} {i : Int} {j : Int} {h : Hp} {K : Value → Hp → Prop} (hk : slices_Delete_Sint_int_b0 s sL sC i j h K) : HCalls Try.prog 68 #[.slice s sL sC, .int .i64 i, .int .i64 j] h K :=
  calls_of_snd slices_Delete_Sint_int_an Try.func68 (c := bodyOf Try.f68) rfl Try.ntmps68 (Nat.le_of_ble_eq_true rfl) (snd_1 F_ok F_mixed) hk

/-! ### btree_fromLeft -/
def btree_fromLeft_an : Ann := .node none (.leaf) (.node none (.leaf) (.node (some [0, 1, 4, 5, 6]) (.plan (.qu 0 (.qu 1 (.qu 2 (.qu 3 (.qu 4 (.qu 5 (.qu 6 (.qu 7 (.qu 8 (.qu 9 (.qu 10 (.qu 11 (.qu 12 (.qu 13 (.qu 16 (.qu 17 (.qu 18 (.qu 19 (.qu 20 (.qu 21 (.qu 22 (.qu 23 (.qu 24 (.qu 25 (.qu 26 (.qu 27 (.wo 14 (.wo 15 (.wo 28 (.wo 29 (.qu 30 (.qu 31 (.wo 32 (.qu 33 (.qu 34 (.wo 35 .fin .no))) .no))) .no) .no) (.wo 28 (.wo 15 (.wo 29 (.qu 30 (.qu 31 (.wo 32 (.qu 33 (.qu 34 (.wo 35 .fin .no))) .no))) .no) .no) .no)) (.wo 28 (.wo 14 (.wo 15 (.wo 29 (.qu 30 (.qu 31 (.wo 32 (.qu 33 (.qu 34 (.wo 35 .fin .no))) .no))) .no) .no) .no) .no))))))))))))))))))))))))))))) (.node none (.plan (.qu 0 (.qu 1 (.qu 2 (.qu 3 (.qu 4 (.qu 5 (.qu 6 (.qu 7 (.qu 8 (.qu 9 (.qu 10 (.qu 11 (.qu 12 (.qu 13 (.qu 14 (.qu 15 (.qu 16 (.qu 17 (.qu 18 (.qu 19 (.qu 20 (.qu 21 (.qu 22 (.qu 23 (.qu 24 (.qu 25 (.qu 26 (.wo 27 (.qu 28 (.wo 29 .fin .no)) .no))))))))))))))))))))))))))))) (.node none (.plan (.qu 0 (.qu 1 (.qu 2 (.qu 3 (.qu 4 (.qu 5 (.qu 6 (.qu 7 (.qu 8 (.qu 9 (.qu 10 (.qu 11 (.qu 12 (.qu 13 (.qu 14 (.qu 15 (.wo 16 (.qu 17 (.qu 18 (.wo 19 .fin .no))) .no)))))))))))))))))) (.node none (.leaf) (.node none (.node none (.plan (.qu 0 (.qu 1 (.qu 2 (.qu 3 (.qu 4 (.qu 5 (.qu 6 (.qu 7 (.qu 8 (.qu 9 (.qu 10 (.qu 11 (.qu 12 (.wo 13 (.wo 14 (.qu 15 (.qu 16 (.wo 17 .fin .no))) .no) .no))))))))))))))) (.leaf)) (.leaf)))))))
def btree_fromLeft_K0  (K : Value → Hp → Prop) : Exit → Env → Hp → Prop := retK Try.prog Try.f69.results.toList K
def btree_fromLeft_b0 (p : Option Addr) (i : Int) (h : Hp)  (K : Value → Hp → Prop) : Prop :=
  sx_2 Try.prog F 140 (cp [] (bodyOf Try.f69)) (ap [] btree_fromLeft_an) [(0, .pointer p), (1, .int .i64 i)] h (btree_fromLeft_K0  K)
def btree_fromLeft_b1 (p : Option Addr) (i : Int) (l : Option Addr) (nv : Option Addr) (k : Int) (h : Hp)  (K : Value → Hp → Prop) : Prop :=
  sx_1 Try.prog F 140 (cp [1, 1, 1] (bodyOf Try.f69)) (ap [1, 1, 1] btree_fromLeft_an) [(0, .pointer p), (1, .int .i64 i), (4, .pointer l), (5, .pointer nv), (6, .int .i64 k)] h (btree_fromLeft_K0  K)
theorem btree_fromLeft_b0_eq (p : Option Addr) (i : Int) (h : Hp)  (K : Value → Hp → Prop) : btree_fromLeft_b0 p i h  K = (
  NN p fun a1 =>
  ∃ (a2 : Option Addr) (L1 C1 : Nat), cell h (a1.add 2) = some (.slice a2 L1 C1) ∧
  InR (i - 1) ∧
  (0 ≤ i - 1 ∧ i - 1 < (L1 : Int)) ∧
  NN a2 fun a3 =>
  ∃ p1 : Option Addr, cell h (a3.add (Int.toNat (i - 1) * 1)) = some (.pointer p1) ∧
  NN p fun a4 =>
  ∃ (a5 : Option Addr) (L2 C2 : Nat), cell h (a4.add 2) = some (.slice a5 L2 C2) ∧
  (0 ≤ i ∧ i < (L2 : Int)) ∧
  NN a5 fun a6 =>
  ∃ p2 : Option Addr, cell h (a6.add (Int.toNat i * 1)) = some (.pointer p2) ∧
  NN p1 fun a7 =>
  ∃ (a8 : Option Addr) (L3 C3 : Nat), cell h a7 = some (.slice a8 L3 C3) ∧
  InR ((L3 : Int) - 1) ∧
  NN p2 fun a9 =>
  ∃ (a10 : Option Addr) (L4 C4 : Nat), cell h a9 = some (.slice a10 L4 C4) ∧
  NN p fun a11 =>
  ∃ (a12 : Option Addr) (L5 C5 : Nat), cell h a11 = some (.slice a12 L5 C5) ∧
  InR (i - 1) ∧
  (0 ≤ i - 1 ∧ i - 1 < (L5 : Int)) ∧
  NN a12 fun a13 =>
  ∃ n1 : Int, cell h (a13.add (Int.toNat (i - 1) * 1)) = some (.int .i64 n1) ∧
  NN p2 fun a14 =>
  ∃ (a15 : Option Addr) (L6 C6 : Nat), cell h (a14.add 1) = some (.slice a15 L6 C6) ∧
  NN p fun a16 =>
  ∃ (a17 : Option Addr) (L7 C7 : Nat), cell h (a16.add 1) = some (.slice a17 L7 C7) ∧
  InR (i - 1) ∧
  (0 ≤ i - 1 ∧ i - 1 < (L7 : Int)) ∧
  NN a17 fun a18 =>
  ∃ n2 : Int, cell h (a18.add (Int.toNat (i - 1) * 1)) = some (.int .i64 n2) ∧
  (New h (.cells #[.int .i64 n1] 3) fun b1 h1 =>
  (∃ n3 : Int, cell h1 (a18.add (Int.toNat (i - 1) * 1)) = some (.int .i64 n3) ∧
  (.int .i64 n3 : Value) = .int .i64 n2) ∧
  (∃ (a19 : Option Addr) (L8 C8 : Nat), cell h1 (a16.add 1) = some (.slice a19 L8 C8) ∧
  (.slice a19 L8 C8 : Value) = .slice a17 L7 C7) ∧
  (∃ (a20 : Option Addr) (L9 C9 : Nat), cell h1 (a14.add 1) = some (.slice a20 L9 C9) ∧
  (.slice a20 L9 C9 : Value) = .slice a15 L6 C6) ∧
  (∃ (a21 : Option Addr) (L10 C10 : Nat), cell h1 a9 = some (.slice a21 L10 C10) ∧
  (.slice a21 L10 C10 : Value) = .slice a10 L4 C4) ∧
  (HCalls Try.prog 63 #[.slice a10 L4 C4, .int .i64 0, .slice (some ⟨b1, 0, none⟩) 1 1] h1 fun v1 h2 => ∃ (r1 : Option Addr) (rL1 rC1 : Nat), v1 = .slice r1 rL1 rC1 ∧
  (∃ n4 : Int, cell h2 (a18.add (Int.toNat (i - 1) * 1)) = some (.int .i64 n4) ∧
  (.int .i64 n4 : Value) = .int .i64 n2) ∧
  (∃ (a22 : Option Addr) (L11 C11 : Nat), cell h2 (a16.add 1) = some (.slice a22 L11 C11) ∧
  (.slice a22 L11 C11 : Value) = .slice a17 L7 C7) ∧
  (∃ (a23 : Option Addr) (L12 C12 : Nat), cell h2 (a14.add 1) = some (.slice a23 L12 C12) ∧
  (.slice a23 L12 C12 : Value) = .slice a15 L6 C6) ∧
  New h2 (.cells #[.int .i64 n2] 3) fun b2 h3 =>
  (∃ (a24 : Option Addr) (L13 C13 : Nat), cell h3 (a14.add 1) = some (.slice a24 L13 C13) ∧
  (.slice a24 L13 C13 : Value) = .slice a15 L6 C6) ∧
  HCalls Try.prog 63 #[.slice a15 L6 C6, .int .i64 0, .slice (some ⟨b2, 0, none⟩) 1 1] h3 fun v2 h4 => ∃ (r2 : Option Addr) (rL2 rC2 : Nat), v2 = .slice r2 rL2 rC2 ∧
  NN p2 fun a25 =>
  Wr h4 a25 (.slice r1 rL1 rC1) fun h5 =>
  NN p2 fun a26 =>
  Wr h5 (a26.add 1) (.slice r2 rL2 rC2) fun h6 =>
  btree_fromLeft_b1 p i p1 p2 ((L3 : Int) - 1) h6  K) ∧
  (New h1 (.cells #[.int .i64 n2] 3) fun b3 h7 =>
  (∃ (a27 : Option Addr) (L14 C14 : Nat), cell h7 (a14.add 1) = some (.slice a27 L14 C14) ∧
  (.slice a27 L14 C14 : Value) = .slice a15 L6 C6) ∧
  (∃ (a28 : Option Addr) (L15 C15 : Nat), cell h7 a9 = some (.slice a28 L15 C15) ∧
  (.slice a28 L15 C15 : Value) = .slice a10 L4 C4) ∧
  HCalls Try.prog 63 #[.slice a10 L4 C4, .int .i64 0, .slice (some ⟨b1, 0, none⟩) 1 1] h7 fun v3 h8 => ∃ (r3 : Option Addr) (rL3 rC3 : Nat), v3 = .slice r3 rL3 rC3 ∧
  (∃ (a29 : Option Addr) (L16 C16 : Nat), cell h8 (a14.add 1) = some (.slice a29 L16 C16) ∧
  (.slice a29 L16 C16 : Value) = .slice a15 L6 C6) ∧
  HCalls Try.prog 63 #[.slice a15 L6 C6, .int .i64 0, .slice (some ⟨b3, 0, none⟩) 1 1] h8 fun v4 h9 => ∃ (r4 : Option Addr) (rL4 rC4 : Nat), v4 = .slice r4 rL4 rC4 ∧
  NN p2 fun a30 =>
  Wr h9 a30 (.slice r3 rL3 rC3) fun h10 =>
  NN p2 fun a31 =>
  Wr h10 (a31.add 1) (.slice r4 rL4 rC4) fun h11 =>
  btree_fromLeft_b1 p i p1 p2 ((L3 : Int) - 1) h11  K)) ∧
  (New h (.cells #[.int .i64 n2] 3) fun b4 h12 =>
  (∃ (a32 : Option Addr) (L17 C17 : Nat), cell h12 (a14.add 1) = some (.slice a32 L17 C17) ∧
  (.slice a32 L17 C17 : Value) = .slice a15 L6 C6) ∧
  (∃ n5 : Int, cell h12 (a13.add (Int.toNat (i - 1) * 1)) = some (.int .i64 n5) ∧
  (.int .i64 n5 : Value) = .int .i64 n1) ∧
  (∃ (a33 : Option Addr) (L18 C18 : Nat), cell h12 a11 = some (.slice a33 L18 C18) ∧
  (.slice a33 L18 C18 : Value) = .slice a12 L5 C5) ∧
  (∃ (a34 : Option Addr) (L19 C19 : Nat), cell h12 a9 = some (.slice a34 L19 C19) ∧
  (.slice a34 L19 C19 : Value) = .slice a10 L4 C4) ∧
  New h12 (.cells #[.int .i64 n1] 3) fun b5 h13 =>
  (∃ (a35 : Option Addr) (L20 C20 : Nat), cell h13 (a14.add 1) = some (.slice a35 L20 C20) ∧
  (.slice a35 L20 C20 : Value) = .slice a15 L6 C6) ∧
  (∃ (a36 : Option Addr) (L21 C21 : Nat), cell h13 a9 = some (.slice a36 L21 C21) ∧
  (.slice a36 L21 C21 : Value) = .slice a10 L4 C4) ∧
  HCalls Try.prog 63 #[.slice a10 L4 C4, .int .i64 0, .slice (some ⟨b5, 0, none⟩) 1 1] h13 fun v5 h14 => ∃ (r5 : Option Addr) (rL5 rC5 : Nat), v5 = .slice r5 rL5 rC5 ∧
  (∃ (a37 : Option Addr) (L22 C22 : Nat), cell h14 (a14.add 1) = some (.slice a37 L22 C22) ∧
  (.slice a37 L22 C22 : Value) = .slice a15 L6 C6) ∧
  HCalls Try.prog 63 #[.slice a15 L6 C6, .int .i64 0, .slice (some ⟨b4, 0, none⟩) 1 1] h14 fun v6 h15 => ∃ (r6 : Option Addr) (rL6 rC6 : Nat), v6 = .slice r6 rL6 rC6 ∧
  NN p2 fun a38 =>
  Wr h15 a38 (.slice r5 rL5 rC5) fun h16 =>
  NN p2 fun a39 =>
  Wr h16 (a39.add 1) (.slice r6 rL6 rC6) fun h17 =>
  btree_fromLeft_b1 p i p1 p2 ((L3 : Int) - 1) h17  K)) := by kernel_rfl
theorem btree_fromLeft_b1_eq (p : Option Addr) (i : Int) (l : Option Addr) (nv : Option Addr) (k : Int) (h : Hp)  (K : Value → Hp → Prop) : btree_fromLeft_b1 p i l nv k h  K = (
  NN p fun a40 =>
  ∃ (a41 : Option Addr) (L23 C23 : Nat), cell h a40 = some (.slice a41 L23 C23) ∧
  InR (i - 1) ∧
  NN p fun a42 =>
  ∃ (a43 : Option Addr) (L24 C24 : Nat), cell h (a42.add 1) = some (.slice a43 L24 C24) ∧
  InR (i - 1) ∧
  NN l fun a44 =>
  ∃ (a45 : Option Addr) (L25 C25 : Nat), cell h a44 = some (.slice a45 L25 C25) ∧
  (0 ≤ k ∧ k < (L25 : Int)) ∧
  NN a45 fun a46 =>
  ∃ n6 : Int, cell h (a46.add (Int.toNat k * 1)) = some (.int .i64 n6) ∧
  NN l fun a47 =>
  ∃ (a48 : Option Addr) (L26 C26 : Nat), cell h (a47.add 1) = some (.slice a48 L26 C26) ∧
  (0 ≤ k ∧ k < (L26 : Int)) ∧
  NN a48 fun a49 =>
  ∃ n7 : Int, cell h (a49.add (Int.toNat k * 1)) = some (.int .i64 n7) ∧
  (0 ≤ i - 1 ∧ i - 1 < (L23 : Int)) ∧
  NN a41 fun a50 =>
  Wr h (a50.add (Int.toNat (i - 1) * 1)) (.int .i64 n6) fun h18 =>
  (0 ≤ i - 1 ∧ i - 1 < (L24 : Int)) ∧
  NN a43 fun a51 =>
  Wr h18 (a51.add (Int.toNat (i - 1) * 1)) (.int .i64 n7) fun h19 =>
  NN l fun a52 =>
  ∃ (a53 : Option Addr) (L27 C27 : Nat), cell h19 a52 = some (.slice a53 L27 C27) ∧
  (0 ≤ (0 : Int) ∧ (0 : Int) ≤ k ∧ k ≤ (C27 : Int)) ∧
  NN l fun a54 =>
  ∃ (a55 : Option Addr) (L28 C28 : Nat), cell h19 (a54.add 1) = some (.slice a55 L28 C28) ∧
  (0 ≤ (0 : Int) ∧ (0 : Int) ≤ k ∧ k ≤ (C28 : Int)) ∧
  NN l fun a56 =>
  Wr h19 a56 (.slice (subAddr a53 C27 (Int.toNat (0 : Int)) 1) (Int.toNat k - Int.toNat (0 : Int)) (C27 - Int.toNat (0 : Int))) fun h20 =>
  ((0 ≤ (0 : Int) ∧ (0 : Int) ≤ k ∧ k ≤ (C28 : Int)) ∧
  (.slice (subAddr a55 C28 (Int.toNat (0 : Int)) 1) (Int.toNat k - Int.toNat (0 : Int)) (C28 - Int.toNat (0 : Int)) : Value) = .slice (subAddr a55 C28 (Int.toNat (0 : Int)) 1) (Int.toNat k - Int.toNat (0 : Int)) (C28 - Int.toNat (0 : Int))) ∧
  NN l fun a57 =>
  Wr h20 (a57.add 1) (.slice (subAddr a55 C28 (Int.toNat (0 : Int)) 1) (Int.toNat k - Int.toNat (0 : Int)) (C28 - Int.toNat (0 : Int))) fun h21 =>
  HCalls Try.prog 42 #[.pointer l] h21 fun v7 h22 => ∃ r7 : Bool, v7 = .bool r7 ∧
  cond (!r7)
  (NN nv fun a58 =>
  ∃ (a59 : Option Addr) (L29 C29 : Nat), cell h22 (a58.add 2) = some (.slice a59 L29 C29) ∧
  NN l fun a60 =>
  ∃ (a61 : Option Addr) (L30 C30 : Nat), cell h22 (a60.add 2) = some (.slice a61 L30 C30) ∧
  InR (k + 1) ∧
  (0 ≤ k + 1 ∧ k + 1 < (L30 : Int)) ∧
  NN a61 fun a62 =>
  ∃ p3 : Option Addr, cell h22 (a62.add (Int.toNat (k + 1) * 1)) = some (.pointer p3) ∧
  New h22 (.cells #[.pointer p3] 73) fun b6 h23 =>
  (∃ (a63 : Option Addr) (L31 C31 : Nat), cell h23 (a58.add 2) = some (.slice a63 L31 C31) ∧
  (.slice a63 L31 C31 : Value) = .slice a59 L29 C29) ∧
  HCalls Try.prog 64 #[.slice a59 L29 C29, .int .i64 0, .slice (some ⟨b6, 0, none⟩) 1 1] h23 fun v8 h24 => ∃ (r8 : Option Addr) (rL7 rC7 : Nat), v8 = .slice r8 rL7 rC7 ∧
  NN nv fun a64 =>
  Wr h24 (a64.add 2) (.slice r8 rL7 rC7) fun h25 =>
  NN l fun a65 =>
  ∃ (a66 : Option Addr) (L32 C32 : Nat), cell h25 (a65.add 2) = some (.slice a66 L32 C32) ∧
  InR (k + 1) ∧
  InR (k + 2) ∧
  HCalls Try.prog 95 #[.slice a66 L32 C32, .int .i64 (k + 1), .int .i64 (k + 2)] h25 fun v9 h26 => ∃ (r9 : Option Addr) (rL8 rC8 : Nat), v9 = .slice r9 rL8 rC8 ∧
  NN l fun a67 =>
  Wr h26 (a67.add 2) (.slice r9 rL8 rC8) fun h27 =>
  K (.tuple #[]) h27)
  (K (.tuple #[]) h22)) := by kernel_rfl
theorem btree_fromLeft_call {p : Option Addr} {i : Int} {h : Hp} {K : Value → Hp → Prop} (hk : btree_fromLeft_b0 p i h K) : HCalls Try.prog 69 #[.pointer p, .int .i64 i] h K :=
  calls_of_snd btree_fromLeft_an Try.func69 (c := bodyOf Try.f69) rfl Try.ntmps69 (Nat.le_of_ble_eq_true rfl) (snd_2 F_ok F_mixed) hk

/-! ### btree_fromRight -/
def btree_fromRight_an : Ann := .node none (.leaf) (.node (some [0, 1, 4, 5]) (.plan (.qu 0 (.qu 1 (.qu 2 (.qu 3 (.qu 4 (.qu 5 (.qu 6 (.qu 7 (.qu 8 (.qu 9 (.qu 10 (.qu 11 (.qu 12 (.qu 15 (.qu 16 (.qu 17 (.qu 18 (.qu 19 (.qu 20 (.qu 21 (.qu 22 (.qu 23 (.qu 24 (.qu 25 (.wo 13 (.wo 14 (.wo 26 (.wo 27 (.qu 28 (.qu 29 (.wo 30 (.qu 31 (.qu 32 (.wo 33 .fin .no))) .no))) .no) .no) (.wo 26 (.wo 14 (.wo 27 (.qu 28 (.qu 29 (.wo 30 (.qu 31 (.qu 32 (.wo 33 .fin .no))) .no))) .no) .no) .no)) (.wo 26 (.wo 13 (.wo 14 (.wo 27 (.qu 28 (.qu 29 (.wo 30 (.qu 31 (.qu 32 (.wo 33 .fin .no))) .no))) .no) .no) .no) .no))))))))))))))))))))))))))) (.node none (.plan (.qu 0 (.qu 1 (.qu 2 (.qu 3 (.qu 4 (.qu 5 (.qu 6 (.qu 7 (.qu 8 (.qu 9 (.qu 10 (.qu 11 (.qu 12 (.qu 13 (.qu 14 (.qu 15 (.qu 16 (.qu 17 (.qu 18 (.qu 19 (.qu 20 (.qu 21 (.qu 22 (.wo 23 (.qu 24 (.wo 25 .fin .no)) .no))))))))))))))))))))))))) (.node none (.plan (.qu 0 (.qu 1 (.qu 2 (.qu 3 (.qu 4 (.qu 5 (.qu 7 (.qu 8 (.qu 9 (.qu 10 (.wo 6 (.wo 11 (.qu 12 (.qu 13 (.wo 14 (.qu 15 (.qu 16 (.wo 17 .fin .no))) .no))) .no) .no)))))))))))) (.node none (.leaf) (.node none (.node none (.plan (.qu 0 (.qu 1 (.qu 2 (.qu 3 (.qu 4 (.qu 5 (.qu 6 (.qu 7 (.qu 8 (.qu 9 (.qu 10 (.wo 11 (.wo 12 (.qu 13 (.qu 14 (.wo 15 .fin .no))) .no) .no))))))))))))) (.leaf)) (.leaf))))))
def btree_fromRight_K0  (K : Value → Hp → Prop) : Exit → Env → Hp → Prop := retK Try.prog Try.f70.results.toList K
def btree_fromRight_b0 (p : Option Addr) (i : Int) (h : Hp)  (K : Value → Hp → Prop) : Prop :=
  sx_2 Try.prog F 119 (cp [] (bodyOf Try.f70)) (ap [] btree_fromRight_an) [(0, .pointer p), (1, .int .i64 i)] h (btree_fromRight_K0  K)
def btree_fromRight_b1 (p : Option Addr) (i : Int) (nv : Option Addr) (r : Option Addr) (h : Hp)  (K : Value → Hp → Prop) : Prop :=
  sx_1 Try.prog F 119 (cp [1, 1] (bodyOf Try.f70)) (ap [1, 1] btree_fromRight_an) [(0, .pointer p), (1, .int .i64 i), (4, .pointer nv), (5, .pointer r)] h (btree_fromRight_K0  K)
theorem btree_fromRight_b0_eq (p : Option Addr) (i : Int) (h : Hp)  (K : Value → Hp → Prop) : btree_fromRight_b0 p i h  K = (
  NN p fun a1 =>
  ∃ (a2 : Option Addr) (L1 C1 : Nat), cell h (a1.add 2) = some (.slice a2 L1 C1) ∧
  (0 ≤ i ∧ i < (L1 : Int)) ∧
  NN a2 fun a3 =>
  ∃ p1 : Option Addr, cell h (a3.add (Int.toNat i * 1)) = some (.pointer p1) ∧
  NN p fun a4 =>
  ∃ (a5 : Option Addr) (L2 C2 : Nat), cell h (a4.add 2) = some (.slice a5 L2 C2) ∧
  InR (i + 1) ∧
  (0 ≤ i + 1 ∧ i + 1 < (L2 : Int)) ∧
  NN a5 fun a6 =>
  ∃ p2 : Option Addr, cell h (a6.add (Int.toNat (i + 1) * 1)) = some (.pointer p2) ∧
  NN p1 fun a7 =>
  ∃ (a8 : Option Addr) (L3 C3 : Nat), cell h a7 = some (.slice a8 L3 C3) ∧
  NN p fun a9 =>
  ∃ (a10 : Option Addr) (L4 C4 : Nat), cell h a9 = some (.slice a10 L4 C4) ∧
  (0 ≤ i ∧ i < (L4 : Int)) ∧
  NN a10 fun a11 =>
  ∃ n1 : Int, cell h (a11.add (Int.toNat i * 1)) = some (.int .i64 n1) ∧
  NN p1 fun a12 =>
  ∃ (a13 : Option Addr) (L5 C5 : Nat), cell h (a12.add 1) = some (.slice a13 L5 C5) ∧
  NN p fun a14 =>
  ∃ (a15 : Option Addr) (L6 C6 : Nat), cell h (a14.add 1) = some (.slice a15 L6 C6) ∧
  (0 ≤ i ∧ i < (L6 : Int)) ∧
  NN a15 fun a16 =>
  ∃ n2 : Int, cell h (a16.add (Int.toNat i * 1)) = some (.int .i64 n2) ∧
  (New h (.cells #[.int .i64 n1] 3) fun b1 h1 =>
  (∃ n3 : Int, cell h1 (a16.add (Int.toNat i * 1)) = some (.int .i64 n3) ∧
  (.int .i64 n3 : Value) = .int .i64 n2) ∧
  (∃ (a17 : Option Addr) (L7 C7 : Nat), cell h1 (a14.add 1) = some (.slice a17 L7 C7) ∧
  (.slice a17 L7 C7 : Value) = .slice a15 L6 C6) ∧
  (∃ (a18 : Option Addr) (L8 C8 : Nat), cell h1 (a12.add 1) = some (.slice a18 L8 C8) ∧
  (.slice a18 L8 C8 : Value) = .slice a13 L5 C5) ∧
  (∃ (a19 : Option Addr) (L9 C9 : Nat), cell h1 a7 = some (.slice a19 L9 C9) ∧
  (.slice a19 L9 C9 : Value) = .slice a8 L3 C3) ∧
  (appendV Try.prog 38 38 (.slice a8 L3 C3) (.slice (some ⟨b1, 0, none⟩) 1 1) h1 (slK fun a20 l1 c1 h2 =>
  (∃ n4 : Int, cell h2 (a16.add (Int.toNat i * 1)) = some (.int .i64 n4) ∧
  (.int .i64 n4 : Value) = .int .i64 n2) ∧
  (∃ (a21 : Option Addr) (L10 C10 : Nat), cell h2 (a14.add 1) = some (.slice a21 L10 C10) ∧
  (.slice a21 L10 C10 : Value) = .slice a15 L6 C6) ∧
  (∃ (a22 : Option Addr) (L11 C11 : Nat), cell h2 (a12.add 1) = some (.slice a22 L11 C11) ∧
  (.slice a22 L11 C11 : Value) = .slice a13 L5 C5) ∧
  New h2 (.cells #[.int .i64 n2] 3) fun b2 h3 =>
  (∃ (a23 : Option Addr) (L12 C12 : Nat), cell h3 (a12.add 1) = some (.slice a23 L12 C12) ∧
  (.slice a23 L12 C12 : Value) = .slice a13 L5 C5) ∧
  appendV Try.prog 38 38 (.slice a13 L5 C5) (.slice (some ⟨b2, 0, none⟩) 1 1) h3 (slK fun a24 l2 c2 h4 =>
  NN p1 fun a25 =>
  Wr h4 a25 (.slice a20 l1 c1) fun h5 =>
  NN p1 fun a26 =>
  Wr h5 (a26.add 1) (.slice a24 l2 c2) fun h6 =>
  btree_fromRight_b1 p i p1 p2 h6  K))) ∧
  (New h1 (.cells #[.int .i64 n2] 3) fun b3 h7 =>
  (∃ (a27 : Option Addr) (L13 C13 : Nat), cell h7 (a12.add 1) = some (.slice a27 L13 C13) ∧
  (.slice a27 L13 C13 : Value) = .slice a13 L5 C5) ∧
  (∃ (a28 : Option Addr) (L14 C14 : Nat), cell h7 a7 = some (.slice a28 L14 C14) ∧
  (.slice a28 L14 C14 : Value) = .slice a8 L3 C3) ∧
  appendV Try.prog 38 38 (.slice a8 L3 C3) (.slice (some ⟨b1, 0, none⟩) 1 1) h7 (slK fun a29 l3 c3 h8 =>
  (∃ (a30 : Option Addr) (L15 C15 : Nat), cell h8 (a12.add 1) = some (.slice a30 L15 C15) ∧
  (.slice a30 L15 C15 : Value) = .slice a13 L5 C5) ∧
  appendV Try.prog 38 38 (.slice a13 L5 C5) (.slice (some ⟨b3, 0, none⟩) 1 1) h8 (slK fun a31 l4 c4 h9 =>
  NN p1 fun a32 =>
  Wr h9 a32 (.slice a29 l3 c3) fun h10 =>
  NN p1 fun a33 =>
  Wr h10 (a33.add 1) (.slice a31 l4 c4) fun h11 =>
  btree_fromRight_b1 p i p1 p2 h11  K)))) ∧
  (New h (.cells #[.int .i64 n2] 3) fun b4 h12 =>
  (∃ (a34 : Option Addr) (L16 C16 : Nat), cell h12 (a12.add 1) = some (.slice a34 L16 C16) ∧
  (.slice a34 L16 C16 : Value) = .slice a13 L5 C5) ∧
  (∃ n5 : Int, cell h12 (a11.add (Int.toNat i * 1)) = some (.int .i64 n5) ∧
  (.int .i64 n5 : Value) = .int .i64 n1) ∧
  (∃ (a35 : Option Addr) (L17 C17 : Nat), cell h12 a9 = some (.slice a35 L17 C17) ∧
  (.slice a35 L17 C17 : Value) = .slice a10 L4 C4) ∧
  (∃ (a36 : Option Addr) (L18 C18 : Nat), cell h12 a7 = some (.slice a36 L18 C18) ∧
  (.slice a36 L18 C18 : Value) = .slice a8 L3 C3) ∧
  New h12 (.cells #[.int .i64 n1] 3) fun b5 h13 =>
  (∃ (a37 : Option Addr) (L19 C19 : Nat), cell h13 (a12.add 1) = some (.slice a37 L19 C19) ∧
  (.slice a37 L19 C19 : Value) = .slice a13 L5 C5) ∧
  (∃ (a38 : Option Addr) (L20 C20 : Nat), cell h13 a7 = some (.slice a38 L20 C20) ∧
  (.slice a38 L20 C20 : Value) = .slice a8 L3 C3) ∧
  appendV Try.prog 38 38 (.slice a8 L3 C3) (.slice (some ⟨b5, 0, none⟩) 1 1) h13 (slK fun a39 l5 c5 h14 =>
  (∃ (a40 : Option Addr) (L21 C21 : Nat), cell h14 (a12.add 1) = some (.slice a40 L21 C21) ∧
  (.slice a40 L21 C21 : Value) = .slice a13 L5 C5) ∧
  appendV Try.prog 38 38 (.slice a13 L5 C5) (.slice (some ⟨b4, 0, none⟩) 1 1) h14 (slK fun a41 l6 c6 h15 =>
  NN p1 fun a42 =>
  Wr h15 a42 (.slice a39 l5 c5) fun h16 =>
  NN p1 fun a43 =>
  Wr h16 (a43.add 1) (.slice a41 l6 c6) fun h17 =>
  btree_fromRight_b1 p i p1 p2 h17  K)))) := by kernel_rfl
theorem btree_fromRight_b1_eq (p : Option Addr) (i : Int) (nv : Option Addr) (r : Option Addr) (h : Hp)  (K : Value → Hp → Prop) : btree_fromRight_b1 p i nv r h  K = (
  NN p fun a44 =>
  ∃ (a45 : Option Addr) (L22 C22 : Nat), cell h a44 = some (.slice a45 L22 C22) ∧
  NN p fun a46 =>
  ∃ (a47 : Option Addr) (L23 C23 : Nat), cell h (a46.add 1) = some (.slice a47 L23 C23) ∧
  NN r fun a48 =>
  ∃ (a49 : Option Addr) (L24 C24 : Nat), cell h a48 = some (.slice a49 L24 C24) ∧
  (0 ≤ (0 : Int) ∧ (0 : Int) < (L24 : Int)) ∧
  NN a49 fun a50 =>
  ∃ n6 : Int, cell h (a50.add (Int.toNat (0 : Int) * 1)) = some (.int .i64 n6) ∧
  NN r fun a51 =>
  ∃ (a52 : Option Addr) (L25 C25 : Nat), cell h (a51.add 1) = some (.slice a52 L25 C25) ∧
  (0 ≤ (0 : Int) ∧ (0 : Int) < (L25 : Int)) ∧
  NN a52 fun a53 =>
  ∃ n7 : Int, cell h (a53.add (Int.toNat (0 : Int) * 1)) = some (.int .i64 n7) ∧
  (0 ≤ i ∧ i < (L22 : Int)) ∧
  NN a45 fun a54 =>
  Wr h (a54.add (Int.toNat i * 1)) (.int .i64 n6) fun h18 =>
  (0 ≤ i ∧ i < (L23 : Int)) ∧
  NN a47 fun a55 =>
  Wr h18 (a55.add (Int.toNat i * 1)) (.int .i64 n7) fun h19 =>
  NN r fun a56 =>
  ∃ (a57 : Option Addr) (L26 C26 : Nat), cell h19 a56 = some (.slice a57 L26 C26) ∧
  NN r fun a58 =>
  ∃ (a59 : Option Addr) (L27 C27 : Nat), cell h19 (a58.add 1) = some (.slice a59 L27 C27) ∧
  HCalls Try.prog 68 #[.slice a57 L26 C26, .int .i64 0, .int .i64 1] h19 fun v1 h20 => ∃ (r1 : Option Addr) (rL1 rC1 : Nat), v1 = .slice r1 rL1 rC1 ∧
  (∃ (a60 : Option Addr) (L28 C28 : Nat), cell h20 (a58.add 1) = some (.slice a60 L28 C28) ∧
  (.slice a60 L28 C28 : Value) = .slice a59 L27 C27) ∧
  HCalls Try.prog 68 #[.slice a59 L27 C27, .int .i64 0, .int .i64 1] h20 fun v2 h21 => ∃ (r2 : Option Addr) (rL2 rC2 : Nat), v2 = .slice r2 rL2 rC2 ∧
  NN r fun a61 =>
  Wr h21 a61 (.slice r1 rL1 rC1) fun h22 =>
  NN r fun a62 =>
  Wr h22 (a62.add 1) (.slice r2 rL2 rC2) fun h23 =>
  HCalls Try.prog 42 #[.pointer r] h23 fun v3 h24 => ∃ r3 : Bool, v3 = .bool r3 ∧
  cond (!r3)
  (NN nv fun a63 =>
  ∃ (a64 : Option Addr) (L29 C29 : Nat), cell h24 (a63.add 2) = some (.slice a64 L29 C29) ∧
  NN r fun a65 =>
  ∃ (a66 : Option Addr) (L30 C30 : Nat), cell h24 (a65.add 2) = some (.slice a66 L30 C30) ∧
  (0 ≤ (0 : Int) ∧ (0 : Int) < (L30 : Int)) ∧
  NN a66 fun a67 =>
  ∃ p3 : Option Addr, cell h24 (a67.add (Int.toNat (0 : Int) * 1)) = some (.pointer p3) ∧
  New h24 (.cells #[.pointer p3] 73) fun b6 h25 =>
  (∃ (a68 : Option Addr) (L31 C31 : Nat), cell h25 (a63.add 2) = some (.slice a68 L31 C31) ∧
  (.slice a68 L31 C31 : Value) = .slice a64 L29 C29) ∧
  appendV Try.prog 86 86 (.slice a64 L29 C29) (.slice (some ⟨b6, 0, none⟩) 1 1) h25 (slK fun a69 l7 c7 h26 =>
  NN nv fun a70 =>
  Wr h26 (a70.add 2) (.slice a69 l7 c7) fun h27 =>
  NN r fun a71 =>
  ∃ (a72 : Option Addr) (L32 C32 : Nat), cell h27 (a71.add 2) = some (.slice a72 L32 C32) ∧
  HCalls Try.prog 95 #[.slice a72 L32 C32, .int .i64 0, .int .i64 1] h27 fun v4 h28 => ∃ (r4 : Option Addr) (rL3 rC3 : Nat), v4 = .slice r4 rL3 rC3 ∧
  NN r fun a73 =>
  Wr h28 (a73.add 2) (.slice r4 rL3 rC3) fun h29 =>
  K (.tuple #[]) h29))
  (K (.tuple #[]) h24)) := by kernel_rfl
theorem btree_fromRight_call {p : Option Addr} {i : Int} {h : Hp} {K : Value → Hp → Prop} (hk : btree_fromRight_b0 p i h K) : HCalls Try.prog 70 #[.pointer p, .int .i64 i] h K :=
  calls_of_snd btree_fromRight_an Try.func70 (c := bodyOf Try.f70) rfl Try.ntmps70 (Nat.le_of_ble_eq_true rfl) (snd_2 F_ok F_mixed) hk

/-! ### btree_merge -/
def btree_merge_an : Ann := .node none (.leaf) (.node none (.plan (.qu 0 (.qu 1 (.qu 2 (.qu 3 (.qu 4 (.qu 5 (.qu 6 (.qu 7 (.qu 8 (.qu 9 (.qu 10 (.qu 11 (.qu 14 (.qu 15 (.qu 16 (.qu 17 (.wo 12 (.wo 13 (.wo 18 (.qu 19 (.qu 20 (.wo 21 .fin .no))) .no) .no) .no)))))))))))))))))) (.node none (.plan (.qu 0 (.qu 1 (.qu 2 (.qu 3 (.qu 4 (.qu 5 (.qu 6 (.qu 7 (.qu 8 (.qu 9 (.qu 10 (.qu 11 (.qu 14 (.qu 15 (.qu 16 (.qu 17 (.wo 12 (.wo 13 (.wo 18 (.qu 19 (.qu 20 (.wo 21 .fin .no))) .no) .no) .no)))))))))))))))))) (.node none (.plan (.qu 0 (.qu 1 (.qu 2 (.qu 3 (.qu 4 (.qu 5 (.qu 6 (.qu 7 (.qu 8 (.wo 9 (.qu 10 (.qu 11 (.wo 12 .fin .no))) .no))))))))))) (.node none (.plan (.qu 0 (.qu 1 (.qu 2 (.qu 3 (.qu 4 (.qu 5 (.qu 6 (.qu 7 (.qu 8 (.qu 10 (.qu 11 (.qu 12 (.qu 13 (.qu 14 (.qu 15 (.qu 16 (.wo 9 (.wo 17 (.qu 18 (.qu 19 (.wo 20 (.qu 21 (.qu 22 (.wo 23 .fin .no))) .no))) .no) .no)))))))))))))))))) (.leaf)))))
def btree_merge_K0  (K : Value → Hp → Prop) : Exit → Env → Hp → Prop := retK Try.prog Try.f71.results.toList K
def btree_merge_b0 (p : Option Addr) (i : Int) (h : Hp)  (K : Value → Hp → Prop) : Prop :=
  sx_1 Try.prog F 109 (cp [] (bodyOf Try.f71)) (ap [] btree_merge_an) [(0, .pointer p), (1, .int .i64 i)] h (btree_merge_K0  K)
theorem btree_merge_b0_eq (p : Option Addr) (i : Int) (h : Hp)  (K : Value → Hp → Prop) : btree_merge_b0 p i h  K = (
  NN p fun a1 =>
  ∃ (a2 : Option Addr) (L1 C1 : Nat), cell h (a1.add 2) = some (.slice a2 L1 C1) ∧
  (0 ≤ i ∧ i < (L1 : Int)) ∧
  NN a2 fun a3 =>
  ∃ p1 : Option Addr, cell h (a3.add (Int.toNat i * 1)) = some (.pointer p1) ∧
  NN p fun a4 =>
  ∃ (a5 : Option Addr) (L2 C2 : Nat), cell h (a4.add 2) = some (.slice a5 L2 C2) ∧
  InR (i + 1) ∧
  (0 ≤ i + 1 ∧ i + 1 < (L2 : Int)) ∧
  NN a5 fun a6 =>
  ∃ p2 : Option Addr, cell h (a6.add (Int.toNat (i + 1) * 1)) = some (.pointer p2) ∧
  NN p1 fun a7 =>
  ∃ (a8 : Option Addr) (L3 C3 : Nat), cell h a7 = some (.slice a8 L3 C3) ∧
  NN p fun a9 =>
  ∃ (a10 : Option Addr) (L4 C4 : Nat), cell h a9 = some (.slice a10 L4 C4) ∧
  (0 ≤ i ∧ i < (L4 : Int)) ∧
  NN a10 fun a11 =>
  ∃ n1 : Int, cell h (a11.add (Int.toNat i * 1)) = some (.int .i64 n1) ∧
  NN p2 fun a12 =>
  ∃ (a13 : Option Addr) (L5 C5 : Nat), cell h a12 = some (.slice a13 L5 C5) ∧
  New h (.cells #[.int .i64 n1] 3) fun b1 h1 =>
  (∃ (a14 : Option Addr) (L6 C6 : Nat), cell h1 a12 = some (.slice a14 L6 C6) ∧
  (.slice a14 L6 C6 : Value) = .slice a13 L5 C5) ∧
  (∃ (a15 : Option Addr) (L7 C7 : Nat), cell h1 a7 = some (.slice a15 L7 C7) ∧
  (.slice a15 L7 C7 : Value) = .slice a8 L3 C3) ∧
  appendV Try.prog 38 38 (.slice a8 L3 C3) (.slice (some ⟨b1, 0, none⟩) 1 1) h1 (slK fun a16 l1 c1 h2 =>
  (∃ (a17 : Option Addr) (L8 C8 : Nat), cell h2 a12 = some (.slice a17 L8 C8) ∧
  (.slice a17 L8 C8 : Value) = .slice a13 L5 C5) ∧
  appendV Try.prog 38 38 (.slice a16 l1 c1) (.slice a13 L5 C5) h2 (slK fun a18 l2 c2 h3 =>
  NN p1 fun a19 =>
  Wr h3 a19 (.slice a18 l2 c2) fun h4 =>
  NN p1 fun a20 =>
  ∃ (a21 : Option Addr) (L9 C9 : Nat), cell h4 (a20.add 1) = some (.slice a21 L9 C9) ∧
  NN p fun a22 =>
  ∃ (a23 : Option Addr) (L10 C10 : Nat), cell h4 (a22.add 1) = some (.slice a23 L10 C10) ∧
  (0 ≤ i ∧ i < (L10 : Int)) ∧
  NN a23 fun a24 =>
  ∃ n2 : Int, cell h4 (a24.add (Int.toNat i * 1)) = some (.int .i64 n2) ∧
  NN p2 fun a25 =>
  ∃ (a26 : Option Addr) (L11 C11 : Nat), cell h4 (a25.add 1) = some (.slice a26 L11 C11) ∧
  New h4 (.cells #[.int .i64 n2] 3) fun b2 h5 =>
  (∃ (a27 : Option Addr) (L12 C12 : Nat), cell h5 (a25.add 1) = some (.slice a27 L12 C12) ∧
  (.slice a27 L12 C12 : Value) = .slice a26 L11 C11) ∧
  (∃ (a28 : Option Addr) (L13 C13 : Nat), cell h5 (a20.add 1) = some (.slice a28 L13 C13) ∧
  (.slice a28 L13 C13 : Value) = .slice a21 L9 C9) ∧
  appendV Try.prog 38 38 (.slice a21 L9 C9) (.slice (some ⟨b2, 0, none⟩) 1 1) h5 (slK fun a29 l3 c3 h6 =>
  (∃ (a30 : Option Addr) (L14 C14 : Nat), cell h6 (a25.add 1) = some (.slice a30 L14 C14) ∧
  (.slice a30 L14 C14 : Value) = .slice a26 L11 C11) ∧
  appendV Try.prog 38 38 (.slice a29 l3 c3) (.slice a26 L11 C11) h6 (slK fun a31 l4 c4 h7 =>
  NN p1 fun a32 =>
  Wr h7 (a32.add 1) (.slice a31 l4 c4) fun h8 =>
  NN p1 fun a33 =>
  ∃ (a34 : Option Addr) (L15 C15 : Nat), cell h8 (a33.add 2) = some (.slice a34 L15 C15) ∧
  NN p2 fun a35 =>
  ∃ (a36 : Option Addr) (L16 C16 : Nat), cell h8 (a35.add 2) = some (.slice a36 L16 C16) ∧
  appendV Try.prog 86 86 (.slice a34 L15 C15) (.slice a36 L16 C16) h8 (slK fun a37 l5 c5 h9 =>
  NN p1 fun a38 =>
  Wr h9 (a38.add 2) (.slice a37 l5 c5) fun h10 =>
  NN p fun a39 =>
  ∃ (a40 : Option Addr) (L17 C17 : Nat), cell h10 a39 = some (.slice a40 L17 C17) ∧
  InR (i + 1) ∧
  NN p fun a41 =>
  ∃ (a42 : Option Addr) (L18 C18 : Nat), cell h10 (a41.add 1) = some (.slice a42 L18 C18) ∧
  InR (i + 1) ∧
  HCalls Try.prog 68 #[.slice a40 L17 C17, .int .i64 i, .int .i64 (i + 1)] h10 fun v1 h11 => ∃ (r1 : Option Addr) (rL1 rC1 : Nat), v1 = .slice r1 rL1 rC1 ∧
  (∃ (a43 : Option Addr) (L19 C19 : Nat), cell h11 (a41.add 1) = some (.slice a43 L19 C19) ∧
  (.slice a43 L19 C19 : Value) = .slice a42 L18 C18) ∧
  HCalls Try.prog 68 #[.slice a42 L18 C18, .int .i64 i, .int .i64 (i + 1)] h11 fun v2 h12 => ∃ (r2 : Option Addr) (rL2 rC2 : Nat), v2 = .slice r2 rL2 rC2 ∧
  NN p fun a44 =>
  Wr h12 a44 (.slice r1 rL1 rC1) fun h13 =>
  NN p fun a45 =>
  Wr h13 (a45.add 1) (.slice r2 rL2 rC2) fun h14 =>
  NN p fun a46 =>
  ∃ (a47 : Option Addr) (L20 C20 : Nat), cell h14 (a46.add 2) = some (.slice a47 L20 C20) ∧
  InR (i + 1) ∧
  InR (i + 2) ∧
  HCalls Try.prog 95 #[.slice a47 L20 C20, .int .i64 (i + 1), .int .i64 (i + 2)] h14 fun v3 h15 => ∃ (r3 : Option Addr) (rL3 rC3 : Nat), v3 = .slice r3 rL3 rC3 ∧
  NN p fun a48 =>
  Wr h15 (a48.add 2) (.slice r3 rL3 rC3) fun h16 =>
  K (.tuple #[]) h16)))))) := by kernel_rfl
theorem btree_merge_call {p : Option Addr} {i : Int} {h : Hp} {K : Value → Hp → Prop} (hk : btree_merge_b0 p i h K) : HCalls Try.prog 71 #[.pointer p, .int .i64 i] h K :=
  calls_of_snd btree_merge_an Try.func71 (c := bodyOf Try.f71) rfl Try.ntmps71 (Nat.le_of_ble_eq_true rfl) (snd_1 F_ok F_mixed) hk

/-! ### r43_Find -/
def r43_Find_an : Ann := .node none (.leaf) (.node none (.leaf) (.node (some [0, 1, 6]) (.loop [0, 1] [(6, .int .i64)] (.node (some [0, 1, 6]) (.leaf) (.leaf))) (.leaf)))
def r43_Find_K0  (K : Value → Hp → Prop) : Exit → Env → Hp → Prop := retK Try.prog Try.f72.results.toList K
def r43_Find_K1  (K : Value → Hp → Prop) : Exit → Env → Hp → Prop := thenE (fun env h => sx_2 Try.prog F 36 (cp [1, 1, 1] (bodyOf Try.f72)) (ap [1, 1, 1] r43_Find_an) (rs [0, 1, 6] env) h (r43_Find_K0  K)) (r43_Find_K0  K)
def r43_Find_K2  (K : Value → Hp → Prop) : Exit → Env → Hp → Prop := blockE 0 (r43_Find_K1  K)
def r43_Find_K3 (nx0 : Int × Unit → Hp → Prop) (K : Value → Hp → Prop) : Exit → Env → Hp → Prop := thenE (fun env h => getV [(6, .int .i64)] env fun s => nx0 s h) (r43_Find_K2  K)
def r43_Find_b0 (l : Option Addr) (lL : Nat) (lC : Nat) (key : Int) (h : Hp)  (K : Value → Hp → Prop) : Prop :=
  sx_3 Try.prog F 36 (cp [] (bodyOf Try.f72)) (ap [] r43_Find_an) [(0, .slice l lL lC), (1, .int .i64 key)] h (r43_Find_K0  K)
def r43_Find_b1 (i : Int) (l : Option Addr) (lL : Nat) (lC : Nat) (key : Int) (h : Hp) (nx0 : Int × Unit → Hp → Prop) (K : Value → Hp → Prop) : Prop :=
  sx_2 Try.prog F 36 (cp [1, 1, 0, 2, 2] (bodyOf Try.f72)) (ap [1, 1, 0, 2] r43_Find_an) [(6, .int .i64 i), (0, .slice l lL lC), (1, .int .i64 key)] h (r43_Find_K3 nx0 K)
def r43_Find_b2 (l : Option Addr) (lL : Nat) (lC : Nat) (key : Int) (i : Int) (h : Hp) (nx0 : Int × Unit → Hp → Prop) (K : Value → Hp → Prop) : Prop :=
  sx_1 Try.prog F 36 (cp [1, 1, 0, 2, 2, 1] (bodyOf Try.f72)) (ap [1, 1, 0, 2, 1] r43_Find_an) [(0, .slice l lL lC), (1, .int .i64 key), (6, .int .i64 i)] h (r43_Find_K3 nx0 K)
def r43_Find_b3 (l : Option Addr) (lL : Nat) (lC : Nat) (key : Int) (i : Int) (h : Hp)  (K : Value → Hp → Prop) : Prop :=
  sx_2 Try.prog F 36 (cp [1, 1, 1] (bodyOf Try.f72)) (ap [1, 1, 1] r43_Find_an) [(0, .slice l lL lC), (1, .int .i64 key), (6, .int .i64 i)] h (r43_Find_K0  K)
theorem r43_Find_b0_eq (l : Option Addr) (lL : Nat) (lC : Nat) (key : Int) (h : Hp)  (K : Value → Hp → Prop) : r43_Find_b0 l lL lC key h  K = (
  LoopVC ((0, ()) : Int × Unit) h (fun (nx0 : Int × Unit → Hp → Prop) (s1 : Int × Unit) h1 => r43_Find_b1 s1.1 l lL lC key h1 nx0 K)) := by kernel_rfl
theorem r43_Find_b1_eq (i : Int) (l : Option Addr) (lL : Nat) (lC : Nat) (key : Int) (h : Hp) (nx0 : Int × Unit → Hp → Prop) (K : Value → Hp → Prop) : r43_Find_b1 i l lL lC key h nx0 K = (
  cond (decide (i < (lL : Int)))
  ((0 ≤ i ∧ i < (lL : Int)) ∧
  NN l fun a1 =>
  (0 ≤ (0 : Int) ∧ (0 : Int) < ((2 : Nat) : Int)) ∧
  ∃ n1 : Int, cell h ((a1.add (Int.toNat i * 2)).add (Int.toNat (0 : Int) * 1)) = some (.int .i64 n1) ∧
  cond (decide (n1 < key))
  (r43_Find_b2 l lL lC key i h nx0 K)
  (r43_Find_b3 l lL lC key i h  K))
  (r43_Find_b3 l lL lC key i h  K)) := by kernel_rfl
theorem r43_Find_b2_eq (l : Option Addr) (lL : Nat) (lC : Nat) (key : Int) (i : Int) (h : Hp) (nx0 : Int × Unit → Hp → Prop) (K : Value → Hp → Prop) : r43_Find_b2 l lL lC key i h nx0 K = (
  InR (i + 1) ∧
  nx0 (i + 1, ()) h) := by kernel_rfl
theorem r43_Find_b3_eq (l : Option Addr) (lL : Nat) (lC : Nat) (key : Int) (i : Int) (h : Hp)  (K : Value → Hp → Prop) : r43_Find_b3 l lL lC key i h  K = (
  cond (decide (i < (lL : Int)))
  ((0 ≤ i ∧ i < (lL : Int)) ∧
  NN l fun a2 =>
  (0 ≤ (0 : Int) ∧ (0 : Int) < ((2 : Nat) : Int)) ∧
  ∃ n2 : Int, cell h ((a2.add (Int.toNat i * 2)).add (Int.toNat (0 : Int) * 1)) = some (.int .i64 n2) ∧
  K (.tuple #[.int .i64 i, .bool (decide (n2 = key))]) h)
  (K (.tuple #[.int .i64 i, .bool false]) h)) := by kernel_rfl
theorem r43_Find_call {l : Option Addr} {lL : Nat} {lC : Nat} {key : Int} {h : Hp} {K : Value → Hp → Prop} (hk : r43_Find_b0 l lL lC key h K) : HCalls Try.prog 72 #[.slice l lL lC, .int .i64 key] h K :=
  calls_of_snd r43_Find_an Try.func72 (c := bodyOf Try.f72) rfl Try.ntmps72 (Nat.le_of_ble_eq_true rfl) (snd_3 F_ok F_mixed) hk

/-! ### model_words -/
def model_words_an : Ann := .node none (.leaf) (.node (some []) (.leaf) (.leaf))
def model_words_K0  (K : Value → Hp → Prop) : Exit → Env → Hp → Prop := retK Try.prog Try.f73.results.toList K
def model_words_b0 (kind : Int) (h : Hp)  (K : Value → Hp → Prop) : Prop :=
  sx_2 Try.prog F 55 (cp [] (bodyOf Try.f73)) (ap [] model_words_an) [(0, .int .i64 kind)] h (model_words_K0  K)
def model_words_b1  (h : Hp)  (K : Value → Hp → Prop) : Prop :=
  sx_1 Try.prog F 55 (cp [1, 1] (bodyOf Try.f73)) (ap [1, 1] model_words_an) [] h (model_words_K0  K)
theorem model_words_b0_eq (kind : Int) (h : Hp)  (K : Value → Hp → Prop) : model_words_b0 kind h  K = (
  cond (decide (kind = 1))
  (New h (.cells #[.string (⟨#[112, 117, 116]⟩ : ByteArray), .int .i64 2, .bool true, .string (⟨#[103, 101, 116]⟩ : ByteArray), .int .i64 1, .bool false, .string (⟨#[114, 101, 109, 111, 118, 101]⟩ : ByteArray), .int .i64 1, .bool true, .string (⟨#[102, 108, 111, 111, 114]⟩ : ByteArray), .int .i64 1, .bool false, .string (⟨#[99, 101, 105, 108, 105, 110, 103]⟩ : ByteArray), .int .i64 1, .bool false, .string (⟨#[114, 97, 110, 107]⟩ : ByteArray), .int .i64 1, .bool false, .string (⟨#[115, 101, 108, 101, 99, 116]⟩ : ByteArray), .int .i64 1, .bool false, .string (⟨#[115, 105, 122, 101]⟩ : ByteArray), .int .i64 0, .bool false] 128) fun b1 h1 =>
  K (.slice (some ⟨b1, 0, none⟩) 8 8) h1)
  (cond (decide (kind = 2))
  (New h (.cells #[.string (⟨#[105, 110, 115, 101, 114, 116]⟩ : ByteArray), .int .i64 1, .bool true, .string (⟨#[109, 105, 110]⟩ : ByteArray), .int .i64 0, .bool false, .string (⟨#[100, 101, 108, 101, 116, 101, 109, 105, 110]⟩ : ByteArray), .int .i64 0, .bool true, .string (⟨#[115, 105, 122, 101]⟩ : ByteArray), .int .i64 0, .bool false] 128) fun b2 h2 =>
  K (.slice (some ⟨b2, 0, none⟩) 4 4) h2)
  (cond (decide (kind = 3))
  (New h (.cells #[.string (⟨#[105, 110, 115, 101, 114, 116]⟩ : ByteArray), .int .i64 2, .bool true, .string (⟨#[114, 101, 109, 111, 118, 101]⟩ : ByteArray), .int .i64 1, .bool true, .string (⟨#[103, 101, 116]⟩ : ByteArray), .int .i64 1, .bool false, .string (⟨#[115, 101, 116]⟩ : ByteArray), .int .i64 2, .bool true, .string (⟨#[115, 117, 109]⟩ : ByteArray), .int .i64 2, .bool false, .string (⟨#[114, 101, 118, 101, 114, 115, 101]⟩ : ByteArray), .int .i64 2, .bool true, .string (⟨#[115, 105, 122, 101]⟩ : ByteArray), .int .i64 0, .bool false] 128) fun b3 h3 =>
  K (.slice (some ⟨b3, 0, none⟩) 7 7) h3)
  (cond (decide (kind = 4))
  (New h (.cells #[.string (⟨#[109, 97, 107, 101]⟩ : ByteArray), .int .i64 0, .bool true, .string (⟨#[117, 110, 105, 111, 110]⟩ : ByteArray), .int .i64 2, .bool true, .string (⟨#[115, 97, 109, 101]⟩ : ByteArray), .int .i64 2, .bool false, .string (⟨#[115, 105, 122, 101]⟩ : ByteArray), .int .i64 1, .bool false, .string (⟨#[99, 111, 117, 110, 116]⟩ : ByteArray), .int .i64 0, .bool false] 128) fun b4 h4 =>
  K (.slice (some ⟨b4, 0, none⟩) 5 5) h4)
  (cond (decide (kind = 5))
  (New h (.cells #[.string (⟨#[97, 100, 100]⟩ : ByteArray), .int .i64 3, .bool true, .string (⟨#[114, 101, 109, 111, 118, 101]⟩ : ByteArray), .int .i64 2, .bool true, .string (⟨#[99, 111, 117, 110, 116]⟩ : ByteArray), .int .i64 4, .bool false, .string (⟨#[115, 117, 109]⟩ : ByteArray), .int .i64 4, .bool false, .string (⟨#[115, 105, 122, 101]⟩ : ByteArray), .int .i64 0, .bool false] 128) fun b5 h5 =>
  K (.slice (some ⟨b5, 0, none⟩) 5 5) h5)
  (cond (decide (kind = 6))
  (New h (.cells #[.string (⟨#[97, 112, 112, 101, 110, 100]⟩ : ByteArray), .int .i64 (-1), .bool true, .string (⟨#[99, 111, 117, 110, 116]⟩ : ByteArray), .int .i64 (-1), .bool false, .string (⟨#[102, 105, 110, 100]⟩ : ByteArray), .int .i64 (-1), .bool false, .string (⟨#[115, 105, 122, 101]⟩ : ByteArray), .int .i64 0, .bool false] 128) fun b6 h6 =>
  K (.slice (some ⟨b6, 0, none⟩) 4 4) h6)
  (model_words_b1  h  K))))))) := by kernel_rfl
theorem model_words_b1_eq  (h : Hp)  (K : Value → Hp → Prop) : model_words_b1  h  K = (
  K (.slice none 0 0) h) := by kernel_rfl
theorem model_words_call {kind : Int} {h : Hp} {K : Value → Hp → Prop} (hk : model_words_b0 kind h K) : HCalls Try.prog 73 #[.int .i64 kind] h K :=
  calls_of_snd model_words_an Try.func73 (c := bodyOf Try.f73) rfl Try.ntmps73 (Nat.le_of_ble_eq_true rfl) (snd_2 F_ok F_mixed) hk

/-! ### model_ValidOp_c1 -/
def model_ValidOp_c1_an : Ann := .leaf
def model_ValidOp_c1_K0  (K : Value → Hp → Prop) : Exit → Env → Hp → Prop := retK Try.prog Try.f74.results.toList K
def model_ValidOp_c1_b0 (c : Int) (h : Hp)  (K : Value → Hp → Prop) : Prop :=
  sx_1 Try.prog F 6 (cp [] (bodyOf Try.f74)) (ap [] model_ValidOp_c1_an) [(0, .int .i64 c)] h (model_ValidOp_c1_K0  K)
theorem model_ValidOp_c1_b0_eq (c : Int) (h : Hp)  (K : Value → Hp → Prop) : model_ValidOp_c1_b0 c h  K = (
  HCalls Try.prog 75 #[.int .i64 c] h fun v1 h1 => ∃ r1 : Bool, v1 = .bool r1 ∧
  K (.bool (!r1)) h1) := by kernel_rfl
theorem model_ValidOp_c1_call {c : Int} {h : Hp} {K : Value → Hp → Prop} (hk : model_ValidOp_c1_b0 c h K) : HCalls Try.prog 74 #[.int .i64 c] h K :=
  calls_of_snd model_ValidOp_c1_an Try.func74 (c := bodyOf Try.f74) rfl Try.ntmps74 (Nat.le_of_ble_eq_true rfl) (snd_1 F_ok F_mixed) hk

/-! ### model_character -/
def model_character_an : Ann := .leaf
def model_character_K0  (K : Value → Hp → Prop) : Exit → Env → Hp → Prop := retK Try.prog Try.f75.results.toList K
def model_character_b0 (nv : Int) (h : Hp)  (K : Value → Hp → Prop) : Prop :=
  sx_1 Try.prog F 9 (cp [] (bodyOf Try.f75)) (ap [] model_character_an) [(0, .int .i64 nv)] h (model_character_K0  K)
theorem model_character_b0_eq (nv : Int) (h : Hp)  (K : Value → Hp → Prop) : model_character_b0 nv h  K = (
  cond (decide ((0 : Int) ≤ nv))
  (K (.bool (decide (nv ≤ 255))) h)
  (K (.bool false) h)) := by kernel_rfl
theorem model_character_call {nv : Int} {h : Hp} {K : Value → Hp → Prop} (hk : model_character_b0 nv h K) : HCalls Try.prog 75 #[.int .i64 nv] h K :=
  calls_of_snd model_character_an Try.func75 (c := bodyOf Try.f75) rfl Try.ntmps75 (Nat.le_of_ble_eq_true rfl) (snd_1 F_ok F_mixed) hk

/-! ### model_ValidOp_c2 -/
def model_ValidOp_c2_an : Ann := .leaf
def model_ValidOp_c2_K0  (K : Value → Hp → Prop) : Exit → Env → Hp → Prop := retK Try.prog Try.f76.results.toList K
def model_ValidOp_c2_b0 (nv : Int) (h : Hp)  (K : Value → Hp → Prop) : Prop :=
  sx_1 Try.prog F 6 (cp [] (bodyOf Try.f76)) (ap [] model_ValidOp_c2_an) [(0, .int .i64 nv)] h (model_ValidOp_c2_K0  K)
theorem model_ValidOp_c2_b0_eq (nv : Int) (h : Hp)  (K : Value → Hp → Prop) : model_ValidOp_c2_b0 nv h  K = (
  HCalls Try.prog 77 #[.int .i64 nv] h fun v1 h1 => ∃ r1 : Bool, v1 = .bool r1 ∧
  K (.bool (!r1)) h1) := by kernel_rfl
theorem model_ValidOp_c2_call {nv : Int} {h : Hp} {K : Value → Hp → Prop} (hk : model_ValidOp_c2_b0 nv h K) : HCalls Try.prog 76 #[.int .i64 nv] h K :=
  calls_of_snd model_ValidOp_c2_an Try.func76 (c := bodyOf Try.f76) rfl Try.ntmps76 (Nat.le_of_ble_eq_true rfl) (snd_1 F_ok F_mixed) hk

/-! ### model_number -/
def model_number_an : Ann := .leaf
def model_number_K0  (K : Value → Hp → Prop) : Exit → Env → Hp → Prop := retK Try.prog Try.f77.results.toList K
def model_number_b0 (nv : Int) (h : Hp)  (K : Value → Hp → Prop) : Prop :=
  sx_1 Try.prog F 9 (cp [] (bodyOf Try.f77)) (ap [] model_number_an) [(0, .int .i64 nv)] h (model_number_K0  K)
theorem model_number_b0_eq (nv : Int) (h : Hp)  (K : Value → Hp → Prop) : model_number_b0 nv h  K = (
  cond (decide (((-1048576) : Int) ≤ nv))
  (K (.bool (decide (nv ≤ 1048576))) h)
  (K (.bool false) h)) := by kernel_rfl
theorem model_number_call {nv : Int} {h : Hp} {K : Value → Hp → Prop} (hk : model_number_b0 nv h K) : HCalls Try.prog 77 #[.int .i64 nv] h K :=
  calls_of_snd model_number_an Try.func77 (c := bodyOf Try.f77) rfl Try.ntmps77 (Nat.le_of_ble_eq_true rfl) (snd_1 F_ok F_mixed) hk

/-! ### btree_Tree_at_c1 -/
def btree_Tree_at_c1_an : Ann := .leaf
def btree_Tree_at_c1_K0  (K : Value → Hp → Prop) : Exit → Env → Hp → Prop := retK Try.prog Try.f78.results.toList K
def btree_Tree_at_c1_b0 (k : Int) (t1 : Int) (t2 : Option Addr) (t3 : Option Addr) (h : Hp)  (K : Value → Hp → Prop) : Prop :=
  sx_1 Try.prog F 12 (cp [] (bodyOf Try.f78)) (ap [] btree_Tree_at_c1_an) [(0, .int .i64 k), (1, .int .i64 t1), (2, .pointer t2), (3, .pointer t3)] h (btree_Tree_at_c1_K0  K)
theorem btree_Tree_at_c1_b0_eq (k : Int) (t1 : Int) (t2 : Option Addr) (t3 : Option Addr) (h : Hp)  (K : Value → Hp → Prop) : btree_Tree_at_c1_b0 k t1 t2 t3 h  K = (
  NN t2 fun a1 =>
  Wr h a1 (.int .i64 k) fun h1 =>
  NN t3 fun a2 =>
  ∃ n1 : Int, cell h1 a2 = some (.int .i64 n1) ∧
  InR (n1 - 1) ∧
  NN t3 fun a3 =>
  Wr h1 a3 (.int .i64 (n1 - 1)) fun h2 =>
  NN t3 fun a4 =>
  ∃ n2 : Int, cell h2 a4 = some (.int .i64 n2) ∧
  K (.bool (decide ((0 : Int) ≤ n2))) h2) := by kernel_rfl
theorem btree_Tree_at_c1_call {k : Int} {t1 : Int} {t2 : Option Addr} {t3 : Option Addr} {h : Hp} {K : Value → Hp → Prop} (hk : btree_Tree_at_c1_b0 k t1 t2 t3 h K) : HCalls Try.prog 78 #[.int .i64 k, .int .i64 t1, .pointer t2, .pointer t3] h K :=
  calls_of_snd btree_Tree_at_c1_an Try.func78 (c := bodyOf Try.f78) rfl Try.ntmps78 (Nat.le_of_ble_eq_true rfl) (snd_1 F_ok F_mixed) hk

/-! ### r03_Copy -/
def r03_Copy_an : Ann := .node none (.leaf) (.node none (.leaf) (.node (some [2, 3]) (.node none (.leaf) (.loop [1, 2, 3] [(4, .int .i64)] (.node none (.leaf) (.node (some [1, 2, 3, 4]) (.plan (.qu 0 (.qu 1 (.qu 2 (.qu 3 (.qu 4 (.qu 5 (.qu 6 (.wo 7 (.wo 8 (.wo 9 (.qu 10 (.wo 11 .fin .no)) .no) .no) .no))))))))) (.leaf))))) (.leaf)))
def r03_Copy_K0  (K : Value → Hp → Prop) : Exit → Env → Hp → Prop := retK Try.prog Try.f79.results.toList K
def r03_Copy_K1  (K : Value → Hp → Prop) : Exit → Env → Hp → Prop := thenE (fun env h => sx_2 Try.prog F 27 (cp [1, 1, 1] (bodyOf Try.f79)) (ap [1, 1, 1] r03_Copy_an) (rs [2, 3] env) h (r03_Copy_K0  K)) (r03_Copy_K0  K)
def r03_Copy_K2  (K : Value → Hp → Prop) : Exit → Env → Hp → Prop := blockE 0 (r03_Copy_K1  K)
def r03_Copy_K3 (nx0 : Int × Unit → Hp → Prop) (K : Value → Hp → Prop) : Exit → Env → Hp → Prop := thenE (fun env h => getV [(4, .int .i64)] env fun s => nx0 s h) (r03_Copy_K2  K)
def r03_Copy_b0 (s_0 : Int) (s_1 : Option Addr) (s_1L : Nat) (s_1C : Nat) (h : Hp)  (K : Value → Hp → Prop) : Prop :=
  sx_3 Try.prog F 27 (cp [] (bodyOf Try.f79)) (ap [] r03_Copy_an) [(0, .agg #[.int .i64 s_0, .slice s_1 s_1L s_1C])] h (r03_Copy_K0  K)
def r03_Copy_b1 (i : Int) (s : Option Addr) (t2 : Option Addr) (out : Option Addr) (h : Hp) (nx0 : Int × Unit → Hp → Prop) (K : Value → Hp → Prop) : Prop :=
  sx_2 Try.prog F 27 (cp [1, 1, 0, 1, 2, 2] (bodyOf Try.f79)) (ap [1, 1, 0, 1, 2] r03_Copy_an) [(4, .int .i64 i), (1, .pointer s), (2, .pointer t2), (3, .pointer out)] h (r03_Copy_K3 nx0 K)
def r03_Copy_b2 (s : Option Addr) (t2 : Option Addr) (out : Option Addr) (i : Int) (h : Hp) (nx0 : Int × Unit → Hp → Prop) (K : Value → Hp → Prop) : Prop :=
  sx_1 Try.prog F 27 (cp [1, 1, 0, 1, 2, 2, 1, 1] (bodyOf Try.f79)) (ap [1, 1, 0, 1, 2, 1, 1] r03_Copy_an) [(1, .pointer s), (2, .pointer t2), (3, .pointer out), (4, .int .i64 i)] h (r03_Copy_K3 nx0 K)
def r03_Copy_b3 (t2 : Option Addr) (out : Option Addr) (h : Hp)  (K : Value → Hp → Prop) : Prop :=
  sx_2 Try.prog F 27 (cp [1, 1, 1] (bodyOf Try.f79)) (ap [1, 1, 1] r03_Copy_an) [(2, .pointer t2), (3, .pointer out)] h (r03_Copy_K0  K)
theorem r03_Copy_b0_eq (s_0 : Int) (s_1 : Option Addr) (s_1L : Nat) (s_1C : Nat) (h : Hp)  (K : Value → Hp → Prop) : r03_Copy_b0 s_0 s_1 s_1L s_1C h  K = (
  New h (.cells #[.int .i64 s_0, .slice s_1 s_1L s_1C] 108) fun b1 h1 =>
  New h1 (.cells #[.int .i64 0, .slice none 0 0] 108) fun b2 h2 =>
  ∃ n1 : Int, cell h2 ⟨b1, 0, none⟩ = some (.int .i64 n1) ∧
  New h2 (.cells #[.int .i64 0, .slice none 0 0] 108) fun b3 h3 =>
  Wr h3 ⟨b3, 0, none⟩ (.int .i64 n1) fun h4 =>
  Wr h4 ((⟨b3, 0, none⟩ : Addr).add 1) (.slice none 0 0) fun h5 =>
  LoopVC ((0, ()) : Int × Unit) h5 (fun (nx0 : Int × Unit → Hp → Prop) (s1 : Int × Unit) h6 => r03_Copy_b1 s1.1 (some ⟨b1, 0, none⟩) (some ⟨b2, 0, none⟩) (some ⟨b3, 0, none⟩) h6 nx0 K)) := by kernel_rfl
theorem r03_Copy_b1_eq (i : Int) (s : Option Addr) (t2 : Option Addr) (out : Option Addr) (h : Hp) (nx0 : Int × Unit → Hp → Prop) (K : Value → Hp → Prop) : r03_Copy_b1 i s t2 out h nx0 K = (
  NN s fun a1 =>
  ∃ (a2 : Option Addr) (L1 C1 : Nat), cell h (a1.add 1) = some (.slice a2 L1 C1) ∧
  cond (decide (i < (L1 : Int)))
  (NN out fun a3 =>
  ∃ (a4 : Option Addr) (L2 C2 : Nat), cell h (a3.add 1) = some (.slice a4 L2 C2) ∧
  NN s fun a5 =>
  ∃ (a6 : Option Addr) (L3 C3 : Nat), cell h (a5.add 1) = some (.slice a6 L3 C3) ∧
  (0 ≤ i ∧ i < (L3 : Int)) ∧
  NN a6 fun a7 =>
  ∃ (a8 : Option Addr) (L4 C4 : Nat), cell h (a7.add (Int.toNat i * 1)) = some (.slice a8 L4 C4) ∧
  HCalls Try.prog 96 #[.slice a8 L4 C4] h fun v1 h7 => ∃ (r1 : Option Addr) (rL1 rC1 : Nat), v1 = .slice r1 rL1 rC1 ∧
  (∃ (a9 : Option Addr) (L5 C5 : Nat), cell h7 (a3.add 1) = some (.slice a9 L5 C5) ∧
  (.slice a9 L5 C5 : Value) = .slice a4 L2 C2) ∧
  New h7 (.cells #[.slice r1 rL1 rC1] 38) fun b4 h8 =>
  (∃ (a10 : Option Addr) (L6 C6 : Nat), cell h8 (a3.add 1) = some (.slice a10 L6 C6) ∧
  (.slice a10 L6 C6 : Value) = .slice a4 L2 C2) ∧
  appendV Try.prog 82 82 (.slice a4 L2 C2) (.slice (some ⟨b4, 0, none⟩) 1 1) h8 (slK fun a11 l1 c1 h9 =>
  NN out fun a12 =>
  Wr h9 (a12.add 1) (.slice a11 l1 c1) fun h10 =>
  r03_Copy_b2 s t2 out i h10 nx0 K))
  (r03_Copy_b3 t2 out h  K)) := by kernel_rfl
theorem r03_Copy_b2_eq (s : Option Addr) (t2 : Option Addr) (out : Option Addr) (i : Int) (h : Hp) (nx0 : Int × Unit → Hp → Prop) (K : Value → Hp → Prop) : r03_Copy_b2 s t2 out i h nx0 K = (
  InR (i + 1) ∧
  nx0 (i + 1, ()) h) := by kernel_rfl
theorem r03_Copy_b3_eq (t2 : Option Addr) (out : Option Addr) (h : Hp)  (K : Value → Hp → Prop) : r03_Copy_b3 t2 out h  K = (
  NN out fun a13 =>
  ∃ n2 : Int, ∃ (a14 : Option Addr) (L7 C7 : Nat), cell h a13 = some (.int .i64 n2) ∧
  cell h (a13.add 1) = some (.slice a14 L7 C7) ∧
  NN t2 fun a15 =>
  Wr h a15 (.int .i64 n2) fun h11 =>
  Wr h11 (a15.add 1) (.slice a14 L7 C7) fun h12 =>
  NN t2 fun a16 =>
  ∃ r2 : Int, ∃ (r3 : Option Addr) (rL2 rC2 : Nat), cell h12 a16 = some (.int .i64 r2) ∧
  cell h12 (a16.add 1) = some (.slice r3 rL2 rC2) ∧
  K (.agg #[.int .i64 r2, .slice r3 rL2 rC2]) h12) := by kernel_rfl
theorem r03_Copy_call {s_0 : Int} {s_1 : Option Addr} {s_1L : Nat} {s_1C : Nat} {h : Hp} {K : Value → Hp → Prop} (hk : r03_Copy_b0 s_0 s_1 s_1L s_1C h K) : HCalls Try.prog 79 #[.agg #[.int .i64 s_0, .slice s_1 s_1L s_1C]] h K :=
  calls_of_snd r03_Copy_an Try.func79 (c := bodyOf Try.f79) rfl Try.ntmps79 (Nat.le_of_ble_eq_true rfl) (snd_3 F_ok F_mixed) hk

/-! ### r03_dict -/
def r03_dict_an : Ann := .node none (.leaf) (.node none (.leaf) (.node none (.leaf) (.node none (.leaf) (.node none (.leaf) (.node (some [2, 3, 4, 5, 6, 7, 8, 9]) (.node none (.leaf) (.loop [2, 3, 4, 5, 6, 7] [(8, .int .i64), (9, .bool), (10, .int .i64)] (.node none (.leaf) (.node (some [2, 3, 4, 5, 6, 7, 8, 9, 10]) (.node (some [2, 3, 4, 5, 6, 7, 8, 9, 10]) (.leaf) (.leaf)) (.leaf))))) (.node (some [2, 4, 5, 6, 7]) (.node none (.leaf) (.node none (.leaf) (.node none (.node none (.node none (.leaf) (.node none (.node none (.tail 10) (.leaf)) (.leaf))) (.node none (.leaf) (.node none (.plan (.qu 0 (.qu 1 (.qu 2 (.qu 3 (.qu 4 (.qu 5 (.qu 6 (.qu 7 (.wo 8 (.wo 9 (.qu 10 (.wo 11 .fin .no)) .no) .no)))))))))) (.leaf)))) (.node (some [2, 3, 4, 5, 6, 7, 8, 9, 56, 95]) (.leaf) (.node none (.node none (.leaf) (.node none (.leaf) (.node (some [2, 4, 5, 11]) (.leaf) (.leaf)))) (.node none (.leaf) (.node none (.node none (.leaf) (.node none (.leaf) (.node none (.plan (.qu 0 (.qu 1 (.qu 2 (.qu 3 (.qu 4 (.qu 5 (.qu 6 (.qu 7 (.qu 8 (.wo 9 (.qu 10 (.qu 11 (.wo 12 (.wo 13 .fin .no) .no))) .no))))))))))) (.leaf)))) (.node none (.leaf) (.node none (.node none (.leaf) (.node none (.plan (.qu 0 (.qu 1 (.qu 2 (.qu 3 (.qu 4 (.qu 5 (.qu 6 (.qu 7 (.wo 8 (.qu 9 (.qu 10 (.wo 11 (.wo 12 .fin .no) .no))) .no)))))))))) (.leaf))) (.leaf)))))))))) (.node (some [2, 4, 5, 7]) (.leaf) (.node none (.plan (.qu 0 (.qu 1 (.qu 2 (.qu 3 (.qu 4 (.qu 5 (.qu 6 (.qu 7 (.wo 8 (.qu 9 (.qu 10 (.wo 11 (.wo 12 .fin .no) .no))) .no)))))))))) (.leaf)))))))))
def r03_dict_K0  (K : Value → Hp → Prop) : Exit → Env → Hp → Prop := retK Try.prog Try.f80.results.toList K
def r03_dict_K1  (K : Value → Hp → Prop) : Exit → Env → Hp → Prop := thenE (fun env h => sx_3 Try.prog F 199 (cp [1, 1, 1, 1, 1, 1] (bodyOf Try.f80)) (ap [1, 1, 1, 1, 1, 1] r03_dict_an) (rs [2, 3, 4, 5, 6, 7, 8, 9] env) h (r03_dict_K0  K)) (r03_dict_K0  K)
def r03_dict_K2  (K : Value → Hp → Prop) : Exit → Env → Hp → Prop := blockE 0 (r03_dict_K1  K)
def r03_dict_K3 (nx0 : Int × Bool × Int × Unit → Hp → Prop) (K : Value → Hp → Prop) : Exit → Env → Hp → Prop := thenE (fun env h => getV [(8, .int .i64), (9, .bool), (10, .int .i64)] env fun s => nx0 s h) (r03_dict_K2  K)
def r03_dict_K4 (nx0 : Int × Bool × Int × Unit → Hp → Prop) (K : Value → Hp → Prop) : Exit → Env → Hp → Prop := thenE (fun env h => sx_2 Try.prog F 199 (cp [1, 1, 1, 1, 1, 0, 1, 2, 2, 1, 1] (bodyOf Try.f80)) (ap [1, 1, 1, 1, 1, 0, 1, 2, 1, 1] r03_dict_an) (rs [2, 3, 4, 5, 6, 7, 8, 9, 10] env) h (r03_dict_K3 nx0 K)) (r03_dict_K3 nx0 K)
def r03_dict_K5 (nx0 : Int × Bool × Int × Unit → Hp → Prop) (K : Value → Hp → Prop) : Exit → Env → Hp → Prop := blockE 1 (r03_dict_K4 nx0 K)
def r03_dict_K6  (K : Value → Hp → Prop) : Exit → Env → Hp → Prop := thenE (fun env h => sx_2 Try.prog F 199 (cp [1, 1, 1, 1, 1, 1, 1] (bodyOf Try.f80)) (ap [1, 1, 1, 1, 1, 1, 1] r03_dict_an) (rs [2, 4, 5, 6, 7] env) h (r03_dict_K0  K)) (r03_dict_K0  K)
def r03_dict_K7  (K : Value → Hp → Prop) : Exit → Env → Hp → Prop := blockE 2 (r03_dict_K6  K)
def r03_dict_b0 (s_0 : Int) (s_1 : Option Addr) (s_1L : Nat) (s_1C : Nat) (o_0 : Int) (o_1 : Option Addr) (o_1L : Nat) (o_1C : Nat) (h : Hp)  (K : Value → Hp → Prop) : Prop :=
  sx_4 Try.prog F 199 (cp [] (bodyOf Try.f80)) (ap [] r03_dict_an) [(0, .agg #[.int .i64 s_0, .slice s_1 s_1L s_1C]), (1, .agg #[.int .i64 o_0, .slice o_1 o_1L o_1C])] h (r03_dict_K0  K)
def r03_dict_b1 (less : Int) (there : Bool) (i : Int) (s : Option Addr) (o : Option Addr) (t4 : Option Addr) (t5 : Option Addr) (nv : Int) (k : Int) (h : Hp) (nx0 : Int × Bool × Int × Unit → Hp → Prop) (K : Value → Hp → Prop) : Prop :=
  sx_3 Try.prog F 199 (cp [1, 1, 1, 1, 1, 0, 1, 2, 2] (bodyOf Try.f80)) (ap [1, 1, 1, 1, 1, 0, 1, 2] r03_dict_an) [(8, .int .i64 less), (9, .bool there), (10, .int .i64 i), (2, .pointer s), (3, .pointer o), (4, .pointer t4), (5, .pointer t5), (6, .int .i64 nv), (7, .int .i64 k)] h (r03_dict_K3 nx0 K)
def r03_dict_b2 (s : Option Addr) (o : Option Addr) (t4 : Option Addr) (t5 : Option Addr) (nv : Int) (k : Int) (less : Int) (there : Bool) (i : Int) (h : Hp) (nx0 : Int × Bool × Int × Unit → Hp → Prop) (K : Value → Hp → Prop) : Prop :=
  sx_2 Try.prog F 199 (cp [1, 1, 1, 1, 1, 0, 1, 2, 2, 1, 0, 2, 1] (bodyOf Try.f80)) (ap [1, 1, 1, 1, 1, 0, 1, 2, 1, 0, 1] r03_dict_an) [(2, .pointer s), (3, .pointer o), (4, .pointer t4), (5, .pointer t5), (6, .int .i64 nv), (7, .int .i64 k), (8, .int .i64 less), (9, .bool there), (10, .int .i64 i)] h (r03_dict_K5 nx0 K)
def r03_dict_b3 (s : Option Addr) (o : Option Addr) (t4 : Option Addr) (t5 : Option Addr) (nv : Int) (k : Int) (less : Int) (there : Bool) (h : Hp)  (K : Value → Hp → Prop) : Prop :=
  sx_3 Try.prog F 199 (cp [1, 1, 1, 1, 1, 1] (bodyOf Try.f80)) (ap [1, 1, 1, 1, 1, 1] r03_dict_an) [(2, .pointer s), (3, .pointer o), (4, .pointer t4), (5, .pointer t5), (6, .int .i64 nv), (7, .int .i64 k), (8, .int .i64 less), (9, .bool there)] h (r03_dict_K0  K)
def r03_dict_b4 (s : Option Addr) (o : Option Addr) (t4 : Option Addr) (t5 : Option Addr) (nv : Int) (k : Int) (less : Int) (there : Bool) (i : Int) (h : Hp) (nx0 : Int × Bool × Int × Unit → Hp → Prop) (K : Value → Hp → Prop) : Prop :=
  sx_2 Try.prog F 199 (cp [1, 1, 1, 1, 1, 0, 1, 2, 2, 1, 1] (bodyOf Try.f80)) (ap [1, 1, 1, 1, 1, 0, 1, 2, 1, 1] r03_dict_an) [(2, .pointer s), (3, .pointer o), (4, .pointer t4), (5, .pointer t5), (6, .int .i64 nv), (7, .int .i64 k), (8, .int .i64 less), (9, .bool there), (10, .int .i64 i)] h (r03_dict_K3 nx0 K)
def r03_dict_b5 (s : Option Addr) (o : Option Addr) (t4 : Option Addr) (t5 : Option Addr) (nv : Int) (k : Int) (less : Int) (there : Bool) (t56 : Int) (t95 : Bool) (h : Hp)  (K : Value → Hp → Prop) : Prop :=
  sx_2 Try.prog F 199 (cp [1, 1, 1, 1, 1, 1, 0, 1, 2, 1, 1, 1] (bodyOf Try.f80)) (ap [1, 1, 1, 1, 1, 1, 0, 1, 1, 1, 1] r03_dict_an) [(2, .pointer s), (3, .pointer o), (4, .pointer t4), (5, .pointer t5), (6, .int .i64 nv), (7, .int .i64 k), (8, .int .i64 less), (9, .bool there), (56, .int .i64 t56), (95, .bool t95)] h (r03_dict_K7  K)
def r03_dict_b6 (s : Option Addr) (t4 : Option Addr) (t5 : Option Addr) (v : Int) (h : Hp)  (K : Value → Hp → Prop) : Prop :=
  sx_1 Try.prog F 199 (cp [1, 1, 1, 1, 1, 1, 0, 1, 2, 1, 1, 1, 0, 1, 1, 1] (bodyOf Try.f80)) (ap [1, 1, 1, 1, 1, 1, 0, 1, 1, 1, 1, 0, 1, 1, 1] r03_dict_an) [(2, .pointer s), (4, .pointer t4), (5, .pointer t5), (11, .int .i64 v)] h (r03_dict_K7  K)
def r03_dict_b7 (s : Option Addr) (t4 : Option Addr) (t5 : Option Addr) (nv : Int) (k : Int) (h : Hp)  (K : Value → Hp → Prop) : Prop :=
  sx_2 Try.prog F 199 (cp [1, 1, 1, 1, 1, 1, 1] (bodyOf Try.f80)) (ap [1, 1, 1, 1, 1, 1, 1] r03_dict_an) [(2, .pointer s), (4, .pointer t4), (5, .pointer t5), (6, .int .i64 nv), (7, .int .i64 k)] h (r03_dict_K0  K)
def r03_dict_b8 (s : Option Addr) (t4 : Option Addr) (t5 : Option Addr) (k : Int) (h : Hp)  (K : Value → Hp → Prop) : Prop :=
  sx_1 Try.prog F 199 (cp [1, 1, 1, 1, 1, 1, 1, 1] (bodyOf Try.f80)) (ap [1, 1, 1, 1, 1, 1, 1, 1] r03_dict_an) [(2, .pointer s), (4, .pointer t4), (5, .pointer t5), (7, .int .i64 k)] h (r03_dict_K0  K)
theorem r03_dict_b0_eq (s_0 : Int) (s_1 : Option Addr) (s_1L : Nat) (s_1C : Nat) (o_0 : Int) (o_1 : Option Addr) (o_1L : Nat) (o_1C : Nat) (h : Hp)  (K : Value → Hp → Prop) : r03_dict_b0 s_0 s_1 s_1L s_1C o_0 o_1 o_1L o_1C h  K = (
  New h (.cells #[.int .i64 s_0, .slice s_1 s_1L s_1C] 108) fun b1 h1 =>
  New h1 (.cells #[.int .i64 o_0, .slice o_1 o_1L o_1C] 58) fun b2 h2 =>
  New h2 (.cells #[.int .i64 0, .slice none 0 0] 108) fun b3 h3 =>
  New h3 (.cells #[.int .i64 0, .int .i64 0, .slice none 0 0] 61) fun b4 h4 =>
  ∃ (a1 : Option Addr) (L1 C1 : Nat), cell h4 ((⟨b1, 0, none⟩ : Addr).add 1) = some (.slice a1 L1 C1) ∧
  ∃ n1 : Int, cell h4 ⟨b2, 0, none⟩ = some (.int .i64 n1) ∧
  cond (decide (n1 = 8))
  (∃ n2 : Int, ∃ (a2 : Option Addr) (L2 C2 : Nat), cell h4 ⟨b1, 0, none⟩ = some (.int .i64 n2) ∧
  cell h4 ((⟨b1, 0, none⟩ : Addr).add 1) = some (.slice a2 L2 C2) ∧
  HCalls Try.prog 97 #[.agg #[.int .i64 n2, .slice a2 L2 C2], .int .i64 (L1 : Int)] h4 fun v1 h5 => ∃ r1 : Int, ∃ (r2 : Option Addr) (rL1 rC1 : Nat), ∃ r3 : Int, ∃ r4 : Int, ∃ (r5 : Option Addr) (rL2 rC2 : Nat), v1 = .tuple #[.agg #[.int .i64 r1, .slice r2 rL1 rC1], .agg #[.int .i64 r3, .int .i64 r4, .slice r5 rL2 rC2]] ∧
  Wr h5 ⟨b3, 0, none⟩ (.int .i64 r1) fun h6 =>
  Wr h6 ((⟨b3, 0, none⟩ : Addr).add 1) (.slice r2 rL1 rC1) fun h7 =>
  Wr h7 ⟨b4, 0, none⟩ (.int .i64 r3) fun h8 =>
  Wr h8 ((⟨b4, 0, none⟩ : Addr).add 1) (.int .i64 r4) fun h9 =>
  Wr h9 ((⟨b4, 0, none⟩ : Addr).add 2) (.slice r5 rL2 rC2) fun h10 =>
  ∃ r6 : Int, ∃ (r7 : Option Addr) (rL3 rC3 : Nat), cell h10 ⟨b3, 0, none⟩ = some (.int .i64 r6) ∧
  cell h10 ((⟨b3, 0, none⟩ : Addr).add 1) = some (.slice r7 rL3 rC3) ∧
  ∃ r8 : Int, ∃ r9 : Int, ∃ (r10 : Option Addr) (rL4 rC4 : Nat), cell h10 ⟨b4, 0, none⟩ = some (.int .i64 r8) ∧
  cell h10 ((⟨b4, 0, none⟩ : Addr).add 1) = some (.int .i64 r9) ∧
  cell h10 ((⟨b4, 0, none⟩ : Addr).add 2) = some (.slice r10 rL4 rC4) ∧
  K (.tuple #[.agg #[.int .i64 r6, .slice r7 rL3 rC3], .agg #[.int .i64 r8, .int .i64 r9, .slice r10 rL4 rC4]]) h10)
  (∃ (a3 : Option Addr) (L3 C3 : Nat), cell h4 ((⟨b2, 0, none⟩ : Addr).add 1) = some (.slice a3 L3 C3) ∧
  (0 ≤ (0 : Int) ∧ (0 : Int) < (L3 : Int)) ∧
  NN a3 fun a4 =>
  ∃ n3 : Int, cell h4 (a4.add (Int.toNat (0 : Int) * 1)) = some (.int .i64 n3) ∧
  LoopVC ((0, false, 0, ()) : Int × Bool × Int × Unit) h4 (fun (nx0 : Int × Bool × Int × Unit → Hp → Prop) (s1 : Int × Bool × Int × Unit) h11 => r03_dict_b1 s1.1 s1.2.1 s1.2.2.1 (some ⟨b1, 0, none⟩) (some ⟨b2, 0, none⟩) (some ⟨b3, 0, none⟩) (some ⟨b4, 0, none⟩) (L1 : Int) n3 h11 nx0 K))) := by kernel_rfl
theorem r03_dict_b1_eq (less : Int) (there : Bool) (i : Int) (s : Option Addr) (o : Option Addr) (t4 : Option Addr) (t5 : Option Addr) (nv : Int) (k : Int) (h : Hp) (nx0 : Int × Bool × Int × Unit → Hp → Prop) (K : Value → Hp → Prop) : r03_dict_b1 less there i s o t4 t5 nv k h nx0 K = (
  cond (decide (i < nv))
  (NN s fun a5 =>
  ∃ (a6 : Option Addr) (L4 C4 : Nat), cell h (a5.add 1) = some (.slice a6 L4 C4) ∧
  (0 ≤ i ∧ i < (L4 : Int)) ∧
  NN a6 fun a7 =>
  ∃ (a8 : Option Addr) (L5 C5 : Nat), cell h (a7.add (Int.toNat i * 1)) = some (.slice a8 L5 C5) ∧
  (0 ≤ (0 : Int) ∧ (0 : Int) < (L5 : Int)) ∧
  NN a8 fun a9 =>
  ∃ n4 : Int, cell h (a9.add (Int.toNat (0 : Int) * 1)) = some (.int .i64 n4) ∧
  cond (decide (n4 < k))
  (InR (less + 1) ∧
  r03_dict_b2 s o t4 t5 nv k (less + 1) there i h nx0 K)
  (r03_dict_b2 s o t4 t5 nv k less there i h nx0 K))
  (r03_dict_b3 s o t4 t5 nv k less there h  K)) := by kernel_rfl
theorem r03_dict_b2_eq (s : Option Addr) (o : Option Addr) (t4 : Option Addr) (t5 : Option Addr) (nv : Int) (k : Int) (less : Int) (there : Bool) (i : Int) (h : Hp) (nx0 : Int × Bool × Int × Unit → Hp → Prop) (K : Value → Hp → Prop) : r03_dict_b2 s o t4 t5 nv k less there i h nx0 K = (
  cond there
  (r03_dict_b4 s o t4 t5 nv k less true i h nx0 K)
  (NN s fun a10 =>
  ∃ (a11 : Option Addr) (L6 C6 : Nat), cell h (a10.add 1) = some (.slice a11 L6 C6) ∧
  (0 ≤ i ∧ i < (L6 : Int)) ∧
  NN a11 fun a12 =>
  ∃ (a13 : Option Addr) (L7 C7 : Nat), cell h (a12.add (Int.toNat i * 1)) = some (.slice a13 L7 C7) ∧
  (0 ≤ (0 : Int) ∧ (0 : Int) < (L7 : Int)) ∧
  NN a13 fun a14 =>
  ∃ n5 : Int, cell h (a14.add (Int.toNat (0 : Int) * 1)) = some (.int .i64 n5) ∧
  r03_dict_b4 s o t4 t5 nv k less (decide (n5 = k)) i h nx0 K)) := by kernel_rfl
theorem r03_dict_b3_eq (s : Option Addr) (o : Option Addr) (t4 : Option Addr) (t5 : Option Addr) (nv : Int) (k : Int) (less : Int) (there : Bool) (h : Hp)  (K : Value → Hp → Prop) : r03_dict_b3 s o t4 t5 nv k less there h  K = (
  NN o fun a15 =>
  ∃ n6 : Int, cell h a15 = some (.int .i64 n6) ∧
  cond (decide (n6 = 1))
  (cond there
  (NN s fun a16 =>
  ∃ (a17 : Option Addr) (L8 C8 : Nat), cell h (a16.add 1) = some (.slice a17 L8 C8) ∧
  (0 ≤ less ∧ less < (L8 : Int)) ∧
  NN a17 fun a18 =>
  ∃ (a19 : Option Addr) (L9 C9 : Nat), cell h (a18.add (Int.toNat less * 1)) = some (.slice a19 L9 C9) ∧
  NN o fun a20 =>
  ∃ (a21 : Option Addr) (L10 C10 : Nat), cell h (a20.add 1) = some (.slice a21 L10 C10) ∧
  (0 ≤ (1 : Int) ∧ (1 : Int) < (L10 : Int)) ∧
  NN a21 fun a22 =>
  ∃ n7 : Int, cell h (a22.add (Int.toNat (1 : Int) * 1)) = some (.int .i64 n7) ∧
  (0 ≤ (1 : Int) ∧ (1 : Int) < (L9 : Int)) ∧
  NN a19 fun a23 =>
  Wr h (a23.add (Int.toNat (1 : Int) * 1)) (.int .i64 n7) fun h12 =>
  NN s fun a24 =>
  ∃ n8 : Int, ∃ (a25 : Option Addr) (L11 C11 : Nat), cell h12 a24 = some (.int .i64 n8) ∧
  cell h12 (a24.add 1) = some (.slice a25 L11 C11) ∧
  HCalls Try.prog 97 #[.agg #[.int .i64 n8, .slice a25 L11 C11], .int .i64 1] h12 fun v2 h13 => ∃ r11 : Int, ∃ (r12 : Option Addr) (rL5 rC5 : Nat), ∃ r13 : Int, ∃ r14 : Int, ∃ (r15 : Option Addr) (rL6 rC6 : Nat), v2 = .tuple #[.agg #[.int .i64 r11, .slice r12 rL5 rC5], .agg #[.int .i64 r13, .int .i64 r14, .slice r15 rL6 rC6]] ∧
  NN t4 fun a26 =>
  Wr h13 a26 (.int .i64 r11) fun h14 =>
  Wr h14 (a26.add 1) (.slice r12 rL5 rC5) fun h15 =>
  NN t5 fun a27 =>
  Wr h15 a27 (.int .i64 r13) fun h16 =>
  Wr h16 (a27.add 1) (.int .i64 r14) fun h17 =>
  Wr h17 (a27.add 2) (.slice r15 rL6 rC6) fun h18 =>
  NN t4 fun a28 =>
  ∃ r16 : Int, ∃ (r17 : Option Addr) (rL7 rC7 : Nat), cell h18 a28 = some (.int .i64 r16) ∧
  cell h18 (a28.add 1) = some (.slice r17 rL7 rC7) ∧
  NN t5 fun a29 =>
  ∃ r18 : Int, ∃ r19 : Int, ∃ (r20 : Option Addr) (rL8 rC8 : Nat), cell h18 a29 = some (.int .i64 r18) ∧
  cell h18 (a29.add 1) = some (.int .i64 r19) ∧
  cell h18 (a29.add 2) = some (.slice r20 rL8 rC8) ∧
  K (.tuple #[.agg #[.int .i64 r16, .slice r17 rL7 rC7], .agg #[.int .i64 r18, .int .i64 r19, .slice r20 rL8 rC8]]) h18)
  (cond (decide (nv = 500))
  (NN s fun a30 =>
  ∃ n9 : Int, ∃ (a31 : Option Addr) (L12 C12 : Nat), cell h a30 = some (.int .i64 n9) ∧
  cell h (a30.add 1) = some (.slice a31 L12 C12) ∧
  HCalls Try.prog 98 #[.agg #[.int .i64 n9, .slice a31 L12 C12], .int .i64 4] h fun v3 h19 => ∃ r21 : Int, ∃ (r22 : Option Addr) (rL9 rC9 : Nat), ∃ r23 : Int, ∃ r24 : Int, ∃ (r25 : Option Addr) (rL10 rC10 : Nat), v3 = .tuple #[.agg #[.int .i64 r21, .slice r22 rL9 rC9], .agg #[.int .i64 r23, .int .i64 r24, .slice r25 rL10 rC10]] ∧
  NN t4 fun a32 =>
  Wr h19 a32 (.int .i64 r21) fun h20 =>
  Wr h20 (a32.add 1) (.slice r22 rL9 rC9) fun h21 =>
  NN t5 fun a33 =>
  Wr h21 a33 (.int .i64 r23) fun h22 =>
  Wr h22 (a33.add 1) (.int .i64 r24) fun h23 =>
  Wr h23 (a33.add 2) (.slice r25 rL10 rC10) fun h24 =>
  NN t4 fun a34 =>
  ∃ r26 : Int, ∃ (r27 : Option Addr) (rL11 rC11 : Nat), cell h24 a34 = some (.int .i64 r26) ∧
  cell h24 (a34.add 1) = some (.slice r27 rL11 rC11) ∧
  NN t5 fun a35 =>
  ∃ r28 : Int, ∃ r29 : Int, ∃ (r30 : Option Addr) (rL12 rC12 : Nat), cell h24 a35 = some (.int .i64 r28) ∧
  cell h24 (a35.add 1) = some (.int .i64 r29) ∧
  cell h24 (a35.add 2) = some (.slice r30 rL12 rC12) ∧
  K (.tuple #[.agg #[.int .i64 r26, .slice r27 rL11 rC11], .agg #[.int .i64 r28, .int .i64 r29, .slice r30 rL12 rC12]]) h24)
  (NN s fun a36 =>
  ∃ (a37 : Option Addr) (L13 C13 : Nat), cell h (a36.add 1) = some (.slice a37 L13 C13) ∧
  NN o fun a38 =>
  ∃ (a39 : Option Addr) (L14 C14 : Nat), cell h (a38.add 1) = some (.slice a39 L14 C14) ∧
  (0 ≤ (1 : Int) ∧ (1 : Int) < (L14 : Int)) ∧
  NN a39 fun a40 =>
  ∃ n10 : Int, cell h (a40.add (Int.toNat (1 : Int) * 1)) = some (.int .i64 n10) ∧
  New h (.cells #[.int .i64 k, .int .i64 n10] 3) fun b5 h25 =>
  (∃ (a41 : Option Addr) (L15 C15 : Nat), cell h25 (a36.add 1) = some (.slice a41 L15 C15) ∧
  (.slice a41 L15 C15 : Value) = .slice a37 L13 C13) ∧
  HCalls Try.prog 99 #[.slice a37 L13 C13, .int .i64 less, .slice (some ⟨b5, 0, none⟩) 2 2] h25 fun v4 h26 => ∃ (r31 : Option Addr) (rL13 rC13 : Nat), v4 = .slice r31 rL13 rC13 ∧
  NN s fun a42 =>
  Wr h26 (a42.add 1) (.slice r31 rL13 rC13) fun h27 =>
  NN s fun a43 =>
  ∃ n11 : Int, ∃ (a44 : Option Addr) (L16 C16 : Nat), cell h27 a43 = some (.int .i64 n11) ∧
  cell h27 (a43.add 1) = some (.slice a44 L16 C16) ∧
  HCalls Try.prog 97 #[.agg #[.int .i64 n11, .slice a44 L16 C16], .int .i64 0] h27 fun v5 h28 => ∃ r32 : Int, ∃ (r33 : Option Addr) (rL14 rC14 : Nat), ∃ r34 : Int, ∃ r35 : Int, ∃ (r36 : Option Addr) (rL15 rC15 : Nat), v5 = .tuple #[.agg #[.int .i64 r32, .slice r33 rL14 rC14], .agg #[.int .i64 r34, .int .i64 r35, .slice r36 rL15 rC15]] ∧
  NN t4 fun a45 =>
  Wr h28 a45 (.int .i64 r32) fun h29 =>
  Wr h29 (a45.add 1) (.slice r33 rL14 rC14) fun h30 =>
  NN t5 fun a46 =>
  Wr h30 a46 (.int .i64 r34) fun h31 =>
  Wr h31 (a46.add 1) (.int .i64 r35) fun h32 =>
  Wr h32 (a46.add 2) (.slice r36 rL15 rC15) fun h33 =>
  NN t4 fun a47 =>
  ∃ r37 : Int, ∃ (r38 : Option Addr) (rL16 rC16 : Nat), cell h33 a47 = some (.int .i64 r37) ∧
  cell h33 (a47.add 1) = some (.slice r38 rL16 rC16) ∧
  NN t5 fun a48 =>
  ∃ r39 : Int, ∃ r40 : Int, ∃ (r41 : Option Addr) (rL17 rC17 : Nat), cell h33 a48 = some (.int .i64 r39) ∧
  cell h33 (a48.add 1) = some (.int .i64 r40) ∧
  cell h33 (a48.add 2) = some (.slice r41 rL17 rC17) ∧
  K (.tuple #[.agg #[.int .i64 r37, .slice r38 rL16 rC16], .agg #[.int .i64 r39, .int .i64 r40, .slice r41 rL17 rC17]]) h33)))
  (cond (decide (n6 = 2))
  (r03_dict_b5 s o t4 t5 nv k less there n6 (decide (n6 = 2)) h  K)
  (r03_dict_b5 s o t4 t5 nv k less there n6 (decide (n6 = 3)) h  K))) := by kernel_rfl
theorem r03_dict_b4_eq (s : Option Addr) (o : Option Addr) (t4 : Option Addr) (t5 : Option Addr) (nv : Int) (k : Int) (less : Int) (there : Bool) (i : Int) (h : Hp) (nx0 : Int × Bool × Int × Unit → Hp → Prop) (K : Value → Hp → Prop) : r03_dict_b4 s o t4 t5 nv k less there i h nx0 K = (
  InR (i + 1) ∧
  nx0 (less, there, i + 1, ()) h) := by kernel_rfl
theorem r03_dict_b5_eq (s : Option Addr) (o : Option Addr) (t4 : Option Addr) (t5 : Option Addr) (nv : Int) (k : Int) (less : Int) (there : Bool) (t56 : Int) (t95 : Bool) (h : Hp)  (K : Value → Hp → Prop) : r03_dict_b5 s o t4 t5 nv k less there t56 t95 h  K = (
  cond t95
  (cond (!there)
  (NN s fun a49 =>
  ∃ n12 : Int, ∃ (a50 : Option Addr) (L17 C17 : Nat), cell h a49 = some (.int .i64 n12) ∧
  cell h (a49.add 1) = some (.slice a50 L17 C17) ∧
  HCalls Try.prog 98 #[.agg #[.int .i64 n12, .slice a50 L17 C17], .int .i64 12] h fun v6 h34 => ∃ r42 : Int, ∃ (r43 : Option Addr) (rL18 rC18 : Nat), ∃ r44 : Int, ∃ r45 : Int, ∃ (r46 : Option Addr) (rL19 rC19 : Nat), v6 = .tuple #[.agg #[.int .i64 r42, .slice r43 rL18 rC18], .agg #[.int .i64 r44, .int .i64 r45, .slice r46 rL19 rC19]] ∧
  NN t4 fun a51 =>
  Wr h34 a51 (.int .i64 r42) fun h35 =>
  Wr h35 (a51.add 1) (.slice r43 rL18 rC18) fun h36 =>
  NN t5 fun a52 =>
  Wr h36 a52 (.int .i64 r44) fun h37 =>
  Wr h37 (a52.add 1) (.int .i64 r45) fun h38 =>
  Wr h38 (a52.add 2) (.slice r46 rL19 rC19) fun h39 =>
  NN t4 fun a53 =>
  ∃ r47 : Int, ∃ (r48 : Option Addr) (rL20 rC20 : Nat), cell h39 a53 = some (.int .i64 r47) ∧
  cell h39 (a53.add 1) = some (.slice r48 rL20 rC20) ∧
  NN t5 fun a54 =>
  ∃ r49 : Int, ∃ r50 : Int, ∃ (r51 : Option Addr) (rL21 rC21 : Nat), cell h39 a54 = some (.int .i64 r49) ∧
  cell h39 (a54.add 1) = some (.int .i64 r50) ∧
  cell h39 (a54.add 2) = some (.slice r51 rL21 rC21) ∧
  K (.tuple #[.agg #[.int .i64 r47, .slice r48 rL20 rC20], .agg #[.int .i64 r49, .int .i64 r50, .slice r51 rL21 rC21]]) h39)
  (NN s fun a55 =>
  ∃ (a56 : Option Addr) (L18 C18 : Nat), cell h (a55.add 1) = some (.slice a56 L18 C18) ∧
  (0 ≤ less ∧ less < (L18 : Int)) ∧
  NN a56 fun a57 =>
  ∃ (a58 : Option Addr) (L19 C19 : Nat), cell h (a57.add (Int.toNat less * 1)) = some (.slice a58 L19 C19) ∧
  (0 ≤ (1 : Int) ∧ (1 : Int) < (L19 : Int)) ∧
  NN a58 fun a59 =>
  ∃ n13 : Int, cell h (a59.add (Int.toNat (1 : Int) * 1)) = some (.int .i64 n13) ∧
  NN o fun a60 =>
  ∃ n14 : Int, cell h a60 = some (.int .i64 n14) ∧
  cond (decide (n14 = 3))
  (NN s fun a61 =>
  ∃ (a62 : Option Addr) (L20 C20 : Nat), cell h (a61.add 1) = some (.slice a62 L20 C20) ∧
  HCalls Try.prog 100 #[.slice a62 L20 C20, .int .i64 less] h fun v7 h40 => ∃ (r52 : Option Addr) (rL22 rC22 : Nat), v7 = .slice r52 rL22 rC22 ∧
  NN s fun a63 =>
  Wr h40 (a63.add 1) (.slice r52 rL22 rC22) fun h41 =>
  r03_dict_b6 s t4 t5 n13 h41  K)
  (r03_dict_b6 s t4 t5 n13 h  K)))
  (cond (decide (t56 = 4))
  (cond there
  (NN s fun a64 =>
  ∃ n15 : Int, ∃ (a65 : Option Addr) (L21 C21 : Nat), cell h a64 = some (.int .i64 n15) ∧
  cell h (a64.add 1) = some (.slice a65 L21 C21) ∧
  HCalls Try.prog 97 #[.agg #[.int .i64 n15, .slice a65 L21 C21], .int .i64 k] h fun v8 h42 => ∃ r53 : Int, ∃ (r54 : Option Addr) (rL23 rC23 : Nat), ∃ r55 : Int, ∃ r56 : Int, ∃ (r57 : Option Addr) (rL24 rC24 : Nat), v8 = .tuple #[.agg #[.int .i64 r53, .slice r54 rL23 rC23], .agg #[.int .i64 r55, .int .i64 r56, .slice r57 rL24 rC24]] ∧
  NN t4 fun a66 =>
  Wr h42 a66 (.int .i64 r53) fun h43 =>
  Wr h43 (a66.add 1) (.slice r54 rL23 rC23) fun h44 =>
  NN t5 fun a67 =>
  Wr h44 a67 (.int .i64 r55) fun h45 =>
  Wr h45 (a67.add 1) (.int .i64 r56) fun h46 =>
  Wr h46 (a67.add 2) (.slice r57 rL24 rC24) fun h47 =>
  NN t4 fun a68 =>
  ∃ r58 : Int, ∃ (r59 : Option Addr) (rL25 rC25 : Nat), cell h47 a68 = some (.int .i64 r58) ∧
  cell h47 (a68.add 1) = some (.slice r59 rL25 rC25) ∧
  NN t5 fun a69 =>
  ∃ r60 : Int, ∃ r61 : Int, ∃ (r62 : Option Addr) (rL26 rC26 : Nat), cell h47 a69 = some (.int .i64 r60) ∧
  cell h47 (a69.add 1) = some (.int .i64 r61) ∧
  cell h47 (a69.add 2) = some (.slice r62 rL26 rC26) ∧
  K (.tuple #[.agg #[.int .i64 r58, .slice r59 rL25 rC25], .agg #[.int .i64 r60, .int .i64 r61, .slice r62 rL26 rC26]]) h47)
  (cond (decide (less = 0))
  (NN s fun a70 =>
  ∃ n16 : Int, ∃ (a71 : Option Addr) (L22 C22 : Nat), cell h a70 = some (.int .i64 n16) ∧
  cell h (a70.add 1) = some (.slice a71 L22 C22) ∧
  HCalls Try.prog 98 #[.agg #[.int .i64 n16, .slice a71 L22 C22], .int .i64 12] h fun v9 h48 => ∃ r63 : Int, ∃ (r64 : Option Addr) (rL27 rC27 : Nat), ∃ r65 : Int, ∃ r66 : Int, ∃ (r67 : Option Addr) (rL28 rC28 : Nat), v9 = .tuple #[.agg #[.int .i64 r63, .slice r64 rL27 rC27], .agg #[.int .i64 r65, .int .i64 r66, .slice r67 rL28 rC28]] ∧
  NN t4 fun a72 =>
  Wr h48 a72 (.int .i64 r63) fun h49 =>
  Wr h49 (a72.add 1) (.slice r64 rL27 rC27) fun h50 =>
  NN t5 fun a73 =>
  Wr h50 a73 (.int .i64 r65) fun h51 =>
  Wr h51 (a73.add 1) (.int .i64 r66) fun h52 =>
  Wr h52 (a73.add 2) (.slice r67 rL28 rC28) fun h53 =>
  NN t4 fun a74 =>
  ∃ r68 : Int, ∃ (r69 : Option Addr) (rL29 rC29 : Nat), cell h53 a74 = some (.int .i64 r68) ∧
  cell h53 (a74.add 1) = some (.slice r69 rL29 rC29) ∧
  NN t5 fun a75 =>
  ∃ r70 : Int, ∃ r71 : Int, ∃ (r72 : Option Addr) (rL30 rC30 : Nat), cell h53 a75 = some (.int .i64 r70) ∧
  cell h53 (a75.add 1) = some (.int .i64 r71) ∧
  cell h53 (a75.add 2) = some (.slice r72 rL30 rC30) ∧
  K (.tuple #[.agg #[.int .i64 r68, .slice r69 rL29 rC29], .agg #[.int .i64 r70, .int .i64 r71, .slice r72 rL30 rC30]]) h53)
  (NN s fun a76 =>
  ∃ n17 : Int, ∃ (a77 : Option Addr) (L23 C23 : Nat), cell h a76 = some (.int .i64 n17) ∧
  cell h (a76.add 1) = some (.slice a77 L23 C23) ∧
  NN s fun a78 =>
  ∃ (a79 : Option Addr) (L24 C24 : Nat), cell h (a78.add 1) = some (.slice a79 L24 C24) ∧
  InR (less - 1) ∧
  (0 ≤ less - 1 ∧ less - 1 < (L24 : Int)) ∧
  NN a79 fun a80 =>
  ∃ (a81 : Option Addr) (L25 C25 : Nat), cell h (a80.add (Int.toNat (less - 1) * 1)) = some (.slice a81 L25 C25) ∧
  (0 ≤ (0 : Int) ∧ (0 : Int) < (L25 : Int)) ∧
  NN a81 fun a82 =>
  ∃ n18 : Int, cell h (a82.add (Int.toNat (0 : Int) * 1)) = some (.int .i64 n18) ∧
  HCalls Try.prog 97 #[.agg #[.int .i64 n17, .slice a77 L23 C23], .int .i64 n18] h fun v10 h54 => ∃ r73 : Int, ∃ (r74 : Option Addr) (rL31 rC31 : Nat), ∃ r75 : Int, ∃ r76 : Int, ∃ (r77 : Option Addr) (rL32 rC32 : Nat), v10 = .tuple #[.agg #[.int .i64 r73, .slice r74 rL31 rC31], .agg #[.int .i64 r75, .int .i64 r76, .slice r77 rL32 rC32]] ∧
  NN t4 fun a83 =>
  Wr h54 a83 (.int .i64 r73) fun h55 =>
  Wr h55 (a83.add 1) (.slice r74 rL31 rC31) fun h56 =>
  NN t5 fun a84 =>
  Wr h56 a84 (.int .i64 r75) fun h57 =>
  Wr h57 (a84.add 1) (.int .i64 r76) fun h58 =>
  Wr h58 (a84.add 2) (.slice r77 rL32 rC32) fun h59 =>
  NN t4 fun a85 =>
  ∃ r78 : Int, ∃ (r79 : Option Addr) (rL33 rC33 : Nat), cell h59 a85 = some (.int .i64 r78) ∧
  cell h59 (a85.add 1) = some (.slice r79 rL33 rC33) ∧
  NN t5 fun a86 =>
  ∃ r80 : Int, ∃ r81 : Int, ∃ (r82 : Option Addr) (rL34 rC34 : Nat), cell h59 a86 = some (.int .i64 r80) ∧
  cell h59 (a86.add 1) = some (.int .i64 r81) ∧
  cell h59 (a86.add 2) = some (.slice r82 rL34 rC34) ∧
  K (.tuple #[.agg #[.int .i64 r78, .slice r79 rL33 rC33], .agg #[.int .i64 r80, .int .i64 r81, .slice r82 rL34 rC34]]) h59)))
  (cond (decide (t56 = 5))
  (cond (decide (less = nv))
  (NN s fun a87 =>
  ∃ n19 : Int, ∃ (a88 : Option Addr) (L26 C26 : Nat), cell h a87 = some (.int .i64 n19) ∧
  cell h (a87.add 1) = some (.slice a88 L26 C26) ∧
  HCalls Try.prog 98 #[.agg #[.int .i64 n19, .slice a88 L26 C26], .int .i64 12] h fun v11 h60 => ∃ r83 : Int, ∃ (r84 : Option Addr) (rL35 rC35 : Nat), ∃ r85 : Int, ∃ r86 : Int, ∃ (r87 : Option Addr) (rL36 rC36 : Nat), v11 = .tuple #[.agg #[.int .i64 r83, .slice r84 rL35 rC35], .agg #[.int .i64 r85, .int .i64 r86, .slice r87 rL36 rC36]] ∧
  NN t4 fun a89 =>
  Wr h60 a89 (.int .i64 r83) fun h61 =>
  Wr h61 (a89.add 1) (.slice r84 rL35 rC35) fun h62 =>
  NN t5 fun a90 =>
  Wr h62 a90 (.int .i64 r85) fun h63 =>
  Wr h63 (a90.add 1) (.int .i64 r86) fun h64 =>
  Wr h64 (a90.add 2) (.slice r87 rL36 rC36) fun h65 =>
  NN t4 fun a91 =>
  ∃ r88 : Int, ∃ (r89 : Option Addr) (rL37 rC37 : Nat), cell h65 a91 = some (.int .i64 r88) ∧
  cell h65 (a91.add 1) = some (.slice r89 rL37 rC37) ∧
  NN t5 fun a92 =>
  ∃ r90 : Int, ∃ r91 : Int, ∃ (r92 : Option Addr) (rL38 rC38 : Nat), cell h65 a92 = some (.int .i64 r90) ∧
  cell h65 (a92.add 1) = some (.int .i64 r91) ∧
  cell h65 (a92.add 2) = some (.slice r92 rL38 rC38) ∧
  K (.tuple #[.agg #[.int .i64 r88, .slice r89 rL37 rC37], .agg #[.int .i64 r90, .int .i64 r91, .slice r92 rL38 rC38]]) h65)
  (NN s fun a93 =>
  ∃ n20 : Int, ∃ (a94 : Option Addr) (L27 C27 : Nat), cell h a93 = some (.int .i64 n20) ∧
  cell h (a93.add 1) = some (.slice a94 L27 C27) ∧
  NN s fun a95 =>
  ∃ (a96 : Option Addr) (L28 C28 : Nat), cell h (a95.add 1) = some (.slice a96 L28 C28) ∧
  (0 ≤ less ∧ less < (L28 : Int)) ∧
  NN a96 fun a97 =>
  ∃ (a98 : Option Addr) (L29 C29 : Nat), cell h (a97.add (Int.toNat less * 1)) = some (.slice a98 L29 C29) ∧
  (0 ≤ (0 : Int) ∧ (0 : Int) < (L29 : Int)) ∧
  NN a98 fun a99 =>
  ∃ n21 : Int, cell h (a99.add (Int.toNat (0 : Int) * 1)) = some (.int .i64 n21) ∧
  HCalls Try.prog 97 #[.agg #[.int .i64 n20, .slice a94 L27 C27], .int .i64 n21] h fun v12 h66 => ∃ r93 : Int, ∃ (r94 : Option Addr) (rL39 rC39 : Nat), ∃ r95 : Int, ∃ r96 : Int, ∃ (r97 : Option Addr) (rL40 rC40 : Nat), v12 = .tuple #[.agg #[.int .i64 r93, .slice r94 rL39 rC39], .agg #[.int .i64 r95, .int .i64 r96, .slice r97 rL40 rC40]] ∧
  NN t4 fun a100 =>
  Wr h66 a100 (.int .i64 r93) fun h67 =>
  Wr h67 (a100.add 1) (.slice r94 rL39 rC39) fun h68 =>
  NN t5 fun a101 =>
  Wr h68 a101 (.int .i64 r95) fun h69 =>
  Wr h69 (a101.add 1) (.int .i64 r96) fun h70 =>
  Wr h70 (a101.add 2) (.slice r97 rL40 rC40) fun h71 =>
  NN t4 fun a102 =>
  ∃ r98 : Int, ∃ (r99 : Option Addr) (rL41 rC41 : Nat), cell h71 a102 = some (.int .i64 r98) ∧
  cell h71 (a102.add 1) = some (.slice r99 rL41 rC41) ∧
  NN t5 fun a103 =>
  ∃ r100 : Int, ∃ r101 : Int, ∃ (r102 : Option Addr) (rL42 rC42 : Nat), cell h71 a103 = some (.int .i64 r100) ∧
  cell h71 (a103.add 1) = some (.int .i64 r101) ∧
  cell h71 (a103.add 2) = some (.slice r102 rL42 rC42) ∧
  K (.tuple #[.agg #[.int .i64 r98, .slice r99 rL41 rC41], .agg #[.int .i64 r100, .int .i64 r101, .slice r102 rL42 rC42]]) h71))
  (cond (decide (t56 = 6))
  (NN s fun a104 =>
  ∃ n22 : Int, ∃ (a105 : Option Addr) (L30 C30 : Nat), cell h a104 = some (.int .i64 n22) ∧
  cell h (a104.add 1) = some (.slice a105 L30 C30) ∧
  HCalls Try.prog 97 #[.agg #[.int .i64 n22, .slice a105 L30 C30], .int .i64 less] h fun v13 h72 => ∃ r103 : Int, ∃ (r104 : Option Addr) (rL43 rC43 : Nat), ∃ r105 : Int, ∃ r106 : Int, ∃ (r107 : Option Addr) (rL44 rC44 : Nat), v13 = .tuple #[.agg #[.int .i64 r103, .slice r104 rL43 rC43], .agg #[.int .i64 r105, .int .i64 r106, .slice r107 rL44 rC44]] ∧
  NN t4 fun a106 =>
  Wr h72 a106 (.int .i64 r103) fun h73 =>
  Wr h73 (a106.add 1) (.slice r104 rL43 rC43) fun h74 =>
  NN t5 fun a107 =>
  Wr h74 a107 (.int .i64 r105) fun h75 =>
  Wr h75 (a107.add 1) (.int .i64 r106) fun h76 =>
  Wr h76 (a107.add 2) (.slice r107 rL44 rC44) fun h77 =>
  NN t4 fun a108 =>
  ∃ r108 : Int, ∃ (r109 : Option Addr) (rL45 rC45 : Nat), cell h77 a108 = some (.int .i64 r108) ∧
  cell h77 (a108.add 1) = some (.slice r109 rL45 rC45) ∧
  NN t5 fun a109 =>
  ∃ r110 : Int, ∃ r111 : Int, ∃ (r112 : Option Addr) (rL46 rC46 : Nat), cell h77 a109 = some (.int .i64 r110) ∧
  cell h77 (a109.add 1) = some (.int .i64 r111) ∧
  cell h77 (a109.add 2) = some (.slice r112 rL46 rC46) ∧
  K (.tuple #[.agg #[.int .i64 r108, .slice r109 rL45 rC45], .agg #[.int .i64 r110, .int .i64 r111, .slice r112 rL46 rC46]]) h77)
  (r03_dict_b7 s t4 t5 nv k h  K))))) := by kernel_rfl
theorem r03_dict_b6_eq (s : Option Addr) (t4 : Option Addr) (t5 : Option Addr) (v : Int) (h : Hp)  (K : Value → Hp → Prop) : r03_dict_b6 s t4 t5 v h  K = (
  NN s fun a110 =>
  ∃ n23 : Int, ∃ (a111 : Option Addr) (L31 C31 : Nat), cell h a110 = some (.int .i64 n23) ∧
  cell h (a110.add 1) = some (.slice a111 L31 C31) ∧
  HCalls Try.prog 97 #[.agg #[.int .i64 n23, .slice a111 L31 C31], .int .i64 v] h fun v14 h78 => ∃ r113 : Int, ∃ (r114 : Option Addr) (rL47 rC47 : Nat), ∃ r115 : Int, ∃ r116 : Int, ∃ (r117 : Option Addr) (rL48 rC48 : Nat), v14 = .tuple #[.agg #[.int .i64 r113, .slice r114 rL47 rC47], .agg #[.int .i64 r115, .int .i64 r116, .slice r117 rL48 rC48]] ∧
  NN t4 fun a112 =>
  Wr h78 a112 (.int .i64 r113) fun h79 =>
  Wr h79 (a112.add 1) (.slice r114 rL47 rC47) fun h80 =>
  NN t5 fun a113 =>
  Wr h80 a113 (.int .i64 r115) fun h81 =>
  Wr h81 (a113.add 1) (.int .i64 r116) fun h82 =>
  Wr h82 (a113.add 2) (.slice r117 rL48 rC48) fun h83 =>
  NN t4 fun a114 =>
  ∃ r118 : Int, ∃ (r119 : Option Addr) (rL49 rC49 : Nat), cell h83 a114 = some (.int .i64 r118) ∧
  cell h83 (a114.add 1) = some (.slice r119 rL49 rC49) ∧
  NN t5 fun a115 =>
  ∃ r120 : Int, ∃ r121 : Int, ∃ (r122 : Option Addr) (rL50 rC50 : Nat), cell h83 a115 = some (.int .i64 r120) ∧
  cell h83 (a115.add 1) = some (.int .i64 r121) ∧
  cell h83 (a115.add 2) = some (.slice r122 rL50 rC50) ∧
  K (.tuple #[.agg #[.int .i64 r118, .slice r119 rL49 rC49], .agg #[.int .i64 r120, .int .i64 r121, .slice r122 rL50 rC50]]) h83) := by kernel_rfl
theorem r03_dict_b7_eq (s : Option Addr) (t4 : Option Addr) (t5 : Option Addr) (nv : Int) (k : Int) (h : Hp)  (K : Value → Hp → Prop) : r03_dict_b7 s t4 t5 nv k h  K = (
  cond (decide (k < 0))
  (NN s fun a116 =>
  ∃ n24 : Int, ∃ (a117 : Option Addr) (L32 C32 : Nat), cell h a116 = some (.int .i64 n24) ∧
  cell h (a116.add 1) = some (.slice a117 L32 C32) ∧
  HCalls Try.prog 98 #[.agg #[.int .i64 n24, .slice a117 L32 C32], .int .i64 2] h fun v15 h84 => ∃ r123 : Int, ∃ (r124 : Option Addr) (rL51 rC51 : Nat), ∃ r125 : Int, ∃ r126 : Int, ∃ (r127 : Option Addr) (rL52 rC52 : Nat), v15 = .tuple #[.agg #[.int .i64 r123, .slice r124 rL51 rC51], .agg #[.int .i64 r125, .int .i64 r126, .slice r127 rL52 rC52]] ∧
  NN t4 fun a118 =>
  Wr h84 a118 (.int .i64 r123) fun h85 =>
  Wr h85 (a118.add 1) (.slice r124 rL51 rC51) fun h86 =>
  NN t5 fun a119 =>
  Wr h86 a119 (.int .i64 r125) fun h87 =>
  Wr h87 (a119.add 1) (.int .i64 r126) fun h88 =>
  Wr h88 (a119.add 2) (.slice r127 rL52 rC52) fun h89 =>
  NN t4 fun a120 =>
  ∃ r128 : Int, ∃ (r129 : Option Addr) (rL53 rC53 : Nat), cell h89 a120 = some (.int .i64 r128) ∧
  cell h89 (a120.add 1) = some (.slice r129 rL53 rC53) ∧
  NN t5 fun a121 =>
  ∃ r130 : Int, ∃ r131 : Int, ∃ (r132 : Option Addr) (rL54 rC54 : Nat), cell h89 a121 = some (.int .i64 r130) ∧
  cell h89 (a121.add 1) = some (.int .i64 r131) ∧
  cell h89 (a121.add 2) = some (.slice r132 rL54 rC54) ∧
  K (.tuple #[.agg #[.int .i64 r128, .slice r129 rL53 rC53], .agg #[.int .i64 r130, .int .i64 r131, .slice r132 rL54 rC54]]) h89)
  (cond (decide (nv ≤ k))
  (NN s fun a122 =>
  ∃ n25 : Int, ∃ (a123 : Option Addr) (L33 C33 : Nat), cell h a122 = some (.int .i64 n25) ∧
  cell h (a122.add 1) = some (.slice a123 L33 C33) ∧
  HCalls Try.prog 98 #[.agg #[.int .i64 n25, .slice a123 L33 C33], .int .i64 2] h fun v16 h90 => ∃ r133 : Int, ∃ (r134 : Option Addr) (rL55 rC55 : Nat), ∃ r135 : Int, ∃ r136 : Int, ∃ (r137 : Option Addr) (rL56 rC56 : Nat), v16 = .tuple #[.agg #[.int .i64 r133, .slice r134 rL55 rC55], .agg #[.int .i64 r135, .int .i64 r136, .slice r137 rL56 rC56]] ∧
  NN t4 fun a124 =>
  Wr h90 a124 (.int .i64 r133) fun h91 =>
  Wr h91 (a124.add 1) (.slice r134 rL55 rC55) fun h92 =>
  NN t5 fun a125 =>
  Wr h92 a125 (.int .i64 r135) fun h93 =>
  Wr h93 (a125.add 1) (.int .i64 r136) fun h94 =>
  Wr h94 (a125.add 2) (.slice r137 rL56 rC56) fun h95 =>
  NN t4 fun a126 =>
  ∃ r138 : Int, ∃ (r139 : Option Addr) (rL57 rC57 : Nat), cell h95 a126 = some (.int .i64 r138) ∧
  cell h95 (a126.add 1) = some (.slice r139 rL57 rC57) ∧
  NN t5 fun a127 =>
  ∃ r140 : Int, ∃ r141 : Int, ∃ (r142 : Option Addr) (rL58 rC58 : Nat), cell h95 a127 = some (.int .i64 r140) ∧
  cell h95 (a127.add 1) = some (.int .i64 r141) ∧
  cell h95 (a127.add 2) = some (.slice r142 rL58 rC58) ∧
  K (.tuple #[.agg #[.int .i64 r138, .slice r139 rL57 rC57], .agg #[.int .i64 r140, .int .i64 r141, .slice r142 rL58 rC58]]) h95)
  (r03_dict_b8 s t4 t5 k h  K))) := by kernel_rfl
theorem r03_dict_b8_eq (s : Option Addr) (t4 : Option Addr) (t5 : Option Addr) (k : Int) (h : Hp)  (K : Value → Hp → Prop) : r03_dict_b8 s t4 t5 k h  K = (
  NN s fun a128 =>
  ∃ n26 : Int, ∃ (a129 : Option Addr) (L34 C34 : Nat), cell h a128 = some (.int .i64 n26) ∧
  cell h (a128.add 1) = some (.slice a129 L34 C34) ∧
  NN s fun a130 =>
  ∃ (a131 : Option Addr) (L35 C35 : Nat), cell h (a130.add 1) = some (.slice a131 L35 C35) ∧
  (0 ≤ k ∧ k < (L35 : Int)) ∧
  NN a131 fun a132 =>
  ∃ (a133 : Option Addr) (L36 C36 : Nat), cell h (a132.add (Int.toNat k * 1)) = some (.slice a133 L36 C36) ∧
  (0 ≤ (0 : Int) ∧ (0 : Int) < (L36 : Int)) ∧
  NN a133 fun a134 =>
  ∃ n27 : Int, cell h (a134.add (Int.toNat (0 : Int) * 1)) = some (.int .i64 n27) ∧
  HCalls Try.prog 97 #[.agg #[.int .i64 n26, .slice a129 L34 C34], .int .i64 n27] h fun v17 h96 => ∃ r143 : Int, ∃ (r144 : Option Addr) (rL59 rC59 : Nat), ∃ r145 : Int, ∃ r146 : Int, ∃ (r147 : Option Addr) (rL60 rC60 : Nat), v17 = .tuple #[.agg #[.int .i64 r143, .slice r144 rL59 rC59], .agg #[.int .i64 r145, .int .i64 r146, .slice r147 rL60 rC60]] ∧
  NN t4 fun a135 =>
  Wr h96 a135 (.int .i64 r143) fun h97 =>
  Wr h97 (a135.add 1) (.slice r144 rL59 rC59) fun h98 =>
  NN t5 fun a136 =>
  Wr h98 a136 (.int .i64 r145) fun h99 =>
  Wr h99 (a136.add 1) (.int .i64 r146) fun h100 =>
  Wr h100 (a136.add 2) (.slice r147 rL60 rC60) fun h101 =>
  NN t4 fun a137 =>
  ∃ r148 : Int, ∃ (r149 : Option Addr) (rL61 rC61 : Nat), cell h101 a137 = some (.int .i64 r148) ∧
  cell h101 (a137.add 1) = some (.slice r149 rL61 rC61) ∧
  NN t5 fun a138 =>
  ∃ r150 : Int, ∃ r151 : Int, ∃ (r152 : Option Addr) (rL62 rC62 : Nat), cell h101 a138 = some (.int .i64 r150) ∧
  cell h101 (a138.add 1) = some (.int .i64 r151) ∧
  cell h101 (a138.add 2) = some (.slice r152 rL62 rC62) ∧
  K (.tuple #[.agg #[.int .i64 r148, .slice r149 rL61 rC61], .agg #[.int .i64 r150, .int .i64 r151, .slice r152 rL62 rC62]]) h101) := by kernel_rfl
theorem r03_dict_call {s_0 : Int} {s_1 : Option Addr} {s_1L : Nat} {s_1C : Nat} {o_0 : Int} {o_1 : Option Addr} {o_1L : Nat} {o_1C : Nat} {h : Hp} {K : Value → Hp → Prop} (hk : r03_dict_b0 s_0 s_1 s_1L s_1C o_0 o_1 o_1L o_1C h K) : HCalls Try.prog 80 #[.agg #[.int .i64 s_0, .slice s_1 s_1L s_1C], .agg #[.int .i64 o_0, .slice o_1 o_1L o_1C]] h K :=
  calls_of_snd r03_dict_an Try.func80 (c := bodyOf Try.f80) rfl Try.ntmps80 (Nat.le_of_ble_eq_true rfl) (snd_4 F_ok F_mixed) hk


end Go.Proofs.Ytaemnjblcpknpaa
