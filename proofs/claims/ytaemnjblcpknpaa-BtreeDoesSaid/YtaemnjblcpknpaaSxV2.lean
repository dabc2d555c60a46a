/- Plain statements of what each block of code of this seat asks; printed by a program, checked by Lean. -/
import Derived.Test.YtaemnjblcpknpaaSxV0
set_option maxRecDepth 10000
namespace Go.Proofs.Ytaemnjblcpknpaa
open Go Go.Sx

/-! ### btree_Tree_Remove -/
def btree_Tree_Remove_an : Ann := .node none (.leaf) (.node (some [0, 1]) (.leaf) (.node none (.leaf) (.node none (.leaf) (.node none (.leaf) (.node none (.leaf) (.node (some [0, 6, 7, 11]) (.node none (.leaf) (.node none (.node (some [0, 6, 7, 9, 10, 11]) (.node none (.leaf) (.loop [0, 9, 10, 11] [(6, .slice), (7, .slice), (12, .ptr)] (.node (some [0, 6, 7, 9, 10, 11, 12]) (.node (some [0, 6, 7, 9, 10, 11, 12]) (.plan (.qu 0 (.qu 1 (.qu 4 (.qu 5 (.qu 6 (.qu 7 (.qu 8 (.qu 9 (.wo 2 (.wo 3 (.wo 10 (.wo 11 (.wo 12 (.wo 13 .fin .no) .no) .no) .no) (.wo 10 (.wo 3 (.wo 11 (.wo 12 (.wo 13 .fin .no) .no) .no) .no) .no)) (.wo 10 (.wo 2 (.wo 3 (.wo 11 (.wo 12 (.wo 13 .fin .no) .no) .no) .no) .no) .no))))))))))) (.leaf)) (.leaf)))) (.node none (.leaf) (.node none (.leaf) (.node none (.plan (.qu 0 (.qu 1 (.qu 2 (.qu 3 (.qu 4 (.qu 5 (.qu 6 (.qu 7 (.qu 8 (.qu 9 (.qu 10 (.qu 11 (.qu 12 (.qu 13 (.qu 14 (.qu 15 (.qu 16 (.qu 17 (.qu 18 (.qu 19 (.qu 20 (.qu 21 (.qu 22 (.qu 23 (.qu 24 (.wo 25 (.qu 26 (.wo 27 .fin .no)) .no))))))))))))))))))))))))))) (.leaf))))) (.leaf))) (.leaf)))))))
def btree_Tree_Remove_K0  (K : Value → Hp → Prop) : Exit → Env → Hp → Prop := retK Try.prog Try.f19.results.toList K
def btree_Tree_Remove_K1  (K : Value → Hp → Prop) : Exit → Env → Hp → Prop := thenE (fun env h => sx_2 Try.prog F 161 (cp [1, 1, 1, 1, 1, 1, 1] (bodyOf Try.f19)) (ap [1, 1, 1, 1, 1, 1, 1] btree_Tree_Remove_an) (rs [0, 6, 7, 11] env) h (btree_Tree_Remove_K0  K)) (btree_Tree_Remove_K0  K)
def btree_Tree_Remove_K2  (K : Value → Hp → Prop) : Exit → Env → Hp → Prop := thenE (fun env h => sx_2 Try.prog F 161 (cp [1, 1, 1, 1, 1, 1, 0, 1, 0, 1] (bodyOf Try.f19)) (ap [1, 1, 1, 1, 1, 1, 0, 1, 0, 1] btree_Tree_Remove_an) (rs [0, 6, 7, 9, 10, 11] env) h (btree_Tree_Remove_K1  K)) (btree_Tree_Remove_K1  K)
def btree_Tree_Remove_K3  (K : Value → Hp → Prop) : Exit → Env → Hp → Prop := blockE 0 (btree_Tree_Remove_K2  K)
def btree_Tree_Remove_K4 (nx0 : (Option Addr × Nat × Nat) × (Option Addr × Nat × Nat) × Option Addr × Unit → Hp → Prop) (K : Value → Hp → Prop) : Exit → Env → Hp → Prop := thenE (fun env h => getV [(6, .slice), (7, .slice), (12, .ptr)] env fun s => nx0 s h) (btree_Tree_Remove_K3  K)
def btree_Tree_Remove_K5 (nx0 : (Option Addr × Nat × Nat) × (Option Addr × Nat × Nat) × Option Addr × Unit → Hp → Prop) (K : Value → Hp → Prop) : Exit → Env → Hp → Prop := thenE (fun env h => sx_1 Try.prog F 161 (cp [1, 1, 1, 1, 1, 1, 0, 1, 0, 0, 1, 2, 2, 1] (bodyOf Try.f19)) (ap [1, 1, 1, 1, 1, 1, 0, 1, 0, 0, 1, 2, 1] btree_Tree_Remove_an) (rs [0, 6, 7, 9, 10, 11, 12] env) h (btree_Tree_Remove_K4 nx0 K)) (btree_Tree_Remove_K4 nx0 K)
def btree_Tree_Remove_K6 (nx0 : (Option Addr × Nat × Nat) × (Option Addr × Nat × Nat) × Option Addr × Unit → Hp → Prop) (K : Value → Hp → Prop) : Exit → Env → Hp → Prop := blockE 1 (btree_Tree_Remove_K5 nx0 K)
def btree_Tree_Remove_b0 (t : Option Addr) (key : Int) (h : Hp)  (K : Value → Hp → Prop) : Prop :=
  sx_4 Try.prog F 161 (cp [] (bodyOf Try.f19)) (ap [] btree_Tree_Remove_an) [(0, .pointer t), (1, .int .i64 key)] h (btree_Tree_Remove_K0  K)
def btree_Tree_Remove_b1 (t : Option Addr) (key : Int) (h : Hp)  (K : Value → Hp → Prop) : Prop :=
  sx_3 Try.prog F 161 (cp [1, 1] (bodyOf Try.f19)) (ap [1, 1] btree_Tree_Remove_an) [(0, .pointer t), (1, .int .i64 key)] h (btree_Tree_Remove_K0  K)
def btree_Tree_Remove_b2 (nodes : Option Addr) (nodesL : Nat) (nodesC : Nat) (atv : Option Addr) (atvL : Nat) (atvC : Nat) (x : Option Addr) (t : Option Addr) (nv : Option Addr) (i : Int) (value : Int) (h : Hp) (nx0 : (Option Addr × Nat × Nat) × (Option Addr × Nat × Nat) × Option Addr × Unit → Hp → Prop) (K : Value → Hp → Prop) : Prop :=
  sx_2 Try.prog F 161 (cp [1, 1, 1, 1, 1, 1, 0, 1, 0, 0, 1, 2, 2] (bodyOf Try.f19)) (ap [1, 1, 1, 1, 1, 1, 0, 1, 0, 0, 1, 2] btree_Tree_Remove_an) [(6, .slice nodes nodesL nodesC), (7, .slice atv atvL atvC), (12, .pointer x), (0, .pointer t), (9, .pointer nv), (10, .int .i64 i), (11, .int .i64 value)] h (btree_Tree_Remove_K4 nx0 K)
def btree_Tree_Remove_b3 (t : Option Addr) (nodes : Option Addr) (nodesL : Nat) (nodesC : Nat) (atv : Option Addr) (atvL : Nat) (atvC : Nat) (value : Int) (h : Hp)  (K : Value → Hp → Prop) : Prop :=
  sx_2 Try.prog F 161 (cp [1, 1, 1, 1, 1, 1, 1] (bodyOf Try.f19)) (ap [1, 1, 1, 1, 1, 1, 1] btree_Tree_Remove_an) [(0, .pointer t), (6, .slice nodes nodesL nodesC), (7, .slice atv atvL atvC), (11, .int .i64 value)] h (btree_Tree_Remove_K0  K)
def btree_Tree_Remove_b4 (t : Option Addr) (nodes : Option Addr) (nodesL : Nat) (nodesC : Nat) (atv : Option Addr) (atvL : Nat) (atvC : Nat) (nv : Option Addr) (i : Int) (value : Int) (x : Option Addr) (h : Hp) (nx0 : (Option Addr × Nat × Nat) × (Option Addr × Nat × Nat) × Option Addr × Unit → Hp → Prop) (K : Value → Hp → Prop) : Prop :=
  sx_1 Try.prog F 161 (cp [1, 1, 1, 1, 1, 1, 0, 1, 0, 0, 1, 2, 2, 0, 2, 1] (bodyOf Try.f19)) (ap [1, 1, 1, 1, 1, 1, 0, 1, 0, 0, 1, 2, 0, 1] btree_Tree_Remove_an) [(0, .pointer t), (6, .slice nodes nodesL nodesC), (7, .slice atv atvL atvC), (9, .pointer nv), (10, .int .i64 i), (11, .int .i64 value), (12, .pointer x)] h (btree_Tree_Remove_K6 nx0 K)
def btree_Tree_Remove_b5 (t : Option Addr) (nodes : Option Addr) (nodesL : Nat) (nodesC : Nat) (atv : Option Addr) (atvL : Nat) (atvC : Nat) (nv : Option Addr) (i : Int) (value : Int) (h : Hp)  (K : Value → Hp → Prop) : Prop :=
  sx_2 Try.prog F 161 (cp [1, 1, 1, 1, 1, 1, 0, 1, 0, 1] (bodyOf Try.f19)) (ap [1, 1, 1, 1, 1, 1, 0, 1, 0, 1] btree_Tree_Remove_an) [(0, .pointer t), (6, .slice nodes nodesL nodesC), (7, .slice atv atvL atvC), (9, .pointer nv), (10, .int .i64 i), (11, .int .i64 value)] h (btree_Tree_Remove_K1  K)
def btree_Tree_Remove_b6 (t : Option Addr) (nodes : Option Addr) (nodesL : Nat) (nodesC : Nat) (atv : Option Addr) (atvL : Nat) (atvC : Nat) (nv : Option Addr) (i : Int) (value : Int) (x : Option Addr) (h : Hp) (nx0 : (Option Addr × Nat × Nat) × (Option Addr × Nat × Nat) × Option Addr × Unit → Hp → Prop) (K : Value → Hp → Prop) : Prop :=
  sx_1 Try.prog F 161 (cp [1, 1, 1, 1, 1, 1, 0, 1, 0, 0, 1, 2, 2, 1] (bodyOf Try.f19)) (ap [1, 1, 1, 1, 1, 1, 0, 1, 0, 0, 1, 2, 1] btree_Tree_Remove_an) [(0, .pointer t), (6, .slice nodes nodesL nodesC), (7, .slice atv atvL atvC), (9, .pointer nv), (10, .int .i64 i), (11, .int .i64 value), (12, .pointer x)] h (btree_Tree_Remove_K4 nx0 K)
theorem btree_Tree_Remove_b0_eq (t : Option Addr) (key : Int) (h : Hp)  (K : Value → Hp → Prop) : btree_Tree_Remove_b0 t key h  K = (
  cond t.isNone
  (K (.tuple #[.int .i64 0, .int .i64 1]) h)
  (New h (.cells #[.int .i64 key] 3) fun b1 h1 =>
  HCalls Try.prog 33 #[.slice (some ⟨b1, 0, none⟩) 1 1] h1 fun v1 h2 => ∃ r1 : Bool, v1 = .bool r1 ∧
  cond (!r1)
  (K (.tuple #[.int .i64 0, .int .i64 1]) h2)
  (btree_Tree_Remove_b1 t key h2  K))) := by kernel_rfl
theorem btree_Tree_Remove_b1_eq (t : Option Addr) (key : Int) (h : Hp)  (K : Value → Hp → Prop) : btree_Tree_Remove_b1 t key h  K = (
  HCalls Try.prog 41 #[.pointer t, .int .i64 key] h fun v2 h3 => ∃ (r2 : Option Addr) (rL1 rC1 : Nat), ∃ (r3 : Option Addr) (rL2 rC2 : Nat), ∃ r4 : Bool, v2 = .tuple #[.slice r2 rL1 rC1, .slice r3 rL2 rC2, .bool r4] ∧
  cond (!r4)
  (NN t fun a1 =>
  ∃ n1 : Int, cell h3 (a1.add 3) = some (.int .i64 n1) ∧
  InR (n1 + (rL1 : Int)) ∧
  NN t fun a2 =>
  Wr h3 (a2.add 3) (.int .i64 (n1 + (rL1 : Int))) fun h4 =>
  K (.tuple #[.int .i64 0, .int .i64 12]) h4)
  (InR ((rL1 : Int) - 1) ∧
  (0 ≤ (rL1 : Int) - 1 ∧ (rL1 : Int) - 1 < (rL1 : Int)) ∧
  NN r2 fun a3 =>
  ∃ p1 : Option Addr, cell h3 (a3.add (Int.toNat ((rL1 : Int) - 1) * 1)) = some (.pointer p1) ∧
  InR ((rL2 : Int) - 1) ∧
  (0 ≤ (rL2 : Int) - 1 ∧ (rL2 : Int) - 1 < (rL2 : Int)) ∧
  NN r3 fun a4 =>
  ∃ n2 : Int, cell h3 (a4.add (Int.toNat ((rL2 : Int) - 1) * 1)) = some (.int .i64 n2) ∧
  NN p1 fun a5 =>
  ∃ (a6 : Option Addr) (L1 C1 : Nat), cell h3 (a5.add 1) = some (.slice a6 L1 C1) ∧
  (0 ≤ n2 ∧ n2 < (L1 : Int)) ∧
  NN a6 fun a7 =>
  ∃ n3 : Int, cell h3 (a7.add (Int.toNat n2 * 1)) = some (.int .i64 n3) ∧
  HCalls Try.prog 42 #[.pointer p1] h3 fun v3 h5 => ∃ r5 : Bool, v3 = .bool r5 ∧
  cond (!r5)
  (NN p1 fun a8 =>
  ∃ (a9 : Option Addr) (L2 C2 : Nat), cell h5 (a8.add 2) = some (.slice a9 L2 C2) ∧
  (0 ≤ n2 ∧ n2 < (L2 : Int)) ∧
  NN a9 fun a10 =>
  ∃ p2 : Option Addr, cell h5 (a10.add (Int.toNat n2 * 1)) = some (.pointer p2) ∧
  LoopVC (((r2, rL1, rC1), (r3, rL2, rC2), p2, ()) : (Option Addr × Nat × Nat) × (Option Addr × Nat × Nat) × Option Addr × Unit) h5 (fun (nx0 : (Option Addr × Nat × Nat) × (Option Addr × Nat × Nat) × Option Addr × Unit → Hp → Prop) (s1 : (Option Addr × Nat × Nat) × (Option Addr × Nat × Nat) × Option Addr × Unit) h6 => btree_Tree_Remove_b2 s1.1.1 s1.1.2.1 s1.1.2.2 s1.2.1.1 s1.2.1.2.1 s1.2.1.2.2 s1.2.2.1 t p1 n2 n3 h6 nx0 K))
  (btree_Tree_Remove_b3 t r2 rL1 rC1 r3 rL2 rC2 n3 h5  K))) := by kernel_rfl
theorem btree_Tree_Remove_b2_eq (nodes : Option Addr) (nodesL : Nat) (nodesC : Nat) (atv : Option Addr) (atvL : Nat) (atvC : Nat) (x : Option Addr) (t : Option Addr) (nv : Option Addr) (i : Int) (value : Int) (h : Hp) (nx0 : (Option Addr × Nat × Nat) × (Option Addr × Nat × Nat) × Option Addr × Unit → Hp → Prop) (K : Value → Hp → Prop) : btree_Tree_Remove_b2 nodes nodesL nodesC atv atvL atvC x t nv i value h nx0 K = (
  NN x fun a11 =>
  ∃ (a12 : Option Addr) (L3 C3 : Nat), cell h a11 = some (.slice a12 L3 C3) ∧
  (New h (.cells #[.pointer x] 73) fun b2 h7 =>
  (∃ (a13 : Option Addr) (L4 C4 : Nat), cell h7 a11 = some (.slice a13 L4 C4) ∧
  (.slice a13 L4 C4 : Value) = .slice a12 L3 C3) ∧
  (appendV Try.prog 86 86 (.slice nodes nodesL nodesC) (.slice (some ⟨b2, 0, none⟩) 1 1) h7 (slK fun a14 l1 c1 h8 =>
  (∃ (a15 : Option Addr) (L5 C5 : Nat), cell h8 a11 = some (.slice a15 L5 C5) ∧
  (.slice a15 L5 C5 : Value) = .slice a12 L3 C3) ∧
  New h8 (.cells #[.int .i64 (L3 : Int)] 3) fun b3 h9 =>
  appendV Try.prog 38 38 (.slice atv atvL atvC) (.slice (some ⟨b3, 0, none⟩) 1 1) h9 (slK fun a16 l2 c2 h10 =>
  btree_Tree_Remove_b4 t a14 l1 c1 a16 l2 c2 nv i value x h10 nx0 K))) ∧
  (New h7 (.cells #[.int .i64 (L3 : Int)] 3) fun b4 h11 =>
  appendV Try.prog 86 86 (.slice nodes nodesL nodesC) (.slice (some ⟨b2, 0, none⟩) 1 1) h11 (slK fun a17 l3 c3 h12 =>
  appendV Try.prog 38 38 (.slice atv atvL atvC) (.slice (some ⟨b4, 0, none⟩) 1 1) h12 (slK fun a18 l4 c4 h13 =>
  btree_Tree_Remove_b4 t a17 l3 c3 a18 l4 c4 nv i value x h13 nx0 K)))) ∧
  (New h (.cells #[.int .i64 (L3 : Int)] 3) fun b5 h14 =>
  New h14 (.cells #[.pointer x] 73) fun b6 h15 =>
  appendV Try.prog 86 86 (.slice nodes nodesL nodesC) (.slice (some ⟨b6, 0, none⟩) 1 1) h15 (slK fun a19 l5 c5 h16 =>
  appendV Try.prog 38 38 (.slice atv atvL atvC) (.slice (some ⟨b5, 0, none⟩) 1 1) h16 (slK fun a20 l6 c6 h17 =>
  btree_Tree_Remove_b4 t a19 l5 c5 a20 l6 c6 nv i value x h17 nx0 K)))) := by kernel_rfl
theorem btree_Tree_Remove_b3_eq (t : Option Addr) (nodes : Option Addr) (nodesL : Nat) (nodesC : Nat) (atv : Option Addr) (atvL : Nat) (atvC : Nat) (value : Int) (h : Hp)  (K : Value → Hp → Prop) : btree_Tree_Remove_b3 t nodes nodesL nodesC atv atvL atvC value h  K = (
  NN t fun a21 =>
  ∃ n4 : Int, cell h (a21.add 3) = some (.int .i64 n4) ∧
  InR (n4 + (nodesL : Int)) ∧
  NN t fun a22 =>
  Wr h (a22.add 3) (.int .i64 (n4 + (nodesL : Int))) fun h18 =>
  NN t fun a23 =>
  ∃ n5 : Int, cell h18 (a23.add 1) = some (.int .i64 n5) ∧
  InR (n5 - 1) ∧
  NN t fun a24 =>
  Wr h18 (a24.add 1) (.int .i64 (n5 - 1)) fun h19 =>
  HCalls Try.prog 43 #[.pointer t, .slice nodes nodesL nodesC, .slice atv atvL atvC] h19 fun v4 h20 => v4 = .tuple #[] ∧
  K (.tuple #[.int .i64 value, .int .i64 0]) h20) := by kernel_rfl
theorem btree_Tree_Remove_b4_eq (t : Option Addr) (nodes : Option Addr) (nodesL : Nat) (nodesC : Nat) (atv : Option Addr) (atvL : Nat) (atvC : Nat) (nv : Option Addr) (i : Int) (value : Int) (x : Option Addr) (h : Hp) (nx0 : (Option Addr × Nat × Nat) × (Option Addr × Nat × Nat) × Option Addr × Unit → Hp → Prop) (K : Value → Hp → Prop) : btree_Tree_Remove_b4 t nodes nodesL nodesC atv atvL atvC nv i value x h nx0 K = (
  HCalls Try.prog 42 #[.pointer x] h fun v5 h21 => ∃ r6 : Bool, v5 = .bool r6 ∧
  cond r6
  (btree_Tree_Remove_b5 t nodes nodesL nodesC atv atvL atvC nv i value h21  K)
  (btree_Tree_Remove_b6 t nodes nodesL nodesC atv atvL atvC nv i value x h21 nx0 K)) := by kernel_rfl
theorem btree_Tree_Remove_b5_eq (t : Option Addr) (nodes : Option Addr) (nodesL : Nat) (nodesC : Nat) (atv : Option Addr) (atvL : Nat) (atvC : Nat) (nv : Option Addr) (i : Int) (value : Int) (h : Hp)  (K : Value → Hp → Prop) : btree_Tree_Remove_b5 t nodes nodesL nodesC atv atvL atvC nv i value h  K = (
  InR ((nodesL : Int) - 1) ∧
  (0 ≤ (nodesL : Int) - 1 ∧ (nodesL : Int) - 1 < (nodesL : Int)) ∧
  NN nodes fun a25 =>
  ∃ p3 : Option Addr, cell h (a25.add (Int.toNat ((nodesL : Int) - 1) * 1)) = some (.pointer p3) ∧
  NN p3 fun a26 =>
  ∃ (a27 : Option Addr) (L6 C6 : Nat), cell h a26 = some (.slice a27 L6 C6) ∧
  InR ((L6 : Int) - 1) ∧
  NN nv fun a28 =>
  ∃ (a29 : Option Addr) (L7 C7 : Nat), cell h a28 = some (.slice a29 L7 C7) ∧
  NN nv fun a30 =>
  ∃ (a31 : Option Addr) (L8 C8 : Nat), cell h (a30.add 1) = some (.slice a31 L8 C8) ∧
  NN p3 fun a32 =>
  ∃ (a33 : Option Addr) (L9 C9 : Nat), cell h a32 = some (.slice a33 L9 C9) ∧
  (0 ≤ (L6 : Int) - 1 ∧ (L6 : Int) - 1 < (L9 : Int)) ∧
  NN a33 fun a34 =>
  ∃ n6 : Int, cell h (a34.add (Int.toNat ((L6 : Int) - 1) * 1)) = some (.int .i64 n6) ∧
  NN p3 fun a35 =>
  ∃ (a36 : Option Addr) (L10 C10 : Nat), cell h (a35.add 1) = some (.slice a36 L10 C10) ∧
  (0 ≤ (L6 : Int) - 1 ∧ (L6 : Int) - 1 < (L10 : Int)) ∧
  NN a36 fun a37 =>
  ∃ n7 : Int, cell h (a37.add (Int.toNat ((L6 : Int) - 1) * 1)) = some (.int .i64 n7) ∧
  (0 ≤ i ∧ i < (L7 : Int)) ∧
  NN a29 fun a38 =>
  Wr h (a38.add (Int.toNat i * 1)) (.int .i64 n6) fun h22 =>
  (0 ≤ i ∧ i < (L8 : Int)) ∧
  NN a31 fun a39 =>
  Wr h22 (a39.add (Int.toNat i * 1)) (.int .i64 n7) fun h23 =>
  InR ((atvL : Int) - 1) ∧
  (0 ≤ (atvL : Int) - 1 ∧ (atvL : Int) - 1 < (atvL : Int)) ∧
  NN atv fun a40 =>
  Wr h23 (a40.add (Int.toNat ((atvL : Int) - 1) * 1)) (.int .i64 ((L6 : Int) - 1)) fun h24 =>
  btree_Tree_Remove_b3 t nodes nodesL nodesC atv atvL atvC value h24  K) := by kernel_rfl
theorem btree_Tree_Remove_b6_eq (t : Option Addr) (nodes : Option Addr) (nodesL : Nat) (nodesC : Nat) (atv : Option Addr) (atvL : Nat) (atvC : Nat) (nv : Option Addr) (i : Int) (value : Int) (x : Option Addr) (h : Hp) (nx0 : (Option Addr × Nat × Nat) × (Option Addr × Nat × Nat) × Option Addr × Unit → Hp → Prop) (K : Value → Hp → Prop) : btree_Tree_Remove_b6 t nodes nodesL nodesC atv atvL atvC nv i value x h nx0 K = (
  NN x fun a41 =>
  ∃ (a42 : Option Addr) (L11 C11 : Nat), cell h (a41.add 2) = some (.slice a42 L11 C11) ∧
  NN x fun a43 =>
  ∃ (a44 : Option Addr) (L12 C12 : Nat), cell h (a43.add 2) = some (.slice a44 L12 C12) ∧
  InR ((L12 : Int) - 1) ∧
  (0 ≤ (L12 : Int) - 1 ∧ (L12 : Int) - 1 < (L11 : Int)) ∧
  NN a42 fun a45 =>
  ∃ p4 : Option Addr, cell h (a45.add (Int.toNat ((L12 : Int) - 1) * 1)) = some (.pointer p4) ∧
  nx0 ((nodes, nodesL, nodesC), (atv, atvL, atvC), p4, ()) h) := by kernel_rfl
theorem btree_Tree_Remove_call {t : Option Addr} {key : Int} {h : Hp} {K : Value → Hp → Prop} (hk : btree_Tree_Remove_b0 t key h K) : HCalls Try.prog 19 #[.pointer t, .int .i64 key] h K :=
  calls_of_snd btree_Tree_Remove_an Try.func19 (c := bodyOf Try.f19) rfl Try.ntmps19 (Nat.le_of_ble_eq_true rfl) (snd_4 F_ok F_mixed) hk

/-! ### btree_Tree_Height -/
def btree_Tree_Height_an : Ann := .leaf
def btree_Tree_Height_K0  (K : Value → Hp → Prop) : Exit → Env → Hp → Prop := retK Try.prog Try.f20.results.toList K
def btree_Tree_Height_b0 (t : Option Addr) (h : Hp)  (K : Value → Hp → Prop) : Prop :=
  sx_1 Try.prog F 6 (cp [] (bodyOf Try.f20)) (ap [] btree_Tree_Height_an) [(0, .pointer t)] h (btree_Tree_Height_K0  K)
theorem btree_Tree_Height_b0_eq (t : Option Addr) (h : Hp)  (K : Value → Hp → Prop) : btree_Tree_Height_b0 t h  K = (
  HCalls Try.prog 16 #[.pointer t] h fun v1 h1 => ∃ (r1 : Option Addr) (rL1 rC1 : Nat), v1 = .slice r1 rL1 rC1 ∧
  K (.int .i64 (rL1 : Int)) h1) := by kernel_rfl
theorem btree_Tree_Height_call {t : Option Addr} {h : Hp} {K : Value → Hp → Prop} (hk : btree_Tree_Height_b0 t h K) : HCalls Try.prog 20 #[.pointer t] h K :=
  calls_of_snd btree_Tree_Height_an Try.func20 (c := bodyOf Try.f20) rfl Try.ntmps20 (Nat.le_of_ble_eq_true rfl) (snd_1 F_ok F_mixed) hk

/-! ### l43_few -/
def l43_few_an : Ann := .leaf
def l43_few_K0  (K : Value → Hp → Prop) : Exit → Env → Hp → Prop := retK Try.prog Try.f21.results.toList K
def l43_few_b0 (l : Option Addr) (lL : Nat) (lC : Nat) (h : Hp)  (K : Value → Hp → Prop) : Prop :=
  sx_1 Try.prog F 6 (cp [] (bodyOf Try.f21)) (ap [] l43_few_an) [(0, .slice l lL lC)] h (l43_few_K0  K)
theorem l43_few_b0_eq (l : Option Addr) (lL : Nat) (lC : Nat) (h : Hp)  (K : Value → Hp → Prop) : l43_few_b0 l lL lC h  K = (
  K (.bool (decide ((lL : Int) ≤ 60))) h) := by kernel_rfl
theorem l43_few_call {l : Option Addr} {lL : Nat} {lC : Nat} {h : Hp} {K : Value → Hp → Prop} (hk : l43_few_b0 l lL lC h K) : HCalls Try.prog 21 #[.slice l lL lC] h K :=
  calls_of_snd l43_few_an Try.func21 (c := bodyOf Try.f21) rfl Try.ntmps21 (Nat.le_of_ble_eq_true rfl) (snd_1 F_ok F_mixed) hk

/-! ### l43_do -/
def l43_do_an : Ann := .node none (.leaf) (.node (some [0, 1]) (.leaf) (.leaf))
def l43_do_K0  (K : Value → Hp → Prop) : Exit → Env → Hp → Prop := retK Try.prog Try.f22.results.toList K
def l43_do_b0 (t : Option Addr) (l : Option Addr) (lL : Nat) (lC : Nat) (s_0 : Int) (s_1 : Int) (s_2 : Int) (h : Hp)  (K : Value → Hp → Prop) : Prop :=
  sx_2 Try.prog F 219 (cp [] (bodyOf Try.f22)) (ap [] l43_do_an) [(0, .pointer t), (1, .slice l lL lC), (2, .agg #[.int .i64 s_0, .int .i64 s_1, .int .i64 s_2])] h (l43_do_K0  K)
def l43_do_b1 (t : Option Addr) (l : Option Addr) (lL : Nat) (lC : Nat) (h : Hp)  (K : Value → Hp → Prop) : Prop :=
  sx_1 Try.prog F 219 (cp [1, 1] (bodyOf Try.f22)) (ap [1, 1] l43_do_an) [(0, .pointer t), (1, .slice l lL lC)] h (l43_do_K0  K)
theorem l43_do_b0_eq (t : Option Addr) (l : Option Addr) (lL : Nat) (lC : Nat) (s_0 : Int) (s_1 : Int) (s_2 : Int) (h : Hp)  (K : Value → Hp → Prop) : l43_do_b0 t l lL lC s_0 s_1 s_2 h  K = (
  New h (.cells #[.int .i64 s_0, .int .i64 s_1, .int .i64 s_2] 51) fun b1 h1 =>
  ∃ n1 : Int, cell h1 ⟨b1, 0, none⟩ = some (.int .i64 n1) ∧
  cond (decide (n1 = 0))
  (∃ n2 : Int, cell h1 ((⟨b1, 0, none⟩ : Addr).add 1) = some (.int .i64 n2) ∧
  ∃ n3 : Int, cell h1 ((⟨b1, 0, none⟩ : Addr).add 2) = some (.int .i64 n3) ∧
  HCalls Try.prog 44 #[.slice l lL lC, .int .i64 n2, .int .i64 n3] h1 fun v1 h2 => ∃ (r1 : Option Addr) (rL1 rC1 : Nat), ∃ r2 : Int, ∃ r3 : Bool, ∃ r4 : Int, v1 = .tuple #[.slice r1 rL1 rC1, .int .i64 r2, .bool r3, .int .i64 r4] ∧
  ∃ n4 : Int, cell h2 ((⟨b1, 0, none⟩ : Addr).add 1) = some (.int .i64 n4) ∧
  ∃ n5 : Int, cell h2 ((⟨b1, 0, none⟩ : Addr).add 2) = some (.int .i64 n5) ∧
  HCalls Try.prog 10 #[.pointer t, .int .i64 n4, .int .i64 n5] h2 fun v2 h3 => ∃ r5 : Int, ∃ r6 : Bool, ∃ r7 : Int, v2 = .tuple #[.int .i64 r5, .bool r6, .int .i64 r7] ∧
  cond (decide (r5 = r2))
  (cond (r6 == r3)
  (K (.tuple #[.slice r1 rL1 rC1, .bool (decide (r7 = r4))]) h3)
  (K (.tuple #[.slice r1 rL1 rC1, .bool false]) h3))
  (K (.tuple #[.slice r1 rL1 rC1, .bool false]) h3))
  (cond (decide (n1 = 1))
  (∃ n6 : Int, cell h1 ((⟨b1, 0, none⟩ : Addr).add 1) = some (.int .i64 n6) ∧
  HCalls Try.prog 45 #[.slice l lL lC, .int .i64 n6] h1 fun v3 h4 => ∃ r8 : Int, ∃ r9 : Int, v3 = .tuple #[.int .i64 r8, .int .i64 r9] ∧
  ∃ n7 : Int, cell h4 ((⟨b1, 0, none⟩ : Addr).add 1) = some (.int .i64 n7) ∧
  HCalls Try.prog 29 #[.pointer t, .int .i64 n7] h4 fun v4 h5 => ∃ r10 : Int, ∃ r11 : Int, v4 = .tuple #[.int .i64 r10, .int .i64 r11] ∧
  cond (decide (r10 = r8))
  (K (.tuple #[.slice l lL lC, .bool (decide (r11 = r9))]) h5)
  (K (.tuple #[.slice l lL lC, .bool false]) h5))
  (cond (decide (n1 = 2))
  (∃ n8 : Int, cell h1 ((⟨b1, 0, none⟩ : Addr).add 1) = some (.int .i64 n8) ∧
  HCalls Try.prog 46 #[.slice l lL lC, .int .i64 n8] h1 fun v5 h6 => ∃ (r12 : Option Addr) (rL2 rC2 : Nat), ∃ r13 : Int, ∃ r14 : Int, v5 = .tuple #[.slice r12 rL2 rC2, .int .i64 r13, .int .i64 r14] ∧
  ∃ n9 : Int, cell h6 ((⟨b1, 0, none⟩ : Addr).add 1) = some (.int .i64 n9) ∧
  HCalls Try.prog 19 #[.pointer t, .int .i64 n9] h6 fun v6 h7 => ∃ r15 : Int, ∃ r16 : Int, v6 = .tuple #[.int .i64 r15, .int .i64 r16] ∧
  cond (decide (r15 = r13))
  (K (.tuple #[.slice r12 rL2 rC2, .bool (decide (r16 = r14))]) h7)
  (K (.tuple #[.slice r12 rL2 rC2, .bool false]) h7))
  (cond (decide (n1 = 3))
  (∃ n10 : Int, cell h1 ((⟨b1, 0, none⟩ : Addr).add 1) = some (.int .i64 n10) ∧
  HCalls Try.prog 47 #[.slice l lL lC, .int .i64 n10] h1 fun v7 h8 => ∃ r17 : Int, ∃ r18 : Int, ∃ r19 : Int, v7 = .tuple #[.agg #[.int .i64 r17, .int .i64 r18], .int .i64 r19] ∧
  New h8 (.cells #[.int .i64 0, .int .i64 0] 40) fun b2 h9 =>
  Wr h9 ⟨b2, 0, none⟩ (.int .i64 r17) fun h10 =>
  Wr h10 ((⟨b2, 0, none⟩ : Addr).add 1) (.int .i64 r18) fun h11 =>
  ∃ n11 : Int, cell h11 ((⟨b1, 0, none⟩ : Addr).add 1) = some (.int .i64 n11) ∧
  HCalls Try.prog 30 #[.pointer t, .int .i64 n11] h11 fun v8 h12 => ∃ r20 : Int, ∃ r21 : Int, ∃ r22 : Int, v8 = .tuple #[.int .i64 r20, .int .i64 r21, .int .i64 r22] ∧
  ∃ n12 : Int, ∃ n13 : Int, cell h12 ⟨b2, 0, none⟩ = some (.int .i64 n12) ∧
  cell h12 ((⟨b2, 0, none⟩ : Addr).add 1) = some (.int .i64 n13) ∧
  ∃ b3 : Bool, eqC Try.prog .eql 40 (.tmp 148) (.tmp 149) (.agg #[.int .i64 r20, .int .i64 r21]) (.agg #[.int .i64 n12, .int .i64 n13]) h12 b3 ∧
  cond b3
  (K (.tuple #[.slice l lL lC, .bool (decide (r22 = r19))]) h12)
  (K (.tuple #[.slice l lL lC, .bool false]) h12))
  (cond (decide (n1 = 4))
  (∃ n14 : Int, cell h1 ((⟨b1, 0, none⟩ : Addr).add 1) = some (.int .i64 n14) ∧
  HCalls Try.prog 48 #[.slice l lL lC, .int .i64 n14] h1 fun v9 h13 => ∃ r23 : Int, ∃ r24 : Int, ∃ r25 : Int, v9 = .tuple #[.agg #[.int .i64 r23, .int .i64 r24], .int .i64 r25] ∧
  New h13 (.cells #[.int .i64 0, .int .i64 0] 40) fun b4 h14 =>
  Wr h14 ⟨b4, 0, none⟩ (.int .i64 r23) fun h15 =>
  Wr h15 ((⟨b4, 0, none⟩ : Addr).add 1) (.int .i64 r24) fun h16 =>
  ∃ n15 : Int, cell h16 ((⟨b1, 0, none⟩ : Addr).add 1) = some (.int .i64 n15) ∧
  HCalls Try.prog 31 #[.pointer t, .int .i64 n15] h16 fun v10 h17 => ∃ r26 : Int, ∃ r27 : Int, ∃ r28 : Int, v10 = .tuple #[.int .i64 r26, .int .i64 r27, .int .i64 r28] ∧
  ∃ n16 : Int, ∃ n17 : Int, cell h17 ⟨b4, 0, none⟩ = some (.int .i64 n16) ∧
  cell h17 ((⟨b4, 0, none⟩ : Addr).add 1) = some (.int .i64 n17) ∧
  ∃ b5 : Bool, eqC Try.prog .eql 40 (.tmp 176) (.tmp 177) (.agg #[.int .i64 r26, .int .i64 r27]) (.agg #[.int .i64 n16, .int .i64 n17]) h17 b5 ∧
  cond b5
  (K (.tuple #[.slice l lL lC, .bool (decide (r28 = r25))]) h17)
  (K (.tuple #[.slice l lL lC, .bool false]) h17))
  (cond (decide (n1 = 5))
  (∃ n18 : Int, cell h1 ((⟨b1, 0, none⟩ : Addr).add 1) = some (.int .i64 n18) ∧
  ∃ n19 : Int, cell h1 ((⟨b1, 0, none⟩ : Addr).add 2) = some (.int .i64 n19) ∧
  HCalls Try.prog 49 #[.slice l lL lC, .int .i64 n18, .int .i64 n19] h1 fun v11 h18 => ∃ (r29 : Option Addr) (rL3 rC3 : Nat), ∃ r30 : Int, v11 = .tuple #[.slice r29 rL3 rC3, .int .i64 r30] ∧
  ∃ n20 : Int, cell h18 ((⟨b1, 0, none⟩ : Addr).add 1) = some (.int .i64 n20) ∧
  ∃ n21 : Int, cell h18 ((⟨b1, 0, none⟩ : Addr).add 2) = some (.int .i64 n21) ∧
  HCalls Try.prog 14 #[.pointer t, .int .i64 n20, .int .i64 n21] h18 fun v12 h19 => ∃ (r31 : Option Addr) (rL4 rC4 : Nat), ∃ r32 : Int, v12 = .tuple #[.slice r31 rL4 rC4, .int .i64 r32] ∧
  HCalls Try.prog 18 #[.slice r29 rL3 rC3, .slice r31 rL4 rC4] h19 fun v13 h20 => ∃ r33 : Bool, v13 = .bool r33 ∧
  cond r33
  (K (.tuple #[.slice l lL lC, .bool (decide (r32 = r30))]) h20)
  (K (.tuple #[.slice l lL lC, .bool false]) h20))
  (l43_do_b1 t l lL lC h1  K))))))) := by kernel_rfl
theorem l43_do_b1_eq (t : Option Addr) (l : Option Addr) (lL : Nat) (lC : Nat) (h : Hp)  (K : Value → Hp → Prop) : l43_do_b1 t l lL lC h  K = (
  HCalls Try.prog 13 #[.pointer t] h fun v14 h21 => ∃ r34 : Int, v14 = .int .i64 r34 ∧
  K (.tuple #[.slice l lL lC, .bool (decide (r34 = (lL : Int)))]) h21) := by kernel_rfl
theorem l43_do_call {t : Option Addr} {l : Option Addr} {lL : Nat} {lC : Nat} {s_0 : Int} {s_1 : Int} {s_2 : Int} {h : Hp} {K : Value → Hp → Prop} (hk : l43_do_b0 t l lL lC s_0 s_1 s_2 h K) : HCalls Try.prog 22 #[.pointer t, .slice l lL lC, .agg #[.int .i64 s_0, .int .i64 s_1, .int .i64 s_2]] h K :=
  calls_of_snd l43_do_an Try.func22 (c := bodyOf Try.f22) rfl Try.ntmps22 (Nat.le_of_ble_eq_true rfl) (snd_2 F_ok F_mixed) hk

/-! ### slices_ContainsFunc_Sapi_Op_api_Op -/
def slices_ContainsFunc_Sapi_Op_api_Op_an : Ann := .leaf
def slices_ContainsFunc_Sapi_Op_api_Op_K0  (K : Value → Hp → Prop) : Exit → Env → Hp → Prop := retK Try.prog Try.f23.results.toList K
def slices_ContainsFunc_Sapi_Op_api_Op_b0 (s : Option Addr) (sL : Nat) (sC : Nat) (f : Value) (h : Hp)  (K : Value → Hp → Prop) : Prop :=
  sx_1 Try.prog F 9 (cp [] (bodyOf Try.f23)) (ap [] slices_ContainsFunc_Sapi_Op_api_Op_an) [(0, .slice s sL sC), (1, f)] h (slices_ContainsFunc_Sapi_Op_api_Op_K0  K)
theorem slices_ContainsFunc_Sapi_Op_api_Op_b0_eq (s : Option Addr) (sL : Nat) (sC : Nat) (f : Value) (h : Hp)  (K : Value → Hp → Prop) : slices_ContainsFunc_Sapi_Op_api_Op_b0 s sL sC f h  K = (
  HCalls Try.prog 50 #[.slice s sL sC, f] h fun v1 h1 => ∃ r1 : Int, v1 = .int .i64 r1 ∧
  K (.bool (decide ((0 : Int) ≤ r1))) h1) := by kernel_rfl
theorem slices_ContainsFunc_Sapi_Op_api_Op_call {s : Option Addr} {sL : Nat} {sC : Nat} {f : Value} {h : Hp} {K : Value → Hp → Prop} (hk : slices_ContainsFunc_Sapi_Op_api_Op_b0 s sL sC f h K) : HCalls Try.prog 23 #[.slice s sL sC, f] h K :=
  calls_of_snd slices_ContainsFunc_Sapi_Op_api_Op_an Try.func23 (c := bodyOf Try.f23) rfl Try.ntmps23 (Nat.le_of_ble_eq_true rfl) (snd_1 F_ok F_mixed) hk

/-! ### l43_BtreeDoes_c1 -/
def l43_BtreeDoes_c1_an : Ann := .leaf
def l43_BtreeDoes_c1_K0  (K : Value → Hp → Prop) : Exit → Env → Hp → Prop := retK Try.prog Try.f24.results.toList K
def l43_BtreeDoes_c1_b0 (o_0 : Int) (o_1 : Option Addr) (o_1L : Nat) (o_1C : Nat) (h : Hp)  (K : Value → Hp → Prop) : Prop :=
  sx_1 Try.prog F 7 (cp [] (bodyOf Try.f24)) (ap [] l43_BtreeDoes_c1_an) [(0, .agg #[.int .i64 o_0, .slice o_1 o_1L o_1C])] h (l43_BtreeDoes_c1_K0  K)
theorem l43_BtreeDoes_c1_b0_eq (o_0 : Int) (o_1 : Option Addr) (o_1L : Nat) (o_1C : Nat) (h : Hp)  (K : Value → Hp → Prop) : l43_BtreeDoes_c1_b0 o_0 o_1 o_1L o_1C h  K = (
  New h (.cells #[.int .i64 o_0, .slice o_1 o_1L o_1C] 58) fun b1 h1 =>
  ∃ (a1 : Option Addr) (L1 C1 : Nat), cell h1 ((⟨b1, 0, none⟩ : Addr).add 1) = some (.slice a1 L1 C1) ∧
  K (.bool (decide ((70 : Int) < (L1 : Int)))) h1) := by kernel_rfl
theorem l43_BtreeDoes_c1_call {o_0 : Int} {o_1 : Option Addr} {o_1L : Nat} {o_1C : Nat} {h : Hp} {K : Value → Hp → Prop} (hk : l43_BtreeDoes_c1_b0 o_0 o_1 o_1L o_1C h K) : HCalls Try.prog 24 #[.agg #[.int .i64 o_0, .slice o_1 o_1L o_1C]] h K :=
  calls_of_snd l43_BtreeDoes_c1_an Try.func24 (c := bodyOf Try.f24) rfl Try.ntmps24 (Nat.le_of_ble_eq_true rfl) (snd_1 F_ok F_mixed) hk

/-! ### btree_Tree_Do -/
def btree_Tree_Do_an : Ann := .node none (.leaf) (.node (some [0, 3, 4]) (.leaf) (.node none (.leaf) (.node (some [4, 6, 7]) (.node none (.leaf) (.node none (.leaf) (.node none (.node none (.plan (.qu 0 (.qu 1 (.qu 2 (.qu 3 (.qu 4 (.qu 5 (.qu 6 (.qu 7 (.qu 8 (.wo 9 (.qu 10 (.qu 11 (.qu 12 (.qu 13 (.wo 14 (.wo 15 (.wo 16 .fin .no) .no) .no))))) .no))))))))))) (.leaf)) (.leaf)))) (.leaf))))
def btree_Tree_Do_K0  (K : Value → Hp → Prop) : Exit → Env → Hp → Prop := retK Try.prog Try.f25.results.toList K
def btree_Tree_Do_b0 (t : Option Addr) (o_0 : Int) (o_1 : Option Addr) (o_1L : Nat) (o_1C : Nat) (h : Hp)  (K : Value → Hp → Prop) : Prop :=
  sx_3 Try.prog F 113 (cp [] (bodyOf Try.f25)) (ap [] btree_Tree_Do_an) [(0, .pointer t), (1, .agg #[.int .i64 o_0, .slice o_1 o_1L o_1C])] h (btree_Tree_Do_K0  K)
def btree_Tree_Do_b1 (t : Option Addr) (o : Option Addr) (t4 : Option Addr) (h : Hp)  (K : Value → Hp → Prop) : Prop :=
  sx_2 Try.prog F 113 (cp [1, 1] (bodyOf Try.f25)) (ap [1, 1] btree_Tree_Do_an) [(0, .pointer t), (3, .pointer o), (4, .pointer t4)] h (btree_Tree_Do_K0  K)
def btree_Tree_Do_b2 (t4 : Option Addr) (nv : Option Addr) (e : Int) (h : Hp)  (K : Value → Hp → Prop) : Prop :=
  sx_1 Try.prog F 113 (cp [1, 1, 1, 1] (bodyOf Try.f25)) (ap [1, 1, 1, 1] btree_Tree_Do_an) [(4, .pointer t4), (6, .pointer nv), (7, .int .i64 e)] h (btree_Tree_Do_K0  K)
theorem btree_Tree_Do_b0_eq (t : Option Addr) (o_0 : Int) (o_1 : Option Addr) (o_1L : Nat) (o_1C : Nat) (h : Hp)  (K : Value → Hp → Prop) : btree_Tree_Do_b0 t o_0 o_1 o_1L o_1C h  K = (
  New h (.cells #[.int .i64 o_0, .slice o_1 o_1L o_1C] 58) fun b1 h1 =>
  New h1 (.cells #[.int .i64 0, .int .i64 0, .slice none 0 0] 61) fun b2 h2 =>
  cond t.isNone
  (Wr h2 ⟨b2, 0, none⟩ (.int .i64 0) fun h3 =>
  Wr h3 ((⟨b2, 0, none⟩ : Addr).add 1) (.int .i64 0) fun h4 =>
  Wr h4 ((⟨b2, 0, none⟩ : Addr).add 2) (.slice none 0 0) fun h5 =>
  ∃ r1 : Int, ∃ r2 : Int, ∃ (r3 : Option Addr) (rL1 rC1 : Nat), cell h5 ⟨b2, 0, none⟩ = some (.int .i64 r1) ∧
  cell h5 ((⟨b2, 0, none⟩ : Addr).add 1) = some (.int .i64 r2) ∧
  cell h5 ((⟨b2, 0, none⟩ : Addr).add 2) = some (.slice r3 rL1 rC1) ∧
  K (.tuple #[.agg #[.int .i64 r1, .int .i64 r2, .slice r3 rL1 rC1], .int .i64 1]) h5)
  (∃ n1 : Int, ∃ (a1 : Option Addr) (L1 C1 : Nat), cell h2 ⟨b1, 0, none⟩ = some (.int .i64 n1) ∧
  cell h2 ((⟨b1, 0, none⟩ : Addr).add 1) = some (.slice a1 L1 C1) ∧
  HCalls Try.prog 51 #[.int .i64 1, .agg #[.int .i64 n1, .slice a1 L1 C1]] h2 fun v1 h6 => ∃ r4 : Bool, v1 = .bool r4 ∧
  cond (!r4)
  (Wr h6 ⟨b2, 0, none⟩ (.int .i64 0) fun h7 =>
  Wr h7 ((⟨b2, 0, none⟩ : Addr).add 1) (.int .i64 0) fun h8 =>
  Wr h8 ((⟨b2, 0, none⟩ : Addr).add 2) (.slice none 0 0) fun h9 =>
  ∃ r5 : Int, ∃ r6 : Int, ∃ (r7 : Option Addr) (rL2 rC2 : Nat), cell h9 ⟨b2, 0, none⟩ = some (.int .i64 r5) ∧
  cell h9 ((⟨b2, 0, none⟩ : Addr).add 1) = some (.int .i64 r6) ∧
  cell h9 ((⟨b2, 0, none⟩ : Addr).add 2) = some (.slice r7 rL2 rC2) ∧
  K (.tuple #[.agg #[.int .i64 r5, .int .i64 r6, .slice r7 rL2 rC2], .int .i64 1]) h9)
  (btree_Tree_Do_b1 t (some ⟨b1, 0, none⟩) (some ⟨b2, 0, none⟩) h6  K))) := by kernel_rfl
theorem btree_Tree_Do_b1_eq (t : Option Addr) (o : Option Addr) (t4 : Option Addr) (h : Hp)  (K : Value → Hp → Prop) : btree_Tree_Do_b1 t o t4 h  K = (
  New h (.cells #[.int .i64 0] 3) fun b3 h10 =>
  Wr h10 ⟨b3, 0, none⟩ (.int .i64 0) fun h11 =>
  NN o fun a2 =>
  ∃ n2 : Int, cell h11 a2 = some (.int .i64 n2) ∧
  cond (decide (n2 = 1))
  (NN o fun a3 =>
  ∃ (a4 : Option Addr) (L2 C2 : Nat), cell h11 (a3.add 1) = some (.slice a4 L2 C2) ∧
  (0 ≤ (0 : Int) ∧ (0 : Int) < (L2 : Int)) ∧
  NN a4 fun a5 =>
  ∃ n3 : Int, cell h11 (a5.add (Int.toNat (0 : Int) * 1)) = some (.int .i64 n3) ∧
  NN o fun a6 =>
  ∃ (a7 : Option Addr) (L3 C3 : Nat), cell h11 (a6.add 1) = some (.slice a7 L3 C3) ∧
  (0 ≤ (1 : Int) ∧ (1 : Int) < (L3 : Int)) ∧
  NN a7 fun a8 =>
  ∃ n4 : Int, cell h11 (a8.add (Int.toNat (1 : Int) * 1)) = some (.int .i64 n4) ∧
  HCalls Try.prog 10 #[.pointer t, .int .i64 n3, .int .i64 n4] h11 fun v2 h12 => ∃ r8 : Int, ∃ r9 : Bool, ∃ r10 : Int, v2 = .tuple #[.int .i64 r8, .bool r9, .int .i64 r10] ∧
  cond r9
  (Wr h12 ⟨b3, 0, none⟩ (.int .i64 1) fun h13 =>
  btree_Tree_Do_b2 t4 (some ⟨b3, 0, none⟩) r10 h13  K)
  (btree_Tree_Do_b2 t4 (some ⟨b3, 0, none⟩) r10 h12  K))
  (cond (decide (n2 = 2))
  (NN o fun a9 =>
  ∃ (a10 : Option Addr) (L4 C4 : Nat), cell h11 (a9.add 1) = some (.slice a10 L4 C4) ∧
  (0 ≤ (0 : Int) ∧ (0 : Int) < (L4 : Int)) ∧
  NN a10 fun a11 =>
  ∃ n5 : Int, cell h11 (a11.add (Int.toNat (0 : Int) * 1)) = some (.int .i64 n5) ∧
  HCalls Try.prog 29 #[.pointer t, .int .i64 n5] h11 fun v3 h14 => ∃ r11 : Int, ∃ r12 : Int, v3 = .tuple #[.int .i64 r11, .int .i64 r12] ∧
  Wr h14 ⟨b3, 0, none⟩ (.int .i64 r11) fun h15 =>
  btree_Tree_Do_b2 t4 (some ⟨b3, 0, none⟩) r12 h15  K)
  (cond (decide (n2 = 3))
  (NN o fun a12 =>
  ∃ (a13 : Option Addr) (L5 C5 : Nat), cell h11 (a12.add 1) = some (.slice a13 L5 C5) ∧
  (0 ≤ (0 : Int) ∧ (0 : Int) < (L5 : Int)) ∧
  NN a13 fun a14 =>
  ∃ n6 : Int, cell h11 (a14.add (Int.toNat (0 : Int) * 1)) = some (.int .i64 n6) ∧
  HCalls Try.prog 19 #[.pointer t, .int .i64 n6] h11 fun v4 h16 => ∃ r13 : Int, ∃ r14 : Int, v4 = .tuple #[.int .i64 r13, .int .i64 r14] ∧
  Wr h16 ⟨b3, 0, none⟩ (.int .i64 r13) fun h17 =>
  btree_Tree_Do_b2 t4 (some ⟨b3, 0, none⟩) r14 h17  K)
  (cond (decide (n2 = 4))
  (NN o fun a15 =>
  ∃ (a16 : Option Addr) (L6 C6 : Nat), cell h11 (a15.add 1) = some (.slice a16 L6 C6) ∧
  (0 ≤ (0 : Int) ∧ (0 : Int) < (L6 : Int)) ∧
  NN a16 fun a17 =>
  ∃ n7 : Int, cell h11 (a17.add (Int.toNat (0 : Int) * 1)) = some (.int .i64 n7) ∧
  HCalls Try.prog 30 #[.pointer t, .int .i64 n7] h11 fun v5 h18 => ∃ r15 : Int, ∃ r16 : Int, ∃ r17 : Int, v5 = .tuple #[.int .i64 r15, .int .i64 r16, .int .i64 r17] ∧
  Wr h18 ⟨b3, 0, none⟩ (.int .i64 r15) fun h19 =>
  btree_Tree_Do_b2 t4 (some ⟨b3, 0, none⟩) r17 h19  K)
  (cond (decide (n2 = 5))
  (NN o fun a18 =>
  ∃ (a19 : Option Addr) (L7 C7 : Nat), cell h11 (a18.add 1) = some (.slice a19 L7 C7) ∧
  (0 ≤ (0 : Int) ∧ (0 : Int) < (L7 : Int)) ∧
  NN a19 fun a20 =>
  ∃ n8 : Int, cell h11 (a20.add (Int.toNat (0 : Int) * 1)) = some (.int .i64 n8) ∧
  HCalls Try.prog 31 #[.pointer t, .int .i64 n8] h11 fun v6 h20 => ∃ r18 : Int, ∃ r19 : Int, ∃ r20 : Int, v6 = .tuple #[.int .i64 r18, .int .i64 r19, .int .i64 r20] ∧
  Wr h20 ⟨b3, 0, none⟩ (.int .i64 r18) fun h21 =>
  btree_Tree_Do_b2 t4 (some ⟨b3, 0, none⟩) r20 h21  K)
  (cond (decide (n2 = 6))
  (NN t fun a21 =>
  ∃ p1 : Option Addr, cell h11 (a21.add 2) = some (.pointer p1) ∧
  HCalls Try.prog 36 #[.pointer p1, .func (.func 52) #[] #[.pointer o, .pointer (some ⟨b3, 0, none⟩)]] h11 fun v7 h22 => ∃ r21 : Bool, v7 = .bool r21 ∧
  btree_Tree_Do_b2 t4 (some ⟨b3, 0, none⟩) 0 h22  K)
  (cond (decide (n2 = 7))
  (NN o fun a22 =>
  ∃ (a23 : Option Addr) (L8 C8 : Nat), cell h11 (a22.add 1) = some (.slice a23 L8 C8) ∧
  (0 ≤ (0 : Int) ∧ (0 : Int) < (L8 : Int)) ∧
  NN a23 fun a24 =>
  ∃ n9 : Int, cell h11 (a24.add (Int.toNat (0 : Int) * 1)) = some (.int .i64 n9) ∧
  HCalls Try.prog 53 #[.pointer t, .int .i64 n9] h11 fun v8 h23 => ∃ r22 : Int, ∃ r23 : Int, v8 = .tuple #[.int .i64 r22, .int .i64 r23] ∧
  Wr h23 ⟨b3, 0, none⟩ (.int .i64 r22) fun h24 =>
  btree_Tree_Do_b2 t4 (some ⟨b3, 0, none⟩) r23 h24  K)
  (cond (decide (n2 = 8))
  (NN t fun a25 =>
  ∃ n10 : Int, cell h11 (a25.add 1) = some (.int .i64 n10) ∧
  Wr h11 ⟨b3, 0, none⟩ (.int .i64 n10) fun h25 =>
  btree_Tree_Do_b2 t4 (some ⟨b3, 0, none⟩) 0 h25  K)
  (btree_Tree_Do_b2 t4 (some ⟨b3, 0, none⟩) 0 h11  K))))))))) := by kernel_rfl
theorem btree_Tree_Do_b2_eq (t4 : Option Addr) (nv : Option Addr) (e : Int) (h : Hp)  (K : Value → Hp → Prop) : btree_Tree_Do_b2 t4 nv e h  K = (
  NN nv fun a26 =>
  ∃ n11 : Int, cell h a26 = some (.int .i64 n11) ∧
  NN t4 fun a27 =>
  Wr h a27 (.int .i64 e) fun h26 =>
  Wr h26 (a27.add 1) (.int .i64 n11) fun h27 =>
  Wr h27 (a27.add 2) (.slice none 0 0) fun h28 =>
  NN t4 fun a28 =>
  ∃ r24 : Int, ∃ r25 : Int, ∃ (r26 : Option Addr) (rL3 rC3 : Nat), cell h28 a28 = some (.int .i64 r24) ∧
  cell h28 (a28.add 1) = some (.int .i64 r25) ∧
  cell h28 (a28.add 2) = some (.slice r26 rL3 rC3) ∧
  K (.tuple #[.agg #[.int .i64 r24, .int .i64 r25, .slice r26 rL3 rC3], .int .i64 0]) h28) := by kernel_rfl
theorem btree_Tree_Do_call {t : Option Addr} {o_0 : Int} {o_1 : Option Addr} {o_1L : Nat} {o_1C : Nat} {h : Hp} {K : Value → Hp → Prop} (hk : btree_Tree_Do_b0 t o_0 o_1 o_1L o_1C h K) : HCalls Try.prog 25 #[.pointer t, .agg #[.int .i64 o_0, .slice o_1 o_1L o_1C]] h K :=
  calls_of_snd btree_Tree_Do_an Try.func25 (c := bodyOf Try.f25) rfl Try.ntmps25 (Nat.le_of_ble_eq_true rfl) (snd_3 F_ok F_mixed) hk

/-! ### r03_ValidOp -/
def r03_ValidOp_an : Ann := .node none (.leaf) (.node (some [0, 3]) (.node none (.plan (.qu 0 (.qu 1 (.qu 2 (.qu 3 (.qu 4 (.qu 5 (.qu 6 (.qu 7 (.qu 8 (.qu 9 (.qu 10 (.qu 11 (.qu 12 (.qu 13 (.qu 14 (.wo 15 (.qu 16 (.qu 17 (.qu 18 (.qu 19 (.qu 20 (.qu 21 (.qu 22 (.qu 23 (.qu 24 .fin))))))))) .no))))))))))))))))) (.leaf)) (.node none (.leaf) (.node (some [0, 3]) (.leaf) (.node (some []) (.node none (.leaf) (.loop [0, 3] [(6, .int .i64)] (.node none (.leaf) (.node (some [0, 3, 6]) (.leaf) (.leaf))))) (.leaf)))))
def r03_ValidOp_K0  (K : Value → Hp → Prop) : Exit → Env → Hp → Prop := retK Try.prog Try.f26.results.toList K
def r03_ValidOp_K1  (K : Value → Hp → Prop) : Exit → Env → Hp → Prop := thenE (fun env h => sx_2 Try.prog F 89 (cp [1, 1, 1, 1, 1] (bodyOf Try.f26)) (ap [1, 1, 1, 1, 1] r03_ValidOp_an) (rs [] env) h (r03_ValidOp_K0  K)) (r03_ValidOp_K0  K)
def r03_ValidOp_K2  (K : Value → Hp → Prop) : Exit → Env → Hp → Prop := blockE 0 (r03_ValidOp_K1  K)
def r03_ValidOp_K3 (nx0 : Int × Unit → Hp → Prop) (K : Value → Hp → Prop) : Exit → Env → Hp → Prop := thenE (fun env h => getV [(6, .int .i64)] env fun s => nx0 s h) (r03_ValidOp_K2  K)
def r03_ValidOp_b0 (kind : Int) (o_0 : Int) (o_1 : Option Addr) (o_1L : Nat) (o_1C : Nat) (h : Hp)  (K : Value → Hp → Prop) : Prop :=
  sx_5 Try.prog F 89 (cp [] (bodyOf Try.f26)) (ap [] r03_ValidOp_an) [(0, .int .i64 kind), (1, .agg #[.int .i64 o_0, .slice o_1 o_1L o_1C])] h (r03_ValidOp_K0  K)
def r03_ValidOp_b1 (kind : Int) (o : Option Addr) (h : Hp)  (K : Value → Hp → Prop) : Prop :=
  sx_4 Try.prog F 89 (cp [1, 1] (bodyOf Try.f26)) (ap [1, 1] r03_ValidOp_an) [(0, .int .i64 kind), (3, .pointer o)] h (r03_ValidOp_K0  K)
def r03_ValidOp_b2 (kind : Int) (o : Option Addr) (h : Hp)  (K : Value → Hp → Prop) : Prop :=
  sx_3 Try.prog F 89 (cp [1, 1, 1, 1] (bodyOf Try.f26)) (ap [1, 1, 1, 1] r03_ValidOp_an) [(0, .int .i64 kind), (3, .pointer o)] h (r03_ValidOp_K0  K)
def r03_ValidOp_b3 (i : Int) (kind : Int) (o : Option Addr) (h : Hp) (nx0 : Int × Unit → Hp → Prop) (K : Value → Hp → Prop) : Prop :=
  sx_2 Try.prog F 89 (cp [1, 1, 1, 1, 0, 1, 2, 2] (bodyOf Try.f26)) (ap [1, 1, 1, 1, 0, 1, 2] r03_ValidOp_an) [(6, .int .i64 i), (0, .int .i64 kind), (3, .pointer o)] h (r03_ValidOp_K3 nx0 K)
def r03_ValidOp_b4 (kind : Int) (o : Option Addr) (i : Int) (h : Hp) (nx0 : Int × Unit → Hp → Prop) (K : Value → Hp → Prop) : Prop :=
  sx_1 Try.prog F 89 (cp [1, 1, 1, 1, 0, 1, 2, 2, 1, 1] (bodyOf Try.f26)) (ap [1, 1, 1, 1, 0, 1, 2, 1, 1] r03_ValidOp_an) [(0, .int .i64 kind), (3, .pointer o), (6, .int .i64 i)] h (r03_ValidOp_K3 nx0 K)
def r03_ValidOp_b5  (h : Hp)  (K : Value → Hp → Prop) : Prop :=
  sx_2 Try.prog F 89 (cp [1, 1, 1, 1, 1] (bodyOf Try.f26)) (ap [1, 1, 1, 1, 1] r03_ValidOp_an) [] h (r03_ValidOp_K0  K)
theorem r03_ValidOp_b0_eq (kind : Int) (o_0 : Int) (o_1 : Option Addr) (o_1L : Nat) (o_1C : Nat) (h : Hp)  (K : Value → Hp → Prop) : r03_ValidOp_b0 kind o_0 o_1 o_1L o_1C h  K = (
  New h (.cells #[.int .i64 o_0, .slice o_1 o_1L o_1C] 58) fun b1 h1 =>
  cond (decide (kind < 1))
  (K (.bool false) h1)
  (cond (decide ((6 : Int) < kind))
  (K (.bool false) h1)
  (∃ n1 : Int, cell h1 ⟨b1, 0, none⟩ = some (.int .i64 n1) ∧
  cond (decide (n1 < 1))
  (K (.bool false) h1)
  (∃ n2 : Int, cell h1 ⟨b1, 0, none⟩ = some (.int .i64 n2) ∧
  HCalls Try.prog 54 #[.int .i64 kind] h1 fun v1 h2 => ∃ (r1 : Option Addr) (rL1 rC1 : Nat), v1 = .slice r1 rL1 rC1 ∧
  (∃ n3 : Int, cell h2 ⟨b1, 0, none⟩ = some (.int .i64 n3) ∧
  (.int .i64 n3 : Value) = .int .i64 n2) ∧
  cond (decide ((rL1 : Int) < n2))
  (K (.bool false) h2)
  (∃ (a1 : Option Addr) (L1 C1 : Nat), cell h2 ((⟨b1, 0, none⟩ : Addr).add 1) = some (.slice a1 L1 C1) ∧
  cond (decide ((64 : Int) < (L1 : Int)))
  (K (.bool false) h2)
  (r03_ValidOp_b1 kind (some ⟨b1, 0, none⟩) h2  K)))))) := by kernel_rfl
theorem r03_ValidOp_b1_eq (kind : Int) (o : Option Addr) (h : Hp)  (K : Value → Hp → Prop) : r03_ValidOp_b1 kind o h  K = (
  NN o fun a2 =>
  ∃ n4 : Int, cell h a2 = some (.int .i64 n4) ∧
  HCalls Try.prog 55 #[.int .i64 kind, .int .i64 n4] h fun v2 h3 => ∃ r2 : Int, v2 = .int .i64 r2 ∧
  cond (decide ((0 : Int) ≤ r2))
  (NN o fun a3 =>
  ∃ (a4 : Option Addr) (L2 C2 : Nat), cell h3 (a3.add 1) = some (.slice a4 L2 C2) ∧
  cond (!decide ((L2 : Int) = r2))
  (K (.bool false) h3)
  (cond (decide (r2 < 0))
  (NN o fun a5 =>
  ∃ (a6 : Option Addr) (L3 C3 : Nat), cell h3 (a5.add 1) = some (.slice a6 L3 C3) ∧
  cond (decide ((L3 : Int) = 0))
  (K (.bool false) h3)
  (r03_ValidOp_b2 kind o h3  K))
  (r03_ValidOp_b2 kind o h3  K)))
  (cond (decide (r2 < 0))
  (NN o fun a7 =>
  ∃ (a8 : Option Addr) (L4 C4 : Nat), cell h3 (a7.add 1) = some (.slice a8 L4 C4) ∧
  cond (decide ((L4 : Int) = 0))
  (K (.bool false) h3)
  (r03_ValidOp_b2 kind o h3  K))
  (r03_ValidOp_b2 kind o h3  K))) := by kernel_rfl
theorem r03_ValidOp_b2_eq (kind : Int) (o : Option Addr) (h : Hp)  (K : Value → Hp → Prop) : r03_ValidOp_b2 kind o h  K = (
  LoopVC ((0, ()) : Int × Unit) h (fun (nx0 : Int × Unit → Hp → Prop) (s1 : Int × Unit) h4 => r03_ValidOp_b3 s1.1 kind o h4 nx0 K)) := by kernel_rfl
theorem r03_ValidOp_b3_eq (i : Int) (kind : Int) (o : Option Addr) (h : Hp) (nx0 : Int × Unit → Hp → Prop) (K : Value → Hp → Prop) : r03_ValidOp_b3 i kind o h nx0 K = (
  NN o fun a9 =>
  ∃ (a10 : Option Addr) (L5 C5 : Nat), cell h (a9.add 1) = some (.slice a10 L5 C5) ∧
  cond (decide (i < (L5 : Int)))
  (NN o fun a11 =>
  ∃ (a12 : Option Addr) (L6 C6 : Nat), cell h (a11.add 1) = some (.slice a12 L6 C6) ∧
  (0 ≤ i ∧ i < (L6 : Int)) ∧
  NN a12 fun a13 =>
  ∃ n5 : Int, cell h (a13.add (Int.toNat i * 1)) = some (.int .i64 n5) ∧
  HCalls Try.prog 56 #[.int .i64 n5] h fun v3 h5 => ∃ r3 : Bool, v3 = .bool r3 ∧
  cond (!r3)
  (K (.bool false) h5)
  (cond (decide (kind = 6))
  (NN o fun a14 =>
  ∃ (a15 : Option Addr) (L7 C7 : Nat), cell h5 (a14.add 1) = some (.slice a15 L7 C7) ∧
  (0 ≤ i ∧ i < (L7 : Int)) ∧
  NN a15 fun a16 =>
  ∃ n6 : Int, cell h5 (a16.add (Int.toNat i * 1)) = some (.int .i64 n6) ∧
  cond (decide (n6 < 0))
  (K (.bool false) h5)
  (NN o fun a17 =>
  ∃ (a18 : Option Addr) (L8 C8 : Nat), cell h5 (a17.add 1) = some (.slice a18 L8 C8) ∧
  (0 ≤ i ∧ i < (L8 : Int)) ∧
  NN a18 fun a19 =>
  ∃ n7 : Int, cell h5 (a19.add (Int.toNat i * 1)) = some (.int .i64 n7) ∧
  cond (decide ((255 : Int) < n7))
  (K (.bool false) h5)
  (r03_ValidOp_b4 kind o i h5 nx0 K)))
  (r03_ValidOp_b4 kind o i h5 nx0 K)))
  (r03_ValidOp_b5  h  K)) := by kernel_rfl
theorem r03_ValidOp_b4_eq (kind : Int) (o : Option Addr) (i : Int) (h : Hp) (nx0 : Int × Unit → Hp → Prop) (K : Value → Hp → Prop) : r03_ValidOp_b4 kind o i h nx0 K = (
  InR (i + 1) ∧
  nx0 (i + 1, ()) h) := by kernel_rfl
theorem r03_ValidOp_b5_eq  (h : Hp)  (K : Value → Hp → Prop) : r03_ValidOp_b5  h  K = (
  K (.bool true) h) := by kernel_rfl
theorem r03_ValidOp_call {kind : Int} {o_0 : Int} {o_1 : Option Addr} {o_1L : Nat} {o_1C : Nat} {h : Hp} {K : Value → Hp → Prop} (hk : r03_ValidOp_b0 kind o_0 o_1 o_1L o_1C h K) : HCalls Try.prog 26 #[.int .i64 kind, .agg #[.int .i64 o_0, .slice o_1 o_1L o_1C]] h K :=
  calls_of_snd r03_ValidOp_an Try.func26 (c := bodyOf Try.f26) rfl Try.ntmps26 (Nat.le_of_ble_eq_true rfl) (snd_5 F_ok F_mixed) hk

/-! ### r03_SameRes -/
def r03_SameRes_an : Ann := .leaf
def r03_SameRes_K0  (K : Value → Hp → Prop) : Exit → Env → Hp → Prop := retK Try.prog Try.f27.results.toList K
def r03_SameRes_b0 (a_0 : Int) (a_1 : Int) (a_2 : Option Addr) (a_2L : Nat) (a_2C : Nat) (b_0 : Int) (b_1 : Int) (b_2 : Option Addr) (b_2L : Nat) (b_2C : Nat) (h : Hp)  (K : Value → Hp → Prop) : Prop :=
  sx_1 Try.prog F 24 (cp [] (bodyOf Try.f27)) (ap [] r03_SameRes_an) [(0, .agg #[.int .i64 a_0, .int .i64 a_1, .slice a_2 a_2L a_2C]), (1, .agg #[.int .i64 b_0, .int .i64 b_1, .slice b_2 b_2L b_2C])] h (r03_SameRes_K0  K)
theorem r03_SameRes_b0_eq (a_0 : Int) (a_1 : Int) (a_2 : Option Addr) (a_2L : Nat) (a_2C : Nat) (b_0 : Int) (b_1 : Int) (b_2 : Option Addr) (b_2L : Nat) (b_2C : Nat) (h : Hp)  (K : Value → Hp → Prop) : r03_SameRes_b0 a_0 a_1 a_2 a_2L a_2C b_0 b_1 b_2 b_2L b_2C h  K = (
  New h (.cells #[.int .i64 a_0, .int .i64 a_1, .slice a_2 a_2L a_2C] 61) fun b1 h1 =>
  New h1 (.cells #[.int .i64 b_0, .int .i64 b_1, .slice b_2 b_2L b_2C] 61) fun b2 h2 =>
  ∃ n1 : Int, cell h2 ⟨b1, 0, none⟩ = some (.int .i64 n1) ∧
  ∃ n2 : Int, cell h2 ⟨b2, 0, none⟩ = some (.int .i64 n2) ∧
  cond (decide (n1 = n2))
  (∃ n3 : Int, cell h2 ((⟨b1, 0, none⟩ : Addr).add 1) = some (.int .i64 n3) ∧
  ∃ n4 : Int, cell h2 ((⟨b2, 0, none⟩ : Addr).add 1) = some (.int .i64 n4) ∧
  cond (decide (n3 = n4))
  (∃ (a1 : Option Addr) (L1 C1 : Nat), cell h2 ((⟨b1, 0, none⟩ : Addr).add 2) = some (.slice a1 L1 C1) ∧
  ∃ (a2 : Option Addr) (L2 C2 : Nat), cell h2 ((⟨b2, 0, none⟩ : Addr).add 2) = some (.slice a2 L2 C2) ∧
  HCalls Try.prog 39 #[.slice a1 L1 C1, .slice a2 L2 C2] h2 fun v1 h3 => ∃ r1 : Bool, v1 = .bool r1 ∧
  K (.bool r1) h3)
  (K (.bool false) h2))
  (K (.bool false) h2)) := by kernel_rfl
theorem r03_SameRes_call {a_0 : Int} {a_1 : Int} {a_2 : Option Addr} {a_2L : Nat} {a_2C : Nat} {b_0 : Int} {b_1 : Int} {b_2 : Option Addr} {b_2L : Nat} {b_2C : Nat} {h : Hp} {K : Value → Hp → Prop} (hk : r03_SameRes_b0 a_0 a_1 a_2 a_2L a_2C b_0 b_1 b_2 b_2L b_2C h K) : HCalls Try.prog 27 #[.agg #[.int .i64 a_0, .int .i64 a_1, .slice a_2 a_2L a_2C], .agg #[.int .i64 b_0, .int .i64 b_1, .slice b_2 b_2L b_2C]] h K :=
  calls_of_snd r03_SameRes_an Try.func27 (c := bodyOf Try.f27) rfl Try.ntmps27 (Nat.le_of_ble_eq_true rfl) (snd_1 F_ok F_mixed) hk

/-! ### r43_Do -/
def r43_Do_an : Ann := .node none (.leaf) (.node (some [5, 6, 7]) (.plan (.qu 0 (.qu 2 (.wo 1 (.wo 3 (.qu 4 (.qu 5 (.qu 6 (.wo 7 (.wo 8 (.wo 9 (.wo 10 .fin .no) .no) .no) (.wo 8 (.wo 7 (.wo 9 (.wo 10 .fin .no) .no) .no) .no))))) (.wo 7 (.wo 3 (.qu 4 (.qu 5 (.qu 6 (.wo 8 (.wo 9 (.wo 10 .fin .no) .no) .no)))) (.wo 8 (.wo 3 (.qu 4 (.qu 5 (.qu 6 (.wo 9 (.wo 10 .fin .no) .no)))) .no) .no)) (.wo 8 (.wo 3 (.qu 4 (.qu 5 (.qu 6 (.wo 7 (.wo 9 (.wo 10 .fin .no) .no) .no)))) (.wo 7 (.wo 3 (.qu 4 (.qu 5 (.qu 6 (.wo 9 (.wo 10 .fin .no) .no)))) .no) .no)) .no))) (.wo 7 (.wo 1 (.wo 3 (.qu 4 (.qu 5 (.qu 6 (.wo 8 (.wo 9 (.wo 10 .fin .no) .no) .no)))) (.wo 8 (.wo 3 (.qu 4 (.qu 5 (.qu 6 (.wo 9 (.wo 10 .fin .no) .no)))) .no) .no)) (.wo 8 (.wo 1 (.wo 3 (.qu 4 (.qu 5 (.qu 6 (.wo 9 (.wo 10 .fin .no) .no)))) .no) .no) .no)) (.wo 8 (.wo 1 (.wo 3 (.qu 4 (.qu 5 (.qu 6 (.wo 7 (.wo 9 (.wo 10 .fin .no) .no) .no)))) (.wo 7 (.wo 3 (.qu 4 (.qu 5 (.qu 6 (.wo 9 (.wo 10 .fin .no) .no)))) .no) .no)) (.wo 7 (.wo 1 (.wo 3 (.qu 4 (.qu 5 (.qu 6 (.wo 9 (.wo 10 .fin .no) .no)))) .no) .no) .no)) .no)))))) (.node none (.leaf) (.node (some [5, 7, 8]) (.node none (.leaf) (.loop [5, 6, 7] [(8, .slice), (9, .int .i64)] (.node none (.leaf) (.node (some [5, 6, 7, 8, 9]) (.plan (.qu 0 (.qu 1 (.qu 2 (.qu 3 (.qu 4 (.qu 5 (.qu 6 (.qu 7 (.qu 8 (.qu 9 (.qu 10 (.qu 11 (.qu 12 (.qu 13 (.qu 14 (.qu 15 (.wo 16 (.wo 17 (.wo 18 .fin .no) .no) .no)))))))))))))))))) (.leaf))))) (.node none (.tail 3) (.leaf)))))
def r43_Do_K0  (K : Value → Hp → Prop) : Exit → Env → Hp → Prop := retK Try.prog Try.f28.results.toList K
def r43_Do_K1  (K : Value → Hp → Prop) : Exit → Env → Hp → Prop := thenE (fun env h => sx_2 Try.prog F 44 (cp [1, 1, 1, 1] (bodyOf Try.f28)) (ap [1, 1, 1, 1] r43_Do_an) (rs [5, 7, 8] env) h (r43_Do_K0  K)) (r43_Do_K0  K)
def r43_Do_K2  (K : Value → Hp → Prop) : Exit → Env → Hp → Prop := blockE 0 (r43_Do_K1  K)
def r43_Do_K3 (nx0 : (Option Addr × Nat × Nat) × Int × Unit → Hp → Prop) (K : Value → Hp → Prop) : Exit → Env → Hp → Prop := thenE (fun env h => getV [(8, .slice), (9, .int .i64)] env fun s => nx0 s h) (r43_Do_K2  K)
def r43_Do_b0 (l : Option Addr) (lL : Nat) (lC : Nat) (o_0 : Int) (o_1 : Option Addr) (o_1L : Nat) (o_1C : Nat) (h : Hp)  (K : Value → Hp → Prop) : Prop :=
  sx_4 Try.prog F 44 (cp [] (bodyOf Try.f28)) (ap [] r43_Do_an) [(0, .slice l lL lC), (1, .agg #[.int .i64 o_0, .slice o_1 o_1L o_1C])] h (r43_Do_K0  K)
def r43_Do_b1 (t5 : Option Addr) (s : Option Addr) (r : Option Addr) (h : Hp)  (K : Value → Hp → Prop) : Prop :=
  sx_3 Try.prog F 44 (cp [1, 1] (bodyOf Try.f28)) (ap [1, 1] r43_Do_an) [(5, .pointer t5), (6, .pointer s), (7, .pointer r)] h (r43_Do_K0  K)
def r43_Do_b2 (out : Option Addr) (outL : Nat) (outC : Nat) (i : Int) (t5 : Option Addr) (s : Option Addr) (r : Option Addr) (h : Hp) (nx0 : (Option Addr × Nat × Nat) × Int × Unit → Hp → Prop) (K : Value → Hp → Prop) : Prop :=
  sx_2 Try.prog F 44 (cp [1, 1, 1, 0, 1, 2, 2] (bodyOf Try.f28)) (ap [1, 1, 1, 0, 1, 2] r43_Do_an) [(8, .slice out outL outC), (9, .int .i64 i), (5, .pointer t5), (6, .pointer s), (7, .pointer r)] h (r43_Do_K3 nx0 K)
def r43_Do_b3 (t5 : Option Addr) (s : Option Addr) (r : Option Addr) (out : Option Addr) (outL : Nat) (outC : Nat) (i : Int) (h : Hp) (nx0 : (Option Addr × Nat × Nat) × Int × Unit → Hp → Prop) (K : Value → Hp → Prop) : Prop :=
  sx_1 Try.prog F 44 (cp [1, 1, 1, 0, 1, 2, 2, 1, 1] (bodyOf Try.f28)) (ap [1, 1, 1, 0, 1, 2, 1, 1] r43_Do_an) [(5, .pointer t5), (6, .pointer s), (7, .pointer r), (8, .slice out outL outC), (9, .int .i64 i)] h (r43_Do_K3 nx0 K)
def r43_Do_b4 (t5 : Option Addr) (r : Option Addr) (out : Option Addr) (outL : Nat) (outC : Nat) (h : Hp)  (K : Value → Hp → Prop) : Prop :=
  sx_2 Try.prog F 44 (cp [1, 1, 1, 1] (bodyOf Try.f28)) (ap [1, 1, 1, 1] r43_Do_an) [(5, .pointer t5), (7, .pointer r), (8, .slice out outL outC)] h (r43_Do_K0  K)
theorem r43_Do_b0_eq (l : Option Addr) (lL : Nat) (lC : Nat) (o_0 : Int) (o_1 : Option Addr) (o_1L : Nat) (o_1C : Nat) (h : Hp)  (K : Value → Hp → Prop) : r43_Do_b0 l lL lC o_0 o_1 o_1L o_1C h  K = (
  New h (.cells #[.int .i64 o_0, .slice o_1 o_1L o_1C] 58) fun b1 h1 =>
  New h1 (.cells #[.int .i64 0, .int .i64 0, .slice none 0 0] 61) fun b2 h2 =>
  ∃ n1 : Int, ∃ (a1 : Option Addr) (L1 C1 : Nat), cell h2 ⟨b1, 0, none⟩ = some (.int .i64 n1) ∧
  cell h2 ((⟨b1, 0, none⟩ : Addr).add 1) = some (.slice a1 L1 C1) ∧
  (HCalls Try.prog 58 #[.slice l lL lC] h2 fun v1 h3 => ∃ r1 : Int, ∃ (r2 : Option Addr) (rL1 rC1 : Nat), v1 = .agg #[.int .i64 r1, .slice r2 rL1 rC1] ∧
  (∃ n2 : Int, ∃ (a2 : Option Addr) (L2 C2 : Nat), cell h3 ⟨b1, 0, none⟩ = some (.int .i64 n2) ∧
  cell h3 ((⟨b1, 0, none⟩ : Addr).add 1) = some (.slice a2 L2 C2) ∧
  (.agg #[.int .i64 n2, .slice a2 L2 C2] : Value) = .agg #[.int .i64 n1, .slice a1 L1 C1]) ∧
  (HCalls Try.prog 57 #[.agg #[.int .i64 r1, .slice r2 rL1 rC1], .agg #[.int .i64 n1, .slice a1 L1 C1]] h3 fun v2 h4 => ∃ r3 : Int, ∃ (r4 : Option Addr) (rL2 rC2 : Nat), ∃ r5 : Int, ∃ r6 : Int, ∃ (r7 : Option Addr) (rL3 rC3 : Nat), v2 = .tuple #[.agg #[.int .i64 r3, .slice r4 rL2 rC2], .agg #[.int .i64 r5, .int .i64 r6, .slice r7 rL3 rC3]] ∧
  (New h4 (.cells #[.int .i64 0, .slice none 0 0] 108) fun b3 h5 =>
  New h5 (.cells #[.int .i64 0, .int .i64 0, .slice none 0 0] 61) fun b4 h6 =>
  Wr h6 ⟨b3, 0, none⟩ (.int .i64 r3) fun h7 =>
  Wr h7 ((⟨b3, 0, none⟩ : Addr).add 1) (.slice r4 rL2 rC2) fun h8 =>
  Wr h8 ⟨b4, 0, none⟩ (.int .i64 r5) fun h9 =>
  Wr h9 ((⟨b4, 0, none⟩ : Addr).add 1) (.int .i64 r6) fun h10 =>
  Wr h10 ((⟨b4, 0, none⟩ : Addr).add 2) (.slice r7 rL3 rC3) fun h11 =>
  r43_Do_b1 (some ⟨b2, 0, none⟩) (some ⟨b3, 0, none⟩) (some ⟨b4, 0, none⟩) h11  K) ∧
  (New h4 (.cells #[.int .i64 0, .int .i64 0, .slice none 0 0] 61) fun b5 h12 =>
  New h12 (.cells #[.int .i64 0, .slice none 0 0] 108) fun b6 h13 =>
  Wr h13 ⟨b6, 0, none⟩ (.int .i64 r3) fun h14 =>
  Wr h14 ((⟨b6, 0, none⟩ : Addr).add 1) (.slice r4 rL2 rC2) fun h15 =>
  Wr h15 ⟨b5, 0, none⟩ (.int .i64 r5) fun h16 =>
  Wr h16 ((⟨b5, 0, none⟩ : Addr).add 1) (.int .i64 r6) fun h17 =>
  Wr h17 ((⟨b5, 0, none⟩ : Addr).add 2) (.slice r7 rL3 rC3) fun h18 =>
  r43_Do_b1 (some ⟨b2, 0, none⟩) (some ⟨b6, 0, none⟩) (some ⟨b5, 0, none⟩) h18  K)) ∧
  (New h3 (.cells #[.int .i64 0, .slice none 0 0] 108) fun b7 h19 =>
  (∃ n3 : Int, ∃ (a3 : Option Addr) (L3 C3 : Nat), cell h19 ⟨b1, 0, none⟩ = some (.int .i64 n3) ∧
  cell h19 ((⟨b1, 0, none⟩ : Addr).add 1) = some (.slice a3 L3 C3) ∧
  (.agg #[.int .i64 n3, .slice a3 L3 C3] : Value) = .agg #[.int .i64 n1, .slice a1 L1 C1]) ∧
  (HCalls Try.prog 57 #[.agg #[.int .i64 r1, .slice r2 rL1 rC1], .agg #[.int .i64 n1, .slice a1 L1 C1]] h19 fun v3 h20 => ∃ r8 : Int, ∃ (r9 : Option Addr) (rL4 rC4 : Nat), ∃ r10 : Int, ∃ r11 : Int, ∃ (r12 : Option Addr) (rL5 rC5 : Nat), v3 = .tuple #[.agg #[.int .i64 r8, .slice r9 rL4 rC4], .agg #[.int .i64 r10, .int .i64 r11, .slice r12 rL5 rC5]] ∧
  New h20 (.cells #[.int .i64 0, .int .i64 0, .slice none 0 0] 61) fun b8 h21 =>
  Wr h21 ⟨b7, 0, none⟩ (.int .i64 r8) fun h22 =>
  Wr h22 ((⟨b7, 0, none⟩ : Addr).add 1) (.slice r9 rL4 rC4) fun h23 =>
  Wr h23 ⟨b8, 0, none⟩ (.int .i64 r10) fun h24 =>
  Wr h24 ((⟨b8, 0, none⟩ : Addr).add 1) (.int .i64 r11) fun h25 =>
  Wr h25 ((⟨b8, 0, none⟩ : Addr).add 2) (.slice r12 rL5 rC5) fun h26 =>
  r43_Do_b1 (some ⟨b2, 0, none⟩) (some ⟨b7, 0, none⟩) (some ⟨b8, 0, none⟩) h26  K) ∧
  (New h19 (.cells #[.int .i64 0, .int .i64 0, .slice none 0 0] 61) fun b9 h27 =>
  (∃ n4 : Int, ∃ (a4 : Option Addr) (L4 C4 : Nat), cell h27 ⟨b1, 0, none⟩ = some (.int .i64 n4) ∧
  cell h27 ((⟨b1, 0, none⟩ : Addr).add 1) = some (.slice a4 L4 C4) ∧
  (.agg #[.int .i64 n4, .slice a4 L4 C4] : Value) = .agg #[.int .i64 n1, .slice a1 L1 C1]) ∧
  HCalls Try.prog 57 #[.agg #[.int .i64 r1, .slice r2 rL1 rC1], .agg #[.int .i64 n1, .slice a1 L1 C1]] h27 fun v4 h28 => ∃ r13 : Int, ∃ (r14 : Option Addr) (rL6 rC6 : Nat), ∃ r15 : Int, ∃ r16 : Int, ∃ (r17 : Option Addr) (rL7 rC7 : Nat), v4 = .tuple #[.agg #[.int .i64 r13, .slice r14 rL6 rC6], .agg #[.int .i64 r15, .int .i64 r16, .slice r17 rL7 rC7]] ∧
  Wr h28 ⟨b7, 0, none⟩ (.int .i64 r13) fun h29 =>
  Wr h29 ((⟨b7, 0, none⟩ : Addr).add 1) (.slice r14 rL6 rC6) fun h30 =>
  Wr h30 ⟨b9, 0, none⟩ (.int .i64 r15) fun h31 =>
  Wr h31 ((⟨b9, 0, none⟩ : Addr).add 1) (.int .i64 r16) fun h32 =>
  Wr h32 ((⟨b9, 0, none⟩ : Addr).add 2) (.slice r17 rL7 rC7) fun h33 =>
  r43_Do_b1 (some ⟨b2, 0, none⟩) (some ⟨b7, 0, none⟩) (some ⟨b9, 0, none⟩) h33  K)) ∧
  (New h3 (.cells #[.int .i64 0, .int .i64 0, .slice none 0 0] 61) fun b10 h34 =>
  (∃ n5 : Int, ∃ (a5 : Option Addr) (L5 C5 : Nat), cell h34 ⟨b1, 0, none⟩ = some (.int .i64 n5) ∧
  cell h34 ((⟨b1, 0, none⟩ : Addr).add 1) = some (.slice a5 L5 C5) ∧
  (.agg #[.int .i64 n5, .slice a5 L5 C5] : Value) = .agg #[.int .i64 n1, .slice a1 L1 C1]) ∧
  (HCalls Try.prog 57 #[.agg #[.int .i64 r1, .slice r2 rL1 rC1], .agg #[.int .i64 n1, .slice a1 L1 C1]] h34 fun v5 h35 => ∃ r18 : Int, ∃ (r19 : Option Addr) (rL8 rC8 : Nat), ∃ r20 : Int, ∃ r21 : Int, ∃ (r22 : Option Addr) (rL9 rC9 : Nat), v5 = .tuple #[.agg #[.int .i64 r18, .slice r19 rL8 rC8], .agg #[.int .i64 r20, .int .i64 r21, .slice r22 rL9 rC9]] ∧
  New h35 (.cells #[.int .i64 0, .slice none 0 0] 108) fun b11 h36 =>
  Wr h36 ⟨b11, 0, none⟩ (.int .i64 r18) fun h37 =>
  Wr h37 ((⟨b11, 0, none⟩ : Addr).add 1) (.slice r19 rL8 rC8) fun h38 =>
  Wr h38 ⟨b10, 0, none⟩ (.int .i64 r20) fun h39 =>
  Wr h39 ((⟨b10, 0, none⟩ : Addr).add 1) (.int .i64 r21) fun h40 =>
  Wr h40 ((⟨b10, 0, none⟩ : Addr).add 2) (.slice r22 rL9 rC9) fun h41 =>
  r43_Do_b1 (some ⟨b2, 0, none⟩) (some ⟨b11, 0, none⟩) (some ⟨b10, 0, none⟩) h41  K) ∧
  (New h34 (.cells #[.int .i64 0, .slice none 0 0] 108) fun b12 h42 =>
  (∃ n6 : Int, ∃ (a6 : Option Addr) (L6 C6 : Nat), cell h42 ⟨b1, 0, none⟩ = some (.int .i64 n6) ∧
  cell h42 ((⟨b1, 0, none⟩ : Addr).add 1) = some (.slice a6 L6 C6) ∧
  (.agg #[.int .i64 n6, .slice a6 L6 C6] : Value) = .agg #[.int .i64 n1, .slice a1 L1 C1]) ∧
  HCalls Try.prog 57 #[.agg #[.int .i64 r1, .slice r2 rL1 rC1], .agg #[.int .i64 n1, .slice a1 L1 C1]] h42 fun v6 h43 => ∃ r23 : Int, ∃ (r24 : Option Addr) (rL10 rC10 : Nat), ∃ r25 : Int, ∃ r26 : Int, ∃ (r27 : Option Addr) (rL11 rC11 : Nat), v6 = .tuple #[.agg #[.int .i64 r23, .slice r24 rL10 rC10], .agg #[.int .i64 r25, .int .i64 r26, .slice r27 rL11 rC11]] ∧
  Wr h43 ⟨b12, 0, none⟩ (.int .i64 r23) fun h44 =>
  Wr h44 ((⟨b12, 0, none⟩ : Addr).add 1) (.slice r24 rL10 rC10) fun h45 =>
  Wr h45 ⟨b10, 0, none⟩ (.int .i64 r25) fun h46 =>
  Wr h46 ((⟨b10, 0, none⟩ : Addr).add 1) (.int .i64 r26) fun h47 =>
  Wr h47 ((⟨b10, 0, none⟩ : Addr).add 2) (.slice r27 rL11 rC11) fun h48 =>
  r43_Do_b1 (some ⟨b2, 0, none⟩) (some ⟨b12, 0, none⟩) (some ⟨b10, 0, none⟩) h48  K))) ∧
  (New h2 (.cells #[.int .i64 0, .slice none 0 0] 108) fun b13 h49 =>
  (∃ n7 : Int, ∃ (a7 : Option Addr) (L7 C7 : Nat), cell h49 ⟨b1, 0, none⟩ = some (.int .i64 n7) ∧
  cell h49 ((⟨b1, 0, none⟩ : Addr).add 1) = some (.slice a7 L7 C7) ∧
  (.agg #[.int .i64 n7, .slice a7 L7 C7] : Value) = .agg #[.int .i64 n1, .slice a1 L1 C1]) ∧
  (HCalls Try.prog 58 #[.slice l lL lC] h49 fun v7 h50 => ∃ r28 : Int, ∃ (r29 : Option Addr) (rL12 rC12 : Nat), v7 = .agg #[.int .i64 r28, .slice r29 rL12 rC12] ∧
  (∃ n8 : Int, ∃ (a8 : Option Addr) (L8 C8 : Nat), cell h50 ⟨b1, 0, none⟩ = some (.int .i64 n8) ∧
  cell h50 ((⟨b1, 0, none⟩ : Addr).add 1) = some (.slice a8 L8 C8) ∧
  (.agg #[.int .i64 n8, .slice a8 L8 C8] : Value) = .agg #[.int .i64 n1, .slice a1 L1 C1]) ∧
  (HCalls Try.prog 57 #[.agg #[.int .i64 r28, .slice r29 rL12 rC12], .agg #[.int .i64 n1, .slice a1 L1 C1]] h50 fun v8 h51 => ∃ r30 : Int, ∃ (r31 : Option Addr) (rL13 rC13 : Nat), ∃ r32 : Int, ∃ r33 : Int, ∃ (r34 : Option Addr) (rL14 rC14 : Nat), v8 = .tuple #[.agg #[.int .i64 r30, .slice r31 rL13 rC13], .agg #[.int .i64 r32, .int .i64 r33, .slice r34 rL14 rC14]] ∧
  New h51 (.cells #[.int .i64 0, .int .i64 0, .slice none 0 0] 61) fun b14 h52 =>
  Wr h52 ⟨b13, 0, none⟩ (.int .i64 r30) fun h53 =>
  Wr h53 ((⟨b13, 0, none⟩ : Addr).add 1) (.slice r31 rL13 rC13) fun h54 =>
  Wr h54 ⟨b14, 0, none⟩ (.int .i64 r32) fun h55 =>
  Wr h55 ((⟨b14, 0, none⟩ : Addr).add 1) (.int .i64 r33) fun h56 =>
  Wr h56 ((⟨b14, 0, none⟩ : Addr).add 2) (.slice r34 rL14 rC14) fun h57 =>
  r43_Do_b1 (some ⟨b2, 0, none⟩) (some ⟨b13, 0, none⟩) (some ⟨b14, 0, none⟩) h57  K) ∧
  (New h50 (.cells #[.int .i64 0, .int .i64 0, .slice none 0 0] 61) fun b15 h58 =>
  (∃ n9 : Int, ∃ (a9 : Option Addr) (L9 C9 : Nat), cell h58 ⟨b1, 0, none⟩ = some (.int .i64 n9) ∧
  cell h58 ((⟨b1, 0, none⟩ : Addr).add 1) = some (.slice a9 L9 C9) ∧
  (.agg #[.int .i64 n9, .slice a9 L9 C9] : Value) = .agg #[.int .i64 n1, .slice a1 L1 C1]) ∧
  HCalls Try.prog 57 #[.agg #[.int .i64 r28, .slice r29 rL12 rC12], .agg #[.int .i64 n1, .slice a1 L1 C1]] h58 fun v9 h59 => ∃ r35 : Int, ∃ (r36 : Option Addr) (rL15 rC15 : Nat), ∃ r37 : Int, ∃ r38 : Int, ∃ (r39 : Option Addr) (rL16 rC16 : Nat), v9 = .tuple #[.agg #[.int .i64 r35, .slice r36 rL15 rC15], .agg #[.int .i64 r37, .int .i64 r38, .slice r39 rL16 rC16]] ∧
  Wr h59 ⟨b13, 0, none⟩ (.int .i64 r35) fun h60 =>
  Wr h60 ((⟨b13, 0, none⟩ : Addr).add 1) (.slice r36 rL15 rC15) fun h61 =>
  Wr h61 ⟨b15, 0, none⟩ (.int .i64 r37) fun h62 =>
  Wr h62 ((⟨b15, 0, none⟩ : Addr).add 1) (.int .i64 r38) fun h63 =>
  Wr h63 ((⟨b15, 0, none⟩ : Addr).add 2) (.slice r39 rL16 rC16) fun h64 =>
  r43_Do_b1 (some ⟨b2, 0, none⟩) (some ⟨b13, 0, none⟩) (some ⟨b15, 0, none⟩) h64  K)) ∧
  (New h49 (.cells #[.int .i64 0, .int .i64 0, .slice none 0 0] 61) fun b16 h65 =>
  (∃ n10 : Int, ∃ (a10 : Option Addr) (L10 C10 : Nat), cell h65 ⟨b1, 0, none⟩ = some (.int .i64 n10) ∧
  cell h65 ((⟨b1, 0, none⟩ : Addr).add 1) = some (.slice a10 L10 C10) ∧
  (.agg #[.int .i64 n10, .slice a10 L10 C10] : Value) = .agg #[.int .i64 n1, .slice a1 L1 C1]) ∧
  HCalls Try.prog 58 #[.slice l lL lC] h65 fun v10 h66 => ∃ r40 : Int, ∃ (r41 : Option Addr) (rL17 rC17 : Nat), v10 = .agg #[.int .i64 r40, .slice r41 rL17 rC17] ∧
  (∃ n11 : Int, ∃ (a11 : Option Addr) (L11 C11 : Nat), cell h66 ⟨b1, 0, none⟩ = some (.int .i64 n11) ∧
  cell h66 ((⟨b1, 0, none⟩ : Addr).add 1) = some (.slice a11 L11 C11) ∧
  (.agg #[.int .i64 n11, .slice a11 L11 C11] : Value) = .agg #[.int .i64 n1, .slice a1 L1 C1]) ∧
  HCalls Try.prog 57 #[.agg #[.int .i64 r40, .slice r41 rL17 rC17], .agg #[.int .i64 n1, .slice a1 L1 C1]] h66 fun v11 h67 => ∃ r42 : Int, ∃ (r43 : Option Addr) (rL18 rC18 : Nat), ∃ r44 : Int, ∃ r45 : Int, ∃ (r46 : Option Addr) (rL19 rC19 : Nat), v11 = .tuple #[.agg #[.int .i64 r42, .slice r43 rL18 rC18], .agg #[.int .i64 r44, .int .i64 r45, .slice r46 rL19 rC19]] ∧
  Wr h67 ⟨b13, 0, none⟩ (.int .i64 r42) fun h68 =>
  Wr h68 ((⟨b13, 0, none⟩ : Addr).add 1) (.slice r43 rL18 rC18) fun h69 =>
  Wr h69 ⟨b16, 0, none⟩ (.int .i64 r44) fun h70 =>
  Wr h70 ((⟨b16, 0, none⟩ : Addr).add 1) (.int .i64 r45) fun h71 =>
  Wr h71 ((⟨b16, 0, none⟩ : Addr).add 2) (.slice r46 rL19 rC19) fun h72 =>
  r43_Do_b1 (some ⟨b2, 0, none⟩) (some ⟨b13, 0, none⟩) (some ⟨b16, 0, none⟩) h72  K)) ∧
  (New h2 (.cells #[.int .i64 0, .int .i64 0, .slice none 0 0] 61) fun b17 h73 =>
  (∃ n12 : Int, ∃ (a12 : Option Addr) (L12 C12 : Nat), cell h73 ⟨b1, 0, none⟩ = some (.int .i64 n12) ∧
  cell h73 ((⟨b1, 0, none⟩ : Addr).add 1) = some (.slice a12 L12 C12) ∧
  (.agg #[.int .i64 n12, .slice a12 L12 C12] : Value) = .agg #[.int .i64 n1, .slice a1 L1 C1]) ∧
  (HCalls Try.prog 58 #[.slice l lL lC] h73 fun v12 h74 => ∃ r47 : Int, ∃ (r48 : Option Addr) (rL20 rC20 : Nat), v12 = .agg #[.int .i64 r47, .slice r48 rL20 rC20] ∧
  (∃ n13 : Int, ∃ (a13 : Option Addr) (L13 C13 : Nat), cell h74 ⟨b1, 0, none⟩ = some (.int .i64 n13) ∧
  cell h74 ((⟨b1, 0, none⟩ : Addr).add 1) = some (.slice a13 L13 C13) ∧
  (.agg #[.int .i64 n13, .slice a13 L13 C13] : Value) = .agg #[.int .i64 n1, .slice a1 L1 C1]) ∧
  (HCalls Try.prog 57 #[.agg #[.int .i64 r47, .slice r48 rL20 rC20], .agg #[.int .i64 n1, .slice a1 L1 C1]] h74 fun v13 h75 => ∃ r49 : Int, ∃ (r50 : Option Addr) (rL21 rC21 : Nat), ∃ r51 : Int, ∃ r52 : Int, ∃ (r53 : Option Addr) (rL22 rC22 : Nat), v13 = .tuple #[.agg #[.int .i64 r49, .slice r50 rL21 rC21], .agg #[.int .i64 r51, .int .i64 r52, .slice r53 rL22 rC22]] ∧
  New h75 (.cells #[.int .i64 0, .slice none 0 0] 108) fun b18 h76 =>
  Wr h76 ⟨b18, 0, none⟩ (.int .i64 r49) fun h77 =>
  Wr h77 ((⟨b18, 0, none⟩ : Addr).add 1) (.slice r50 rL21 rC21) fun h78 =>
  Wr h78 ⟨b17, 0, none⟩ (.int .i64 r51) fun h79 =>
  Wr h79 ((⟨b17, 0, none⟩ : Addr).add 1) (.int .i64 r52) fun h80 =>
  Wr h80 ((⟨b17, 0, none⟩ : Addr).add 2) (.slice r53 rL22 rC22) fun h81 =>
  r43_Do_b1 (some ⟨b2, 0, none⟩) (some ⟨b18, 0, none⟩) (some ⟨b17, 0, none⟩) h81  K) ∧
  (New h74 (.cells #[.int .i64 0, .slice none 0 0] 108) fun b19 h82 =>
  (∃ n14 : Int, ∃ (a14 : Option Addr) (L14 C14 : Nat), cell h82 ⟨b1, 0, none⟩ = some (.int .i64 n14) ∧
  cell h82 ((⟨b1, 0, none⟩ : Addr).add 1) = some (.slice a14 L14 C14) ∧
  (.agg #[.int .i64 n14, .slice a14 L14 C14] : Value) = .agg #[.int .i64 n1, .slice a1 L1 C1]) ∧
  HCalls Try.prog 57 #[.agg #[.int .i64 r47, .slice r48 rL20 rC20], .agg #[.int .i64 n1, .slice a1 L1 C1]] h82 fun v14 h83 => ∃ r54 : Int, ∃ (r55 : Option Addr) (rL23 rC23 : Nat), ∃ r56 : Int, ∃ r57 : Int, ∃ (r58 : Option Addr) (rL24 rC24 : Nat), v14 = .tuple #[.agg #[.int .i64 r54, .slice r55 rL23 rC23], .agg #[.int .i64 r56, .int .i64 r57, .slice r58 rL24 rC24]] ∧
  Wr h83 ⟨b19, 0, none⟩ (.int .i64 r54) fun h84 =>
  Wr h84 ((⟨b19, 0, none⟩ : Addr).add 1) (.slice r55 rL23 rC23) fun h85 =>
  Wr h85 ⟨b17, 0, none⟩ (.int .i64 r56) fun h86 =>
  Wr h86 ((⟨b17, 0, none⟩ : Addr).add 1) (.int .i64 r57) fun h87 =>
  Wr h87 ((⟨b17, 0, none⟩ : Addr).add 2) (.slice r58 rL24 rC24) fun h88 =>
  r43_Do_b1 (some ⟨b2, 0, none⟩) (some ⟨b19, 0, none⟩) (some ⟨b17, 0, none⟩) h88  K)) ∧
  (New h73 (.cells #[.int .i64 0, .slice none 0 0] 108) fun b20 h89 =>
  (∃ n15 : Int, ∃ (a15 : Option Addr) (L15 C15 : Nat), cell h89 ⟨b1, 0, none⟩ = some (.int .i64 n15) ∧
  cell h89 ((⟨b1, 0, none⟩ : Addr).add 1) = some (.slice a15 L15 C15) ∧
  (.agg #[.int .i64 n15, .slice a15 L15 C15] : Value) = .agg #[.int .i64 n1, .slice a1 L1 C1]) ∧
  HCalls Try.prog 58 #[.slice l lL lC] h89 fun v15 h90 => ∃ r59 : Int, ∃ (r60 : Option Addr) (rL25 rC25 : Nat), v15 = .agg #[.int .i64 r59, .slice r60 rL25 rC25] ∧
  (∃ n16 : Int, ∃ (a16 : Option Addr) (L16 C16 : Nat), cell h90 ⟨b1, 0, none⟩ = some (.int .i64 n16) ∧
  cell h90 ((⟨b1, 0, none⟩ : Addr).add 1) = some (.slice a16 L16 C16) ∧
  (.agg #[.int .i64 n16, .slice a16 L16 C16] : Value) = .agg #[.int .i64 n1, .slice a1 L1 C1]) ∧
  HCalls Try.prog 57 #[.agg #[.int .i64 r59, .slice r60 rL25 rC25], .agg #[.int .i64 n1, .slice a1 L1 C1]] h90 fun v16 h91 => ∃ r61 : Int, ∃ (r62 : Option Addr) (rL26 rC26 : Nat), ∃ r63 : Int, ∃ r64 : Int, ∃ (r65 : Option Addr) (rL27 rC27 : Nat), v16 = .tuple #[.agg #[.int .i64 r61, .slice r62 rL26 rC26], .agg #[.int .i64 r63, .int .i64 r64, .slice r65 rL27 rC27]] ∧
  Wr h91 ⟨b20, 0, none⟩ (.int .i64 r61) fun h92 =>
  Wr h92 ((⟨b20, 0, none⟩ : Addr).add 1) (.slice r62 rL26 rC26) fun h93 =>
  Wr h93 ⟨b17, 0, none⟩ (.int .i64 r63) fun h94 =>
  Wr h94 ((⟨b17, 0, none⟩ : Addr).add 1) (.int .i64 r64) fun h95 =>
  Wr h95 ((⟨b17, 0, none⟩ : Addr).add 2) (.slice r65 rL27 rC27) fun h96 =>
  r43_Do_b1 (some ⟨b2, 0, none⟩) (some ⟨b20, 0, none⟩) (some ⟨b17, 0, none⟩) h96  K))) := by kernel_rfl
theorem r43_Do_b1_eq (t5 : Option Addr) (s : Option Addr) (r : Option Addr) (h : Hp)  (K : Value → Hp → Prop) : r43_Do_b1 t5 s r h  K = (
  LoopVC (((none, 0, 0), 0, ()) : (Option Addr × Nat × Nat) × Int × Unit) h (fun (nx0 : (Option Addr × Nat × Nat) × Int × Unit → Hp → Prop) (s1 : (Option Addr × Nat × Nat) × Int × Unit) h97 => r43_Do_b2 s1.1.1 s1.1.2.1 s1.1.2.2 s1.2.1 t5 s r h97 nx0 K)) := by kernel_rfl
theorem r43_Do_b2_eq (out : Option Addr) (outL : Nat) (outC : Nat) (i : Int) (t5 : Option Addr) (s : Option Addr) (r : Option Addr) (h : Hp) (nx0 : (Option Addr × Nat × Nat) × Int × Unit → Hp → Prop) (K : Value → Hp → Prop) : r43_Do_b2 out outL outC i t5 s r h nx0 K = (
  NN s fun a17 =>
  ∃ (a18 : Option Addr) (L17 C17 : Nat), cell h (a17.add 1) = some (.slice a18 L17 C17) ∧
  cond (decide (i < (L17 : Int)))
  (NN s fun a19 =>
  ∃ (a20 : Option Addr) (L18 C18 : Nat), cell h (a19.add 1) = some (.slice a20 L18 C18) ∧
  (0 ≤ i ∧ i < (L18 : Int)) ∧
  NN a20 fun a21 =>
  ∃ (a22 : Option Addr) (L19 C19 : Nat), cell h (a21.add (Int.toNat i * 1)) = some (.slice a22 L19 C19) ∧
  (0 ≤ (0 : Int) ∧ (0 : Int) < (L19 : Int)) ∧
  NN a22 fun a23 =>
  ∃ n17 : Int, cell h (a23.add (Int.toNat (0 : Int) * 1)) = some (.int .i64 n17) ∧
  NN s fun a24 =>
  ∃ (a25 : Option Addr) (L20 C20 : Nat), cell h (a24.add 1) = some (.slice a25 L20 C20) ∧
  (0 ≤ i ∧ i < (L20 : Int)) ∧
  NN a25 fun a26 =>
  ∃ (a27 : Option Addr) (L21 C21 : Nat), cell h (a26.add (Int.toNat i * 1)) = some (.slice a27 L21 C21) ∧
  (0 ≤ (1 : Int) ∧ (1 : Int) < (L21 : Int)) ∧
  NN a27 fun a28 =>
  ∃ n18 : Int, cell h (a28.add (Int.toNat (1 : Int) * 1)) = some (.int .i64 n18) ∧
  New h (.cells #[.int .i64 n17, .int .i64 n18] 40) fun b21 h98 =>
  appendV Try.prog 22 22 (.slice out outL outC) (.slice (some ⟨b21, 0, none⟩) 1 1) h98 (slK fun a29 l1 c1 h99 =>
  r43_Do_b3 t5 s r a29 l1 c1 i h99 nx0 K))
  (r43_Do_b4 t5 r out outL outC h  K)) := by kernel_rfl
theorem r43_Do_b3_eq (t5 : Option Addr) (s : Option Addr) (r : Option Addr) (out : Option Addr) (outL : Nat) (outC : Nat) (i : Int) (h : Hp) (nx0 : (Option Addr × Nat × Nat) × Int × Unit → Hp → Prop) (K : Value → Hp → Prop) : r43_Do_b3 t5 s r out outL outC i h nx0 K = (
  InR (i + 1) ∧
  nx0 ((out, outL, outC), i + 1, ()) h) := by kernel_rfl
theorem r43_Do_b4_eq (t5 : Option Addr) (r : Option Addr) (out : Option Addr) (outL : Nat) (outC : Nat) (h : Hp)  (K : Value → Hp → Prop) : r43_Do_b4 t5 r out outL outC h  K = (
  NN r fun a30 =>
  ∃ n19 : Int, ∃ n20 : Int, ∃ (a31 : Option Addr) (L22 C22 : Nat), cell h a30 = some (.int .i64 n19) ∧
  cell h (a30.add 1) = some (.int .i64 n20) ∧
  cell h (a30.add 2) = some (.slice a31 L22 C22) ∧
  NN t5 fun a32 =>
  Wr h a32 (.int .i64 n19) fun h100 =>
  Wr h100 (a32.add 1) (.int .i64 n20) fun h101 =>
  Wr h101 (a32.add 2) (.slice a31 L22 C22) fun h102 =>
  NN t5 fun a33 =>
  ∃ r66 : Int, ∃ r67 : Int, ∃ (r68 : Option Addr) (rL28 rC28 : Nat), cell h102 a33 = some (.int .i64 r66) ∧
  cell h102 (a33.add 1) = some (.int .i64 r67) ∧
  cell h102 (a33.add 2) = some (.slice r68 rL28 rC28) ∧
  K (.tuple #[.slice out outL outC, .agg #[.int .i64 r66, .int .i64 r67, .slice r68 rL28 rC28]]) h102) := by kernel_rfl
theorem r43_Do_call {l : Option Addr} {lL : Nat} {lC : Nat} {o_0 : Int} {o_1 : Option Addr} {o_1L : Nat} {o_1C : Nat} {h : Hp} {K : Value → Hp → Prop} (hk : r43_Do_b0 l lL lC o_0 o_1 o_1L o_1C h K) : HCalls Try.prog 28 #[.slice l lL lC, .agg #[.int .i64 o_0, .slice o_1 o_1L o_1C]] h K :=
  calls_of_snd r43_Do_an Try.func28 (c := bodyOf Try.f28) rfl Try.ntmps28 (Nat.le_of_ble_eq_true rfl) (snd_4 F_ok F_mixed) hk

/-! ### btree_Tree_Get -/
def btree_Tree_Get_an : Ann := .node none (.leaf) (.node (some [0, 1]) (.leaf) (.node none (.leaf) (.node (some [7]) (.leaf) (.leaf))))
def btree_Tree_Get_K0  (K : Value → Hp → Prop) : Exit → Env → Hp → Prop := retK Try.prog Try.f29.results.toList K
def btree_Tree_Get_b0 (t : Option Addr) (key : Int) (h : Hp)  (K : Value → Hp → Prop) : Prop :=
  sx_3 Try.prog F 32 (cp [] (bodyOf Try.f29)) (ap [] btree_Tree_Get_an) [(0, .pointer t), (1, .int .i64 key)] h (btree_Tree_Get_K0  K)
def btree_Tree_Get_b1 (t : Option Addr) (key : Int) (h : Hp)  (K : Value → Hp → Prop) : Prop :=
  sx_2 Try.prog F 32 (cp [1, 1] (bodyOf Try.f29)) (ap [1, 1] btree_Tree_Get_an) [(0, .pointer t), (1, .int .i64 key)] h (btree_Tree_Get_K0  K)
def btree_Tree_Get_b2 (v : Int) (h : Hp)  (K : Value → Hp → Prop) : Prop :=
  sx_1 Try.prog F 32 (cp [1, 1, 1, 1] (bodyOf Try.f29)) (ap [1, 1, 1, 1] btree_Tree_Get_an) [(7, .int .i64 v)] h (btree_Tree_Get_K0  K)
theorem btree_Tree_Get_b0_eq (t : Option Addr) (key : Int) (h : Hp)  (K : Value → Hp → Prop) : btree_Tree_Get_b0 t key h  K = (
  cond t.isNone
  (K (.tuple #[.int .i64 0, .int .i64 1]) h)
  (New h (.cells #[.int .i64 key] 3) fun b1 h1 =>
  HCalls Try.prog 33 #[.slice (some ⟨b1, 0, none⟩) 1 1] h1 fun v1 h2 => ∃ r1 : Bool, v1 = .bool r1 ∧
  cond (!r1)
  (K (.tuple #[.int .i64 0, .int .i64 1]) h2)
  (btree_Tree_Get_b1 t key h2  K))) := by kernel_rfl
theorem btree_Tree_Get_b1_eq (t : Option Addr) (key : Int) (h : Hp)  (K : Value → Hp → Prop) : btree_Tree_Get_b1 t key h  K = (
  HCalls Try.prog 59 #[.pointer t, .int .i64 key] h fun v2 h3 => ∃ r2 : Int, ∃ r3 : Int, ∃ r4 : Bool, v2 = .tuple #[.int .i64 r2, .int .i64 r3, .bool r4] ∧
  cond (!r4)
  (K (.tuple #[.int .i64 0, .int .i64 12]) h3)
  (cond (!decide (r2 = key))
  (K (.tuple #[.int .i64 0, .int .i64 12]) h3)
  (btree_Tree_Get_b2 r3 h3  K))) := by kernel_rfl
theorem btree_Tree_Get_b2_eq (v : Int) (h : Hp)  (K : Value → Hp → Prop) : btree_Tree_Get_b2 v h  K = (
  K (.tuple #[.int .i64 v, .int .i64 0]) h) := by kernel_rfl
theorem btree_Tree_Get_call {t : Option Addr} {key : Int} {h : Hp} {K : Value → Hp → Prop} (hk : btree_Tree_Get_b0 t key h K) : HCalls Try.prog 29 #[.pointer t, .int .i64 key] h K :=
  calls_of_snd btree_Tree_Get_an Try.func29 (c := bodyOf Try.f29) rfl Try.ntmps29 (Nat.le_of_ble_eq_true rfl) (snd_3 F_ok F_mixed) hk

/-! ### btree_Tree_Floor -/
def btree_Tree_Floor_an : Ann := .node none (.leaf) (.node (some [0, 1]) (.leaf) (.leaf))
def btree_Tree_Floor_K0  (K : Value → Hp → Prop) : Exit → Env → Hp → Prop := retK Try.prog Try.f30.results.toList K
def btree_Tree_Floor_b0 (t : Option Addr) (key : Int) (h : Hp)  (K : Value → Hp → Prop) : Prop :=
  sx_2 Try.prog F 29 (cp [] (bodyOf Try.f30)) (ap [] btree_Tree_Floor_an) [(0, .pointer t), (1, .int .i64 key)] h (btree_Tree_Floor_K0  K)
def btree_Tree_Floor_b1 (t : Option Addr) (key : Int) (h : Hp)  (K : Value → Hp → Prop) : Prop :=
  sx_1 Try.prog F 29 (cp [1, 1] (bodyOf Try.f30)) (ap [1, 1] btree_Tree_Floor_an) [(0, .pointer t), (1, .int .i64 key)] h (btree_Tree_Floor_K0  K)
theorem btree_Tree_Floor_b0_eq (t : Option Addr) (key : Int) (h : Hp)  (K : Value → Hp → Prop) : btree_Tree_Floor_b0 t key h  K = (
  cond t.isNone
  (K (.tuple #[.int .i64 0, .int .i64 0, .int .i64 1]) h)
  (New h (.cells #[.int .i64 key] 3) fun b1 h1 =>
  HCalls Try.prog 33 #[.slice (some ⟨b1, 0, none⟩) 1 1] h1 fun v1 h2 => ∃ r1 : Bool, v1 = .bool r1 ∧
  cond (!r1)
  (K (.tuple #[.int .i64 0, .int .i64 0, .int .i64 1]) h2)
  (btree_Tree_Floor_b1 t key h2  K))) := by kernel_rfl
theorem btree_Tree_Floor_b1_eq (t : Option Addr) (key : Int) (h : Hp)  (K : Value → Hp → Prop) : btree_Tree_Floor_b1 t key h  K = (
  HCalls Try.prog 59 #[.pointer t, .int .i64 key] h fun v2 h3 => ∃ r2 : Int, ∃ r3 : Int, ∃ r4 : Bool, v2 = .tuple #[.int .i64 r2, .int .i64 r3, .bool r4] ∧
  cond (!r4)
  (K (.tuple #[.int .i64 0, .int .i64 0, .int .i64 12]) h3)
  (K (.tuple #[.int .i64 r2, .int .i64 r3, .int .i64 0]) h3)) := by kernel_rfl
theorem btree_Tree_Floor_call {t : Option Addr} {key : Int} {h : Hp} {K : Value → Hp → Prop} (hk : btree_Tree_Floor_b0 t key h K) : HCalls Try.prog 30 #[.pointer t, .int .i64 key] h K :=
  calls_of_snd btree_Tree_Floor_an Try.func30 (c := bodyOf Try.f30) rfl Try.ntmps30 (Nat.le_of_ble_eq_true rfl) (snd_2 F_ok F_mixed) hk

/-! ### btree_Tree_Ceiling -/
def btree_Tree_Ceiling_an : Ann := .node none (.leaf) (.node (some [0, 1]) (.leaf) (.leaf))
def btree_Tree_Ceiling_K0  (K : Value → Hp → Prop) : Exit → Env → Hp → Prop := retK Try.prog Try.f31.results.toList K
def btree_Tree_Ceiling_b0 (t : Option Addr) (key : Int) (h : Hp)  (K : Value → Hp → Prop) : Prop :=
  sx_2 Try.prog F 29 (cp [] (bodyOf Try.f31)) (ap [] btree_Tree_Ceiling_an) [(0, .pointer t), (1, .int .i64 key)] h (btree_Tree_Ceiling_K0  K)
def btree_Tree_Ceiling_b1 (t : Option Addr) (key : Int) (h : Hp)  (K : Value → Hp → Prop) : Prop :=
  sx_1 Try.prog F 29 (cp [1, 1] (bodyOf Try.f31)) (ap [1, 1] btree_Tree_Ceiling_an) [(0, .pointer t), (1, .int .i64 key)] h (btree_Tree_Ceiling_K0  K)
theorem btree_Tree_Ceiling_b0_eq (t : Option Addr) (key : Int) (h : Hp)  (K : Value → Hp → Prop) : btree_Tree_Ceiling_b0 t key h  K = (
  cond t.isNone
  (K (.tuple #[.int .i64 0, .int .i64 0, .int .i64 1]) h)
  (New h (.cells #[.int .i64 key] 3) fun b1 h1 =>
  HCalls Try.prog 33 #[.slice (some ⟨b1, 0, none⟩) 1 1] h1 fun v1 h2 => ∃ r1 : Bool, v1 = .bool r1 ∧
  cond (!r1)
  (K (.tuple #[.int .i64 0, .int .i64 0, .int .i64 1]) h2)
  (btree_Tree_Ceiling_b1 t key h2  K))) := by kernel_rfl
theorem btree_Tree_Ceiling_b1_eq (t : Option Addr) (key : Int) (h : Hp)  (K : Value → Hp → Prop) : btree_Tree_Ceiling_b1 t key h  K = (
  HCalls Try.prog 60 #[.pointer t, .int .i64 key] h fun v2 h3 => ∃ r2 : Int, ∃ r3 : Int, ∃ r4 : Bool, v2 = .tuple #[.int .i64 r2, .int .i64 r3, .bool r4] ∧
  cond (!r4)
  (K (.tuple #[.int .i64 0, .int .i64 0, .int .i64 12]) h3)
  (K (.tuple #[.int .i64 r2, .int .i64 r3, .int .i64 0]) h3)) := by kernel_rfl
theorem btree_Tree_Ceiling_call {t : Option Addr} {key : Int} {h : Hp} {K : Value → Hp → Prop} (hk : btree_Tree_Ceiling_b0 t key h K) : HCalls Try.prog 31 #[.pointer t, .int .i64 key] h K :=
  calls_of_snd btree_Tree_Ceiling_an Try.func31 (c := bodyOf Try.f31) rfl Try.ntmps31 (Nat.le_of_ble_eq_true rfl) (snd_2 F_ok F_mixed) hk

/-! ### btree_Tree_Blocks -/
def btree_Tree_Blocks_an : Ann := .leaf
def btree_Tree_Blocks_K0  (K : Value → Hp → Prop) : Exit → Env → Hp → Prop := retK Try.prog Try.f32.results.toList K
def btree_Tree_Blocks_b0 (t : Option Addr) (h : Hp)  (K : Value → Hp → Prop) : Prop :=
  sx_1 Try.prog F 9 (cp [] (bodyOf Try.f32)) (ap [] btree_Tree_Blocks_an) [(0, .pointer t)] h (btree_Tree_Blocks_K0  K)
theorem btree_Tree_Blocks_b0_eq (t : Option Addr) (h : Hp)  (K : Value → Hp → Prop) : btree_Tree_Blocks_b0 t h  K = (
  cond t.isNone
  (K (.int .i64 0) h)
  (NN t fun a1 =>
  ∃ n1 : Int, cell h (a1.add 3) = some (.int .i64 n1) ∧
  K (.int .i64 n1) h)) := by kernel_rfl
theorem btree_Tree_Blocks_call {t : Option Addr} {h : Hp} {K : Value → Hp → Prop} (hk : btree_Tree_Blocks_b0 t h K) : HCalls Try.prog 32 #[.pointer t] h K :=
  calls_of_snd btree_Tree_Blocks_an Try.func32 (c := bodyOf Try.f32) rfl Try.ntmps32 (Nat.le_of_ble_eq_true rfl) (snd_1 F_ok F_mixed) hk

/-! ### btree_number -/
def btree_number_an : Ann := .leaf
def btree_number_K0  (K : Value → Hp → Prop) : Exit → Env → Hp → Prop := retK Try.prog Try.f33.results.toList K
def btree_number_b0 (l : Option Addr) (lL : Nat) (lC : Nat) (h : Hp)  (K : Value → Hp → Prop) : Prop :=
  sx_1 Try.prog F 6 (cp [] (bodyOf Try.f33)) (ap [] btree_number_an) [(0, .slice l lL lC)] h (btree_number_K0  K)
theorem btree_number_b0_eq (l : Option Addr) (lL : Nat) (lC : Nat) (h : Hp)  (K : Value → Hp → Prop) : btree_number_b0 l lL lC h  K = (
  HCalls Try.prog 61 #[.slice l lL lC, .func (.func 62) #[] #[]] h fun v1 h1 => ∃ r1 : Bool, v1 = .bool r1 ∧
  K (.bool (!r1)) h1) := by kernel_rfl
theorem btree_number_call {l : Option Addr} {lL : Nat} {lC : Nat} {h : Hp} {K : Value → Hp → Prop} (hk : btree_number_b0 l lL lC h K) : HCalls Try.prog 33 #[.slice l lL lC] h K :=
  calls_of_snd btree_number_an Try.func33 (c := bodyOf Try.f33) rfl Try.ntmps33 (Nat.le_of_ble_eq_true rfl) (snd_1 F_ok F_mixed) hk

/-! ### btree_Tree_put -/
def btree_Tree_put_an : Ann := .node none (.leaf) (.node none (.leaf) (.node none (.leaf) (.node none (.node none (.leaf) (.node none (.node none (.leaf) (.node none (.tail 15) (.leaf))) (.leaf))) (.node none (.leaf) (.node none (.leaf) (.node none (.leaf) (.node none (.leaf) (.node (some [0, 1, 2, 8, 15]) (.node none (.leaf) (.loop [0, 10, 11] [(1, .int .i64), (2, .int .i64), (8, .int .i64), (15, .ptr), (16, .int .i64)] (.node none (.leaf) (.node (some [0, 1, 2, 8, 10, 11, 15, 16]) (.node none (.leaf) (.node (some [0, 8, 10, 11, 15, 16, 17, 18]) (.plan (.qu 0 (.qu 1 (.qu 2 (.qu 3 (.qu 4 (.qu 5 (.qu 6 (.qu 7 (.qu 10 (.qu 11 (.qu 12 (.qu 13 (.qu 14 (.qu 15 (.wo 8 (.wo 9 (.wo 16 (.wo 17 (.qu 18 (.qu 19 (.wo 20 (.qu 21 (.qu 22 (.wo 23 .fin .no))) .no))) .no) .no) (.wo 16 (.wo 9 (.wo 17 (.qu 18 (.qu 19 (.wo 20 (.qu 21 (.qu 22 (.wo 23 .fin .no))) .no))) .no) .no) .no)) (.wo 16 (.wo 8 (.wo 9 (.wo 17 (.qu 18 (.qu 19 (.wo 20 (.qu 21 (.qu 22 (.wo 23 .fin .no))) .no))) .no) .no) .no) .no))))))))))))))))) (.node (some [0, 8, 10, 11, 16, 17]) (.leaf) (.leaf)))) (.leaf))))) (.leaf)))))))))
def btree_Tree_put_K0  (K : Value → Hp → Prop) : Exit → Env → Hp → Prop := retK Try.prog Try.f34.results.toList K
def btree_Tree_put_K1  (K : Value → Hp → Prop) : Exit → Env → Hp → Prop := thenE (fun env h => sx_3 Try.prog F 168 (cp [1, 1, 1, 1, 1, 1, 1, 1, 1] (bodyOf Try.f34)) (ap [1, 1, 1, 1, 1, 1, 1, 1, 1] btree_Tree_put_an) (rs [0, 1, 2, 8, 15] env) h (btree_Tree_put_K0  K)) (btree_Tree_put_K0  K)
def btree_Tree_put_K2  (K : Value → Hp → Prop) : Exit → Env → Hp → Prop := blockE 0 (btree_Tree_put_K1  K)
def btree_Tree_put_K3 (nx0 : Int × Int × Int × Option Addr × Int × Unit → Hp → Prop) (K : Value → Hp → Prop) : Exit → Env → Hp → Prop := thenE (fun env h => getV [(1, .int .i64), (2, .int .i64), (8, .int .i64), (15, .ptr), (16, .int .i64)] env fun s => nx0 s h) (btree_Tree_put_K2  K)
def btree_Tree_put_K4 (nx0 : Int × Int × Int × Option Addr × Int × Unit → Hp → Prop) (K : Value → Hp → Prop) : Exit → Env → Hp → Prop := thenE (fun env h => sx_2 Try.prog F 168 (cp [1, 1, 1, 1, 1, 1, 1, 1, 0, 1, 2, 2, 1, 1] (bodyOf Try.f34)) (ap [1, 1, 1, 1, 1, 1, 1, 1, 0, 1, 2, 1, 1] btree_Tree_put_an) (rs [0, 1, 2, 8, 10, 11, 15, 16] env) h (btree_Tree_put_K3 nx0 K)) (btree_Tree_put_K3 nx0 K)
def btree_Tree_put_K5 (nx0 : Int × Int × Int × Option Addr × Int × Unit → Hp → Prop) (K : Value → Hp → Prop) : Exit → Env → Hp → Prop := blockE 1 (btree_Tree_put_K4 nx0 K)
def btree_Tree_put_b0 (t : Option Addr) (key : Int) (value : Int) (h : Hp)  (K : Value → Hp → Prop) : Prop :=
  sx_4 Try.prog F 168 (cp [] (bodyOf Try.f34)) (ap [] btree_Tree_put_an) [(0, .pointer t), (1, .int .i64 key), (2, .int .i64 value)] h (btree_Tree_put_K0  K)
def btree_Tree_put_b1 (key : Int) (value : Int) (visits : Int) (right : Option Addr) (d : Int) (t : Option Addr) (nodes : Option Addr) (nodesL : Nat) (nodesC : Nat) (atv : Option Addr) (atvL : Nat) (atvC : Nat) (h : Hp) (nx0 : Int × Int × Int × Option Addr × Int × Unit → Hp → Prop) (K : Value → Hp → Prop) : Prop :=
  sx_3 Try.prog F 168 (cp [1, 1, 1, 1, 1, 1, 1, 1, 0, 1, 2, 2] (bodyOf Try.f34)) (ap [1, 1, 1, 1, 1, 1, 1, 1, 0, 1, 2] btree_Tree_put_an) [(1, .int .i64 key), (2, .int .i64 value), (8, .int .i64 visits), (15, .pointer right), (16, .int .i64 d), (0, .pointer t), (10, .slice nodes nodesL nodesC), (11, .slice atv atvL atvC)] h (btree_Tree_put_K3 nx0 K)
def btree_Tree_put_b2 (t : Option Addr) (visits : Int) (nodes : Option Addr) (nodesL : Nat) (nodesC : Nat) (atv : Option Addr) (atvL : Nat) (atvC : Nat) (right : Option Addr) (d : Int) (nv : Option Addr) (i : Int) (h : Hp) (nx0 : Int × Int × Int × Option Addr × Int × Unit → Hp → Prop) (K : Value → Hp → Prop) : Prop :=
  sx_2 Try.prog F 168 (cp [1, 1, 1, 1, 1, 1, 1, 1, 0, 1, 2, 2, 1, 0, 2, 1, 1] (bodyOf Try.f34)) (ap [1, 1, 1, 1, 1, 1, 1, 1, 0, 1, 2, 1, 0, 1, 1] btree_Tree_put_an) [(0, .pointer t), (8, .int .i64 visits), (10, .slice nodes nodesL nodesC), (11, .slice atv atvL atvC), (15, .pointer right), (16, .int .i64 d), (17, .pointer nv), (18, .int .i64 i)] h (btree_Tree_put_K5 nx0 K)
def btree_Tree_put_b3 (t : Option Addr) (key : Int) (value : Int) (visits : Int) (right : Option Addr) (h : Hp)  (K : Value → Hp → Prop) : Prop :=
  sx_3 Try.prog F 168 (cp [1, 1, 1, 1, 1, 1, 1, 1, 1] (bodyOf Try.f34)) (ap [1, 1, 1, 1, 1, 1, 1, 1, 1] btree_Tree_put_an) [(0, .pointer t), (1, .int .i64 key), (2, .int .i64 value), (8, .int .i64 visits), (15, .pointer right)] h (btree_Tree_put_K0  K)
def btree_Tree_put_b4 (t : Option Addr) (visits : Int) (nodes : Option Addr) (nodesL : Nat) (nodesC : Nat) (atv : Option Addr) (atvL : Nat) (atvC : Nat) (d : Int) (nv : Option Addr) (h : Hp) (nx0 : Int × Int × Int × Option Addr × Int × Unit → Hp → Prop) (K : Value → Hp → Prop) : Prop :=
  sx_1 Try.prog F 168 (cp [1, 1, 1, 1, 1, 1, 1, 1, 0, 1, 2, 2, 1, 0, 2, 1, 1, 1] (bodyOf Try.f34)) (ap [1, 1, 1, 1, 1, 1, 1, 1, 0, 1, 2, 1, 0, 1, 1, 1] btree_Tree_put_an) [(0, .pointer t), (8, .int .i64 visits), (10, .slice nodes nodesL nodesC), (11, .slice atv atvL atvC), (16, .int .i64 d), (17, .pointer nv)] h (btree_Tree_put_K5 nx0 K)
def btree_Tree_put_b5 (t : Option Addr) (key : Int) (value : Int) (visits : Int) (nodes : Option Addr) (nodesL : Nat) (nodesC : Nat) (atv : Option Addr) (atvL : Nat) (atvC : Nat) (right : Option Addr) (d : Int) (h : Hp) (nx0 : Int × Int × Int × Option Addr × Int × Unit → Hp → Prop) (K : Value → Hp → Prop) : Prop :=
  sx_2 Try.prog F 168 (cp [1, 1, 1, 1, 1, 1, 1, 1, 0, 1, 2, 2, 1, 1] (bodyOf Try.f34)) (ap [1, 1, 1, 1, 1, 1, 1, 1, 0, 1, 2, 1, 1] btree_Tree_put_an) [(0, .pointer t), (1, .int .i64 key), (2, .int .i64 value), (8, .int .i64 visits), (10, .slice nodes nodesL nodesC), (11, .slice atv atvL atvC), (15, .pointer right), (16, .int .i64 d)] h (btree_Tree_put_K3 nx0 K)
theorem btree_Tree_put_b0_eq (t : Option Addr) (key : Int) (value : Int) (h : Hp)  (K : Value → Hp → Prop) : btree_Tree_put_b0 t key value h  K = (
  HCalls Try.prog 41 #[.pointer t, .int .i64 key] h fun v1 h1 => ∃ (r1 : Option Addr) (rL1 rC1 : Nat), ∃ (r2 : Option Addr) (rL2 rC2 : Nat), ∃ r3 : Bool, v1 = .tuple #[.slice r1 rL1 rC1, .slice r2 rL2 rC2, .bool r3] ∧
  cond r3
  (InR ((rL1 : Int) - 1) ∧
  (0 ≤ (rL1 : Int) - 1 ∧ (rL1 : Int) - 1 < (rL1 : Int)) ∧
  NN r1 fun a1 =>
  ∃ p1 : Option Addr, cell h1 (a1.add (Int.toNat ((rL1 : Int) - 1) * 1)) = some (.pointer p1) ∧
  InR ((rL2 : Int) - 1) ∧
  (0 ≤ (rL2 : Int) - 1 ∧ (rL2 : Int) - 1 < (rL2 : Int)) ∧
  NN r2 fun a2 =>
  ∃ n1 : Int, cell h1 (a2.add (Int.toNat ((rL2 : Int) - 1) * 1)) = some (.int .i64 n1) ∧
  NN p1 fun a3 =>
  ∃ (a4 : Option Addr) (L1 C1 : Nat), cell h1 (a3.add 1) = some (.slice a4 L1 C1) ∧
  NN p1 fun a5 =>
  ∃ (a6 : Option Addr) (L2 C2 : Nat), cell h1 (a5.add 1) = some (.slice a6 L2 C2) ∧
  (0 ≤ n1 ∧ n1 < (L2 : Int)) ∧
  NN a6 fun a7 =>
  ∃ n2 : Int, cell h1 (a7.add (Int.toNat n1 * 1)) = some (.int .i64 n2) ∧
  (0 ≤ n1 ∧ n1 < (L1 : Int)) ∧
  NN a4 fun a8 =>
  Wr h1 (a8.add (Int.toNat n1 * 1)) (.int .i64 value) fun h2 =>
  K (.tuple #[.int .i64 n2, .bool true, .int .i64 (rL1 : Int), .int .i64 0]) h2)
  (NN t fun a9 =>
  ∃ n3 : Int, cell h1 (a9.add 1) = some (.int .i64 n3) ∧
  cond (decide ((2000 : Int) ≤ n3))
  (K (.tuple #[.int .i64 0, .bool false, .int .i64 0, .int .i64 4]) h1)
  (NN t fun a10 =>
  ∃ n4 : Int, cell h1 (a10.add 1) = some (.int .i64 n4) ∧
  InR (n4 + 1) ∧
  NN t fun a11 =>
  Wr h1 (a11.add 1) (.int .i64 (n4 + 1)) fun h3 =>
  cond (decide ((rL1 : Int) = 0))
  (New h3 (.cells #[.int .i64 key] 3) fun b1 h4 =>
  New h4 (.cells #[.int .i64 value] 3) fun b2 h5 =>
  New h5 (.cells #[.slice (some ⟨b1, 0, none⟩) 1 1, .slice (some ⟨b2, 0, none⟩) 1 1, .slice none 0 0] 89) fun b3 h6 =>
  NN t fun a12 =>
  Wr h6 (a12.add 2) (.pointer (some ⟨b3, 0, none⟩)) fun h7 =>
  K (.tuple #[.int .i64 0, .bool false, .int .i64 1, .int .i64 0]) h7)
  (InR ((rL1 : Int) - 1) ∧
  LoopVC ((key, value, (rL1 : Int), none, (rL1 : Int) - 1, ()) : Int × Int × Int × Option Addr × Int × Unit) h3 (fun (nx0 : Int × Int × Int × Option Addr × Int × Unit → Hp → Prop) (s1 : Int × Int × Int × Option Addr × Int × Unit) h8 => btree_Tree_put_b1 s1.1 s1.2.1 s1.2.2.1 s1.2.2.2.1 s1.2.2.2.2.1 t r1 rL1 rC1 r2 rL2 rC2 h8 nx0 K))))) := by kernel_rfl
theorem btree_Tree_put_b1_eq (key : Int) (value : Int) (visits : Int) (right : Option Addr) (d : Int) (t : Option Addr) (nodes : Option Addr) (nodesL : Nat) (nodesC : Nat) (atv : Option Addr) (atvL : Nat) (atvC : Nat) (h : Hp) (nx0 : Int × Int × Int × Option Addr × Int × Unit → Hp → Prop) (K : Value → Hp → Prop) : btree_Tree_put_b1 key value visits right d t nodes nodesL nodesC atv atvL atvC h nx0 K = (
  cond (decide ((0 : Int) ≤ d))
  ((0 ≤ d ∧ d < (nodesL : Int)) ∧
  NN nodes fun a13 =>
  ∃ p2 : Option Addr, cell h (a13.add (Int.toNat d * 1)) = some (.pointer p2) ∧
  (0 ≤ d ∧ d < (atvL : Int)) ∧
  NN atv fun a14 =>
  ∃ n5 : Int, cell h (a14.add (Int.toNat d * 1)) = some (.int .i64 n5) ∧
  NN p2 fun a15 =>
  ∃ (a16 : Option Addr) (L3 C3 : Nat), cell h a15 = some (.slice a16 L3 C3) ∧
  NN p2 fun a17 =>
  ∃ (a18 : Option Addr) (L4 C4 : Nat), cell h (a17.add 1) = some (.slice a18 L4 C4) ∧
  (New h (.cells #[.int .i64 key] 3) fun b4 h9 =>
  (∃ (a19 : Option Addr) (L5 C5 : Nat), cell h9 (a17.add 1) = some (.slice a19 L5 C5) ∧
  (.slice a19 L5 C5 : Value) = .slice a18 L4 C4) ∧
  (∃ (a20 : Option Addr) (L6 C6 : Nat), cell h9 a15 = some (.slice a20 L6 C6) ∧
  (.slice a20 L6 C6 : Value) = .slice a16 L3 C3) ∧
  (HCalls Try.prog 63 #[.slice a16 L3 C3, .int .i64 n5, .slice (some ⟨b4, 0, none⟩) 1 1] h9 fun v2 h10 => ∃ (r4 : Option Addr) (rL3 rC3 : Nat), v2 = .slice r4 rL3 rC3 ∧
  (∃ (a21 : Option Addr) (L7 C7 : Nat), cell h10 (a17.add 1) = some (.slice a21 L7 C7) ∧
  (.slice a21 L7 C7 : Value) = .slice a18 L4 C4) ∧
  New h10 (.cells #[.int .i64 value] 3) fun b5 h11 =>
  (∃ (a22 : Option Addr) (L8 C8 : Nat), cell h11 (a17.add 1) = some (.slice a22 L8 C8) ∧
  (.slice a22 L8 C8 : Value) = .slice a18 L4 C4) ∧
  HCalls Try.prog 63 #[.slice a18 L4 C4, .int .i64 n5, .slice (some ⟨b5, 0, none⟩) 1 1] h11 fun v3 h12 => ∃ (r5 : Option Addr) (rL4 rC4 : Nat), v3 = .slice r5 rL4 rC4 ∧
  NN p2 fun a23 =>
  Wr h12 a23 (.slice r4 rL3 rC3) fun h13 =>
  NN p2 fun a24 =>
  Wr h13 (a24.add 1) (.slice r5 rL4 rC4) fun h14 =>
  btree_Tree_put_b2 t visits nodes nodesL nodesC atv atvL atvC right d p2 n5 h14 nx0 K) ∧
  (New h9 (.cells #[.int .i64 value] 3) fun b6 h15 =>
  (∃ (a25 : Option Addr) (L9 C9 : Nat), cell h15 (a17.add 1) = some (.slice a25 L9 C9) ∧
  (.slice a25 L9 C9 : Value) = .slice a18 L4 C4) ∧
  (∃ (a26 : Option Addr) (L10 C10 : Nat), cell h15 a15 = some (.slice a26 L10 C10) ∧
  (.slice a26 L10 C10 : Value) = .slice a16 L3 C3) ∧
  HCalls Try.prog 63 #[.slice a16 L3 C3, .int .i64 n5, .slice (some ⟨b4, 0, none⟩) 1 1] h15 fun v4 h16 => ∃ (r6 : Option Addr) (rL5 rC5 : Nat), v4 = .slice r6 rL5 rC5 ∧
  (∃ (a27 : Option Addr) (L11 C11 : Nat), cell h16 (a17.add 1) = some (.slice a27 L11 C11) ∧
  (.slice a27 L11 C11 : Value) = .slice a18 L4 C4) ∧
  HCalls Try.prog 63 #[.slice a18 L4 C4, .int .i64 n5, .slice (some ⟨b6, 0, none⟩) 1 1] h16 fun v5 h17 => ∃ (r7 : Option Addr) (rL6 rC6 : Nat), v5 = .slice r7 rL6 rC6 ∧
  NN p2 fun a28 =>
  Wr h17 a28 (.slice r6 rL5 rC5) fun h18 =>
  NN p2 fun a29 =>
  Wr h18 (a29.add 1) (.slice r7 rL6 rC6) fun h19 =>
  btree_Tree_put_b2 t visits nodes nodesL nodesC atv atvL atvC right d p2 n5 h19 nx0 K)) ∧
  (New h (.cells #[.int .i64 value] 3) fun b7 h20 =>
  (∃ (a30 : Option Addr) (L12 C12 : Nat), cell h20 (a17.add 1) = some (.slice a30 L12 C12) ∧
  (.slice a30 L12 C12 : Value) = .slice a18 L4 C4) ∧
  (∃ (a31 : Option Addr) (L13 C13 : Nat), cell h20 a15 = some (.slice a31 L13 C13) ∧
  (.slice a31 L13 C13 : Value) = .slice a16 L3 C3) ∧
  New h20 (.cells #[.int .i64 key] 3) fun b8 h21 =>
  (∃ (a32 : Option Addr) (L14 C14 : Nat), cell h21 (a17.add 1) = some (.slice a32 L14 C14) ∧
  (.slice a32 L14 C14 : Value) = .slice a18 L4 C4) ∧
  (∃ (a33 : Option Addr) (L15 C15 : Nat), cell h21 a15 = some (.slice a33 L15 C15) ∧
  (.slice a33 L15 C15 : Value) = .slice a16 L3 C3) ∧
  HCalls Try.prog 63 #[.slice a16 L3 C3, .int .i64 n5, .slice (some ⟨b8, 0, none⟩) 1 1] h21 fun v6 h22 => ∃ (r8 : Option Addr) (rL7 rC7 : Nat), v6 = .slice r8 rL7 rC7 ∧
  (∃ (a34 : Option Addr) (L16 C16 : Nat), cell h22 (a17.add 1) = some (.slice a34 L16 C16) ∧
  (.slice a34 L16 C16 : Value) = .slice a18 L4 C4) ∧
  HCalls Try.prog 63 #[.slice a18 L4 C4, .int .i64 n5, .slice (some ⟨b7, 0, none⟩) 1 1] h22 fun v7 h23 => ∃ (r9 : Option Addr) (rL8 rC8 : Nat), v7 = .slice r9 rL8 rC8 ∧
  NN p2 fun a35 =>
  Wr h23 a35 (.slice r8 rL7 rC7) fun h24 =>
  NN p2 fun a36 =>
  Wr h24 (a36.add 1) (.slice r9 rL8 rC8) fun h25 =>
  btree_Tree_put_b2 t visits nodes nodesL nodesC atv atvL atvC right d p2 n5 h25 nx0 K))
  (btree_Tree_put_b3 t key value visits right h  K)) := by kernel_rfl
theorem btree_Tree_put_b2_eq (t : Option Addr) (visits : Int) (nodes : Option Addr) (nodesL : Nat) (nodesC : Nat) (atv : Option Addr) (atvL : Nat) (atvC : Nat) (right : Option Addr) (d : Int) (nv : Option Addr) (i : Int) (h : Hp) (nx0 : Int × Int × Int × Option Addr × Int × Unit → Hp → Prop) (K : Value → Hp → Prop) : btree_Tree_put_b2 t visits nodes nodesL nodesC atv atvL atvC right d nv i h nx0 K = (
  cond (!right.isNone)
  (NN nv fun a37 =>
  ∃ (a38 : Option Addr) (L17 C17 : Nat), cell h (a37.add 2) = some (.slice a38 L17 C17) ∧
  InR (i + 1) ∧
  New h (.cells #[.pointer right] 73) fun b9 h26 =>
  HCalls Try.prog 64 #[.slice a38 L17 C17, .int .i64 (i + 1), .slice (some ⟨b9, 0, none⟩) 1 1] h26 fun v8 h27 => ∃ (r10 : Option Addr) (rL9 rC9 : Nat), v8 = .slice r10 rL9 rC9 ∧
  NN nv fun a39 =>
  Wr h27 (a39.add 2) (.slice r10 rL9 rC9) fun h28 =>
  btree_Tree_put_b4 t visits nodes nodesL nodesC atv atvL atvC d nv h28 nx0 K)
  (btree_Tree_put_b4 t visits nodes nodesL nodesC atv atvL atvC d nv h nx0 K)) := by kernel_rfl
theorem btree_Tree_put_b3_eq (t : Option Addr) (key : Int) (value : Int) (visits : Int) (right : Option Addr) (h : Hp)  (K : Value → Hp → Prop) : btree_Tree_put_b3 t key value visits right h  K = (
  New h (.cells #[.int .i64 key] 3) fun b10 h29 =>
  New h29 (.cells #[.int .i64 value] 3) fun b11 h30 =>
  NN t fun a40 =>
  ∃ p3 : Option Addr, cell h30 (a40.add 2) = some (.pointer p3) ∧
  New h30 (.cells #[.pointer p3, .pointer right] 73) fun b12 h31 =>
  New h31 (.cells #[.slice (some ⟨b10, 0, none⟩) 1 1, .slice (some ⟨b11, 0, none⟩) 1 1, .slice (some ⟨b12, 0, none⟩) 2 2] 89) fun b13 h32 =>
  NN t fun a41 =>
  Wr h32 (a41.add 2) (.pointer (some ⟨b13, 0, none⟩)) fun h33 =>
  InR (visits + 1) ∧
  K (.tuple #[.int .i64 0, .bool false, .int .i64 (visits + 1), .int .i64 0]) h33) := by kernel_rfl
theorem btree_Tree_put_b4_eq (t : Option Addr) (visits : Int) (nodes : Option Addr) (nodesL : Nat) (nodesC : Nat) (atv : Option Addr) (atvL : Nat) (atvC : Nat) (d : Int) (nv : Option Addr) (h : Hp) (nx0 : Int × Int × Int × Option Addr × Int × Unit → Hp → Prop) (K : Value → Hp → Prop) : btree_Tree_put_b4 t visits nodes nodesL nodesC atv atvL atvC d nv h nx0 K = (
  NN nv fun a42 =>
  ∃ (a43 : Option Addr) (L18 C18 : Nat), cell h a42 = some (.slice a43 L18 C18) ∧
  NN t fun a44 =>
  ∃ n6 : Int, cell h a44 = some (.int .i64 n6) ∧
  cond (decide ((L18 : Int) < n6))
  (K (.tuple #[.int .i64 0, .bool false, .int .i64 visits, .int .i64 0]) h)
  (HCalls Try.prog 65 #[.pointer nv] h fun v9 h34 => ∃ r11 : Int, ∃ r12 : Int, ∃ r13 : Option Addr, v9 = .tuple #[.int .i64 r11, .int .i64 r12, .pointer r13] ∧
  InR (visits + 1) ∧
  btree_Tree_put_b5 t r11 r12 (visits + 1) nodes nodesL nodesC atv atvL atvC r13 d h34 nx0 K)) := by kernel_rfl
theorem btree_Tree_put_b5_eq (t : Option Addr) (key : Int) (value : Int) (visits : Int) (nodes : Option Addr) (nodesL : Nat) (nodesC : Nat) (atv : Option Addr) (atvL : Nat) (atvC : Nat) (right : Option Addr) (d : Int) (h : Hp) (nx0 : Int × Int × Int × Option Addr × Int × Unit → Hp → Prop) (K : Value → Hp → Prop) : btree_Tree_put_b5 t key value visits nodes nodesL nodesC atv atvL atvC right d h nx0 K = (
  InR (d - 1) ∧
  nx0 (key, value, visits, right, d - 1, ()) h) := by kernel_rfl
theorem btree_Tree_put_call {t : Option Addr} {key : Int} {value : Int} {h : Hp} {K : Value → Hp → Prop} (hk : btree_Tree_put_b0 t key value h K) : HCalls Try.prog 34 #[.pointer t, .int .i64 key, .int .i64 value] h K :=
  calls_of_snd btree_Tree_put_an Try.func34 (c := bodyOf Try.f34) rfl Try.ntmps34 (Nat.le_of_ble_eq_true rfl) (snd_4 F_ok F_mixed) hk

/-! ### r43_Key -/
def r43_Key_an : Ann := .leaf
def r43_Key_K0  (K : Value → Hp → Prop) : Exit → Env → Hp → Prop := retK Try.prog Try.f35.results.toList K
def r43_Key_b0 (nv : Int) (h : Hp)  (K : Value → Hp → Prop) : Prop :=
  sx_1 Try.prog F 9 (cp [] (bodyOf Try.f35)) (ap [] r43_Key_an) [(0, .int .i64 nv)] h (r43_Key_K0  K)
theorem r43_Key_b0_eq (nv : Int) (h : Hp)  (K : Value → Hp → Prop) : r43_Key_b0 nv h  K = (
  cond (decide (((-1048576) : Int) ≤ nv))
  (K (.bool (decide (nv ≤ 1048576))) h)
  (K (.bool false) h)) := by kernel_rfl
theorem r43_Key_call {nv : Int} {h : Hp} {K : Value → Hp → Prop} (hk : r43_Key_b0 nv h K) : HCalls Try.prog 35 #[.int .i64 nv] h K :=
  calls_of_snd r43_Key_an Try.func35 (c := bodyOf Try.f35) rfl Try.ntmps35 (Nat.le_of_ble_eq_true rfl) (snd_1 F_ok F_mixed) hk

/-! ### btree_node_walk -/
def btree_node_walk_an : Ann := .node none (.leaf) (.node none (.leaf) (.node (some [0, 1]) (.node none (.leaf) (.loop [0, 1, 12, 13] [(14, .int .i64)] (.node none (.leaf) (.node none (.leaf) (.node (some [0, 1, 12, 13, 14]) (.leaf) (.leaf)))))) (.node none (.tail 15) (.leaf))))
def btree_node_walk_K0  (K : Value → Hp → Prop) : Exit → Env → Hp → Prop := retK Try.prog Try.f36.results.toList K
def btree_node_walk_K1  (K : Value → Hp → Prop) : Exit → Env → Hp → Prop := thenE (fun env h => sx_2 Try.prog F 65 (cp [1, 1, 1] (bodyOf Try.f36)) (ap [1, 1, 1] btree_node_walk_an) (rs [0, 1] env) h (btree_node_walk_K0  K)) (btree_node_walk_K0  K)
def btree_node_walk_K2  (K : Value → Hp → Prop) : Exit → Env → Hp → Prop := blockE 0 (btree_node_walk_K1  K)
def btree_node_walk_K3 (nx0 : Int × Unit → Hp → Prop) (K : Value → Hp → Prop) : Exit → Env → Hp → Prop := thenE (fun env h => getV [(14, .int .i64)] env fun s => nx0 s h) (btree_node_walk_K2  K)
def btree_node_walk_b0 (nv : Option Addr) (f : Value) (h : Hp)  (K : Value → Hp → Prop) : Prop :=
  sx_3 Try.prog F 65 (cp [] (bodyOf Try.f36)) (ap [] btree_node_walk_an) [(0, .pointer nv), (1, f)] h (btree_node_walk_K0  K)
def btree_node_walk_b1 (t14 : Int) (nv : Option Addr) (f : Value) (t12 : Option Addr) (t12L : Nat) (t12C : Nat) (t13 : Int) (h : Hp) (nx0 : Int × Unit → Hp → Prop) (K : Value → Hp → Prop) : Prop :=
  sx_2 Try.prog F 65 (cp [1, 1, 0, 1, 2, 2] (bodyOf Try.f36)) (ap [1, 1, 0, 1, 2] btree_node_walk_an) [(14, .int .i64 t14), (0, .pointer nv), (1, f), (12, .slice t12 t12L t12C), (13, .int .i64 t13)] h (btree_node_walk_K3 nx0 K)
def btree_node_walk_b2 (nv : Option Addr) (f : Value) (t12 : Option Addr) (t12L : Nat) (t12C : Nat) (t13 : Int) (t14 : Int) (h : Hp) (nx0 : Int × Unit → Hp → Prop) (K : Value → Hp → Prop) : Prop :=
  sx_1 Try.prog F 65 (cp [1, 1, 0, 1, 2, 2, 1, 1, 1] (bodyOf Try.f36)) (ap [1, 1, 0, 1, 2, 1, 1, 1] btree_node_walk_an) [(0, .pointer nv), (1, f), (12, .slice t12 t12L t12C), (13, .int .i64 t13), (14, .int .i64 t14)] h (btree_node_walk_K3 nx0 K)
def btree_node_walk_b3 (nv : Option Addr) (f : Value) (h : Hp)  (K : Value → Hp → Prop) : Prop :=
  sx_2 Try.prog F 65 (cp [1, 1, 1] (bodyOf Try.f36)) (ap [1, 1, 1] btree_node_walk_an) [(0, .pointer nv), (1, f)] h (btree_node_walk_K0  K)
theorem btree_node_walk_b0_eq (nv : Option Addr) (f : Value) (h : Hp)  (K : Value → Hp → Prop) : btree_node_walk_b0 nv f h  K = (
  cond nv.isNone
  (K (.bool true) h)
  (NN nv fun a1 =>
  ∃ (a2 : Option Addr) (L1 C1 : Nat), cell h a1 = some (.slice a2 L1 C1) ∧
  LoopVC ((0, ()) : Int × Unit) h (fun (nx0 : Int × Unit → Hp → Prop) (s1 : Int × Unit) h1 => btree_node_walk_b1 s1.1 nv f a2 L1 C1 (L1 : Int) h1 nx0 K))) := by kernel_rfl
theorem btree_node_walk_b1_eq (t14 : Int) (nv : Option Addr) (f : Value) (t12 : Option Addr) (t12L : Nat) (t12C : Nat) (t13 : Int) (h : Hp) (nx0 : Int × Unit → Hp → Prop) (K : Value → Hp → Prop) : btree_node_walk_b1 t14 nv f t12 t12L t12C t13 h nx0 K = (
  cond (decide (t14 < t13))
  ((0 ≤ t14 ∧ t14 < (t12L : Int)) ∧
  NN t12 fun a3 =>
  ∃ n1 : Int, cell h (a3.add (Int.toNat t14 * 1)) = some (.int .i64 n1) ∧
  HCalls Try.prog 42 #[.pointer nv] h fun v1 h2 => ∃ r1 : Bool, v1 = .bool r1 ∧
  cond (!r1)
  (NN nv fun a4 =>
  ∃ (a5 : Option Addr) (L2 C2 : Nat), cell h2 (a4.add 2) = some (.slice a5 L2 C2) ∧
  (0 ≤ t14 ∧ t14 < (L2 : Int)) ∧
  NN a5 fun a6 =>
  ∃ p1 : Option Addr, cell h2 (a6.add (Int.toNat t14 * 1)) = some (.pointer p1) ∧
  HCalls Try.prog 36 #[.pointer p1, f] h2 fun v2 h3 => ∃ r2 : Bool, v2 = .bool r2 ∧
  cond (!r2)
  (K (.bool false) h3)
  (NN nv fun a7 =>
  ∃ (a8 : Option Addr) (L3 C3 : Nat), cell h3 (a7.add 1) = some (.slice a8 L3 C3) ∧
  (0 ≤ t14 ∧ t14 < (L3 : Int)) ∧
  NN a8 fun a9 =>
  ∃ n2 : Int, cell h3 (a9.add (Int.toNat t14 * 1)) = some (.int .i64 n2) ∧
  funV f fun fg1 fa1 fc1 => callX Try.prog F fg1 (fa1 ++ (([.int .i64 n1, .int .i64 n2] : List Value) ++ fc1)).toArray h3 fun v3 h4 => ∃ r3 : Bool, v3 = .bool r3 ∧
  cond (!r3)
  (K (.bool false) h4)
  (btree_node_walk_b2 nv f t12 t12L t12C t13 t14 h4 nx0 K)))
  (NN nv fun a10 =>
  ∃ (a11 : Option Addr) (L4 C4 : Nat), cell h2 (a10.add 1) = some (.slice a11 L4 C4) ∧
  (0 ≤ t14 ∧ t14 < (L4 : Int)) ∧
  NN a11 fun a12 =>
  ∃ n3 : Int, cell h2 (a12.add (Int.toNat t14 * 1)) = some (.int .i64 n3) ∧
  funV f fun fg2 fa2 fc2 => callX Try.prog F fg2 (fa2 ++ (([.int .i64 n1, .int .i64 n3] : List Value) ++ fc2)).toArray h2 fun v4 h5 => ∃ r4 : Bool, v4 = .bool r4 ∧
  cond (!r4)
  (K (.bool false) h5)
  (btree_node_walk_b2 nv f t12 t12L t12C t13 t14 h5 nx0 K)))
  (btree_node_walk_b3 nv f h  K)) := by kernel_rfl
theorem btree_node_walk_b2_eq (nv : Option Addr) (f : Value) (t12 : Option Addr) (t12L : Nat) (t12C : Nat) (t13 : Int) (t14 : Int) (h : Hp) (nx0 : Int × Unit → Hp → Prop) (K : Value → Hp → Prop) : btree_node_walk_b2 nv f t12 t12L t12C t13 t14 h nx0 K = (
  InR (t14 + 1) ∧
  nx0 (t14 + 1, ()) h) := by kernel_rfl
theorem btree_node_walk_b3_eq (nv : Option Addr) (f : Value) (h : Hp)  (K : Value → Hp → Prop) : btree_node_walk_b3 nv f h  K = (
  ∃ r5 : Bool, HCalls Try.prog 42 #[.pointer nv] h (fun v5 h6 => v5 = .bool r5 ∧ h6 = h) ∧
  cond r5
  (K (.bool true) h)
  (NN nv fun a13 =>
  ∃ (a14 : Option Addr) (L5 C5 : Nat), cell h (a13.add 2) = some (.slice a14 L5 C5) ∧
  NN nv fun a15 =>
  ∃ (a16 : Option Addr) (L6 C6 : Nat), cell h a15 = some (.slice a16 L6 C6) ∧
  (0 ≤ (L6 : Int) ∧ (L6 : Int) < (L5 : Int)) ∧
  NN a14 fun a17 =>
  ∃ p2 : Option Addr, cell h (a17.add (Int.toNat (L6 : Int) * 1)) = some (.pointer p2) ∧
  HCalls Try.prog 36 #[.pointer p2, f] h fun v6 h7 => ∃ r6 : Bool, v6 = .bool r6 ∧
  K (.bool r6) h7)) := by kernel_rfl
theorem btree_node_walk_call {nv : Option Addr} {f : Value} {h : Hp} {K : Value → Hp → Prop} (hk : btree_node_walk_b0 nv f h K) : HCalls Try.prog 36 #[.pointer nv, f] h K :=
  calls_of_snd btree_node_walk_an Try.func36 (c := bodyOf Try.f36) rfl Try.ntmps36 (Nat.le_of_ble_eq_true rfl) (snd_3 F_ok F_mixed) hk

/-! ### btree_Tree_Scan_c1 -/
def btree_Tree_Scan_c1_an : Ann := .node none (.leaf) (.node (some [0, 3, 4]) (.leaf) (.leaf))
def btree_Tree_Scan_c1_K0  (K : Value → Hp → Prop) : Exit → Env → Hp → Prop := retK Try.prog Try.f37.results.toList K
def btree_Tree_Scan_c1_b0 (k : Int) (v : Int) (t2 : Option Addr) (t3 : Option Addr) (t4 : Option Addr) (h : Hp)  (K : Value → Hp → Prop) : Prop :=
  sx_2 Try.prog F 30 (cp [] (bodyOf Try.f37)) (ap [] btree_Tree_Scan_c1_an) [(0, .int .i64 k), (1, .int .i64 v), (2, .pointer t2), (3, .pointer t3), (4, .pointer t4)] h (btree_Tree_Scan_c1_K0  K)
def btree_Tree_Scan_c1_b1 (k : Int) (t3 : Option Addr) (t4 : Option Addr) (h : Hp)  (K : Value → Hp → Prop) : Prop :=
  sx_1 Try.prog F 30 (cp [1, 1] (bodyOf Try.f37)) (ap [1, 1] btree_Tree_Scan_c1_an) [(0, .int .i64 k), (3, .pointer t3), (4, .pointer t4)] h (btree_Tree_Scan_c1_K0  K)
theorem btree_Tree_Scan_c1_b0_eq (k : Int) (v : Int) (t2 : Option Addr) (t3 : Option Addr) (t4 : Option Addr) (h : Hp)  (K : Value → Hp → Prop) : btree_Tree_Scan_c1_b0 k v t2 t3 t4 h  K = (
  NN t2 fun a1 =>
  ∃ n1 : Int, cell h a1 = some (.int .i64 n1) ∧
  cond (decide (n1 ≤ k))
  (NN t3 fun a2 =>
  ∃ n2 : Int, cell h a2 = some (.int .i64 n2) ∧
  cond (decide (k < n2))
  (NN t4 fun a3 =>
  ∃ (a4 : Option Addr) (L1 C1 : Nat), cell h a3 = some (.slice a4 L1 C1) ∧
  New h (.cells #[.int .i64 k, .int .i64 v] 40) fun b1 h1 =>
  appendV Try.prog 22 22 (.slice a4 L1 C1) (.slice (some ⟨b1, 0, none⟩) 1 1) h1 (slK fun a5 l1 c1 h2 =>
  NN t4 fun a6 =>
  Wr h2 a6 (.slice a5 l1 c1) fun h3 =>
  btree_Tree_Scan_c1_b1 k t3 t4 h3  K))
  (btree_Tree_Scan_c1_b1 k t3 t4 h  K))
  (btree_Tree_Scan_c1_b1 k t3 t4 h  K)) := by kernel_rfl
theorem btree_Tree_Scan_c1_b1_eq (k : Int) (t3 : Option Addr) (t4 : Option Addr) (h : Hp)  (K : Value → Hp → Prop) : btree_Tree_Scan_c1_b1 k t3 t4 h  K = (
  NN t3 fun a7 =>
  ∃ n3 : Int, cell h a7 = some (.int .i64 n3) ∧
  cond (decide (k < n3))
  (NN t4 fun a8 =>
  ∃ (a9 : Option Addr) (L2 C2 : Nat), cell h a8 = some (.slice a9 L2 C2) ∧
  K (.bool (decide ((L2 : Int) ≤ 1000))) h)
  (K (.bool false) h)) := by kernel_rfl
theorem btree_Tree_Scan_c1_call {k : Int} {v : Int} {t2 : Option Addr} {t3 : Option Addr} {t4 : Option Addr} {h : Hp} {K : Value → Hp → Prop} (hk : btree_Tree_Scan_c1_b0 k v t2 t3 t4 h K) : HCalls Try.prog 37 #[.int .i64 k, .int .i64 v, .pointer t2, .pointer t3, .pointer t4] h K :=
  calls_of_snd btree_Tree_Scan_c1_an Try.func37 (c := bodyOf Try.f37) rfl Try.ntmps37 (Nat.le_of_ble_eq_true rfl) (snd_2 F_ok F_mixed) hk

/-! ### r43_Keys -/
def r43_Keys_an : Ann := .node none (.leaf) (.node none (.leaf) (.node none (.leaf) (.node none (.leaf) (.node none (.leaf) (.node none (.leaf) (.node none (.leaf) (.node (some [11]) (.node none (.leaf) (.loop [0, 1, 2, 3, 10] [(11, .slice), (12, .int .i64)] (.node none (.leaf) (.node (some [0, 1, 2, 3, 10, 11, 12]) (.leaf) (.leaf))))) (.leaf))))))))
def r43_Keys_K0  (K : Value → Hp → Prop) : Exit → Env → Hp → Prop := retK Try.prog Try.f38.results.toList K
def r43_Keys_K1  (K : Value → Hp → Prop) : Exit → Env → Hp → Prop := thenE (fun env h => sx_2 Try.prog F 87 (cp [1, 1, 1, 1, 1, 1, 1, 1] (bodyOf Try.f38)) (ap [1, 1, 1, 1, 1, 1, 1, 1] r43_Keys_an) (rs [11] env) h (r43_Keys_K0  K)) (r43_Keys_K0  K)
def r43_Keys_K2  (K : Value → Hp → Prop) : Exit → Env → Hp → Prop := blockE 0 (r43_Keys_K1  K)
def r43_Keys_K3 (nx0 : (Option Addr × Nat × Nat) × Int × Unit → Hp → Prop) (K : Value → Hp → Prop) : Exit → Env → Hp → Prop := thenE (fun env h => getV [(11, .slice), (12, .int .i64)] env fun s => nx0 s h) (r43_Keys_K2  K)
def r43_Keys_b0 (order : Int) (levels : Option Addr) (levelsL : Nat) (levelsC : Nat) (depth : Int) (next : Option Addr) (nextL : Nat) (nextC : Nat) (h : Hp)  (K : Value → Hp → Prop) : Prop :=
  sx_3 Try.prog F 87 (cp [] (bodyOf Try.f38)) (ap [] r43_Keys_an) [(0, .int .i64 order), (1, .slice levels levelsL levelsC), (2, .int .i64 depth), (3, .slice next nextL nextC)] h (r43_Keys_K0  K)
def r43_Keys_b1 (out : Option Addr) (outL : Nat) (outC : Nat) (i : Int) (order : Int) (levels : Option Addr) (levelsL : Nat) (levelsC : Nat) (depth : Int) (next : Option Addr) (nextL : Nat) (nextC : Nat) (l : Option Addr) (lL : Nat) (lC : Nat) (h : Hp) (nx0 : (Option Addr × Nat × Nat) × Int × Unit → Hp → Prop) (K : Value → Hp → Prop) : Prop :=
  sx_2 Try.prog F 87 (cp [1, 1, 1, 1, 1, 1, 1, 0, 1, 2, 2] (bodyOf Try.f38)) (ap [1, 1, 1, 1, 1, 1, 1, 0, 1, 2] r43_Keys_an) [(11, .slice out outL outC), (12, .int .i64 i), (0, .int .i64 order), (1, .slice levels levelsL levelsC), (2, .int .i64 depth), (3, .slice next nextL nextC), (10, .slice l lL lC)] h (r43_Keys_K3 nx0 K)
def r43_Keys_b2 (order : Int) (levels : Option Addr) (levelsL : Nat) (levelsC : Nat) (depth : Int) (next : Option Addr) (nextL : Nat) (nextC : Nat) (l : Option Addr) (lL : Nat) (lC : Nat) (out : Option Addr) (outL : Nat) (outC : Nat) (i : Int) (h : Hp) (nx0 : (Option Addr × Nat × Nat) × Int × Unit → Hp → Prop) (K : Value → Hp → Prop) : Prop :=
  sx_1 Try.prog F 87 (cp [1, 1, 1, 1, 1, 1, 1, 0, 1, 2, 2, 1, 1] (bodyOf Try.f38)) (ap [1, 1, 1, 1, 1, 1, 1, 0, 1, 2, 1, 1] r43_Keys_an) [(0, .int .i64 order), (1, .slice levels levelsL levelsC), (2, .int .i64 depth), (3, .slice next nextL nextC), (10, .slice l lL lC), (11, .slice out outL outC), (12, .int .i64 i)] h (r43_Keys_K3 nx0 K)
def r43_Keys_b3 (out : Option Addr) (outL : Nat) (outC : Nat) (h : Hp)  (K : Value → Hp → Prop) : Prop :=
  sx_2 Try.prog F 87 (cp [1, 1, 1, 1, 1, 1, 1, 1] (bodyOf Try.f38)) (ap [1, 1, 1, 1, 1, 1, 1, 1] r43_Keys_an) [(11, .slice out outL outC)] h (r43_Keys_K0  K)
theorem r43_Keys_b0_eq (order : Int) (levels : Option Addr) (levelsL : Nat) (levelsC : Nat) (depth : Int) (next : Option Addr) (nextL : Nat) (nextC : Nat) (h : Hp)  (K : Value → Hp → Prop) : r43_Keys_b0 order levels levelsL levelsC depth next nextL nextC h  K = (
  (0 ≤ depth ∧ depth < (nextL : Int)) ∧
  NN next fun a1 =>
  ∃ n1 : Int, cell h (a1.add (Int.toNat depth * 1)) = some (.int .i64 n1) ∧
  (0 ≤ depth ∧ depth < (levelsL : Int)) ∧
  NN levels fun a2 =>
  ∃ (a3 : Option Addr) (L1 C1 : Nat), cell h (a2.add (Int.toNat depth * 1)) = some (.slice a3 L1 C1) ∧
  cond (decide ((L1 : Int) ≤ n1))
  (K (.tuple #[.slice none 0 0, .bool false]) h)
  ((0 ≤ depth ∧ depth < (levelsL : Int)) ∧
  NN levels fun a4 =>
  ∃ (a5 : Option Addr) (L2 C2 : Nat), cell h (a4.add (Int.toNat depth * 1)) = some (.slice a5 L2 C2) ∧
  (0 ≤ depth ∧ depth < (nextL : Int)) ∧
  NN next fun a6 =>
  ∃ n2 : Int, cell h (a6.add (Int.toNat depth * 1)) = some (.int .i64 n2) ∧
  (0 ≤ n2 ∧ n2 < (L2 : Int)) ∧
  NN a5 fun a7 =>
  ∃ (a8 : Option Addr) (L3 C3 : Nat), cell h (a7.add (Int.toNat n2 * 1)) = some (.slice a8 L3 C3) ∧
  (0 ≤ depth ∧ depth < (nextL : Int)) ∧
  NN next fun a9 =>
  ∃ n3 : Int, cell h (a9.add (Int.toNat depth * 1)) = some (.int .i64 n3) ∧
  InR (n3 + 1) ∧
  (0 ≤ depth ∧ depth < (nextL : Int)) ∧
  NN next fun a10 =>
  Wr h (a10.add (Int.toNat depth * 1)) (.int .i64 (n3 + 1)) fun h1 =>
  HCalls Try.prog 66 #[.int .i64 order, .slice a8 L3 C3, .bool (decide (depth = 0))] h1 fun v1 h2 => ∃ r1 : Bool, v1 = .bool r1 ∧
  cond (!r1)
  (K (.tuple #[.slice none 0 0, .bool false]) h2)
  (InR ((levelsL : Int) - 1) ∧
  cond (decide (depth = ((levelsL : Int) - 1)))
  (New h2 (.cells #[] 3) fun b1 h3 =>
  appendV Try.prog 38 38 (.slice (some ⟨b1, 0, none⟩) 0 0) (.slice a8 L3 C3) h3 (slK fun a11 l1 c1 h4 =>
  K (.tuple #[.slice a11 l1 c1, .bool true]) h4))
  (LoopVC (((none, 0, 0), 0, ()) : (Option Addr × Nat × Nat) × Int × Unit) h2 (fun (nx0 : (Option Addr × Nat × Nat) × Int × Unit → Hp → Prop) (s1 : (Option Addr × Nat × Nat) × Int × Unit) h5 => r43_Keys_b1 s1.1.1 s1.1.2.1 s1.1.2.2 s1.2.1 order levels levelsL levelsC depth next nextL nextC a8 L3 C3 h5 nx0 K))))) := by kernel_rfl
theorem r43_Keys_b1_eq (out : Option Addr) (outL : Nat) (outC : Nat) (i : Int) (order : Int) (levels : Option Addr) (levelsL : Nat) (levelsC : Nat) (depth : Int) (next : Option Addr) (nextL : Nat) (nextC : Nat) (l : Option Addr) (lL : Nat) (lC : Nat) (h : Hp) (nx0 : (Option Addr × Nat × Nat) × Int × Unit → Hp → Prop) (K : Value → Hp → Prop) : r43_Keys_b1 out outL outC i order levels levelsL levelsC depth next nextL nextC l lL lC h nx0 K = (
  cond (decide (i ≤ (lL : Int)))
  (InR (depth + 1) ∧
  HCalls Try.prog 38 #[.int .i64 order, .slice levels levelsL levelsC, .int .i64 (depth + 1), .slice next nextL nextC] h fun v2 h6 => ∃ (r2 : Option Addr) (rL1 rC1 : Nat), ∃ r3 : Bool, v2 = .tuple #[.slice r2 rL1 rC1, .bool r3] ∧
  cond (!r3)
  (K (.tuple #[.slice none 0 0, .bool false]) h6)
  (appendV Try.prog 38 38 (.slice out outL outC) (.slice r2 rL1 rC1) h6 (slK fun a12 l2 c2 h7 =>
  cond (decide (i < (lL : Int)))
  ((0 ≤ i ∧ i < (lL : Int)) ∧
  NN l fun a13 =>
  ∃ n4 : Int, cell h7 (a13.add (Int.toNat i * 1)) = some (.int .i64 n4) ∧
  New h7 (.cells #[.int .i64 n4] 3) fun b2 h8 =>
  appendV Try.prog 38 38 (.slice a12 l2 c2) (.slice (some ⟨b2, 0, none⟩) 1 1) h8 (slK fun a14 l3 c3 h9 =>
  r43_Keys_b2 order levels levelsL levelsC depth next nextL nextC l lL lC a14 l3 c3 i h9 nx0 K))
  (r43_Keys_b2 order levels levelsL levelsC depth next nextL nextC l lL lC a12 l2 c2 i h7 nx0 K))))
  (r43_Keys_b3 out outL outC h  K)) := by kernel_rfl
theorem r43_Keys_b2_eq (order : Int) (levels : Option Addr) (levelsL : Nat) (levelsC : Nat) (depth : Int) (next : Option Addr) (nextL : Nat) (nextC : Nat) (l : Option Addr) (lL : Nat) (lC : Nat) (out : Option Addr) (outL : Nat) (outC : Nat) (i : Int) (h : Hp) (nx0 : (Option Addr × Nat × Nat) × Int × Unit → Hp → Prop) (K : Value → Hp → Prop) : r43_Keys_b2 order levels levelsL levelsC depth next nextL nextC l lL lC out outL outC i h nx0 K = (
  InR (i + 1) ∧
  nx0 ((out, outL, outC), i + 1, ()) h) := by kernel_rfl
theorem r43_Keys_b3_eq (out : Option Addr) (outL : Nat) (outC : Nat) (h : Hp)  (K : Value → Hp → Prop) : r43_Keys_b3 out outL outC h  K = (
  K (.tuple #[.slice out outL outC, .bool true]) h) := by kernel_rfl
theorem r43_Keys_call {order : Int} {levels : Option Addr} {levelsL : Nat} {levelsC : Nat} {depth : Int} {next : Option Addr} {nextL : Nat} {nextC : Nat} {h : Hp} {K : Value → Hp → Prop} (hk : r43_Keys_b0 order levels levelsL levelsC depth next nextL nextC h K) : HCalls Try.prog 38 #[.int .i64 order, .slice levels levelsL levelsC, .int .i64 depth, .slice next nextL nextC] h K :=
  calls_of_snd r43_Keys_an Try.func38 (c := bodyOf Try.f38) rfl Try.ntmps38 (Nat.le_of_ble_eq_true rfl) (snd_3 F_ok F_mixed) hk

/-! ### r03_SameList -/
def r03_SameList_an : Ann := .node none (.leaf) (.node none (.leaf) (.node (some []) (.node none (.leaf) (.loop [0, 1] [(5, .int .i64)] (.node none (.leaf) (.node (some [0, 1, 5]) (.leaf) (.leaf))))) (.leaf)))
def r03_SameList_K0  (K : Value → Hp → Prop) : Exit → Env → Hp → Prop := retK Try.prog Try.f39.results.toList K
def r03_SameList_K1  (K : Value → Hp → Prop) : Exit → Env → Hp → Prop := thenE (fun env h => sx_2 Try.prog F 26 (cp [1, 1, 1] (bodyOf Try.f39)) (ap [1, 1, 1] r03_SameList_an) (rs [] env) h (r03_SameList_K0  K)) (r03_SameList_K0  K)
def r03_SameList_K2  (K : Value → Hp → Prop) : Exit → Env → Hp → Prop := blockE 0 (r03_SameList_K1  K)
def r03_SameList_K3 (nx0 : Int × Unit → Hp → Prop) (K : Value → Hp → Prop) : Exit → Env → Hp → Prop := thenE (fun env h => getV [(5, .int .i64)] env fun s => nx0 s h) (r03_SameList_K2  K)
def r03_SameList_b0 (a : Option Addr) (aL : Nat) (aC : Nat) (b : Option Addr) (bL : Nat) (bC : Nat) (h : Hp)  (K : Value → Hp → Prop) : Prop :=
  sx_3 Try.prog F 26 (cp [] (bodyOf Try.f39)) (ap [] r03_SameList_an) [(0, .slice a aL aC), (1, .slice b bL bC)] h (r03_SameList_K0  K)
def r03_SameList_b1 (i : Int) (a : Option Addr) (aL : Nat) (aC : Nat) (b : Option Addr) (bL : Nat) (bC : Nat) (h : Hp) (nx0 : Int × Unit → Hp → Prop) (K : Value → Hp → Prop) : Prop :=
  sx_2 Try.prog F 26 (cp [1, 1, 0, 1, 2, 2] (bodyOf Try.f39)) (ap [1, 1, 0, 1, 2] r03_SameList_an) [(5, .int .i64 i), (0, .slice a aL aC), (1, .slice b bL bC)] h (r03_SameList_K3 nx0 K)
def r03_SameList_b2 (a : Option Addr) (aL : Nat) (aC : Nat) (b : Option Addr) (bL : Nat) (bC : Nat) (i : Int) (h : Hp) (nx0 : Int × Unit → Hp → Prop) (K : Value → Hp → Prop) : Prop :=
  sx_1 Try.prog F 26 (cp [1, 1, 0, 1, 2, 2, 1, 1] (bodyOf Try.f39)) (ap [1, 1, 0, 1, 2, 1, 1] r03_SameList_an) [(0, .slice a aL aC), (1, .slice b bL bC), (5, .int .i64 i)] h (r03_SameList_K3 nx0 K)
def r03_SameList_b3  (h : Hp)  (K : Value → Hp → Prop) : Prop :=
  sx_2 Try.prog F 26 (cp [1, 1, 1] (bodyOf Try.f39)) (ap [1, 1, 1] r03_SameList_an) [] h (r03_SameList_K0  K)
theorem r03_SameList_b0_eq (a : Option Addr) (aL : Nat) (aC : Nat) (b : Option Addr) (bL : Nat) (bC : Nat) (h : Hp)  (K : Value → Hp → Prop) : r03_SameList_b0 a aL aC b bL bC h  K = (
  cond (!decide ((aL : Int) = (bL : Int)))
  (K (.bool false) h)
  (LoopVC ((0, ()) : Int × Unit) h (fun (nx0 : Int × Unit → Hp → Prop) (s1 : Int × Unit) h1 => r03_SameList_b1 s1.1 a aL aC b bL bC h1 nx0 K))) := by kernel_rfl
theorem r03_SameList_b1_eq (i : Int) (a : Option Addr) (aL : Nat) (aC : Nat) (b : Option Addr) (bL : Nat) (bC : Nat) (h : Hp) (nx0 : Int × Unit → Hp → Prop) (K : Value → Hp → Prop) : r03_SameList_b1 i a aL aC b bL bC h nx0 K = (
  cond (decide (i < (aL : Int)))
  ((0 ≤ i ∧ i < (aL : Int)) ∧
  NN a fun a1 =>
  ∃ n1 : Int, cell h (a1.add (Int.toNat i * 1)) = some (.int .i64 n1) ∧
  (0 ≤ i ∧ i < (bL : Int)) ∧
  NN b fun a2 =>
  ∃ n2 : Int, cell h (a2.add (Int.toNat i * 1)) = some (.int .i64 n2) ∧
  cond (!decide (n1 = n2))
  (K (.bool false) h)
  (r03_SameList_b2 a aL aC b bL bC i h nx0 K))
  (r03_SameList_b3  h  K)) := by kernel_rfl
theorem r03_SameList_b2_eq (a : Option Addr) (aL : Nat) (aC : Nat) (b : Option Addr) (bL : Nat) (bC : Nat) (i : Int) (h : Hp) (nx0 : Int × Unit → Hp → Prop) (K : Value → Hp → Prop) : r03_SameList_b2 a aL aC b bL bC i h nx0 K = (
  InR (i + 1) ∧
  nx0 (i + 1, ()) h) := by kernel_rfl
theorem r03_SameList_b3_eq  (h : Hp)  (K : Value → Hp → Prop) : r03_SameList_b3  h  K = (
  K (.bool true) h) := by kernel_rfl
theorem r03_SameList_call {a : Option Addr} {aL : Nat} {aC : Nat} {b : Option Addr} {bL : Nat} {bC : Nat} {h : Hp} {K : Value → Hp → Prop} (hk : r03_SameList_b0 a aL aC b bL bC h K) : HCalls Try.prog 39 #[.slice a aL aC, .slice b bL bC] h K :=
  calls_of_snd r03_SameList_an Try.func39 (c := bodyOf Try.f39) rfl Try.ntmps39 (Nat.le_of_ble_eq_true rfl) (snd_3 F_ok F_mixed) hk

/-! ### slices_Clone_Sint_int -/
def slices_Clone_Sint_int_an : Ann := .leaf
def slices_Clone_Sint_int_K0  (K : Value → Hp → Prop) : Exit → Env → Hp → Prop := retK Try.prog Try.f40.results.toList K
def slices_Clone_Sint_int_b0 (s : Option Addr) (sL : Nat) (sC : Nat) (h : Hp)  (K : Value → Hp → Prop) : Prop :=
  sx_1 Try.prog F 8 (cp [] (bodyOf Try.f40)) (ap [] slices_Clone_Sint_int_an) [(0, .slice s sL sC)] h (slices_Clone_Sint_int_K0  K)
theorem slices_Clone_Sint_int_b0_eq (s : Option Addr) (sL : Nat) (sC : Nat) (h : Hp)  (K : Value → Hp → Prop) : slices_Clone_Sint_int_b0 s sL sC h  K = (
  cond (Option.isNone s)
  (K (.slice none 0 0) h)
  (New h (.cells #[] 3) fun b1 h1 =>
  appendV Try.prog 38 38 (.slice (some ⟨b1, 0, none⟩) 0 0) (.slice s sL sC) h1 (slK fun a1 l1 c1 h2 =>
  K (.slice a1 l1 c1) h2))) := by kernel_rfl
theorem slices_Clone_Sint_int_call {s : Option Addr} {sL : Nat} {sC : Nat} {h : Hp} {K : Value → Hp → Prop} (hk : slices_Clone_Sint_int_b0 s sL sC h K) : HCalls Try.prog 40 #[.slice s sL sC] h K :=
  calls_of_snd slices_Clone_Sint_int_an Try.func40 (c := bodyOf Try.f40) rfl Try.ntmps40 (Nat.le_of_ble_eq_true rfl) (snd_1 F_ok F_mixed) hk

end Go.Proofs.Ytaemnjblcpknpaa
