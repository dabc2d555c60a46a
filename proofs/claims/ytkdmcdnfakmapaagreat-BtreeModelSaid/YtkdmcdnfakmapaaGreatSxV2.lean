/- Plain statements of what each block of code of this seat asks; printed by a program, checked by Lean. -/
import Derived.Test.YtkdmcdnfakmapaaGreatSxV0
set_option maxRecDepth 10000
namespace Go.Proofs.YtkdmcdnfakmapaaGreat
open Go Go.Sx

/-! ### btree_Tree_Remove -/
def btree_Tree_Remove_an : Ann := .node none (.leaf) (.node (some [0, 1]) (.leaf) (.node none (.leaf) (.node none (.leaf) (.node none (.leaf) (.node none (.leaf) (.node (some [0, 6, 7, 11]) (.node none (.leaf) (.node none (.node (some [0, 6, 7, 9, 10, 11]) (.node none (.leaf) (.loop [0, 9, 10, 11] [(6, .slice), (7, .slice), (12, .ptr)] (.node (some [0, 6, 7, 9, 10, 11, 12]) (.node (some [0, 6, 7, 9, 10, 11, 12]) (.plan (.qu 0 (.qu 1 (.qu 4 (.qu 5 (.qu 6 (.qu 7 (.qu 8 (.qu 9 (.wo 2 (.wo 3 (.wo 10 (.wo 11 (.wo 12 (.wo 13 .fin .no) .no) .no) .no) (.wo 10 (.wo 3 (.wo 11 (.wo 12 (.wo 13 .fin .no) .no) .no) .no) .no)) (.wo 10 (.wo 2 (.wo 3 (.wo 11 (.wo 12 (.wo 13 .fin .no) .no) .no) .no) .no) .no))))))))))) (.leaf)) (.leaf)))) (.node none (.leaf) (.node none (.leaf) (.node none (.plan (.qu 0 (.qu 1 (.qu 2 (.qu 3 (.qu 4 (.qu 5 (.qu 6 (.qu 7 (.qu 8 (.qu 9 (.qu 10 (.qu 11 (.qu 12 (.qu 13 (.qu 14 (.qu 15 (.qu 16 (.qu 17 (.qu 18 (.qu 19 (.qu 20 (.qu 21 (.qu 22 (.qu 23 (.qu 24 (.wo 25 (.qu 26 (.wo 27 .fin .no)) .no))))))))))))))))))))))))))) (.leaf))))) (.leaf))) (.leaf)))))))
def btree_Tree_Remove_K0  (K : Value → Hp → Prop) : Exit → Env → Hp → Prop := retK Tryz.prog Tryz.f28.results.toList K
def btree_Tree_Remove_K1  (K : Value → Hp → Prop) : Exit → Env → Hp → Prop := thenE (fun env h => sx_2 Tryz.prog F 161 (cp [1, 1, 1, 1, 1, 1, 1] (bodyOf Tryz.f28)) (ap [1, 1, 1, 1, 1, 1, 1] btree_Tree_Remove_an) (rs [0, 6, 7, 11] env) h (btree_Tree_Remove_K0  K)) (btree_Tree_Remove_K0  K)
def btree_Tree_Remove_K2  (K : Value → Hp → Prop) : Exit → Env → Hp → Prop := thenE (fun env h => sx_2 Tryz.prog F 161 (cp [1, 1, 1, 1, 1, 1, 0, 1, 0, 1] (bodyOf Tryz.f28)) (ap [1, 1, 1, 1, 1, 1, 0, 1, 0, 1] btree_Tree_Remove_an) (rs [0, 6, 7, 9, 10, 11] env) h (btree_Tree_Remove_K1  K)) (btree_Tree_Remove_K1  K)
def btree_Tree_Remove_K3  (K : Value → Hp → Prop) : Exit → Env → Hp → Prop := blockE 0 (btree_Tree_Remove_K2  K)
def btree_Tree_Remove_K4 (nx0 : (Option Addr × Nat × Nat) × (Option Addr × Nat × Nat) × Option Addr × Unit → Hp → Prop) (K : Value → Hp → Prop) : Exit → Env → Hp → Prop := thenE (fun env h => getV [(6, .slice), (7, .slice), (12, .ptr)] env fun s => nx0 s h) (btree_Tree_Remove_K3  K)
def btree_Tree_Remove_K5 (nx0 : (Option Addr × Nat × Nat) × (Option Addr × Nat × Nat) × Option Addr × Unit → Hp → Prop) (K : Value → Hp → Prop) : Exit → Env → Hp → Prop := thenE (fun env h => sx_1 Tryz.prog F 161 (cp [1, 1, 1, 1, 1, 1, 0, 1, 0, 0, 1, 2, 2, 1] (bodyOf Tryz.f28)) (ap [1, 1, 1, 1, 1, 1, 0, 1, 0, 0, 1, 2, 1] btree_Tree_Remove_an) (rs [0, 6, 7, 9, 10, 11, 12] env) h (btree_Tree_Remove_K4 nx0 K)) (btree_Tree_Remove_K4 nx0 K)
def btree_Tree_Remove_K6 (nx0 : (Option Addr × Nat × Nat) × (Option Addr × Nat × Nat) × Option Addr × Unit → Hp → Prop) (K : Value → Hp → Prop) : Exit → Env → Hp → Prop := blockE 1 (btree_Tree_Remove_K5 nx0 K)
def btree_Tree_Remove_b0 (t : Option Addr) (key : Int) (h : Hp)  (K : Value → Hp → Prop) : Prop :=
  sx_4 Tryz.prog F 161 (cp [] (bodyOf Tryz.f28)) (ap [] btree_Tree_Remove_an) [(0, .pointer t), (1, .int .i64 key)] h (btree_Tree_Remove_K0  K)
def btree_Tree_Remove_b1 (t : Option Addr) (key : Int) (h : Hp)  (K : Value → Hp → Prop) : Prop :=
  sx_3 Tryz.prog F 161 (cp [1, 1] (bodyOf Tryz.f28)) (ap [1, 1] btree_Tree_Remove_an) [(0, .pointer t), (1, .int .i64 key)] h (btree_Tree_Remove_K0  K)
def btree_Tree_Remove_b2 (nodes : Option Addr) (nodesL : Nat) (nodesC : Nat) (atv : Option Addr) (atvL : Nat) (atvC : Nat) (x : Option Addr) (t : Option Addr) (nv : Option Addr) (i : Int) (value : Int) (h : Hp) (nx0 : (Option Addr × Nat × Nat) × (Option Addr × Nat × Nat) × Option Addr × Unit → Hp → Prop) (K : Value → Hp → Prop) : Prop :=
  sx_2 Tryz.prog F 161 (cp [1, 1, 1, 1, 1, 1, 0, 1, 0, 0, 1, 2, 2] (bodyOf Tryz.f28)) (ap [1, 1, 1, 1, 1, 1, 0, 1, 0, 0, 1, 2] btree_Tree_Remove_an) [(6, .slice nodes nodesL nodesC), (7, .slice atv atvL atvC), (12, .pointer x), (0, .pointer t), (9, .pointer nv), (10, .int .i64 i), (11, .int .i64 value)] h (btree_Tree_Remove_K4 nx0 K)
def btree_Tree_Remove_b3 (t : Option Addr) (nodes : Option Addr) (nodesL : Nat) (nodesC : Nat) (atv : Option Addr) (atvL : Nat) (atvC : Nat) (value : Int) (h : Hp)  (K : Value → Hp → Prop) : Prop :=
  sx_2 Tryz.prog F 161 (cp [1, 1, 1, 1, 1, 1, 1] (bodyOf Tryz.f28)) (ap [1, 1, 1, 1, 1, 1, 1] btree_Tree_Remove_an) [(0, .pointer t), (6, .slice nodes nodesL nodesC), (7, .slice atv atvL atvC), (11, .int .i64 value)] h (btree_Tree_Remove_K0  K)
def btree_Tree_Remove_b4 (t : Option Addr) (nodes : Option Addr) (nodesL : Nat) (nodesC : Nat) (atv : Option Addr) (atvL : Nat) (atvC : Nat) (nv : Option Addr) (i : Int) (value : Int) (x : Option Addr) (h : Hp) (nx0 : (Option Addr × Nat × Nat) × (Option Addr × Nat × Nat) × Option Addr × Unit → Hp → Prop) (K : Value → Hp → Prop) : Prop :=
  sx_1 Tryz.prog F 161 (cp [1, 1, 1, 1, 1, 1, 0, 1, 0, 0, 1, 2, 2, 0, 2, 1] (bodyOf Tryz.f28)) (ap [1, 1, 1, 1, 1, 1, 0, 1, 0, 0, 1, 2, 0, 1] btree_Tree_Remove_an) [(0, .pointer t), (6, .slice nodes nodesL nodesC), (7, .slice atv atvL atvC), (9, .pointer nv), (10, .int .i64 i), (11, .int .i64 value), (12, .pointer x)] h (btree_Tree_Remove_K6 nx0 K)
def btree_Tree_Remove_b5 (t : Option Addr) (nodes : Option Addr) (nodesL : Nat) (nodesC : Nat) (atv : Option Addr) (atvL : Nat) (atvC : Nat) (nv : Option Addr) (i : Int) (value : Int) (h : Hp)  (K : Value → Hp → Prop) : Prop :=
  sx_2 Tryz.prog F 161 (cp [1, 1, 1, 1, 1, 1, 0, 1, 0, 1] (bodyOf Tryz.f28)) (ap [1, 1, 1, 1, 1, 1, 0, 1, 0, 1] btree_Tree_Remove_an) [(0, .pointer t), (6, .slice nodes nodesL nodesC), (7, .slice atv atvL atvC), (9, .pointer nv), (10, .int .i64 i), (11, .int .i64 value)] h (btree_Tree_Remove_K1  K)
def btree_Tree_Remove_b6 (t : Option Addr) (nodes : Option Addr) (nodesL : Nat) (nodesC : Nat) (atv : Option Addr) (atvL : Nat) (atvC : Nat) (nv : Option Addr) (i : Int) (value : Int) (x : Option Addr) (h : Hp) (nx0 : (Option Addr × Nat × Nat) × (Option Addr × Nat × Nat) × Option Addr × Unit → Hp → Prop) (K : Value → Hp → Prop) : Prop :=
  sx_1 Tryz.prog F 161 (cp [1, 1, 1, 1, 1, 1, 0, 1, 0, 0, 1, 2, 2, 1] (bodyOf Tryz.f28)) (ap [1, 1, 1, 1, 1, 1, 0, 1, 0, 0, 1, 2, 1] btree_Tree_Remove_an) [(0, .pointer t), (6, .slice nodes nodesL nodesC), (7, .slice atv atvL atvC), (9, .pointer nv), (10, .int .i64 i), (11, .int .i64 value), (12, .pointer x)] h (btree_Tree_Remove_K4 nx0 K)
theorem btree_Tree_Remove_b0_eq (t : Option Addr) (key : Int) (h : Hp)  (K : Value → Hp → Prop) : btree_Tree_Remove_b0 t key h  K = (
  cond t.isNone
  (K (.tuple #[.int .i64 0, .int .i64 1]) h)
  (New h (.cells #[.int .i64 key] 3) fun b1 h1 =>
  HCalls Tryz.prog 35 #[.slice (some ⟨b1, 0, none⟩) 1 1] h1 fun v1 h2 => ∃ r1 : Bool, v1 = .bool r1 ∧
  cond (!r1)
  (K (.tuple #[.int .i64 0, .int .i64 1]) h2)
  (btree_Tree_Remove_b1 t key h2  K))) := by kernel_rfl
theorem btree_Tree_Remove_b1_eq (t : Option Addr) (key : Int) (h : Hp)  (K : Value → Hp → Prop) : btree_Tree_Remove_b1 t key h  K = (
  HCalls Tryz.prog 59 #[.pointer t, .int .i64 key] h fun v2 h3 => ∃ (r2 : Option Addr) (rL1 rC1 : Nat), ∃ (r3 : Option Addr) (rL2 rC2 : Nat), ∃ r4 : Bool, v2 = .tuple #[.slice r2 rL1 rC1, .slice r3 rL2 rC2, .bool r4] ∧
  cond (!r4)
  (NN t fun a1 =>
  ∃ n1 : Int, cell h3 (a1.add 3) = some (.int .i64 n1) ∧
  InR (n1 + (rL1 : Int)) ∧
  NN t fun a2 =>
  Wr h3 (a2.add 3) (.int .i64 (n1 + (rL1 : Int))) fun h4 =>
  K (.tuple #[.int .i64 0, .int .i64 12]) h4)
  (InR ((rL1 : Int) - 1) ∧
  (0 ≤ (rL1 : Int) - 1 ∧ (rL1 : Int) - 1 < (rL1 : Int)) ∧
  NN r2 fun a3 =>
  ∃ p1 : Option Addr, cell h3 (a3.add (Int.toNat ((rL1 : Int) - 1) * 1)) = some (.pointer p1) ∧
  InR ((rL2 : Int) - 1) ∧
  (0 ≤ (rL2 : Int) - 1 ∧ (rL2 : Int) - 1 < (rL2 : Int)) ∧
  NN r3 fun a4 =>
  ∃ n2 : Int, cell h3 (a4.add (Int.toNat ((rL2 : Int) - 1) * 1)) = some (.int .i64 n2) ∧
  NN p1 fun a5 =>
  ∃ (a6 : Option Addr) (L1 C1 : Nat), cell h3 (a5.add 1) = some (.slice a6 L1 C1) ∧
  (0 ≤ n2 ∧ n2 < (L1 : Int)) ∧
  NN a6 fun a7 =>
  ∃ n3 : Int, cell h3 (a7.add (Int.toNat n2 * 1)) = some (.int .i64 n3) ∧
  HCalls Tryz.prog 60 #[.pointer p1] h3 fun v3 h5 => ∃ r5 : Bool, v3 = .bool r5 ∧
  cond (!r5)
  (NN p1 fun a8 =>
  ∃ (a9 : Option Addr) (L2 C2 : Nat), cell h5 (a8.add 2) = some (.slice a9 L2 C2) ∧
  (0 ≤ n2 ∧ n2 < (L2 : Int)) ∧
  NN a9 fun a10 =>
  ∃ p2 : Option Addr, cell h5 (a10.add (Int.toNat n2 * 1)) = some (.pointer p2) ∧
  LoopVC (((r2, rL1, rC1), (r3, rL2, rC2), p2, ()) : (Option Addr × Nat × Nat) × (Option Addr × Nat × Nat) × Option Addr × Unit) h5 (fun (nx0 : (Option Addr × Nat × Nat) × (Option Addr × Nat × Nat) × Option Addr × Unit → Hp → Prop) (s1 : (Option Addr × Nat × Nat) × (Option Addr × Nat × Nat) × Option Addr × Unit) h6 => btree_Tree_Remove_b2 s1.1.1 s1.1.2.1 s1.1.2.2 s1.2.1.1 s1.2.1.2.1 s1.2.1.2.2 s1.2.2.1 t p1 n2 n3 h6 nx0 K))
  (btree_Tree_Remove_b3 t r2 rL1 rC1 r3 rL2 rC2 n3 h5  K))) := by kernel_rfl
theorem btree_Tree_Remove_b2_eq (nodes : Option Addr) (nodesL : Nat) (nodesC : Nat) (atv : Option Addr) (atvL : Nat) (atvC : Nat) (x : Option Addr) (t : Option Addr) (nv : Option Addr) (i : Int) (value : Int) (h : Hp) (nx0 : (Option Addr × Nat × Nat) × (Option Addr × Nat × Nat) × Option Addr × Unit → Hp → Prop) (K : Value → Hp → Prop) : btree_Tree_Remove_b2 nodes nodesL nodesC atv atvL atvC x t nv i value h nx0 K = (
  NN x fun a11 =>
  ∃ (a12 : Option Addr) (L3 C3 : Nat), cell h a11 = some (.slice a12 L3 C3) ∧
  (New h (.cells #[.pointer x] 60) fun b2 h7 =>
  (∃ (a13 : Option Addr) (L4 C4 : Nat), cell h7 a11 = some (.slice a13 L4 C4) ∧
  (.slice a13 L4 C4 : Value) = .slice a12 L3 C3) ∧
  (appendV Tryz.prog 83 83 (.slice nodes nodesL nodesC) (.slice (some ⟨b2, 0, none⟩) 1 1) h7 (slK fun a14 l1 c1 h8 =>
  (∃ (a15 : Option Addr) (L5 C5 : Nat), cell h8 a11 = some (.slice a15 L5 C5) ∧
  (.slice a15 L5 C5 : Value) = .slice a12 L3 C3) ∧
  New h8 (.cells #[.int .i64 (L3 : Int)] 3) fun b3 h9 =>
  appendV Tryz.prog 37 37 (.slice atv atvL atvC) (.slice (some ⟨b3, 0, none⟩) 1 1) h9 (slK fun a16 l2 c2 h10 =>
  btree_Tree_Remove_b4 t a14 l1 c1 a16 l2 c2 nv i value x h10 nx0 K))) ∧
  (New h7 (.cells #[.int .i64 (L3 : Int)] 3) fun b4 h11 =>
  appendV Tryz.prog 83 83 (.slice nodes nodesL nodesC) (.slice (some ⟨b2, 0, none⟩) 1 1) h11 (slK fun a17 l3 c3 h12 =>
  appendV Tryz.prog 37 37 (.slice atv atvL atvC) (.slice (some ⟨b4, 0, none⟩) 1 1) h12 (slK fun a18 l4 c4 h13 =>
  btree_Tree_Remove_b4 t a17 l3 c3 a18 l4 c4 nv i value x h13 nx0 K)))) ∧
  (New h (.cells #[.int .i64 (L3 : Int)] 3) fun b5 h14 =>
  New h14 (.cells #[.pointer x] 60) fun b6 h15 =>
  appendV Tryz.prog 83 83 (.slice nodes nodesL nodesC) (.slice (some ⟨b6, 0, none⟩) 1 1) h15 (slK fun a19 l5 c5 h16 =>
  appendV Tryz.prog 37 37 (.slice atv atvL atvC) (.slice (some ⟨b5, 0, none⟩) 1 1) h16 (slK fun a20 l6 c6 h17 =>
  btree_Tree_Remove_b4 t a19 l5 c5 a20 l6 c6 nv i value x h17 nx0 K)))) := by kernel_rfl
theorem btree_Tree_Remove_b3_eq (t : Option Addr) (nodes : Option Addr) (nodesL : Nat) (nodesC : Nat) (atv : Option Addr) (atvL : Nat) (atvC : Nat) (value : Int) (h : Hp)  (K : Value → Hp → Prop) : btree_Tree_Remove_b3 t nodes nodesL nodesC atv atvL atvC value h  K = (
  NN t fun a21 =>
  ∃ n4 : Int, cell h (a21.add 3) = some (.int .i64 n4) ∧
  InR (n4 + (nodesL : Int)) ∧
  NN t fun a22 =>
  Wr h (a22.add 3) (.int .i64 (n4 + (nodesL : Int))) fun h18 =>
  NN t fun a23 =>
  ∃ n5 : Int, cell h18 (a23.add 1) = some (.int .i64 n5) ∧
  InR (n5 - 1) ∧
  NN t fun a24 =>
  Wr h18 (a24.add 1) (.int .i64 (n5 - 1)) fun h19 =>
  HCalls Tryz.prog 61 #[.pointer t, .slice nodes nodesL nodesC, .slice atv atvL atvC] h19 fun v4 h20 => v4 = .tuple #[] ∧
  K (.tuple #[.int .i64 value, .int .i64 0]) h20) := by kernel_rfl
theorem btree_Tree_Remove_b4_eq (t : Option Addr) (nodes : Option Addr) (nodesL : Nat) (nodesC : Nat) (atv : Option Addr) (atvL : Nat) (atvC : Nat) (nv : Option Addr) (i : Int) (value : Int) (x : Option Addr) (h : Hp) (nx0 : (Option Addr × Nat × Nat) × (Option Addr × Nat × Nat) × Option Addr × Unit → Hp → Prop) (K : Value → Hp → Prop) : btree_Tree_Remove_b4 t nodes nodesL nodesC atv atvL atvC nv i value x h nx0 K = (
  HCalls Tryz.prog 60 #[.pointer x] h fun v5 h21 => ∃ r6 : Bool, v5 = .bool r6 ∧
  cond r6
  (btree_Tree_Remove_b5 t nodes nodesL nodesC atv atvL atvC nv i value h21  K)
  (btree_Tree_Remove_b6 t nodes nodesL nodesC atv atvL atvC nv i value x h21 nx0 K)) := by kernel_rfl
theorem btree_Tree_Remove_b5_eq (t : Option Addr) (nodes : Option Addr) (nodesL : Nat) (nodesC : Nat) (atv : Option Addr) (atvL : Nat) (atvC : Nat) (nv : Option Addr) (i : Int) (value : Int) (h : Hp)  (K : Value → Hp → Prop) : btree_Tree_Remove_b5 t nodes nodesL nodesC atv atvL atvC nv i value h  K = (
  InR ((nodesL : Int) - 1) ∧
  (0 ≤ (nodesL : Int) - 1 ∧ (nodesL : Int) - 1 < (nodesL : Int)) ∧
  NN nodes fun a25 =>
  ∃ p3 : Option Addr, cell h (a25.add (Int.toNat ((nodesL : Int) - 1) * 1)) = some (.pointer p3) ∧
  NN p3 fun a26 =>
  ∃ (a27 : Option Addr) (L6 C6 : Nat), cell h a26 = some (.slice a27 L6 C6) ∧
  InR ((L6 : Int) - 1) ∧
  NN nv fun a28 =>
  ∃ (a29 : Option Addr) (L7 C7 : Nat), cell h a28 = some (.slice a29 L7 C7) ∧
  NN nv fun a30 =>
  ∃ (a31 : Option Addr) (L8 C8 : Nat), cell h (a30.add 1) = some (.slice a31 L8 C8) ∧
  NN p3 fun a32 =>
  ∃ (a33 : Option Addr) (L9 C9 : Nat), cell h a32 = some (.slice a33 L9 C9) ∧
  (0 ≤ (L6 : Int) - 1 ∧ (L6 : Int) - 1 < (L9 : Int)) ∧
  NN a33 fun a34 =>
  ∃ n6 : Int, cell h (a34.add (Int.toNat ((L6 : Int) - 1) * 1)) = some (.int .i64 n6) ∧
  NN p3 fun a35 =>
  ∃ (a36 : Option Addr) (L10 C10 : Nat), cell h (a35.add 1) = some (.slice a36 L10 C10) ∧
  (0 ≤ (L6 : Int) - 1 ∧ (L6 : Int) - 1 < (L10 : Int)) ∧
  NN a36 fun a37 =>
  ∃ n7 : Int, cell h (a37.add (Int.toNat ((L6 : Int) - 1) * 1)) = some (.int .i64 n7) ∧
  (0 ≤ i ∧ i < (L7 : Int)) ∧
  NN a29 fun a38 =>
  Wr h (a38.add (Int.toNat i * 1)) (.int .i64 n6) fun h22 =>
  (0 ≤ i ∧ i < (L8 : Int)) ∧
  NN a31 fun a39 =>
  Wr h22 (a39.add (Int.toNat i * 1)) (.int .i64 n7) fun h23 =>
  InR ((atvL : Int) - 1) ∧
  (0 ≤ (atvL : Int) - 1 ∧ (atvL : Int) - 1 < (atvL : Int)) ∧
  NN atv fun a40 =>
  Wr h23 (a40.add (Int.toNat ((atvL : Int) - 1) * 1)) (.int .i64 ((L6 : Int) - 1)) fun h24 =>
  btree_Tree_Remove_b3 t nodes nodesL nodesC atv atvL atvC value h24  K) := by kernel_rfl
theorem btree_Tree_Remove_b6_eq (t : Option Addr) (nodes : Option Addr) (nodesL : Nat) (nodesC : Nat) (atv : Option Addr) (atvL : Nat) (atvC : Nat) (nv : Option Addr) (i : Int) (value : Int) (x : Option Addr) (h : Hp) (nx0 : (Option Addr × Nat × Nat) × (Option Addr × Nat × Nat) × Option Addr × Unit → Hp → Prop) (K : Value → Hp → Prop) : btree_Tree_Remove_b6 t nodes nodesL nodesC atv atvL atvC nv i value x h nx0 K = (
  NN x fun a41 =>
  ∃ (a42 : Option Addr) (L11 C11 : Nat), cell h (a41.add 2) = some (.slice a42 L11 C11) ∧
  NN x fun a43 =>
  ∃ (a44 : Option Addr) (L12 C12 : Nat), cell h (a43.add 2) = some (.slice a44 L12 C12) ∧
  InR ((L12 : Int) - 1) ∧
  (0 ≤ (L12 : Int) - 1 ∧ (L12 : Int) - 1 < (L11 : Int)) ∧
  NN a42 fun a45 =>
  ∃ p4 : Option Addr, cell h (a45.add (Int.toNat ((L12 : Int) - 1) * 1)) = some (.pointer p4) ∧
  nx0 ((nodes, nodesL, nodesC), (atv, atvL, atvC), p4, ()) h) := by kernel_rfl
theorem btree_Tree_Remove_call {t : Option Addr} {key : Int} {h : Hp} {K : Value → Hp → Prop} (hk : btree_Tree_Remove_b0 t key h K) : HCalls Tryz.prog 28 #[.pointer t, .int .i64 key] h K :=
  calls_of_snd btree_Tree_Remove_an Tryz.func28 (c := bodyOf Tryz.f28) rfl Tryz.ntmps28 (Nat.le_of_ble_eq_true rfl) (snd_4 F_ok F_mixed) hk

/-! ### btree_Tree_Floor -/
def btree_Tree_Floor_an : Ann := .node none (.leaf) (.node (some [0, 1]) (.leaf) (.leaf))
def btree_Tree_Floor_K0  (K : Value → Hp → Prop) : Exit → Env → Hp → Prop := retK Tryz.prog Tryz.f29.results.toList K
def btree_Tree_Floor_b0 (t : Option Addr) (key : Int) (h : Hp)  (K : Value → Hp → Prop) : Prop :=
  sx_2 Tryz.prog F 29 (cp [] (bodyOf Tryz.f29)) (ap [] btree_Tree_Floor_an) [(0, .pointer t), (1, .int .i64 key)] h (btree_Tree_Floor_K0  K)
def btree_Tree_Floor_b1 (t : Option Addr) (key : Int) (h : Hp)  (K : Value → Hp → Prop) : Prop :=
  sx_1 Tryz.prog F 29 (cp [1, 1] (bodyOf Tryz.f29)) (ap [1, 1] btree_Tree_Floor_an) [(0, .pointer t), (1, .int .i64 key)] h (btree_Tree_Floor_K0  K)
theorem btree_Tree_Floor_b0_eq (t : Option Addr) (key : Int) (h : Hp)  (K : Value → Hp → Prop) : btree_Tree_Floor_b0 t key h  K = (
  cond t.isNone
  (K (.tuple #[.int .i64 0, .int .i64 0, .int .i64 1]) h)
  (New h (.cells #[.int .i64 key] 3) fun b1 h1 =>
  HCalls Tryz.prog 35 #[.slice (some ⟨b1, 0, none⟩) 1 1] h1 fun v1 h2 => ∃ r1 : Bool, v1 = .bool r1 ∧
  cond (!r1)
  (K (.tuple #[.int .i64 0, .int .i64 0, .int .i64 1]) h2)
  (btree_Tree_Floor_b1 t key h2  K))) := by kernel_rfl
theorem btree_Tree_Floor_b1_eq (t : Option Addr) (key : Int) (h : Hp)  (K : Value → Hp → Prop) : btree_Tree_Floor_b1 t key h  K = (
  HCalls Tryz.prog 38 #[.pointer t, .int .i64 key] h fun v2 h3 => ∃ r2 : Int, ∃ r3 : Int, ∃ r4 : Bool, v2 = .tuple #[.int .i64 r2, .int .i64 r3, .bool r4] ∧
  cond (!r4)
  (K (.tuple #[.int .i64 0, .int .i64 0, .int .i64 12]) h3)
  (K (.tuple #[.int .i64 r2, .int .i64 r3, .int .i64 0]) h3)) := by kernel_rfl
theorem btree_Tree_Floor_call {t : Option Addr} {key : Int} {h : Hp} {K : Value → Hp → Prop} (hk : btree_Tree_Floor_b0 t key h K) : HCalls Tryz.prog 29 #[.pointer t, .int .i64 key] h K :=
  calls_of_snd btree_Tree_Floor_an Tryz.func29 (c := bodyOf Tryz.f29) rfl Tryz.ntmps29 (Nat.le_of_ble_eq_true rfl) (snd_2 F_ok F_mixed) hk

/-! ### btree_Tree_Ceiling -/
def btree_Tree_Ceiling_an : Ann := .node none (.leaf) (.node (some [0, 1]) (.leaf) (.leaf))
def btree_Tree_Ceiling_K0  (K : Value → Hp → Prop) : Exit → Env → Hp → Prop := retK Tryz.prog Tryz.f30.results.toList K
def btree_Tree_Ceiling_b0 (t : Option Addr) (key : Int) (h : Hp)  (K : Value → Hp → Prop) : Prop :=
  sx_2 Tryz.prog F 29 (cp [] (bodyOf Tryz.f30)) (ap [] btree_Tree_Ceiling_an) [(0, .pointer t), (1, .int .i64 key)] h (btree_Tree_Ceiling_K0  K)
def btree_Tree_Ceiling_b1 (t : Option Addr) (key : Int) (h : Hp)  (K : Value → Hp → Prop) : Prop :=
  sx_1 Tryz.prog F 29 (cp [1, 1] (bodyOf Tryz.f30)) (ap [1, 1] btree_Tree_Ceiling_an) [(0, .pointer t), (1, .int .i64 key)] h (btree_Tree_Ceiling_K0  K)
theorem btree_Tree_Ceiling_b0_eq (t : Option Addr) (key : Int) (h : Hp)  (K : Value → Hp → Prop) : btree_Tree_Ceiling_b0 t key h  K = (
  cond t.isNone
  (K (.tuple #[.int .i64 0, .int .i64 0, .int .i64 1]) h)
  (New h (.cells #[.int .i64 key] 3) fun b1 h1 =>
  HCalls Tryz.prog 35 #[.slice (some ⟨b1, 0, none⟩) 1 1] h1 fun v1 h2 => ∃ r1 : Bool, v1 = .bool r1 ∧
  cond (!r1)
  (K (.tuple #[.int .i64 0, .int .i64 0, .int .i64 1]) h2)
  (btree_Tree_Ceiling_b1 t key h2  K))) := by kernel_rfl
theorem btree_Tree_Ceiling_b1_eq (t : Option Addr) (key : Int) (h : Hp)  (K : Value → Hp → Prop) : btree_Tree_Ceiling_b1 t key h  K = (
  HCalls Tryz.prog 62 #[.pointer t, .int .i64 key] h fun v2 h3 => ∃ r2 : Int, ∃ r3 : Int, ∃ r4 : Bool, v2 = .tuple #[.int .i64 r2, .int .i64 r3, .bool r4] ∧
  cond (!r4)
  (K (.tuple #[.int .i64 0, .int .i64 0, .int .i64 12]) h3)
  (K (.tuple #[.int .i64 r2, .int .i64 r3, .int .i64 0]) h3)) := by kernel_rfl
theorem btree_Tree_Ceiling_call {t : Option Addr} {key : Int} {h : Hp} {K : Value → Hp → Prop} (hk : btree_Tree_Ceiling_b0 t key h K) : HCalls Tryz.prog 30 #[.pointer t, .int .i64 key] h K :=
  calls_of_snd btree_Tree_Ceiling_an Tryz.func30 (c := bodyOf Tryz.f30) rfl Tryz.ntmps30 (Nat.le_of_ble_eq_true rfl) (snd_2 F_ok F_mixed) hk

/-! ### btree_node_walk -/
def btree_node_walk_an : Ann := .node none (.leaf) (.node none (.leaf) (.node (some [0, 1]) (.node none (.leaf) (.loop [0, 1, 12, 13] [(14, .int .i64)] (.node none (.leaf) (.node none (.leaf) (.node (some [0, 1, 12, 13, 14]) (.leaf) (.leaf)))))) (.node none (.tail 15) (.leaf))))
def btree_node_walk_K0  (K : Value → Hp → Prop) : Exit → Env → Hp → Prop := retK Tryz.prog Tryz.f31.results.toList K
def btree_node_walk_K1  (K : Value → Hp → Prop) : Exit → Env → Hp → Prop := thenE (fun env h => sx_2 Tryz.prog F 65 (cp [1, 1, 1] (bodyOf Tryz.f31)) (ap [1, 1, 1] btree_node_walk_an) (rs [0, 1] env) h (btree_node_walk_K0  K)) (btree_node_walk_K0  K)
def btree_node_walk_K2  (K : Value → Hp → Prop) : Exit → Env → Hp → Prop := blockE 0 (btree_node_walk_K1  K)
def btree_node_walk_K3 (nx0 : Int × Unit → Hp → Prop) (K : Value → Hp → Prop) : Exit → Env → Hp → Prop := thenE (fun env h => getV [(14, .int .i64)] env fun s => nx0 s h) (btree_node_walk_K2  K)
def btree_node_walk_b0 (nv : Option Addr) (f : Value) (h : Hp)  (K : Value → Hp → Prop) : Prop :=
  sx_3 Tryz.prog F 65 (cp [] (bodyOf Tryz.f31)) (ap [] btree_node_walk_an) [(0, .pointer nv), (1, f)] h (btree_node_walk_K0  K)
def btree_node_walk_b1 (t14 : Int) (nv : Option Addr) (f : Value) (t12 : Option Addr) (t12L : Nat) (t12C : Nat) (t13 : Int) (h : Hp) (nx0 : Int × Unit → Hp → Prop) (K : Value → Hp → Prop) : Prop :=
  sx_2 Tryz.prog F 65 (cp [1, 1, 0, 1, 2, 2] (bodyOf Tryz.f31)) (ap [1, 1, 0, 1, 2] btree_node_walk_an) [(14, .int .i64 t14), (0, .pointer nv), (1, f), (12, .slice t12 t12L t12C), (13, .int .i64 t13)] h (btree_node_walk_K3 nx0 K)
def btree_node_walk_b2 (nv : Option Addr) (f : Value) (t12 : Option Addr) (t12L : Nat) (t12C : Nat) (t13 : Int) (t14 : Int) (h : Hp) (nx0 : Int × Unit → Hp → Prop) (K : Value → Hp → Prop) : Prop :=
  sx_1 Tryz.prog F 65 (cp [1, 1, 0, 1, 2, 2, 1, 1, 1] (bodyOf Tryz.f31)) (ap [1, 1, 0, 1, 2, 1, 1, 1] btree_node_walk_an) [(0, .pointer nv), (1, f), (12, .slice t12 t12L t12C), (13, .int .i64 t13), (14, .int .i64 t14)] h (btree_node_walk_K3 nx0 K)
def btree_node_walk_b3 (nv : Option Addr) (f : Value) (h : Hp)  (K : Value → Hp → Prop) : Prop :=
  sx_2 Tryz.prog F 65 (cp [1, 1, 1] (bodyOf Tryz.f31)) (ap [1, 1, 1] btree_node_walk_an) [(0, .pointer nv), (1, f)] h (btree_node_walk_K0  K)
theorem btree_node_walk_b0_eq (nv : Option Addr) (f : Value) (h : Hp)  (K : Value → Hp → Prop) : btree_node_walk_b0 nv f h  K = (
  cond nv.isNone
  (K (.bool true) h)
  (NN nv fun a1 =>
  ∃ (a2 : Option Addr) (L1 C1 : Nat), cell h a1 = some (.slice a2 L1 C1) ∧
  LoopVC ((0, ()) : Int × Unit) h (fun (nx0 : Int × Unit → Hp → Prop) (s1 : Int × Unit) h1 => btree_node_walk_b1 s1.1 nv f a2 L1 C1 (L1 : Int) h1 nx0 K))) := by kernel_rfl
theorem btree_node_walk_b1_eq (t14 : Int) (nv : Option Addr) (f : Value) (t12 : Option Addr) (t12L : Nat) (t12C : Nat) (t13 : Int) (h : Hp) (nx0 : Int × Unit → Hp → Prop) (K : Value → Hp → Prop) : btree_node_walk_b1 t14 nv f t12 t12L t12C t13 h nx0 K = (
  cond (decide (t14 < t13))
  ((0 ≤ t14 ∧ t14 < (t12L : Int)) ∧
  NN t12 fun a3 =>
  ∃ n1 : Int, cell h (a3.add (Int.toNat t14 * 1)) = some (.int .i64 n1) ∧
  HCalls Tryz.prog 60 #[.pointer nv] h fun v1 h2 => ∃ r1 : Bool, v1 = .bool r1 ∧
  cond (!r1)
  (NN nv fun a4 =>
  ∃ (a5 : Option Addr) (L2 C2 : Nat), cell h2 (a4.add 2) = some (.slice a5 L2 C2) ∧
  (0 ≤ t14 ∧ t14 < (L2 : Int)) ∧
  NN a5 fun a6 =>
  ∃ p1 : Option Addr, cell h2 (a6.add (Int.toNat t14 * 1)) = some (.pointer p1) ∧
  HCalls Tryz.prog 31 #[.pointer p1, f] h2 fun v2 h3 => ∃ r2 : Bool, v2 = .bool r2 ∧
  cond (!r2)
  (K (.bool false) h3)
  (NN nv fun a7 =>
  ∃ (a8 : Option Addr) (L3 C3 : Nat), cell h3 (a7.add 1) = some (.slice a8 L3 C3) ∧
  (0 ≤ t14 ∧ t14 < (L3 : Int)) ∧
  NN a8 fun a9 =>
  ∃ n2 : Int, cell h3 (a9.add (Int.toNat t14 * 1)) = some (.int .i64 n2) ∧
  funV f fun fg1 fa1 fc1 => callX Tryz.prog F fg1 (fa1 ++ (([.int .i64 n1, .int .i64 n2] : List Value) ++ fc1)).toArray h3 fun v3 h4 => ∃ r3 : Bool, v3 = .bool r3 ∧
  cond (!r3)
  (K (.bool false) h4)
  (btree_node_walk_b2 nv f t12 t12L t12C t13 t14 h4 nx0 K)))
  (NN nv fun a10 =>
  ∃ (a11 : Option Addr) (L4 C4 : Nat), cell h2 (a10.add 1) = some (.slice a11 L4 C4) ∧
  (0 ≤ t14 ∧ t14 < (L4 : Int)) ∧
  NN a11 fun a12 =>
  ∃ n3 : Int, cell h2 (a12.add (Int.toNat t14 * 1)) = some (.int .i64 n3) ∧
  funV f fun fg2 fa2 fc2 => callX Tryz.prog F fg2 (fa2 ++ (([.int .i64 n1, .int .i64 n3] : List Value) ++ fc2)).toArray h2 fun v4 h5 => ∃ r4 : Bool, v4 = .bool r4 ∧
  cond (!r4)
  (K (.bool false) h5)
  (btree_node_walk_b2 nv f t12 t12L t12C t13 t14 h5 nx0 K)))
  (btree_node_walk_b3 nv f h  K)) := by kernel_rfl
theorem btree_node_walk_b2_eq (nv : Option Addr) (f : Value) (t12 : Option Addr) (t12L : Nat) (t12C : Nat) (t13 : Int) (t14 : Int) (h : Hp) (nx0 : Int × Unit → Hp → Prop) (K : Value → Hp → Prop) : btree_node_walk_b2 nv f t12 t12L t12C t13 t14 h nx0 K = (
  InR (t14 + 1) ∧
  nx0 (t14 + 1, ()) h) := by kernel_rfl
theorem btree_node_walk_b3_eq (nv : Option Addr) (f : Value) (h : Hp)  (K : Value → Hp → Prop) : btree_node_walk_b3 nv f h  K = (
  ∃ r5 : Bool, HCalls Tryz.prog 60 #[.pointer nv] h (fun v5 h6 => v5 = .bool r5 ∧ h6 = h) ∧
  cond r5
  (K (.bool true) h)
  (NN nv fun a13 =>
  ∃ (a14 : Option Addr) (L5 C5 : Nat), cell h (a13.add 2) = some (.slice a14 L5 C5) ∧
  NN nv fun a15 =>
  ∃ (a16 : Option Addr) (L6 C6 : Nat), cell h a15 = some (.slice a16 L6 C6) ∧
  (0 ≤ (L6 : Int) ∧ (L6 : Int) < (L5 : Int)) ∧
  NN a14 fun a17 =>
  ∃ p2 : Option Addr, cell h (a17.add (Int.toNat (L6 : Int) * 1)) = some (.pointer p2) ∧
  HCalls Tryz.prog 31 #[.pointer p2, f] h fun v6 h7 => ∃ r6 : Bool, v6 = .bool r6 ∧
  K (.bool r6) h7)) := by kernel_rfl
theorem btree_node_walk_call {nv : Option Addr} {f : Value} {h : Hp} {K : Value → Hp → Prop} (hk : btree_node_walk_b0 nv f h K) : HCalls Tryz.prog 31 #[.pointer nv, f] h K :=
  calls_of_snd btree_node_walk_an Tryz.func31 (c := bodyOf Tryz.f31) rfl Tryz.ntmps31 (Nat.le_of_ble_eq_true rfl) (snd_3 F_ok F_mixed) hk

/-! ### btree_Tree_Do_c1 -/
def btree_Tree_Do_c1_an : Ann := .node none (.leaf) (.node (some [0, 2]) (.leaf) (.leaf))
def btree_Tree_Do_c1_K0  (K : Value → Hp → Prop) : Exit → Env → Hp → Prop := retK Tryz.prog Tryz.f32.results.toList K
def btree_Tree_Do_c1_b0 (k : Int) (t1 : Int) (t2 : Option Addr) (t3 : Option Addr) (h : Hp)  (K : Value → Hp → Prop) : Prop :=
  sx_2 Tryz.prog F 21 (cp [] (bodyOf Tryz.f32)) (ap [] btree_Tree_Do_c1_an) [(0, .int .i64 k), (1, .int .i64 t1), (2, .pointer t2), (3, .pointer t3)] h (btree_Tree_Do_c1_K0  K)
def btree_Tree_Do_c1_b1 (k : Int) (t2 : Option Addr) (h : Hp)  (K : Value → Hp → Prop) : Prop :=
  sx_1 Tryz.prog F 21 (cp [1, 1] (bodyOf Tryz.f32)) (ap [1, 1] btree_Tree_Do_c1_an) [(0, .int .i64 k), (2, .pointer t2)] h (btree_Tree_Do_c1_K0  K)
theorem btree_Tree_Do_c1_b0_eq (k : Int) (t1 : Int) (t2 : Option Addr) (t3 : Option Addr) (h : Hp)  (K : Value → Hp → Prop) : btree_Tree_Do_c1_b0 k t1 t2 t3 h  K = (
  NN t2 fun a1 =>
  ∃ (a2 : Option Addr) (L1 C1 : Nat), cell h (a1.add 1) = some (.slice a2 L1 C1) ∧
  (0 ≤ (0 : Int) ∧ (0 : Int) < (L1 : Int)) ∧
  NN a2 fun a3 =>
  ∃ n1 : Int, cell h (a3.add (Int.toNat (0 : Int) * 1)) = some (.int .i64 n1) ∧
  cond (decide (k < n1))
  (NN t3 fun a4 =>
  ∃ n2 : Int, cell h a4 = some (.int .i64 n2) ∧
  InR (n2 + 1) ∧
  NN t3 fun a5 =>
  Wr h a5 (.int .i64 (n2 + 1)) fun h1 =>
  btree_Tree_Do_c1_b1 k t2 h1  K)
  (btree_Tree_Do_c1_b1 k t2 h  K)) := by kernel_rfl
theorem btree_Tree_Do_c1_b1_eq (k : Int) (t2 : Option Addr) (h : Hp)  (K : Value → Hp → Prop) : btree_Tree_Do_c1_b1 k t2 h  K = (
  NN t2 fun a6 =>
  ∃ (a7 : Option Addr) (L2 C2 : Nat), cell h (a6.add 1) = some (.slice a7 L2 C2) ∧
  (0 ≤ (0 : Int) ∧ (0 : Int) < (L2 : Int)) ∧
  NN a7 fun a8 =>
  ∃ n3 : Int, cell h (a8.add (Int.toNat (0 : Int) * 1)) = some (.int .i64 n3) ∧
  K (.bool (decide (k < n3))) h) := by kernel_rfl
theorem btree_Tree_Do_c1_call {k : Int} {t1 : Int} {t2 : Option Addr} {t3 : Option Addr} {h : Hp} {K : Value → Hp → Prop} (hk : btree_Tree_Do_c1_b0 k t1 t2 t3 h K) : HCalls Tryz.prog 32 #[.int .i64 k, .int .i64 t1, .pointer t2, .pointer t3] h K :=
  calls_of_snd btree_Tree_Do_c1_an Tryz.func32 (c := bodyOf Tryz.f32) rfl Tryz.ntmps32 (Nat.le_of_ble_eq_true rfl) (snd_2 F_ok F_mixed) hk

/-! ### btree_Tree_at -/
def btree_Tree_at_an : Ann := .node none (.leaf) (.node (some [0, 3]) (.leaf) (.leaf))
def btree_Tree_at_K0  (K : Value → Hp → Prop) : Exit → Env → Hp → Prop := retK Tryz.prog Tryz.f33.results.toList K
def btree_Tree_at_b0 (t : Option Addr) (i : Int) (h : Hp)  (K : Value → Hp → Prop) : Prop :=
  sx_2 Tryz.prog F 24 (cp [] (bodyOf Tryz.f33)) (ap [] btree_Tree_at_an) [(0, .pointer t), (1, .int .i64 i)] h (btree_Tree_at_K0  K)
def btree_Tree_at_b1 (t : Option Addr) (i : Option Addr) (h : Hp)  (K : Value → Hp → Prop) : Prop :=
  sx_1 Tryz.prog F 24 (cp [1, 1] (bodyOf Tryz.f33)) (ap [1, 1] btree_Tree_at_an) [(0, .pointer t), (3, .pointer i)] h (btree_Tree_at_K0  K)
theorem btree_Tree_at_b0_eq (t : Option Addr) (i : Int) (h : Hp)  (K : Value → Hp → Prop) : btree_Tree_at_b0 t i h  K = (
  New h (.cells #[.int .i64 i] 3) fun b1 h1 =>
  ∃ n1 : Int, cell h1 ⟨b1, 0, none⟩ = some (.int .i64 n1) ∧
  cond (decide (n1 < 0))
  (K (.tuple #[.int .i64 0, .int .i64 2]) h1)
  (∃ n2 : Int, cell h1 ⟨b1, 0, none⟩ = some (.int .i64 n2) ∧
  NN t fun a1 =>
  ∃ n3 : Int, cell h1 (a1.add 1) = some (.int .i64 n3) ∧
  cond (decide (n3 ≤ n2))
  (K (.tuple #[.int .i64 0, .int .i64 2]) h1)
  (btree_Tree_at_b1 t (some ⟨b1, 0, none⟩) h1  K))) := by kernel_rfl
theorem btree_Tree_at_b1_eq (t : Option Addr) (i : Option Addr) (h : Hp)  (K : Value → Hp → Prop) : btree_Tree_at_b1 t i h  K = (
  New h (.cells #[.int .i64 0] 3) fun b2 h2 =>
  Wr h2 ⟨b2, 0, none⟩ (.int .i64 0) fun h3 =>
  NN t fun a2 =>
  ∃ p1 : Option Addr, cell h3 (a2.add 2) = some (.pointer p1) ∧
  HCalls Tryz.prog 31 #[.pointer p1, .func (.func 63) #[] #[.pointer (some ⟨b2, 0, none⟩), .pointer i]] h3 fun v1 h4 => ∃ r1 : Bool, v1 = .bool r1 ∧
  ∃ n4 : Int, cell h4 ⟨b2, 0, none⟩ = some (.int .i64 n4) ∧
  K (.tuple #[.int .i64 n4, .int .i64 0]) h4) := by kernel_rfl
theorem btree_Tree_at_call {t : Option Addr} {i : Int} {h : Hp} {K : Value → Hp → Prop} (hk : btree_Tree_at_b0 t i h K) : HCalls Tryz.prog 33 #[.pointer t, .int .i64 i] h K :=
  calls_of_snd btree_Tree_at_an Tryz.func33 (c := bodyOf Tryz.f33) rfl Tryz.ntmps33 (Nat.le_of_ble_eq_true rfl) (snd_2 F_ok F_mixed) hk

/-! ### r03_SameList -/
def r03_SameList_an : Ann := .node none (.leaf) (.node none (.leaf) (.node (some []) (.node none (.leaf) (.loop [0, 1] [(5, .int .i64)] (.node none (.leaf) (.node (some [0, 1, 5]) (.leaf) (.leaf))))) (.leaf)))
def r03_SameList_K0  (K : Value → Hp → Prop) : Exit → Env → Hp → Prop := retK Tryz.prog Tryz.f34.results.toList K
def r03_SameList_K1  (K : Value → Hp → Prop) : Exit → Env → Hp → Prop := thenE (fun env h => sx_2 Tryz.prog F 26 (cp [1, 1, 1] (bodyOf Tryz.f34)) (ap [1, 1, 1] r03_SameList_an) (rs [] env) h (r03_SameList_K0  K)) (r03_SameList_K0  K)
def r03_SameList_K2  (K : Value → Hp → Prop) : Exit → Env → Hp → Prop := blockE 0 (r03_SameList_K1  K)
def r03_SameList_K3 (nx0 : Int × Unit → Hp → Prop) (K : Value → Hp → Prop) : Exit → Env → Hp → Prop := thenE (fun env h => getV [(5, .int .i64)] env fun s => nx0 s h) (r03_SameList_K2  K)
def r03_SameList_b0 (a : Option Addr) (aL : Nat) (aC : Nat) (b : Option Addr) (bL : Nat) (bC : Nat) (h : Hp)  (K : Value → Hp → Prop) : Prop :=
  sx_3 Tryz.prog F 26 (cp [] (bodyOf Tryz.f34)) (ap [] r03_SameList_an) [(0, .slice a aL aC), (1, .slice b bL bC)] h (r03_SameList_K0  K)
def r03_SameList_b1 (i : Int) (a : Option Addr) (aL : Nat) (aC : Nat) (b : Option Addr) (bL : Nat) (bC : Nat) (h : Hp) (nx0 : Int × Unit → Hp → Prop) (K : Value → Hp → Prop) : Prop :=
  sx_2 Tryz.prog F 26 (cp [1, 1, 0, 1, 2, 2] (bodyOf Tryz.f34)) (ap [1, 1, 0, 1, 2] r03_SameList_an) [(5, .int .i64 i), (0, .slice a aL aC), (1, .slice b bL bC)] h (r03_SameList_K3 nx0 K)
def r03_SameList_b2 (a : Option Addr) (aL : Nat) (aC : Nat) (b : Option Addr) (bL : Nat) (bC : Nat) (i : Int) (h : Hp) (nx0 : Int × Unit → Hp → Prop) (K : Value → Hp → Prop) : Prop :=
  sx_1 Tryz.prog F 26 (cp [1, 1, 0, 1, 2, 2, 1, 1] (bodyOf Tryz.f34)) (ap [1, 1, 0, 1, 2, 1, 1] r03_SameList_an) [(0, .slice a aL aC), (1, .slice b bL bC), (5, .int .i64 i)] h (r03_SameList_K3 nx0 K)
def r03_SameList_b3  (h : Hp)  (K : Value → Hp → Prop) : Prop :=
  sx_2 Tryz.prog F 26 (cp [1, 1, 1] (bodyOf Tryz.f34)) (ap [1, 1, 1] r03_SameList_an) [] h (r03_SameList_K0  K)
theorem r03_SameList_b0_eq (a : Option Addr) (aL : Nat) (aC : Nat) (b : Option Addr) (bL : Nat) (bC : Nat) (h : Hp)  (K : Value → Hp → Prop) : r03_SameList_b0 a aL aC b bL bC h  K = (
  cond (!decide ((aL : Int) = (bL : Int)))
  (K (.bool false) h)
  (LoopVC ((0, ()) : Int × Unit) h (fun (nx0 : Int × Unit → Hp → Prop) (s1 : Int × Unit) h1 => r03_SameList_b1 s1.1 a aL aC b bL bC h1 nx0 K))) := by kernel_rfl
theorem r03_SameList_b1_eq (i : Int) (a : Option Addr) (aL : Nat) (aC : Nat) (b : Option Addr) (bL : Nat) (bC : Nat) (h : Hp) (nx0 : Int × Unit → Hp → Prop) (K : Value → Hp → Prop) : r03_SameList_b1 i a aL aC b bL bC h nx0 K = (
  cond (decide (i < (aL : Int)))
  ((0 ≤ i ∧ i < (aL : Int)) ∧
  NN a fun a1 =>
  ∃ n1 : Int, cell h (a1.add (Int.toNat i * 1)) = some (.int .i64 n1) ∧
  (0 ≤ i ∧ i < (bL : Int)) ∧
  NN b fun a2 =>
  ∃ n2 : Int, cell h (a2.add (Int.toNat i * 1)) = some (.int .i64 n2) ∧
  cond (!decide (n1 = n2))
  (K (.bool false) h)
  (r03_SameList_b2 a aL aC b bL bC i h nx0 K))
  (r03_SameList_b3  h  K)) := by kernel_rfl
theorem r03_SameList_b2_eq (a : Option Addr) (aL : Nat) (aC : Nat) (b : Option Addr) (bL : Nat) (bC : Nat) (i : Int) (h : Hp) (nx0 : Int × Unit → Hp → Prop) (K : Value → Hp → Prop) : r03_SameList_b2 a aL aC b bL bC i h nx0 K = (
  InR (i + 1) ∧
  nx0 (i + 1, ()) h) := by kernel_rfl
theorem r03_SameList_b3_eq  (h : Hp)  (K : Value → Hp → Prop) : r03_SameList_b3  h  K = (
  K (.bool true) h) := by kernel_rfl
theorem r03_SameList_call {a : Option Addr} {aL : Nat} {aC : Nat} {b : Option Addr} {bL : Nat} {bC : Nat} {h : Hp} {K : Value → Hp → Prop} (hk : r03_SameList_b0 a aL aC b bL bC h K) : HCalls Tryz.prog 34 #[.slice a aL aC, .slice b bL bC] h K :=
  calls_of_snd r03_SameList_an Tryz.func34 (c := bodyOf Tryz.f34) rfl Tryz.ntmps34 (Nat.le_of_ble_eq_true rfl) (snd_3 F_ok F_mixed) hk

/-! ### btree_number -/
def btree_number_an : Ann := .leaf
def btree_number_K0  (K : Value → Hp → Prop) : Exit → Env → Hp → Prop := retK Tryz.prog Tryz.f35.results.toList K
def btree_number_b0 (l : Option Addr) (lL : Nat) (lC : Nat) (h : Hp)  (K : Value → Hp → Prop) : Prop :=
  sx_1 Tryz.prog F 6 (cp [] (bodyOf Tryz.f35)) (ap [] btree_number_an) [(0, .slice l lL lC)] h (btree_number_K0  K)
theorem btree_number_b0_eq (l : Option Addr) (lL : Nat) (lC : Nat) (h : Hp)  (K : Value → Hp → Prop) : btree_number_b0 l lL lC h  K = (
  HCalls Tryz.prog 46 #[.slice l lL lC, .func (.func 64) #[] #[]] h fun v1 h1 => ∃ r1 : Bool, v1 = .bool r1 ∧
  K (.bool (!r1)) h1) := by kernel_rfl
theorem btree_number_call {l : Option Addr} {lL : Nat} {lC : Nat} {h : Hp} {K : Value → Hp → Prop} (hk : btree_number_b0 l lL lC h K) : HCalls Tryz.prog 35 #[.slice l lL lC] h K :=
  calls_of_snd btree_number_an Tryz.func35 (c := bodyOf Tryz.f35) rfl Tryz.ntmps35 (Nat.le_of_ble_eq_true rfl) (snd_1 F_ok F_mixed) hk

/-! ### btree_Tree_Scan_c1 -/
def btree_Tree_Scan_c1_an : Ann := .node none (.leaf) (.node (some [0, 3, 4]) (.leaf) (.leaf))
def btree_Tree_Scan_c1_K0  (K : Value → Hp → Prop) : Exit → Env → Hp → Prop := retK Tryz.prog Tryz.f36.results.toList K
def btree_Tree_Scan_c1_b0 (k : Int) (v : Int) (t2 : Option Addr) (t3 : Option Addr) (t4 : Option Addr) (h : Hp)  (K : Value → Hp → Prop) : Prop :=
  sx_2 Tryz.prog F 30 (cp [] (bodyOf Tryz.f36)) (ap [] btree_Tree_Scan_c1_an) [(0, .int .i64 k), (1, .int .i64 v), (2, .pointer t2), (3, .pointer t3), (4, .pointer t4)] h (btree_Tree_Scan_c1_K0  K)
def btree_Tree_Scan_c1_b1 (k : Int) (t3 : Option Addr) (t4 : Option Addr) (h : Hp)  (K : Value → Hp → Prop) : Prop :=
  sx_1 Tryz.prog F 30 (cp [1, 1] (bodyOf Tryz.f36)) (ap [1, 1] btree_Tree_Scan_c1_an) [(0, .int .i64 k), (3, .pointer t3), (4, .pointer t4)] h (btree_Tree_Scan_c1_K0  K)
theorem btree_Tree_Scan_c1_b0_eq (k : Int) (v : Int) (t2 : Option Addr) (t3 : Option Addr) (t4 : Option Addr) (h : Hp)  (K : Value → Hp → Prop) : btree_Tree_Scan_c1_b0 k v t2 t3 t4 h  K = (
  NN t2 fun a1 =>
  ∃ n1 : Int, cell h a1 = some (.int .i64 n1) ∧
  cond (decide (n1 ≤ k))
  (NN t3 fun a2 =>
  ∃ n2 : Int, cell h a2 = some (.int .i64 n2) ∧
  cond (decide (k < n2))
  (NN t4 fun a3 =>
  ∃ (a4 : Option Addr) (L1 C1 : Nat), cell h a3 = some (.slice a4 L1 C1) ∧
  New h (.cells #[.int .i64 k, .int .i64 v] 51) fun b1 h1 =>
  appendV Tryz.prog 45 45 (.slice a4 L1 C1) (.slice (some ⟨b1, 0, none⟩) 1 1) h1 (slK fun a5 l1 c1 h2 =>
  NN t4 fun a6 =>
  Wr h2 a6 (.slice a5 l1 c1) fun h3 =>
  btree_Tree_Scan_c1_b1 k t3 t4 h3  K))
  (btree_Tree_Scan_c1_b1 k t3 t4 h  K))
  (btree_Tree_Scan_c1_b1 k t3 t4 h  K)) := by kernel_rfl
theorem btree_Tree_Scan_c1_b1_eq (k : Int) (t3 : Option Addr) (t4 : Option Addr) (h : Hp)  (K : Value → Hp → Prop) : btree_Tree_Scan_c1_b1 k t3 t4 h  K = (
  NN t3 fun a7 =>
  ∃ n3 : Int, cell h a7 = some (.int .i64 n3) ∧
  cond (decide (k < n3))
  (NN t4 fun a8 =>
  ∃ (a9 : Option Addr) (L2 C2 : Nat), cell h a8 = some (.slice a9 L2 C2) ∧
  K (.bool (decide ((L2 : Int) ≤ 1000))) h)
  (K (.bool false) h)) := by kernel_rfl
theorem btree_Tree_Scan_c1_call {k : Int} {v : Int} {t2 : Option Addr} {t3 : Option Addr} {t4 : Option Addr} {h : Hp} {K : Value → Hp → Prop} (hk : btree_Tree_Scan_c1_b0 k v t2 t3 t4 h K) : HCalls Tryz.prog 36 #[.int .i64 k, .int .i64 v, .pointer t2, .pointer t3, .pointer t4] h K :=
  calls_of_snd btree_Tree_Scan_c1_an Tryz.func36 (c := bodyOf Tryz.f36) rfl Tryz.ntmps36 (Nat.le_of_ble_eq_true rfl) (snd_2 F_ok F_mixed) hk

/-! ### btree_Tree_put -/
def btree_Tree_put_an : Ann := .node none (.leaf) (.node none (.leaf) (.node none (.leaf) (.node none (.node none (.leaf) (.node none (.node none (.leaf) (.node none (.tail 15) (.leaf))) (.leaf))) (.node none (.leaf) (.node none (.leaf) (.node none (.leaf) (.node none (.leaf) (.node (some [0, 1, 2, 8, 15]) (.node none (.leaf) (.loop [0, 10, 11] [(1, .int .i64), (2, .int .i64), (8, .int .i64), (15, .ptr), (16, .int .i64)] (.node none (.leaf) (.node (some [0, 1, 2, 8, 10, 11, 15, 16]) (.node none (.leaf) (.node (some [0, 8, 10, 11, 15, 16, 17, 18]) (.plan (.qu 0 (.qu 1 (.qu 2 (.qu 3 (.qu 4 (.qu 5 (.qu 6 (.qu 7 (.qu 10 (.qu 11 (.qu 12 (.qu 13 (.qu 14 (.qu 15 (.wo 8 (.wo 9 (.wo 16 (.wo 17 (.qu 18 (.qu 19 (.wo 20 (.qu 21 (.qu 22 (.wo 23 .fin .no))) .no))) .no) .no) (.wo 16 (.wo 9 (.wo 17 (.qu 18 (.qu 19 (.wo 20 (.qu 21 (.qu 22 (.wo 23 .fin .no))) .no))) .no) .no) .no)) (.wo 16 (.wo 8 (.wo 9 (.wo 17 (.qu 18 (.qu 19 (.wo 20 (.qu 21 (.qu 22 (.wo 23 .fin .no))) .no))) .no) .no) .no) .no))))))))))))))))) (.node (some [0, 8, 10, 11, 16, 17]) (.leaf) (.leaf)))) (.leaf))))) (.leaf)))))))))
def btree_Tree_put_K0  (K : Value → Hp → Prop) : Exit → Env → Hp → Prop := retK Tryz.prog Tryz.f37.results.toList K
def btree_Tree_put_K1  (K : Value → Hp → Prop) : Exit → Env → Hp → Prop := thenE (fun env h => sx_3 Tryz.prog F 168 (cp [1, 1, 1, 1, 1, 1, 1, 1, 1] (bodyOf Tryz.f37)) (ap [1, 1, 1, 1, 1, 1, 1, 1, 1] btree_Tree_put_an) (rs [0, 1, 2, 8, 15] env) h (btree_Tree_put_K0  K)) (btree_Tree_put_K0  K)
def btree_Tree_put_K2  (K : Value → Hp → Prop) : Exit → Env → Hp → Prop := blockE 0 (btree_Tree_put_K1  K)
def btree_Tree_put_K3 (nx0 : Int × Int × Int × Option Addr × Int × Unit → Hp → Prop) (K : Value → Hp → Prop) : Exit → Env → Hp → Prop := thenE (fun env h => getV [(1, .int .i64), (2, .int .i64), (8, .int .i64), (15, .ptr), (16, .int .i64)] env fun s => nx0 s h) (btree_Tree_put_K2  K)
def btree_Tree_put_K4 (nx0 : Int × Int × Int × Option Addr × Int × Unit → Hp → Prop) (K : Value → Hp → Prop) : Exit → Env → Hp → Prop := thenE (fun env h => sx_2 Tryz.prog F 168 (cp [1, 1, 1, 1, 1, 1, 1, 1, 0, 1, 2, 2, 1, 1] (bodyOf Tryz.f37)) (ap [1, 1, 1, 1, 1, 1, 1, 1, 0, 1, 2, 1, 1] btree_Tree_put_an) (rs [0, 1, 2, 8, 10, 11, 15, 16] env) h (btree_Tree_put_K3 nx0 K)) (btree_Tree_put_K3 nx0 K)
def btree_Tree_put_K5 (nx0 : Int × Int × Int × Option Addr × Int × Unit → Hp → Prop) (K : Value → Hp → Prop) : Exit → Env → Hp → Prop := blockE 1 (btree_Tree_put_K4 nx0 K)
def btree_Tree_put_b0 (t : Option Addr) (key : Int) (value : Int) (h : Hp)  (K : Value → Hp → Prop) : Prop :=
  sx_4 Tryz.prog F 168 (cp [] (bodyOf Tryz.f37)) (ap [] btree_Tree_put_an) [(0, .pointer t), (1, .int .i64 key), (2, .int .i64 value)] h (btree_Tree_put_K0  K)
def btree_Tree_put_b1 (key : Int) (value : Int) (visits : Int) (right : Option Addr) (d : Int) (t : Option Addr) (nodes : Option Addr) (nodesL : Nat) (nodesC : Nat) (atv : Option Addr) (atvL : Nat) (atvC : Nat) (h : Hp) (nx0 : Int × Int × Int × Option Addr × Int × Unit → Hp → Prop) (K : Value → Hp → Prop) : Prop :=
  sx_3 Tryz.prog F 168 (cp [1, 1, 1, 1, 1, 1, 1, 1, 0, 1, 2, 2] (bodyOf Tryz.f37)) (ap [1, 1, 1, 1, 1, 1, 1, 1, 0, 1, 2] btree_Tree_put_an) [(1, .int .i64 key), (2, .int .i64 value), (8, .int .i64 visits), (15, .pointer right), (16, .int .i64 d), (0, .pointer t), (10, .slice nodes nodesL nodesC), (11, .slice atv atvL atvC)] h (btree_Tree_put_K3 nx0 K)
def btree_Tree_put_b2 (t : Option Addr) (visits : Int) (nodes : Option Addr) (nodesL : Nat) (nodesC : Nat) (atv : Option Addr) (atvL : Nat) (atvC : Nat) (right : Option Addr) (d : Int) (nv : Option Addr) (i : Int) (h : Hp) (nx0 : Int × Int × Int × Option Addr × Int × Unit → Hp → Prop) (K : Value → Hp → Prop) : Prop :=
  sx_2 Tryz.prog F 168 (cp [1, 1, 1, 1, 1, 1, 1, 1, 0, 1, 2, 2, 1, 0, 2, 1, 1] (bodyOf Tryz.f37)) (ap [1, 1, 1, 1, 1, 1, 1, 1, 0, 1, 2, 1, 0, 1, 1] btree_Tree_put_an) [(0, .pointer t), (8, .int .i64 visits), (10, .slice nodes nodesL nodesC), (11, .slice atv atvL atvC), (15, .pointer right), (16, .int .i64 d), (17, .pointer nv), (18, .int .i64 i)] h (btree_Tree_put_K5 nx0 K)
def btree_Tree_put_b3 (t : Option Addr) (key : Int) (value : Int) (visits : Int) (right : Option Addr) (h : Hp)  (K : Value → Hp → Prop) : Prop :=
  sx_3 Tryz.prog F 168 (cp [1, 1, 1, 1, 1, 1, 1, 1, 1] (bodyOf Tryz.f37)) (ap [1, 1, 1, 1, 1, 1, 1, 1, 1] btree_Tree_put_an) [(0, .pointer t), (1, .int .i64 key), (2, .int .i64 value), (8, .int .i64 visits), (15, .pointer right)] h (btree_Tree_put_K0  K)
def btree_Tree_put_b4 (t : Option Addr) (visits : Int) (nodes : Option Addr) (nodesL : Nat) (nodesC : Nat) (atv : Option Addr) (atvL : Nat) (atvC : Nat) (d : Int) (nv : Option Addr) (h : Hp) (nx0 : Int × Int × Int × Option Addr × Int × Unit → Hp → Prop) (K : Value → Hp → Prop) : Prop :=
  sx_1 Tryz.prog F 168 (cp [1, 1, 1, 1, 1, 1, 1, 1, 0, 1, 2, 2, 1, 0, 2, 1, 1, 1] (bodyOf Tryz.f37)) (ap [1, 1, 1, 1, 1, 1, 1, 1, 0, 1, 2, 1, 0, 1, 1, 1] btree_Tree_put_an) [(0, .pointer t), (8, .int .i64 visits), (10, .slice nodes nodesL nodesC), (11, .slice atv atvL atvC), (16, .int .i64 d), (17, .pointer nv)] h (btree_Tree_put_K5 nx0 K)
def btree_Tree_put_b5 (t : Option Addr) (key : Int) (value : Int) (visits : Int) (nodes : Option Addr) (nodesL : Nat) (nodesC : Nat) (atv : Option Addr) (atvL : Nat) (atvC : Nat) (right : Option Addr) (d : Int) (h : Hp) (nx0 : Int × Int × Int × Option Addr × Int × Unit → Hp → Prop) (K : Value → Hp → Prop) : Prop :=
  sx_2 Tryz.prog F 168 (cp [1, 1, 1, 1, 1, 1, 1, 1, 0, 1, 2, 2, 1, 1] (bodyOf Tryz.f37)) (ap [1, 1, 1, 1, 1, 1, 1, 1, 0, 1, 2, 1, 1] btree_Tree_put_an) [(0, .pointer t), (1, .int .i64 key), (2, .int .i64 value), (8, .int .i64 visits), (10, .slice nodes nodesL nodesC), (11, .slice atv atvL atvC), (15, .pointer right), (16, .int .i64 d)] h (btree_Tree_put_K3 nx0 K)
theorem btree_Tree_put_b0_eq (t : Option Addr) (key : Int) (value : Int) (h : Hp)  (K : Value → Hp → Prop) : btree_Tree_put_b0 t key value h  K = (
  HCalls Tryz.prog 59 #[.pointer t, .int .i64 key] h fun v1 h1 => ∃ (r1 : Option Addr) (rL1 rC1 : Nat), ∃ (r2 : Option Addr) (rL2 rC2 : Nat), ∃ r3 : Bool, v1 = .tuple #[.slice r1 rL1 rC1, .slice r2 rL2 rC2, .bool r3] ∧
  cond r3
  (InR ((rL1 : Int) - 1) ∧
  (0 ≤ (rL1 : Int) - 1 ∧ (rL1 : Int) - 1 < (rL1 : Int)) ∧
  NN r1 fun a1 =>
  ∃ p1 : Option Addr, cell h1 (a1.add (Int.toNat ((rL1 : Int) - 1) * 1)) = some (.pointer p1) ∧
  InR ((rL2 : Int) - 1) ∧
  (0 ≤ (rL2 : Int) - 1 ∧ (rL2 : Int) - 1 < (rL2 : Int)) ∧
  NN r2 fun a2 =>
  ∃ n1 : Int, cell h1 (a2.add (Int.toNat ((rL2 : Int) - 1) * 1)) = some (.int .i64 n1) ∧
  NN p1 fun a3 =>
  ∃ (a4 : Option Addr) (L1 C1 : Nat), cell h1 (a3.add 1) = some (.slice a4 L1 C1) ∧
  NN p1 fun a5 =>
  ∃ (a6 : Option Addr) (L2 C2 : Nat), cell h1 (a5.add 1) = some (.slice a6 L2 C2) ∧
  (0 ≤ n1 ∧ n1 < (L2 : Int)) ∧
  NN a6 fun a7 =>
  ∃ n2 : Int, cell h1 (a7.add (Int.toNat n1 * 1)) = some (.int .i64 n2) ∧
  (0 ≤ n1 ∧ n1 < (L1 : Int)) ∧
  NN a4 fun a8 =>
  Wr h1 (a8.add (Int.toNat n1 * 1)) (.int .i64 value) fun h2 =>
  K (.tuple #[.int .i64 n2, .bool true, .int .i64 (rL1 : Int), .int .i64 0]) h2)
  (NN t fun a9 =>
  ∃ n3 : Int, cell h1 (a9.add 1) = some (.int .i64 n3) ∧
  cond (decide ((2000 : Int) ≤ n3))
  (K (.tuple #[.int .i64 0, .bool false, .int .i64 0, .int .i64 4]) h1)
  (NN t fun a10 =>
  ∃ n4 : Int, cell h1 (a10.add 1) = some (.int .i64 n4) ∧
  InR (n4 + 1) ∧
  NN t fun a11 =>
  Wr h1 (a11.add 1) (.int .i64 (n4 + 1)) fun h3 =>
  cond (decide ((rL1 : Int) = 0))
  (New h3 (.cells #[.int .i64 key] 3) fun b1 h4 =>
  New h4 (.cells #[.int .i64 value] 3) fun b2 h5 =>
  New h5 (.cells #[.slice (some ⟨b1, 0, none⟩) 1 1, .slice (some ⟨b2, 0, none⟩) 1 1, .slice none 0 0] 86) fun b3 h6 =>
  NN t fun a12 =>
  Wr h6 (a12.add 2) (.pointer (some ⟨b3, 0, none⟩)) fun h7 =>
  K (.tuple #[.int .i64 0, .bool false, .int .i64 1, .int .i64 0]) h7)
  (InR ((rL1 : Int) - 1) ∧
  LoopVC ((key, value, (rL1 : Int), none, (rL1 : Int) - 1, ()) : Int × Int × Int × Option Addr × Int × Unit) h3 (fun (nx0 : Int × Int × Int × Option Addr × Int × Unit → Hp → Prop) (s1 : Int × Int × Int × Option Addr × Int × Unit) h8 => btree_Tree_put_b1 s1.1 s1.2.1 s1.2.2.1 s1.2.2.2.1 s1.2.2.2.2.1 t r1 rL1 rC1 r2 rL2 rC2 h8 nx0 K))))) := by kernel_rfl
theorem btree_Tree_put_b1_eq (key : Int) (value : Int) (visits : Int) (right : Option Addr) (d : Int) (t : Option Addr) (nodes : Option Addr) (nodesL : Nat) (nodesC : Nat) (atv : Option Addr) (atvL : Nat) (atvC : Nat) (h : Hp) (nx0 : Int × Int × Int × Option Addr × Int × Unit → Hp → Prop) (K : Value → Hp → Prop) : btree_Tree_put_b1 key value visits right d t nodes nodesL nodesC atv atvL atvC h nx0 K = (
  cond (decide ((0 : Int) ≤ d))
  ((0 ≤ d ∧ d < (nodesL : Int)) ∧
  NN nodes fun a13 =>
  ∃ p2 : Option Addr, cell h (a13.add (Int.toNat d * 1)) = some (.pointer p2) ∧
  (0 ≤ d ∧ d < (atvL : Int)) ∧
  NN atv fun a14 =>
  ∃ n5 : Int, cell h (a14.add (Int.toNat d * 1)) = some (.int .i64 n5) ∧
  NN p2 fun a15 =>
  ∃ (a16 : Option Addr) (L3 C3 : Nat), cell h a15 = some (.slice a16 L3 C3) ∧
  NN p2 fun a17 =>
  ∃ (a18 : Option Addr) (L4 C4 : Nat), cell h (a17.add 1) = some (.slice a18 L4 C4) ∧
  (New h (.cells #[.int .i64 key] 3) fun b4 h9 =>
  (∃ (a19 : Option Addr) (L5 C5 : Nat), cell h9 (a17.add 1) = some (.slice a19 L5 C5) ∧
  (.slice a19 L5 C5 : Value) = .slice a18 L4 C4) ∧
  (∃ (a20 : Option Addr) (L6 C6 : Nat), cell h9 a15 = some (.slice a20 L6 C6) ∧
  (.slice a20 L6 C6 : Value) = .slice a16 L3 C3) ∧
  (HCalls Tryz.prog 65 #[.slice a16 L3 C3, .int .i64 n5, .slice (some ⟨b4, 0, none⟩) 1 1] h9 fun v2 h10 => ∃ (r4 : Option Addr) (rL3 rC3 : Nat), v2 = .slice r4 rL3 rC3 ∧
  (∃ (a21 : Option Addr) (L7 C7 : Nat), cell h10 (a17.add 1) = some (.slice a21 L7 C7) ∧
  (.slice a21 L7 C7 : Value) = .slice a18 L4 C4) ∧
  New h10 (.cells #[.int .i64 value] 3) fun b5 h11 =>
  (∃ (a22 : Option Addr) (L8 C8 : Nat), cell h11 (a17.add 1) = some (.slice a22 L8 C8) ∧
  (.slice a22 L8 C8 : Value) = .slice a18 L4 C4) ∧
  HCalls Tryz.prog 65 #[.slice a18 L4 C4, .int .i64 n5, .slice (some ⟨b5, 0, none⟩) 1 1] h11 fun v3 h12 => ∃ (r5 : Option Addr) (rL4 rC4 : Nat), v3 = .slice r5 rL4 rC4 ∧
  NN p2 fun a23 =>
  Wr h12 a23 (.slice r4 rL3 rC3) fun h13 =>
  NN p2 fun a24 =>
  Wr h13 (a24.add 1) (.slice r5 rL4 rC4) fun h14 =>
  btree_Tree_put_b2 t visits nodes nodesL nodesC atv atvL atvC right d p2 n5 h14 nx0 K) ∧
  (New h9 (.cells #[.int .i64 value] 3) fun b6 h15 =>
  (∃ (a25 : Option Addr) (L9 C9 : Nat), cell h15 (a17.add 1) = some (.slice a25 L9 C9) ∧
  (.slice a25 L9 C9 : Value) = .slice a18 L4 C4) ∧
  (∃ (a26 : Option Addr) (L10 C10 : Nat), cell h15 a15 = some (.slice a26 L10 C10) ∧
  (.slice a26 L10 C10 : Value) = .slice a16 L3 C3) ∧
  HCalls Tryz.prog 65 #[.slice a16 L3 C3, .int .i64 n5, .slice (some ⟨b4, 0, none⟩) 1 1] h15 fun v4 h16 => ∃ (r6 : Option Addr) (rL5 rC5 : Nat), v4 = .slice r6 rL5 rC5 ∧
  (∃ (a27 : Option Addr) (L11 C11 : Nat), cell h16 (a17.add 1) = some (.slice a27 L11 C11) ∧
  (.slice a27 L11 C11 : Value) = .slice a18 L4 C4) ∧
  HCalls Tryz.prog 65 #[.slice a18 L4 C4, .int .i64 n5, .slice (some ⟨b6, 0, none⟩) 1 1] h16 fun v5 h17 => ∃ (r7 : Option Addr) (rL6 rC6 : Nat), v5 = .slice r7 rL6 rC6 ∧
  NN p2 fun a28 =>
  Wr h17 a28 (.slice r6 rL5 rC5) fun h18 =>
  NN p2 fun a29 =>
  Wr h18 (a29.add 1) (.slice r7 rL6 rC6) fun h19 =>
  btree_Tree_put_b2 t visits nodes nodesL nodesC atv atvL atvC right d p2 n5 h19 nx0 K)) ∧
  (New h (.cells #[.int .i64 value] 3) fun b7 h20 =>
  (∃ (a30 : Option Addr) (L12 C12 : Nat), cell h20 (a17.add 1) = some (.slice a30 L12 C12) ∧
  (.slice a30 L12 C12 : Value) = .slice a18 L4 C4) ∧
  (∃ (a31 : Option Addr) (L13 C13 : Nat), cell h20 a15 = some (.slice a31 L13 C13) ∧
  (.slice a31 L13 C13 : Value) = .slice a16 L3 C3) ∧
  New h20 (.cells #[.int .i64 key] 3) fun b8 h21 =>
  (∃ (a32 : Option Addr) (L14 C14 : Nat), cell h21 (a17.add 1) = some (.slice a32 L14 C14) ∧
  (.slice a32 L14 C14 : Value) = .slice a18 L4 C4) ∧
  (∃ (a33 : Option Addr) (L15 C15 : Nat), cell h21 a15 = some (.slice a33 L15 C15) ∧
  (.slice a33 L15 C15 : Value) = .slice a16 L3 C3) ∧
  HCalls Tryz.prog 65 #[.slice a16 L3 C3, .int .i64 n5, .slice (some ⟨b8, 0, none⟩) 1 1] h21 fun v6 h22 => ∃ (r8 : Option Addr) (rL7 rC7 : Nat), v6 = .slice r8 rL7 rC7 ∧
  (∃ (a34 : Option Addr) (L16 C16 : Nat), cell h22 (a17.add 1) = some (.slice a34 L16 C16) ∧
  (.slice a34 L16 C16 : Value) = .slice a18 L4 C4) ∧
  HCalls Tryz.prog 65 #[.slice a18 L4 C4, .int .i64 n5, .slice (some ⟨b7, 0, none⟩) 1 1] h22 fun v7 h23 => ∃ (r9 : Option Addr) (rL8 rC8 : Nat), v7 = .slice r9 rL8 rC8 ∧
  NN p2 fun a35 =>
  Wr h23 a35 (.slice r8 rL7 rC7) fun h24 =>
  NN p2 fun a36 =>
  Wr h24 (a36.add 1) (.slice r9 rL8 rC8) fun h25 =>
  btree_Tree_put_b2 t visits nodes nodesL nodesC atv atvL atvC right d p2 n5 h25 nx0 K))
  (btree_Tree_put_b3 t key value visits right h  K)) := by kernel_rfl
theorem btree_Tree_put_b2_eq (t : Option Addr) (visits : Int) (nodes : Option Addr) (nodesL : Nat) (nodesC : Nat) (atv : Option Addr) (atvL : Nat) (atvC : Nat) (right : Option Addr) (d : Int) (nv : Option Addr) (i : Int) (h : Hp) (nx0 : Int × Int × Int × Option Addr × Int × Unit → Hp → Prop) (K : Value → Hp → Prop) : btree_Tree_put_b2 t visits nodes nodesL nodesC atv atvL atvC right d nv i h nx0 K = (
  cond (!right.isNone)
  (NN nv fun a37 =>
  ∃ (a38 : Option Addr) (L17 C17 : Nat), cell h (a37.add 2) = some (.slice a38 L17 C17) ∧
  InR (i + 1) ∧
  New h (.cells #[.pointer right] 60) fun b9 h26 =>
  HCalls Tryz.prog 66 #[.slice a38 L17 C17, .int .i64 (i + 1), .slice (some ⟨b9, 0, none⟩) 1 1] h26 fun v8 h27 => ∃ (r10 : Option Addr) (rL9 rC9 : Nat), v8 = .slice r10 rL9 rC9 ∧
  NN nv fun a39 =>
  Wr h27 (a39.add 2) (.slice r10 rL9 rC9) fun h28 =>
  btree_Tree_put_b4 t visits nodes nodesL nodesC atv atvL atvC d nv h28 nx0 K)
  (btree_Tree_put_b4 t visits nodes nodesL nodesC atv atvL atvC d nv h nx0 K)) := by kernel_rfl
theorem btree_Tree_put_b3_eq (t : Option Addr) (key : Int) (value : Int) (visits : Int) (right : Option Addr) (h : Hp)  (K : Value → Hp → Prop) : btree_Tree_put_b3 t key value visits right h  K = (
  New h (.cells #[.int .i64 key] 3) fun b10 h29 =>
  New h29 (.cells #[.int .i64 value] 3) fun b11 h30 =>
  NN t fun a40 =>
  ∃ p3 : Option Addr, cell h30 (a40.add 2) = some (.pointer p3) ∧
  New h30 (.cells #[.pointer p3, .pointer right] 60) fun b12 h31 =>
  New h31 (.cells #[.slice (some ⟨b10, 0, none⟩) 1 1, .slice (some ⟨b11, 0, none⟩) 1 1, .slice (some ⟨b12, 0, none⟩) 2 2] 86) fun b13 h32 =>
  NN t fun a41 =>
  Wr h32 (a41.add 2) (.pointer (some ⟨b13, 0, none⟩)) fun h33 =>
  InR (visits + 1) ∧
  K (.tuple #[.int .i64 0, .bool false, .int .i64 (visits + 1), .int .i64 0]) h33) := by kernel_rfl
theorem btree_Tree_put_b4_eq (t : Option Addr) (visits : Int) (nodes : Option Addr) (nodesL : Nat) (nodesC : Nat) (atv : Option Addr) (atvL : Nat) (atvC : Nat) (d : Int) (nv : Option Addr) (h : Hp) (nx0 : Int × Int × Int × Option Addr × Int × Unit → Hp → Prop) (K : Value → Hp → Prop) : btree_Tree_put_b4 t visits nodes nodesL nodesC atv atvL atvC d nv h nx0 K = (
  NN nv fun a42 =>
  ∃ (a43 : Option Addr) (L18 C18 : Nat), cell h a42 = some (.slice a43 L18 C18) ∧
  NN t fun a44 =>
  ∃ n6 : Int, cell h a44 = some (.int .i64 n6) ∧
  cond (decide ((L18 : Int) < n6))
  (K (.tuple #[.int .i64 0, .bool false, .int .i64 visits, .int .i64 0]) h)
  (HCalls Tryz.prog 67 #[.pointer nv] h fun v9 h34 => ∃ r11 : Int, ∃ r12 : Int, ∃ r13 : Option Addr, v9 = .tuple #[.int .i64 r11, .int .i64 r12, .pointer r13] ∧
  InR (visits + 1) ∧
  btree_Tree_put_b5 t r11 r12 (visits + 1) nodes nodesL nodesC atv atvL atvC r13 d h34 nx0 K)) := by kernel_rfl
theorem btree_Tree_put_b5_eq (t : Option Addr) (key : Int) (value : Int) (visits : Int) (nodes : Option Addr) (nodesL : Nat) (nodesC : Nat) (atv : Option Addr) (atvL : Nat) (atvC : Nat) (right : Option Addr) (d : Int) (h : Hp) (nx0 : Int × Int × Int × Option Addr × Int × Unit → Hp → Prop) (K : Value → Hp → Prop) : btree_Tree_put_b5 t key value visits nodes nodesL nodesC atv atvL atvC right d h nx0 K = (
  InR (d - 1) ∧
  nx0 (key, value, visits, right, d - 1, ()) h) := by kernel_rfl
theorem btree_Tree_put_call {t : Option Addr} {key : Int} {value : Int} {h : Hp} {K : Value → Hp → Prop} (hk : btree_Tree_put_b0 t key value h K) : HCalls Tryz.prog 37 #[.pointer t, .int .i64 key, .int .i64 value] h K :=
  calls_of_snd btree_Tree_put_an Tryz.func37 (c := bodyOf Tryz.f37) rfl Tryz.ntmps37 (Nat.le_of_ble_eq_true rfl) (snd_4 F_ok F_mixed) hk

/-! ### btree_Tree_floor -/
def btree_Tree_floor_an : Ann := .node none (.leaf) (.node (some [4, 5, 6]) (.node none (.leaf) (.loop [0, 1] [(4, .int .i64), (5, .int .i64), (6, .bool), (7, .ptr)] (.node none (.leaf) (.node none (.leaf) (.node none (.leaf) (.node none (.leaf) (.node (some [0, 1, 4, 5, 6, 7, 8]) (.leaf) (.leaf)))))))) (.leaf))
def btree_Tree_floor_K0  (K : Value → Hp → Prop) : Exit → Env → Hp → Prop := retK Tryz.prog Tryz.f38.results.toList K
def btree_Tree_floor_K1  (K : Value → Hp → Prop) : Exit → Env → Hp → Prop := thenE (fun env h => sx_2 Tryz.prog F 71 (cp [1, 1] (bodyOf Tryz.f38)) (ap [1, 1] btree_Tree_floor_an) (rs [4, 5, 6] env) h (btree_Tree_floor_K0  K)) (btree_Tree_floor_K0  K)
def btree_Tree_floor_K2  (K : Value → Hp → Prop) : Exit → Env → Hp → Prop := blockE 0 (btree_Tree_floor_K1  K)
def btree_Tree_floor_K3 (nx0 : Int × Int × Bool × Option Addr × Unit → Hp → Prop) (K : Value → Hp → Prop) : Exit → Env → Hp → Prop := thenE (fun env h => getV [(4, .int .i64), (5, .int .i64), (6, .bool), (7, .ptr)] env fun s => nx0 s h) (btree_Tree_floor_K2  K)
def btree_Tree_floor_K4 (nx0 : Int × Int × Bool × Option Addr × Unit → Hp → Prop) (K : Value → Hp → Prop) : Exit → Env → Hp → Prop := blockE 1 (btree_Tree_floor_K3 nx0 K)
def btree_Tree_floor_b0 (t : Option Addr) (key : Int) (h : Hp)  (K : Value → Hp → Prop) : Prop :=
  sx_3 Tryz.prog F 71 (cp [] (bodyOf Tryz.f38)) (ap [] btree_Tree_floor_an) [(0, .pointer t), (1, .int .i64 key)] h (btree_Tree_floor_K0  K)
def btree_Tree_floor_b1 (k : Int) (v : Int) (ok : Bool) (nv : Option Addr) (t : Option Addr) (key : Int) (h : Hp) (nx0 : Int × Int × Bool × Option Addr × Unit → Hp → Prop) (K : Value → Hp → Prop) : Prop :=
  sx_2 Tryz.prog F 71 (cp [1, 0, 1, 2, 2] (bodyOf Tryz.f38)) (ap [1, 0, 1, 2] btree_Tree_floor_an) [(4, .int .i64 k), (5, .int .i64 v), (6, .bool ok), (7, .pointer nv), (0, .pointer t), (1, .int .i64 key)] h (btree_Tree_floor_K3 nx0 K)
def btree_Tree_floor_b2 (t : Option Addr) (key : Int) (k : Int) (v : Int) (ok : Bool) (nv : Option Addr) (i : Int) (h : Hp) (nx0 : Int × Int × Bool × Option Addr × Unit → Hp → Prop) (K : Value → Hp → Prop) : Prop :=
  sx_1 Tryz.prog F 71 (cp [1, 0, 1, 2, 2, 1, 2, 1, 1, 1, 1] (bodyOf Tryz.f38)) (ap [1, 0, 1, 2, 1, 1, 1, 1, 1] btree_Tree_floor_an) [(0, .pointer t), (1, .int .i64 key), (4, .int .i64 k), (5, .int .i64 v), (6, .bool ok), (7, .pointer nv), (8, .int .i64 i)] h (btree_Tree_floor_K4 nx0 K)
def btree_Tree_floor_b3 (k : Int) (v : Int) (ok : Bool) (h : Hp)  (K : Value → Hp → Prop) : Prop :=
  sx_2 Tryz.prog F 71 (cp [1, 1] (bodyOf Tryz.f38)) (ap [1, 1] btree_Tree_floor_an) [(4, .int .i64 k), (5, .int .i64 v), (6, .bool ok)] h (btree_Tree_floor_K0  K)
theorem btree_Tree_floor_b0_eq (t : Option Addr) (key : Int) (h : Hp)  (K : Value → Hp → Prop) : btree_Tree_floor_b0 t key h  K = (
  NN t fun a1 =>
  ∃ p1 : Option Addr, cell h (a1.add 2) = some (.pointer p1) ∧
  LoopVC ((0, 0, false, p1, ()) : Int × Int × Bool × Option Addr × Unit) h (fun (nx0 : Int × Int × Bool × Option Addr × Unit → Hp → Prop) (s1 : Int × Int × Bool × Option Addr × Unit) h1 => btree_Tree_floor_b1 s1.1 s1.2.1 s1.2.2.1 s1.2.2.2.1 t key h1 nx0 K)) := by kernel_rfl
theorem btree_Tree_floor_b1_eq (k : Int) (v : Int) (ok : Bool) (nv : Option Addr) (t : Option Addr) (key : Int) (h : Hp) (nx0 : Int × Int × Bool × Option Addr × Unit → Hp → Prop) (K : Value → Hp → Prop) : btree_Tree_floor_b1 k v ok nv t key h nx0 K = (
  cond (!nv.isNone)
  (NN t fun a2 =>
  ∃ n1 : Int, cell h (a2.add 3) = some (.int .i64 n1) ∧
  InR (n1 + 1) ∧
  NN t fun a3 =>
  Wr h (a3.add 3) (.int .i64 (n1 + 1)) fun h2 =>
  NN nv fun a4 =>
  ∃ (a5 : Option Addr) (L1 C1 : Nat), cell h2 a4 = some (.slice a5 L1 C1) ∧
  HCalls Tryz.prog 68 #[.slice a5 L1 C1, .int .i64 key] h2 fun v1 h3 => ∃ r1 : Int, ∃ r2 : Bool, v1 = .tuple #[.int .i64 r1, .bool r2] ∧
  cond r2
  (NN nv fun a6 =>
  ∃ (a7 : Option Addr) (L2 C2 : Nat), cell h3 (a6.add 1) = some (.slice a7 L2 C2) ∧
  (0 ≤ r1 ∧ r1 < (L2 : Int)) ∧
  NN a7 fun a8 =>
  ∃ n2 : Int, cell h3 (a8.add (Int.toNat r1 * 1)) = some (.int .i64 n2) ∧
  K (.tuple #[.int .i64 key, .int .i64 n2, .bool true]) h3)
  (cond (decide ((0 : Int) < r1))
  (NN nv fun a9 =>
  ∃ (a10 : Option Addr) (L3 C3 : Nat), cell h3 a9 = some (.slice a10 L3 C3) ∧
  InR (r1 - 1) ∧
  (0 ≤ r1 - 1 ∧ r1 - 1 < (L3 : Int)) ∧
  NN a10 fun a11 =>
  ∃ n3 : Int, cell h3 (a11.add (Int.toNat (r1 - 1) * 1)) = some (.int .i64 n3) ∧
  NN nv fun a12 =>
  ∃ (a13 : Option Addr) (L4 C4 : Nat), cell h3 (a12.add 1) = some (.slice a13 L4 C4) ∧
  InR (r1 - 1) ∧
  (0 ≤ r1 - 1 ∧ r1 - 1 < (L4 : Int)) ∧
  NN a13 fun a14 =>
  ∃ n4 : Int, cell h3 (a14.add (Int.toNat (r1 - 1) * 1)) = some (.int .i64 n4) ∧
  btree_Tree_floor_b2 t key n3 n4 true nv r1 h3 nx0 K)
  (btree_Tree_floor_b2 t key k v ok nv r1 h3 nx0 K)))
  (btree_Tree_floor_b3 k v ok h  K)) := by kernel_rfl
theorem btree_Tree_floor_b2_eq (t : Option Addr) (key : Int) (k : Int) (v : Int) (ok : Bool) (nv : Option Addr) (i : Int) (h : Hp) (nx0 : Int × Int × Bool × Option Addr × Unit → Hp → Prop) (K : Value → Hp → Prop) : btree_Tree_floor_b2 t key k v ok nv i h nx0 K = (
  HCalls Tryz.prog 60 #[.pointer nv] h fun v2 h4 => ∃ r3 : Bool, v2 = .bool r3 ∧
  cond r3
  (btree_Tree_floor_b3 k v ok h4  K)
  (NN nv fun a15 =>
  ∃ (a16 : Option Addr) (L5 C5 : Nat), cell h4 (a15.add 2) = some (.slice a16 L5 C5) ∧
  (0 ≤ i ∧ i < (L5 : Int)) ∧
  NN a16 fun a17 =>
  ∃ p2 : Option Addr, cell h4 (a17.add (Int.toNat i * 1)) = some (.pointer p2) ∧
  nx0 (k, v, ok, p2, ()) h4)) := by kernel_rfl
theorem btree_Tree_floor_b3_eq (k : Int) (v : Int) (ok : Bool) (h : Hp)  (K : Value → Hp → Prop) : btree_Tree_floor_b3 k v ok h  K = (
  K (.tuple #[.int .i64 k, .int .i64 v, .bool ok]) h) := by kernel_rfl
theorem btree_Tree_floor_call {t : Option Addr} {key : Int} {h : Hp} {K : Value → Hp → Prop} (hk : btree_Tree_floor_b0 t key h K) : HCalls Tryz.prog 38 #[.pointer t, .int .i64 key] h K :=
  calls_of_snd btree_Tree_floor_an Tryz.func38 (c := bodyOf Tryz.f38) rfl Tryz.ntmps38 (Nat.le_of_ble_eq_true rfl) (snd_3 F_ok F_mixed) hk

/-! ### r43_Keys -/
def r43_Keys_an : Ann := .node none (.leaf) (.node none (.leaf) (.node none (.leaf) (.node none (.leaf) (.node none (.leaf) (.node none (.leaf) (.node none (.leaf) (.node (some [11]) (.node none (.leaf) (.loop [0, 1, 2, 3, 10] [(11, .slice), (12, .int .i64)] (.node none (.leaf) (.node (some [0, 1, 2, 3, 10, 11, 12]) (.leaf) (.leaf))))) (.leaf))))))))
def r43_Keys_K0  (K : Value → Hp → Prop) : Exit → Env → Hp → Prop := retK Tryz.prog Tryz.f39.results.toList K
def r43_Keys_K1  (K : Value → Hp → Prop) : Exit → Env → Hp → Prop := thenE (fun env h => sx_2 Tryz.prog F 87 (cp [1, 1, 1, 1, 1, 1, 1, 1] (bodyOf Tryz.f39)) (ap [1, 1, 1, 1, 1, 1, 1, 1] r43_Keys_an) (rs [11] env) h (r43_Keys_K0  K)) (r43_Keys_K0  K)
def r43_Keys_K2  (K : Value → Hp → Prop) : Exit → Env → Hp → Prop := blockE 0 (r43_Keys_K1  K)
def r43_Keys_K3 (nx0 : (Option Addr × Nat × Nat) × Int × Unit → Hp → Prop) (K : Value → Hp → Prop) : Exit → Env → Hp → Prop := thenE (fun env h => getV [(11, .slice), (12, .int .i64)] env fun s => nx0 s h) (r43_Keys_K2  K)
def r43_Keys_b0 (order : Int) (levels : Option Addr) (levelsL : Nat) (levelsC : Nat) (depth : Int) (next : Option Addr) (nextL : Nat) (nextC : Nat) (h : Hp)  (K : Value → Hp → Prop) : Prop :=
  sx_3 Tryz.prog F 87 (cp [] (bodyOf Tryz.f39)) (ap [] r43_Keys_an) [(0, .int .i64 order), (1, .slice levels levelsL levelsC), (2, .int .i64 depth), (3, .slice next nextL nextC)] h (r43_Keys_K0  K)
def r43_Keys_b1 (out : Option Addr) (outL : Nat) (outC : Nat) (i : Int) (order : Int) (levels : Option Addr) (levelsL : Nat) (levelsC : Nat) (depth : Int) (next : Option Addr) (nextL : Nat) (nextC : Nat) (l : Option Addr) (lL : Nat) (lC : Nat) (h : Hp) (nx0 : (Option Addr × Nat × Nat) × Int × Unit → Hp → Prop) (K : Value → Hp → Prop) : Prop :=
  sx_2 Tryz.prog F 87 (cp [1, 1, 1, 1, 1, 1, 1, 0, 1, 2, 2] (bodyOf Tryz.f39)) (ap [1, 1, 1, 1, 1, 1, 1, 0, 1, 2] r43_Keys_an) [(11, .slice out outL outC), (12, .int .i64 i), (0, .int .i64 order), (1, .slice levels levelsL levelsC), (2, .int .i64 depth), (3, .slice next nextL nextC), (10, .slice l lL lC)] h (r43_Keys_K3 nx0 K)
def r43_Keys_b2 (order : Int) (levels : Option Addr) (levelsL : Nat) (levelsC : Nat) (depth : Int) (next : Option Addr) (nextL : Nat) (nextC : Nat) (l : Option Addr) (lL : Nat) (lC : Nat) (out : Option Addr) (outL : Nat) (outC : Nat) (i : Int) (h : Hp) (nx0 : (Option Addr × Nat × Nat) × Int × Unit → Hp → Prop) (K : Value → Hp → Prop) : Prop :=
  sx_1 Tryz.prog F 87 (cp [1, 1, 1, 1, 1, 1, 1, 0, 1, 2, 2, 1, 1] (bodyOf Tryz.f39)) (ap [1, 1, 1, 1, 1, 1, 1, 0, 1, 2, 1, 1] r43_Keys_an) [(0, .int .i64 order), (1, .slice levels levelsL levelsC), (2, .int .i64 depth), (3, .slice next nextL nextC), (10, .slice l lL lC), (11, .slice out outL outC), (12, .int .i64 i)] h (r43_Keys_K3 nx0 K)
def r43_Keys_b3 (out : Option Addr) (outL : Nat) (outC : Nat) (h : Hp)  (K : Value → Hp → Prop) : Prop :=
  sx_2 Tryz.prog F 87 (cp [1, 1, 1, 1, 1, 1, 1, 1] (bodyOf Tryz.f39)) (ap [1, 1, 1, 1, 1, 1, 1, 1] r43_Keys_an) [(11, .slice out outL outC)] h (r43_Keys_K0  K)
theorem r43_Keys_b0_eq (order : Int) (levels : Option Addr) (levelsL : Nat) (levelsC : Nat) (depth : Int) (next : Option Addr) (nextL : Nat) (nextC : Nat) (h : Hp)  (K : Value → Hp → Prop) : r43_Keys_b0 order levels levelsL levelsC depth next nextL nextC h  K = (
  (0 ≤ depth ∧ depth < (nextL : Int)) ∧
  NN next fun a1 =>
  ∃ n1 : Int, cell h (a1.add (Int.toNat depth * 1)) = some (.int .i64 n1) ∧
  (0 ≤ depth ∧ depth < (levelsL : Int)) ∧
  NN levels fun a2 =>
  ∃ (a3 : Option Addr) (L1 C1 : Nat), cell h (a2.add (Int.toNat depth * 1)) = some (.slice a3 L1 C1) ∧
  cond (decide ((L1 : Int) ≤ n1))
  (K (.tuple #[.slice none 0 0, .bool false]) h)
  ((0 ≤ depth ∧ depth < (levelsL : Int)) ∧
  NN levels fun a4 =>
  ∃ (a5 : Option Addr) (L2 C2 : Nat), cell h (a4.add (Int.toNat depth * 1)) = some (.slice a5 L2 C2) ∧
  (0 ≤ depth ∧ depth < (nextL : Int)) ∧
  NN next fun a6 =>
  ∃ n2 : Int, cell h (a6.add (Int.toNat depth * 1)) = some (.int .i64 n2) ∧
  (0 ≤ n2 ∧ n2 < (L2 : Int)) ∧
  NN a5 fun a7 =>
  ∃ (a8 : Option Addr) (L3 C3 : Nat), cell h (a7.add (Int.toNat n2 * 1)) = some (.slice a8 L3 C3) ∧
  (0 ≤ depth ∧ depth < (nextL : Int)) ∧
  NN next fun a9 =>
  ∃ n3 : Int, cell h (a9.add (Int.toNat depth * 1)) = some (.int .i64 n3) ∧
  InR (n3 + 1) ∧
  (0 ≤ depth ∧ depth < (nextL : Int)) ∧
  NN next fun a10 =>
  Wr h (a10.add (Int.toNat depth * 1)) (.int .i64 (n3 + 1)) fun h1 =>
  HCalls Tryz.prog 69 #[.int .i64 order, .slice a8 L3 C3, .bool (decide (depth = 0))] h1 fun v1 h2 => ∃ r1 : Bool, v1 = .bool r1 ∧
  cond (!r1)
  (K (.tuple #[.slice none 0 0, .bool false]) h2)
  (InR ((levelsL : Int) - 1) ∧
  cond (decide (depth = ((levelsL : Int) - 1)))
  (New h2 (.cells #[] 3) fun b1 h3 =>
  appendV Tryz.prog 37 37 (.slice (some ⟨b1, 0, none⟩) 0 0) (.slice a8 L3 C3) h3 (slK fun a11 l1 c1 h4 =>
  K (.tuple #[.slice a11 l1 c1, .bool true]) h4))
  (LoopVC (((none, 0, 0), 0, ()) : (Option Addr × Nat × Nat) × Int × Unit) h2 (fun (nx0 : (Option Addr × Nat × Nat) × Int × Unit → Hp → Prop) (s1 : (Option Addr × Nat × Nat) × Int × Unit) h5 => r43_Keys_b1 s1.1.1 s1.1.2.1 s1.1.2.2 s1.2.1 order levels levelsL levelsC depth next nextL nextC a8 L3 C3 h5 nx0 K))))) := by kernel_rfl
theorem r43_Keys_b1_eq (out : Option Addr) (outL : Nat) (outC : Nat) (i : Int) (order : Int) (levels : Option Addr) (levelsL : Nat) (levelsC : Nat) (depth : Int) (next : Option Addr) (nextL : Nat) (nextC : Nat) (l : Option Addr) (lL : Nat) (lC : Nat) (h : Hp) (nx0 : (Option Addr × Nat × Nat) × Int × Unit → Hp → Prop) (K : Value → Hp → Prop) : r43_Keys_b1 out outL outC i order levels levelsL levelsC depth next nextL nextC l lL lC h nx0 K = (
  cond (decide (i ≤ (lL : Int)))
  (InR (depth + 1) ∧
  HCalls Tryz.prog 39 #[.int .i64 order, .slice levels levelsL levelsC, .int .i64 (depth + 1), .slice next nextL nextC] h fun v2 h6 => ∃ (r2 : Option Addr) (rL1 rC1 : Nat), ∃ r3 : Bool, v2 = .tuple #[.slice r2 rL1 rC1, .bool r3] ∧
  cond (!r3)
  (K (.tuple #[.slice none 0 0, .bool false]) h6)
  (appendV Tryz.prog 37 37 (.slice out outL outC) (.slice r2 rL1 rC1) h6 (slK fun a12 l2 c2 h7 =>
  cond (decide (i < (lL : Int)))
  ((0 ≤ i ∧ i < (lL : Int)) ∧
  NN l fun a13 =>
  ∃ n4 : Int, cell h7 (a13.add (Int.toNat i * 1)) = some (.int .i64 n4) ∧
  New h7 (.cells #[.int .i64 n4] 3) fun b2 h8 =>
  appendV Tryz.prog 37 37 (.slice a12 l2 c2) (.slice (some ⟨b2, 0, none⟩) 1 1) h8 (slK fun a14 l3 c3 h9 =>
  r43_Keys_b2 order levels levelsL levelsC depth next nextL nextC l lL lC a14 l3 c3 i h9 nx0 K))
  (r43_Keys_b2 order levels levelsL levelsC depth next nextL nextC l lL lC a12 l2 c2 i h7 nx0 K))))
  (r43_Keys_b3 out outL outC h  K)) := by kernel_rfl
theorem r43_Keys_b2_eq (order : Int) (levels : Option Addr) (levelsL : Nat) (levelsC : Nat) (depth : Int) (next : Option Addr) (nextL : Nat) (nextC : Nat) (l : Option Addr) (lL : Nat) (lC : Nat) (out : Option Addr) (outL : Nat) (outC : Nat) (i : Int) (h : Hp) (nx0 : (Option Addr × Nat × Nat) × Int × Unit → Hp → Prop) (K : Value → Hp → Prop) : r43_Keys_b2 order levels levelsL levelsC depth next nextL nextC l lL lC out outL outC i h nx0 K = (
  InR (i + 1) ∧
  nx0 ((out, outL, outC), i + 1, ()) h) := by kernel_rfl
theorem r43_Keys_b3_eq (out : Option Addr) (outL : Nat) (outC : Nat) (h : Hp)  (K : Value → Hp → Prop) : r43_Keys_b3 out outL outC h  K = (
  K (.tuple #[.slice out outL outC, .bool true]) h) := by kernel_rfl
theorem r43_Keys_call {order : Int} {levels : Option Addr} {levelsL : Nat} {levelsC : Nat} {depth : Int} {next : Option Addr} {nextL : Nat} {nextC : Nat} {h : Hp} {K : Value → Hp → Prop} (hk : r43_Keys_b0 order levels levelsL levelsC depth next nextL nextC h K) : HCalls Tryz.prog 39 #[.int .i64 order, .slice levels levelsL levelsC, .int .i64 depth, .slice next nextL nextC] h K :=
  calls_of_snd r43_Keys_an Tryz.func39 (c := bodyOf Tryz.f39) rfl Tryz.ntmps39 (Nat.le_of_ble_eq_true rfl) (snd_3 F_ok F_mixed) hk

/-! ### slices_Clone_Sint_int -/
def slices_Clone_Sint_int_an : Ann := .leaf
def slices_Clone_Sint_int_K0  (K : Value → Hp → Prop) : Exit → Env → Hp → Prop := retK Tryz.prog Tryz.f40.results.toList K
def slices_Clone_Sint_int_b0 (s : Option Addr) (sL : Nat) (sC : Nat) (h : Hp)  (K : Value → Hp → Prop) : Prop :=
  sx_1 Tryz.prog F 8 (cp [] (bodyOf Tryz.f40)) (ap [] slices_Clone_Sint_int_an) [(0, .slice s sL sC)] h (slices_Clone_Sint_int_K0  K)
theorem slices_Clone_Sint_int_b0_eq (s : Option Addr) (sL : Nat) (sC : Nat) (h : Hp)  (K : Value → Hp → Prop) : slices_Clone_Sint_int_b0 s sL sC h  K = (
  cond (Option.isNone s)
  (K (.slice none 0 0) h)
  (New h (.cells #[] 3) fun b1 h1 =>
  appendV Tryz.prog 37 37 (.slice (some ⟨b1, 0, none⟩) 0 0) (.slice s sL sC) h1 (slK fun a1 l1 c1 h2 =>
  K (.slice a1 l1 c1) h2))) := by kernel_rfl
theorem slices_Clone_Sint_int_call {s : Option Addr} {sL : Nat} {sC : Nat} {h : Hp} {K : Value → Hp → Prop} (hk : slices_Clone_Sint_int_b0 s sL sC h K) : HCalls Tryz.prog 40 #[.slice s sL sC] h K :=
  calls_of_snd slices_Clone_Sint_int_an Tryz.func40 (c := bodyOf Tryz.f40) rfl Tryz.ntmps40 (Nat.le_of_ble_eq_true rfl) (snd_1 F_ok F_mixed) hk

/-! ### r03_Words -/
def r03_Words_an : Ann := .node none (.leaf) (.node (some []) (.leaf) (.leaf))
def r03_Words_K0  (K : Value → Hp → Prop) : Exit → Env → Hp → Prop := retK Tryz.prog Tryz.f41.results.toList K
def r03_Words_b0 (kind : Int) (h : Hp)  (K : Value → Hp → Prop) : Prop :=
  sx_2 Tryz.prog F 22 (cp [] (bodyOf Tryz.f41)) (ap [] r03_Words_an) [(0, .int .i64 kind)] h (r03_Words_K0  K)
def r03_Words_b1  (h : Hp)  (K : Value → Hp → Prop) : Prop :=
  sx_1 Tryz.prog F 22 (cp [1, 1] (bodyOf Tryz.f41)) (ap [1, 1] r03_Words_an) [] h (r03_Words_K0  K)
theorem r03_Words_b0_eq (kind : Int) (h : Hp)  (K : Value → Hp → Prop) : r03_Words_b0 kind h  K = (
  cond (decide (kind = 1))
  (New h (.cells #[.string (⟨#[112, 117, 116]⟩ : ByteArray), .string (⟨#[103, 101, 116]⟩ : ByteArray), .string (⟨#[114, 101, 109, 111, 118, 101]⟩ : ByteArray), .string (⟨#[102, 108, 111, 111, 114]⟩ : ByteArray), .string (⟨#[99, 101, 105, 108, 105, 110, 103]⟩ : ByteArray), .string (⟨#[114, 97, 110, 107]⟩ : ByteArray), .string (⟨#[115, 101, 108, 101, 99, 116]⟩ : ByteArray), .string (⟨#[115, 105, 122, 101]⟩ : ByteArray)] 9) fun b1 h1 =>
  K (.slice (some ⟨b1, 0, none⟩) 8 8) h1)
  (cond (decide (kind = 2))
  (New h (.cells #[.string (⟨#[105, 110, 115, 101, 114, 116]⟩ : ByteArray), .string (⟨#[109, 105, 110]⟩ : ByteArray), .string (⟨#[100, 101, 108, 101, 116, 101, 109, 105, 110]⟩ : ByteArray), .string (⟨#[115, 105, 122, 101]⟩ : ByteArray)] 9) fun b2 h2 =>
  K (.slice (some ⟨b2, 0, none⟩) 4 4) h2)
  (cond (decide (kind = 3))
  (New h (.cells #[.string (⟨#[105, 110, 115, 101, 114, 116]⟩ : ByteArray), .string (⟨#[114, 101, 109, 111, 118, 101]⟩ : ByteArray), .string (⟨#[103, 101, 116]⟩ : ByteArray), .string (⟨#[115, 101, 116]⟩ : ByteArray), .string (⟨#[115, 117, 109]⟩ : ByteArray), .string (⟨#[114, 101, 118, 101, 114, 115, 101]⟩ : ByteArray), .string (⟨#[115, 105, 122, 101]⟩ : ByteArray)] 9) fun b3 h3 =>
  K (.slice (some ⟨b3, 0, none⟩) 7 7) h3)
  (cond (decide (kind = 4))
  (New h (.cells #[.string (⟨#[109, 97, 107, 101]⟩ : ByteArray), .string (⟨#[117, 110, 105, 111, 110]⟩ : ByteArray), .string (⟨#[115, 97, 109, 101]⟩ : ByteArray), .string (⟨#[115, 105, 122, 101]⟩ : ByteArray), .string (⟨#[99, 111, 117, 110, 116]⟩ : ByteArray)] 9) fun b4 h4 =>
  K (.slice (some ⟨b4, 0, none⟩) 5 5) h4)
  (cond (decide (kind = 5))
  (New h (.cells #[.string (⟨#[97, 100, 100]⟩ : ByteArray), .string (⟨#[114, 101, 109, 111, 118, 101]⟩ : ByteArray), .string (⟨#[99, 111, 117, 110, 116]⟩ : ByteArray), .string (⟨#[115, 117, 109]⟩ : ByteArray), .string (⟨#[115, 105, 122, 101]⟩ : ByteArray)] 9) fun b5 h5 =>
  K (.slice (some ⟨b5, 0, none⟩) 5 5) h5)
  (cond (decide (kind = 6))
  (New h (.cells #[.string (⟨#[97, 112, 112, 101, 110, 100]⟩ : ByteArray), .string (⟨#[99, 111, 117, 110, 116]⟩ : ByteArray), .string (⟨#[102, 105, 110, 100]⟩ : ByteArray), .string (⟨#[115, 105, 122, 101]⟩ : ByteArray)] 9) fun b6 h6 =>
  K (.slice (some ⟨b6, 0, none⟩) 4 4) h6)
  (r03_Words_b1  h  K))))))) := by kernel_rfl
theorem r03_Words_b1_eq  (h : Hp)  (K : Value → Hp → Prop) : r03_Words_b1  h  K = (
  K (.slice none 0 0) h) := by kernel_rfl
theorem r03_Words_call {kind : Int} {h : Hp} {K : Value → Hp → Prop} (hk : r03_Words_b0 kind h K) : HCalls Tryz.prog 41 #[.int .i64 kind] h K :=
  calls_of_snd r03_Words_an Tryz.func41 (c := bodyOf Tryz.f41) rfl Tryz.ntmps41 (Nat.le_of_ble_eq_true rfl) (snd_2 F_ok F_mixed) hk

/-! ### r03_Arity -/
def r03_Arity_an : Ann := .node none (.leaf) (.node (some [1]) (.leaf) (.leaf))
def r03_Arity_K0  (K : Value → Hp → Prop) : Exit → Env → Hp → Prop := retK Tryz.prog Tryz.f42.results.toList K
def r03_Arity_b0 (kind : Int) (code : Int) (h : Hp)  (K : Value → Hp → Prop) : Prop :=
  sx_2 Tryz.prog F 46 (cp [] (bodyOf Tryz.f42)) (ap [] r03_Arity_an) [(0, .int .i64 kind), (1, .int .i64 code)] h (r03_Arity_K0  K)
def r03_Arity_b1 (code : Int) (h : Hp)  (K : Value → Hp → Prop) : Prop :=
  sx_1 Tryz.prog F 46 (cp [1, 1] (bodyOf Tryz.f42)) (ap [1, 1] r03_Arity_an) [(1, .int .i64 code)] h (r03_Arity_K0  K)
theorem r03_Arity_b0_eq (kind : Int) (code : Int) (h : Hp)  (K : Value → Hp → Prop) : r03_Arity_b0 kind code h  K = (
  cond (decide (kind = 1))
  (New h (.cells #[.int .i64 2, .int .i64 1, .int .i64 1, .int .i64 1, .int .i64 1, .int .i64 1, .int .i64 1, .int .i64 0] 3) fun b1 h1 =>
  InR (code - 1) ∧
  (0 ≤ code - 1 ∧ code - 1 < ((8 : Nat) : Int)) ∧
  ∃ n1 : Int, cell h1 ((⟨b1, 0, none⟩ : Addr).add (Int.toNat (code - 1) * 1)) = some (.int .i64 n1) ∧
  K (.int .i64 n1) h1)
  (cond (decide (kind = 2))
  (New h (.cells #[.int .i64 1, .int .i64 0, .int .i64 0, .int .i64 0] 3) fun b2 h2 =>
  InR (code - 1) ∧
  (0 ≤ code - 1 ∧ code - 1 < ((4 : Nat) : Int)) ∧
  ∃ n2 : Int, cell h2 ((⟨b2, 0, none⟩ : Addr).add (Int.toNat (code - 1) * 1)) = some (.int .i64 n2) ∧
  K (.int .i64 n2) h2)
  (cond (decide (kind = 3))
  (New h (.cells #[.int .i64 2, .int .i64 1, .int .i64 1, .int .i64 2, .int .i64 2, .int .i64 2, .int .i64 0] 3) fun b3 h3 =>
  InR (code - 1) ∧
  (0 ≤ code - 1 ∧ code - 1 < ((7 : Nat) : Int)) ∧
  ∃ n3 : Int, cell h3 ((⟨b3, 0, none⟩ : Addr).add (Int.toNat (code - 1) * 1)) = some (.int .i64 n3) ∧
  K (.int .i64 n3) h3)
  (cond (decide (kind = 4))
  (New h (.cells #[.int .i64 0, .int .i64 2, .int .i64 2, .int .i64 1, .int .i64 0] 3) fun b4 h4 =>
  InR (code - 1) ∧
  (0 ≤ code - 1 ∧ code - 1 < ((5 : Nat) : Int)) ∧
  ∃ n4 : Int, cell h4 ((⟨b4, 0, none⟩ : Addr).add (Int.toNat (code - 1) * 1)) = some (.int .i64 n4) ∧
  K (.int .i64 n4) h4)
  (cond (decide (kind = 5))
  (New h (.cells #[.int .i64 3, .int .i64 2, .int .i64 4, .int .i64 4, .int .i64 0] 3) fun b5 h5 =>
  InR (code - 1) ∧
  (0 ≤ code - 1 ∧ code - 1 < ((5 : Nat) : Int)) ∧
  ∃ n5 : Int, cell h5 ((⟨b5, 0, none⟩ : Addr).add (Int.toNat (code - 1) * 1)) = some (.int .i64 n5) ∧
  K (.int .i64 n5) h5)
  (r03_Arity_b1 code h  K)))))) := by kernel_rfl
theorem r03_Arity_b1_eq (code : Int) (h : Hp)  (K : Value → Hp → Prop) : r03_Arity_b1 code h  K = (
  New h (.cells #[.int .i64 (-1), .int .i64 (-1), .int .i64 (-1), .int .i64 0] 3) fun b6 h6 =>
  InR (code - 1) ∧
  (0 ≤ code - 1 ∧ code - 1 < ((4 : Nat) : Int)) ∧
  ∃ n6 : Int, cell h6 ((⟨b6, 0, none⟩ : Addr).add (Int.toNat (code - 1) * 1)) = some (.int .i64 n6) ∧
  K (.int .i64 n6) h6) := by kernel_rfl
theorem r03_Arity_call {kind : Int} {code : Int} {h : Hp} {K : Value → Hp → Prop} (hk : r03_Arity_b0 kind code h K) : HCalls Tryz.prog 42 #[.int .i64 kind, .int .i64 code] h K :=
  calls_of_snd r03_Arity_an Tryz.func42 (c := bodyOf Tryz.f42) rfl Tryz.ntmps42 (Nat.le_of_ble_eq_true rfl) (snd_2 F_ok F_mixed) hk

/-! ### r03_key -/
def r03_key_an : Ann := .leaf
def r03_key_K0  (K : Value → Hp → Prop) : Exit → Env → Hp → Prop := retK Tryz.prog Tryz.f43.results.toList K
def r03_key_b0 (nv : Int) (h : Hp)  (K : Value → Hp → Prop) : Prop :=
  sx_1 Tryz.prog F 9 (cp [] (bodyOf Tryz.f43)) (ap [] r03_key_an) [(0, .int .i64 nv)] h (r03_key_K0  K)
theorem r03_key_b0_eq (nv : Int) (h : Hp)  (K : Value → Hp → Prop) : r03_key_b0 nv h  K = (
  cond (decide (((-1048576) : Int) ≤ nv))
  (K (.bool (decide (nv ≤ 1048576))) h)
  (K (.bool false) h)) := by kernel_rfl
theorem r03_key_call {nv : Int} {h : Hp} {K : Value → Hp → Prop} (hk : r03_key_b0 nv h K) : HCalls Tryz.prog 43 #[.int .i64 nv] h K :=
  calls_of_snd r03_key_an Tryz.func43 (c := bodyOf Tryz.f43) rfl Tryz.ntmps43 (Nat.le_of_ble_eq_true rfl) (snd_1 F_ok F_mixed) hk

/-! ### model_validRows -/
def model_validRows_an : Ann := .node none (.leaf) (.node none (.leaf) (.node none (.leaf) (.node (some []) (.node none (.leaf) (.loop [1, 3, 4, 19, 20] [(21, .int .i64)] (.node none (.leaf) (.node none (.leaf) (.node (some [1, 3, 4, 19, 20, 21]) (.node none (.leaf) (.node (some [1, 3, 4, 5, 6, 19, 20, 21]) (.leaf) (.node (some [1, 3, 4, 5, 6, 19, 20, 21]) (.leaf) (.leaf)))) (.leaf)))))) (.leaf))))
def model_validRows_K0  (K : Value → Hp → Prop) : Exit → Env → Hp → Prop := retK Tryz.prog Tryz.f44.results.toList K
def model_validRows_K1  (K : Value → Hp → Prop) : Exit → Env → Hp → Prop := thenE (fun env h => sx_3 Tryz.prog F 64 (cp [1, 1, 1, 1] (bodyOf Tryz.f44)) (ap [1, 1, 1, 1] model_validRows_an) (rs [] env) h (model_validRows_K0  K)) (model_validRows_K0  K)
def model_validRows_K2  (K : Value → Hp → Prop) : Exit → Env → Hp → Prop := blockE 0 (model_validRows_K1  K)
def model_validRows_K3 (nx0 : Int × Unit → Hp → Prop) (K : Value → Hp → Prop) : Exit → Env → Hp → Prop := thenE (fun env h => getV [(21, .int .i64)] env fun s => nx0 s h) (model_validRows_K2  K)
def model_validRows_K4 (nx0 : Int × Unit → Hp → Prop) (K : Value → Hp → Prop) : Exit → Env → Hp → Prop := thenE (fun env h => sx_2 Tryz.prog F 64 (cp [1, 1, 1, 0, 1, 2, 2, 1, 1, 1] (bodyOf Tryz.f44)) (ap [1, 1, 1, 0, 1, 2, 1, 1, 1] model_validRows_an) (rs [1, 3, 4, 19, 20, 21] env) h (model_validRows_K3 nx0 K)) (model_validRows_K3 nx0 K)
def model_validRows_K5 (nx0 : Int × Unit → Hp → Prop) (K : Value → Hp → Prop) : Exit → Env → Hp → Prop := blockE 1 (model_validRows_K4 nx0 K)
def model_validRows_b0 (s_0 : Int) (s_1 : Option Addr) (s_1L : Nat) (s_1C : Nat) (h : Hp)  (K : Value → Hp → Prop) : Prop :=
  sx_4 Tryz.prog F 64 (cp [] (bodyOf Tryz.f44)) (ap [] model_validRows_an) [(0, .agg #[.int .i64 s_0, .slice s_1 s_1L s_1C])] h (model_validRows_K0  K)
def model_validRows_b1 (t21 : Int) (s : Option Addr) (w : Int) (keys : Int) (t19 : Option Addr) (t19L : Nat) (t19C : Nat) (t20 : Int) (h : Hp) (nx0 : Int × Unit → Hp → Prop) (K : Value → Hp → Prop) : Prop :=
  sx_3 Tryz.prog F 64 (cp [1, 1, 1, 0, 1, 2, 2] (bodyOf Tryz.f44)) (ap [1, 1, 1, 0, 1, 2] model_validRows_an) [(21, .int .i64 t21), (1, .pointer s), (3, .int .i64 w), (4, .int .i64 keys), (19, .slice t19 t19L t19C), (20, .int .i64 t20)] h (model_validRows_K3 nx0 K)
def model_validRows_b2 (s : Option Addr) (w : Int) (keys : Int) (i : Int) (row : Option Addr) (rowL : Nat) (rowC : Nat) (t19 : Option Addr) (t19L : Nat) (t19C : Nat) (t20 : Int) (t21 : Int) (h : Hp) (nx0 : Int × Unit → Hp → Prop) (K : Value → Hp → Prop) : Prop :=
  sx_2 Tryz.prog F 64 (cp [1, 1, 1, 0, 1, 2, 2, 1, 1, 0, 2, 1, 1] (bodyOf Tryz.f44)) (ap [1, 1, 1, 0, 1, 2, 1, 1, 0, 1, 1] model_validRows_an) [(1, .pointer s), (3, .int .i64 w), (4, .int .i64 keys), (5, .int .i64 i), (6, .slice row rowL rowC), (19, .slice t19 t19L t19C), (20, .int .i64 t20), (21, .int .i64 t21)] h (model_validRows_K5 nx0 K)
def model_validRows_b3  (h : Hp)  (K : Value → Hp → Prop) : Prop :=
  sx_3 Tryz.prog F 64 (cp [1, 1, 1, 1] (bodyOf Tryz.f44)) (ap [1, 1, 1, 1] model_validRows_an) [] h (model_validRows_K0  K)
def model_validRows_b4 (s : Option Addr) (w : Int) (keys : Int) (t19 : Option Addr) (t19L : Nat) (t19C : Nat) (t20 : Int) (t21 : Int) (h : Hp) (nx0 : Int × Unit → Hp → Prop) (K : Value → Hp → Prop) : Prop :=
  sx_2 Tryz.prog F 64 (cp [1, 1, 1, 0, 1, 2, 2, 1, 1, 1] (bodyOf Tryz.f44)) (ap [1, 1, 1, 0, 1, 2, 1, 1, 1] model_validRows_an) [(1, .pointer s), (3, .int .i64 w), (4, .int .i64 keys), (19, .slice t19 t19L t19C), (20, .int .i64 t20), (21, .int .i64 t21)] h (model_validRows_K3 nx0 K)
def model_validRows_b5 (s : Option Addr) (w : Int) (keys : Int) (i : Int) (row : Option Addr) (rowL : Nat) (rowC : Nat) (t19 : Option Addr) (t19L : Nat) (t19C : Nat) (t20 : Int) (t21 : Int) (h : Hp) (nx0 : Int × Unit → Hp → Prop) (K : Value → Hp → Prop) : Prop :=
  sx_1 Tryz.prog F 64 (cp [1, 1, 1, 0, 1, 2, 2, 1, 1, 0, 2, 1, 1, 1] (bodyOf Tryz.f44)) (ap [1, 1, 1, 0, 1, 2, 1, 1, 0, 1, 1, 1] model_validRows_an) [(1, .pointer s), (3, .int .i64 w), (4, .int .i64 keys), (5, .int .i64 i), (6, .slice row rowL rowC), (19, .slice t19 t19L t19C), (20, .int .i64 t20), (21, .int .i64 t21)] h (model_validRows_K5 nx0 K)
theorem model_validRows_b0_eq (s_0 : Int) (s_1 : Option Addr) (s_1L : Nat) (s_1C : Nat) (h : Hp)  (K : Value → Hp → Prop) : model_validRows_b0 s_0 s_1 s_1L s_1C h  K = (
  New h (.cells #[.int .i64 s_0, .slice s_1 s_1L s_1C] 31) fun b1 h1 =>
  ∃ (a1 : Option Addr) (L1 C1 : Nat), cell h1 ((⟨b1, 0, none⟩ : Addr).add 1) = some (.slice a1 L1 C1) ∧
  cond (decide ((500 : Int) < (L1 : Int)))
  (K (.bool false) h1)
  (∃ n1 : Int, cell h1 ⟨b1, 0, none⟩ = some (.int .i64 n1) ∧
  HCalls Tryz.prog 70 #[.int .i64 n1] h1 fun v1 h2 => ∃ r1 : Int, ∃ r2 : Int, v1 = .tuple #[.int .i64 r1, .int .i64 r2] ∧
  ∃ (a2 : Option Addr) (L2 C2 : Nat), cell h2 ((⟨b1, 0, none⟩ : Addr).add 1) = some (.slice a2 L2 C2) ∧
  LoopVC ((0, ()) : Int × Unit) h2 (fun (nx0 : Int × Unit → Hp → Prop) (s1 : Int × Unit) h3 => model_validRows_b1 s1.1 (some ⟨b1, 0, none⟩) r1 r2 a2 L2 C2 (L2 : Int) h3 nx0 K))) := by kernel_rfl
theorem model_validRows_b1_eq (t21 : Int) (s : Option Addr) (w : Int) (keys : Int) (t19 : Option Addr) (t19L : Nat) (t19C : Nat) (t20 : Int) (h : Hp) (nx0 : Int × Unit → Hp → Prop) (K : Value → Hp → Prop) : model_validRows_b1 t21 s w keys t19 t19L t19C t20 h nx0 K = (
  cond (decide (t21 < t20))
  ((0 ≤ t21 ∧ t21 < (t19L : Int)) ∧
  NN t19 fun a3 =>
  ∃ (a4 : Option Addr) (L3 C3 : Nat), cell h (a3.add (Int.toNat t21 * 1)) = some (.slice a4 L3 C3) ∧
  cond (!decide ((L3 : Int) = w))
  (K (.bool false) h)
  (HCalls Tryz.prog 46 #[.slice a4 L3 C3, .func (.func 71) #[] #[]] h fun v2 h4 => ∃ r3 : Bool, v2 = .bool r3 ∧
  cond r3
  (K (.bool false) h4)
  (model_validRows_b2 s w keys t21 a4 L3 C3 t19 t19L t19C t20 t21 h4 nx0 K)))
  (model_validRows_b3  h  K)) := by kernel_rfl
theorem model_validRows_b2_eq (s : Option Addr) (w : Int) (keys : Int) (i : Int) (row : Option Addr) (rowL : Nat) (rowC : Nat) (t19 : Option Addr) (t19L : Nat) (t19C : Nat) (t20 : Int) (t21 : Int) (h : Hp) (nx0 : Int × Unit → Hp → Prop) (K : Value → Hp → Prop) : model_validRows_b2 s w keys i row rowL rowC t19 t19L t19C t20 t21 h nx0 K = (
  cond (decide (i = 0))
  (model_validRows_b4 s w keys t19 t19L t19C t20 t21 h nx0 K)
  (cond (decide (keys = 0))
  (model_validRows_b4 s w keys t19 t19L t19C t20 t21 h nx0 K)
  (model_validRows_b5 s w keys i row rowL rowC t19 t19L t19C t20 t21 h nx0 K))) := by kernel_rfl
theorem model_validRows_b3_eq  (h : Hp)  (K : Value → Hp → Prop) : model_validRows_b3  h  K = (
  K (.bool true) h) := by kernel_rfl
theorem model_validRows_b4_eq (s : Option Addr) (w : Int) (keys : Int) (t19 : Option Addr) (t19L : Nat) (t19C : Nat) (t20 : Int) (t21 : Int) (h : Hp) (nx0 : Int × Unit → Hp → Prop) (K : Value → Hp → Prop) : model_validRows_b4 s w keys t19 t19L t19C t20 t21 h nx0 K = (
  InR (t21 + 1) ∧
  nx0 (t21 + 1, ()) h) := by kernel_rfl
theorem model_validRows_b5_eq (s : Option Addr) (w : Int) (keys : Int) (i : Int) (row : Option Addr) (rowL : Nat) (rowC : Nat) (t19 : Option Addr) (t19L : Nat) (t19C : Nat) (t20 : Int) (t21 : Int) (h : Hp) (nx0 : Int × Unit → Hp → Prop) (K : Value → Hp → Prop) : model_validRows_b5 s w keys i row rowL rowC t19 t19L t19C t20 t21 h nx0 K = (
  NN s fun a5 =>
  ∃ (a6 : Option Addr) (L4 C4 : Nat), cell h (a5.add 1) = some (.slice a6 L4 C4) ∧
  InR (i - 1) ∧
  (0 ≤ i - 1 ∧ i - 1 < (L4 : Int)) ∧
  NN a6 fun a7 =>
  ∃ (a8 : Option Addr) (L5 C5 : Nat), cell h (a7.add (Int.toNat (i - 1) * 1)) = some (.slice a8 L5 C5) ∧
  (0 ≤ (0 : Int) ∧ (0 : Int) ≤ keys ∧ keys ≤ (C5 : Int)) ∧
  (0 ≤ (0 : Int) ∧ (0 : Int) ≤ keys ∧ keys ≤ (rowC : Int)) ∧
  ∃ r4 : Int, HCalls Tryz.prog 72 #[.slice (subAddr a8 C5 (Int.toNat (0 : Int)) 1) (Int.toNat keys - Int.toNat (0 : Int)) (C5 - Int.toNat (0 : Int)), .slice (subAddr row rowC (Int.toNat (0 : Int)) 1) (Int.toNat keys - Int.toNat (0 : Int)) (rowC - Int.toNat (0 : Int))] h (fun v3 h5 => v3 = .int .i64 r4 ∧ h5 = h) ∧
  cond (decide ((0 : Int) < r4))
  (K (.bool false) h)
  (cond (decide (r4 = 0))
  (NN s fun a9 =>
  ∃ n2 : Int, cell h a9 = some (.int .i64 n2) ∧
  cond (!decide (n2 = 2))
  (K (.bool false) h)
  (model_validRows_b4 s w keys t19 t19L t19C t20 t21 h nx0 K))
  (model_validRows_b4 s w keys t19 t19L t19C t20 t21 h nx0 K))) := by kernel_rfl
theorem model_validRows_call {s_0 : Int} {s_1 : Option Addr} {s_1L : Nat} {s_1C : Nat} {h : Hp} {K : Value → Hp → Prop} (hk : model_validRows_b0 s_0 s_1 s_1L s_1C h K) : HCalls Tryz.prog 44 #[.agg #[.int .i64 s_0, .slice s_1 s_1L s_1C]] h K :=
  calls_of_snd model_validRows_an Tryz.func44 (c := bodyOf Tryz.f44) rfl Tryz.ntmps44 (Nat.le_of_ble_eq_true rfl) (snd_4 F_ok F_mixed) hk

/-! ### slices_ContainsFunc_Sint_int -/
def slices_ContainsFunc_Sint_int_an : Ann := .leaf
def slices_ContainsFunc_Sint_int_K0  (K : Value → Hp → Prop) : Exit → Env → Hp → Prop := retK Tryz.prog Tryz.f46.results.toList K
def slices_ContainsFunc_Sint_int_b0 (s : Option Addr) (sL : Nat) (sC : Nat) (f : Value) (h : Hp)  (K : Value → Hp → Prop) : Prop :=
  sx_1 Tryz.prog F 9 (cp [] (bodyOf Tryz.f46)) (ap [] slices_ContainsFunc_Sint_int_an) [(0, .slice s sL sC), (1, f)] h (slices_ContainsFunc_Sint_int_K0  K)
theorem slices_ContainsFunc_Sint_int_b0_eq (s : Option Addr) (sL : Nat) (sC : Nat) (f : Value) (h : Hp)  (K : Value → Hp → Prop) : slices_ContainsFunc_Sint_int_b0 s sL sC f h  K = (
  HCalls Tryz.prog 74 #[.slice s sL sC, f] h fun v1 h1 => ∃ r1 : Int, v1 = .int .i64 r1 ∧
  K (.bool (decide ((0 : Int) ≤ r1))) h1) := by kernel_rfl
theorem slices_ContainsFunc_Sint_int_call {s : Option Addr} {sL : Nat} {sC : Nat} {f : Value} {h : Hp} {K : Value → Hp → Prop} (hk : slices_ContainsFunc_Sint_int_b0 s sL sC f h K) : HCalls Tryz.prog 46 #[.slice s sL sC, f] h K :=
  calls_of_snd slices_ContainsFunc_Sint_int_an Tryz.func46 (c := bodyOf Tryz.f46) rfl Tryz.ntmps46 (Nat.le_of_ble_eq_true rfl) (snd_1 F_ok F_mixed) hk

/-! ### model_character -/
def model_character_an : Ann := .leaf
def model_character_K0  (K : Value → Hp → Prop) : Exit → Env → Hp → Prop := retK Tryz.prog Tryz.f48.results.toList K
def model_character_b0 (nv : Int) (h : Hp)  (K : Value → Hp → Prop) : Prop :=
  sx_1 Tryz.prog F 9 (cp [] (bodyOf Tryz.f48)) (ap [] model_character_an) [(0, .int .i64 nv)] h (model_character_K0  K)
theorem model_character_b0_eq (nv : Int) (h : Hp)  (K : Value → Hp → Prop) : model_character_b0 nv h  K = (
  cond (decide ((0 : Int) ≤ nv))
  (K (.bool (decide (nv ≤ 255))) h)
  (K (.bool false) h)) := by kernel_rfl
theorem model_character_call {nv : Int} {h : Hp} {K : Value → Hp → Prop} (hk : model_character_b0 nv h K) : HCalls Tryz.prog 48 #[.int .i64 nv] h K :=
  calls_of_snd model_character_an Tryz.func48 (c := bodyOf Tryz.f48) rfl Tryz.ntmps48 (Nat.le_of_ble_eq_true rfl) (snd_1 F_ok F_mixed) hk

/-! ### slices_IndexFunc_Sapi_Op_api_Op -/
def slices_IndexFunc_Sapi_Op_api_Op_an : Ann := .node none (.leaf) (.node (some []) (.node none (.leaf) (.loop [0, 1, 7] [(8, .int .i64)] (.node none (.leaf) (.node none (.leaf) (.node (some [0, 1, 7, 8]) (.leaf) (.leaf)))))) (.leaf))
def slices_IndexFunc_Sapi_Op_api_Op_K0  (K : Value → Hp → Prop) : Exit → Env → Hp → Prop := retK Tryz.prog Tryz.f49.results.toList K
def slices_IndexFunc_Sapi_Op_api_Op_K1  (K : Value → Hp → Prop) : Exit → Env → Hp → Prop := thenE (fun env h => sx_2 Tryz.prog F 19 (cp [1, 1] (bodyOf Tryz.f49)) (ap [1, 1] slices_IndexFunc_Sapi_Op_api_Op_an) (rs [] env) h (slices_IndexFunc_Sapi_Op_api_Op_K0  K)) (slices_IndexFunc_Sapi_Op_api_Op_K0  K)
def slices_IndexFunc_Sapi_Op_api_Op_K2  (K : Value → Hp → Prop) : Exit → Env → Hp → Prop := blockE 0 (slices_IndexFunc_Sapi_Op_api_Op_K1  K)
def slices_IndexFunc_Sapi_Op_api_Op_K3 (nx0 : Int × Unit → Hp → Prop) (K : Value → Hp → Prop) : Exit → Env → Hp → Prop := thenE (fun env h => getV [(8, .int .i64)] env fun s => nx0 s h) (slices_IndexFunc_Sapi_Op_api_Op_K2  K)
def slices_IndexFunc_Sapi_Op_api_Op_b0 (s : Option Addr) (sL : Nat) (sC : Nat) (f : Value) (h : Hp)  (K : Value → Hp → Prop) : Prop :=
  sx_3 Tryz.prog F 19 (cp [] (bodyOf Tryz.f49)) (ap [] slices_IndexFunc_Sapi_Op_api_Op_an) [(0, .slice s sL sC), (1, f)] h (slices_IndexFunc_Sapi_Op_api_Op_K0  K)
def slices_IndexFunc_Sapi_Op_api_Op_b1 (t8 : Int) (s : Option Addr) (sL : Nat) (sC : Nat) (f : Value) (t7 : Int) (h : Hp) (nx0 : Int × Unit → Hp → Prop) (K : Value → Hp → Prop) : Prop :=
  sx_2 Tryz.prog F 19 (cp [1, 0, 1, 2, 2] (bodyOf Tryz.f49)) (ap [1, 0, 1, 2] slices_IndexFunc_Sapi_Op_api_Op_an) [(8, .int .i64 t8), (0, .slice s sL sC), (1, f), (7, .int .i64 t7)] h (slices_IndexFunc_Sapi_Op_api_Op_K3 nx0 K)
def slices_IndexFunc_Sapi_Op_api_Op_b2 (s : Option Addr) (sL : Nat) (sC : Nat) (f : Value) (t7 : Int) (t8 : Int) (h : Hp) (nx0 : Int × Unit → Hp → Prop) (K : Value → Hp → Prop) : Prop :=
  sx_1 Tryz.prog F 19 (cp [1, 0, 1, 2, 2, 1, 1, 1] (bodyOf Tryz.f49)) (ap [1, 0, 1, 2, 1, 1, 1] slices_IndexFunc_Sapi_Op_api_Op_an) [(0, .slice s sL sC), (1, f), (7, .int .i64 t7), (8, .int .i64 t8)] h (slices_IndexFunc_Sapi_Op_api_Op_K3 nx0 K)
def slices_IndexFunc_Sapi_Op_api_Op_b3  (h : Hp)  (K : Value → Hp → Prop) : Prop :=
  sx_2 Tryz.prog F 19 (cp [1, 1] (bodyOf Tryz.f49)) (ap [1, 1] slices_IndexFunc_Sapi_Op_api_Op_an) [] h (slices_IndexFunc_Sapi_Op_api_Op_K0  K)
theorem slices_IndexFunc_Sapi_Op_api_Op_b0_eq (s : Option Addr) (sL : Nat) (sC : Nat) (f : Value) (h : Hp)  (K : Value → Hp → Prop) : slices_IndexFunc_Sapi_Op_api_Op_b0 s sL sC f h  K = (
  LoopVC ((0, ()) : Int × Unit) h (fun (nx0 : Int × Unit → Hp → Prop) (s1 : Int × Unit) h1 => slices_IndexFunc_Sapi_Op_api_Op_b1 s1.1 s sL sC f (sL : Int) h1 nx0 K)) := by kernel_rfl
theorem slices_IndexFunc_Sapi_Op_api_Op_b1_eq (t8 : Int) (s : Option Addr) (sL : Nat) (sC : Nat) (f : Value) (t7 : Int) (h : Hp) (nx0 : Int × Unit → Hp → Prop) (K : Value → Hp → Prop) : slices_IndexFunc_Sapi_Op_api_Op_b1 t8 s sL sC f t7 h nx0 K = (
  cond (decide (t8 < t7))
  ((0 ≤ t8 ∧ t8 < (sL : Int)) ∧
  NN s fun a1 =>
  ∃ n1 : Int, ∃ (a2 : Option Addr) (L1 C1 : Nat), cell h (a1.add (Int.toNat t8 * 2)) = some (.int .i64 n1) ∧
  cell h ((a1.add (Int.toNat t8 * 2)).add 1) = some (.slice a2 L1 C1) ∧
  funV f fun fg1 fa1 fc1 => callX Tryz.prog F fg1 (fa1 ++ (([.agg #[.int .i64 n1, .slice a2 L1 C1]] : List Value) ++ fc1)).toArray h fun v1 h2 => ∃ r1 : Bool, v1 = .bool r1 ∧
  cond r1
  (K (.int .i64 t8) h2)
  (slices_IndexFunc_Sapi_Op_api_Op_b2 s sL sC f t7 t8 h2 nx0 K))
  (slices_IndexFunc_Sapi_Op_api_Op_b3  h  K)) := by kernel_rfl
theorem slices_IndexFunc_Sapi_Op_api_Op_b2_eq (s : Option Addr) (sL : Nat) (sC : Nat) (f : Value) (t7 : Int) (t8 : Int) (h : Hp) (nx0 : Int × Unit → Hp → Prop) (K : Value → Hp → Prop) : slices_IndexFunc_Sapi_Op_api_Op_b2 s sL sC f t7 t8 h nx0 K = (
  InR (t8 + 1) ∧
  nx0 (t8 + 1, ()) h) := by kernel_rfl
theorem slices_IndexFunc_Sapi_Op_api_Op_b3_eq  (h : Hp)  (K : Value → Hp → Prop) : slices_IndexFunc_Sapi_Op_api_Op_b3  h  K = (
  K (.int .i64 (-1)) h) := by kernel_rfl
theorem slices_IndexFunc_Sapi_Op_api_Op_call {s : Option Addr} {sL : Nat} {sC : Nat} {f : Value} {h : Hp} {K : Value → Hp → Prop} (hk : slices_IndexFunc_Sapi_Op_api_Op_b0 s sL sC f h K) : HCalls Tryz.prog 49 #[.slice s sL sC, f] h K :=
  calls_of_snd slices_IndexFunc_Sapi_Op_api_Op_an Tryz.func49 (c := bodyOf Tryz.f49) rfl Tryz.ntmps49 (Nat.le_of_ble_eq_true rfl) (snd_3 F_ok F_mixed) hk

/-! ### model_ValidOp_c1 -/
def model_ValidOp_c1_an : Ann := .leaf
def model_ValidOp_c1_K0  (K : Value → Hp → Prop) : Exit → Env → Hp → Prop := retK Tryz.prog Tryz.f50.results.toList K
def model_ValidOp_c1_b0 (c : Int) (h : Hp)  (K : Value → Hp → Prop) : Prop :=
  sx_1 Tryz.prog F 6 (cp [] (bodyOf Tryz.f50)) (ap [] model_ValidOp_c1_an) [(0, .int .i64 c)] h (model_ValidOp_c1_K0  K)
theorem model_ValidOp_c1_b0_eq (c : Int) (h : Hp)  (K : Value → Hp → Prop) : model_ValidOp_c1_b0 c h  K = (
  HCalls Tryz.prog 48 #[.int .i64 c] h fun v1 h1 => ∃ r1 : Bool, v1 = .bool r1 ∧
  K (.bool (!r1)) h1) := by kernel_rfl
theorem model_ValidOp_c1_call {c : Int} {h : Hp} {K : Value → Hp → Prop} (hk : model_ValidOp_c1_b0 c h K) : HCalls Tryz.prog 50 #[.int .i64 c] h K :=
  calls_of_snd model_ValidOp_c1_an Tryz.func50 (c := bodyOf Tryz.f50) rfl Tryz.ntmps50 (Nat.le_of_ble_eq_true rfl) (snd_1 F_ok F_mixed) hk

/-! ### model_ValidOp_c2 -/
def model_ValidOp_c2_an : Ann := .leaf
def model_ValidOp_c2_K0  (K : Value → Hp → Prop) : Exit → Env → Hp → Prop := retK Tryz.prog Tryz.f51.results.toList K
def model_ValidOp_c2_b0 (nv : Int) (h : Hp)  (K : Value → Hp → Prop) : Prop :=
  sx_1 Tryz.prog F 6 (cp [] (bodyOf Tryz.f51)) (ap [] model_ValidOp_c2_an) [(0, .int .i64 nv)] h (model_ValidOp_c2_K0  K)
theorem model_ValidOp_c2_b0_eq (nv : Int) (h : Hp)  (K : Value → Hp → Prop) : model_ValidOp_c2_b0 nv h  K = (
  HCalls Tryz.prog 52 #[.int .i64 nv] h fun v1 h1 => ∃ r1 : Bool, v1 = .bool r1 ∧
  K (.bool (!r1)) h1) := by kernel_rfl
theorem model_ValidOp_c2_call {nv : Int} {h : Hp} {K : Value → Hp → Prop} (hk : model_ValidOp_c2_b0 nv h K) : HCalls Tryz.prog 51 #[.int .i64 nv] h K :=
  calls_of_snd model_ValidOp_c2_an Tryz.func51 (c := bodyOf Tryz.f51) rfl Tryz.ntmps51 (Nat.le_of_ble_eq_true rfl) (snd_1 F_ok F_mixed) hk

/-! ### model_number -/
def model_number_an : Ann := .leaf
def model_number_K0  (K : Value → Hp → Prop) : Exit → Env → Hp → Prop := retK Tryz.prog Tryz.f52.results.toList K
def model_number_b0 (nv : Int) (h : Hp)  (K : Value → Hp → Prop) : Prop :=
  sx_1 Tryz.prog F 9 (cp [] (bodyOf Tryz.f52)) (ap [] model_number_an) [(0, .int .i64 nv)] h (model_number_K0  K)
theorem model_number_b0_eq (nv : Int) (h : Hp)  (K : Value → Hp → Prop) : model_number_b0 nv h  K = (
  cond (decide (((-1048576) : Int) ≤ nv))
  (K (.bool (decide (nv ≤ 1048576))) h)
  (K (.bool false) h)) := by kernel_rfl
theorem model_number_call {nv : Int} {h : Hp} {K : Value → Hp → Prop} (hk : model_number_b0 nv h K) : HCalls Tryz.prog 52 #[.int .i64 nv] h K :=
  calls_of_snd model_number_an Tryz.func52 (c := bodyOf Tryz.f52) rfl Tryz.ntmps52 (Nat.le_of_ble_eq_true rfl) (snd_1 F_ok F_mixed) hk

end Go.Proofs.YtkdmcdnfakmapaaGreat
