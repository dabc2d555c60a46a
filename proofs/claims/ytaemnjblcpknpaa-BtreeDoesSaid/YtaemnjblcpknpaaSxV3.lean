/- Plain statements of what each block of code of this seat asks; printed by a program, checked by Lean. -/
import Derived.Test.YtaemnjblcpknpaaSxV0
set_option maxRecDepth 10000
namespace Go.Proofs.Ytaemnjblcpknpaa
open Go Go.Sx

/-! ### btree_Tree_path -/
def btree_Tree_path_an : Ann := .node none (.leaf) (.node (some [4, 5]) (.node none (.leaf) (.loop [1] [(4, .slice), (5, .slice), (7, .ptr)] (.node none (.leaf) (.node none (.leaf) (.node none (.leaf) (.node (some [1, 4, 5, 7, 8]) (.leaf) (.leaf))))))) (.leaf))
def btree_Tree_path_K0  (K : Value → Hp → Prop) : Exit → Env → Hp → Prop := retK Try.prog Try.f41.results.toList K
def btree_Tree_path_K1  (K : Value → Hp → Prop) : Exit → Env → Hp → Prop := thenE (fun env h => sx_2 Try.prog F 50 (cp [1, 1] (bodyOf Try.f41)) (ap [1, 1] btree_Tree_path_an) (rs [4, 5] env) h (btree_Tree_path_K0  K)) (btree_Tree_path_K0  K)
def btree_Tree_path_K2  (K : Value → Hp → Prop) : Exit → Env → Hp → Prop := blockE 0 (btree_Tree_path_K1  K)
def btree_Tree_path_K3 (nx0 : (Option Addr × Nat × Nat) × (Option Addr × Nat × Nat) × Option Addr × Unit → Hp → Prop) (K : Value → Hp → Prop) : Exit → Env → Hp → Prop := thenE (fun env h => getV [(4, .slice), (5, .slice), (7, .ptr)] env fun s => nx0 s h) (btree_Tree_path_K2  K)
def btree_Tree_path_K4 (nx0 : (Option Addr × Nat × Nat) × (Option Addr × Nat × Nat) × Option Addr × Unit → Hp → Prop) (K : Value → Hp → Prop) : Exit → Env → Hp → Prop := blockE 1 (btree_Tree_path_K3 nx0 K)
def btree_Tree_path_b0 (t : Option Addr) (key : Int) (h : Hp)  (K : Value → Hp → Prop) : Prop :=
  sx_3 Try.prog F 50 (cp [] (bodyOf Try.f41)) (ap [] btree_Tree_path_an) [(0, .pointer t), (1, .int .i64 key)] h (btree_Tree_path_K0  K)
def btree_Tree_path_b1 (nodes : Option Addr) (nodesL : Nat) (nodesC : Nat) (atv : Option Addr) (atvL : Nat) (atvC : Nat) (nv : Option Addr) (key : Int) (h : Hp) (nx0 : (Option Addr × Nat × Nat) × (Option Addr × Nat × Nat) × Option Addr × Unit → Hp → Prop) (K : Value → Hp → Prop) : Prop :=
  sx_2 Try.prog F 50 (cp [1, 0, 1, 2, 2] (bodyOf Try.f41)) (ap [1, 0, 1, 2] btree_Tree_path_an) [(4, .slice nodes nodesL nodesC), (5, .slice atv atvL atvC), (7, .pointer nv), (1, .int .i64 key)] h (btree_Tree_path_K3 nx0 K)
def btree_Tree_path_b2 (key : Int) (nodes : Option Addr) (nodesL : Nat) (nodesC : Nat) (atv : Option Addr) (atvL : Nat) (atvC : Nat) (nv : Option Addr) (i : Int) (h : Hp) (nx0 : (Option Addr × Nat × Nat) × (Option Addr × Nat × Nat) × Option Addr × Unit → Hp → Prop) (K : Value → Hp → Prop) : Prop :=
  sx_1 Try.prog F 50 (cp [1, 0, 1, 2, 2, 1, 2, 1, 1, 1] (bodyOf Try.f41)) (ap [1, 0, 1, 2, 1, 1, 1, 1] btree_Tree_path_an) [(1, .int .i64 key), (4, .slice nodes nodesL nodesC), (5, .slice atv atvL atvC), (7, .pointer nv), (8, .int .i64 i)] h (btree_Tree_path_K4 nx0 K)
def btree_Tree_path_b3 (nodes : Option Addr) (nodesL : Nat) (nodesC : Nat) (atv : Option Addr) (atvL : Nat) (atvC : Nat) (h : Hp)  (K : Value → Hp → Prop) : Prop :=
  sx_2 Try.prog F 50 (cp [1, 1] (bodyOf Try.f41)) (ap [1, 1] btree_Tree_path_an) [(4, .slice nodes nodesL nodesC), (5, .slice atv atvL atvC)] h (btree_Tree_path_K0  K)
theorem btree_Tree_path_b0_eq (t : Option Addr) (key : Int) (h : Hp)  (K : Value → Hp → Prop) : btree_Tree_path_b0 t key h  K = (
  NN t fun a1 =>
  ∃ p1 : Option Addr, cell h (a1.add 2) = some (.pointer p1) ∧
  LoopVC (((none, 0, 0), (none, 0, 0), p1, ()) : (Option Addr × Nat × Nat) × (Option Addr × Nat × Nat) × Option Addr × Unit) h (fun (nx0 : (Option Addr × Nat × Nat) × (Option Addr × Nat × Nat) × Option Addr × Unit → Hp → Prop) (s1 : (Option Addr × Nat × Nat) × (Option Addr × Nat × Nat) × Option Addr × Unit) h1 => btree_Tree_path_b1 s1.1.1 s1.1.2.1 s1.1.2.2 s1.2.1.1 s1.2.1.2.1 s1.2.1.2.2 s1.2.2.1 key h1 nx0 K)) := by kernel_rfl
theorem btree_Tree_path_b1_eq (nodes : Option Addr) (nodesL : Nat) (nodesC : Nat) (atv : Option Addr) (atvL : Nat) (atvC : Nat) (nv : Option Addr) (key : Int) (h : Hp) (nx0 : (Option Addr × Nat × Nat) × (Option Addr × Nat × Nat) × Option Addr × Unit → Hp → Prop) (K : Value → Hp → Prop) : btree_Tree_path_b1 nodes nodesL nodesC atv atvL atvC nv key h nx0 K = (
  cond (!nv.isNone)
  (NN nv fun a2 =>
  ∃ (a3 : Option Addr) (L1 C1 : Nat), cell h a2 = some (.slice a3 L1 C1) ∧
  HCalls Try.prog 67 #[.slice a3 L1 C1, .int .i64 key] h fun v1 h2 => ∃ r1 : Int, ∃ r2 : Bool, v1 = .tuple #[.int .i64 r1, .bool r2] ∧
  New h2 (.cells #[.pointer nv] 73) fun b1 h3 =>
  appendV Try.prog 86 86 (.slice nodes nodesL nodesC) (.slice (some ⟨b1, 0, none⟩) 1 1) h3 (slK fun a4 l1 c1 h4 =>
  New h4 (.cells #[.int .i64 r1] 3) fun b2 h5 =>
  appendV Try.prog 38 38 (.slice atv atvL atvC) (.slice (some ⟨b2, 0, none⟩) 1 1) h5 (slK fun a5 l2 c2 h6 =>
  cond r2
  (K (.tuple #[.slice a4 l1 c1, .slice a5 l2 c2, .bool r2]) h6)
  (HCalls Try.prog 42 #[.pointer nv] h6 fun v2 h7 => ∃ r3 : Bool, v2 = .bool r3 ∧
  cond r3
  (K (.tuple #[.slice a4 l1 c1, .slice a5 l2 c2, .bool r2]) h7)
  (btree_Tree_path_b2 key a4 l1 c1 a5 l2 c2 nv r1 h7 nx0 K)))))
  (btree_Tree_path_b3 nodes nodesL nodesC atv atvL atvC h  K)) := by kernel_rfl
theorem btree_Tree_path_b2_eq (key : Int) (nodes : Option Addr) (nodesL : Nat) (nodesC : Nat) (atv : Option Addr) (atvL : Nat) (atvC : Nat) (nv : Option Addr) (i : Int) (h : Hp) (nx0 : (Option Addr × Nat × Nat) × (Option Addr × Nat × Nat) × Option Addr × Unit → Hp → Prop) (K : Value → Hp → Prop) : btree_Tree_path_b2 key nodes nodesL nodesC atv atvL atvC nv i h nx0 K = (
  NN nv fun a6 =>
  ∃ (a7 : Option Addr) (L2 C2 : Nat), cell h (a6.add 2) = some (.slice a7 L2 C2) ∧
  (0 ≤ i ∧ i < (L2 : Int)) ∧
  NN a7 fun a8 =>
  ∃ p2 : Option Addr, cell h (a8.add (Int.toNat i * 1)) = some (.pointer p2) ∧
  nx0 ((nodes, nodesL, nodesC), (atv, atvL, atvC), p2, ()) h) := by kernel_rfl
theorem btree_Tree_path_b3_eq (nodes : Option Addr) (nodesL : Nat) (nodesC : Nat) (atv : Option Addr) (atvL : Nat) (atvC : Nat) (h : Hp)  (K : Value → Hp → Prop) : btree_Tree_path_b3 nodes nodesL nodesC atv atvL atvC h  K = (
  K (.tuple #[.slice nodes nodesL nodesC, .slice atv atvL atvC, .bool false]) h) := by kernel_rfl
theorem btree_Tree_path_call {t : Option Addr} {key : Int} {h : Hp} {K : Value → Hp → Prop} (hk : btree_Tree_path_b0 t key h K) : HCalls Try.prog 41 #[.pointer t, .int .i64 key] h K :=
  calls_of_snd btree_Tree_path_an Try.func41 (c := bodyOf Try.f41) rfl Try.ntmps41 (Nat.le_of_ble_eq_true rfl) (snd_3 F_ok F_mixed) hk

/-! ### btree_node_leaf -/
def btree_node_leaf_an : Ann := .leaf
def btree_node_leaf_K0  (K : Value → Hp → Prop) : Exit → Env → Hp → Prop := retK Try.prog Try.f42.results.toList K
def btree_node_leaf_b0 (nv : Option Addr) (h : Hp)  (K : Value → Hp → Prop) : Prop :=
  sx_1 Try.prog F 9 (cp [] (bodyOf Try.f42)) (ap [] btree_node_leaf_an) [(0, .pointer nv)] h (btree_node_leaf_K0  K)
theorem btree_node_leaf_b0_eq (nv : Option Addr) (h : Hp)  (K : Value → Hp → Prop) : btree_node_leaf_b0 nv h  K = (
  NN nv fun a1 =>
  ∃ (a2 : Option Addr) (L1 C1 : Nat), cell h (a1.add 2) = some (.slice a2 L1 C1) ∧
  K (.bool (decide ((L1 : Int) = 0))) h) := by kernel_rfl
theorem btree_node_leaf_call {nv : Option Addr} {h : Hp} {K : Value → Hp → Prop} (hk : btree_node_leaf_b0 nv h K) : HCalls Try.prog 42 #[.pointer nv] h K :=
  calls_of_snd btree_node_leaf_an Try.func42 (c := bodyOf Try.f42) rfl Try.ntmps42 (Nat.le_of_ble_eq_true rfl) (snd_1 F_ok F_mixed) hk

/-! ### btree_Tree_shrink -/
def btree_Tree_shrink_an : Ann := .node none (.leaf) (.node none (.leaf) (.node none (.plan (.qu 0 (.qu 1 (.qu 2 (.qu 3 (.qu 4 (.qu 5 (.qu 6 (.qu 7 (.qu 8 (.qu 9 (.qu 10 (.qu 11 (.qu 12 (.qu 13 (.qu 14 (.qu 16 (.qu 17 (.qu 18 (.qu 19 (.qu 20 (.qu 21 (.qu 22 (.qu 23 (.qu 24 (.qu 25 (.qu 26 (.qu 27 (.qu 28 (.wo 15 (.wo 29 (.qu 30 (.qu 31 (.wo 32 (.qu 33 (.qu 34 (.wo 35 .fin .no))) .no))) .no) .no)))))))))))))))))))))))))))))) (.node none (.leaf) (.node (some [0]) (.loop [0, 1, 2, 8] [(6, .int .i64)] (.node (some [0, 1, 2, 6, 8]) (.leaf) (.node (some [0, 1, 2, 6, 8]) (.node none (.leaf) (.node none (.leaf) (.node (some [0, 1, 2, 6, 8, 9, 10]) (.leaf) (.node (some [0, 1, 2, 6, 8, 9, 10]) (.leaf) (.leaf))))) (.leaf)))) (.leaf)))))
def btree_Tree_shrink_K0  (K : Value → Hp → Prop) : Exit → Env → Hp → Prop := retK Try.prog Try.f43.results.toList K
def btree_Tree_shrink_K1  (K : Value → Hp → Prop) : Exit → Env → Hp → Prop := thenE (fun env h => sx_4 Try.prog F 178 (cp [1, 1, 1, 1, 1] (bodyOf Try.f43)) (ap [1, 1, 1, 1, 1] btree_Tree_shrink_an) (rs [0] env) h (btree_Tree_shrink_K0  K)) (btree_Tree_shrink_K0  K)
def btree_Tree_shrink_K2  (K : Value → Hp → Prop) : Exit → Env → Hp → Prop := blockE 0 (btree_Tree_shrink_K1  K)
def btree_Tree_shrink_K3 (nx0 : Int × Unit → Hp → Prop) (K : Value → Hp → Prop) : Exit → Env → Hp → Prop := thenE (fun env h => getV [(6, .int .i64)] env fun s => nx0 s h) (btree_Tree_shrink_K2  K)
def btree_Tree_shrink_K4 (nx0 : Int × Unit → Hp → Prop) (K : Value → Hp → Prop) : Exit → Env → Hp → Prop := thenE (fun env h => sx_2 Try.prog F 178 (cp [1, 1, 1, 1, 0, 2, 2, 1, 1] (bodyOf Try.f43)) (ap [1, 1, 1, 1, 0, 2, 1, 1] btree_Tree_shrink_an) (rs [0, 1, 2, 6, 8] env) h (btree_Tree_shrink_K3 nx0 K)) (btree_Tree_shrink_K3 nx0 K)
def btree_Tree_shrink_K5 (nx0 : Int × Unit → Hp → Prop) (K : Value → Hp → Prop) : Exit → Env → Hp → Prop := blockE 1 (btree_Tree_shrink_K4 nx0 K)
def btree_Tree_shrink_b0 (t : Option Addr) (nodes : Option Addr) (nodesL : Nat) (nodesC : Nat) (atv : Option Addr) (atvL : Nat) (atvC : Nat) (h : Hp)  (K : Value → Hp → Prop) : Prop :=
  sx_5 Try.prog F 178 (cp [] (bodyOf Try.f43)) (ap [] btree_Tree_shrink_an) [(0, .pointer t), (1, .slice nodes nodesL nodesC), (2, .slice atv atvL atvC)] h (btree_Tree_shrink_K0  K)
def btree_Tree_shrink_b1 (d : Int) (t : Option Addr) (nodes : Option Addr) (nodesL : Nat) (nodesC : Nat) (atv : Option Addr) (atvL : Nat) (atvC : Nat) (least : Int) (h : Hp) (nx0 : Int × Unit → Hp → Prop) (K : Value → Hp → Prop) : Prop :=
  sx_4 Try.prog F 178 (cp [1, 1, 1, 1, 0, 2, 2] (bodyOf Try.f43)) (ap [1, 1, 1, 1, 0, 2] btree_Tree_shrink_an) [(6, .int .i64 d), (0, .pointer t), (1, .slice nodes nodesL nodesC), (2, .slice atv atvL atvC), (8, .int .i64 least)] h (btree_Tree_shrink_K3 nx0 K)
def btree_Tree_shrink_b2 (t : Option Addr) (nodes : Option Addr) (nodesL : Nat) (nodesC : Nat) (atv : Option Addr) (atvL : Nat) (atvC : Nat) (d : Int) (least : Int) (h : Hp) (nx0 : Int × Unit → Hp → Prop) (K : Value → Hp → Prop) : Prop :=
  sx_3 Try.prog F 178 (cp [1, 1, 1, 1, 0, 2, 2, 1] (bodyOf Try.f43)) (ap [1, 1, 1, 1, 0, 2, 1] btree_Tree_shrink_an) [(0, .pointer t), (1, .slice nodes nodesL nodesC), (2, .slice atv atvL atvC), (6, .int .i64 d), (8, .int .i64 least)] h (btree_Tree_shrink_K3 nx0 K)
def btree_Tree_shrink_b3 (t : Option Addr) (h : Hp)  (K : Value → Hp → Prop) : Prop :=
  sx_4 Try.prog F 178 (cp [1, 1, 1, 1, 1] (bodyOf Try.f43)) (ap [1, 1, 1, 1, 1] btree_Tree_shrink_an) [(0, .pointer t)] h (btree_Tree_shrink_K0  K)
def btree_Tree_shrink_b4 (t : Option Addr) (nodes : Option Addr) (nodesL : Nat) (nodesC : Nat) (atv : Option Addr) (atvL : Nat) (atvC : Nat) (d : Int) (least : Int) (p : Option Addr) (i : Int) (h : Hp) (nx0 : Int × Unit → Hp → Prop) (K : Value → Hp → Prop) : Prop :=
  sx_2 Try.prog F 178 (cp [1, 1, 1, 1, 0, 2, 2, 1, 0, 2, 1, 1, 1] (bodyOf Try.f43)) (ap [1, 1, 1, 1, 0, 2, 1, 0, 1, 1, 1] btree_Tree_shrink_an) [(0, .pointer t), (1, .slice nodes nodesL nodesC), (2, .slice atv atvL atvC), (6, .int .i64 d), (8, .int .i64 least), (9, .pointer p), (10, .int .i64 i)] h (btree_Tree_shrink_K5 nx0 K)
def btree_Tree_shrink_b5 (t : Option Addr) (nodes : Option Addr) (nodesL : Nat) (nodesC : Nat) (atv : Option Addr) (atvL : Nat) (atvC : Nat) (d : Int) (least : Int) (p : Option Addr) (i : Int) (h : Hp) (nx0 : Int × Unit → Hp → Prop) (K : Value → Hp → Prop) : Prop :=
  sx_1 Try.prog F 178 (cp [1, 1, 1, 1, 0, 2, 2, 1, 0, 2, 1, 1, 1, 1] (bodyOf Try.f43)) (ap [1, 1, 1, 1, 0, 2, 1, 0, 1, 1, 1, 1] btree_Tree_shrink_an) [(0, .pointer t), (1, .slice nodes nodesL nodesC), (2, .slice atv atvL atvC), (6, .int .i64 d), (8, .int .i64 least), (9, .pointer p), (10, .int .i64 i)] h (btree_Tree_shrink_K5 nx0 K)
def btree_Tree_shrink_b6 (t : Option Addr) (nodes : Option Addr) (nodesL : Nat) (nodesC : Nat) (atv : Option Addr) (atvL : Nat) (atvC : Nat) (d : Int) (least : Int) (h : Hp) (nx0 : Int × Unit → Hp → Prop) (K : Value → Hp → Prop) : Prop :=
  sx_2 Try.prog F 178 (cp [1, 1, 1, 1, 0, 2, 2, 1, 1] (bodyOf Try.f43)) (ap [1, 1, 1, 1, 0, 2, 1, 1] btree_Tree_shrink_an) [(0, .pointer t), (1, .slice nodes nodesL nodesC), (2, .slice atv atvL atvC), (6, .int .i64 d), (8, .int .i64 least)] h (btree_Tree_shrink_K3 nx0 K)
theorem btree_Tree_shrink_b0_eq (t : Option Addr) (nodes : Option Addr) (nodesL : Nat) (nodesC : Nat) (atv : Option Addr) (atvL : Nat) (atvC : Nat) (h : Hp)  (K : Value → Hp → Prop) : btree_Tree_shrink_b0 t nodes nodesL nodesC atv atvL atvC h  K = (
  InR ((nodesL : Int) - 1) ∧
  (0 ≤ (nodesL : Int) - 1 ∧ (nodesL : Int) - 1 < (nodesL : Int)) ∧
  NN nodes fun a1 =>
  ∃ p1 : Option Addr, cell h (a1.add (Int.toNat ((nodesL : Int) - 1) * 1)) = some (.pointer p1) ∧
  NN p1 fun a2 =>
  ∃ (a3 : Option Addr) (L1 C1 : Nat), cell h a2 = some (.slice a3 L1 C1) ∧
  (0 ≤ (nodesL : Int) - 1 ∧ (nodesL : Int) - 1 < (atvL : Int)) ∧
  NN atv fun a4 =>
  ∃ n1 : Int, cell h (a4.add (Int.toNat ((nodesL : Int) - 1) * 1)) = some (.int .i64 n1) ∧
  (0 ≤ (nodesL : Int) - 1 ∧ (nodesL : Int) - 1 < (atvL : Int)) ∧
  NN atv fun a5 =>
  ∃ n2 : Int, cell h (a5.add (Int.toNat ((nodesL : Int) - 1) * 1)) = some (.int .i64 n2) ∧
  InR (n2 + 1) ∧
  NN p1 fun a6 =>
  ∃ (a7 : Option Addr) (L2 C2 : Nat), cell h (a6.add 1) = some (.slice a7 L2 C2) ∧
  (0 ≤ (nodesL : Int) - 1 ∧ (nodesL : Int) - 1 < (atvL : Int)) ∧
  NN atv fun a8 =>
  ∃ n3 : Int, cell h (a8.add (Int.toNat ((nodesL : Int) - 1) * 1)) = some (.int .i64 n3) ∧
  (0 ≤ (nodesL : Int) - 1 ∧ (nodesL : Int) - 1 < (atvL : Int)) ∧
  NN atv fun a9 =>
  ∃ n4 : Int, cell h (a9.add (Int.toNat ((nodesL : Int) - 1) * 1)) = some (.int .i64 n4) ∧
  InR (n4 + 1) ∧
  HCalls Try.prog 68 #[.slice a3 L1 C1, .int .i64 n1, .int .i64 (n2 + 1)] h fun v1 h1 => ∃ (r1 : Option Addr) (rL1 rC1 : Nat), v1 = .slice r1 rL1 rC1 ∧
  (∃ n5 : Int, cell h1 (a9.add (Int.toNat ((nodesL : Int) - 1) * 1)) = some (.int .i64 n5) ∧
  (.int .i64 n5 : Value) = .int .i64 n4) ∧
  (∃ n6 : Int, cell h1 (a8.add (Int.toNat ((nodesL : Int) - 1) * 1)) = some (.int .i64 n6) ∧
  (.int .i64 n6 : Value) = .int .i64 n3) ∧
  (∃ (a10 : Option Addr) (L3 C3 : Nat), cell h1 (a6.add 1) = some (.slice a10 L3 C3) ∧
  (.slice a10 L3 C3 : Value) = .slice a7 L2 C2) ∧
  HCalls Try.prog 68 #[.slice a7 L2 C2, .int .i64 n3, .int .i64 (n4 + 1)] h1 fun v2 h2 => ∃ (r2 : Option Addr) (rL2 rC2 : Nat), v2 = .slice r2 rL2 rC2 ∧
  NN p1 fun a11 =>
  Wr h2 a11 (.slice r1 rL1 rC1) fun h3 =>
  NN p1 fun a12 =>
  Wr h3 (a12.add 1) (.slice r2 rL2 rC2) fun h4 =>
  NN t fun a13 =>
  ∃ n7 : Int, cell h4 a13 = some (.int .i64 n7) ∧
  InR (n7 + 1) ∧
  ∃ q1 : Int, Sx.Quo .i64 (n7 + 1) 2 q1 ∧
  InR (q1 - 1) ∧
  LoopVC (((nodesL : Int) - 1, ()) : Int × Unit) h4 (fun (nx0 : Int × Unit → Hp → Prop) (s1 : Int × Unit) h5 => btree_Tree_shrink_b1 s1.1 t nodes nodesL nodesC atv atvL atvC (q1 - 1) h5 nx0 K)) := by kernel_rfl
theorem btree_Tree_shrink_b1_eq (d : Int) (t : Option Addr) (nodes : Option Addr) (nodesL : Nat) (nodesC : Nat) (atv : Option Addr) (atvL : Nat) (atvC : Nat) (least : Int) (h : Hp) (nx0 : Int × Unit → Hp → Prop) (K : Value → Hp → Prop) : btree_Tree_shrink_b1 d t nodes nodesL nodesC atv atvL atvC least h nx0 K = (
  cond (decide ((0 : Int) < d))
  ((0 ≤ d ∧ d < (nodesL : Int)) ∧
  NN nodes fun a14 =>
  ∃ p2 : Option Addr, cell h (a14.add (Int.toNat d * 1)) = some (.pointer p2) ∧
  NN p2 fun a15 =>
  ∃ (a16 : Option Addr) (L4 C4 : Nat), cell h a15 = some (.slice a16 L4 C4) ∧
  cond (decide ((L4 : Int) < least))
  (btree_Tree_shrink_b2 t nodes nodesL nodesC atv atvL atvC d least h nx0 K)
  (btree_Tree_shrink_b3 t h  K))
  (btree_Tree_shrink_b3 t h  K)) := by kernel_rfl
theorem btree_Tree_shrink_b2_eq (t : Option Addr) (nodes : Option Addr) (nodesL : Nat) (nodesC : Nat) (atv : Option Addr) (atvL : Nat) (atvC : Nat) (d : Int) (least : Int) (h : Hp) (nx0 : Int × Unit → Hp → Prop) (K : Value → Hp → Prop) : btree_Tree_shrink_b2 t nodes nodesL nodesC atv atvL atvC d least h nx0 K = (
  InR (d - 1) ∧
  (0 ≤ d - 1 ∧ d - 1 < (nodesL : Int)) ∧
  NN nodes fun a17 =>
  ∃ p3 : Option Addr, cell h (a17.add (Int.toNat (d - 1) * 1)) = some (.pointer p3) ∧
  InR (d - 1) ∧
  (0 ≤ d - 1 ∧ d - 1 < (atvL : Int)) ∧
  NN atv fun a18 =>
  ∃ n8 : Int, cell h (a18.add (Int.toNat (d - 1) * 1)) = some (.int .i64 n8) ∧
  NN t fun a19 =>
  ∃ n9 : Int, cell h (a19.add 3) = some (.int .i64 n9) ∧
  InR (n9 + 1) ∧
  NN t fun a20 =>
  Wr h (a20.add 3) (.int .i64 (n9 + 1)) fun h6 =>
  cond (decide ((0 : Int) < n8))
  (NN p3 fun a21 =>
  ∃ (a22 : Option Addr) (L5 C5 : Nat), cell h6 (a21.add 2) = some (.slice a22 L5 C5) ∧
  InR (n8 - 1) ∧
  (0 ≤ n8 - 1 ∧ n8 - 1 < (L5 : Int)) ∧
  NN a22 fun a23 =>
  ∃ p4 : Option Addr, cell h6 (a23.add (Int.toNat (n8 - 1) * 1)) = some (.pointer p4) ∧
  NN p4 fun a24 =>
  ∃ (a25 : Option Addr) (L6 C6 : Nat), cell h6 a24 = some (.slice a25 L6 C6) ∧
  cond (decide (least < (L6 : Int)))
  (HCalls Try.prog 69 #[.pointer p3, .int .i64 n8] h6 fun v3 h7 => v3 = .tuple #[] ∧
  K (.tuple #[]) h7)
  (btree_Tree_shrink_b4 t nodes nodesL nodesC atv atvL atvC d least p3 n8 h6 nx0 K))
  (btree_Tree_shrink_b4 t nodes nodesL nodesC atv atvL atvC d least p3 n8 h6 nx0 K)) := by kernel_rfl
theorem btree_Tree_shrink_b3_eq (t : Option Addr) (h : Hp)  (K : Value → Hp → Prop) : btree_Tree_shrink_b3 t h  K = (
  NN t fun a26 =>
  ∃ p5 : Option Addr, cell h (a26.add 2) = some (.pointer p5) ∧
  NN p5 fun a27 =>
  ∃ (a28 : Option Addr) (L7 C7 : Nat), cell h a27 = some (.slice a28 L7 C7) ∧
  cond (decide ((L7 : Int) = 0))
  (NN t fun a29 =>
  ∃ p6 : Option Addr, cell h (a29.add 2) = some (.pointer p6) ∧
  HCalls Try.prog 42 #[.pointer p6] h fun v4 h8 => ∃ r3 : Bool, v4 = .bool r3 ∧
  cond r3
  (NN t fun a30 =>
  Wr h8 (a30.add 2) (.pointer none) fun h9 =>
  K (.tuple #[]) h9)
  (NN t fun a31 =>
  ∃ p7 : Option Addr, cell h8 (a31.add 2) = some (.pointer p7) ∧
  NN p7 fun a32 =>
  ∃ (a33 : Option Addr) (L8 C8 : Nat), cell h8 (a32.add 2) = some (.slice a33 L8 C8) ∧
  (0 ≤ (0 : Int) ∧ (0 : Int) < (L8 : Int)) ∧
  NN a33 fun a34 =>
  ∃ p8 : Option Addr, cell h8 (a34.add (Int.toNat (0 : Int) * 1)) = some (.pointer p8) ∧
  NN t fun a35 =>
  Wr h8 (a35.add 2) (.pointer p8) fun h10 =>
  K (.tuple #[]) h10))
  (K (.tuple #[]) h)) := by kernel_rfl
theorem btree_Tree_shrink_b4_eq (t : Option Addr) (nodes : Option Addr) (nodesL : Nat) (nodesC : Nat) (atv : Option Addr) (atvL : Nat) (atvC : Nat) (d : Int) (least : Int) (p : Option Addr) (i : Int) (h : Hp) (nx0 : Int × Unit → Hp → Prop) (K : Value → Hp → Prop) : btree_Tree_shrink_b4 t nodes nodesL nodesC atv atvL atvC d least p i h nx0 K = (
  NN p fun a36 =>
  ∃ (a37 : Option Addr) (L9 C9 : Nat), cell h a36 = some (.slice a37 L9 C9) ∧
  cond (decide (i < (L9 : Int)))
  (NN t fun a38 =>
  ∃ n10 : Int, cell h (a38.add 3) = some (.int .i64 n10) ∧
  InR (n10 + 1) ∧
  NN t fun a39 =>
  Wr h (a39.add 3) (.int .i64 (n10 + 1)) fun h11 =>
  NN p fun a40 =>
  ∃ (a41 : Option Addr) (L10 C10 : Nat), cell h11 (a40.add 2) = some (.slice a41 L10 C10) ∧
  InR (i + 1) ∧
  (0 ≤ i + 1 ∧ i + 1 < (L10 : Int)) ∧
  NN a41 fun a42 =>
  ∃ p9 : Option Addr, cell h11 (a42.add (Int.toNat (i + 1) * 1)) = some (.pointer p9) ∧
  NN p9 fun a43 =>
  ∃ (a44 : Option Addr) (L11 C11 : Nat), cell h11 a43 = some (.slice a44 L11 C11) ∧
  cond (decide (least < (L11 : Int)))
  (HCalls Try.prog 70 #[.pointer p, .int .i64 i] h11 fun v5 h12 => v5 = .tuple #[] ∧
  K (.tuple #[]) h12)
  (btree_Tree_shrink_b5 t nodes nodesL nodesC atv atvL atvC d least p i h11 nx0 K))
  (btree_Tree_shrink_b5 t nodes nodesL nodesC atv atvL atvC d least p i h nx0 K)) := by kernel_rfl
theorem btree_Tree_shrink_b5_eq (t : Option Addr) (nodes : Option Addr) (nodesL : Nat) (nodesC : Nat) (atv : Option Addr) (atvL : Nat) (atvC : Nat) (d : Int) (least : Int) (p : Option Addr) (i : Int) (h : Hp) (nx0 : Int × Unit → Hp → Prop) (K : Value → Hp → Prop) : btree_Tree_shrink_b5 t nodes nodesL nodesC atv atvL atvC d least p i h nx0 K = (
  InR (i - 1) ∧
  HCalls Try.prog 71 #[.pointer p, .int .i64 (if 0 < i - 1 then i - 1 else 0)] h fun v6 h13 => v6 = .tuple #[] ∧
  btree_Tree_shrink_b6 t nodes nodesL nodesC atv atvL atvC d least h13 nx0 K) := by kernel_rfl
theorem btree_Tree_shrink_b6_eq (t : Option Addr) (nodes : Option Addr) (nodesL : Nat) (nodesC : Nat) (atv : Option Addr) (atvL : Nat) (atvC : Nat) (d : Int) (least : Int) (h : Hp) (nx0 : Int × Unit → Hp → Prop) (K : Value → Hp → Prop) : btree_Tree_shrink_b6 t nodes nodesL nodesC atv atvL atvC d least h nx0 K = (
  InR (d - 1) ∧
  nx0 (d - 1, ()) h) := by kernel_rfl
theorem btree_Tree_shrink_call {t : Option Addr} {nodes : Option Addr} {nodesL : Nat} {nodesC : Nat} {atv : Option Addr} {atvL : Nat} {atvC : Nat} {h : Hp} {K : Value → Hp → Prop} (hk : btree_Tree_shrink_b0 t nodes nodesL nodesC atv atvL atvC h K) : HCalls Try.prog 43 #[.pointer t, .slice nodes nodesL nodesC, .slice atv atvL atvC] h K :=
  calls_of_snd btree_Tree_shrink_an Try.func43 (c := bodyOf Try.f43) rfl Try.ntmps43 (Nat.le_of_ble_eq_true rfl) (snd_5 F_ok F_mixed) hk

/-! ### r43_Put -/
def r43_Put_an : Ann := .node none (.leaf) (.node (some [0, 1, 2]) (.leaf) (.node none (.leaf) (.node none (.leaf) (.node none (.leaf) (.node none (.node none (.leaf) (.node none (.node none (.plan (.qu 0 (.qu 1 (.qu 2 (.qu 3 (.qu 4 (.qu 6 (.qu 7 (.qu 8 (.qu 9 (.qu 10 (.wo 5 (.wo 11 (.wo 12 (.wo 13 (.wo 14 .fin .no) .no) .no) .no) .no)))))))))))) (.leaf)) (.leaf))) (.leaf))))))
def r43_Put_K0  (K : Value → Hp → Prop) : Exit → Env → Hp → Prop := retK Try.prog Try.f44.results.toList K
def r43_Put_b0 (l : Option Addr) (lL : Nat) (lC : Nat) (key : Int) (value : Int) (h : Hp)  (K : Value → Hp → Prop) : Prop :=
  sx_2 Try.prog F 60 (cp [] (bodyOf Try.f44)) (ap [] r43_Put_an) [(0, .slice l lL lC), (1, .int .i64 key), (2, .int .i64 value)] h (r43_Put_K0  K)
def r43_Put_b1 (l : Option Addr) (lL : Nat) (lC : Nat) (key : Int) (value : Int) (h : Hp)  (K : Value → Hp → Prop) : Prop :=
  sx_1 Try.prog F 60 (cp [1, 1] (bodyOf Try.f44)) (ap [1, 1] r43_Put_an) [(0, .slice l lL lC), (1, .int .i64 key), (2, .int .i64 value)] h (r43_Put_K0  K)
theorem r43_Put_b0_eq (l : Option Addr) (lL : Nat) (lC : Nat) (key : Int) (value : Int) (h : Hp)  (K : Value → Hp → Prop) : r43_Put_b0 l lL lC key value h  K = (
  HCalls Try.prog 35 #[.int .i64 key] h fun v1 h1 => ∃ r1 : Bool, v1 = .bool r1 ∧
  cond (!r1)
  (K (.tuple #[.slice l lL lC, .int .i64 0, .bool false, .int .i64 1]) h1)
  (HCalls Try.prog 35 #[.int .i64 value] h1 fun v2 h2 => ∃ r2 : Bool, v2 = .bool r2 ∧
  cond (!r2)
  (K (.tuple #[.slice l lL lC, .int .i64 0, .bool false, .int .i64 1]) h2)
  (r43_Put_b1 l lL lC key value h2  K))) := by kernel_rfl
theorem r43_Put_b1_eq (l : Option Addr) (lL : Nat) (lC : Nat) (key : Int) (value : Int) (h : Hp)  (K : Value → Hp → Prop) : r43_Put_b1 l lL lC key value h  K = (
  HCalls Try.prog 72 #[.slice l lL lC, .int .i64 key] h fun v3 h3 => ∃ r3 : Int, ∃ r4 : Bool, v3 = .tuple #[.int .i64 r3, .bool r4] ∧
  New h3 (.cells #[] 40) fun b1 h4 =>
  (0 ≤ (0 : Int) ∧ (0 : Int) ≤ r3 ∧ r3 ≤ (lC : Int)) ∧
  appendV Try.prog 22 22 (.slice (some ⟨b1, 0, none⟩) 0 0) (.slice (subAddr l lC (Int.toNat (0 : Int)) 2) (Int.toNat r3 - Int.toNat (0 : Int)) (lC - Int.toNat (0 : Int))) h4 (slK fun a1 l1 c1 h5 =>
  New h5 (.cells #[.int .i64 key, .int .i64 value] 40) fun b2 h6 =>
  appendV Try.prog 22 22 (.slice a1 l1 c1) (.slice (some ⟨b2, 0, none⟩) 1 1) h6 (slK fun a2 l2 c2 h7 =>
  cond r4
  (InR (r3 + 1) ∧
  (0 ≤ r3 + 1 ∧ r3 + 1 ≤ (lL : Int) ∧ (lL : Int) ≤ (lC : Int)) ∧
  (0 ≤ r3 ∧ r3 < (lL : Int)) ∧
  NN l fun a3 =>
  (0 ≤ (1 : Int) ∧ (1 : Int) < ((2 : Nat) : Int)) ∧
  ∃ n1 : Int, cell h7 ((a3.add (Int.toNat r3 * 2)).add (Int.toNat (1 : Int) * 1)) = some (.int .i64 n1) ∧
  appendV Try.prog 22 22 (.slice a2 l2 c2) (.slice (subAddr l lC (Int.toNat (r3 + 1)) 2) (Int.toNat (lL : Int) - Int.toNat (r3 + 1)) (lC - Int.toNat (r3 + 1))) h7 (slK fun a4 l3 c3 h8 =>
  (∃ n2 : Int, cell h8 ((a3.add (Int.toNat r3 * 2)).add (Int.toNat (1 : Int) * 1)) = some (.int .i64 n2) ∧
  (.int .i64 n2 : Value) = .int .i64 n1) ∧
  (∃ n3 : Int, cell h8 ((a3.add (Int.toNat r3 * 2)).add (Int.toNat (1 : Int) * 1)) = some (.int .i64 n3) ∧
  (.int .i64 n3 : Value) = .int .i64 n1) ∧
  K (.tuple #[.slice a4 l3 c3, .int .i64 n1, .bool true, .int .i64 0]) h8))
  (cond (decide ((lL : Int) = 2000))
  (K (.tuple #[.slice l lL lC, .int .i64 0, .bool false, .int .i64 4]) h7)
  ((0 ≤ r3 ∧ r3 ≤ (lL : Int) ∧ (lL : Int) ≤ (lC : Int)) ∧
  appendV Try.prog 22 22 (.slice a2 l2 c2) (.slice (subAddr l lC (Int.toNat r3) 2) (Int.toNat (lL : Int) - Int.toNat r3) (lC - Int.toNat r3)) h7 (slK fun a5 l4 c4 h9 =>
  K (.tuple #[.slice a5 l4 c4, .int .i64 0, .bool false, .int .i64 0]) h9)))))) := by kernel_rfl
theorem r43_Put_call {l : Option Addr} {lL : Nat} {lC : Nat} {key : Int} {value : Int} {h : Hp} {K : Value → Hp → Prop} (hk : r43_Put_b0 l lL lC key value h K) : HCalls Try.prog 44 #[.slice l lL lC, .int .i64 key, .int .i64 value] h K :=
  calls_of_snd r43_Put_an Try.func44 (c := bodyOf Try.f44) rfl Try.ntmps44 (Nat.le_of_ble_eq_true rfl) (snd_2 F_ok F_mixed) hk

/-! ### r43_Get -/
def r43_Get_an : Ann := .leaf
def r43_Get_K0  (K : Value → Hp → Prop) : Exit → Env → Hp → Prop := retK Try.prog Try.f45.results.toList K
def r43_Get_b0 (l : Option Addr) (lL : Nat) (lC : Nat) (key : Int) (h : Hp)  (K : Value → Hp → Prop) : Prop :=
  sx_1 Try.prog F 24 (cp [] (bodyOf Try.f45)) (ap [] r43_Get_an) [(0, .slice l lL lC), (1, .int .i64 key)] h (r43_Get_K0  K)
theorem r43_Get_b0_eq (l : Option Addr) (lL : Nat) (lC : Nat) (key : Int) (h : Hp)  (K : Value → Hp → Prop) : r43_Get_b0 l lL lC key h  K = (
  HCalls Try.prog 35 #[.int .i64 key] h fun v1 h1 => ∃ r1 : Bool, v1 = .bool r1 ∧
  cond (!r1)
  (K (.tuple #[.int .i64 0, .int .i64 1]) h1)
  (HCalls Try.prog 72 #[.slice l lL lC, .int .i64 key] h1 fun v2 h2 => ∃ r2 : Int, ∃ r3 : Bool, v2 = .tuple #[.int .i64 r2, .bool r3] ∧
  cond (!r3)
  (K (.tuple #[.int .i64 0, .int .i64 12]) h2)
  ((0 ≤ r2 ∧ r2 < (lL : Int)) ∧
  NN l fun a1 =>
  (0 ≤ (1 : Int) ∧ (1 : Int) < ((2 : Nat) : Int)) ∧
  ∃ n1 : Int, cell h2 ((a1.add (Int.toNat r2 * 2)).add (Int.toNat (1 : Int) * 1)) = some (.int .i64 n1) ∧
  K (.tuple #[.int .i64 n1, .int .i64 0]) h2))) := by kernel_rfl
theorem r43_Get_call {l : Option Addr} {lL : Nat} {lC : Nat} {key : Int} {h : Hp} {K : Value → Hp → Prop} (hk : r43_Get_b0 l lL lC key h K) : HCalls Try.prog 45 #[.slice l lL lC, .int .i64 key] h K :=
  calls_of_snd r43_Get_an Try.func45 (c := bodyOf Try.f45) rfl Try.ntmps45 (Nat.le_of_ble_eq_true rfl) (snd_1 F_ok F_mixed) hk

/-! ### r43_Remove -/
def r43_Remove_an : Ann := .node none (.leaf) (.node none (.leaf) (.node none (.leaf) (.node none (.leaf) (.node none (.plan (.qu 1 (.qu 2 (.qu 3 (.qu 5 (.qu 6 (.qu 7 (.qu 8 (.qu 10 (.wo 0 (.wo 4 (.wo 9 (.wo 11 (.wo 12 (.wo 13 .fin .no) .no) .no) .no) .no) .no)))))))))) (.leaf)))))
def r43_Remove_K0  (K : Value → Hp → Prop) : Exit → Env → Hp → Prop := retK Try.prog Try.f46.results.toList K
def r43_Remove_b0 (l : Option Addr) (lL : Nat) (lC : Nat) (key : Int) (h : Hp)  (K : Value → Hp → Prop) : Prop :=
  sx_1 Try.prog F 38 (cp [] (bodyOf Try.f46)) (ap [] r43_Remove_an) [(0, .slice l lL lC), (1, .int .i64 key)] h (r43_Remove_K0  K)
theorem r43_Remove_b0_eq (l : Option Addr) (lL : Nat) (lC : Nat) (key : Int) (h : Hp)  (K : Value → Hp → Prop) : r43_Remove_b0 l lL lC key h  K = (
  HCalls Try.prog 45 #[.slice l lL lC, .int .i64 key] h fun v1 h1 => ∃ r1 : Int, ∃ r2 : Int, v1 = .tuple #[.int .i64 r1, .int .i64 r2] ∧
  cond (!decide (r2 = 0))
  (K (.tuple #[.slice l lL lC, .int .i64 0, .int .i64 r2]) h1)
  (HCalls Try.prog 72 #[.slice l lL lC, .int .i64 key] h1 fun v2 h2 => ∃ r3 : Int, ∃ r4 : Bool, v2 = .tuple #[.int .i64 r3, .bool r4] ∧
  (0 ≤ (0 : Int) ∧ (0 : Int) ≤ r3 ∧ r3 ≤ (lC : Int)) ∧
  InR (r3 + 1) ∧
  (0 ≤ r3 + 1 ∧ r3 + 1 ≤ (lL : Int) ∧ (lL : Int) ≤ (lC : Int)) ∧
  New h2 (.cells #[] 40) fun b1 h3 =>
  ((0 ≤ r3 + 1 ∧ r3 + 1 ≤ (lL : Int) ∧ (lL : Int) ≤ (lC : Int)) ∧
  (.slice (subAddr l lC (Int.toNat (r3 + 1)) 2) (Int.toNat (lL : Int) - Int.toNat (r3 + 1)) (lC - Int.toNat (r3 + 1)) : Value) = .slice (subAddr l lC (Int.toNat (r3 + 1)) 2) (Int.toNat (lL : Int) - Int.toNat (r3 + 1)) (lC - Int.toNat (r3 + 1))) ∧
  ((0 ≤ (0 : Int) ∧ (0 : Int) ≤ r3 ∧ r3 ≤ (lC : Int)) ∧
  (.slice (subAddr l lC (Int.toNat (0 : Int)) 2) (Int.toNat r3 - Int.toNat (0 : Int)) (lC - Int.toNat (0 : Int)) : Value) = .slice (subAddr l lC (Int.toNat (0 : Int)) 2) (Int.toNat r3 - Int.toNat (0 : Int)) (lC - Int.toNat (0 : Int))) ∧
  appendV Try.prog 22 22 (.slice (some ⟨b1, 0, none⟩) 0 0) (.slice (subAddr l lC (Int.toNat (0 : Int)) 2) (Int.toNat r3 - Int.toNat (0 : Int)) (lC - Int.toNat (0 : Int))) h3 (slK fun a1 l1 c1 h4 =>
  ((0 ≤ r3 + 1 ∧ r3 + 1 ≤ (lL : Int) ∧ (lL : Int) ≤ (lC : Int)) ∧
  (.slice (subAddr l lC (Int.toNat (r3 + 1)) 2) (Int.toNat (lL : Int) - Int.toNat (r3 + 1)) (lC - Int.toNat (r3 + 1)) : Value) = .slice (subAddr l lC (Int.toNat (r3 + 1)) 2) (Int.toNat (lL : Int) - Int.toNat (r3 + 1)) (lC - Int.toNat (r3 + 1))) ∧
  appendV Try.prog 22 22 (.slice a1 l1 c1) (.slice (subAddr l lC (Int.toNat (r3 + 1)) 2) (Int.toNat (lL : Int) - Int.toNat (r3 + 1)) (lC - Int.toNat (r3 + 1))) h4 (slK fun a2 l2 c2 h5 =>
  K (.tuple #[.slice a2 l2 c2, .int .i64 r1, .int .i64 0]) h5)))) := by kernel_rfl
theorem r43_Remove_call {l : Option Addr} {lL : Nat} {lC : Nat} {key : Int} {h : Hp} {K : Value → Hp → Prop} (hk : r43_Remove_b0 l lL lC key h K) : HCalls Try.prog 46 #[.slice l lL lC, .int .i64 key] h K :=
  calls_of_snd r43_Remove_an Try.func46 (c := bodyOf Try.f46) rfl Try.ntmps46 (Nat.le_of_ble_eq_true rfl) (snd_1 F_ok F_mixed) hk

/-! ### r43_Floor -/
def r43_Floor_an : Ann := .leaf
def r43_Floor_K0  (K : Value → Hp → Prop) : Exit → Env → Hp → Prop := retK Try.prog Try.f47.results.toList K
def r43_Floor_b0 (l : Option Addr) (lL : Nat) (lC : Nat) (key : Int) (h : Hp)  (K : Value → Hp → Prop) : Prop :=
  sx_1 Try.prog F 31 (cp [] (bodyOf Try.f47)) (ap [] r43_Floor_an) [(0, .slice l lL lC), (1, .int .i64 key)] h (r43_Floor_K0  K)
theorem r43_Floor_b0_eq (l : Option Addr) (lL : Nat) (lC : Nat) (key : Int) (h : Hp)  (K : Value → Hp → Prop) : r43_Floor_b0 l lL lC key h  K = (
  New h (.cells #[.int .i64 0, .int .i64 0] 40) fun b1 h1 =>
  HCalls Try.prog 35 #[.int .i64 key] h1 fun v1 h2 => ∃ r1 : Bool, v1 = .bool r1 ∧
  cond (!r1)
  (Wr h2 ⟨b1, 0, none⟩ (.int .i64 0) fun h3 =>
  Wr h3 ((⟨b1, 0, none⟩ : Addr).add 1) (.int .i64 0) fun h4 =>
  ∃ r2 : Int, ∃ r3 : Int, cell h4 ⟨b1, 0, none⟩ = some (.int .i64 r2) ∧
  cell h4 ((⟨b1, 0, none⟩ : Addr).add 1) = some (.int .i64 r3) ∧
  K (.tuple #[.agg #[.int .i64 r2, .int .i64 r3], .int .i64 1]) h4)
  (HCalls Try.prog 72 #[.slice l lL lC, .int .i64 key] h2 fun v2 h5 => ∃ r4 : Int, ∃ r5 : Bool, v2 = .tuple #[.int .i64 r4, .bool r5] ∧
  cond r5
  ((0 ≤ r4 ∧ r4 < (lL : Int)) ∧
  NN l fun a1 =>
  ∃ n1 : Int, ∃ n2 : Int, cell h5 (a1.add (Int.toNat r4 * 2)) = some (.int .i64 n1) ∧
  cell h5 ((a1.add (Int.toNat r4 * 2)).add 1) = some (.int .i64 n2) ∧
  Wr h5 ⟨b1, 0, none⟩ (.int .i64 n1) fun h6 =>
  Wr h6 ((⟨b1, 0, none⟩ : Addr).add 1) (.int .i64 n2) fun h7 =>
  ∃ r6 : Int, ∃ r7 : Int, cell h7 ⟨b1, 0, none⟩ = some (.int .i64 r6) ∧
  cell h7 ((⟨b1, 0, none⟩ : Addr).add 1) = some (.int .i64 r7) ∧
  K (.tuple #[.agg #[.int .i64 r6, .int .i64 r7], .int .i64 0]) h7)
  (cond (decide (r4 = 0))
  (Wr h5 ⟨b1, 0, none⟩ (.int .i64 0) fun h8 =>
  Wr h8 ((⟨b1, 0, none⟩ : Addr).add 1) (.int .i64 0) fun h9 =>
  ∃ r8 : Int, ∃ r9 : Int, cell h9 ⟨b1, 0, none⟩ = some (.int .i64 r8) ∧
  cell h9 ((⟨b1, 0, none⟩ : Addr).add 1) = some (.int .i64 r9) ∧
  K (.tuple #[.agg #[.int .i64 r8, .int .i64 r9], .int .i64 12]) h9)
  (InR (r4 - 1) ∧
  (0 ≤ r4 - 1 ∧ r4 - 1 < (lL : Int)) ∧
  NN l fun a2 =>
  ∃ n3 : Int, ∃ n4 : Int, cell h5 (a2.add (Int.toNat (r4 - 1) * 2)) = some (.int .i64 n3) ∧
  cell h5 ((a2.add (Int.toNat (r4 - 1) * 2)).add 1) = some (.int .i64 n4) ∧
  Wr h5 ⟨b1, 0, none⟩ (.int .i64 n3) fun h10 =>
  Wr h10 ((⟨b1, 0, none⟩ : Addr).add 1) (.int .i64 n4) fun h11 =>
  ∃ r10 : Int, ∃ r11 : Int, cell h11 ⟨b1, 0, none⟩ = some (.int .i64 r10) ∧
  cell h11 ((⟨b1, 0, none⟩ : Addr).add 1) = some (.int .i64 r11) ∧
  K (.tuple #[.agg #[.int .i64 r10, .int .i64 r11], .int .i64 0]) h11)))) := by kernel_rfl
theorem r43_Floor_call {l : Option Addr} {lL : Nat} {lC : Nat} {key : Int} {h : Hp} {K : Value → Hp → Prop} (hk : r43_Floor_b0 l lL lC key h K) : HCalls Try.prog 47 #[.slice l lL lC, .int .i64 key] h K :=
  calls_of_snd r43_Floor_an Try.func47 (c := bodyOf Try.f47) rfl Try.ntmps47 (Nat.le_of_ble_eq_true rfl) (snd_1 F_ok F_mixed) hk

/-! ### r43_Ceiling -/
def r43_Ceiling_an : Ann := .leaf
def r43_Ceiling_K0  (K : Value → Hp → Prop) : Exit → Env → Hp → Prop := retK Try.prog Try.f48.results.toList K
def r43_Ceiling_b0 (l : Option Addr) (lL : Nat) (lC : Nat) (key : Int) (h : Hp)  (K : Value → Hp → Prop) : Prop :=
  sx_1 Try.prog F 27 (cp [] (bodyOf Try.f48)) (ap [] r43_Ceiling_an) [(0, .slice l lL lC), (1, .int .i64 key)] h (r43_Ceiling_K0  K)
theorem r43_Ceiling_b0_eq (l : Option Addr) (lL : Nat) (lC : Nat) (key : Int) (h : Hp)  (K : Value → Hp → Prop) : r43_Ceiling_b0 l lL lC key h  K = (
  New h (.cells #[.int .i64 0, .int .i64 0] 40) fun b1 h1 =>
  HCalls Try.prog 35 #[.int .i64 key] h1 fun v1 h2 => ∃ r1 : Bool, v1 = .bool r1 ∧
  cond (!r1)
  (Wr h2 ⟨b1, 0, none⟩ (.int .i64 0) fun h3 =>
  Wr h3 ((⟨b1, 0, none⟩ : Addr).add 1) (.int .i64 0) fun h4 =>
  ∃ r2 : Int, ∃ r3 : Int, cell h4 ⟨b1, 0, none⟩ = some (.int .i64 r2) ∧
  cell h4 ((⟨b1, 0, none⟩ : Addr).add 1) = some (.int .i64 r3) ∧
  K (.tuple #[.agg #[.int .i64 r2, .int .i64 r3], .int .i64 1]) h4)
  (HCalls Try.prog 72 #[.slice l lL lC, .int .i64 key] h2 fun v2 h5 => ∃ r4 : Int, ∃ r5 : Bool, v2 = .tuple #[.int .i64 r4, .bool r5] ∧
  cond (decide (r4 = (lL : Int)))
  (Wr h5 ⟨b1, 0, none⟩ (.int .i64 0) fun h6 =>
  Wr h6 ((⟨b1, 0, none⟩ : Addr).add 1) (.int .i64 0) fun h7 =>
  ∃ r6 : Int, ∃ r7 : Int, cell h7 ⟨b1, 0, none⟩ = some (.int .i64 r6) ∧
  cell h7 ((⟨b1, 0, none⟩ : Addr).add 1) = some (.int .i64 r7) ∧
  K (.tuple #[.agg #[.int .i64 r6, .int .i64 r7], .int .i64 12]) h7)
  ((0 ≤ r4 ∧ r4 < (lL : Int)) ∧
  NN l fun a1 =>
  ∃ n1 : Int, ∃ n2 : Int, cell h5 (a1.add (Int.toNat r4 * 2)) = some (.int .i64 n1) ∧
  cell h5 ((a1.add (Int.toNat r4 * 2)).add 1) = some (.int .i64 n2) ∧
  Wr h5 ⟨b1, 0, none⟩ (.int .i64 n1) fun h8 =>
  Wr h8 ((⟨b1, 0, none⟩ : Addr).add 1) (.int .i64 n2) fun h9 =>
  ∃ r8 : Int, ∃ r9 : Int, cell h9 ⟨b1, 0, none⟩ = some (.int .i64 r8) ∧
  cell h9 ((⟨b1, 0, none⟩ : Addr).add 1) = some (.int .i64 r9) ∧
  K (.tuple #[.agg #[.int .i64 r8, .int .i64 r9], .int .i64 0]) h9))) := by kernel_rfl
theorem r43_Ceiling_call {l : Option Addr} {lL : Nat} {lC : Nat} {key : Int} {h : Hp} {K : Value → Hp → Prop} (hk : r43_Ceiling_b0 l lL lC key h K) : HCalls Try.prog 48 #[.slice l lL lC, .int .i64 key] h K :=
  calls_of_snd r43_Ceiling_an Try.func48 (c := bodyOf Try.f48) rfl Try.ntmps48 (Nat.le_of_ble_eq_true rfl) (snd_1 F_ok F_mixed) hk

/-! ### r43_Scan -/
def r43_Scan_an : Ann := .node none (.leaf) (.node (some [0, 1, 2]) (.leaf) (.node none (.leaf) (.node (some [8]) (.node none (.leaf) (.loop [0, 1, 2] [(8, .slice), (9, .int .i64)] (.node none (.leaf) (.node (some [0, 1, 2, 8, 9]) (.leaf) (.leaf))))) (.leaf))))
def r43_Scan_K0  (K : Value → Hp → Prop) : Exit → Env → Hp → Prop := retK Try.prog Try.f49.results.toList K
def r43_Scan_K1  (K : Value → Hp → Prop) : Exit → Env → Hp → Prop := thenE (fun env h => sx_2 Try.prog F 51 (cp [1, 1, 1, 1] (bodyOf Try.f49)) (ap [1, 1, 1, 1] r43_Scan_an) (rs [8] env) h (r43_Scan_K0  K)) (r43_Scan_K0  K)
def r43_Scan_K2  (K : Value → Hp → Prop) : Exit → Env → Hp → Prop := blockE 0 (r43_Scan_K1  K)
def r43_Scan_K3 (nx0 : (Option Addr × Nat × Nat) × Int × Unit → Hp → Prop) (K : Value → Hp → Prop) : Exit → Env → Hp → Prop := thenE (fun env h => getV [(8, .slice), (9, .int .i64)] env fun s => nx0 s h) (r43_Scan_K2  K)
def r43_Scan_b0 (l : Option Addr) (lL : Nat) (lC : Nat) (fromv : Int) (to : Int) (h : Hp)  (K : Value → Hp → Prop) : Prop :=
  sx_4 Try.prog F 51 (cp [] (bodyOf Try.f49)) (ap [] r43_Scan_an) [(0, .slice l lL lC), (1, .int .i64 fromv), (2, .int .i64 to)] h (r43_Scan_K0  K)
def r43_Scan_b1 (l : Option Addr) (lL : Nat) (lC : Nat) (fromv : Int) (to : Int) (h : Hp)  (K : Value → Hp → Prop) : Prop :=
  sx_3 Try.prog F 51 (cp [1, 1] (bodyOf Try.f49)) (ap [1, 1] r43_Scan_an) [(0, .slice l lL lC), (1, .int .i64 fromv), (2, .int .i64 to)] h (r43_Scan_K0  K)
def r43_Scan_b2 (out : Option Addr) (outL : Nat) (outC : Nat) (i : Int) (l : Option Addr) (lL : Nat) (lC : Nat) (fromv : Int) (to : Int) (h : Hp) (nx0 : (Option Addr × Nat × Nat) × Int × Unit → Hp → Prop) (K : Value → Hp → Prop) : Prop :=
  sx_2 Try.prog F 51 (cp [1, 1, 1, 0, 1, 2, 2] (bodyOf Try.f49)) (ap [1, 1, 1, 0, 1, 2] r43_Scan_an) [(8, .slice out outL outC), (9, .int .i64 i), (0, .slice l lL lC), (1, .int .i64 fromv), (2, .int .i64 to)] h (r43_Scan_K3 nx0 K)
def r43_Scan_b3 (l : Option Addr) (lL : Nat) (lC : Nat) (fromv : Int) (to : Int) (out : Option Addr) (outL : Nat) (outC : Nat) (i : Int) (h : Hp) (nx0 : (Option Addr × Nat × Nat) × Int × Unit → Hp → Prop) (K : Value → Hp → Prop) : Prop :=
  sx_1 Try.prog F 51 (cp [1, 1, 1, 0, 1, 2, 2, 1, 1] (bodyOf Try.f49)) (ap [1, 1, 1, 0, 1, 2, 1, 1] r43_Scan_an) [(0, .slice l lL lC), (1, .int .i64 fromv), (2, .int .i64 to), (8, .slice out outL outC), (9, .int .i64 i)] h (r43_Scan_K3 nx0 K)
def r43_Scan_b4 (out : Option Addr) (outL : Nat) (outC : Nat) (h : Hp)  (K : Value → Hp → Prop) : Prop :=
  sx_2 Try.prog F 51 (cp [1, 1, 1, 1] (bodyOf Try.f49)) (ap [1, 1, 1, 1] r43_Scan_an) [(8, .slice out outL outC)] h (r43_Scan_K0  K)
theorem r43_Scan_b0_eq (l : Option Addr) (lL : Nat) (lC : Nat) (fromv : Int) (to : Int) (h : Hp)  (K : Value → Hp → Prop) : r43_Scan_b0 l lL lC fromv to h  K = (
  HCalls Try.prog 35 #[.int .i64 fromv] h fun v1 h1 => ∃ r1 : Bool, v1 = .bool r1 ∧
  cond (!r1)
  (K (.tuple #[.slice none 0 0, .int .i64 1]) h1)
  (HCalls Try.prog 35 #[.int .i64 to] h1 fun v2 h2 => ∃ r2 : Bool, v2 = .bool r2 ∧
  cond (!r2)
  (K (.tuple #[.slice none 0 0, .int .i64 1]) h2)
  (r43_Scan_b1 l lL lC fromv to h2  K))) := by kernel_rfl
theorem r43_Scan_b1_eq (l : Option Addr) (lL : Nat) (lC : Nat) (fromv : Int) (to : Int) (h : Hp)  (K : Value → Hp → Prop) : r43_Scan_b1 l lL lC fromv to h  K = (
  LoopVC (((none, 0, 0), 0, ()) : (Option Addr × Nat × Nat) × Int × Unit) h (fun (nx0 : (Option Addr × Nat × Nat) × Int × Unit → Hp → Prop) (s1 : (Option Addr × Nat × Nat) × Int × Unit) h3 => r43_Scan_b2 s1.1.1 s1.1.2.1 s1.1.2.2 s1.2.1 l lL lC fromv to h3 nx0 K)) := by kernel_rfl
theorem r43_Scan_b2_eq (out : Option Addr) (outL : Nat) (outC : Nat) (i : Int) (l : Option Addr) (lL : Nat) (lC : Nat) (fromv : Int) (to : Int) (h : Hp) (nx0 : (Option Addr × Nat × Nat) × Int × Unit → Hp → Prop) (K : Value → Hp → Prop) : r43_Scan_b2 out outL outC i l lL lC fromv to h nx0 K = (
  cond (decide (i < (lL : Int)))
  ((0 ≤ i ∧ i < (lL : Int)) ∧
  NN l fun a1 =>
  (0 ≤ (0 : Int) ∧ (0 : Int) < ((2 : Nat) : Int)) ∧
  ∃ n1 : Int, cell h ((a1.add (Int.toNat i * 2)).add (Int.toNat (0 : Int) * 1)) = some (.int .i64 n1) ∧
  cond (decide (fromv ≤ n1))
  ((0 ≤ i ∧ i < (lL : Int)) ∧
  NN l fun a2 =>
  (0 ≤ (0 : Int) ∧ (0 : Int) < ((2 : Nat) : Int)) ∧
  ∃ n2 : Int, cell h ((a2.add (Int.toNat i * 2)).add (Int.toNat (0 : Int) * 1)) = some (.int .i64 n2) ∧
  cond (decide (n2 < to))
  ((0 ≤ i ∧ i < (lL : Int)) ∧
  NN l fun a3 =>
  ∃ n3 : Int, ∃ n4 : Int, cell h (a3.add (Int.toNat i * 2)) = some (.int .i64 n3) ∧
  cell h ((a3.add (Int.toNat i * 2)).add 1) = some (.int .i64 n4) ∧
  New h (.cells #[.int .i64 n3, .int .i64 n4] 40) fun b1 h4 =>
  appendV Try.prog 22 22 (.slice out outL outC) (.slice (some ⟨b1, 0, none⟩) 1 1) h4 (slK fun a4 l1 c1 h5 =>
  r43_Scan_b3 l lL lC fromv to a4 l1 c1 i h5 nx0 K))
  (r43_Scan_b3 l lL lC fromv to out outL outC i h nx0 K))
  (r43_Scan_b3 l lL lC fromv to out outL outC i h nx0 K))
  (r43_Scan_b4 out outL outC h  K)) := by kernel_rfl
theorem r43_Scan_b3_eq (l : Option Addr) (lL : Nat) (lC : Nat) (fromv : Int) (to : Int) (out : Option Addr) (outL : Nat) (outC : Nat) (i : Int) (h : Hp) (nx0 : (Option Addr × Nat × Nat) × Int × Unit → Hp → Prop) (K : Value → Hp → Prop) : r43_Scan_b3 l lL lC fromv to out outL outC i h nx0 K = (
  InR (i + 1) ∧
  nx0 ((out, outL, outC), i + 1, ()) h) := by kernel_rfl
theorem r43_Scan_b4_eq (out : Option Addr) (outL : Nat) (outC : Nat) (h : Hp)  (K : Value → Hp → Prop) : r43_Scan_b4 out outL outC h  K = (
  cond (decide ((1000 : Int) < (outL : Int)))
  (K (.tuple #[.slice none 0 0, .int .i64 4]) h)
  (K (.tuple #[.slice out outL outC, .int .i64 0]) h)) := by kernel_rfl
theorem r43_Scan_call {l : Option Addr} {lL : Nat} {lC : Nat} {fromv : Int} {to : Int} {h : Hp} {K : Value → Hp → Prop} (hk : r43_Scan_b0 l lL lC fromv to h K) : HCalls Try.prog 49 #[.slice l lL lC, .int .i64 fromv, .int .i64 to] h K :=
  calls_of_snd r43_Scan_an Try.func49 (c := bodyOf Try.f49) rfl Try.ntmps49 (Nat.le_of_ble_eq_true rfl) (snd_4 F_ok F_mixed) hk

/-! ### slices_IndexFunc_Sapi_Op_api_Op -/
def slices_IndexFunc_Sapi_Op_api_Op_an : Ann := .node none (.leaf) (.node (some []) (.node none (.leaf) (.loop [0, 1, 7] [(8, .int .i64)] (.node none (.leaf) (.node none (.leaf) (.node (some [0, 1, 7, 8]) (.leaf) (.leaf)))))) (.leaf))
def slices_IndexFunc_Sapi_Op_api_Op_K0  (K : Value → Hp → Prop) : Exit → Env → Hp → Prop := retK Try.prog Try.f50.results.toList K
def slices_IndexFunc_Sapi_Op_api_Op_K1  (K : Value → Hp → Prop) : Exit → Env → Hp → Prop := thenE (fun env h => sx_2 Try.prog F 19 (cp [1, 1] (bodyOf Try.f50)) (ap [1, 1] slices_IndexFunc_Sapi_Op_api_Op_an) (rs [] env) h (slices_IndexFunc_Sapi_Op_api_Op_K0  K)) (slices_IndexFunc_Sapi_Op_api_Op_K0  K)
def slices_IndexFunc_Sapi_Op_api_Op_K2  (K : Value → Hp → Prop) : Exit → Env → Hp → Prop := blockE 0 (slices_IndexFunc_Sapi_Op_api_Op_K1  K)
def slices_IndexFunc_Sapi_Op_api_Op_K3 (nx0 : Int × Unit → Hp → Prop) (K : Value → Hp → Prop) : Exit → Env → Hp → Prop := thenE (fun env h => getV [(8, .int .i64)] env fun s => nx0 s h) (slices_IndexFunc_Sapi_Op_api_Op_K2  K)
def slices_IndexFunc_Sapi_Op_api_Op_b0 (s : Option Addr) (sL : Nat) (sC : Nat) (f : Value) (h : Hp)  (K : Value → Hp → Prop) : Prop :=
  sx_3 Try.prog F 19 (cp [] (bodyOf Try.f50)) (ap [] slices_IndexFunc_Sapi_Op_api_Op_an) [(0, .slice s sL sC), (1, f)] h (slices_IndexFunc_Sapi_Op_api_Op_K0  K)
def slices_IndexFunc_Sapi_Op_api_Op_b1 (t8 : Int) (s : Option Addr) (sL : Nat) (sC : Nat) (f : Value) (t7 : Int) (h : Hp) (nx0 : Int × Unit → Hp → Prop) (K : Value → Hp → Prop) : Prop :=
  sx_2 Try.prog F 19 (cp [1, 0, 1, 2, 2] (bodyOf Try.f50)) (ap [1, 0, 1, 2] slices_IndexFunc_Sapi_Op_api_Op_an) [(8, .int .i64 t8), (0, .slice s sL sC), (1, f), (7, .int .i64 t7)] h (slices_IndexFunc_Sapi_Op_api_Op_K3 nx0 K)
def slices_IndexFunc_Sapi_Op_api_Op_b2 (s : Option Addr) (sL : Nat) (sC : Nat) (f : Value) (t7 : Int) (t8 : Int) (h : Hp) (nx0 : Int × Unit → Hp → Prop) (K : Value → Hp → Prop) : Prop :=
  sx_1 Try.prog F 19 (cp [1, 0, 1, 2, 2, 1, 1, 1] (bodyOf Try.f50)) (ap [1, 0, 1, 2, 1, 1, 1] slices_IndexFunc_Sapi_Op_api_Op_an) [(0, .slice s sL sC), (1, f), (7, .int .i64 t7), (8, .int .i64 t8)] h (slices_IndexFunc_Sapi_Op_api_Op_K3 nx0 K)
def slices_IndexFunc_Sapi_Op_api_Op_b3  (h : Hp)  (K : Value → Hp → Prop) : Prop :=
  sx_2 Try.prog F 19 (cp [1, 1] (bodyOf Try.f50)) (ap [1, 1] slices_IndexFunc_Sapi_Op_api_Op_an) [] h (slices_IndexFunc_Sapi_Op_api_Op_K0  K)
theorem slices_IndexFunc_Sapi_Op_api_Op_b0_eq (s : Option Addr) (sL : Nat) (sC : Nat) (f : Value) (h : Hp)  (K : Value → Hp → Prop) : slices_IndexFunc_Sapi_Op_api_Op_b0 s sL sC f h  K = (
  LoopVC ((0, ()) : Int × Unit) h (fun (nx0 : Int × Unit → Hp → Prop) (s1 : Int × Unit) h1 => slices_IndexFunc_Sapi_Op_api_Op_b1 s1.1 s sL sC f (sL : Int) h1 nx0 K)) := by kernel_rfl
theorem slices_IndexFunc_Sapi_Op_api_Op_b1_eq (t8 : Int) (s : Option Addr) (sL : Nat) (sC : Nat) (f : Value) (t7 : Int) (h : Hp) (nx0 : Int × Unit → Hp → Prop) (K : Value → Hp → Prop) : slices_IndexFunc_Sapi_Op_api_Op_b1 t8 s sL sC f t7 h nx0 K = (
  cond (decide (t8 < t7))
  ((0 ≤ t8 ∧ t8 < (sL : Int)) ∧
  NN s fun a1 =>
  ∃ n1 : Int, ∃ (a2 : Option Addr) (L1 C1 : Nat), cell h (a1.add (Int.toNat t8 * 2)) = some (.int .i64 n1) ∧
  cell h ((a1.add (Int.toNat t8 * 2)).add 1) = some (.slice a2 L1 C1) ∧
  funV f fun fg1 fa1 fc1 => callX Try.prog F fg1 (fa1 ++ (([.agg #[.int .i64 n1, .slice a2 L1 C1]] : List Value) ++ fc1)).toArray h fun v1 h2 => ∃ r1 : Bool, v1 = .bool r1 ∧
  cond r1
  (K (.int .i64 t8) h2)
  (slices_IndexFunc_Sapi_Op_api_Op_b2 s sL sC f t7 t8 h2 nx0 K))
  (slices_IndexFunc_Sapi_Op_api_Op_b3  h  K)) := by kernel_rfl
theorem slices_IndexFunc_Sapi_Op_api_Op_b2_eq (s : Option Addr) (sL : Nat) (sC : Nat) (f : Value) (t7 : Int) (t8 : Int) (h : Hp) (nx0 : Int × Unit → Hp → Prop) (K : Value → Hp → Prop) : slices_IndexFunc_Sapi_Op_api_Op_b2 s sL sC f t7 t8 h nx0 K = (
  InR (t8 + 1) ∧
  nx0 (t8 + 1, ()) h) := by kernel_rfl
theorem slices_IndexFunc_Sapi_Op_api_Op_b3_eq  (h : Hp)  (K : Value → Hp → Prop) : slices_IndexFunc_Sapi_Op_api_Op_b3  h  K = (
  K (.int .i64 (-1)) h) := by kernel_rfl
theorem slices_IndexFunc_Sapi_Op_api_Op_call {s : Option Addr} {sL : Nat} {sC : Nat} {f : Value} {h : Hp} {K : Value → Hp → Prop} (hk : slices_IndexFunc_Sapi_Op_api_Op_b0 s sL sC f h K) : HCalls Try.prog 50 #[.slice s sL sC, f] h K :=
  calls_of_snd slices_IndexFunc_Sapi_Op_api_Op_an Try.func50 (c := bodyOf Try.f50) rfl Try.ntmps50 (Nat.le_of_ble_eq_true rfl) (snd_3 F_ok F_mixed) hk

/-! ### model_ValidOp -/
def model_ValidOp_an : Ann := .node none (.leaf) (.node none (.leaf) (.node (some [3, 5]) (.leaf) (.leaf)))
def model_ValidOp_K0  (K : Value → Hp → Prop) : Exit → Env → Hp → Prop := retK Try.prog Try.f51.results.toList K
def model_ValidOp_b0 (kind : Int) (o_0 : Int) (o_1 : Option Addr) (o_1L : Nat) (o_1C : Nat) (h : Hp)  (K : Value → Hp → Prop) : Prop :=
  sx_2 Try.prog F 56 (cp [] (bodyOf Try.f51)) (ap [] model_ValidOp_an) [(0, .int .i64 kind), (1, .agg #[.int .i64 o_0, .slice o_1 o_1L o_1C])] h (model_ValidOp_K0  K)
def model_ValidOp_b1 (o : Option Addr) (l : Option Addr) (lL : Nat) (lC : Nat) (h : Hp)  (K : Value → Hp → Prop) : Prop :=
  sx_1 Try.prog F 56 (cp [1, 1, 1] (bodyOf Try.f51)) (ap [1, 1, 1] model_ValidOp_an) [(3, .pointer o), (5, .slice l lL lC)] h (model_ValidOp_K0  K)
theorem model_ValidOp_b0_eq (kind : Int) (o_0 : Int) (o_1 : Option Addr) (o_1L : Nat) (o_1C : Nat) (h : Hp)  (K : Value → Hp → Prop) : model_ValidOp_b0 kind o_0 o_1 o_1L o_1C h  K = (
  New h (.cells #[.int .i64 o_0, .slice o_1 o_1L o_1C] 58) fun b1 h1 =>
  HCalls Try.prog 73 #[.int .i64 kind] h1 fun v1 h2 => ∃ (r1 : Option Addr) (rL1 rC1 : Nat), v1 = .slice r1 rL1 rC1 ∧
  ∃ n1 : Int, cell h2 ⟨b1, 0, none⟩ = some (.int .i64 n1) ∧
  cond (decide (n1 < 1))
  (K (.bool false) h2)
  (∃ n2 : Int, cell h2 ⟨b1, 0, none⟩ = some (.int .i64 n2) ∧
  cond (decide ((rL1 : Int) < n2))
  (K (.bool false) h2)
  (model_ValidOp_b1 (some ⟨b1, 0, none⟩) r1 rL1 rC1 h2  K))) := by kernel_rfl
theorem model_ValidOp_b1_eq (o : Option Addr) (l : Option Addr) (lL : Nat) (lC : Nat) (h : Hp)  (K : Value → Hp → Prop) : model_ValidOp_b1 o l lL lC h  K = (
  NN o fun a1 =>
  ∃ n3 : Int, cell h a1 = some (.int .i64 n3) ∧
  InR (n3 - 1) ∧
  (0 ≤ n3 - 1 ∧ n3 - 1 < (lL : Int)) ∧
  NN l fun a2 =>
  ∃ s1 : ByteArray, ∃ n4 : Int, ∃ b2 : Bool, cell h (a2.add (Int.toNat (n3 - 1) * 3)) = some (.string s1) ∧
  cell h ((a2.add (Int.toNat (n3 - 1) * 3)).add 1) = some (.int .i64 n4) ∧
  cell h ((a2.add (Int.toNat (n3 - 1) * 3)).add 2) = some (.bool b2) ∧
  New h (.cells #[.string (⟨#[]⟩ : ByteArray), .int .i64 0, .bool false] 128) fun b3 h3 =>
  Wr h3 ⟨b3, 0, none⟩ (.string s1) fun h4 =>
  Wr h4 ((⟨b3, 0, none⟩ : Addr).add 1) (.int .i64 n4) fun h5 =>
  Wr h5 ((⟨b3, 0, none⟩ : Addr).add 2) (.bool b2) fun h6 =>
  ∃ n5 : Int, cell h6 ((⟨b3, 0, none⟩ : Addr).add 1) = some (.int .i64 n5) ∧
  cond (decide (n5 < 0))
  (NN o fun a3 =>
  ∃ (a4 : Option Addr) (L1 C1 : Nat), cell h6 (a3.add 1) = some (.slice a4 L1 C1) ∧
  cond (decide ((1 : Int) ≤ (L1 : Int)))
  (NN o fun a5 =>
  ∃ (a6 : Option Addr) (L2 C2 : Nat), cell h6 (a5.add 1) = some (.slice a6 L2 C2) ∧
  cond (decide ((L2 : Int) ≤ 64))
  (NN o fun a7 =>
  ∃ (a8 : Option Addr) (L3 C3 : Nat), cell h6 (a7.add 1) = some (.slice a8 L3 C3) ∧
  HCalls Try.prog 61 #[.slice a8 L3 C3, .func (.func 74) #[] #[]] h6 fun v2 h7 => ∃ r2 : Bool, v2 = .bool r2 ∧
  K (.bool (!r2)) h7)
  (K (.bool false) h6))
  (K (.bool false) h6))
  (NN o fun a9 =>
  ∃ (a10 : Option Addr) (L4 C4 : Nat), cell h6 (a9.add 1) = some (.slice a10 L4 C4) ∧
  ∃ n6 : Int, cell h6 ((⟨b3, 0, none⟩ : Addr).add 1) = some (.int .i64 n6) ∧
  cond (decide ((L4 : Int) = n6))
  (NN o fun a11 =>
  ∃ (a12 : Option Addr) (L5 C5 : Nat), cell h6 (a11.add 1) = some (.slice a12 L5 C5) ∧
  HCalls Try.prog 61 #[.slice a12 L5 C5, .func (.func 76) #[] #[]] h6 fun v3 h8 => ∃ r3 : Bool, v3 = .bool r3 ∧
  K (.bool (!r3)) h8)
  (K (.bool false) h6))) := by kernel_rfl
theorem model_ValidOp_call {kind : Int} {o_0 : Int} {o_1 : Option Addr} {o_1L : Nat} {o_1C : Nat} {h : Hp} {K : Value → Hp → Prop} (hk : model_ValidOp_b0 kind o_0 o_1 o_1L o_1C h K) : HCalls Try.prog 51 #[.int .i64 kind, .agg #[.int .i64 o_0, .slice o_1 o_1L o_1C]] h K :=
  calls_of_snd model_ValidOp_an Try.func51 (c := bodyOf Try.f51) rfl Try.ntmps51 (Nat.le_of_ble_eq_true rfl) (snd_2 F_ok F_mixed) hk

/-! ### btree_Tree_Do_c1 -/
def btree_Tree_Do_c1_an : Ann := .node none (.leaf) (.node (some [0, 2]) (.leaf) (.leaf))
def btree_Tree_Do_c1_K0  (K : Value → Hp → Prop) : Exit → Env → Hp → Prop := retK Try.prog Try.f52.results.toList K
def btree_Tree_Do_c1_b0 (k : Int) (t1 : Int) (t2 : Option Addr) (t3 : Option Addr) (h : Hp)  (K : Value → Hp → Prop) : Prop :=
  sx_2 Try.prog F 21 (cp [] (bodyOf Try.f52)) (ap [] btree_Tree_Do_c1_an) [(0, .int .i64 k), (1, .int .i64 t1), (2, .pointer t2), (3, .pointer t3)] h (btree_Tree_Do_c1_K0  K)
def btree_Tree_Do_c1_b1 (k : Int) (t2 : Option Addr) (h : Hp)  (K : Value → Hp → Prop) : Prop :=
  sx_1 Try.prog F 21 (cp [1, 1] (bodyOf Try.f52)) (ap [1, 1] btree_Tree_Do_c1_an) [(0, .int .i64 k), (2, .pointer t2)] h (btree_Tree_Do_c1_K0  K)
theorem btree_Tree_Do_c1_b0_eq (k : Int) (t1 : Int) (t2 : Option Addr) (t3 : Option Addr) (h : Hp)  (K : Value → Hp → Prop) : btree_Tree_Do_c1_b0 k t1 t2 t3 h  K = (
  NN t2 fun a1 =>
  ∃ (a2 : Option Addr) (L1 C1 : Nat), cell h (a1.add 1) = some (.slice a2 L1 C1) ∧
  (0 ≤ (0 : Int) ∧ (0 : Int) < (L1 : Int)) ∧
  NN a2 fun a3 =>
  ∃ n1 : Int, cell h (a3.add (Int.toNat (0 : Int) * 1)) = some (.int .i64 n1) ∧
  cond (decide (k < n1))
  (NN t3 fun a4 =>
  ∃ n2 : Int, cell h a4 = some (.int .i64 n2) ∧
  InR (n2 + 1) ∧
  NN t3 fun a5 =>
  Wr h a5 (.int .i64 (n2 + 1)) fun h1 =>
  btree_Tree_Do_c1_b1 k t2 h1  K)
  (btree_Tree_Do_c1_b1 k t2 h  K)) := by kernel_rfl
theorem btree_Tree_Do_c1_b1_eq (k : Int) (t2 : Option Addr) (h : Hp)  (K : Value → Hp → Prop) : btree_Tree_Do_c1_b1 k t2 h  K = (
  NN t2 fun a6 =>
  ∃ (a7 : Option Addr) (L2 C2 : Nat), cell h (a6.add 1) = some (.slice a7 L2 C2) ∧
  (0 ≤ (0 : Int) ∧ (0 : Int) < (L2 : Int)) ∧
  NN a7 fun a8 =>
  ∃ n3 : Int, cell h (a8.add (Int.toNat (0 : Int) * 1)) = some (.int .i64 n3) ∧
  K (.bool (decide (k < n3))) h) := by kernel_rfl
theorem btree_Tree_Do_c1_call {k : Int} {t1 : Int} {t2 : Option Addr} {t3 : Option Addr} {h : Hp} {K : Value → Hp → Prop} (hk : btree_Tree_Do_c1_b0 k t1 t2 t3 h K) : HCalls Try.prog 52 #[.int .i64 k, .int .i64 t1, .pointer t2, .pointer t3] h K :=
  calls_of_snd btree_Tree_Do_c1_an Try.func52 (c := bodyOf Try.f52) rfl Try.ntmps52 (Nat.le_of_ble_eq_true rfl) (snd_2 F_ok F_mixed) hk

/-! ### btree_Tree_at -/
def btree_Tree_at_an : Ann := .node none (.leaf) (.node (some [0, 3]) (.leaf) (.leaf))
def btree_Tree_at_K0  (K : Value → Hp → Prop) : Exit → Env → Hp → Prop := retK Try.prog Try.f53.results.toList K
def btree_Tree_at_b0 (t : Option Addr) (i : Int) (h : Hp)  (K : Value → Hp → Prop) : Prop :=
  sx_2 Try.prog F 24 (cp [] (bodyOf Try.f53)) (ap [] btree_Tree_at_an) [(0, .pointer t), (1, .int .i64 i)] h (btree_Tree_at_K0  K)
def btree_Tree_at_b1 (t : Option Addr) (i : Option Addr) (h : Hp)  (K : Value → Hp → Prop) : Prop :=
  sx_1 Try.prog F 24 (cp [1, 1] (bodyOf Try.f53)) (ap [1, 1] btree_Tree_at_an) [(0, .pointer t), (3, .pointer i)] h (btree_Tree_at_K0  K)
theorem btree_Tree_at_b0_eq (t : Option Addr) (i : Int) (h : Hp)  (K : Value → Hp → Prop) : btree_Tree_at_b0 t i h  K = (
  New h (.cells #[.int .i64 i] 3) fun b1 h1 =>
  ∃ n1 : Int, cell h1 ⟨b1, 0, none⟩ = some (.int .i64 n1) ∧
  cond (decide (n1 < 0))
  (K (.tuple #[.int .i64 0, .int .i64 2]) h1)
  (∃ n2 : Int, cell h1 ⟨b1, 0, none⟩ = some (.int .i64 n2) ∧
  NN t fun a1 =>
  ∃ n3 : Int, cell h1 (a1.add 1) = some (.int .i64 n3) ∧
  cond (decide (n3 ≤ n2))
  (K (.tuple #[.int .i64 0, .int .i64 2]) h1)
  (btree_Tree_at_b1 t (some ⟨b1, 0, none⟩) h1  K))) := by kernel_rfl
theorem btree_Tree_at_b1_eq (t : Option Addr) (i : Option Addr) (h : Hp)  (K : Value → Hp → Prop) : btree_Tree_at_b1 t i h  K = (
  New h (.cells #[.int .i64 0] 3) fun b2 h2 =>
  Wr h2 ⟨b2, 0, none⟩ (.int .i64 0) fun h3 =>
  NN t fun a2 =>
  ∃ p1 : Option Addr, cell h3 (a2.add 2) = some (.pointer p1) ∧
  HCalls Try.prog 36 #[.pointer p1, .func (.func 78) #[] #[.pointer (some ⟨b2, 0, none⟩), .pointer i]] h3 fun v1 h4 => ∃ r1 : Bool, v1 = .bool r1 ∧
  ∃ n4 : Int, cell h4 ⟨b2, 0, none⟩ = some (.int .i64 n4) ∧
  K (.tuple #[.int .i64 n4, .int .i64 0]) h4) := by kernel_rfl
theorem btree_Tree_at_call {t : Option Addr} {i : Int} {h : Hp} {K : Value → Hp → Prop} (hk : btree_Tree_at_b0 t i h K) : HCalls Try.prog 53 #[.pointer t, .int .i64 i] h K :=
  calls_of_snd btree_Tree_at_an Try.func53 (c := bodyOf Try.f53) rfl Try.ntmps53 (Nat.le_of_ble_eq_true rfl) (snd_2 F_ok F_mixed) hk

/-! ### r03_Words -/
def r03_Words_an : Ann := .node none (.leaf) (.node (some []) (.leaf) (.leaf))
def r03_Words_K0  (K : Value → Hp → Prop) : Exit → Env → Hp → Prop := retK Try.prog Try.f54.results.toList K
def r03_Words_b0 (kind : Int) (h : Hp)  (K : Value → Hp → Prop) : Prop :=
  sx_2 Try.prog F 22 (cp [] (bodyOf Try.f54)) (ap [] r03_Words_an) [(0, .int .i64 kind)] h (r03_Words_K0  K)
def r03_Words_b1  (h : Hp)  (K : Value → Hp → Prop) : Prop :=
  sx_1 Try.prog F 22 (cp [1, 1] (bodyOf Try.f54)) (ap [1, 1] r03_Words_an) [] h (r03_Words_K0  K)
theorem r03_Words_b0_eq (kind : Int) (h : Hp)  (K : Value → Hp → Prop) : r03_Words_b0 kind h  K = (
  cond (decide (kind = 1))
  (New h (.cells #[.string (⟨#[112, 117, 116]⟩ : ByteArray), .string (⟨#[103, 101, 116]⟩ : ByteArray), .string (⟨#[114, 101, 109, 111, 118, 101]⟩ : ByteArray), .string (⟨#[102, 108, 111, 111, 114]⟩ : ByteArray), .string (⟨#[99, 101, 105, 108, 105, 110, 103]⟩ : ByteArray), .string (⟨#[114, 97, 110, 107]⟩ : ByteArray), .string (⟨#[115, 101, 108, 101, 99, 116]⟩ : ByteArray), .string (⟨#[115, 105, 122, 101]⟩ : ByteArray)] 9) fun b1 h1 =>
  K (.slice (some ⟨b1, 0, none⟩) 8 8) h1)
  (cond (decide (kind = 2))
  (New h (.cells #[.string (⟨#[105, 110, 115, 101, 114, 116]⟩ : ByteArray), .string (⟨#[109, 105, 110]⟩ : ByteArray), .string (⟨#[100, 101, 108, 101, 116, 101, 109, 105, 110]⟩ : ByteArray), .string (⟨#[115, 105, 122, 101]⟩ : ByteArray)] 9) fun b2 h2 =>
  K (.slice (some ⟨b2, 0, none⟩) 4 4) h2)
  (cond (decide (kind = 3))
  (New h (.cells #[.string (⟨#[105, 110, 115, 101, 114, 116]⟩ : ByteArray), .string (⟨#[114, 101, 109, 111, 118, 101]⟩ : ByteArray), .string (⟨#[103, 101, 116]⟩ : ByteArray), .string (⟨#[115, 101, 116]⟩ : ByteArray), .string (⟨#[115, 117, 109]⟩ : ByteArray), .string (⟨#[114, 101, 118, 101, 114, 115, 101]⟩ : ByteArray), .string (⟨#[115, 105, 122, 101]⟩ : ByteArray)] 9) fun b3 h3 =>
  K (.slice (some ⟨b3, 0, none⟩) 7 7) h3)
  (cond (decide (kind = 4))
  (New h (.cells #[.string (⟨#[109, 97, 107, 101]⟩ : ByteArray), .string (⟨#[117, 110, 105, 111, 110]⟩ : ByteArray), .string (⟨#[115, 97, 109, 101]⟩ : ByteArray), .string (⟨#[115, 105, 122, 101]⟩ : ByteArray), .string (⟨#[99, 111, 117, 110, 116]⟩ : ByteArray)] 9) fun b4 h4 =>
  K (.slice (some ⟨b4, 0, none⟩) 5 5) h4)
  (cond (decide (kind = 5))
  (New h (.cells #[.string (⟨#[97, 100, 100]⟩ : ByteArray), .string (⟨#[114, 101, 109, 111, 118, 101]⟩ : ByteArray), .string (⟨#[99, 111, 117, 110, 116]⟩ : ByteArray), .string (⟨#[115, 117, 109]⟩ : ByteArray), .string (⟨#[115, 105, 122, 101]⟩ : ByteArray)] 9) fun b5 h5 =>
  K (.slice (some ⟨b5, 0, none⟩) 5 5) h5)
  (cond (decide (kind = 6))
  (New h (.cells #[.string (⟨#[97, 112, 112, 101, 110, 100]⟩ : ByteArray), .string (⟨#[99, 111, 117, 110, 116]⟩ : ByteArray), .string (⟨#[102, 105, 110, 100]⟩ : ByteArray), .string (⟨#[115, 105, 122, 101]⟩ : ByteArray)] 9) fun b6 h6 =>
  K (.slice (some ⟨b6, 0, none⟩) 4 4) h6)
  (r03_Words_b1  h  K))))))) := by kernel_rfl
theorem r03_Words_b1_eq  (h : Hp)  (K : Value → Hp → Prop) : r03_Words_b1  h  K = (
  K (.slice none 0 0) h) := by kernel_rfl
theorem r03_Words_call {kind : Int} {h : Hp} {K : Value → Hp → Prop} (hk : r03_Words_b0 kind h K) : HCalls Try.prog 54 #[.int .i64 kind] h K :=
  calls_of_snd r03_Words_an Try.func54 (c := bodyOf Try.f54) rfl Try.ntmps54 (Nat.le_of_ble_eq_true rfl) (snd_2 F_ok F_mixed) hk

/-! ### r03_Arity -/
def r03_Arity_an : Ann := .node none (.leaf) (.node (some [1]) (.leaf) (.leaf))
def r03_Arity_K0  (K : Value → Hp → Prop) : Exit → Env → Hp → Prop := retK Try.prog Try.f55.results.toList K
def r03_Arity_b0 (kind : Int) (code : Int) (h : Hp)  (K : Value → Hp → Prop) : Prop :=
  sx_2 Try.prog F 46 (cp [] (bodyOf Try.f55)) (ap [] r03_Arity_an) [(0, .int .i64 kind), (1, .int .i64 code)] h (r03_Arity_K0  K)
def r03_Arity_b1 (code : Int) (h : Hp)  (K : Value → Hp → Prop) : Prop :=
  sx_1 Try.prog F 46 (cp [1, 1] (bodyOf Try.f55)) (ap [1, 1] r03_Arity_an) [(1, .int .i64 code)] h (r03_Arity_K0  K)
theorem r03_Arity_b0_eq (kind : Int) (code : Int) (h : Hp)  (K : Value → Hp → Prop) : r03_Arity_b0 kind code h  K = (
  cond (decide (kind = 1))
  (New h (.cells #[.int .i64 2, .int .i64 1, .int .i64 1, .int .i64 1, .int .i64 1, .int .i64 1, .int .i64 1, .int .i64 0] 3) fun b1 h1 =>
  InR (code - 1) ∧
  (0 ≤ code - 1 ∧ code - 1 < ((8 : Nat) : Int)) ∧
  ∃ n1 : Int, cell h1 ((⟨b1, 0, none⟩ : Addr).add (Int.toNat (code - 1) * 1)) = some (.int .i64 n1) ∧
  K (.int .i64 n1) h1)
  (cond (decide (kind = 2))
  (New h (.cells #[.int .i64 1, .int .i64 0, .int .i64 0, .int .i64 0] 3) fun b2 h2 =>
  InR (code - 1) ∧
  (0 ≤ code - 1 ∧ code - 1 < ((4 : Nat) : Int)) ∧
  ∃ n2 : Int, cell h2 ((⟨b2, 0, none⟩ : Addr).add (Int.toNat (code - 1) * 1)) = some (.int .i64 n2) ∧
  K (.int .i64 n2) h2)
  (cond (decide (kind = 3))
  (New h (.cells #[.int .i64 2, .int .i64 1, .int .i64 1, .int .i64 2, .int .i64 2, .int .i64 2, .int .i64 0] 3) fun b3 h3 =>
  InR (code - 1) ∧
  (0 ≤ code - 1 ∧ code - 1 < ((7 : Nat) : Int)) ∧
  ∃ n3 : Int, cell h3 ((⟨b3, 0, none⟩ : Addr).add (Int.toNat (code - 1) * 1)) = some (.int .i64 n3) ∧
  K (.int .i64 n3) h3)
  (cond (decide (kind = 4))
  (New h (.cells #[.int .i64 0, .int .i64 2, .int .i64 2, .int .i64 1, .int .i64 0] 3) fun b4 h4 =>
  InR (code - 1) ∧
  (0 ≤ code - 1 ∧ code - 1 < ((5 : Nat) : Int)) ∧
  ∃ n4 : Int, cell h4 ((⟨b4, 0, none⟩ : Addr).add (Int.toNat (code - 1) * 1)) = some (.int .i64 n4) ∧
  K (.int .i64 n4) h4)
  (cond (decide (kind = 5))
  (New h (.cells #[.int .i64 3, .int .i64 2, .int .i64 4, .int .i64 4, .int .i64 0] 3) fun b5 h5 =>
  InR (code - 1) ∧
  (0 ≤ code - 1 ∧ code - 1 < ((5 : Nat) : Int)) ∧
  ∃ n5 : Int, cell h5 ((⟨b5, 0, none⟩ : Addr).add (Int.toNat (code - 1) * 1)) = some (.int .i64 n5) ∧
  K (.int .i64 n5) h5)
  (r03_Arity_b1 code h  K)))))) := by kernel_rfl
theorem r03_Arity_b1_eq (code : Int) (h : Hp)  (K : Value → Hp → Prop) : r03_Arity_b1 code h  K = (
  New h (.cells #[.int .i64 (-1), .int .i64 (-1), .int .i64 (-1), .int .i64 0] 3) fun b6 h6 =>
  InR (code - 1) ∧
  (0 ≤ code - 1 ∧ code - 1 < ((4 : Nat) : Int)) ∧
  ∃ n6 : Int, cell h6 ((⟨b6, 0, none⟩ : Addr).add (Int.toNat (code - 1) * 1)) = some (.int .i64 n6) ∧
  K (.int .i64 n6) h6) := by kernel_rfl
theorem r03_Arity_call {kind : Int} {code : Int} {h : Hp} {K : Value → Hp → Prop} (hk : r03_Arity_b0 kind code h K) : HCalls Try.prog 55 #[.int .i64 kind, .int .i64 code] h K :=
  calls_of_snd r03_Arity_an Try.func55 (c := bodyOf Try.f55) rfl Try.ntmps55 (Nat.le_of_ble_eq_true rfl) (snd_2 F_ok F_mixed) hk

/-! ### r03_key -/
def r03_key_an : Ann := .leaf
def r03_key_K0  (K : Value → Hp → Prop) : Exit → Env → Hp → Prop := retK Try.prog Try.f56.results.toList K
def r03_key_b0 (nv : Int) (h : Hp)  (K : Value → Hp → Prop) : Prop :=
  sx_1 Try.prog F 9 (cp [] (bodyOf Try.f56)) (ap [] r03_key_an) [(0, .int .i64 nv)] h (r03_key_K0  K)
theorem r03_key_b0_eq (nv : Int) (h : Hp)  (K : Value → Hp → Prop) : r03_key_b0 nv h  K = (
  cond (decide (((-1048576) : Int) ≤ nv))
  (K (.bool (decide (nv ≤ 1048576))) h)
  (K (.bool false) h)) := by kernel_rfl
theorem r03_key_call {nv : Int} {h : Hp} {K : Value → Hp → Prop} (hk : r03_key_b0 nv h K) : HCalls Try.prog 56 #[.int .i64 nv] h K :=
  calls_of_snd r03_key_an Try.func56 (c := bodyOf Try.f56) rfl Try.ntmps56 (Nat.le_of_ble_eq_true rfl) (snd_1 F_ok F_mixed) hk

/-! ### r03_Step -/
def r03_Step_an : Ann := .node none (.leaf) (.node none (.leaf) (.node (some [2, 3, 4, 5]) (.leaf) (.leaf)))
def r03_Step_K0  (K : Value → Hp → Prop) : Exit → Env → Hp → Prop := retK Try.prog Try.f57.results.toList K
def r03_Step_b0 (s_0 : Int) (s_1 : Option Addr) (s_1L : Nat) (s_1C : Nat) (o_0 : Int) (o_1 : Option Addr) (o_1L : Nat) (o_1C : Nat) (h : Hp)  (K : Value → Hp → Prop) : Prop :=
  sx_2 Try.prog F 50 (cp [] (bodyOf Try.f57)) (ap [] r03_Step_an) [(0, .agg #[.int .i64 s_0, .slice s_1 s_1L s_1C]), (1, .agg #[.int .i64 o_0, .slice o_1 o_1L o_1C])] h (r03_Step_K0  K)
def r03_Step_b1 (s : Option Addr) (o : Option Addr) (t4 : Option Addr) (t5 : Option Addr) (h : Hp)  (K : Value → Hp → Prop) : Prop :=
  sx_1 Try.prog F 50 (cp [1, 1, 1] (bodyOf Try.f57)) (ap [1, 1, 1] r03_Step_an) [(2, .pointer s), (3, .pointer o), (4, .pointer t4), (5, .pointer t5)] h (r03_Step_K0  K)
theorem r03_Step_b0_eq (s_0 : Int) (s_1 : Option Addr) (s_1L : Nat) (s_1C : Nat) (o_0 : Int) (o_1 : Option Addr) (o_1L : Nat) (o_1C : Nat) (h : Hp)  (K : Value → Hp → Prop) : r03_Step_b0 s_0 s_1 s_1L s_1C o_0 o_1 o_1L o_1C h  K = (
  New h (.cells #[.int .i64 s_0, .slice s_1 s_1L s_1C] 108) fun b1 h1 =>
  New h1 (.cells #[.int .i64 o_0, .slice o_1 o_1L o_1C] 58) fun b2 h2 =>
  New h2 (.cells #[.int .i64 0, .slice none 0 0] 108) fun b3 h3 =>
  New h3 (.cells #[.int .i64 0, .int .i64 0, .slice none 0 0] 61) fun b4 h4 =>
  ∃ n1 : Int, ∃ (a1 : Option Addr) (L1 C1 : Nat), cell h4 ⟨b1, 0, none⟩ = some (.int .i64 n1) ∧
  cell h4 ((⟨b1, 0, none⟩ : Addr).add 1) = some (.slice a1 L1 C1) ∧
  HCalls Try.prog 79 #[.agg #[.int .i64 n1, .slice a1 L1 C1]] h4 fun v1 h5 => ∃ r1 : Int, ∃ (r2 : Option Addr) (rL1 rC1 : Nat), v1 = .agg #[.int .i64 r1, .slice r2 rL1 rC1] ∧
  Wr h5 ⟨b1, 0, none⟩ (.int .i64 r1) fun h6 =>
  Wr h6 ((⟨b1, 0, none⟩ : Addr).add 1) (.slice r2 rL1 rC1) fun h7 =>
  ∃ n2 : Int, cell h7 ⟨b1, 0, none⟩ = some (.int .i64 n2) ∧
  cond (decide (n2 = 1))
  (∃ n3 : Int, ∃ (a2 : Option Addr) (L2 C2 : Nat), cell h7 ⟨b1, 0, none⟩ = some (.int .i64 n3) ∧
  cell h7 ((⟨b1, 0, none⟩ : Addr).add 1) = some (.slice a2 L2 C2) ∧
  ∃ n4 : Int, ∃ (a3 : Option Addr) (L3 C3 : Nat), cell h7 ⟨b2, 0, none⟩ = some (.int .i64 n4) ∧
  cell h7 ((⟨b2, 0, none⟩ : Addr).add 1) = some (.slice a3 L3 C3) ∧
  HCalls Try.prog 80 #[.agg #[.int .i64 n3, .slice a2 L2 C2], .agg #[.int .i64 n4, .slice a3 L3 C3]] h7 fun v2 h8 => ∃ r3 : Int, ∃ (r4 : Option Addr) (rL2 rC2 : Nat), ∃ r5 : Int, ∃ r6 : Int, ∃ (r7 : Option Addr) (rL3 rC3 : Nat), v2 = .tuple #[.agg #[.int .i64 r3, .slice r4 rL2 rC2], .agg #[.int .i64 r5, .int .i64 r6, .slice r7 rL3 rC3]] ∧
  Wr h8 ⟨b3, 0, none⟩ (.int .i64 r3) fun h9 =>
  Wr h9 ((⟨b3, 0, none⟩ : Addr).add 1) (.slice r4 rL2 rC2) fun h10 =>
  Wr h10 ⟨b4, 0, none⟩ (.int .i64 r5) fun h11 =>
  Wr h11 ((⟨b4, 0, none⟩ : Addr).add 1) (.int .i64 r6) fun h12 =>
  Wr h12 ((⟨b4, 0, none⟩ : Addr).add 2) (.slice r7 rL3 rC3) fun h13 =>
  ∃ r8 : Int, ∃ (r9 : Option Addr) (rL4 rC4 : Nat), cell h13 ⟨b3, 0, none⟩ = some (.int .i64 r8) ∧
  cell h13 ((⟨b3, 0, none⟩ : Addr).add 1) = some (.slice r9 rL4 rC4) ∧
  ∃ r10 : Int, ∃ r11 : Int, ∃ (r12 : Option Addr) (rL5 rC5 : Nat), cell h13 ⟨b4, 0, none⟩ = some (.int .i64 r10) ∧
  cell h13 ((⟨b4, 0, none⟩ : Addr).add 1) = some (.int .i64 r11) ∧
  cell h13 ((⟨b4, 0, none⟩ : Addr).add 2) = some (.slice r12 rL5 rC5) ∧
  K (.tuple #[.agg #[.int .i64 r8, .slice r9 rL4 rC4], .agg #[.int .i64 r10, .int .i64 r11, .slice r12 rL5 rC5]]) h13)
  (cond (decide (n2 = 2))
  (∃ n5 : Int, ∃ (a4 : Option Addr) (L4 C4 : Nat), cell h7 ⟨b1, 0, none⟩ = some (.int .i64 n5) ∧
  cell h7 ((⟨b1, 0, none⟩ : Addr).add 1) = some (.slice a4 L4 C4) ∧
  ∃ n6 : Int, ∃ (a5 : Option Addr) (L5 C5 : Nat), cell h7 ⟨b2, 0, none⟩ = some (.int .i64 n6) ∧
  cell h7 ((⟨b2, 0, none⟩ : Addr).add 1) = some (.slice a5 L5 C5) ∧
  HCalls Try.prog 81 #[.agg #[.int .i64 n5, .slice a4 L4 C4], .agg #[.int .i64 n6, .slice a5 L5 C5]] h7 fun v3 h14 => ∃ r13 : Int, ∃ (r14 : Option Addr) (rL6 rC6 : Nat), ∃ r15 : Int, ∃ r16 : Int, ∃ (r17 : Option Addr) (rL7 rC7 : Nat), v3 = .tuple #[.agg #[.int .i64 r13, .slice r14 rL6 rC6], .agg #[.int .i64 r15, .int .i64 r16, .slice r17 rL7 rC7]] ∧
  Wr h14 ⟨b3, 0, none⟩ (.int .i64 r13) fun h15 =>
  Wr h15 ((⟨b3, 0, none⟩ : Addr).add 1) (.slice r14 rL6 rC6) fun h16 =>
  Wr h16 ⟨b4, 0, none⟩ (.int .i64 r15) fun h17 =>
  Wr h17 ((⟨b4, 0, none⟩ : Addr).add 1) (.int .i64 r16) fun h18 =>
  Wr h18 ((⟨b4, 0, none⟩ : Addr).add 2) (.slice r17 rL7 rC7) fun h19 =>
  ∃ r18 : Int, ∃ (r19 : Option Addr) (rL8 rC8 : Nat), cell h19 ⟨b3, 0, none⟩ = some (.int .i64 r18) ∧
  cell h19 ((⟨b3, 0, none⟩ : Addr).add 1) = some (.slice r19 rL8 rC8) ∧
  ∃ r20 : Int, ∃ r21 : Int, ∃ (r22 : Option Addr) (rL9 rC9 : Nat), cell h19 ⟨b4, 0, none⟩ = some (.int .i64 r20) ∧
  cell h19 ((⟨b4, 0, none⟩ : Addr).add 1) = some (.int .i64 r21) ∧
  cell h19 ((⟨b4, 0, none⟩ : Addr).add 2) = some (.slice r22 rL9 rC9) ∧
  K (.tuple #[.agg #[.int .i64 r18, .slice r19 rL8 rC8], .agg #[.int .i64 r20, .int .i64 r21, .slice r22 rL9 rC9]]) h19)
  (cond (decide (n2 = 3))
  (∃ n7 : Int, ∃ (a6 : Option Addr) (L6 C6 : Nat), cell h7 ⟨b1, 0, none⟩ = some (.int .i64 n7) ∧
  cell h7 ((⟨b1, 0, none⟩ : Addr).add 1) = some (.slice a6 L6 C6) ∧
  ∃ n8 : Int, ∃ (a7 : Option Addr) (L7 C7 : Nat), cell h7 ⟨b2, 0, none⟩ = some (.int .i64 n8) ∧
  cell h7 ((⟨b2, 0, none⟩ : Addr).add 1) = some (.slice a7 L7 C7) ∧
  HCalls Try.prog 82 #[.agg #[.int .i64 n7, .slice a6 L6 C6], .agg #[.int .i64 n8, .slice a7 L7 C7]] h7 fun v4 h20 => ∃ r23 : Int, ∃ (r24 : Option Addr) (rL10 rC10 : Nat), ∃ r25 : Int, ∃ r26 : Int, ∃ (r27 : Option Addr) (rL11 rC11 : Nat), v4 = .tuple #[.agg #[.int .i64 r23, .slice r24 rL10 rC10], .agg #[.int .i64 r25, .int .i64 r26, .slice r27 rL11 rC11]] ∧
  Wr h20 ⟨b3, 0, none⟩ (.int .i64 r23) fun h21 =>
  Wr h21 ((⟨b3, 0, none⟩ : Addr).add 1) (.slice r24 rL10 rC10) fun h22 =>
  Wr h22 ⟨b4, 0, none⟩ (.int .i64 r25) fun h23 =>
  Wr h23 ((⟨b4, 0, none⟩ : Addr).add 1) (.int .i64 r26) fun h24 =>
  Wr h24 ((⟨b4, 0, none⟩ : Addr).add 2) (.slice r27 rL11 rC11) fun h25 =>
  ∃ r28 : Int, ∃ (r29 : Option Addr) (rL12 rC12 : Nat), cell h25 ⟨b3, 0, none⟩ = some (.int .i64 r28) ∧
  cell h25 ((⟨b3, 0, none⟩ : Addr).add 1) = some (.slice r29 rL12 rC12) ∧
  ∃ r30 : Int, ∃ r31 : Int, ∃ (r32 : Option Addr) (rL13 rC13 : Nat), cell h25 ⟨b4, 0, none⟩ = some (.int .i64 r30) ∧
  cell h25 ((⟨b4, 0, none⟩ : Addr).add 1) = some (.int .i64 r31) ∧
  cell h25 ((⟨b4, 0, none⟩ : Addr).add 2) = some (.slice r32 rL13 rC13) ∧
  K (.tuple #[.agg #[.int .i64 r28, .slice r29 rL12 rC12], .agg #[.int .i64 r30, .int .i64 r31, .slice r32 rL13 rC13]]) h25)
  (cond (decide (n2 = 4))
  (∃ n9 : Int, ∃ (a8 : Option Addr) (L8 C8 : Nat), cell h7 ⟨b1, 0, none⟩ = some (.int .i64 n9) ∧
  cell h7 ((⟨b1, 0, none⟩ : Addr).add 1) = some (.slice a8 L8 C8) ∧
  ∃ n10 : Int, ∃ (a9 : Option Addr) (L9 C9 : Nat), cell h7 ⟨b2, 0, none⟩ = some (.int .i64 n10) ∧
  cell h7 ((⟨b2, 0, none⟩ : Addr).add 1) = some (.slice a9 L9 C9) ∧
  HCalls Try.prog 83 #[.agg #[.int .i64 n9, .slice a8 L8 C8], .agg #[.int .i64 n10, .slice a9 L9 C9]] h7 fun v5 h26 => ∃ r33 : Int, ∃ (r34 : Option Addr) (rL14 rC14 : Nat), ∃ r35 : Int, ∃ r36 : Int, ∃ (r37 : Option Addr) (rL15 rC15 : Nat), v5 = .tuple #[.agg #[.int .i64 r33, .slice r34 rL14 rC14], .agg #[.int .i64 r35, .int .i64 r36, .slice r37 rL15 rC15]] ∧
  Wr h26 ⟨b3, 0, none⟩ (.int .i64 r33) fun h27 =>
  Wr h27 ((⟨b3, 0, none⟩ : Addr).add 1) (.slice r34 rL14 rC14) fun h28 =>
  Wr h28 ⟨b4, 0, none⟩ (.int .i64 r35) fun h29 =>
  Wr h29 ((⟨b4, 0, none⟩ : Addr).add 1) (.int .i64 r36) fun h30 =>
  Wr h30 ((⟨b4, 0, none⟩ : Addr).add 2) (.slice r37 rL15 rC15) fun h31 =>
  ∃ r38 : Int, ∃ (r39 : Option Addr) (rL16 rC16 : Nat), cell h31 ⟨b3, 0, none⟩ = some (.int .i64 r38) ∧
  cell h31 ((⟨b3, 0, none⟩ : Addr).add 1) = some (.slice r39 rL16 rC16) ∧
  ∃ r40 : Int, ∃ r41 : Int, ∃ (r42 : Option Addr) (rL17 rC17 : Nat), cell h31 ⟨b4, 0, none⟩ = some (.int .i64 r40) ∧
  cell h31 ((⟨b4, 0, none⟩ : Addr).add 1) = some (.int .i64 r41) ∧
  cell h31 ((⟨b4, 0, none⟩ : Addr).add 2) = some (.slice r42 rL17 rC17) ∧
  K (.tuple #[.agg #[.int .i64 r38, .slice r39 rL16 rC16], .agg #[.int .i64 r40, .int .i64 r41, .slice r42 rL17 rC17]]) h31)
  (cond (decide (n2 = 5))
  (∃ n11 : Int, ∃ (a10 : Option Addr) (L10 C10 : Nat), cell h7 ⟨b1, 0, none⟩ = some (.int .i64 n11) ∧
  cell h7 ((⟨b1, 0, none⟩ : Addr).add 1) = some (.slice a10 L10 C10) ∧
  ∃ n12 : Int, ∃ (a11 : Option Addr) (L11 C11 : Nat), cell h7 ⟨b2, 0, none⟩ = some (.int .i64 n12) ∧
  cell h7 ((⟨b2, 0, none⟩ : Addr).add 1) = some (.slice a11 L11 C11) ∧
  HCalls Try.prog 84 #[.agg #[.int .i64 n11, .slice a10 L10 C10], .agg #[.int .i64 n12, .slice a11 L11 C11]] h7 fun v6 h32 => ∃ r43 : Int, ∃ (r44 : Option Addr) (rL18 rC18 : Nat), ∃ r45 : Int, ∃ r46 : Int, ∃ (r47 : Option Addr) (rL19 rC19 : Nat), v6 = .tuple #[.agg #[.int .i64 r43, .slice r44 rL18 rC18], .agg #[.int .i64 r45, .int .i64 r46, .slice r47 rL19 rC19]] ∧
  Wr h32 ⟨b3, 0, none⟩ (.int .i64 r43) fun h33 =>
  Wr h33 ((⟨b3, 0, none⟩ : Addr).add 1) (.slice r44 rL18 rC18) fun h34 =>
  Wr h34 ⟨b4, 0, none⟩ (.int .i64 r45) fun h35 =>
  Wr h35 ((⟨b4, 0, none⟩ : Addr).add 1) (.int .i64 r46) fun h36 =>
  Wr h36 ((⟨b4, 0, none⟩ : Addr).add 2) (.slice r47 rL19 rC19) fun h37 =>
  ∃ r48 : Int, ∃ (r49 : Option Addr) (rL20 rC20 : Nat), cell h37 ⟨b3, 0, none⟩ = some (.int .i64 r48) ∧
  cell h37 ((⟨b3, 0, none⟩ : Addr).add 1) = some (.slice r49 rL20 rC20) ∧
  ∃ r50 : Int, ∃ r51 : Int, ∃ (r52 : Option Addr) (rL21 rC21 : Nat), cell h37 ⟨b4, 0, none⟩ = some (.int .i64 r50) ∧
  cell h37 ((⟨b4, 0, none⟩ : Addr).add 1) = some (.int .i64 r51) ∧
  cell h37 ((⟨b4, 0, none⟩ : Addr).add 2) = some (.slice r52 rL21 rC21) ∧
  K (.tuple #[.agg #[.int .i64 r48, .slice r49 rL20 rC20], .agg #[.int .i64 r50, .int .i64 r51, .slice r52 rL21 rC21]]) h37)
  (r03_Step_b1 (some ⟨b1, 0, none⟩) (some ⟨b2, 0, none⟩) (some ⟨b3, 0, none⟩) (some ⟨b4, 0, none⟩) h7  K)))))) := by kernel_rfl
theorem r03_Step_b1_eq (s : Option Addr) (o : Option Addr) (t4 : Option Addr) (t5 : Option Addr) (h : Hp)  (K : Value → Hp → Prop) : r03_Step_b1 s o t4 t5 h  K = (
  NN s fun a12 =>
  ∃ n13 : Int, ∃ (a13 : Option Addr) (L12 C12 : Nat), cell h a12 = some (.int .i64 n13) ∧
  cell h (a12.add 1) = some (.slice a13 L12 C12) ∧
  NN o fun a14 =>
  ∃ n14 : Int, ∃ (a15 : Option Addr) (L13 C13 : Nat), cell h a14 = some (.int .i64 n14) ∧
  cell h (a14.add 1) = some (.slice a15 L13 C13) ∧
  HCalls Try.prog 85 #[.agg #[.int .i64 n13, .slice a13 L12 C12], .agg #[.int .i64 n14, .slice a15 L13 C13]] h fun v7 h38 => ∃ r53 : Int, ∃ (r54 : Option Addr) (rL22 rC22 : Nat), ∃ r55 : Int, ∃ r56 : Int, ∃ (r57 : Option Addr) (rL23 rC23 : Nat), v7 = .tuple #[.agg #[.int .i64 r53, .slice r54 rL22 rC22], .agg #[.int .i64 r55, .int .i64 r56, .slice r57 rL23 rC23]] ∧
  NN t4 fun a16 =>
  Wr h38 a16 (.int .i64 r53) fun h39 =>
  Wr h39 (a16.add 1) (.slice r54 rL22 rC22) fun h40 =>
  NN t5 fun a17 =>
  Wr h40 a17 (.int .i64 r55) fun h41 =>
  Wr h41 (a17.add 1) (.int .i64 r56) fun h42 =>
  Wr h42 (a17.add 2) (.slice r57 rL23 rC23) fun h43 =>
  NN t4 fun a18 =>
  ∃ r58 : Int, ∃ (r59 : Option Addr) (rL24 rC24 : Nat), cell h43 a18 = some (.int .i64 r58) ∧
  cell h43 (a18.add 1) = some (.slice r59 rL24 rC24) ∧
  NN t5 fun a19 =>
  ∃ r60 : Int, ∃ r61 : Int, ∃ (r62 : Option Addr) (rL25 rC25 : Nat), cell h43 a19 = some (.int .i64 r60) ∧
  cell h43 (a19.add 1) = some (.int .i64 r61) ∧
  cell h43 (a19.add 2) = some (.slice r62 rL25 rC25) ∧
  K (.tuple #[.agg #[.int .i64 r58, .slice r59 rL24 rC24], .agg #[.int .i64 r60, .int .i64 r61, .slice r62 rL25 rC25]]) h43) := by kernel_rfl
theorem r03_Step_call {s_0 : Int} {s_1 : Option Addr} {s_1L : Nat} {s_1C : Nat} {o_0 : Int} {o_1 : Option Addr} {o_1L : Nat} {o_1C : Nat} {h : Hp} {K : Value → Hp → Prop} (hk : r03_Step_b0 s_0 s_1 s_1L s_1C o_0 o_1 o_1L o_1C h K) : HCalls Try.prog 57 #[.agg #[.int .i64 s_0, .slice s_1 s_1L s_1C], .agg #[.int .i64 o_0, .slice o_1 o_1L o_1C]] h K :=
  calls_of_snd r03_Step_an Try.func57 (c := bodyOf Try.f57) rfl Try.ntmps57 (Nat.le_of_ble_eq_true rfl) (snd_2 F_ok F_mixed) hk

/-! ### r43_State -/
def r43_State_an : Ann := .node none (.leaf) (.node none (.leaf) (.node (some [2, 3]) (.node none (.leaf) (.loop [0, 2, 3] [(4, .int .i64)] (.node none (.leaf) (.node (some [0, 2, 3, 4]) (.plan (.qu 0 (.qu 1 (.qu 2 (.qu 3 (.qu 4 (.qu 5 (.qu 6 (.qu 7 (.qu 8 (.qu 9 (.qu 10 (.qu 11 (.wo 12 (.wo 13 (.wo 14 (.qu 15 (.wo 16 .fin .no)) .no) .no) .no)))))))))))))) (.leaf))))) (.leaf)))
def r43_State_K0  (K : Value → Hp → Prop) : Exit → Env → Hp → Prop := retK Try.prog Try.f58.results.toList K
def r43_State_K1  (K : Value → Hp → Prop) : Exit → Env → Hp → Prop := thenE (fun env h => sx_2 Try.prog F 29 (cp [1, 1, 1] (bodyOf Try.f58)) (ap [1, 1, 1] r43_State_an) (rs [2, 3] env) h (r43_State_K0  K)) (r43_State_K0  K)
def r43_State_K2  (K : Value → Hp → Prop) : Exit → Env → Hp → Prop := blockE 0 (r43_State_K1  K)
def r43_State_K3 (nx0 : Int × Unit → Hp → Prop) (K : Value → Hp → Prop) : Exit → Env → Hp → Prop := thenE (fun env h => getV [(4, .int .i64)] env fun s => nx0 s h) (r43_State_K2  K)
def r43_State_b0 (l : Option Addr) (lL : Nat) (lC : Nat) (h : Hp)  (K : Value → Hp → Prop) : Prop :=
  sx_3 Try.prog F 29 (cp [] (bodyOf Try.f58)) (ap [] r43_State_an) [(0, .slice l lL lC)] h (r43_State_K0  K)
def r43_State_b1 (i : Int) (l : Option Addr) (lL : Nat) (lC : Nat) (t2 : Option Addr) (s : Option Addr) (h : Hp) (nx0 : Int × Unit → Hp → Prop) (K : Value → Hp → Prop) : Prop :=
  sx_2 Try.prog F 29 (cp [1, 1, 0, 1, 2, 2] (bodyOf Try.f58)) (ap [1, 1, 0, 1, 2] r43_State_an) [(4, .int .i64 i), (0, .slice l lL lC), (2, .pointer t2), (3, .pointer s)] h (r43_State_K3 nx0 K)
def r43_State_b2 (l : Option Addr) (lL : Nat) (lC : Nat) (t2 : Option Addr) (s : Option Addr) (i : Int) (h : Hp) (nx0 : Int × Unit → Hp → Prop) (K : Value → Hp → Prop) : Prop :=
  sx_1 Try.prog F 29 (cp [1, 1, 0, 1, 2, 2, 1, 1] (bodyOf Try.f58)) (ap [1, 1, 0, 1, 2, 1, 1] r43_State_an) [(0, .slice l lL lC), (2, .pointer t2), (3, .pointer s), (4, .int .i64 i)] h (r43_State_K3 nx0 K)
def r43_State_b3 (t2 : Option Addr) (s : Option Addr) (h : Hp)  (K : Value → Hp → Prop) : Prop :=
  sx_2 Try.prog F 29 (cp [1, 1, 1] (bodyOf Try.f58)) (ap [1, 1, 1] r43_State_an) [(2, .pointer t2), (3, .pointer s)] h (r43_State_K0  K)
theorem r43_State_b0_eq (l : Option Addr) (lL : Nat) (lC : Nat) (h : Hp)  (K : Value → Hp → Prop) : r43_State_b0 l lL lC h  K = (
  New h (.cells #[.int .i64 0, .slice none 0 0] 108) fun b1 h1 =>
  New h1 (.cells #[.int .i64 0, .slice none 0 0] 108) fun b2 h2 =>
  Wr h2 ⟨b2, 0, none⟩ (.int .i64 1) fun h3 =>
  Wr h3 ((⟨b2, 0, none⟩ : Addr).add 1) (.slice none 0 0) fun h4 =>
  LoopVC ((0, ()) : Int × Unit) h4 (fun (nx0 : Int × Unit → Hp → Prop) (s1 : Int × Unit) h5 => r43_State_b1 s1.1 l lL lC (some ⟨b1, 0, none⟩) (some ⟨b2, 0, none⟩) h5 nx0 K)) := by kernel_rfl
theorem r43_State_b1_eq (i : Int) (l : Option Addr) (lL : Nat) (lC : Nat) (t2 : Option Addr) (s : Option Addr) (h : Hp) (nx0 : Int × Unit → Hp → Prop) (K : Value → Hp → Prop) : r43_State_b1 i l lL lC t2 s h nx0 K = (
  cond (decide (i < (lL : Int)))
  (NN s fun a1 =>
  ∃ (a2 : Option Addr) (L1 C1 : Nat), cell h (a1.add 1) = some (.slice a2 L1 C1) ∧
  (0 ≤ i ∧ i < (lL : Int)) ∧
  NN l fun a3 =>
  (0 ≤ (0 : Int) ∧ (0 : Int) < ((2 : Nat) : Int)) ∧
  ∃ n1 : Int, cell h ((a3.add (Int.toNat i * 2)).add (Int.toNat (0 : Int) * 1)) = some (.int .i64 n1) ∧
  (0 ≤ i ∧ i < (lL : Int)) ∧
  NN l fun a4 =>
  (0 ≤ (1 : Int) ∧ (1 : Int) < ((2 : Nat) : Int)) ∧
  ∃ n2 : Int, cell h ((a4.add (Int.toNat i * 2)).add (Int.toNat (1 : Int) * 1)) = some (.int .i64 n2) ∧
  New h (.cells #[.int .i64 n1, .int .i64 n2] 3) fun b3 h6 =>
  (∃ (a5 : Option Addr) (L2 C2 : Nat), cell h6 (a1.add 1) = some (.slice a5 L2 C2) ∧
  (.slice a5 L2 C2 : Value) = .slice a2 L1 C1) ∧
  New h6 (.cells #[.slice (some ⟨b3, 0, none⟩) 2 2] 38) fun b4 h7 =>
  (∃ (a6 : Option Addr) (L3 C3 : Nat), cell h7 (a1.add 1) = some (.slice a6 L3 C3) ∧
  (.slice a6 L3 C3 : Value) = .slice a2 L1 C1) ∧
  appendV Try.prog 82 82 (.slice a2 L1 C1) (.slice (some ⟨b4, 0, none⟩) 1 1) h7 (slK fun a7 l1 c1 h8 =>
  NN s fun a8 =>
  Wr h8 (a8.add 1) (.slice a7 l1 c1) fun h9 =>
  r43_State_b2 l lL lC t2 s i h9 nx0 K))
  (r43_State_b3 t2 s h  K)) := by kernel_rfl
theorem r43_State_b2_eq (l : Option Addr) (lL : Nat) (lC : Nat) (t2 : Option Addr) (s : Option Addr) (i : Int) (h : Hp) (nx0 : Int × Unit → Hp → Prop) (K : Value → Hp → Prop) : r43_State_b2 l lL lC t2 s i h nx0 K = (
  InR (i + 1) ∧
  nx0 (i + 1, ()) h) := by kernel_rfl
theorem r43_State_b3_eq (t2 : Option Addr) (s : Option Addr) (h : Hp)  (K : Value → Hp → Prop) : r43_State_b3 t2 s h  K = (
  NN s fun a9 =>
  ∃ n3 : Int, ∃ (a10 : Option Addr) (L4 C4 : Nat), cell h a9 = some (.int .i64 n3) ∧
  cell h (a9.add 1) = some (.slice a10 L4 C4) ∧
  NN t2 fun a11 =>
  Wr h a11 (.int .i64 n3) fun h10 =>
  Wr h10 (a11.add 1) (.slice a10 L4 C4) fun h11 =>
  NN t2 fun a12 =>
  ∃ r1 : Int, ∃ (r2 : Option Addr) (rL1 rC1 : Nat), cell h11 a12 = some (.int .i64 r1) ∧
  cell h11 (a12.add 1) = some (.slice r2 rL1 rC1) ∧
  K (.agg #[.int .i64 r1, .slice r2 rL1 rC1]) h11) := by kernel_rfl
theorem r43_State_call {l : Option Addr} {lL : Nat} {lC : Nat} {h : Hp} {K : Value → Hp → Prop} (hk : r43_State_b0 l lL lC h K) : HCalls Try.prog 58 #[.slice l lL lC] h K :=
  calls_of_snd r43_State_an Try.func58 (c := bodyOf Try.f58) rfl Try.ntmps58 (Nat.le_of_ble_eq_true rfl) (snd_3 F_ok F_mixed) hk

/-! ### btree_Tree_floor -/
def btree_Tree_floor_an : Ann := .node none (.leaf) (.node (some [4, 5, 6]) (.node none (.leaf) (.loop [0, 1] [(4, .int .i64), (5, .int .i64), (6, .bool), (7, .ptr)] (.node none (.leaf) (.node none (.leaf) (.node none (.leaf) (.node none (.leaf) (.node (some [0, 1, 4, 5, 6, 7, 8]) (.leaf) (.leaf)))))))) (.leaf))
def btree_Tree_floor_K0  (K : Value → Hp → Prop) : Exit → Env → Hp → Prop := retK Try.prog Try.f59.results.toList K
def btree_Tree_floor_K1  (K : Value → Hp → Prop) : Exit → Env → Hp → Prop := thenE (fun env h => sx_2 Try.prog F 71 (cp [1, 1] (bodyOf Try.f59)) (ap [1, 1] btree_Tree_floor_an) (rs [4, 5, 6] env) h (btree_Tree_floor_K0  K)) (btree_Tree_floor_K0  K)
def btree_Tree_floor_K2  (K : Value → Hp → Prop) : Exit → Env → Hp → Prop := blockE 0 (btree_Tree_floor_K1  K)
def btree_Tree_floor_K3 (nx0 : Int × Int × Bool × Option Addr × Unit → Hp → Prop) (K : Value → Hp → Prop) : Exit → Env → Hp → Prop := thenE (fun env h => getV [(4, .int .i64), (5, .int .i64), (6, .bool), (7, .ptr)] env fun s => nx0 s h) (btree_Tree_floor_K2  K)
def btree_Tree_floor_K4 (nx0 : Int × Int × Bool × Option Addr × Unit → Hp → Prop) (K : Value → Hp → Prop) : Exit → Env → Hp → Prop := blockE 1 (btree_Tree_floor_K3 nx0 K)
def btree_Tree_floor_b0 (t : Option Addr) (key : Int) (h : Hp)  (K : Value → Hp → Prop) : Prop :=
  sx_3 Try.prog F 71 (cp [] (bodyOf Try.f59)) (ap [] btree_Tree_floor_an) [(0, .pointer t), (1, .int .i64 key)] h (btree_Tree_floor_K0  K)
def btree_Tree_floor_b1 (k : Int) (v : Int) (ok : Bool) (nv : Option Addr) (t : Option Addr) (key : Int) (h : Hp) (nx0 : Int × Int × Bool × Option Addr × Unit → Hp → Prop) (K : Value → Hp → Prop) : Prop :=
  sx_2 Try.prog F 71 (cp [1, 0, 1, 2, 2] (bodyOf Try.f59)) (ap [1, 0, 1, 2] btree_Tree_floor_an) [(4, .int .i64 k), (5, .int .i64 v), (6, .bool ok), (7, .pointer nv), (0, .pointer t), (1, .int .i64 key)] h (btree_Tree_floor_K3 nx0 K)
def btree_Tree_floor_b2 (t : Option Addr) (key : Int) (k : Int) (v : Int) (ok : Bool) (nv : Option Addr) (i : Int) (h : Hp) (nx0 : Int × Int × Bool × Option Addr × Unit → Hp → Prop) (K : Value → Hp → Prop) : Prop :=
  sx_1 Try.prog F 71 (cp [1, 0, 1, 2, 2, 1, 2, 1, 1, 1, 1] (bodyOf Try.f59)) (ap [1, 0, 1, 2, 1, 1, 1, 1, 1] btree_Tree_floor_an) [(0, .pointer t), (1, .int .i64 key), (4, .int .i64 k), (5, .int .i64 v), (6, .bool ok), (7, .pointer nv), (8, .int .i64 i)] h (btree_Tree_floor_K4 nx0 K)
def btree_Tree_floor_b3 (k : Int) (v : Int) (ok : Bool) (h : Hp)  (K : Value → Hp → Prop) : Prop :=
  sx_2 Try.prog F 71 (cp [1, 1] (bodyOf Try.f59)) (ap [1, 1] btree_Tree_floor_an) [(4, .int .i64 k), (5, .int .i64 v), (6, .bool ok)] h (btree_Tree_floor_K0  K)
theorem btree_Tree_floor_b0_eq (t : Option Addr) (key : Int) (h : Hp)  (K : Value → Hp → Prop) : btree_Tree_floor_b0 t key h  K = (
  NN t fun a1 =>
  ∃ p1 : Option Addr, cell h (a1.add 2) = some (.pointer p1) ∧
  LoopVC ((0, 0, false, p1, ()) : Int × Int × Bool × Option Addr × Unit) h (fun (nx0 : Int × Int × Bool × Option Addr × Unit → Hp → Prop) (s1 : Int × Int × Bool × Option Addr × Unit) h1 => btree_Tree_floor_b1 s1.1 s1.2.1 s1.2.2.1 s1.2.2.2.1 t key h1 nx0 K)) := by kernel_rfl
theorem btree_Tree_floor_b1_eq (k : Int) (v : Int) (ok : Bool) (nv : Option Addr) (t : Option Addr) (key : Int) (h : Hp) (nx0 : Int × Int × Bool × Option Addr × Unit → Hp → Prop) (K : Value → Hp → Prop) : btree_Tree_floor_b1 k v ok nv t key h nx0 K = (
  cond (!nv.isNone)
  (NN t fun a2 =>
  ∃ n1 : Int, cell h (a2.add 3) = some (.int .i64 n1) ∧
  InR (n1 + 1) ∧
  NN t fun a3 =>
  Wr h (a3.add 3) (.int .i64 (n1 + 1)) fun h2 =>
  NN nv fun a4 =>
  ∃ (a5 : Option Addr) (L1 C1 : Nat), cell h2 a4 = some (.slice a5 L1 C1) ∧
  HCalls Try.prog 67 #[.slice a5 L1 C1, .int .i64 key] h2 fun v1 h3 => ∃ r1 : Int, ∃ r2 : Bool, v1 = .tuple #[.int .i64 r1, .bool r2] ∧
  cond r2
  (NN nv fun a6 =>
  ∃ (a7 : Option Addr) (L2 C2 : Nat), cell h3 (a6.add 1) = some (.slice a7 L2 C2) ∧
  (0 ≤ r1 ∧ r1 < (L2 : Int)) ∧
  NN a7 fun a8 =>
  ∃ n2 : Int, cell h3 (a8.add (Int.toNat r1 * 1)) = some (.int .i64 n2) ∧
  K (.tuple #[.int .i64 key, .int .i64 n2, .bool true]) h3)
  (cond (decide ((0 : Int) < r1))
  (NN nv fun a9 =>
  ∃ (a10 : Option Addr) (L3 C3 : Nat), cell h3 a9 = some (.slice a10 L3 C3) ∧
  InR (r1 - 1) ∧
  (0 ≤ r1 - 1 ∧ r1 - 1 < (L3 : Int)) ∧
  NN a10 fun a11 =>
  ∃ n3 : Int, cell h3 (a11.add (Int.toNat (r1 - 1) * 1)) = some (.int .i64 n3) ∧
  NN nv fun a12 =>
  ∃ (a13 : Option Addr) (L4 C4 : Nat), cell h3 (a12.add 1) = some (.slice a13 L4 C4) ∧
  InR (r1 - 1) ∧
  (0 ≤ r1 - 1 ∧ r1 - 1 < (L4 : Int)) ∧
  NN a13 fun a14 =>
  ∃ n4 : Int, cell h3 (a14.add (Int.toNat (r1 - 1) * 1)) = some (.int .i64 n4) ∧
  btree_Tree_floor_b2 t key n3 n4 true nv r1 h3 nx0 K)
  (btree_Tree_floor_b2 t key k v ok nv r1 h3 nx0 K)))
  (btree_Tree_floor_b3 k v ok h  K)) := by kernel_rfl
theorem btree_Tree_floor_b2_eq (t : Option Addr) (key : Int) (k : Int) (v : Int) (ok : Bool) (nv : Option Addr) (i : Int) (h : Hp) (nx0 : Int × Int × Bool × Option Addr × Unit → Hp → Prop) (K : Value → Hp → Prop) : btree_Tree_floor_b2 t key k v ok nv i h nx0 K = (
  HCalls Try.prog 42 #[.pointer nv] h fun v2 h4 => ∃ r3 : Bool, v2 = .bool r3 ∧
  cond r3
  (btree_Tree_floor_b3 k v ok h4  K)
  (NN nv fun a15 =>
  ∃ (a16 : Option Addr) (L5 C5 : Nat), cell h4 (a15.add 2) = some (.slice a16 L5 C5) ∧
  (0 ≤ i ∧ i < (L5 : Int)) ∧
  NN a16 fun a17 =>
  ∃ p2 : Option Addr, cell h4 (a17.add (Int.toNat i * 1)) = some (.pointer p2) ∧
  nx0 (k, v, ok, p2, ()) h4)) := by kernel_rfl
theorem btree_Tree_floor_b3_eq (k : Int) (v : Int) (ok : Bool) (h : Hp)  (K : Value → Hp → Prop) : btree_Tree_floor_b3 k v ok h  K = (
  K (.tuple #[.int .i64 k, .int .i64 v, .bool ok]) h) := by kernel_rfl
theorem btree_Tree_floor_call {t : Option Addr} {key : Int} {h : Hp} {K : Value → Hp → Prop} (hk : btree_Tree_floor_b0 t key h K) : HCalls Try.prog 59 #[.pointer t, .int .i64 key] h K :=
  calls_of_snd btree_Tree_floor_an Try.func59 (c := bodyOf Try.f59) rfl Try.ntmps59 (Nat.le_of_ble_eq_true rfl) (snd_3 F_ok F_mixed) hk

/-! ### btree_Tree_ceiling -/
def btree_Tree_ceiling_an : Ann := .node none (.leaf) (.node (some [4, 5, 6]) (.node none (.leaf) (.loop [0, 1] [(4, .int .i64), (5, .int .i64), (6, .bool), (7, .ptr)] (.node none (.leaf) (.node none (.leaf) (.node none (.leaf) (.node none (.leaf) (.node (some [0, 1, 4, 5, 6, 7, 8]) (.leaf) (.leaf)))))))) (.leaf))
def btree_Tree_ceiling_K0  (K : Value → Hp → Prop) : Exit → Env → Hp → Prop := retK Try.prog Try.f60.results.toList K
def btree_Tree_ceiling_K1  (K : Value → Hp → Prop) : Exit → Env → Hp → Prop := thenE (fun env h => sx_2 Try.prog F 74 (cp [1, 1] (bodyOf Try.f60)) (ap [1, 1] btree_Tree_ceiling_an) (rs [4, 5, 6] env) h (btree_Tree_ceiling_K0  K)) (btree_Tree_ceiling_K0  K)
def btree_Tree_ceiling_K2  (K : Value → Hp → Prop) : Exit → Env → Hp → Prop := blockE 0 (btree_Tree_ceiling_K1  K)
def btree_Tree_ceiling_K3 (nx0 : Int × Int × Bool × Option Addr × Unit → Hp → Prop) (K : Value → Hp → Prop) : Exit → Env → Hp → Prop := thenE (fun env h => getV [(4, .int .i64), (5, .int .i64), (6, .bool), (7, .ptr)] env fun s => nx0 s h) (btree_Tree_ceiling_K2  K)
def btree_Tree_ceiling_K4 (nx0 : Int × Int × Bool × Option Addr × Unit → Hp → Prop) (K : Value → Hp → Prop) : Exit → Env → Hp → Prop := blockE 1 (btree_Tree_ceiling_K3 nx0 K)
def btree_Tree_ceiling_b0 (t : Option Addr) (key : Int) (h : Hp)  (K : Value → Hp → Prop) : Prop :=
  sx_3 Try.prog F 74 (cp [] (bodyOf Try.f60)) (ap [] btree_Tree_ceiling_an) [(0, .pointer t), (1, .int .i64 key)] h (btree_Tree_ceiling_K0  K)
def btree_Tree_ceiling_b1 (k : Int) (v : Int) (ok : Bool) (nv : Option Addr) (t : Option Addr) (key : Int) (h : Hp) (nx0 : Int × Int × Bool × Option Addr × Unit → Hp → Prop) (K : Value → Hp → Prop) : Prop :=
  sx_2 Try.prog F 74 (cp [1, 0, 1, 2, 2] (bodyOf Try.f60)) (ap [1, 0, 1, 2] btree_Tree_ceiling_an) [(4, .int .i64 k), (5, .int .i64 v), (6, .bool ok), (7, .pointer nv), (0, .pointer t), (1, .int .i64 key)] h (btree_Tree_ceiling_K3 nx0 K)
def btree_Tree_ceiling_b2 (t : Option Addr) (key : Int) (k : Int) (v : Int) (ok : Bool) (nv : Option Addr) (i : Int) (h : Hp) (nx0 : Int × Int × Bool × Option Addr × Unit → Hp → Prop) (K : Value → Hp → Prop) : Prop :=
  sx_1 Try.prog F 74 (cp [1, 0, 1, 2, 2, 1, 2, 1, 1, 1, 1] (bodyOf Try.f60)) (ap [1, 0, 1, 2, 1, 1, 1, 1, 1] btree_Tree_ceiling_an) [(0, .pointer t), (1, .int .i64 key), (4, .int .i64 k), (5, .int .i64 v), (6, .bool ok), (7, .pointer nv), (8, .int .i64 i)] h (btree_Tree_ceiling_K4 nx0 K)
def btree_Tree_ceiling_b3 (k : Int) (v : Int) (ok : Bool) (h : Hp)  (K : Value → Hp → Prop) : Prop :=
  sx_2 Try.prog F 74 (cp [1, 1] (bodyOf Try.f60)) (ap [1, 1] btree_Tree_ceiling_an) [(4, .int .i64 k), (5, .int .i64 v), (6, .bool ok)] h (btree_Tree_ceiling_K0  K)
theorem btree_Tree_ceiling_b0_eq (t : Option Addr) (key : Int) (h : Hp)  (K : Value → Hp → Prop) : btree_Tree_ceiling_b0 t key h  K = (
  NN t fun a1 =>
  ∃ p1 : Option Addr, cell h (a1.add 2) = some (.pointer p1) ∧
  LoopVC ((0, 0, false, p1, ()) : Int × Int × Bool × Option Addr × Unit) h (fun (nx0 : Int × Int × Bool × Option Addr × Unit → Hp → Prop) (s1 : Int × Int × Bool × Option Addr × Unit) h1 => btree_Tree_ceiling_b1 s1.1 s1.2.1 s1.2.2.1 s1.2.2.2.1 t key h1 nx0 K)) := by kernel_rfl
theorem btree_Tree_ceiling_b1_eq (k : Int) (v : Int) (ok : Bool) (nv : Option Addr) (t : Option Addr) (key : Int) (h : Hp) (nx0 : Int × Int × Bool × Option Addr × Unit → Hp → Prop) (K : Value → Hp → Prop) : btree_Tree_ceiling_b1 k v ok nv t key h nx0 K = (
  cond (!nv.isNone)
  (NN t fun a2 =>
  ∃ n1 : Int, cell h (a2.add 3) = some (.int .i64 n1) ∧
  InR (n1 + 1) ∧
  NN t fun a3 =>
  Wr h (a3.add 3) (.int .i64 (n1 + 1)) fun h2 =>
  NN nv fun a4 =>
  ∃ (a5 : Option Addr) (L1 C1 : Nat), cell h2 a4 = some (.slice a5 L1 C1) ∧
  HCalls Try.prog 67 #[.slice a5 L1 C1, .int .i64 key] h2 fun v1 h3 => ∃ r1 : Int, ∃ r2 : Bool, v1 = .tuple #[.int .i64 r1, .bool r2] ∧
  cond r2
  (NN nv fun a6 =>
  ∃ (a7 : Option Addr) (L2 C2 : Nat), cell h3 (a6.add 1) = some (.slice a7 L2 C2) ∧
  (0 ≤ r1 ∧ r1 < (L2 : Int)) ∧
  NN a7 fun a8 =>
  ∃ n2 : Int, cell h3 (a8.add (Int.toNat r1 * 1)) = some (.int .i64 n2) ∧
  K (.tuple #[.int .i64 key, .int .i64 n2, .bool true]) h3)
  (NN nv fun a9 =>
  ∃ (a10 : Option Addr) (L3 C3 : Nat), cell h3 a9 = some (.slice a10 L3 C3) ∧
  cond (decide (r1 < (L3 : Int)))
  (NN nv fun a11 =>
  ∃ (a12 : Option Addr) (L4 C4 : Nat), cell h3 a11 = some (.slice a12 L4 C4) ∧
  (0 ≤ r1 ∧ r1 < (L4 : Int)) ∧
  NN a12 fun a13 =>
  ∃ n3 : Int, cell h3 (a13.add (Int.toNat r1 * 1)) = some (.int .i64 n3) ∧
  NN nv fun a14 =>
  ∃ (a15 : Option Addr) (L5 C5 : Nat), cell h3 (a14.add 1) = some (.slice a15 L5 C5) ∧
  (0 ≤ r1 ∧ r1 < (L5 : Int)) ∧
  NN a15 fun a16 =>
  ∃ n4 : Int, cell h3 (a16.add (Int.toNat r1 * 1)) = some (.int .i64 n4) ∧
  btree_Tree_ceiling_b2 t key n3 n4 true nv r1 h3 nx0 K)
  (btree_Tree_ceiling_b2 t key k v ok nv r1 h3 nx0 K)))
  (btree_Tree_ceiling_b3 k v ok h  K)) := by kernel_rfl
theorem btree_Tree_ceiling_b2_eq (t : Option Addr) (key : Int) (k : Int) (v : Int) (ok : Bool) (nv : Option Addr) (i : Int) (h : Hp) (nx0 : Int × Int × Bool × Option Addr × Unit → Hp → Prop) (K : Value → Hp → Prop) : btree_Tree_ceiling_b2 t key k v ok nv i h nx0 K = (
  HCalls Try.prog 42 #[.pointer nv] h fun v2 h4 => ∃ r3 : Bool, v2 = .bool r3 ∧
  cond r3
  (btree_Tree_ceiling_b3 k v ok h4  K)
  (NN nv fun a17 =>
  ∃ (a18 : Option Addr) (L6 C6 : Nat), cell h4 (a17.add 2) = some (.slice a18 L6 C6) ∧
  (0 ≤ i ∧ i < (L6 : Int)) ∧
  NN a18 fun a19 =>
  ∃ p2 : Option Addr, cell h4 (a19.add (Int.toNat i * 1)) = some (.pointer p2) ∧
  nx0 (k, v, ok, p2, ()) h4)) := by kernel_rfl
theorem btree_Tree_ceiling_b3_eq (k : Int) (v : Int) (ok : Bool) (h : Hp)  (K : Value → Hp → Prop) : btree_Tree_ceiling_b3 k v ok h  K = (
  K (.tuple #[.int .i64 k, .int .i64 v, .bool ok]) h) := by kernel_rfl
theorem btree_Tree_ceiling_call {t : Option Addr} {key : Int} {h : Hp} {K : Value → Hp → Prop} (hk : btree_Tree_ceiling_b0 t key h K) : HCalls Try.prog 60 #[.pointer t, .int .i64 key] h K :=
  calls_of_snd btree_Tree_ceiling_an Try.func60 (c := bodyOf Try.f60) rfl Try.ntmps60 (Nat.le_of_ble_eq_true rfl) (snd_3 F_ok F_mixed) hk

/-! ### slices_ContainsFunc_Sint_int -/
def slices_ContainsFunc_Sint_int_an : Ann := .leaf
def slices_ContainsFunc_Sint_int_K0  (K : Value → Hp → Prop) : Exit → Env → Hp → Prop := retK Try.prog Try.f61.results.toList K
def slices_ContainsFunc_Sint_int_b0 (s : Option Addr) (sL : Nat) (sC : Nat) (f : Value) (h : Hp)  (K : Value → Hp → Prop) : Prop :=
  sx_1 Try.prog F 9 (cp [] (bodyOf Try.f61)) (ap [] slices_ContainsFunc_Sint_int_an) [(0, .slice s sL sC), (1, f)] h (slices_ContainsFunc_Sint_int_K0  K)
theorem slices_ContainsFunc_Sint_int_b0_eq (s : Option Addr) (sL : Nat) (sC : Nat) (f : Value) (h : Hp)  (K : Value → Hp → Prop) : slices_ContainsFunc_Sint_int_b0 s sL sC f h  K = (
  HCalls Try.prog 86 #[.slice s sL sC, f] h fun v1 h1 => ∃ r1 : Int, v1 = .int .i64 r1 ∧
  K (.bool (decide ((0 : Int) ≤ r1))) h1) := by kernel_rfl
theorem slices_ContainsFunc_Sint_int_call {s : Option Addr} {sL : Nat} {sC : Nat} {f : Value} {h : Hp} {K : Value → Hp → Prop} (hk : slices_ContainsFunc_Sint_int_b0 s sL sC f h K) : HCalls Try.prog 61 #[.slice s sL sC, f] h K :=
  calls_of_snd slices_ContainsFunc_Sint_int_an Try.func61 (c := bodyOf Try.f61) rfl Try.ntmps61 (Nat.le_of_ble_eq_true rfl) (snd_1 F_ok F_mixed) hk

/-! ### btree_number_c1 -/
def btree_number_c1_an : Ann := .leaf
def btree_number_c1_K0  (K : Value → Hp → Prop) : Exit → Env → Hp → Prop := retK Try.prog Try.f62.results.toList K
def btree_number_c1_b0 (nv : Int) (h : Hp)  (K : Value → Hp → Prop) : Prop :=
  sx_1 Try.prog F 9 (cp [] (bodyOf Try.f62)) (ap [] btree_number_c1_an) [(0, .int .i64 nv)] h (btree_number_c1_K0  K)
theorem btree_number_c1_b0_eq (nv : Int) (h : Hp)  (K : Value → Hp → Prop) : btree_number_c1_b0 nv h  K = (
  cond (decide (nv < (-1048576)))
  (K (.bool true) h)
  (K (.bool (decide ((1048576 : Int) < nv))) h)) := by kernel_rfl
theorem btree_number_c1_call {nv : Int} {h : Hp} {K : Value → Hp → Prop} (hk : btree_number_c1_b0 nv h K) : HCalls Try.prog 62 #[.int .i64 nv] h K :=
  calls_of_snd btree_number_c1_an Try.func62 (c := bodyOf Try.f62) rfl Try.ntmps62 (Nat.le_of_ble_eq_true rfl) (snd_1 F_ok F_mixed) hk

/-! ### slices_Insert_Sint_int -/
def slices_Insert_Sint_int_an : Ann := .node none (.leaf) (.node none (.leaf) (.node none (.leaf) (.node none (.leaf) (.node none (.leaf) (.node none (.leaf) (.node none (.node none (.leaf) (.node none (.node none (.leaf) (.node none (.leaf) (.node none (.tail 8) (.leaf)))) (.leaf))) (.node none (.leaf) (.node none (.node none (.leaf) (.node none (.node none (.tail 8) (.leaf)) (.leaf))) (.leaf)))))))))
def slices_Insert_Sint_int_K0  (K : Value → Hp → Prop) : Exit → Env → Hp → Prop := retK Try.prog Try.f63.results.toList K
def slices_Insert_Sint_int_b0 (s : Option Addr) (sL : Nat) (sC : Nat) (i : Int) (v : Option Addr) (vL : Nat) (vC : Nat) (h : Hp)  (K : Value → Hp → Prop) : Prop :=
  sx_1 Try.prog F 95 (cp [] (bodyOf Try.f63)) (ap [] slices_Insert_Sint_int_an) [(0, .slice s sL sC), (1, .int .i64 i), (2, .slice v vL vC)] h (slices_Insert_Sint_int_K0  K)
theorem slices_Insert_Sint_int_b0_eq (s : Option Addr) (sL : Nat) (sC : Nat) (i : Int) (v : Option Addr) (vL : Nat) (vC : Nat) (h : Hp)  (K : Value → Hp → Prop) : slices_Insert_Sint_int_b0 s sL sC i v vL vC h  K = (
  (0 ≤ i ∧ i ≤ (sL : Int) ∧ (sL : Int) ≤ (sC : Int)) ∧
  cond (decide ((vL : Int) = 0))
  (K (.slice s sL sC) h)
  (cond (decide (i = (sL : Int)))
  (appendV Try.prog 38 38 (.slice s sL sC) (.slice v vL vC) h (slK fun a1 l1 c1 h1 =>
  K (.slice a1 l1 c1) h1))
  (InR ((sL : Int) + (vL : Int)) ∧
  cond (decide ((sC : Int) < ((sL : Int) + (vL : Int))))
  ((0 ≤ (0 : Int) ∧ (0 : Int) ≤ i ∧ i ≤ (sC : Int)) ∧
  InR ((sL : Int) + (vL : Int)) ∧
  InR (((sL : Int) + (vL : Int)) - i) ∧
  appendV Try.prog 38 3 (.slice (subAddr s sC (Int.toNat (0 : Int)) 1) (Int.toNat i - Int.toNat (0 : Int)) (sC - Int.toNat (0 : Int))) (.int .i64 (((sL : Int) + (vL : Int)) - i)) h (slK fun a2 l2 c2 h2 =>
  (0 ≤ i ∧ i ≤ (l2 : Int) ∧ (l2 : Int) ≤ (c2 : Int)) ∧
  copyV Try.prog 38 (.slice (subAddr a2 c2 (Int.toNat i) 1) (Int.toNat (l2 : Int) - Int.toNat i) (c2 - Int.toNat i)) (.slice v vL vC) h2 fun v1 h3 =>
  InR (i + (vL : Int)) ∧
  (0 ≤ i + (vL : Int) ∧ i + (vL : Int) ≤ (l2 : Int) ∧ (l2 : Int) ≤ (c2 : Int)) ∧
  (0 ≤ i ∧ i ≤ (sL : Int) ∧ (sL : Int) ≤ (sC : Int)) ∧
  copyV Try.prog 38 (.slice (subAddr a2 c2 (Int.toNat (i + (vL : Int))) 1) (Int.toNat (l2 : Int) - Int.toNat (i + (vL : Int))) (c2 - Int.toNat (i + (vL : Int)))) (.slice (subAddr s sC (Int.toNat i) 1) (Int.toNat (sL : Int) - Int.toNat i) (sC - Int.toNat i)) h3 fun v2 h4 =>
  K (.slice a2 l2 c2) h4))
  (InR ((sL : Int) + (vL : Int)) ∧
  (0 ≤ (0 : Int) ∧ (0 : Int) ≤ (sL : Int) + (vL : Int) ∧ (sL : Int) + (vL : Int) ≤ (sC : Int)) ∧
  InR (i + (vL : Int)) ∧
  (0 ≤ i + (vL : Int) ∧ i + (vL : Int) ≤ ((Int.toNat ((sL : Int) + (vL : Int)) - Int.toNat (0 : Int) : Nat) : Int) ∧ ((Int.toNat ((sL : Int) + (vL : Int)) - Int.toNat (0 : Int) : Nat) : Int) ≤ ((sC - Int.toNat (0 : Int) : Nat) : Int)) ∧
  ExtCall Try.prog 87 #[.slice v vL vC, .slice (subAddr (subAddr s sC (Int.toNat (0 : Int)) 1) (sC - Int.toNat (0 : Int)) (Int.toNat (i + (vL : Int))) 1) (Int.toNat ((Int.toNat ((sL : Int) + (vL : Int)) - Int.toNat (0 : Int) : Nat) : Int) - Int.toNat (i + (vL : Int))) ((sC - Int.toNat (0 : Int)) - Int.toNat (i + (vL : Int)))] h fun v3 => ∃ r1 : Bool, v3 = .bool r1 ∧
  cond (!r1)
  (InR (i + (vL : Int)) ∧
  (0 ≤ i + (vL : Int) ∧ i + (vL : Int) ≤ ((Int.toNat ((sL : Int) + (vL : Int)) - Int.toNat (0 : Int) : Nat) : Int) ∧ ((Int.toNat ((sL : Int) + (vL : Int)) - Int.toNat (0 : Int) : Nat) : Int) ≤ ((sC - Int.toNat (0 : Int) : Nat) : Int)) ∧
  (0 ≤ i ∧ i ≤ ((Int.toNat ((sL : Int) + (vL : Int)) - Int.toNat (0 : Int) : Nat) : Int) ∧ ((Int.toNat ((sL : Int) + (vL : Int)) - Int.toNat (0 : Int) : Nat) : Int) ≤ ((sC - Int.toNat (0 : Int) : Nat) : Int)) ∧
  copyV Try.prog 38 (.slice (subAddr (subAddr s sC (Int.toNat (0 : Int)) 1) (sC - Int.toNat (0 : Int)) (Int.toNat (i + (vL : Int))) 1) (Int.toNat ((Int.toNat ((sL : Int) + (vL : Int)) - Int.toNat (0 : Int) : Nat) : Int) - Int.toNat (i + (vL : Int))) ((sC - Int.toNat (0 : Int)) - Int.toNat (i + (vL : Int)))) (.slice (subAddr (subAddr s sC (Int.toNat (0 : Int)) 1) (sC - Int.toNat (0 : Int)) (Int.toNat i) 1) (Int.toNat ((Int.toNat ((sL : Int) + (vL : Int)) - Int.toNat (0 : Int) : Nat) : Int) - Int.toNat i) ((sC - Int.toNat (0 : Int)) - Int.toNat i)) h fun v4 h6 =>
  (0 ≤ i ∧ i ≤ ((Int.toNat ((sL : Int) + (vL : Int)) - Int.toNat (0 : Int) : Nat) : Int) ∧ ((Int.toNat ((sL : Int) + (vL : Int)) - Int.toNat (0 : Int) : Nat) : Int) ≤ ((sC - Int.toNat (0 : Int) : Nat) : Int)) ∧
  copyV Try.prog 38 (.slice (subAddr (subAddr s sC (Int.toNat (0 : Int)) 1) (sC - Int.toNat (0 : Int)) (Int.toNat i) 1) (Int.toNat ((Int.toNat ((sL : Int) + (vL : Int)) - Int.toNat (0 : Int) : Nat) : Int) - Int.toNat i) ((sC - Int.toNat (0 : Int)) - Int.toNat i)) (.slice v vL vC) h6 fun v5 h7 =>
  K (.slice (subAddr s sC (Int.toNat (0 : Int)) 1) (Int.toNat ((sL : Int) + (vL : Int)) - Int.toNat (0 : Int)) (sC - Int.toNat (0 : Int))) h7)
  ((0 ≤ (sL : Int) ∧ (sL : Int) ≤ ((Int.toNat ((sL : Int) + (vL : Int)) - Int.toNat (0 : Int) : Nat) : Int) ∧ ((Int.toNat ((sL : Int) + (vL : Int)) - Int.toNat (0 : Int) : Nat) : Int) ≤ ((sC - Int.toNat (0 : Int) : Nat) : Int)) ∧
  copyV Try.prog 38 (.slice (subAddr (subAddr s sC (Int.toNat (0 : Int)) 1) (sC - Int.toNat (0 : Int)) (Int.toNat (sL : Int)) 1) (Int.toNat ((Int.toNat ((sL : Int) + (vL : Int)) - Int.toNat (0 : Int) : Nat) : Int) - Int.toNat (sL : Int)) ((sC - Int.toNat (0 : Int)) - Int.toNat (sL : Int))) (.slice v vL vC) h fun v6 h8 =>
  (0 ≤ i ∧ i ≤ ((Int.toNat ((sL : Int) + (vL : Int)) - Int.toNat (0 : Int) : Nat) : Int) ∧ ((Int.toNat ((sL : Int) + (vL : Int)) - Int.toNat (0 : Int) : Nat) : Int) ≤ ((sC - Int.toNat (0 : Int) : Nat) : Int)) ∧
  HCalls Try.prog 88 #[.slice (subAddr (subAddr s sC (Int.toNat (0 : Int)) 1) (sC - Int.toNat (0 : Int)) (Int.toNat i) 1) (Int.toNat ((Int.toNat ((sL : Int) + (vL : Int)) - Int.toNat (0 : Int) : Nat) : Int) - Int.toNat i) ((sC - Int.toNat (0 : Int)) - Int.toNat i), .int .i64 (vL : Int)] h8 fun v7 h9 => v7 = .tuple #[] ∧
  K (.slice (subAddr s sC (Int.toNat (0 : Int)) 1) (Int.toNat ((sL : Int) + (vL : Int)) - Int.toNat (0 : Int)) (sC - Int.toNat (0 : Int))) h9))))) := by kernel_rfl
theorem slices_Insert_Sint_int_call {s : Option Addr} {sL : Nat} {sC : Nat} {i : Int} {v : Option Addr} {vL : Nat} {vC : Nat} {h : Hp} {K : Value → Hp → Prop} (hk : slices_Insert_Sint_int_b0 s sL sC i v vL vC h K) : HCalls Try.prog 63 #[.slice s sL sC, .int .i64 i, .slice v vL vC] h K :=
  calls_of_snd slices_Insert_Sint_int_an Try.func63 (c := bodyOf Try.f63) rfl Try.ntmps63 (Nat.le_of_ble_eq_true rfl) (snd_1 F_ok F_mixed) hk

/-! ### slices_Insert_btree_node_btree_node -/
def slices_Insert_btree_node_btree_node_an : Ann := .node none (.leaf) (.node none (.leaf) (.node none (.leaf) (.node none (.leaf) (.node none (.leaf) (.node none (.leaf) (.node none (.node none (.leaf) (.node none (.node none (.leaf) (.node none (.leaf) (.node none (.tail 8) (.leaf)))) (.leaf))) (.node none (.leaf) (.node none (.node none (.leaf) (.node none (.node none (.tail 8) (.leaf)) (.leaf))) (.leaf)))))))))
def slices_Insert_btree_node_btree_node_K0  (K : Value → Hp → Prop) : Exit → Env → Hp → Prop := retK Try.prog Try.f64.results.toList K
def slices_Insert_btree_node_btree_node_b0 (s : Option Addr) (sL : Nat) (sC : Nat) (i : Int) (v : Option Addr) (vL : Nat) (vC : Nat) (h : Hp)  (K : Value → Hp → Prop) : Prop :=
  sx_1 Try.prog F 95 (cp [] (bodyOf Try.f64)) (ap [] slices_Insert_btree_node_btree_node_an) [(0, .slice s sL sC), (1, .int .i64 i), (2, .slice v vL vC)] h (slices_Insert_btree_node_btree_node_K0  K)
theorem slices_Insert_btree_node_btree_node_b0_eq (s : Option Addr) (sL : Nat) (sC : Nat) (i : Int) (v : Option Addr) (vL : Nat) (vC : Nat) (h : Hp)  (K : Value → Hp → Prop) : slices_Insert_btree_node_btree_node_b0 s sL sC i v vL vC h  K = (
  (0 ≤ i ∧ i ≤ (sL : Int) ∧ (sL : Int) ≤ (sC : Int)) ∧
  cond (decide ((vL : Int) = 0))
  (K (.slice s sL sC) h)
  (cond (decide (i = (sL : Int)))
  (appendV Try.prog 86 86 (.slice s sL sC) (.slice v vL vC) h (slK fun a1 l1 c1 h1 =>
  K (.slice a1 l1 c1) h1))
  (InR ((sL : Int) + (vL : Int)) ∧
  cond (decide ((sC : Int) < ((sL : Int) + (vL : Int))))
  ((0 ≤ (0 : Int) ∧ (0 : Int) ≤ i ∧ i ≤ (sC : Int)) ∧
  InR ((sL : Int) + (vL : Int)) ∧
  InR (((sL : Int) + (vL : Int)) - i) ∧
  appendV Try.prog 86 3 (.slice (subAddr s sC (Int.toNat (0 : Int)) 1) (Int.toNat i - Int.toNat (0 : Int)) (sC - Int.toNat (0 : Int))) (.int .i64 (((sL : Int) + (vL : Int)) - i)) h (slK fun a2 l2 c2 h2 =>
  (0 ≤ i ∧ i ≤ (l2 : Int) ∧ (l2 : Int) ≤ (c2 : Int)) ∧
  copyV Try.prog 86 (.slice (subAddr a2 c2 (Int.toNat i) 1) (Int.toNat (l2 : Int) - Int.toNat i) (c2 - Int.toNat i)) (.slice v vL vC) h2 fun v1 h3 =>
  InR (i + (vL : Int)) ∧
  (0 ≤ i + (vL : Int) ∧ i + (vL : Int) ≤ (l2 : Int) ∧ (l2 : Int) ≤ (c2 : Int)) ∧
  (0 ≤ i ∧ i ≤ (sL : Int) ∧ (sL : Int) ≤ (sC : Int)) ∧
  copyV Try.prog 86 (.slice (subAddr a2 c2 (Int.toNat (i + (vL : Int))) 1) (Int.toNat (l2 : Int) - Int.toNat (i + (vL : Int))) (c2 - Int.toNat (i + (vL : Int)))) (.slice (subAddr s sC (Int.toNat i) 1) (Int.toNat (sL : Int) - Int.toNat i) (sC - Int.toNat i)) h3 fun v2 h4 =>
  K (.slice a2 l2 c2) h4))
  (InR ((sL : Int) + (vL : Int)) ∧
  (0 ≤ (0 : Int) ∧ (0 : Int) ≤ (sL : Int) + (vL : Int) ∧ (sL : Int) + (vL : Int) ≤ (sC : Int)) ∧
  InR (i + (vL : Int)) ∧
  (0 ≤ i + (vL : Int) ∧ i + (vL : Int) ≤ ((Int.toNat ((sL : Int) + (vL : Int)) - Int.toNat (0 : Int) : Nat) : Int) ∧ ((Int.toNat ((sL : Int) + (vL : Int)) - Int.toNat (0 : Int) : Nat) : Int) ≤ ((sC - Int.toNat (0 : Int) : Nat) : Int)) ∧
  ExtCall Try.prog 89 #[.slice v vL vC, .slice (subAddr (subAddr s sC (Int.toNat (0 : Int)) 1) (sC - Int.toNat (0 : Int)) (Int.toNat (i + (vL : Int))) 1) (Int.toNat ((Int.toNat ((sL : Int) + (vL : Int)) - Int.toNat (0 : Int) : Nat) : Int) - Int.toNat (i + (vL : Int))) ((sC - Int.toNat (0 : Int)) - Int.toNat (i + (vL : Int)))] h fun v3 => ∃ r1 : Bool, v3 = .bool r1 ∧
  cond (!r1)
  (InR (i + (vL : Int)) ∧
  (0 ≤ i + (vL : Int) ∧ i + (vL : Int) ≤ ((Int.toNat ((sL : Int) + (vL : Int)) - Int.toNat (0 : Int) : Nat) : Int) ∧ ((Int.toNat ((sL : Int) + (vL : Int)) - Int.toNat (0 : Int) : Nat) : Int) ≤ ((sC - Int.toNat (0 : Int) : Nat) : Int)) ∧
  (0 ≤ i ∧ i ≤ ((Int.toNat ((sL : Int) + (vL : Int)) - Int.toNat (0 : Int) : Nat) : Int) ∧ ((Int.toNat ((sL : Int) + (vL : Int)) - Int.toNat (0 : Int) : Nat) : Int) ≤ ((sC - Int.toNat (0 : Int) : Nat) : Int)) ∧
  copyV Try.prog 86 (.slice (subAddr (subAddr s sC (Int.toNat (0 : Int)) 1) (sC - Int.toNat (0 : Int)) (Int.toNat (i + (vL : Int))) 1) (Int.toNat ((Int.toNat ((sL : Int) + (vL : Int)) - Int.toNat (0 : Int) : Nat) : Int) - Int.toNat (i + (vL : Int))) ((sC - Int.toNat (0 : Int)) - Int.toNat (i + (vL : Int)))) (.slice (subAddr (subAddr s sC (Int.toNat (0 : Int)) 1) (sC - Int.toNat (0 : Int)) (Int.toNat i) 1) (Int.toNat ((Int.toNat ((sL : Int) + (vL : Int)) - Int.toNat (0 : Int) : Nat) : Int) - Int.toNat i) ((sC - Int.toNat (0 : Int)) - Int.toNat i)) h fun v4 h6 =>
  (0 ≤ i ∧ i ≤ ((Int.toNat ((sL : Int) + (vL : Int)) - Int.toNat (0 : Int) : Nat) : Int) ∧ ((Int.toNat ((sL : Int) + (vL : Int)) - Int.toNat (0 : Int) : Nat) : Int) ≤ ((sC - Int.toNat (0 : Int) : Nat) : Int)) ∧
  copyV Try.prog 86 (.slice (subAddr (subAddr s sC (Int.toNat (0 : Int)) 1) (sC - Int.toNat (0 : Int)) (Int.toNat i) 1) (Int.toNat ((Int.toNat ((sL : Int) + (vL : Int)) - Int.toNat (0 : Int) : Nat) : Int) - Int.toNat i) ((sC - Int.toNat (0 : Int)) - Int.toNat i)) (.slice v vL vC) h6 fun v5 h7 =>
  K (.slice (subAddr s sC (Int.toNat (0 : Int)) 1) (Int.toNat ((sL : Int) + (vL : Int)) - Int.toNat (0 : Int)) (sC - Int.toNat (0 : Int))) h7)
  ((0 ≤ (sL : Int) ∧ (sL : Int) ≤ ((Int.toNat ((sL : Int) + (vL : Int)) - Int.toNat (0 : Int) : Nat) : Int) ∧ ((Int.toNat ((sL : Int) + (vL : Int)) - Int.toNat (0 : Int) : Nat) : Int) ≤ ((sC - Int.toNat (0 : Int) : Nat) : Int)) ∧
  copyV Try.prog 86 (.slice (subAddr (subAddr s sC (Int.toNat (0 : Int)) 1) (sC - Int.toNat (0 : Int)) (Int.toNat (sL : Int)) 1) (Int.toNat ((Int.toNat ((sL : Int) + (vL : Int)) - Int.toNat (0 : Int) : Nat) : Int) - Int.toNat (sL : Int)) ((sC - Int.toNat (0 : Int)) - Int.toNat (sL : Int))) (.slice v vL vC) h fun v6 h8 =>
  (0 ≤ i ∧ i ≤ ((Int.toNat ((sL : Int) + (vL : Int)) - Int.toNat (0 : Int) : Nat) : Int) ∧ ((Int.toNat ((sL : Int) + (vL : Int)) - Int.toNat (0 : Int) : Nat) : Int) ≤ ((sC - Int.toNat (0 : Int) : Nat) : Int)) ∧
  HCalls Try.prog 90 #[.slice (subAddr (subAddr s sC (Int.toNat (0 : Int)) 1) (sC - Int.toNat (0 : Int)) (Int.toNat i) 1) (Int.toNat ((Int.toNat ((sL : Int) + (vL : Int)) - Int.toNat (0 : Int) : Nat) : Int) - Int.toNat i) ((sC - Int.toNat (0 : Int)) - Int.toNat i), .int .i64 (vL : Int)] h8 fun v7 h9 => v7 = .tuple #[] ∧
  K (.slice (subAddr s sC (Int.toNat (0 : Int)) 1) (Int.toNat ((sL : Int) + (vL : Int)) - Int.toNat (0 : Int)) (sC - Int.toNat (0 : Int))) h9))))) := by kernel_rfl
theorem slices_Insert_btree_node_btree_node_call {s : Option Addr} {sL : Nat} {sC : Nat} {i : Int} {v : Option Addr} {vL : Nat} {vC : Nat} {h : Hp} {K : Value → Hp → Prop} (hk : slices_Insert_btree_node_btree_node_b0 s sL sC i v vL vC h K) : HCalls Try.prog 64 #[.slice s sL sC, .int .i64 i, .slice v vL vC] h K :=
  calls_of_snd slices_Insert_btree_node_btree_node_an Try.func64 (c := bodyOf Try.f64) rfl Try.ntmps64 (Nat.le_of_ble_eq_true rfl) (snd_1 F_ok F_mixed) hk

/-! ### btree_split -/
def btree_split_an : Ann := .node none (.leaf) (.node none (.leaf) (.node none (.leaf) (.node none (.plan (.qu 0 (.qu 1 (.qu 2 (.qu 3 (.qu 4 (.qu 5 (.qu 6 (.qu 8 (.qu 9 (.qu 10 (.qu 11 (.qu 12 (.qu 13 (.qu 14 (.wo 7 (.wo 15 (.qu 16 (.wo 17 (.wo 18 .fin .no) .no)) .no) .no)))))))))))))))) (.node (some [0, 5, 6, 7, 8]) (.leaf) (.node none (.plan (.qu 0 (.qu 1 (.qu 2 (.qu 3 (.qu 4 (.qu 5 (.qu 6 (.qu 7 (.qu 9 (.qu 10 (.qu 11 (.qu 12 (.qu 13 (.qu 14 (.wo 8 (.wo 15 (.qu 16 (.qu 17 (.wo 18 (.qu 19 (.qu 20 (.wo 21 .fin .no))) .no))) .no) .no)))))))))))))))) (.leaf))))))
def btree_split_K0  (K : Value → Hp → Prop) : Exit → Env → Hp → Prop := retK Try.prog Try.f65.results.toList K
def btree_split_b0 (nv : Option Addr) (h : Hp)  (K : Value → Hp → Prop) : Prop :=
  sx_2 Try.prog F 95 (cp [] (bodyOf Try.f65)) (ap [] btree_split_an) [(0, .pointer nv)] h (btree_split_K0  K)
def btree_split_b1 (nv : Option Addr) (m : Int) (key : Int) (value : Int) (right : Option Addr) (h : Hp)  (K : Value → Hp → Prop) : Prop :=
  sx_1 Try.prog F 95 (cp [1, 1, 1, 1, 1] (bodyOf Try.f65)) (ap [1, 1, 1, 1, 1] btree_split_an) [(0, .pointer nv), (5, .int .i64 m), (6, .int .i64 key), (7, .int .i64 value), (8, .pointer right)] h (btree_split_K0  K)
theorem btree_split_b0_eq (nv : Option Addr) (h : Hp)  (K : Value → Hp → Prop) : btree_split_b0 nv h  K = (
  NN nv fun a1 =>
  ∃ (a2 : Option Addr) (L1 C1 : Nat), cell h a1 = some (.slice a2 L1 C1) ∧
  ∃ q1 : Int, Sx.Quo .i64 (L1 : Int) 2 q1 ∧
  NN nv fun a3 =>
  ∃ (a4 : Option Addr) (L2 C2 : Nat), cell h a3 = some (.slice a4 L2 C2) ∧
  (0 ≤ q1 ∧ q1 < (L2 : Int)) ∧
  NN a4 fun a5 =>
  ∃ n1 : Int, cell h (a5.add (Int.toNat q1 * 1)) = some (.int .i64 n1) ∧
  NN nv fun a6 =>
  ∃ (a7 : Option Addr) (L3 C3 : Nat), cell h (a6.add 1) = some (.slice a7 L3 C3) ∧
  (0 ≤ q1 ∧ q1 < (L3 : Int)) ∧
  NN a7 fun a8 =>
  ∃ n2 : Int, cell h (a8.add (Int.toNat q1 * 1)) = some (.int .i64 n2) ∧
  NN nv fun a9 =>
  ∃ (a10 : Option Addr) (L4 C4 : Nat), cell h a9 = some (.slice a10 L4 C4) ∧
  InR (q1 + 1) ∧
  (0 ≤ q1 + 1 ∧ q1 + 1 ≤ (L4 : Int) ∧ (L4 : Int) ≤ (C4 : Int)) ∧
  NN nv fun a11 =>
  ∃ (a12 : Option Addr) (L5 C5 : Nat), cell h (a11.add 1) = some (.slice a12 L5 C5) ∧
  InR (q1 + 1) ∧
  (0 ≤ q1 + 1 ∧ q1 + 1 ≤ (L5 : Int) ∧ (L5 : Int) ≤ (C5 : Int)) ∧
  HCalls Try.prog 40 #[.slice (subAddr a10 C4 (Int.toNat (q1 + 1)) 1) (Int.toNat (L4 : Int) - Int.toNat (q1 + 1)) (C4 - Int.toNat (q1 + 1))] h fun v1 h1 => ∃ (r1 : Option Addr) (rL1 rC1 : Nat), v1 = .slice r1 rL1 rC1 ∧
  ((0 ≤ q1 + 1 ∧ q1 + 1 ≤ (L5 : Int) ∧ (L5 : Int) ≤ (C5 : Int)) ∧
  (.slice (subAddr a12 C5 (Int.toNat (q1 + 1)) 1) (Int.toNat (L5 : Int) - Int.toNat (q1 + 1)) (C5 - Int.toNat (q1 + 1)) : Value) = .slice (subAddr a12 C5 (Int.toNat (q1 + 1)) 1) (Int.toNat (L5 : Int) - Int.toNat (q1 + 1)) (C5 - Int.toNat (q1 + 1))) ∧
  (∃ (a13 : Option Addr) (L6 C6 : Nat), cell h1 (a11.add 1) = some (.slice a13 L6 C6) ∧
  (.slice a13 L6 C6 : Value) = .slice a12 L5 C5) ∧
  HCalls Try.prog 40 #[.slice (subAddr a12 C5 (Int.toNat (q1 + 1)) 1) (Int.toNat (L5 : Int) - Int.toNat (q1 + 1)) (C5 - Int.toNat (q1 + 1))] h1 fun v2 h2 => ∃ (r2 : Option Addr) (rL2 rC2 : Nat), v2 = .slice r2 rL2 rC2 ∧
  New h2 (.cells #[.slice r1 rL1 rC1, .slice r2 rL2 rC2, .slice none 0 0] 89) fun b1 h3 =>
  HCalls Try.prog 42 #[.pointer nv] h3 fun v3 h4 => ∃ r3 : Bool, v3 = .bool r3 ∧
  cond (!r3)
  (NN nv fun a14 =>
  ∃ (a15 : Option Addr) (L7 C7 : Nat), cell h4 (a14.add 2) = some (.slice a15 L7 C7) ∧
  InR (q1 + 1) ∧
  (0 ≤ q1 + 1 ∧ q1 + 1 ≤ (L7 : Int) ∧ (L7 : Int) ≤ (C7 : Int)) ∧
  HCalls Try.prog 91 #[.slice (subAddr a15 C7 (Int.toNat (q1 + 1)) 1) (Int.toNat (L7 : Int) - Int.toNat (q1 + 1)) (C7 - Int.toNat (q1 + 1))] h4 fun v4 h5 => ∃ (r4 : Option Addr) (rL3 rC3 : Nat), v4 = .slice r4 rL3 rC3 ∧
  Wr h5 ((⟨b1, 0, none⟩ : Addr).add 2) (.slice r4 rL3 rC3) fun h6 =>
  NN nv fun a16 =>
  ∃ (a17 : Option Addr) (L8 C8 : Nat), cell h6 (a16.add 2) = some (.slice a17 L8 C8) ∧
  InR (q1 + 1) ∧
  (0 ≤ (0 : Int) ∧ (0 : Int) ≤ q1 + 1 ∧ q1 + 1 ≤ (C8 : Int)) ∧
  HCalls Try.prog 91 #[.slice (subAddr a17 C8 (Int.toNat (0 : Int)) 1) (Int.toNat (q1 + 1) - Int.toNat (0 : Int)) (C8 - Int.toNat (0 : Int))] h6 fun v5 h7 => ∃ (r5 : Option Addr) (rL4 rC4 : Nat), v5 = .slice r5 rL4 rC4 ∧
  NN nv fun a18 =>
  Wr h7 (a18.add 2) (.slice r5 rL4 rC4) fun h8 =>
  btree_split_b1 nv q1 n1 n2 (some ⟨b1, 0, none⟩) h8  K)
  (btree_split_b1 nv q1 n1 n2 (some ⟨b1, 0, none⟩) h4  K)) := by kernel_rfl
theorem btree_split_b1_eq (nv : Option Addr) (m : Int) (key : Int) (value : Int) (right : Option Addr) (h : Hp)  (K : Value → Hp → Prop) : btree_split_b1 nv m key value right h  K = (
  NN nv fun a19 =>
  ∃ (a20 : Option Addr) (L9 C9 : Nat), cell h a19 = some (.slice a20 L9 C9) ∧
  (0 ≤ (0 : Int) ∧ (0 : Int) ≤ m ∧ m ≤ (C9 : Int)) ∧
  NN nv fun a21 =>
  ∃ (a22 : Option Addr) (L10 C10 : Nat), cell h (a21.add 1) = some (.slice a22 L10 C10) ∧
  (0 ≤ (0 : Int) ∧ (0 : Int) ≤ m ∧ m ≤ (C10 : Int)) ∧
  HCalls Try.prog 40 #[.slice (subAddr a20 C9 (Int.toNat (0 : Int)) 1) (Int.toNat m - Int.toNat (0 : Int)) (C9 - Int.toNat (0 : Int))] h fun v6 h9 => ∃ (r6 : Option Addr) (rL5 rC5 : Nat), v6 = .slice r6 rL5 rC5 ∧
  ((0 ≤ (0 : Int) ∧ (0 : Int) ≤ m ∧ m ≤ (C10 : Int)) ∧
  (.slice (subAddr a22 C10 (Int.toNat (0 : Int)) 1) (Int.toNat m - Int.toNat (0 : Int)) (C10 - Int.toNat (0 : Int)) : Value) = .slice (subAddr a22 C10 (Int.toNat (0 : Int)) 1) (Int.toNat m - Int.toNat (0 : Int)) (C10 - Int.toNat (0 : Int))) ∧
  (∃ (a23 : Option Addr) (L11 C11 : Nat), cell h9 (a21.add 1) = some (.slice a23 L11 C11) ∧
  (.slice a23 L11 C11 : Value) = .slice a22 L10 C10) ∧
  HCalls Try.prog 40 #[.slice (subAddr a22 C10 (Int.toNat (0 : Int)) 1) (Int.toNat m - Int.toNat (0 : Int)) (C10 - Int.toNat (0 : Int))] h9 fun v7 h10 => ∃ (r7 : Option Addr) (rL6 rC6 : Nat), v7 = .slice r7 rL6 rC6 ∧
  NN nv fun a24 =>
  Wr h10 a24 (.slice r6 rL5 rC5) fun h11 =>
  NN nv fun a25 =>
  Wr h11 (a25.add 1) (.slice r7 rL6 rC6) fun h12 =>
  K (.tuple #[.int .i64 key, .int .i64 value, .pointer right]) h12) := by kernel_rfl
theorem btree_split_call {nv : Option Addr} {h : Hp} {K : Value → Hp → Prop} (hk : btree_split_b0 nv h K) : HCalls Try.prog 65 #[.pointer nv] h K :=
  calls_of_snd btree_split_an Try.func65 (c := bodyOf Try.f65) rfl Try.ntmps65 (Nat.le_of_ble_eq_true rfl) (snd_2 F_ok F_mixed) hk

/-! ### r43_node -/
def r43_node_an : Ann := .node none (.leaf) (.node (some []) (.leaf) (.leaf))
def r43_node_K0  (K : Value → Hp → Prop) : Exit → Env → Hp → Prop := retK Try.prog Try.f66.results.toList K
def r43_node_b0 (order : Int) (l : Option Addr) (lL : Nat) (lC : Nat) (root : Bool) (h : Hp)  (K : Value → Hp → Prop) : Prop :=
  sx_2 Try.prog F 31 (cp [] (bodyOf Try.f66)) (ap [] r43_node_an) [(0, .int .i64 order), (1, .slice l lL lC), (2, .bool root)] h (r43_node_K0  K)
def r43_node_b1  (h : Hp)  (K : Value → Hp → Prop) : Prop :=
  sx_1 Try.prog F 31 (cp [1, 1] (bodyOf Try.f66)) (ap [1, 1] r43_node_an) [] h (r43_node_K0  K)
theorem r43_node_b0_eq (order : Int) (l : Option Addr) (lL : Nat) (lC : Nat) (root : Bool) (h : Hp)  (K : Value → Hp → Prop) : r43_node_b0 order l lL lC root h  K = (
  InR (order - 1) ∧
  cond (decide ((order - 1) < (lL : Int)))
  (K (.bool false) h)
  (cond (decide ((lL : Int) < 1))
  (cond root
  (K (.bool false) h)
  (HCalls Try.prog 92 #[.int .i64 order] h fun v1 h1 => ∃ r1 : Int, v1 = .int .i64 r1 ∧
  cond (decide ((lL : Int) < r1))
  (cond (!root)
  (K (.bool false) h1)
  (r43_node_b1  h1  K))
  (r43_node_b1  h1  K)))
  (HCalls Try.prog 92 #[.int .i64 order] h fun v2 h2 => ∃ r2 : Int, v2 = .int .i64 r2 ∧
  cond (decide ((lL : Int) < r2))
  (cond (!root)
  (K (.bool false) h2)
  (r43_node_b1  h2  K))
  (r43_node_b1  h2  K)))) := by kernel_rfl
theorem r43_node_b1_eq  (h : Hp)  (K : Value → Hp → Prop) : r43_node_b1  h  K = (
  K (.bool true) h) := by kernel_rfl
theorem r43_node_call {order : Int} {l : Option Addr} {lL : Nat} {lC : Nat} {root : Bool} {h : Hp} {K : Value → Hp → Prop} (hk : r43_node_b0 order l lL lC root h K) : HCalls Try.prog 66 #[.int .i64 order, .slice l lL lC, .bool root] h K :=
  calls_of_snd r43_node_an Try.func66 (c := bodyOf Try.f66) rfl Try.ntmps66 (Nat.le_of_ble_eq_true rfl) (snd_2 F_ok F_mixed) hk

/-! ### slices_BinarySearch_Sint_int -/
def slices_BinarySearch_Sint_int_an : Ann := .node none (.leaf) (.node none (.leaf) (.node none (.leaf) (.node (some [0, 1, 6, 7]) (.loop [0, 1, 6] [(7, .int .i64), (8, .int .i64)] (.leaf)) (.leaf))))
def slices_BinarySearch_Sint_int_K0  (K : Value → Hp → Prop) : Exit → Env → Hp → Prop := retK Try.prog Try.f67.results.toList K
def slices_BinarySearch_Sint_int_K1  (K : Value → Hp → Prop) : Exit → Env → Hp → Prop := thenE (fun env h => sx_1 Try.prog F 54 (cp [1, 1, 1, 1] (bodyOf Try.f67)) (ap [1, 1, 1, 1] slices_BinarySearch_Sint_int_an) (rs [0, 1, 6, 7] env) h (slices_BinarySearch_Sint_int_K0  K)) (slices_BinarySearch_Sint_int_K0  K)
def slices_BinarySearch_Sint_int_K2  (K : Value → Hp → Prop) : Exit → Env → Hp → Prop := blockE 0 (slices_BinarySearch_Sint_int_K1  K)
def slices_BinarySearch_Sint_int_K3 (nx0 : Int × Int × Unit → Hp → Prop) (K : Value → Hp → Prop) : Exit → Env → Hp → Prop := thenE (fun env h => getV [(7, .int .i64), (8, .int .i64)] env fun s => nx0 s h) (slices_BinarySearch_Sint_int_K2  K)
def slices_BinarySearch_Sint_int_b0 (x : Option Addr) (xL : Nat) (xC : Nat) (target : Int) (h : Hp)  (K : Value → Hp → Prop) : Prop :=
  sx_2 Try.prog F 54 (cp [] (bodyOf Try.f67)) (ap [] slices_BinarySearch_Sint_int_an) [(0, .slice x xL xC), (1, .int .i64 target)] h (slices_BinarySearch_Sint_int_K0  K)
def slices_BinarySearch_Sint_int_b1 (i : Int) (j : Int) (x : Option Addr) (xL : Nat) (xC : Nat) (target : Int) (nv : Int) (h : Hp) (nx0 : Int × Int × Unit → Hp → Prop) (K : Value → Hp → Prop) : Prop :=
  sx_1 Try.prog F 54 (cp [1, 1, 1, 0, 2, 2] (bodyOf Try.f67)) (ap [1, 1, 1, 0, 2] slices_BinarySearch_Sint_int_an) [(7, .int .i64 i), (8, .int .i64 j), (0, .slice x xL xC), (1, .int .i64 target), (6, .int .i64 nv)] h (slices_BinarySearch_Sint_int_K3 nx0 K)
def slices_BinarySearch_Sint_int_b2 (x : Option Addr) (xL : Nat) (xC : Nat) (target : Int) (nv : Int) (i : Int) (h : Hp)  (K : Value → Hp → Prop) : Prop :=
  sx_1 Try.prog F 54 (cp [1, 1, 1, 1] (bodyOf Try.f67)) (ap [1, 1, 1, 1] slices_BinarySearch_Sint_int_an) [(0, .slice x xL xC), (1, .int .i64 target), (6, .int .i64 nv), (7, .int .i64 i)] h (slices_BinarySearch_Sint_int_K0  K)
theorem slices_BinarySearch_Sint_int_b0_eq (x : Option Addr) (xL : Nat) (xC : Nat) (target : Int) (h : Hp)  (K : Value → Hp → Prop) : slices_BinarySearch_Sint_int_b0 x xL xC target h  K = (
  LoopVC ((0, (xL : Int), ()) : Int × Int × Unit) h (fun (nx0 : Int × Int × Unit → Hp → Prop) (s1 : Int × Int × Unit) h1 => slices_BinarySearch_Sint_int_b1 s1.1 s1.2.1 x xL xC target (xL : Int) h1 nx0 K)) := by kernel_rfl
theorem slices_BinarySearch_Sint_int_b1_eq (i : Int) (j : Int) (x : Option Addr) (xL : Nat) (xC : Nat) (target : Int) (nv : Int) (h : Hp) (nx0 : Int × Int × Unit → Hp → Prop) (K : Value → Hp → Prop) : slices_BinarySearch_Sint_int_b1 i j x xL xC target nv h nx0 K = (
  cond (decide (i < j))
  (InR (i + j) ∧
  ∃ sr1 : Int, Sx.Shr .u64 (IntKind.u64.wrap (i + j)) 1 sr1 ∧
  InR sr1 ∧
  (0 ≤ sr1 ∧ sr1 < (xL : Int)) ∧
  NN x fun a1 =>
  ∃ n1 : Int, cell h (a1.add (Int.toNat sr1 * 1)) = some (.int .i64 n1) ∧
  HCalls Try.prog 93 #[.int .i64 n1, .int .i64 target] h fun v1 h2 => ∃ r1 : Bool, v1 = .bool r1 ∧
  cond r1
  (InR (sr1 + 1) ∧
  nx0 (sr1 + 1, j, ()) h2)
  (nx0 (i, sr1, ()) h2))
  (slices_BinarySearch_Sint_int_b2 x xL xC target nv i h  K)) := by kernel_rfl
theorem slices_BinarySearch_Sint_int_b2_eq (x : Option Addr) (xL : Nat) (xC : Nat) (target : Int) (nv : Int) (i : Int) (h : Hp)  (K : Value → Hp → Prop) : slices_BinarySearch_Sint_int_b2 x xL xC target nv i h  K = (
  cond (decide (i < nv))
  ((0 ≤ i ∧ i < (xL : Int)) ∧
  NN x fun a2 =>
  ∃ n2 : Int, cell h (a2.add (Int.toNat i * 1)) = some (.int .i64 n2) ∧
  cond (decide (n2 = target))
  (K (.tuple #[.int .i64 i, .bool true]) h)
  ((0 ≤ i ∧ i < (xL : Int)) ∧
  NN x fun a3 =>
  ∃ n3 : Int, cell h (a3.add (Int.toNat i * 1)) = some (.int .i64 n3) ∧
  HCalls Try.prog 94 #[.int .i64 n3] h fun v2 h3 => ∃ r2 : Bool, v2 = .bool r2 ∧
  cond r2
  (HCalls Try.prog 94 #[.int .i64 target] h3 fun v3 h4 => ∃ r3 : Bool, v3 = .bool r3 ∧
  K (.tuple #[.int .i64 i, .bool r3]) h4)
  (K (.tuple #[.int .i64 i, .bool false]) h3)))
  (K (.tuple #[.int .i64 i, .bool false]) h)) := by kernel_rfl
theorem slices_BinarySearch_Sint_int_call {x : Option Addr} {xL : Nat} {xC : Nat} {target : Int} {h : Hp} {K : Value → Hp → Prop} (hk : slices_BinarySearch_Sint_int_b0 x xL xC target h K) : HCalls Try.prog 67 #[.slice x xL xC, .int .i64 target] h K :=
  calls_of_snd slices_BinarySearch_Sint_int_an Try.func67 (c := bodyOf Try.f67) rfl Try.ntmps67 (Nat.le_of_ble_eq_true rfl) (snd_2 F_ok F_mixed) hk

end Go.Proofs.Ytaemnjblcpknpaa
