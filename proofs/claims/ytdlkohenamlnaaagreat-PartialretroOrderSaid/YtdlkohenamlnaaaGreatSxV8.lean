/- Plain statements of what each block of code of this seat asks; printed by a program, checked by Lean. -/
import Derived.Test.YtdlkohenamlnaaaGreatSxV0
set_option maxRecDepth 10000
namespace Go.Proofs.YtdlkohenamlnaaaGreat
open Go Go.Sx

/-! ### slices_partialInsertionSortCmpFunc_l35_Step -/
def slices_partialInsertionSortCmpFunc_l35_Step_an : Ann := .node none (.leaf) (.node none (.leaf) (.node (some []) (.node none (.leaf) (.loop [0, 1, 2, 3] [(9, .int .i64), (10, .int .i64)] (.node none (.leaf) (.node (some [0, 1, 2, 3, 9, 10]) (.node (some [0, 1, 2, 3, 9, 10]) (.loop [0, 1, 2, 3, 10] [(9, .int .i64)] (.node (some [0, 1, 2, 3, 9, 10]) (.node none (.tail 14) (.leaf)) (.leaf))) (.node none (.leaf) (.node none (.leaf) (.node none (.plan (.qu 0 (.qu 1 (.qu 2 (.qu 3 (.qu 4 (.qu 5 (.qu 6 (.qu 7 (.qu 8 (.qu 9 (.qu 10 (.qu 11 (.qu 12 (.qu 13 (.qu 14 (.wo 15 (.qu 16 (.wo 17 .fin .no)) .no))))))))))))))))) (.node (some [0, 1, 2, 3, 9, 10]) (.node none (.leaf) (.node none (.node none (.leaf) (.loop [0, 1, 2, 3, 9, 10] [(11, .int .i64)] (.node none (.leaf) (.node (some [0, 1, 2, 3, 9, 10, 11]) (.node none (.node none (.tail 10) (.leaf)) (.plan (.qu 0 (.qu 1 (.qu 2 (.qu 3 (.qu 4 (.qu 5 (.qu 6 (.qu 7 (.qu 8 (.qu 9 (.qu 10 (.qu 11 (.qu 12 (.qu 13 (.qu 14 (.wo 15 (.qu 16 (.wo 17 .fin .no)) .no)))))))))))))))))) (.leaf))))) (.leaf))) (.node none (.leaf) (.node none (.node none (.leaf) (.loop [0, 1, 2, 3, 9, 10] [(12, .int .i64)] (.node none (.leaf) (.node (some [0, 1, 2, 3, 9, 10, 12]) (.node none (.node none (.tail 10) (.leaf)) (.plan (.qu 0 (.qu 1 (.qu 2 (.qu 3 (.qu 4 (.qu 5 (.qu 6 (.qu 7 (.qu 8 (.qu 9 (.qu 10 (.qu 11 (.qu 12 (.qu 13 (.qu 14 (.wo 15 (.qu 16 (.wo 17 .fin .no)) .no)))))))))))))))))) (.leaf))))) (.leaf)))))))) (.leaf))))) (.leaf)))
def slices_partialInsertionSortCmpFunc_l35_Step_K0  (K : Value → Hp → Prop) : Exit → Env → Hp → Prop := retK Tryz.prog Tryz.f129.results.toList K
def slices_partialInsertionSortCmpFunc_l35_Step_K1  (K : Value → Hp → Prop) : Exit → Env → Hp → Prop := thenE (fun env h => sx_5 Tryz.prog F 141 (cp [1, 1, 1] (bodyOf Tryz.f129)) (ap [1, 1, 1] slices_partialInsertionSortCmpFunc_l35_Step_an) (rs [] env) h (slices_partialInsertionSortCmpFunc_l35_Step_K0  K)) (slices_partialInsertionSortCmpFunc_l35_Step_K0  K)
def slices_partialInsertionSortCmpFunc_l35_Step_K2  (K : Value → Hp → Prop) : Exit → Env → Hp → Prop := blockE 0 (slices_partialInsertionSortCmpFunc_l35_Step_K1  K)
def slices_partialInsertionSortCmpFunc_l35_Step_K3 (nx0 : Int × Int × Unit → Hp → Prop) (K : Value → Hp → Prop) : Exit → Env → Hp → Prop := thenE (fun env h => getV [(9, .int .i64), (10, .int .i64)] env fun s => nx0 s h) (slices_partialInsertionSortCmpFunc_l35_Step_K2  K)
def slices_partialInsertionSortCmpFunc_l35_Step_K4 (nx0 : Int × Int × Unit → Hp → Prop) (K : Value → Hp → Prop) : Exit → Env → Hp → Prop := thenE (fun env h => sx_4 Tryz.prog F 141 (cp [1, 1, 0, 1, 2, 2, 1, 1] (bodyOf Tryz.f129)) (ap [1, 1, 0, 1, 2, 1, 1] slices_partialInsertionSortCmpFunc_l35_Step_an) (rs [0, 1, 2, 3, 9, 10] env) h (slices_partialInsertionSortCmpFunc_l35_Step_K3 nx0 K)) (slices_partialInsertionSortCmpFunc_l35_Step_K3 nx0 K)
def slices_partialInsertionSortCmpFunc_l35_Step_K5 (nx0 : Int × Int × Unit → Hp → Prop) (K : Value → Hp → Prop) : Exit → Env → Hp → Prop := blockE 1 (slices_partialInsertionSortCmpFunc_l35_Step_K4 nx0 K)
def slices_partialInsertionSortCmpFunc_l35_Step_K6 (nx0 : Int × Int × Unit → Hp → Prop) (K : Value → Hp → Prop) : Exit → Env → Hp → Prop := thenE (fun env h => sx_4 Tryz.prog F 141 (cp [1, 1, 0, 1, 2, 2, 1, 0, 2, 1] (bodyOf Tryz.f129)) (ap [1, 1, 0, 1, 2, 1, 0, 1] slices_partialInsertionSortCmpFunc_l35_Step_an) (rs [0, 1, 2, 3, 9, 10] env) h (slices_partialInsertionSortCmpFunc_l35_Step_K5 nx0 K)) (slices_partialInsertionSortCmpFunc_l35_Step_K5 nx0 K)
def slices_partialInsertionSortCmpFunc_l35_Step_K7 (nx0 : Int × Int × Unit → Hp → Prop) (K : Value → Hp → Prop) : Exit → Env → Hp → Prop := blockE 2 (slices_partialInsertionSortCmpFunc_l35_Step_K6 nx0 K)
def slices_partialInsertionSortCmpFunc_l35_Step_K8 (nx0 : Int × Int × Unit → Hp → Prop) (nx1 : Int × Unit → Hp → Prop) (K : Value → Hp → Prop) : Exit → Env → Hp → Prop := thenE (fun env h => getV [(9, .int .i64)] env fun s => nx1 s h) (slices_partialInsertionSortCmpFunc_l35_Step_K7 nx0 K)
def slices_partialInsertionSortCmpFunc_l35_Step_K9 (nx0 : Int × Int × Unit → Hp → Prop) (K : Value → Hp → Prop) : Exit → Env → Hp → Prop := thenE (fun env h => sx_3 Tryz.prog F 141 (cp [1, 1, 0, 1, 2, 2, 1, 0, 2, 1, 1, 1, 1, 1] (bodyOf Tryz.f129)) (ap [1, 1, 0, 1, 2, 1, 0, 1, 1, 1, 1, 1] slices_partialInsertionSortCmpFunc_l35_Step_an) (rs [0, 1, 2, 3, 9, 10] env) h (slices_partialInsertionSortCmpFunc_l35_Step_K5 nx0 K)) (slices_partialInsertionSortCmpFunc_l35_Step_K5 nx0 K)
def slices_partialInsertionSortCmpFunc_l35_Step_K10 (nx0 : Int × Int × Unit → Hp → Prop) (K : Value → Hp → Prop) : Exit → Env → Hp → Prop := blockE 4 (slices_partialInsertionSortCmpFunc_l35_Step_K9 nx0 K)
def slices_partialInsertionSortCmpFunc_l35_Step_K11 (nx0 : Int × Int × Unit → Hp → Prop) (nx1 : Int × Unit → Hp → Prop) (K : Value → Hp → Prop) : Exit → Env → Hp → Prop := thenE (fun env h => getV [(11, .int .i64)] env fun s => nx1 s h) (slices_partialInsertionSortCmpFunc_l35_Step_K10 nx0 K)
def slices_partialInsertionSortCmpFunc_l35_Step_K12 (nx0 : Int × Int × Unit → Hp → Prop) (K : Value → Hp → Prop) : Exit → Env → Hp → Prop := blockE 6 (slices_partialInsertionSortCmpFunc_l35_Step_K5 nx0 K)
def slices_partialInsertionSortCmpFunc_l35_Step_K13 (nx0 : Int × Int × Unit → Hp → Prop) (nx1 : Int × Unit → Hp → Prop) (K : Value → Hp → Prop) : Exit → Env → Hp → Prop := thenE (fun env h => getV [(12, .int .i64)] env fun s => nx1 s h) (slices_partialInsertionSortCmpFunc_l35_Step_K12 nx0 K)
def slices_partialInsertionSortCmpFunc_l35_Step_b0 (data : Option Addr) (dataL : Nat) (dataC : Nat) (a : Int) (b : Int) (cmp : Value) (h : Hp)  (K : Value → Hp → Prop) : Prop :=
  sx_6 Tryz.prog F 141 (cp [] (bodyOf Tryz.f129)) (ap [] slices_partialInsertionSortCmpFunc_l35_Step_an) [(0, .slice data dataL dataC), (1, .int .i64 a), (2, .int .i64 b), (3, cmp)] h (slices_partialInsertionSortCmpFunc_l35_Step_K0  K)
def slices_partialInsertionSortCmpFunc_l35_Step_b1 (i : Int) (j : Int) (data : Option Addr) (dataL : Nat) (dataC : Nat) (a : Int) (b : Int) (cmp : Value) (h : Hp) (nx0 : Int × Int × Unit → Hp → Prop) (K : Value → Hp → Prop) : Prop :=
  sx_5 Tryz.prog F 141 (cp [1, 1, 0, 1, 2, 2] (bodyOf Tryz.f129)) (ap [1, 1, 0, 1, 2] slices_partialInsertionSortCmpFunc_l35_Step_an) [(9, .int .i64 i), (10, .int .i64 j), (0, .slice data dataL dataC), (1, .int .i64 a), (2, .int .i64 b), (3, cmp)] h (slices_partialInsertionSortCmpFunc_l35_Step_K3 nx0 K)
def slices_partialInsertionSortCmpFunc_l35_Step_b2 (i : Int) (data : Option Addr) (dataL : Nat) (dataC : Nat) (a : Int) (b : Int) (cmp : Value) (j : Int) (h : Hp) (nx0 : Int × Int × Unit → Hp → Prop) (nx1 : Int × Unit → Hp → Prop) (K : Value → Hp → Prop) : Prop :=
  sx_4 Tryz.prog F 141 (cp [1, 1, 0, 1, 2, 2, 1, 0, 2, 0, 2, 2] (bodyOf Tryz.f129)) (ap [1, 1, 0, 1, 2, 1, 0, 0, 2] slices_partialInsertionSortCmpFunc_l35_Step_an) [(9, .int .i64 i), (0, .slice data dataL dataC), (1, .int .i64 a), (2, .int .i64 b), (3, cmp), (10, .int .i64 j)] h (slices_partialInsertionSortCmpFunc_l35_Step_K8 nx0 nx1 K)
def slices_partialInsertionSortCmpFunc_l35_Step_b3  (h : Hp)  (K : Value → Hp → Prop) : Prop :=
  sx_5 Tryz.prog F 141 (cp [1, 1, 1] (bodyOf Tryz.f129)) (ap [1, 1, 1] slices_partialInsertionSortCmpFunc_l35_Step_an) [] h (slices_partialInsertionSortCmpFunc_l35_Step_K0  K)
def slices_partialInsertionSortCmpFunc_l35_Step_b4 (data : Option Addr) (dataL : Nat) (dataC : Nat) (a : Int) (b : Int) (cmp : Value) (i : Int) (j : Int) (h : Hp) (nx0 : Int × Int × Unit → Hp → Prop) (nx1 : Int × Unit → Hp → Prop) (K : Value → Hp → Prop) : Prop :=
  sx_3 Tryz.prog F 141 (cp [1, 1, 0, 1, 2, 2, 1, 0, 2, 0, 2, 2, 1] (bodyOf Tryz.f129)) (ap [1, 1, 0, 1, 2, 1, 0, 0, 2, 1] slices_partialInsertionSortCmpFunc_l35_Step_an) [(0, .slice data dataL dataC), (1, .int .i64 a), (2, .int .i64 b), (3, cmp), (9, .int .i64 i), (10, .int .i64 j)] h (slices_partialInsertionSortCmpFunc_l35_Step_K8 nx0 nx1 K)
def slices_partialInsertionSortCmpFunc_l35_Step_b5 (data : Option Addr) (dataL : Nat) (dataC : Nat) (a : Int) (b : Int) (cmp : Value) (i : Int) (j : Int) (h : Hp) (nx0 : Int × Int × Unit → Hp → Prop) (K : Value → Hp → Prop) : Prop :=
  sx_4 Tryz.prog F 141 (cp [1, 1, 0, 1, 2, 2, 1, 0, 2, 1] (bodyOf Tryz.f129)) (ap [1, 1, 0, 1, 2, 1, 0, 1] slices_partialInsertionSortCmpFunc_l35_Step_an) [(0, .slice data dataL dataC), (1, .int .i64 a), (2, .int .i64 b), (3, cmp), (9, .int .i64 i), (10, .int .i64 j)] h (slices_partialInsertionSortCmpFunc_l35_Step_K5 nx0 K)
def slices_partialInsertionSortCmpFunc_l35_Step_b6 (j : Int) (data : Option Addr) (dataL : Nat) (dataC : Nat) (a : Int) (b : Int) (cmp : Value) (i : Int) (j_10 : Int) (h : Hp) (nx0 : Int × Int × Unit → Hp → Prop) (nx1 : Int × Unit → Hp → Prop) (K : Value → Hp → Prop) : Prop :=
  sx_3 Tryz.prog F 141 (cp [1, 1, 0, 1, 2, 2, 1, 0, 2, 1, 1, 1, 1, 0, 1, 0, 1, 2, 2] (bodyOf Tryz.f129)) (ap [1, 1, 0, 1, 2, 1, 0, 1, 1, 1, 1, 0, 1, 0, 1, 2] slices_partialInsertionSortCmpFunc_l35_Step_an) [(11, .int .i64 j), (0, .slice data dataL dataC), (1, .int .i64 a), (2, .int .i64 b), (3, cmp), (9, .int .i64 i), (10, .int .i64 j_10)] h (slices_partialInsertionSortCmpFunc_l35_Step_K11 nx0 nx1 K)
def slices_partialInsertionSortCmpFunc_l35_Step_b7 (data : Option Addr) (dataL : Nat) (dataC : Nat) (a : Int) (b : Int) (cmp : Value) (i : Int) (j : Int) (h : Hp) (nx0 : Int × Int × Unit → Hp → Prop) (K : Value → Hp → Prop) : Prop :=
  sx_3 Tryz.prog F 141 (cp [1, 1, 0, 1, 2, 2, 1, 0, 2, 1, 1, 1, 1, 1] (bodyOf Tryz.f129)) (ap [1, 1, 0, 1, 2, 1, 0, 1, 1, 1, 1, 1] slices_partialInsertionSortCmpFunc_l35_Step_an) [(0, .slice data dataL dataC), (1, .int .i64 a), (2, .int .i64 b), (3, cmp), (9, .int .i64 i), (10, .int .i64 j)] h (slices_partialInsertionSortCmpFunc_l35_Step_K5 nx0 K)
def slices_partialInsertionSortCmpFunc_l35_Step_b8 (data : Option Addr) (dataL : Nat) (dataC : Nat) (a : Int) (b : Int) (cmp : Value) (i : Int) (j : Int) (j_11 : Int) (h : Hp) (nx0 : Int × Int × Unit → Hp → Prop) (nx1 : Int × Unit → Hp → Prop) (K : Value → Hp → Prop) : Prop :=
  sx_2 Tryz.prog F 141 (cp [1, 1, 0, 1, 2, 2, 1, 0, 2, 1, 1, 1, 1, 0, 1, 0, 1, 2, 2, 1, 1] (bodyOf Tryz.f129)) (ap [1, 1, 0, 1, 2, 1, 0, 1, 1, 1, 1, 0, 1, 0, 1, 2, 1, 1] slices_partialInsertionSortCmpFunc_l35_Step_an) [(0, .slice data dataL dataC), (1, .int .i64 a), (2, .int .i64 b), (3, cmp), (9, .int .i64 i), (10, .int .i64 j), (11, .int .i64 j_11)] h (slices_partialInsertionSortCmpFunc_l35_Step_K11 nx0 nx1 K)
def slices_partialInsertionSortCmpFunc_l35_Step_b9 (j : Int) (data : Option Addr) (dataL : Nat) (dataC : Nat) (a : Int) (b : Int) (cmp : Value) (i : Int) (j_10 : Int) (h : Hp) (nx0 : Int × Int × Unit → Hp → Prop) (nx1 : Int × Unit → Hp → Prop) (K : Value → Hp → Prop) : Prop :=
  sx_2 Tryz.prog F 141 (cp [1, 1, 0, 1, 2, 2, 1, 0, 2, 1, 1, 1, 1, 1, 1, 0, 1, 2, 2] (bodyOf Tryz.f129)) (ap [1, 1, 0, 1, 2, 1, 0, 1, 1, 1, 1, 1, 1, 0, 1, 2] slices_partialInsertionSortCmpFunc_l35_Step_an) [(12, .int .i64 j), (0, .slice data dataL dataC), (1, .int .i64 a), (2, .int .i64 b), (3, cmp), (9, .int .i64 i), (10, .int .i64 j_10)] h (slices_partialInsertionSortCmpFunc_l35_Step_K13 nx0 nx1 K)
def slices_partialInsertionSortCmpFunc_l35_Step_b10 (data : Option Addr) (dataL : Nat) (dataC : Nat) (a : Int) (b : Int) (cmp : Value) (i : Int) (j : Int) (h : Hp) (nx0 : Int × Int × Unit → Hp → Prop) (K : Value → Hp → Prop) : Prop :=
  sx_4 Tryz.prog F 141 (cp [1, 1, 0, 1, 2, 2, 1, 1] (bodyOf Tryz.f129)) (ap [1, 1, 0, 1, 2, 1, 1] slices_partialInsertionSortCmpFunc_l35_Step_an) [(0, .slice data dataL dataC), (1, .int .i64 a), (2, .int .i64 b), (3, cmp), (9, .int .i64 i), (10, .int .i64 j)] h (slices_partialInsertionSortCmpFunc_l35_Step_K3 nx0 K)
def slices_partialInsertionSortCmpFunc_l35_Step_b11 (data : Option Addr) (dataL : Nat) (dataC : Nat) (a : Int) (b : Int) (cmp : Value) (i : Int) (j : Int) (j_12 : Int) (h : Hp) (nx0 : Int × Int × Unit → Hp → Prop) (nx1 : Int × Unit → Hp → Prop) (K : Value → Hp → Prop) : Prop :=
  sx_1 Tryz.prog F 141 (cp [1, 1, 0, 1, 2, 2, 1, 0, 2, 1, 1, 1, 1, 1, 1, 0, 1, 2, 2, 1, 1] (bodyOf Tryz.f129)) (ap [1, 1, 0, 1, 2, 1, 0, 1, 1, 1, 1, 1, 1, 0, 1, 2, 1, 1] slices_partialInsertionSortCmpFunc_l35_Step_an) [(0, .slice data dataL dataC), (1, .int .i64 a), (2, .int .i64 b), (3, cmp), (9, .int .i64 i), (10, .int .i64 j), (12, .int .i64 j_12)] h (slices_partialInsertionSortCmpFunc_l35_Step_K13 nx0 nx1 K)
theorem slices_partialInsertionSortCmpFunc_l35_Step_b0_eq (data : Option Addr) (dataL : Nat) (dataC : Nat) (a : Int) (b : Int) (cmp : Value) (h : Hp)  (K : Value → Hp → Prop) : slices_partialInsertionSortCmpFunc_l35_Step_b0 data dataL dataC a b cmp h  K = (
  InR (a + 1) ∧
  LoopVC ((a + 1, 0, ()) : Int × Int × Unit) h (fun (nx0 : Int × Int × Unit → Hp → Prop) (s1 : Int × Int × Unit) h1 => slices_partialInsertionSortCmpFunc_l35_Step_b1 s1.1 s1.2.1 data dataL dataC a b cmp h1 nx0 K)) := by kernel_rfl
theorem slices_partialInsertionSortCmpFunc_l35_Step_b1_eq (i : Int) (j : Int) (data : Option Addr) (dataL : Nat) (dataC : Nat) (a : Int) (b : Int) (cmp : Value) (h : Hp) (nx0 : Int × Int × Unit → Hp → Prop) (K : Value → Hp → Prop) : slices_partialInsertionSortCmpFunc_l35_Step_b1 i j data dataL dataC a b cmp h nx0 K = (
  cond (decide (j < 5))
  (LoopVC ((i, ()) : Int × Unit) h (fun (nx1 : Int × Unit → Hp → Prop) (s2 : Int × Unit) h2 => slices_partialInsertionSortCmpFunc_l35_Step_b2 s2.1 data dataL dataC a b cmp j h2 nx0 nx1 K))
  (slices_partialInsertionSortCmpFunc_l35_Step_b3  h  K)) := by kernel_rfl
theorem slices_partialInsertionSortCmpFunc_l35_Step_b2_eq (i : Int) (data : Option Addr) (dataL : Nat) (dataC : Nat) (a : Int) (b : Int) (cmp : Value) (j : Int) (h : Hp) (nx0 : Int × Int × Unit → Hp → Prop) (nx1 : Int × Unit → Hp → Prop) (K : Value → Hp → Prop) : slices_partialInsertionSortCmpFunc_l35_Step_b2 i data dataL dataC a b cmp j h nx0 nx1 K = (
  cond (decide (i < b))
  ((0 ≤ i ∧ i < (dataL : Int)) ∧
  NN data fun a1 =>
  ∃ n1 : Int, ∃ n2 : Int, ∃ n3 : Int, ∃ n4 : Int, ∃ (a2 : Option Addr) (L1 C1 : Nat), cell h (a1.add (Int.toNat i * 5)) = some (.int .i64 n1) ∧
  cell h ((a1.add (Int.toNat i * 5)).add 1) = some (.int .i64 n2) ∧
  cell h ((a1.add (Int.toNat i * 5)).add 2) = some (.int .i64 n3) ∧
  cell h ((a1.add (Int.toNat i * 5)).add 3) = some (.int .i64 n4) ∧
  cell h ((a1.add (Int.toNat i * 5)).add 4) = some (.slice a2 L1 C1) ∧
  InR (i - 1) ∧
  (0 ≤ i - 1 ∧ i - 1 < (dataL : Int)) ∧
  NN data fun a3 =>
  ∃ n5 : Int, ∃ n6 : Int, ∃ n7 : Int, ∃ n8 : Int, ∃ (a4 : Option Addr) (L2 C2 : Nat), cell h (a3.add (Int.toNat (i - 1) * 5)) = some (.int .i64 n5) ∧
  cell h ((a3.add (Int.toNat (i - 1) * 5)).add 1) = some (.int .i64 n6) ∧
  cell h ((a3.add (Int.toNat (i - 1) * 5)).add 2) = some (.int .i64 n7) ∧
  cell h ((a3.add (Int.toNat (i - 1) * 5)).add 3) = some (.int .i64 n8) ∧
  cell h ((a3.add (Int.toNat (i - 1) * 5)).add 4) = some (.slice a4 L2 C2) ∧
  funV cmp fun fg1 fa1 fc1 => callX Tryz.prog F fg1 (fa1 ++ (([.agg #[.int .i64 n1, .int .i64 n2, .int .i64 n3, .int .i64 n4, .slice a2 L1 C1], .agg #[.int .i64 n5, .int .i64 n6, .int .i64 n7, .int .i64 n8, .slice a4 L2 C2]] : List Value) ++ fc1)).toArray h fun v1 h3 => ∃ r1 : Int, v1 = .int .i64 r1 ∧
  cond (!(decide (r1 < 0)))
  (slices_partialInsertionSortCmpFunc_l35_Step_b4 data dataL dataC a b cmp i j h3 nx0 nx1 K)
  (slices_partialInsertionSortCmpFunc_l35_Step_b5 data dataL dataC a b cmp i j h3 nx0 K))
  (slices_partialInsertionSortCmpFunc_l35_Step_b5 data dataL dataC a b cmp i j h nx0 K)) := by kernel_rfl
theorem slices_partialInsertionSortCmpFunc_l35_Step_b3_eq  (h : Hp)  (K : Value → Hp → Prop) : slices_partialInsertionSortCmpFunc_l35_Step_b3  h  K = (
  K (.bool false) h) := by kernel_rfl
theorem slices_partialInsertionSortCmpFunc_l35_Step_b4_eq (data : Option Addr) (dataL : Nat) (dataC : Nat) (a : Int) (b : Int) (cmp : Value) (i : Int) (j : Int) (h : Hp) (nx0 : Int × Int × Unit → Hp → Prop) (nx1 : Int × Unit → Hp → Prop) (K : Value → Hp → Prop) : slices_partialInsertionSortCmpFunc_l35_Step_b4 data dataL dataC a b cmp i j h nx0 nx1 K = (
  InR (i + 1) ∧
  nx1 (i + 1, ()) h) := by kernel_rfl
theorem slices_partialInsertionSortCmpFunc_l35_Step_b5_eq (data : Option Addr) (dataL : Nat) (dataC : Nat) (a : Int) (b : Int) (cmp : Value) (i : Int) (j : Int) (h : Hp) (nx0 : Int × Int × Unit → Hp → Prop) (K : Value → Hp → Prop) : slices_partialInsertionSortCmpFunc_l35_Step_b5 data dataL dataC a b cmp i j h nx0 K = (
  cond (decide (i = b))
  (K (.bool true) h)
  (InR (b - a) ∧
  cond (decide ((b - a) < 50))
  (K (.bool false) h)
  (InR (i - 1) ∧
  InR (i - 1) ∧
  (0 ≤ i - 1 ∧ i - 1 < (dataL : Int)) ∧
  NN data fun a5 =>
  ∃ n9 : Int, ∃ n10 : Int, ∃ n11 : Int, ∃ n12 : Int, ∃ (a6 : Option Addr) (L3 C3 : Nat), cell h (a5.add (Int.toNat (i - 1) * 5)) = some (.int .i64 n9) ∧
  cell h ((a5.add (Int.toNat (i - 1) * 5)).add 1) = some (.int .i64 n10) ∧
  cell h ((a5.add (Int.toNat (i - 1) * 5)).add 2) = some (.int .i64 n11) ∧
  cell h ((a5.add (Int.toNat (i - 1) * 5)).add 3) = some (.int .i64 n12) ∧
  cell h ((a5.add (Int.toNat (i - 1) * 5)).add 4) = some (.slice a6 L3 C3) ∧
  (0 ≤ i ∧ i < (dataL : Int)) ∧
  NN data fun a7 =>
  ∃ n13 : Int, ∃ n14 : Int, ∃ n15 : Int, ∃ n16 : Int, ∃ (a8 : Option Addr) (L4 C4 : Nat), cell h (a7.add (Int.toNat i * 5)) = some (.int .i64 n13) ∧
  cell h ((a7.add (Int.toNat i * 5)).add 1) = some (.int .i64 n14) ∧
  cell h ((a7.add (Int.toNat i * 5)).add 2) = some (.int .i64 n15) ∧
  cell h ((a7.add (Int.toNat i * 5)).add 3) = some (.int .i64 n16) ∧
  cell h ((a7.add (Int.toNat i * 5)).add 4) = some (.slice a8 L4 C4) ∧
  (0 ≤ i ∧ i < (dataL : Int)) ∧
  NN data fun a9 =>
  Wr h (a9.add (Int.toNat i * 5)) (.int .i64 n9) fun h4 =>
  Wr h4 ((a9.add (Int.toNat i * 5)).add 1) (.int .i64 n10) fun h5 =>
  Wr h5 ((a9.add (Int.toNat i * 5)).add 2) (.int .i64 n11) fun h6 =>
  Wr h6 ((a9.add (Int.toNat i * 5)).add 3) (.int .i64 n12) fun h7 =>
  Wr h7 ((a9.add (Int.toNat i * 5)).add 4) (.slice a6 L3 C3) fun h8 =>
  (0 ≤ i - 1 ∧ i - 1 < (dataL : Int)) ∧
  NN data fun a10 =>
  Wr h8 (a10.add (Int.toNat (i - 1) * 5)) (.int .i64 n13) fun h9 =>
  Wr h9 ((a10.add (Int.toNat (i - 1) * 5)).add 1) (.int .i64 n14) fun h10 =>
  Wr h10 ((a10.add (Int.toNat (i - 1) * 5)).add 2) (.int .i64 n15) fun h11 =>
  Wr h11 ((a10.add (Int.toNat (i - 1) * 5)).add 3) (.int .i64 n16) fun h12 =>
  Wr h12 ((a10.add (Int.toNat (i - 1) * 5)).add 4) (.slice a8 L4 C4) fun h13 =>
  InR (i - a) ∧
  cond (decide ((2 : Int) ≤ (i - a)))
  (InR (i - 1) ∧
  LoopVC ((i - 1, ()) : Int × Unit) h13 (fun (nx1 : Int × Unit → Hp → Prop) (s3 : Int × Unit) h14 => slices_partialInsertionSortCmpFunc_l35_Step_b6 s3.1 data dataL dataC a b cmp i j h14 nx0 nx1 K))
  (slices_partialInsertionSortCmpFunc_l35_Step_b7 data dataL dataC a b cmp i j h13 nx0 K)))) := by kernel_rfl
theorem slices_partialInsertionSortCmpFunc_l35_Step_b6_eq (j : Int) (data : Option Addr) (dataL : Nat) (dataC : Nat) (a : Int) (b : Int) (cmp : Value) (i : Int) (j_10 : Int) (h : Hp) (nx0 : Int × Int × Unit → Hp → Prop) (nx1 : Int × Unit → Hp → Prop) (K : Value → Hp → Prop) : slices_partialInsertionSortCmpFunc_l35_Step_b6 j data dataL dataC a b cmp i j_10 h nx0 nx1 K = (
  cond (decide ((1 : Int) ≤ j))
  ((0 ≤ j ∧ j < (dataL : Int)) ∧
  NN data fun a11 =>
  ∃ n17 : Int, ∃ n18 : Int, ∃ n19 : Int, ∃ n20 : Int, ∃ (a12 : Option Addr) (L5 C5 : Nat), cell h (a11.add (Int.toNat j * 5)) = some (.int .i64 n17) ∧
  cell h ((a11.add (Int.toNat j * 5)).add 1) = some (.int .i64 n18) ∧
  cell h ((a11.add (Int.toNat j * 5)).add 2) = some (.int .i64 n19) ∧
  cell h ((a11.add (Int.toNat j * 5)).add 3) = some (.int .i64 n20) ∧
  cell h ((a11.add (Int.toNat j * 5)).add 4) = some (.slice a12 L5 C5) ∧
  InR (j - 1) ∧
  (0 ≤ j - 1 ∧ j - 1 < (dataL : Int)) ∧
  NN data fun a13 =>
  ∃ n21 : Int, ∃ n22 : Int, ∃ n23 : Int, ∃ n24 : Int, ∃ (a14 : Option Addr) (L6 C6 : Nat), cell h (a13.add (Int.toNat (j - 1) * 5)) = some (.int .i64 n21) ∧
  cell h ((a13.add (Int.toNat (j - 1) * 5)).add 1) = some (.int .i64 n22) ∧
  cell h ((a13.add (Int.toNat (j - 1) * 5)).add 2) = some (.int .i64 n23) ∧
  cell h ((a13.add (Int.toNat (j - 1) * 5)).add 3) = some (.int .i64 n24) ∧
  cell h ((a13.add (Int.toNat (j - 1) * 5)).add 4) = some (.slice a14 L6 C6) ∧
  funV cmp fun fg2 fa2 fc2 => callX Tryz.prog F fg2 (fa2 ++ (([.agg #[.int .i64 n17, .int .i64 n18, .int .i64 n19, .int .i64 n20, .slice a12 L5 C5], .agg #[.int .i64 n21, .int .i64 n22, .int .i64 n23, .int .i64 n24, .slice a14 L6 C6]] : List Value) ++ fc2)).toArray h fun v2 h15 => ∃ r2 : Int, v2 = .int .i64 r2 ∧
  cond (!(decide (r2 < 0)))
  (slices_partialInsertionSortCmpFunc_l35_Step_b7 data dataL dataC a b cmp i j_10 h15 nx0 K)
  (InR (j - 1) ∧
  InR (j - 1) ∧
  (0 ≤ j - 1 ∧ j - 1 < (dataL : Int)) ∧
  NN data fun a15 =>
  ∃ n25 : Int, ∃ n26 : Int, ∃ n27 : Int, ∃ n28 : Int, ∃ (a16 : Option Addr) (L7 C7 : Nat), cell h15 (a15.add (Int.toNat (j - 1) * 5)) = some (.int .i64 n25) ∧
  cell h15 ((a15.add (Int.toNat (j - 1) * 5)).add 1) = some (.int .i64 n26) ∧
  cell h15 ((a15.add (Int.toNat (j - 1) * 5)).add 2) = some (.int .i64 n27) ∧
  cell h15 ((a15.add (Int.toNat (j - 1) * 5)).add 3) = some (.int .i64 n28) ∧
  cell h15 ((a15.add (Int.toNat (j - 1) * 5)).add 4) = some (.slice a16 L7 C7) ∧
  (0 ≤ j ∧ j < (dataL : Int)) ∧
  NN data fun a17 =>
  ∃ n29 : Int, ∃ n30 : Int, ∃ n31 : Int, ∃ n32 : Int, ∃ (a18 : Option Addr) (L8 C8 : Nat), cell h15 (a17.add (Int.toNat j * 5)) = some (.int .i64 n29) ∧
  cell h15 ((a17.add (Int.toNat j * 5)).add 1) = some (.int .i64 n30) ∧
  cell h15 ((a17.add (Int.toNat j * 5)).add 2) = some (.int .i64 n31) ∧
  cell h15 ((a17.add (Int.toNat j * 5)).add 3) = some (.int .i64 n32) ∧
  cell h15 ((a17.add (Int.toNat j * 5)).add 4) = some (.slice a18 L8 C8) ∧
  (0 ≤ j ∧ j < (dataL : Int)) ∧
  NN data fun a19 =>
  Wr h15 (a19.add (Int.toNat j * 5)) (.int .i64 n25) fun h16 =>
  Wr h16 ((a19.add (Int.toNat j * 5)).add 1) (.int .i64 n26) fun h17 =>
  Wr h17 ((a19.add (Int.toNat j * 5)).add 2) (.int .i64 n27) fun h18 =>
  Wr h18 ((a19.add (Int.toNat j * 5)).add 3) (.int .i64 n28) fun h19 =>
  Wr h19 ((a19.add (Int.toNat j * 5)).add 4) (.slice a16 L7 C7) fun h20 =>
  (0 ≤ j - 1 ∧ j - 1 < (dataL : Int)) ∧
  NN data fun a20 =>
  Wr h20 (a20.add (Int.toNat (j - 1) * 5)) (.int .i64 n29) fun h21 =>
  Wr h21 ((a20.add (Int.toNat (j - 1) * 5)).add 1) (.int .i64 n30) fun h22 =>
  Wr h22 ((a20.add (Int.toNat (j - 1) * 5)).add 2) (.int .i64 n31) fun h23 =>
  Wr h23 ((a20.add (Int.toNat (j - 1) * 5)).add 3) (.int .i64 n32) fun h24 =>
  Wr h24 ((a20.add (Int.toNat (j - 1) * 5)).add 4) (.slice a18 L8 C8) fun h25 =>
  slices_partialInsertionSortCmpFunc_l35_Step_b8 data dataL dataC a b cmp i j_10 j h25 nx0 nx1 K))
  (slices_partialInsertionSortCmpFunc_l35_Step_b7 data dataL dataC a b cmp i j_10 h nx0 K)) := by kernel_rfl
theorem slices_partialInsertionSortCmpFunc_l35_Step_b7_eq (data : Option Addr) (dataL : Nat) (dataC : Nat) (a : Int) (b : Int) (cmp : Value) (i : Int) (j : Int) (h : Hp) (nx0 : Int × Int × Unit → Hp → Prop) (K : Value → Hp → Prop) : slices_partialInsertionSortCmpFunc_l35_Step_b7 data dataL dataC a b cmp i j h nx0 K = (
  InR (b - i) ∧
  cond (decide ((2 : Int) ≤ (b - i)))
  (InR (i + 1) ∧
  LoopVC ((i + 1, ()) : Int × Unit) h (fun (nx1 : Int × Unit → Hp → Prop) (s4 : Int × Unit) h26 => slices_partialInsertionSortCmpFunc_l35_Step_b9 s4.1 data dataL dataC a b cmp i j h26 nx0 nx1 K))
  (slices_partialInsertionSortCmpFunc_l35_Step_b10 data dataL dataC a b cmp i j h nx0 K)) := by kernel_rfl
theorem slices_partialInsertionSortCmpFunc_l35_Step_b8_eq (data : Option Addr) (dataL : Nat) (dataC : Nat) (a : Int) (b : Int) (cmp : Value) (i : Int) (j : Int) (j_11 : Int) (h : Hp) (nx0 : Int × Int × Unit → Hp → Prop) (nx1 : Int × Unit → Hp → Prop) (K : Value → Hp → Prop) : slices_partialInsertionSortCmpFunc_l35_Step_b8 data dataL dataC a b cmp i j j_11 h nx0 nx1 K = (
  InR (j_11 - 1) ∧
  nx1 (j_11 - 1, ()) h) := by kernel_rfl
theorem slices_partialInsertionSortCmpFunc_l35_Step_b9_eq (j : Int) (data : Option Addr) (dataL : Nat) (dataC : Nat) (a : Int) (b : Int) (cmp : Value) (i : Int) (j_10 : Int) (h : Hp) (nx0 : Int × Int × Unit → Hp → Prop) (nx1 : Int × Unit → Hp → Prop) (K : Value → Hp → Prop) : slices_partialInsertionSortCmpFunc_l35_Step_b9 j data dataL dataC a b cmp i j_10 h nx0 nx1 K = (
  cond (decide (j < b))
  ((0 ≤ j ∧ j < (dataL : Int)) ∧
  NN data fun a21 =>
  ∃ n33 : Int, ∃ n34 : Int, ∃ n35 : Int, ∃ n36 : Int, ∃ (a22 : Option Addr) (L9 C9 : Nat), cell h (a21.add (Int.toNat j * 5)) = some (.int .i64 n33) ∧
  cell h ((a21.add (Int.toNat j * 5)).add 1) = some (.int .i64 n34) ∧
  cell h ((a21.add (Int.toNat j * 5)).add 2) = some (.int .i64 n35) ∧
  cell h ((a21.add (Int.toNat j * 5)).add 3) = some (.int .i64 n36) ∧
  cell h ((a21.add (Int.toNat j * 5)).add 4) = some (.slice a22 L9 C9) ∧
  InR (j - 1) ∧
  (0 ≤ j - 1 ∧ j - 1 < (dataL : Int)) ∧
  NN data fun a23 =>
  ∃ n37 : Int, ∃ n38 : Int, ∃ n39 : Int, ∃ n40 : Int, ∃ (a24 : Option Addr) (L10 C10 : Nat), cell h (a23.add (Int.toNat (j - 1) * 5)) = some (.int .i64 n37) ∧
  cell h ((a23.add (Int.toNat (j - 1) * 5)).add 1) = some (.int .i64 n38) ∧
  cell h ((a23.add (Int.toNat (j - 1) * 5)).add 2) = some (.int .i64 n39) ∧
  cell h ((a23.add (Int.toNat (j - 1) * 5)).add 3) = some (.int .i64 n40) ∧
  cell h ((a23.add (Int.toNat (j - 1) * 5)).add 4) = some (.slice a24 L10 C10) ∧
  funV cmp fun fg3 fa3 fc3 => callX Tryz.prog F fg3 (fa3 ++ (([.agg #[.int .i64 n33, .int .i64 n34, .int .i64 n35, .int .i64 n36, .slice a22 L9 C9], .agg #[.int .i64 n37, .int .i64 n38, .int .i64 n39, .int .i64 n40, .slice a24 L10 C10]] : List Value) ++ fc3)).toArray h fun v3 h27 => ∃ r3 : Int, v3 = .int .i64 r3 ∧
  cond (!(decide (r3 < 0)))
  (slices_partialInsertionSortCmpFunc_l35_Step_b10 data dataL dataC a b cmp i j_10 h27 nx0 K)
  (InR (j - 1) ∧
  InR (j - 1) ∧
  (0 ≤ j - 1 ∧ j - 1 < (dataL : Int)) ∧
  NN data fun a25 =>
  ∃ n41 : Int, ∃ n42 : Int, ∃ n43 : Int, ∃ n44 : Int, ∃ (a26 : Option Addr) (L11 C11 : Nat), cell h27 (a25.add (Int.toNat (j - 1) * 5)) = some (.int .i64 n41) ∧
  cell h27 ((a25.add (Int.toNat (j - 1) * 5)).add 1) = some (.int .i64 n42) ∧
  cell h27 ((a25.add (Int.toNat (j - 1) * 5)).add 2) = some (.int .i64 n43) ∧
  cell h27 ((a25.add (Int.toNat (j - 1) * 5)).add 3) = some (.int .i64 n44) ∧
  cell h27 ((a25.add (Int.toNat (j - 1) * 5)).add 4) = some (.slice a26 L11 C11) ∧
  (0 ≤ j ∧ j < (dataL : Int)) ∧
  NN data fun a27 =>
  ∃ n45 : Int, ∃ n46 : Int, ∃ n47 : Int, ∃ n48 : Int, ∃ (a28 : Option Addr) (L12 C12 : Nat), cell h27 (a27.add (Int.toNat j * 5)) = some (.int .i64 n45) ∧
  cell h27 ((a27.add (Int.toNat j * 5)).add 1) = some (.int .i64 n46) ∧
  cell h27 ((a27.add (Int.toNat j * 5)).add 2) = some (.int .i64 n47) ∧
  cell h27 ((a27.add (Int.toNat j * 5)).add 3) = some (.int .i64 n48) ∧
  cell h27 ((a27.add (Int.toNat j * 5)).add 4) = some (.slice a28 L12 C12) ∧
  (0 ≤ j ∧ j < (dataL : Int)) ∧
  NN data fun a29 =>
  Wr h27 (a29.add (Int.toNat j * 5)) (.int .i64 n41) fun h28 =>
  Wr h28 ((a29.add (Int.toNat j * 5)).add 1) (.int .i64 n42) fun h29 =>
  Wr h29 ((a29.add (Int.toNat j * 5)).add 2) (.int .i64 n43) fun h30 =>
  Wr h30 ((a29.add (Int.toNat j * 5)).add 3) (.int .i64 n44) fun h31 =>
  Wr h31 ((a29.add (Int.toNat j * 5)).add 4) (.slice a26 L11 C11) fun h32 =>
  (0 ≤ j - 1 ∧ j - 1 < (dataL : Int)) ∧
  NN data fun a30 =>
  Wr h32 (a30.add (Int.toNat (j - 1) * 5)) (.int .i64 n45) fun h33 =>
  Wr h33 ((a30.add (Int.toNat (j - 1) * 5)).add 1) (.int .i64 n46) fun h34 =>
  Wr h34 ((a30.add (Int.toNat (j - 1) * 5)).add 2) (.int .i64 n47) fun h35 =>
  Wr h35 ((a30.add (Int.toNat (j - 1) * 5)).add 3) (.int .i64 n48) fun h36 =>
  Wr h36 ((a30.add (Int.toNat (j - 1) * 5)).add 4) (.slice a28 L12 C12) fun h37 =>
  slices_partialInsertionSortCmpFunc_l35_Step_b11 data dataL dataC a b cmp i j_10 j h37 nx0 nx1 K))
  (slices_partialInsertionSortCmpFunc_l35_Step_b10 data dataL dataC a b cmp i j_10 h nx0 K)) := by kernel_rfl
theorem slices_partialInsertionSortCmpFunc_l35_Step_b10_eq (data : Option Addr) (dataL : Nat) (dataC : Nat) (a : Int) (b : Int) (cmp : Value) (i : Int) (j : Int) (h : Hp) (nx0 : Int × Int × Unit → Hp → Prop) (K : Value → Hp → Prop) : slices_partialInsertionSortCmpFunc_l35_Step_b10 data dataL dataC a b cmp i j h nx0 K = (
  InR (j + 1) ∧
  nx0 (i, j + 1, ()) h) := by kernel_rfl
theorem slices_partialInsertionSortCmpFunc_l35_Step_b11_eq (data : Option Addr) (dataL : Nat) (dataC : Nat) (a : Int) (b : Int) (cmp : Value) (i : Int) (j : Int) (j_12 : Int) (h : Hp) (nx0 : Int × Int × Unit → Hp → Prop) (nx1 : Int × Unit → Hp → Prop) (K : Value → Hp → Prop) : slices_partialInsertionSortCmpFunc_l35_Step_b11 data dataL dataC a b cmp i j j_12 h nx0 nx1 K = (
  InR (j_12 + 1) ∧
  nx1 (j_12 + 1, ()) h) := by kernel_rfl
theorem slices_partialInsertionSortCmpFunc_l35_Step_call {data : Option Addr} {dataL : Nat} {dataC : Nat} {a : Int} {b : Int} {cmp : Value} {h : Hp} {K : Value → Hp → Prop} (hk : slices_partialInsertionSortCmpFunc_l35_Step_b0 data dataL dataC a b cmp h K) : HCalls Tryz.prog 129 #[.slice data dataL dataC, .int .i64 a, .int .i64 b, cmp] h K :=
  calls_of_snd slices_partialInsertionSortCmpFunc_l35_Step_an Tryz.func129 (c := bodyOf Tryz.f129) rfl Tryz.ntmps129 (Nat.le_of_ble_eq_true rfl) (snd_6 F_ok F_mixed) hk

/-! ### slices_partitionEqualCmpFunc_l35_Step -/
def slices_partitionEqualCmpFunc_l35_Step_an : Ann := .node none (.leaf) (.node none (.plan (.qu 0 (.qu 1 (.qu 2 (.qu 3 (.qu 4 (.qu 5 (.qu 6 (.qu 7 (.qu 8 (.qu 9 (.qu 10 (.qu 11 (.qu 12 (.wo 13 (.qu 14 (.wo 15 .fin .no)) .no))))))))))))))) (.node none (.leaf) (.node (some [11]) (.loop [0, 1, 4] [(11, .int .i64), (12, .int .i64)] (.node (some [0, 1, 4, 11, 12]) (.loop [0, 1, 4, 12] [(11, .int .i64)] (.node (some [0, 1, 4, 11, 12]) (.node none (.tail 13) (.leaf)) (.leaf))) (.node (some [0, 1, 4, 11, 12]) (.loop [0, 1, 4, 11] [(12, .int .i64)] (.node (some [0, 1, 4, 11, 12]) (.node none (.tail 13) (.leaf)) (.leaf))) (.node none (.leaf) (.node none (.plan (.qu 0 (.qu 1 (.qu 2 (.qu 3 (.qu 4 (.qu 5 (.qu 6 (.qu 7 (.qu 8 (.qu 9 (.qu 10 (.qu 11 (.qu 12 (.wo 13 (.qu 14 (.wo 15 .fin .no)) .no))))))))))))))) (.leaf)))))) (.leaf))))
def slices_partitionEqualCmpFunc_l35_Step_K0  (K : Value → Hp → Prop) : Exit → Env → Hp → Prop := retK Tryz.prog Tryz.f130.results.toList K
def slices_partitionEqualCmpFunc_l35_Step_K1  (K : Value → Hp → Prop) : Exit → Env → Hp → Prop := thenE (fun env h => sx_4 Tryz.prog F 90 (cp [1, 1, 1, 1] (bodyOf Tryz.f130)) (ap [1, 1, 1, 1] slices_partitionEqualCmpFunc_l35_Step_an) (rs [11] env) h (slices_partitionEqualCmpFunc_l35_Step_K0  K)) (slices_partitionEqualCmpFunc_l35_Step_K0  K)
def slices_partitionEqualCmpFunc_l35_Step_K2  (K : Value → Hp → Prop) : Exit → Env → Hp → Prop := blockE 0 (slices_partitionEqualCmpFunc_l35_Step_K1  K)
def slices_partitionEqualCmpFunc_l35_Step_K3 (nx0 : Int × Int × Unit → Hp → Prop) (K : Value → Hp → Prop) : Exit → Env → Hp → Prop := thenE (fun env h => getV [(11, .int .i64), (12, .int .i64)] env fun s => nx0 s h) (slices_partitionEqualCmpFunc_l35_Step_K2  K)
def slices_partitionEqualCmpFunc_l35_Step_K4 (nx0 : Int × Int × Unit → Hp → Prop) (K : Value → Hp → Prop) : Exit → Env → Hp → Prop := blockE 1 (slices_partitionEqualCmpFunc_l35_Step_K3 nx0 K)
def slices_partitionEqualCmpFunc_l35_Step_K5 (nx0 : Int × Int × Unit → Hp → Prop) (K : Value → Hp → Prop) : Exit → Env → Hp → Prop := thenE (fun env h => sx_3 Tryz.prog F 90 (cp [1, 1, 1, 0, 2, 2, 2, 1] (bodyOf Tryz.f130)) (ap [1, 1, 1, 0, 2, 1] slices_partitionEqualCmpFunc_l35_Step_an) (rs [0, 1, 4, 11, 12] env) h (slices_partitionEqualCmpFunc_l35_Step_K4 nx0 K)) (slices_partitionEqualCmpFunc_l35_Step_K4 nx0 K)
def slices_partitionEqualCmpFunc_l35_Step_K6 (nx0 : Int × Int × Unit → Hp → Prop) (K : Value → Hp → Prop) : Exit → Env → Hp → Prop := blockE 2 (slices_partitionEqualCmpFunc_l35_Step_K5 nx0 K)
def slices_partitionEqualCmpFunc_l35_Step_K7 (nx0 : Int × Int × Unit → Hp → Prop) (nx1 : Int × Unit → Hp → Prop) (K : Value → Hp → Prop) : Exit → Env → Hp → Prop := thenE (fun env h => getV [(11, .int .i64)] env fun s => nx1 s h) (slices_partitionEqualCmpFunc_l35_Step_K6 nx0 K)
def slices_partitionEqualCmpFunc_l35_Step_K8 (nx0 : Int × Int × Unit → Hp → Prop) (K : Value → Hp → Prop) : Exit → Env → Hp → Prop := thenE (fun env h => sx_2 Tryz.prog F 90 (cp [1, 1, 1, 0, 2, 2, 2, 1, 1] (bodyOf Tryz.f130)) (ap [1, 1, 1, 0, 2, 1, 1] slices_partitionEqualCmpFunc_l35_Step_an) (rs [0, 1, 4, 11, 12] env) h (slices_partitionEqualCmpFunc_l35_Step_K4 nx0 K)) (slices_partitionEqualCmpFunc_l35_Step_K4 nx0 K)
def slices_partitionEqualCmpFunc_l35_Step_K9 (nx0 : Int × Int × Unit → Hp → Prop) (K : Value → Hp → Prop) : Exit → Env → Hp → Prop := blockE 4 (slices_partitionEqualCmpFunc_l35_Step_K8 nx0 K)
def slices_partitionEqualCmpFunc_l35_Step_K10 (nx0 : Int × Int × Unit → Hp → Prop) (nx1 : Int × Unit → Hp → Prop) (K : Value → Hp → Prop) : Exit → Env → Hp → Prop := thenE (fun env h => getV [(12, .int .i64)] env fun s => nx1 s h) (slices_partitionEqualCmpFunc_l35_Step_K9 nx0 K)
def slices_partitionEqualCmpFunc_l35_Step_b0 (data : Option Addr) (dataL : Nat) (dataC : Nat) (a : Int) (b : Int) (pivot : Int) (cmp : Value) (h : Hp)  (K : Value → Hp → Prop) : Prop :=
  sx_5 Tryz.prog F 90 (cp [] (bodyOf Tryz.f130)) (ap [] slices_partitionEqualCmpFunc_l35_Step_an) [(0, .slice data dataL dataC), (1, .int .i64 a), (2, .int .i64 b), (3, .int .i64 pivot), (4, cmp)] h (slices_partitionEqualCmpFunc_l35_Step_K0  K)
def slices_partitionEqualCmpFunc_l35_Step_b1 (i : Int) (j : Int) (data : Option Addr) (dataL : Nat) (dataC : Nat) (a : Int) (cmp : Value) (h : Hp) (nx0 : Int × Int × Unit → Hp → Prop) (K : Value → Hp → Prop) : Prop :=
  sx_4 Tryz.prog F 90 (cp [1, 1, 1, 0, 2, 2] (bodyOf Tryz.f130)) (ap [1, 1, 1, 0, 2] slices_partitionEqualCmpFunc_l35_Step_an) [(11, .int .i64 i), (12, .int .i64 j), (0, .slice data dataL dataC), (1, .int .i64 a), (4, cmp)] h (slices_partitionEqualCmpFunc_l35_Step_K3 nx0 K)
def slices_partitionEqualCmpFunc_l35_Step_b2 (i : Int) (data : Option Addr) (dataL : Nat) (dataC : Nat) (a : Int) (cmp : Value) (j : Int) (h : Hp) (nx0 : Int × Int × Unit → Hp → Prop) (nx1 : Int × Unit → Hp → Prop) (K : Value → Hp → Prop) : Prop :=
  sx_3 Tryz.prog F 90 (cp [1, 1, 1, 0, 2, 2, 2, 0, 2, 2] (bodyOf Tryz.f130)) (ap [1, 1, 1, 0, 2, 0, 2] slices_partitionEqualCmpFunc_l35_Step_an) [(11, .int .i64 i), (0, .slice data dataL dataC), (1, .int .i64 a), (4, cmp), (12, .int .i64 j)] h (slices_partitionEqualCmpFunc_l35_Step_K7 nx0 nx1 K)
def slices_partitionEqualCmpFunc_l35_Step_b3 (data : Option Addr) (dataL : Nat) (dataC : Nat) (a : Int) (cmp : Value) (i : Int) (j : Int) (h : Hp) (nx0 : Int × Int × Unit → Hp → Prop) (nx1 : Int × Unit → Hp → Prop) (K : Value → Hp → Prop) : Prop :=
  sx_2 Tryz.prog F 90 (cp [1, 1, 1, 0, 2, 2, 2, 0, 2, 2, 1] (bodyOf Tryz.f130)) (ap [1, 1, 1, 0, 2, 0, 2, 1] slices_partitionEqualCmpFunc_l35_Step_an) [(0, .slice data dataL dataC), (1, .int .i64 a), (4, cmp), (11, .int .i64 i), (12, .int .i64 j)] h (slices_partitionEqualCmpFunc_l35_Step_K7 nx0 nx1 K)
def slices_partitionEqualCmpFunc_l35_Step_b4 (data : Option Addr) (dataL : Nat) (dataC : Nat) (a : Int) (cmp : Value) (i : Int) (j : Int) (h : Hp) (nx0 : Int × Int × Unit → Hp → Prop) (K : Value → Hp → Prop) : Prop :=
  sx_3 Tryz.prog F 90 (cp [1, 1, 1, 0, 2, 2, 2, 1] (bodyOf Tryz.f130)) (ap [1, 1, 1, 0, 2, 1] slices_partitionEqualCmpFunc_l35_Step_an) [(0, .slice data dataL dataC), (1, .int .i64 a), (4, cmp), (11, .int .i64 i), (12, .int .i64 j)] h (slices_partitionEqualCmpFunc_l35_Step_K4 nx0 K)
def slices_partitionEqualCmpFunc_l35_Step_b5 (j : Int) (data : Option Addr) (dataL : Nat) (dataC : Nat) (a : Int) (cmp : Value) (i : Int) (h : Hp) (nx0 : Int × Int × Unit → Hp → Prop) (nx1 : Int × Unit → Hp → Prop) (K : Value → Hp → Prop) : Prop :=
  sx_2 Tryz.prog F 90 (cp [1, 1, 1, 0, 2, 2, 2, 1, 0, 2, 2] (bodyOf Tryz.f130)) (ap [1, 1, 1, 0, 2, 1, 0, 2] slices_partitionEqualCmpFunc_l35_Step_an) [(12, .int .i64 j), (0, .slice data dataL dataC), (1, .int .i64 a), (4, cmp), (11, .int .i64 i)] h (slices_partitionEqualCmpFunc_l35_Step_K10 nx0 nx1 K)
def slices_partitionEqualCmpFunc_l35_Step_b6 (data : Option Addr) (dataL : Nat) (dataC : Nat) (a : Int) (cmp : Value) (i : Int) (j : Int) (h : Hp) (nx0 : Int × Int × Unit → Hp → Prop) (nx1 : Int × Unit → Hp → Prop) (K : Value → Hp → Prop) : Prop :=
  sx_1 Tryz.prog F 90 (cp [1, 1, 1, 0, 2, 2, 2, 1, 0, 2, 2, 1] (bodyOf Tryz.f130)) (ap [1, 1, 1, 0, 2, 1, 0, 2, 1] slices_partitionEqualCmpFunc_l35_Step_an) [(0, .slice data dataL dataC), (1, .int .i64 a), (4, cmp), (11, .int .i64 i), (12, .int .i64 j)] h (slices_partitionEqualCmpFunc_l35_Step_K10 nx0 nx1 K)
def slices_partitionEqualCmpFunc_l35_Step_b7 (data : Option Addr) (dataL : Nat) (dataC : Nat) (a : Int) (cmp : Value) (i : Int) (j : Int) (h : Hp) (nx0 : Int × Int × Unit → Hp → Prop) (K : Value → Hp → Prop) : Prop :=
  sx_2 Tryz.prog F 90 (cp [1, 1, 1, 0, 2, 2, 2, 1, 1] (bodyOf Tryz.f130)) (ap [1, 1, 1, 0, 2, 1, 1] slices_partitionEqualCmpFunc_l35_Step_an) [(0, .slice data dataL dataC), (1, .int .i64 a), (4, cmp), (11, .int .i64 i), (12, .int .i64 j)] h (slices_partitionEqualCmpFunc_l35_Step_K4 nx0 K)
def slices_partitionEqualCmpFunc_l35_Step_b8 (i : Int) (h : Hp)  (K : Value → Hp → Prop) : Prop :=
  sx_4 Tryz.prog F 90 (cp [1, 1, 1, 1] (bodyOf Tryz.f130)) (ap [1, 1, 1, 1] slices_partitionEqualCmpFunc_l35_Step_an) [(11, .int .i64 i)] h (slices_partitionEqualCmpFunc_l35_Step_K0  K)
theorem slices_partitionEqualCmpFunc_l35_Step_b0_eq (data : Option Addr) (dataL : Nat) (dataC : Nat) (a : Int) (b : Int) (pivot : Int) (cmp : Value) (h : Hp)  (K : Value → Hp → Prop) : slices_partitionEqualCmpFunc_l35_Step_b0 data dataL dataC a b pivot cmp h  K = (
  (0 ≤ pivot ∧ pivot < (dataL : Int)) ∧
  NN data fun a1 =>
  ∃ n1 : Int, ∃ n2 : Int, ∃ n3 : Int, ∃ n4 : Int, ∃ (a2 : Option Addr) (L1 C1 : Nat), cell h (a1.add (Int.toNat pivot * 5)) = some (.int .i64 n1) ∧
  cell h ((a1.add (Int.toNat pivot * 5)).add 1) = some (.int .i64 n2) ∧
  cell h ((a1.add (Int.toNat pivot * 5)).add 2) = some (.int .i64 n3) ∧
  cell h ((a1.add (Int.toNat pivot * 5)).add 3) = some (.int .i64 n4) ∧
  cell h ((a1.add (Int.toNat pivot * 5)).add 4) = some (.slice a2 L1 C1) ∧
  (0 ≤ a ∧ a < (dataL : Int)) ∧
  NN data fun a3 =>
  ∃ n5 : Int, ∃ n6 : Int, ∃ n7 : Int, ∃ n8 : Int, ∃ (a4 : Option Addr) (L2 C2 : Nat), cell h (a3.add (Int.toNat a * 5)) = some (.int .i64 n5) ∧
  cell h ((a3.add (Int.toNat a * 5)).add 1) = some (.int .i64 n6) ∧
  cell h ((a3.add (Int.toNat a * 5)).add 2) = some (.int .i64 n7) ∧
  cell h ((a3.add (Int.toNat a * 5)).add 3) = some (.int .i64 n8) ∧
  cell h ((a3.add (Int.toNat a * 5)).add 4) = some (.slice a4 L2 C2) ∧
  (0 ≤ a ∧ a < (dataL : Int)) ∧
  NN data fun a5 =>
  Wr h (a5.add (Int.toNat a * 5)) (.int .i64 n1) fun h1 =>
  Wr h1 ((a5.add (Int.toNat a * 5)).add 1) (.int .i64 n2) fun h2 =>
  Wr h2 ((a5.add (Int.toNat a * 5)).add 2) (.int .i64 n3) fun h3 =>
  Wr h3 ((a5.add (Int.toNat a * 5)).add 3) (.int .i64 n4) fun h4 =>
  Wr h4 ((a5.add (Int.toNat a * 5)).add 4) (.slice a2 L1 C1) fun h5 =>
  (0 ≤ pivot ∧ pivot < (dataL : Int)) ∧
  NN data fun a6 =>
  Wr h5 (a6.add (Int.toNat pivot * 5)) (.int .i64 n5) fun h6 =>
  Wr h6 ((a6.add (Int.toNat pivot * 5)).add 1) (.int .i64 n6) fun h7 =>
  Wr h7 ((a6.add (Int.toNat pivot * 5)).add 2) (.int .i64 n7) fun h8 =>
  Wr h8 ((a6.add (Int.toNat pivot * 5)).add 3) (.int .i64 n8) fun h9 =>
  Wr h9 ((a6.add (Int.toNat pivot * 5)).add 4) (.slice a4 L2 C2) fun h10 =>
  InR (a + 1) ∧
  InR (b - 1) ∧
  LoopVC ((a + 1, b - 1, ()) : Int × Int × Unit) h10 (fun (nx0 : Int × Int × Unit → Hp → Prop) (s1 : Int × Int × Unit) h11 => slices_partitionEqualCmpFunc_l35_Step_b1 s1.1 s1.2.1 data dataL dataC a cmp h11 nx0 K)) := by kernel_rfl
theorem slices_partitionEqualCmpFunc_l35_Step_b1_eq (i : Int) (j : Int) (data : Option Addr) (dataL : Nat) (dataC : Nat) (a : Int) (cmp : Value) (h : Hp) (nx0 : Int × Int × Unit → Hp → Prop) (K : Value → Hp → Prop) : slices_partitionEqualCmpFunc_l35_Step_b1 i j data dataL dataC a cmp h nx0 K = (
  LoopVC ((i, ()) : Int × Unit) h (fun (nx1 : Int × Unit → Hp → Prop) (s2 : Int × Unit) h12 => slices_partitionEqualCmpFunc_l35_Step_b2 s2.1 data dataL dataC a cmp j h12 nx0 nx1 K)) := by kernel_rfl
theorem slices_partitionEqualCmpFunc_l35_Step_b2_eq (i : Int) (data : Option Addr) (dataL : Nat) (dataC : Nat) (a : Int) (cmp : Value) (j : Int) (h : Hp) (nx0 : Int × Int × Unit → Hp → Prop) (nx1 : Int × Unit → Hp → Prop) (K : Value → Hp → Prop) : slices_partitionEqualCmpFunc_l35_Step_b2 i data dataL dataC a cmp j h nx0 nx1 K = (
  cond (decide (i ≤ j))
  ((0 ≤ a ∧ a < (dataL : Int)) ∧
  NN data fun a7 =>
  ∃ n9 : Int, ∃ n10 : Int, ∃ n11 : Int, ∃ n12 : Int, ∃ (a8 : Option Addr) (L3 C3 : Nat), cell h (a7.add (Int.toNat a * 5)) = some (.int .i64 n9) ∧
  cell h ((a7.add (Int.toNat a * 5)).add 1) = some (.int .i64 n10) ∧
  cell h ((a7.add (Int.toNat a * 5)).add 2) = some (.int .i64 n11) ∧
  cell h ((a7.add (Int.toNat a * 5)).add 3) = some (.int .i64 n12) ∧
  cell h ((a7.add (Int.toNat a * 5)).add 4) = some (.slice a8 L3 C3) ∧
  (0 ≤ i ∧ i < (dataL : Int)) ∧
  NN data fun a9 =>
  ∃ n13 : Int, ∃ n14 : Int, ∃ n15 : Int, ∃ n16 : Int, ∃ (a10 : Option Addr) (L4 C4 : Nat), cell h (a9.add (Int.toNat i * 5)) = some (.int .i64 n13) ∧
  cell h ((a9.add (Int.toNat i * 5)).add 1) = some (.int .i64 n14) ∧
  cell h ((a9.add (Int.toNat i * 5)).add 2) = some (.int .i64 n15) ∧
  cell h ((a9.add (Int.toNat i * 5)).add 3) = some (.int .i64 n16) ∧
  cell h ((a9.add (Int.toNat i * 5)).add 4) = some (.slice a10 L4 C4) ∧
  funV cmp fun fg1 fa1 fc1 => callX Tryz.prog F fg1 (fa1 ++ (([.agg #[.int .i64 n9, .int .i64 n10, .int .i64 n11, .int .i64 n12, .slice a8 L3 C3], .agg #[.int .i64 n13, .int .i64 n14, .int .i64 n15, .int .i64 n16, .slice a10 L4 C4]] : List Value) ++ fc1)).toArray h fun v1 h13 => ∃ r1 : Int, v1 = .int .i64 r1 ∧
  cond (!(decide (r1 < 0)))
  (slices_partitionEqualCmpFunc_l35_Step_b3 data dataL dataC a cmp i j h13 nx0 nx1 K)
  (slices_partitionEqualCmpFunc_l35_Step_b4 data dataL dataC a cmp i j h13 nx0 K))
  (slices_partitionEqualCmpFunc_l35_Step_b4 data dataL dataC a cmp i j h nx0 K)) := by kernel_rfl
theorem slices_partitionEqualCmpFunc_l35_Step_b3_eq (data : Option Addr) (dataL : Nat) (dataC : Nat) (a : Int) (cmp : Value) (i : Int) (j : Int) (h : Hp) (nx0 : Int × Int × Unit → Hp → Prop) (nx1 : Int × Unit → Hp → Prop) (K : Value → Hp → Prop) : slices_partitionEqualCmpFunc_l35_Step_b3 data dataL dataC a cmp i j h nx0 nx1 K = (
  InR (i + 1) ∧
  nx1 (i + 1, ()) h) := by kernel_rfl
theorem slices_partitionEqualCmpFunc_l35_Step_b4_eq (data : Option Addr) (dataL : Nat) (dataC : Nat) (a : Int) (cmp : Value) (i : Int) (j : Int) (h : Hp) (nx0 : Int × Int × Unit → Hp → Prop) (K : Value → Hp → Prop) : slices_partitionEqualCmpFunc_l35_Step_b4 data dataL dataC a cmp i j h nx0 K = (
  LoopVC ((j, ()) : Int × Unit) h (fun (nx1 : Int × Unit → Hp → Prop) (s3 : Int × Unit) h14 => slices_partitionEqualCmpFunc_l35_Step_b5 s3.1 data dataL dataC a cmp i h14 nx0 nx1 K)) := by kernel_rfl
theorem slices_partitionEqualCmpFunc_l35_Step_b5_eq (j : Int) (data : Option Addr) (dataL : Nat) (dataC : Nat) (a : Int) (cmp : Value) (i : Int) (h : Hp) (nx0 : Int × Int × Unit → Hp → Prop) (nx1 : Int × Unit → Hp → Prop) (K : Value → Hp → Prop) : slices_partitionEqualCmpFunc_l35_Step_b5 j data dataL dataC a cmp i h nx0 nx1 K = (
  cond (decide (i ≤ j))
  ((0 ≤ a ∧ a < (dataL : Int)) ∧
  NN data fun a11 =>
  ∃ n17 : Int, ∃ n18 : Int, ∃ n19 : Int, ∃ n20 : Int, ∃ (a12 : Option Addr) (L5 C5 : Nat), cell h (a11.add (Int.toNat a * 5)) = some (.int .i64 n17) ∧
  cell h ((a11.add (Int.toNat a * 5)).add 1) = some (.int .i64 n18) ∧
  cell h ((a11.add (Int.toNat a * 5)).add 2) = some (.int .i64 n19) ∧
  cell h ((a11.add (Int.toNat a * 5)).add 3) = some (.int .i64 n20) ∧
  cell h ((a11.add (Int.toNat a * 5)).add 4) = some (.slice a12 L5 C5) ∧
  (0 ≤ j ∧ j < (dataL : Int)) ∧
  NN data fun a13 =>
  ∃ n21 : Int, ∃ n22 : Int, ∃ n23 : Int, ∃ n24 : Int, ∃ (a14 : Option Addr) (L6 C6 : Nat), cell h (a13.add (Int.toNat j * 5)) = some (.int .i64 n21) ∧
  cell h ((a13.add (Int.toNat j * 5)).add 1) = some (.int .i64 n22) ∧
  cell h ((a13.add (Int.toNat j * 5)).add 2) = some (.int .i64 n23) ∧
  cell h ((a13.add (Int.toNat j * 5)).add 3) = some (.int .i64 n24) ∧
  cell h ((a13.add (Int.toNat j * 5)).add 4) = some (.slice a14 L6 C6) ∧
  funV cmp fun fg2 fa2 fc2 => callX Tryz.prog F fg2 (fa2 ++ (([.agg #[.int .i64 n17, .int .i64 n18, .int .i64 n19, .int .i64 n20, .slice a12 L5 C5], .agg #[.int .i64 n21, .int .i64 n22, .int .i64 n23, .int .i64 n24, .slice a14 L6 C6]] : List Value) ++ fc2)).toArray h fun v2 h15 => ∃ r2 : Int, v2 = .int .i64 r2 ∧
  cond (decide (r2 < 0))
  (slices_partitionEqualCmpFunc_l35_Step_b6 data dataL dataC a cmp i j h15 nx0 nx1 K)
  (slices_partitionEqualCmpFunc_l35_Step_b7 data dataL dataC a cmp i j h15 nx0 K))
  (slices_partitionEqualCmpFunc_l35_Step_b7 data dataL dataC a cmp i j h nx0 K)) := by kernel_rfl
theorem slices_partitionEqualCmpFunc_l35_Step_b6_eq (data : Option Addr) (dataL : Nat) (dataC : Nat) (a : Int) (cmp : Value) (i : Int) (j : Int) (h : Hp) (nx0 : Int × Int × Unit → Hp → Prop) (nx1 : Int × Unit → Hp → Prop) (K : Value → Hp → Prop) : slices_partitionEqualCmpFunc_l35_Step_b6 data dataL dataC a cmp i j h nx0 nx1 K = (
  InR (j - 1) ∧
  nx1 (j - 1, ()) h) := by kernel_rfl
theorem slices_partitionEqualCmpFunc_l35_Step_b7_eq (data : Option Addr) (dataL : Nat) (dataC : Nat) (a : Int) (cmp : Value) (i : Int) (j : Int) (h : Hp) (nx0 : Int × Int × Unit → Hp → Prop) (K : Value → Hp → Prop) : slices_partitionEqualCmpFunc_l35_Step_b7 data dataL dataC a cmp i j h nx0 K = (
  cond (decide (j < i))
  (slices_partitionEqualCmpFunc_l35_Step_b8 i h  K)
  ((0 ≤ j ∧ j < (dataL : Int)) ∧
  NN data fun a15 =>
  ∃ n25 : Int, ∃ n26 : Int, ∃ n27 : Int, ∃ n28 : Int, ∃ (a16 : Option Addr) (L7 C7 : Nat), cell h (a15.add (Int.toNat j * 5)) = some (.int .i64 n25) ∧
  cell h ((a15.add (Int.toNat j * 5)).add 1) = some (.int .i64 n26) ∧
  cell h ((a15.add (Int.toNat j * 5)).add 2) = some (.int .i64 n27) ∧
  cell h ((a15.add (Int.toNat j * 5)).add 3) = some (.int .i64 n28) ∧
  cell h ((a15.add (Int.toNat j * 5)).add 4) = some (.slice a16 L7 C7) ∧
  (0 ≤ i ∧ i < (dataL : Int)) ∧
  NN data fun a17 =>
  ∃ n29 : Int, ∃ n30 : Int, ∃ n31 : Int, ∃ n32 : Int, ∃ (a18 : Option Addr) (L8 C8 : Nat), cell h (a17.add (Int.toNat i * 5)) = some (.int .i64 n29) ∧
  cell h ((a17.add (Int.toNat i * 5)).add 1) = some (.int .i64 n30) ∧
  cell h ((a17.add (Int.toNat i * 5)).add 2) = some (.int .i64 n31) ∧
  cell h ((a17.add (Int.toNat i * 5)).add 3) = some (.int .i64 n32) ∧
  cell h ((a17.add (Int.toNat i * 5)).add 4) = some (.slice a18 L8 C8) ∧
  (0 ≤ i ∧ i < (dataL : Int)) ∧
  NN data fun a19 =>
  Wr h (a19.add (Int.toNat i * 5)) (.int .i64 n25) fun h16 =>
  Wr h16 ((a19.add (Int.toNat i * 5)).add 1) (.int .i64 n26) fun h17 =>
  Wr h17 ((a19.add (Int.toNat i * 5)).add 2) (.int .i64 n27) fun h18 =>
  Wr h18 ((a19.add (Int.toNat i * 5)).add 3) (.int .i64 n28) fun h19 =>
  Wr h19 ((a19.add (Int.toNat i * 5)).add 4) (.slice a16 L7 C7) fun h20 =>
  (0 ≤ j ∧ j < (dataL : Int)) ∧
  NN data fun a20 =>
  Wr h20 (a20.add (Int.toNat j * 5)) (.int .i64 n29) fun h21 =>
  Wr h21 ((a20.add (Int.toNat j * 5)).add 1) (.int .i64 n30) fun h22 =>
  Wr h22 ((a20.add (Int.toNat j * 5)).add 2) (.int .i64 n31) fun h23 =>
  Wr h23 ((a20.add (Int.toNat j * 5)).add 3) (.int .i64 n32) fun h24 =>
  Wr h24 ((a20.add (Int.toNat j * 5)).add 4) (.slice a18 L8 C8) fun h25 =>
  InR (i + 1) ∧
  InR (j - 1) ∧
  nx0 (i + 1, j - 1, ()) h25)) := by kernel_rfl
theorem slices_partitionEqualCmpFunc_l35_Step_b8_eq (i : Int) (h : Hp)  (K : Value → Hp → Prop) : slices_partitionEqualCmpFunc_l35_Step_b8 i h  K = (
  K (.int .i64 i) h) := by kernel_rfl
theorem slices_partitionEqualCmpFunc_l35_Step_call {data : Option Addr} {dataL : Nat} {dataC : Nat} {a : Int} {b : Int} {pivot : Int} {cmp : Value} {h : Hp} {K : Value → Hp → Prop} (hk : slices_partitionEqualCmpFunc_l35_Step_b0 data dataL dataC a b pivot cmp h K) : HCalls Tryz.prog 130 #[.slice data dataL dataC, .int .i64 a, .int .i64 b, .int .i64 pivot, cmp] h K :=
  calls_of_snd slices_partitionEqualCmpFunc_l35_Step_an Tryz.func130 (c := bodyOf Tryz.f130) rfl Tryz.ntmps130 (Nat.le_of_ble_eq_true rfl) (snd_5 F_ok F_mixed) hk

/-! ### slices_partitionCmpFunc_l35_Step -/
def slices_partitionCmpFunc_l35_Step_an : Ann := .node none (.leaf) (.node none (.plan (.qu 0 (.qu 1 (.qu 2 (.qu 3 (.qu 4 (.qu 5 (.qu 6 (.qu 7 (.qu 8 (.qu 9 (.qu 10 (.qu 11 (.qu 12 (.wo 13 (.qu 14 (.wo 15 .fin .no)) .no))))))))))))))) (.node none (.leaf) (.node (some [0, 1, 4, 12, 13]) (.loop [0, 1, 4, 13] [(12, .int .i64)] (.node (some [0, 1, 4, 12, 13]) (.node none (.tail 13) (.leaf)) (.leaf))) (.node (some [0, 1, 4, 12, 13]) (.loop [0, 1, 4, 12] [(13, .int .i64)] (.node (some [0, 1, 4, 12, 13]) (.node none (.tail 13) (.leaf)) (.leaf))) (.node none (.node none (.leaf) (.node none (.node none (.plan (.qu 0 (.qu 1 (.qu 2 (.qu 3 (.qu 4 (.qu 5 (.qu 6 (.qu 7 (.qu 8 (.qu 9 (.qu 10 (.qu 11 (.qu 12 (.wo 13 (.qu 14 (.wo 15 .fin .no)) .no))))))))))))))) (.leaf)) (.leaf))) (.node none (.plan (.qu 0 (.qu 1 (.qu 2 (.qu 3 (.qu 4 (.qu 5 (.qu 6 (.qu 7 (.qu 8 (.qu 9 (.qu 10 (.qu 11 (.qu 12 (.wo 13 (.qu 14 (.wo 15 .fin .no)) .no))))))))))))))) (.node none (.leaf) (.node none (.leaf) (.node (some [0, 1, 13]) (.loop [0, 1, 4] [(12, .int .i64), (13, .int .i64)] (.node (some [0, 1, 4, 12, 13]) (.loop [0, 1, 4, 13] [(12, .int .i64)] (.node (some [0, 1, 4, 12, 13]) (.node none (.tail 13) (.leaf)) (.leaf))) (.node (some [0, 1, 4, 12, 13]) (.loop [0, 1, 4, 12] [(13, .int .i64)] (.node (some [0, 1, 4, 12, 13]) (.node none (.tail 13) (.leaf)) (.leaf))) (.node none (.leaf) (.node none (.plan (.qu 0 (.qu 1 (.qu 2 (.qu 3 (.qu 4 (.qu 5 (.qu 6 (.qu 7 (.qu 8 (.qu 9 (.qu 10 (.qu 11 (.qu 12 (.wo 13 (.qu 14 (.wo 15 .fin .no)) .no))))))))))))))) (.leaf)))))) (.node none (.plan (.qu 0 (.qu 1 (.qu 2 (.qu 3 (.qu 4 (.qu 5 (.qu 6 (.qu 7 (.qu 8 (.qu 9 (.qu 10 (.qu 11 (.qu 12 (.wo 13 (.qu 14 (.wo 15 .fin .no)) .no))))))))))))))) (.leaf)))))))))))
def slices_partitionCmpFunc_l35_Step_K0  (K : Value → Hp → Prop) : Exit → Env → Hp → Prop := retK Tryz.prog Tryz.f131.results.toList K
def slices_partitionCmpFunc_l35_Step_K1  (K : Value → Hp → Prop) : Exit → Env → Hp → Prop := thenE (fun env h => sx_6 Tryz.prog F 178 (cp [1, 1, 1, 1] (bodyOf Tryz.f131)) (ap [1, 1, 1, 1] slices_partitionCmpFunc_l35_Step_an) (rs [0, 1, 4, 12, 13] env) h (slices_partitionCmpFunc_l35_Step_K0  K)) (slices_partitionCmpFunc_l35_Step_K0  K)
def slices_partitionCmpFunc_l35_Step_K2  (K : Value → Hp → Prop) : Exit → Env → Hp → Prop := blockE 0 (slices_partitionCmpFunc_l35_Step_K1  K)
def slices_partitionCmpFunc_l35_Step_K3 (nx0 : Int × Unit → Hp → Prop) (K : Value → Hp → Prop) : Exit → Env → Hp → Prop := thenE (fun env h => getV [(12, .int .i64)] env fun s => nx0 s h) (slices_partitionCmpFunc_l35_Step_K2  K)
def slices_partitionCmpFunc_l35_Step_K4  (K : Value → Hp → Prop) : Exit → Env → Hp → Prop := thenE (fun env h => sx_5 Tryz.prog F 178 (cp [1, 1, 1, 1, 1] (bodyOf Tryz.f131)) (ap [1, 1, 1, 1, 1] slices_partitionCmpFunc_l35_Step_an) (rs [0, 1, 4, 12, 13] env) h (slices_partitionCmpFunc_l35_Step_K0  K)) (slices_partitionCmpFunc_l35_Step_K0  K)
def slices_partitionCmpFunc_l35_Step_K5  (K : Value → Hp → Prop) : Exit → Env → Hp → Prop := blockE 2 (slices_partitionCmpFunc_l35_Step_K4  K)
def slices_partitionCmpFunc_l35_Step_K6 (nx0 : Int × Unit → Hp → Prop) (K : Value → Hp → Prop) : Exit → Env → Hp → Prop := thenE (fun env h => getV [(13, .int .i64)] env fun s => nx0 s h) (slices_partitionCmpFunc_l35_Step_K5  K)
def slices_partitionCmpFunc_l35_Step_K7  (K : Value → Hp → Prop) : Exit → Env → Hp → Prop := thenE (fun env h => sx_4 Tryz.prog F 178 (cp [1, 1, 1, 1, 1, 1, 1, 1, 1, 1] (bodyOf Tryz.f131)) (ap [1, 1, 1, 1, 1, 1, 1, 1, 1, 1] slices_partitionCmpFunc_l35_Step_an) (rs [0, 1, 13] env) h (slices_partitionCmpFunc_l35_Step_K0  K)) (slices_partitionCmpFunc_l35_Step_K0  K)
def slices_partitionCmpFunc_l35_Step_K8  (K : Value → Hp → Prop) : Exit → Env → Hp → Prop := blockE 4 (slices_partitionCmpFunc_l35_Step_K7  K)
def slices_partitionCmpFunc_l35_Step_K9 (nx0 : Int × Int × Unit → Hp → Prop) (K : Value → Hp → Prop) : Exit → Env → Hp → Prop := thenE (fun env h => getV [(12, .int .i64), (13, .int .i64)] env fun s => nx0 s h) (slices_partitionCmpFunc_l35_Step_K8  K)
def slices_partitionCmpFunc_l35_Step_K10 (nx0 : Int × Int × Unit → Hp → Prop) (K : Value → Hp → Prop) : Exit → Env → Hp → Prop := blockE 5 (slices_partitionCmpFunc_l35_Step_K9 nx0 K)
def slices_partitionCmpFunc_l35_Step_K11 (nx0 : Int × Int × Unit → Hp → Prop) (K : Value → Hp → Prop) : Exit → Env → Hp → Prop := thenE (fun env h => sx_3 Tryz.prog F 178 (cp [1, 1, 1, 1, 1, 1, 1, 1, 1, 0, 2, 2, 2, 1] (bodyOf Tryz.f131)) (ap [1, 1, 1, 1, 1, 1, 1, 1, 1, 0, 2, 1] slices_partitionCmpFunc_l35_Step_an) (rs [0, 1, 4, 12, 13] env) h (slices_partitionCmpFunc_l35_Step_K10 nx0 K)) (slices_partitionCmpFunc_l35_Step_K10 nx0 K)
def slices_partitionCmpFunc_l35_Step_K12 (nx0 : Int × Int × Unit → Hp → Prop) (K : Value → Hp → Prop) : Exit → Env → Hp → Prop := blockE 6 (slices_partitionCmpFunc_l35_Step_K11 nx0 K)
def slices_partitionCmpFunc_l35_Step_K13 (nx0 : Int × Int × Unit → Hp → Prop) (nx1 : Int × Unit → Hp → Prop) (K : Value → Hp → Prop) : Exit → Env → Hp → Prop := thenE (fun env h => getV [(12, .int .i64)] env fun s => nx1 s h) (slices_partitionCmpFunc_l35_Step_K12 nx0 K)
def slices_partitionCmpFunc_l35_Step_K14 (nx0 : Int × Int × Unit → Hp → Prop) (K : Value → Hp → Prop) : Exit → Env → Hp → Prop := thenE (fun env h => sx_2 Tryz.prog F 178 (cp [1, 1, 1, 1, 1, 1, 1, 1, 1, 0, 2, 2, 2, 1, 1] (bodyOf Tryz.f131)) (ap [1, 1, 1, 1, 1, 1, 1, 1, 1, 0, 2, 1, 1] slices_partitionCmpFunc_l35_Step_an) (rs [0, 1, 4, 12, 13] env) h (slices_partitionCmpFunc_l35_Step_K10 nx0 K)) (slices_partitionCmpFunc_l35_Step_K10 nx0 K)
def slices_partitionCmpFunc_l35_Step_K15 (nx0 : Int × Int × Unit → Hp → Prop) (K : Value → Hp → Prop) : Exit → Env → Hp → Prop := blockE 8 (slices_partitionCmpFunc_l35_Step_K14 nx0 K)
def slices_partitionCmpFunc_l35_Step_K16 (nx0 : Int × Int × Unit → Hp → Prop) (nx1 : Int × Unit → Hp → Prop) (K : Value → Hp → Prop) : Exit → Env → Hp → Prop := thenE (fun env h => getV [(13, .int .i64)] env fun s => nx1 s h) (slices_partitionCmpFunc_l35_Step_K15 nx0 K)
def slices_partitionCmpFunc_l35_Step_b0 (data : Option Addr) (dataL : Nat) (dataC : Nat) (a : Int) (b : Int) (pivot : Int) (cmp : Value) (h : Hp)  (K : Value → Hp → Prop) : Prop :=
  sx_7 Tryz.prog F 178 (cp [] (bodyOf Tryz.f131)) (ap [] slices_partitionCmpFunc_l35_Step_an) [(0, .slice data dataL dataC), (1, .int .i64 a), (2, .int .i64 b), (3, .int .i64 pivot), (4, cmp)] h (slices_partitionCmpFunc_l35_Step_K0  K)
def slices_partitionCmpFunc_l35_Step_b1 (i : Int) (data : Option Addr) (dataL : Nat) (dataC : Nat) (a : Int) (cmp : Value) (j : Int) (h : Hp) (nx0 : Int × Unit → Hp → Prop) (K : Value → Hp → Prop) : Prop :=
  sx_6 Tryz.prog F 178 (cp [1, 1, 1, 0, 2, 2] (bodyOf Tryz.f131)) (ap [1, 1, 1, 0, 2] slices_partitionCmpFunc_l35_Step_an) [(12, .int .i64 i), (0, .slice data dataL dataC), (1, .int .i64 a), (4, cmp), (13, .int .i64 j)] h (slices_partitionCmpFunc_l35_Step_K3 nx0 K)
def slices_partitionCmpFunc_l35_Step_b2 (data : Option Addr) (dataL : Nat) (dataC : Nat) (a : Int) (cmp : Value) (i : Int) (j : Int) (h : Hp) (nx0 : Int × Unit → Hp → Prop) (K : Value → Hp → Prop) : Prop :=
  sx_5 Tryz.prog F 178 (cp [1, 1, 1, 0, 2, 2, 1] (bodyOf Tryz.f131)) (ap [1, 1, 1, 0, 2, 1] slices_partitionCmpFunc_l35_Step_an) [(0, .slice data dataL dataC), (1, .int .i64 a), (4, cmp), (12, .int .i64 i), (13, .int .i64 j)] h (slices_partitionCmpFunc_l35_Step_K3 nx0 K)
def slices_partitionCmpFunc_l35_Step_b3 (data : Option Addr) (dataL : Nat) (dataC : Nat) (a : Int) (cmp : Value) (i : Int) (j : Int) (h : Hp)  (K : Value → Hp → Prop) : Prop :=
  sx_6 Tryz.prog F 178 (cp [1, 1, 1, 1] (bodyOf Tryz.f131)) (ap [1, 1, 1, 1] slices_partitionCmpFunc_l35_Step_an) [(0, .slice data dataL dataC), (1, .int .i64 a), (4, cmp), (12, .int .i64 i), (13, .int .i64 j)] h (slices_partitionCmpFunc_l35_Step_K0  K)
def slices_partitionCmpFunc_l35_Step_b4 (j : Int) (data : Option Addr) (dataL : Nat) (dataC : Nat) (a : Int) (cmp : Value) (i : Int) (h : Hp) (nx0 : Int × Unit → Hp → Prop) (K : Value → Hp → Prop) : Prop :=
  sx_5 Tryz.prog F 178 (cp [1, 1, 1, 1, 0, 2, 2] (bodyOf Tryz.f131)) (ap [1, 1, 1, 1, 0, 2] slices_partitionCmpFunc_l35_Step_an) [(13, .int .i64 j), (0, .slice data dataL dataC), (1, .int .i64 a), (4, cmp), (12, .int .i64 i)] h (slices_partitionCmpFunc_l35_Step_K6 nx0 K)
def slices_partitionCmpFunc_l35_Step_b5 (data : Option Addr) (dataL : Nat) (dataC : Nat) (a : Int) (cmp : Value) (i : Int) (j : Int) (h : Hp) (nx0 : Int × Unit → Hp → Prop) (K : Value → Hp → Prop) : Prop :=
  sx_4 Tryz.prog F 178 (cp [1, 1, 1, 1, 0, 2, 2, 1] (bodyOf Tryz.f131)) (ap [1, 1, 1, 1, 0, 2, 1] slices_partitionCmpFunc_l35_Step_an) [(0, .slice data dataL dataC), (1, .int .i64 a), (4, cmp), (12, .int .i64 i), (13, .int .i64 j)] h (slices_partitionCmpFunc_l35_Step_K6 nx0 K)
def slices_partitionCmpFunc_l35_Step_b6 (data : Option Addr) (dataL : Nat) (dataC : Nat) (a : Int) (cmp : Value) (i : Int) (j : Int) (h : Hp)  (K : Value → Hp → Prop) : Prop :=
  sx_5 Tryz.prog F 178 (cp [1, 1, 1, 1, 1] (bodyOf Tryz.f131)) (ap [1, 1, 1, 1, 1] slices_partitionCmpFunc_l35_Step_an) [(0, .slice data dataL dataC), (1, .int .i64 a), (4, cmp), (12, .int .i64 i), (13, .int .i64 j)] h (slices_partitionCmpFunc_l35_Step_K0  K)
def slices_partitionCmpFunc_l35_Step_b7 (i : Int) (j : Int) (data : Option Addr) (dataL : Nat) (dataC : Nat) (a : Int) (cmp : Value) (h : Hp) (nx0 : Int × Int × Unit → Hp → Prop) (K : Value → Hp → Prop) : Prop :=
  sx_4 Tryz.prog F 178 (cp [1, 1, 1, 1, 1, 1, 1, 1, 1, 0, 2, 2] (bodyOf Tryz.f131)) (ap [1, 1, 1, 1, 1, 1, 1, 1, 1, 0, 2] slices_partitionCmpFunc_l35_Step_an) [(12, .int .i64 i), (13, .int .i64 j), (0, .slice data dataL dataC), (1, .int .i64 a), (4, cmp)] h (slices_partitionCmpFunc_l35_Step_K9 nx0 K)
def slices_partitionCmpFunc_l35_Step_b8 (i : Int) (data : Option Addr) (dataL : Nat) (dataC : Nat) (a : Int) (cmp : Value) (j : Int) (h : Hp) (nx0 : Int × Int × Unit → Hp → Prop) (nx1 : Int × Unit → Hp → Prop) (K : Value → Hp → Prop) : Prop :=
  sx_3 Tryz.prog F 178 (cp [1, 1, 1, 1, 1, 1, 1, 1, 1, 0, 2, 2, 2, 0, 2, 2] (bodyOf Tryz.f131)) (ap [1, 1, 1, 1, 1, 1, 1, 1, 1, 0, 2, 0, 2] slices_partitionCmpFunc_l35_Step_an) [(12, .int .i64 i), (0, .slice data dataL dataC), (1, .int .i64 a), (4, cmp), (13, .int .i64 j)] h (slices_partitionCmpFunc_l35_Step_K13 nx0 nx1 K)
def slices_partitionCmpFunc_l35_Step_b9 (data : Option Addr) (dataL : Nat) (dataC : Nat) (a : Int) (cmp : Value) (i : Int) (j : Int) (h : Hp) (nx0 : Int × Int × Unit → Hp → Prop) (nx1 : Int × Unit → Hp → Prop) (K : Value → Hp → Prop) : Prop :=
  sx_2 Tryz.prog F 178 (cp [1, 1, 1, 1, 1, 1, 1, 1, 1, 0, 2, 2, 2, 0, 2, 2, 1] (bodyOf Tryz.f131)) (ap [1, 1, 1, 1, 1, 1, 1, 1, 1, 0, 2, 0, 2, 1] slices_partitionCmpFunc_l35_Step_an) [(0, .slice data dataL dataC), (1, .int .i64 a), (4, cmp), (12, .int .i64 i), (13, .int .i64 j)] h (slices_partitionCmpFunc_l35_Step_K13 nx0 nx1 K)
def slices_partitionCmpFunc_l35_Step_b10 (data : Option Addr) (dataL : Nat) (dataC : Nat) (a : Int) (cmp : Value) (i : Int) (j : Int) (h : Hp) (nx0 : Int × Int × Unit → Hp → Prop) (K : Value → Hp → Prop) : Prop :=
  sx_3 Tryz.prog F 178 (cp [1, 1, 1, 1, 1, 1, 1, 1, 1, 0, 2, 2, 2, 1] (bodyOf Tryz.f131)) (ap [1, 1, 1, 1, 1, 1, 1, 1, 1, 0, 2, 1] slices_partitionCmpFunc_l35_Step_an) [(0, .slice data dataL dataC), (1, .int .i64 a), (4, cmp), (12, .int .i64 i), (13, .int .i64 j)] h (slices_partitionCmpFunc_l35_Step_K10 nx0 K)
def slices_partitionCmpFunc_l35_Step_b11 (j : Int) (data : Option Addr) (dataL : Nat) (dataC : Nat) (a : Int) (cmp : Value) (i : Int) (h : Hp) (nx0 : Int × Int × Unit → Hp → Prop) (nx1 : Int × Unit → Hp → Prop) (K : Value → Hp → Prop) : Prop :=
  sx_2 Tryz.prog F 178 (cp [1, 1, 1, 1, 1, 1, 1, 1, 1, 0, 2, 2, 2, 1, 0, 2, 2] (bodyOf Tryz.f131)) (ap [1, 1, 1, 1, 1, 1, 1, 1, 1, 0, 2, 1, 0, 2] slices_partitionCmpFunc_l35_Step_an) [(13, .int .i64 j), (0, .slice data dataL dataC), (1, .int .i64 a), (4, cmp), (12, .int .i64 i)] h (slices_partitionCmpFunc_l35_Step_K16 nx0 nx1 K)
def slices_partitionCmpFunc_l35_Step_b12 (data : Option Addr) (dataL : Nat) (dataC : Nat) (a : Int) (cmp : Value) (i : Int) (j : Int) (h : Hp) (nx0 : Int × Int × Unit → Hp → Prop) (nx1 : Int × Unit → Hp → Prop) (K : Value → Hp → Prop) : Prop :=
  sx_1 Tryz.prog F 178 (cp [1, 1, 1, 1, 1, 1, 1, 1, 1, 0, 2, 2, 2, 1, 0, 2, 2, 1] (bodyOf Tryz.f131)) (ap [1, 1, 1, 1, 1, 1, 1, 1, 1, 0, 2, 1, 0, 2, 1] slices_partitionCmpFunc_l35_Step_an) [(0, .slice data dataL dataC), (1, .int .i64 a), (4, cmp), (12, .int .i64 i), (13, .int .i64 j)] h (slices_partitionCmpFunc_l35_Step_K16 nx0 nx1 K)
def slices_partitionCmpFunc_l35_Step_b13 (data : Option Addr) (dataL : Nat) (dataC : Nat) (a : Int) (cmp : Value) (i : Int) (j : Int) (h : Hp) (nx0 : Int × Int × Unit → Hp → Prop) (K : Value → Hp → Prop) : Prop :=
  sx_2 Tryz.prog F 178 (cp [1, 1, 1, 1, 1, 1, 1, 1, 1, 0, 2, 2, 2, 1, 1] (bodyOf Tryz.f131)) (ap [1, 1, 1, 1, 1, 1, 1, 1, 1, 0, 2, 1, 1] slices_partitionCmpFunc_l35_Step_an) [(0, .slice data dataL dataC), (1, .int .i64 a), (4, cmp), (12, .int .i64 i), (13, .int .i64 j)] h (slices_partitionCmpFunc_l35_Step_K10 nx0 K)
def slices_partitionCmpFunc_l35_Step_b14 (data : Option Addr) (dataL : Nat) (dataC : Nat) (a : Int) (j : Int) (h : Hp)  (K : Value → Hp → Prop) : Prop :=
  sx_4 Tryz.prog F 178 (cp [1, 1, 1, 1, 1, 1, 1, 1, 1, 1] (bodyOf Tryz.f131)) (ap [1, 1, 1, 1, 1, 1, 1, 1, 1, 1] slices_partitionCmpFunc_l35_Step_an) [(0, .slice data dataL dataC), (1, .int .i64 a), (13, .int .i64 j)] h (slices_partitionCmpFunc_l35_Step_K0  K)
theorem slices_partitionCmpFunc_l35_Step_b0_eq (data : Option Addr) (dataL : Nat) (dataC : Nat) (a : Int) (b : Int) (pivot : Int) (cmp : Value) (h : Hp)  (K : Value → Hp → Prop) : slices_partitionCmpFunc_l35_Step_b0 data dataL dataC a b pivot cmp h  K = (
  (0 ≤ pivot ∧ pivot < (dataL : Int)) ∧
  NN data fun a1 =>
  ∃ n1 : Int, ∃ n2 : Int, ∃ n3 : Int, ∃ n4 : Int, ∃ (a2 : Option Addr) (L1 C1 : Nat), cell h (a1.add (Int.toNat pivot * 5)) = some (.int .i64 n1) ∧
  cell h ((a1.add (Int.toNat pivot * 5)).add 1) = some (.int .i64 n2) ∧
  cell h ((a1.add (Int.toNat pivot * 5)).add 2) = some (.int .i64 n3) ∧
  cell h ((a1.add (Int.toNat pivot * 5)).add 3) = some (.int .i64 n4) ∧
  cell h ((a1.add (Int.toNat pivot * 5)).add 4) = some (.slice a2 L1 C1) ∧
  (0 ≤ a ∧ a < (dataL : Int)) ∧
  NN data fun a3 =>
  ∃ n5 : Int, ∃ n6 : Int, ∃ n7 : Int, ∃ n8 : Int, ∃ (a4 : Option Addr) (L2 C2 : Nat), cell h (a3.add (Int.toNat a * 5)) = some (.int .i64 n5) ∧
  cell h ((a3.add (Int.toNat a * 5)).add 1) = some (.int .i64 n6) ∧
  cell h ((a3.add (Int.toNat a * 5)).add 2) = some (.int .i64 n7) ∧
  cell h ((a3.add (Int.toNat a * 5)).add 3) = some (.int .i64 n8) ∧
  cell h ((a3.add (Int.toNat a * 5)).add 4) = some (.slice a4 L2 C2) ∧
  (0 ≤ a ∧ a < (dataL : Int)) ∧
  NN data fun a5 =>
  Wr h (a5.add (Int.toNat a * 5)) (.int .i64 n1) fun h1 =>
  Wr h1 ((a5.add (Int.toNat a * 5)).add 1) (.int .i64 n2) fun h2 =>
  Wr h2 ((a5.add (Int.toNat a * 5)).add 2) (.int .i64 n3) fun h3 =>
  Wr h3 ((a5.add (Int.toNat a * 5)).add 3) (.int .i64 n4) fun h4 =>
  Wr h4 ((a5.add (Int.toNat a * 5)).add 4) (.slice a2 L1 C1) fun h5 =>
  (0 ≤ pivot ∧ pivot < (dataL : Int)) ∧
  NN data fun a6 =>
  Wr h5 (a6.add (Int.toNat pivot * 5)) (.int .i64 n5) fun h6 =>
  Wr h6 ((a6.add (Int.toNat pivot * 5)).add 1) (.int .i64 n6) fun h7 =>
  Wr h7 ((a6.add (Int.toNat pivot * 5)).add 2) (.int .i64 n7) fun h8 =>
  Wr h8 ((a6.add (Int.toNat pivot * 5)).add 3) (.int .i64 n8) fun h9 =>
  Wr h9 ((a6.add (Int.toNat pivot * 5)).add 4) (.slice a4 L2 C2) fun h10 =>
  InR (a + 1) ∧
  InR (b - 1) ∧
  LoopVC ((a + 1, ()) : Int × Unit) h10 (fun (nx0 : Int × Unit → Hp → Prop) (s1 : Int × Unit) h11 => slices_partitionCmpFunc_l35_Step_b1 s1.1 data dataL dataC a cmp (b - 1) h11 nx0 K)) := by kernel_rfl
theorem slices_partitionCmpFunc_l35_Step_b1_eq (i : Int) (data : Option Addr) (dataL : Nat) (dataC : Nat) (a : Int) (cmp : Value) (j : Int) (h : Hp) (nx0 : Int × Unit → Hp → Prop) (K : Value → Hp → Prop) : slices_partitionCmpFunc_l35_Step_b1 i data dataL dataC a cmp j h nx0 K = (
  cond (decide (i ≤ j))
  ((0 ≤ i ∧ i < (dataL : Int)) ∧
  NN data fun a7 =>
  ∃ n9 : Int, ∃ n10 : Int, ∃ n11 : Int, ∃ n12 : Int, ∃ (a8 : Option Addr) (L3 C3 : Nat), cell h (a7.add (Int.toNat i * 5)) = some (.int .i64 n9) ∧
  cell h ((a7.add (Int.toNat i * 5)).add 1) = some (.int .i64 n10) ∧
  cell h ((a7.add (Int.toNat i * 5)).add 2) = some (.int .i64 n11) ∧
  cell h ((a7.add (Int.toNat i * 5)).add 3) = some (.int .i64 n12) ∧
  cell h ((a7.add (Int.toNat i * 5)).add 4) = some (.slice a8 L3 C3) ∧
  (0 ≤ a ∧ a < (dataL : Int)) ∧
  NN data fun a9 =>
  ∃ n13 : Int, ∃ n14 : Int, ∃ n15 : Int, ∃ n16 : Int, ∃ (a10 : Option Addr) (L4 C4 : Nat), cell h (a9.add (Int.toNat a * 5)) = some (.int .i64 n13) ∧
  cell h ((a9.add (Int.toNat a * 5)).add 1) = some (.int .i64 n14) ∧
  cell h ((a9.add (Int.toNat a * 5)).add 2) = some (.int .i64 n15) ∧
  cell h ((a9.add (Int.toNat a * 5)).add 3) = some (.int .i64 n16) ∧
  cell h ((a9.add (Int.toNat a * 5)).add 4) = some (.slice a10 L4 C4) ∧
  funV cmp fun fg1 fa1 fc1 => callX Tryz.prog F fg1 (fa1 ++ (([.agg #[.int .i64 n9, .int .i64 n10, .int .i64 n11, .int .i64 n12, .slice a8 L3 C3], .agg #[.int .i64 n13, .int .i64 n14, .int .i64 n15, .int .i64 n16, .slice a10 L4 C4]] : List Value) ++ fc1)).toArray h fun v1 h12 => ∃ r1 : Int, v1 = .int .i64 r1 ∧
  cond (decide (r1 < 0))
  (slices_partitionCmpFunc_l35_Step_b2 data dataL dataC a cmp i j h12 nx0 K)
  (slices_partitionCmpFunc_l35_Step_b3 data dataL dataC a cmp i j h12  K))
  (slices_partitionCmpFunc_l35_Step_b3 data dataL dataC a cmp i j h  K)) := by kernel_rfl
theorem slices_partitionCmpFunc_l35_Step_b2_eq (data : Option Addr) (dataL : Nat) (dataC : Nat) (a : Int) (cmp : Value) (i : Int) (j : Int) (h : Hp) (nx0 : Int × Unit → Hp → Prop) (K : Value → Hp → Prop) : slices_partitionCmpFunc_l35_Step_b2 data dataL dataC a cmp i j h nx0 K = (
  InR (i + 1) ∧
  nx0 (i + 1, ()) h) := by kernel_rfl
theorem slices_partitionCmpFunc_l35_Step_b3_eq (data : Option Addr) (dataL : Nat) (dataC : Nat) (a : Int) (cmp : Value) (i : Int) (j : Int) (h : Hp)  (K : Value → Hp → Prop) : slices_partitionCmpFunc_l35_Step_b3 data dataL dataC a cmp i j h  K = (
  LoopVC ((j, ()) : Int × Unit) h (fun (nx0 : Int × Unit → Hp → Prop) (s2 : Int × Unit) h13 => slices_partitionCmpFunc_l35_Step_b4 s2.1 data dataL dataC a cmp i h13 nx0 K)) := by kernel_rfl
theorem slices_partitionCmpFunc_l35_Step_b4_eq (j : Int) (data : Option Addr) (dataL : Nat) (dataC : Nat) (a : Int) (cmp : Value) (i : Int) (h : Hp) (nx0 : Int × Unit → Hp → Prop) (K : Value → Hp → Prop) : slices_partitionCmpFunc_l35_Step_b4 j data dataL dataC a cmp i h nx0 K = (
  cond (decide (i ≤ j))
  ((0 ≤ j ∧ j < (dataL : Int)) ∧
  NN data fun a11 =>
  ∃ n17 : Int, ∃ n18 : Int, ∃ n19 : Int, ∃ n20 : Int, ∃ (a12 : Option Addr) (L5 C5 : Nat), cell h (a11.add (Int.toNat j * 5)) = some (.int .i64 n17) ∧
  cell h ((a11.add (Int.toNat j * 5)).add 1) = some (.int .i64 n18) ∧
  cell h ((a11.add (Int.toNat j * 5)).add 2) = some (.int .i64 n19) ∧
  cell h ((a11.add (Int.toNat j * 5)).add 3) = some (.int .i64 n20) ∧
  cell h ((a11.add (Int.toNat j * 5)).add 4) = some (.slice a12 L5 C5) ∧
  (0 ≤ a ∧ a < (dataL : Int)) ∧
  NN data fun a13 =>
  ∃ n21 : Int, ∃ n22 : Int, ∃ n23 : Int, ∃ n24 : Int, ∃ (a14 : Option Addr) (L6 C6 : Nat), cell h (a13.add (Int.toNat a * 5)) = some (.int .i64 n21) ∧
  cell h ((a13.add (Int.toNat a * 5)).add 1) = some (.int .i64 n22) ∧
  cell h ((a13.add (Int.toNat a * 5)).add 2) = some (.int .i64 n23) ∧
  cell h ((a13.add (Int.toNat a * 5)).add 3) = some (.int .i64 n24) ∧
  cell h ((a13.add (Int.toNat a * 5)).add 4) = some (.slice a14 L6 C6) ∧
  funV cmp fun fg2 fa2 fc2 => callX Tryz.prog F fg2 (fa2 ++ (([.agg #[.int .i64 n17, .int .i64 n18, .int .i64 n19, .int .i64 n20, .slice a12 L5 C5], .agg #[.int .i64 n21, .int .i64 n22, .int .i64 n23, .int .i64 n24, .slice a14 L6 C6]] : List Value) ++ fc2)).toArray h fun v2 h14 => ∃ r2 : Int, v2 = .int .i64 r2 ∧
  cond (!(decide (r2 < 0)))
  (slices_partitionCmpFunc_l35_Step_b5 data dataL dataC a cmp i j h14 nx0 K)
  (slices_partitionCmpFunc_l35_Step_b6 data dataL dataC a cmp i j h14  K))
  (slices_partitionCmpFunc_l35_Step_b6 data dataL dataC a cmp i j h  K)) := by kernel_rfl
theorem slices_partitionCmpFunc_l35_Step_b5_eq (data : Option Addr) (dataL : Nat) (dataC : Nat) (a : Int) (cmp : Value) (i : Int) (j : Int) (h : Hp) (nx0 : Int × Unit → Hp → Prop) (K : Value → Hp → Prop) : slices_partitionCmpFunc_l35_Step_b5 data dataL dataC a cmp i j h nx0 K = (
  InR (j - 1) ∧
  nx0 (j - 1, ()) h) := by kernel_rfl
theorem slices_partitionCmpFunc_l35_Step_b6_eq (data : Option Addr) (dataL : Nat) (dataC : Nat) (a : Int) (cmp : Value) (i : Int) (j : Int) (h : Hp)  (K : Value → Hp → Prop) : slices_partitionCmpFunc_l35_Step_b6 data dataL dataC a cmp i j h  K = (
  cond (decide (j < i))
  ((0 ≤ a ∧ a < (dataL : Int)) ∧
  NN data fun a15 =>
  ∃ n25 : Int, ∃ n26 : Int, ∃ n27 : Int, ∃ n28 : Int, ∃ (a16 : Option Addr) (L7 C7 : Nat), cell h (a15.add (Int.toNat a * 5)) = some (.int .i64 n25) ∧
  cell h ((a15.add (Int.toNat a * 5)).add 1) = some (.int .i64 n26) ∧
  cell h ((a15.add (Int.toNat a * 5)).add 2) = some (.int .i64 n27) ∧
  cell h ((a15.add (Int.toNat a * 5)).add 3) = some (.int .i64 n28) ∧
  cell h ((a15.add (Int.toNat a * 5)).add 4) = some (.slice a16 L7 C7) ∧
  (0 ≤ j ∧ j < (dataL : Int)) ∧
  NN data fun a17 =>
  ∃ n29 : Int, ∃ n30 : Int, ∃ n31 : Int, ∃ n32 : Int, ∃ (a18 : Option Addr) (L8 C8 : Nat), cell h (a17.add (Int.toNat j * 5)) = some (.int .i64 n29) ∧
  cell h ((a17.add (Int.toNat j * 5)).add 1) = some (.int .i64 n30) ∧
  cell h ((a17.add (Int.toNat j * 5)).add 2) = some (.int .i64 n31) ∧
  cell h ((a17.add (Int.toNat j * 5)).add 3) = some (.int .i64 n32) ∧
  cell h ((a17.add (Int.toNat j * 5)).add 4) = some (.slice a18 L8 C8) ∧
  (0 ≤ j ∧ j < (dataL : Int)) ∧
  NN data fun a19 =>
  Wr h (a19.add (Int.toNat j * 5)) (.int .i64 n25) fun h15 =>
  Wr h15 ((a19.add (Int.toNat j * 5)).add 1) (.int .i64 n26) fun h16 =>
  Wr h16 ((a19.add (Int.toNat j * 5)).add 2) (.int .i64 n27) fun h17 =>
  Wr h17 ((a19.add (Int.toNat j * 5)).add 3) (.int .i64 n28) fun h18 =>
  Wr h18 ((a19.add (Int.toNat j * 5)).add 4) (.slice a16 L7 C7) fun h19 =>
  (0 ≤ a ∧ a < (dataL : Int)) ∧
  NN data fun a20 =>
  Wr h19 (a20.add (Int.toNat a * 5)) (.int .i64 n29) fun h20 =>
  Wr h20 ((a20.add (Int.toNat a * 5)).add 1) (.int .i64 n30) fun h21 =>
  Wr h21 ((a20.add (Int.toNat a * 5)).add 2) (.int .i64 n31) fun h22 =>
  Wr h22 ((a20.add (Int.toNat a * 5)).add 3) (.int .i64 n32) fun h23 =>
  Wr h23 ((a20.add (Int.toNat a * 5)).add 4) (.slice a18 L8 C8) fun h24 =>
  K (.tuple #[.int .i64 j, .bool true]) h24)
  ((0 ≤ j ∧ j < (dataL : Int)) ∧
  NN data fun a21 =>
  ∃ n33 : Int, ∃ n34 : Int, ∃ n35 : Int, ∃ n36 : Int, ∃ (a22 : Option Addr) (L9 C9 : Nat), cell h (a21.add (Int.toNat j * 5)) = some (.int .i64 n33) ∧
  cell h ((a21.add (Int.toNat j * 5)).add 1) = some (.int .i64 n34) ∧
  cell h ((a21.add (Int.toNat j * 5)).add 2) = some (.int .i64 n35) ∧
  cell h ((a21.add (Int.toNat j * 5)).add 3) = some (.int .i64 n36) ∧
  cell h ((a21.add (Int.toNat j * 5)).add 4) = some (.slice a22 L9 C9) ∧
  (0 ≤ i ∧ i < (dataL : Int)) ∧
  NN data fun a23 =>
  ∃ n37 : Int, ∃ n38 : Int, ∃ n39 : Int, ∃ n40 : Int, ∃ (a24 : Option Addr) (L10 C10 : Nat), cell h (a23.add (Int.toNat i * 5)) = some (.int .i64 n37) ∧
  cell h ((a23.add (Int.toNat i * 5)).add 1) = some (.int .i64 n38) ∧
  cell h ((a23.add (Int.toNat i * 5)).add 2) = some (.int .i64 n39) ∧
  cell h ((a23.add (Int.toNat i * 5)).add 3) = some (.int .i64 n40) ∧
  cell h ((a23.add (Int.toNat i * 5)).add 4) = some (.slice a24 L10 C10) ∧
  (0 ≤ i ∧ i < (dataL : Int)) ∧
  NN data fun a25 =>
  Wr h (a25.add (Int.toNat i * 5)) (.int .i64 n33) fun h25 =>
  Wr h25 ((a25.add (Int.toNat i * 5)).add 1) (.int .i64 n34) fun h26 =>
  Wr h26 ((a25.add (Int.toNat i * 5)).add 2) (.int .i64 n35) fun h27 =>
  Wr h27 ((a25.add (Int.toNat i * 5)).add 3) (.int .i64 n36) fun h28 =>
  Wr h28 ((a25.add (Int.toNat i * 5)).add 4) (.slice a22 L9 C9) fun h29 =>
  (0 ≤ j ∧ j < (dataL : Int)) ∧
  NN data fun a26 =>
  Wr h29 (a26.add (Int.toNat j * 5)) (.int .i64 n37) fun h30 =>
  Wr h30 ((a26.add (Int.toNat j * 5)).add 1) (.int .i64 n38) fun h31 =>
  Wr h31 ((a26.add (Int.toNat j * 5)).add 2) (.int .i64 n39) fun h32 =>
  Wr h32 ((a26.add (Int.toNat j * 5)).add 3) (.int .i64 n40) fun h33 =>
  Wr h33 ((a26.add (Int.toNat j * 5)).add 4) (.slice a24 L10 C10) fun h34 =>
  InR (i + 1) ∧
  InR (j - 1) ∧
  LoopVC ((i + 1, j - 1, ()) : Int × Int × Unit) h34 (fun (nx0 : Int × Int × Unit → Hp → Prop) (s3 : Int × Int × Unit) h35 => slices_partitionCmpFunc_l35_Step_b7 s3.1 s3.2.1 data dataL dataC a cmp h35 nx0 K))) := by kernel_rfl
theorem slices_partitionCmpFunc_l35_Step_b7_eq (i : Int) (j : Int) (data : Option Addr) (dataL : Nat) (dataC : Nat) (a : Int) (cmp : Value) (h : Hp) (nx0 : Int × Int × Unit → Hp → Prop) (K : Value → Hp → Prop) : slices_partitionCmpFunc_l35_Step_b7 i j data dataL dataC a cmp h nx0 K = (
  LoopVC ((i, ()) : Int × Unit) h (fun (nx1 : Int × Unit → Hp → Prop) (s4 : Int × Unit) h36 => slices_partitionCmpFunc_l35_Step_b8 s4.1 data dataL dataC a cmp j h36 nx0 nx1 K)) := by kernel_rfl
theorem slices_partitionCmpFunc_l35_Step_b8_eq (i : Int) (data : Option Addr) (dataL : Nat) (dataC : Nat) (a : Int) (cmp : Value) (j : Int) (h : Hp) (nx0 : Int × Int × Unit → Hp → Prop) (nx1 : Int × Unit → Hp → Prop) (K : Value → Hp → Prop) : slices_partitionCmpFunc_l35_Step_b8 i data dataL dataC a cmp j h nx0 nx1 K = (
  cond (decide (i ≤ j))
  ((0 ≤ i ∧ i < (dataL : Int)) ∧
  NN data fun a27 =>
  ∃ n41 : Int, ∃ n42 : Int, ∃ n43 : Int, ∃ n44 : Int, ∃ (a28 : Option Addr) (L11 C11 : Nat), cell h (a27.add (Int.toNat i * 5)) = some (.int .i64 n41) ∧
  cell h ((a27.add (Int.toNat i * 5)).add 1) = some (.int .i64 n42) ∧
  cell h ((a27.add (Int.toNat i * 5)).add 2) = some (.int .i64 n43) ∧
  cell h ((a27.add (Int.toNat i * 5)).add 3) = some (.int .i64 n44) ∧
  cell h ((a27.add (Int.toNat i * 5)).add 4) = some (.slice a28 L11 C11) ∧
  (0 ≤ a ∧ a < (dataL : Int)) ∧
  NN data fun a29 =>
  ∃ n45 : Int, ∃ n46 : Int, ∃ n47 : Int, ∃ n48 : Int, ∃ (a30 : Option Addr) (L12 C12 : Nat), cell h (a29.add (Int.toNat a * 5)) = some (.int .i64 n45) ∧
  cell h ((a29.add (Int.toNat a * 5)).add 1) = some (.int .i64 n46) ∧
  cell h ((a29.add (Int.toNat a * 5)).add 2) = some (.int .i64 n47) ∧
  cell h ((a29.add (Int.toNat a * 5)).add 3) = some (.int .i64 n48) ∧
  cell h ((a29.add (Int.toNat a * 5)).add 4) = some (.slice a30 L12 C12) ∧
  funV cmp fun fg3 fa3 fc3 => callX Tryz.prog F fg3 (fa3 ++ (([.agg #[.int .i64 n41, .int .i64 n42, .int .i64 n43, .int .i64 n44, .slice a28 L11 C11], .agg #[.int .i64 n45, .int .i64 n46, .int .i64 n47, .int .i64 n48, .slice a30 L12 C12]] : List Value) ++ fc3)).toArray h fun v3 h37 => ∃ r3 : Int, v3 = .int .i64 r3 ∧
  cond (decide (r3 < 0))
  (slices_partitionCmpFunc_l35_Step_b9 data dataL dataC a cmp i j h37 nx0 nx1 K)
  (slices_partitionCmpFunc_l35_Step_b10 data dataL dataC a cmp i j h37 nx0 K))
  (slices_partitionCmpFunc_l35_Step_b10 data dataL dataC a cmp i j h nx0 K)) := by kernel_rfl
theorem slices_partitionCmpFunc_l35_Step_b9_eq (data : Option Addr) (dataL : Nat) (dataC : Nat) (a : Int) (cmp : Value) (i : Int) (j : Int) (h : Hp) (nx0 : Int × Int × Unit → Hp → Prop) (nx1 : Int × Unit → Hp → Prop) (K : Value → Hp → Prop) : slices_partitionCmpFunc_l35_Step_b9 data dataL dataC a cmp i j h nx0 nx1 K = (
  InR (i + 1) ∧
  nx1 (i + 1, ()) h) := by kernel_rfl
theorem slices_partitionCmpFunc_l35_Step_b10_eq (data : Option Addr) (dataL : Nat) (dataC : Nat) (a : Int) (cmp : Value) (i : Int) (j : Int) (h : Hp) (nx0 : Int × Int × Unit → Hp → Prop) (K : Value → Hp → Prop) : slices_partitionCmpFunc_l35_Step_b10 data dataL dataC a cmp i j h nx0 K = (
  LoopVC ((j, ()) : Int × Unit) h (fun (nx1 : Int × Unit → Hp → Prop) (s5 : Int × Unit) h38 => slices_partitionCmpFunc_l35_Step_b11 s5.1 data dataL dataC a cmp i h38 nx0 nx1 K)) := by kernel_rfl
theorem slices_partitionCmpFunc_l35_Step_b11_eq (j : Int) (data : Option Addr) (dataL : Nat) (dataC : Nat) (a : Int) (cmp : Value) (i : Int) (h : Hp) (nx0 : Int × Int × Unit → Hp → Prop) (nx1 : Int × Unit → Hp → Prop) (K : Value → Hp → Prop) : slices_partitionCmpFunc_l35_Step_b11 j data dataL dataC a cmp i h nx0 nx1 K = (
  cond (decide (i ≤ j))
  ((0 ≤ j ∧ j < (dataL : Int)) ∧
  NN data fun a31 =>
  ∃ n49 : Int, ∃ n50 : Int, ∃ n51 : Int, ∃ n52 : Int, ∃ (a32 : Option Addr) (L13 C13 : Nat), cell h (a31.add (Int.toNat j * 5)) = some (.int .i64 n49) ∧
  cell h ((a31.add (Int.toNat j * 5)).add 1) = some (.int .i64 n50) ∧
  cell h ((a31.add (Int.toNat j * 5)).add 2) = some (.int .i64 n51) ∧
  cell h ((a31.add (Int.toNat j * 5)).add 3) = some (.int .i64 n52) ∧
  cell h ((a31.add (Int.toNat j * 5)).add 4) = some (.slice a32 L13 C13) ∧
  (0 ≤ a ∧ a < (dataL : Int)) ∧
  NN data fun a33 =>
  ∃ n53 : Int, ∃ n54 : Int, ∃ n55 : Int, ∃ n56 : Int, ∃ (a34 : Option Addr) (L14 C14 : Nat), cell h (a33.add (Int.toNat a * 5)) = some (.int .i64 n53) ∧
  cell h ((a33.add (Int.toNat a * 5)).add 1) = some (.int .i64 n54) ∧
  cell h ((a33.add (Int.toNat a * 5)).add 2) = some (.int .i64 n55) ∧
  cell h ((a33.add (Int.toNat a * 5)).add 3) = some (.int .i64 n56) ∧
  cell h ((a33.add (Int.toNat a * 5)).add 4) = some (.slice a34 L14 C14) ∧
  funV cmp fun fg4 fa4 fc4 => callX Tryz.prog F fg4 (fa4 ++ (([.agg #[.int .i64 n49, .int .i64 n50, .int .i64 n51, .int .i64 n52, .slice a32 L13 C13], .agg #[.int .i64 n53, .int .i64 n54, .int .i64 n55, .int .i64 n56, .slice a34 L14 C14]] : List Value) ++ fc4)).toArray h fun v4 h39 => ∃ r4 : Int, v4 = .int .i64 r4 ∧
  cond (!(decide (r4 < 0)))
  (slices_partitionCmpFunc_l35_Step_b12 data dataL dataC a cmp i j h39 nx0 nx1 K)
  (slices_partitionCmpFunc_l35_Step_b13 data dataL dataC a cmp i j h39 nx0 K))
  (slices_partitionCmpFunc_l35_Step_b13 data dataL dataC a cmp i j h nx0 K)) := by kernel_rfl
theorem slices_partitionCmpFunc_l35_Step_b12_eq (data : Option Addr) (dataL : Nat) (dataC : Nat) (a : Int) (cmp : Value) (i : Int) (j : Int) (h : Hp) (nx0 : Int × Int × Unit → Hp → Prop) (nx1 : Int × Unit → Hp → Prop) (K : Value → Hp → Prop) : slices_partitionCmpFunc_l35_Step_b12 data dataL dataC a cmp i j h nx0 nx1 K = (
  InR (j - 1) ∧
  nx1 (j - 1, ()) h) := by kernel_rfl
theorem slices_partitionCmpFunc_l35_Step_b13_eq (data : Option Addr) (dataL : Nat) (dataC : Nat) (a : Int) (cmp : Value) (i : Int) (j : Int) (h : Hp) (nx0 : Int × Int × Unit → Hp → Prop) (K : Value → Hp → Prop) : slices_partitionCmpFunc_l35_Step_b13 data dataL dataC a cmp i j h nx0 K = (
  cond (decide (j < i))
  (slices_partitionCmpFunc_l35_Step_b14 data dataL dataC a j h  K)
  ((0 ≤ j ∧ j < (dataL : Int)) ∧
  NN data fun a35 =>
  ∃ n57 : Int, ∃ n58 : Int, ∃ n59 : Int, ∃ n60 : Int, ∃ (a36 : Option Addr) (L15 C15 : Nat), cell h (a35.add (Int.toNat j * 5)) = some (.int .i64 n57) ∧
  cell h ((a35.add (Int.toNat j * 5)).add 1) = some (.int .i64 n58) ∧
  cell h ((a35.add (Int.toNat j * 5)).add 2) = some (.int .i64 n59) ∧
  cell h ((a35.add (Int.toNat j * 5)).add 3) = some (.int .i64 n60) ∧
  cell h ((a35.add (Int.toNat j * 5)).add 4) = some (.slice a36 L15 C15) ∧
  (0 ≤ i ∧ i < (dataL : Int)) ∧
  NN data fun a37 =>
  ∃ n61 : Int, ∃ n62 : Int, ∃ n63 : Int, ∃ n64 : Int, ∃ (a38 : Option Addr) (L16 C16 : Nat), cell h (a37.add (Int.toNat i * 5)) = some (.int .i64 n61) ∧
  cell h ((a37.add (Int.toNat i * 5)).add 1) = some (.int .i64 n62) ∧
  cell h ((a37.add (Int.toNat i * 5)).add 2) = some (.int .i64 n63) ∧
  cell h ((a37.add (Int.toNat i * 5)).add 3) = some (.int .i64 n64) ∧
  cell h ((a37.add (Int.toNat i * 5)).add 4) = some (.slice a38 L16 C16) ∧
  (0 ≤ i ∧ i < (dataL : Int)) ∧
  NN data fun a39 =>
  Wr h (a39.add (Int.toNat i * 5)) (.int .i64 n57) fun h40 =>
  Wr h40 ((a39.add (Int.toNat i * 5)).add 1) (.int .i64 n58) fun h41 =>
  Wr h41 ((a39.add (Int.toNat i * 5)).add 2) (.int .i64 n59) fun h42 =>
  Wr h42 ((a39.add (Int.toNat i * 5)).add 3) (.int .i64 n60) fun h43 =>
  Wr h43 ((a39.add (Int.toNat i * 5)).add 4) (.slice a36 L15 C15) fun h44 =>
  (0 ≤ j ∧ j < (dataL : Int)) ∧
  NN data fun a40 =>
  Wr h44 (a40.add (Int.toNat j * 5)) (.int .i64 n61) fun h45 =>
  Wr h45 ((a40.add (Int.toNat j * 5)).add 1) (.int .i64 n62) fun h46 =>
  Wr h46 ((a40.add (Int.toNat j * 5)).add 2) (.int .i64 n63) fun h47 =>
  Wr h47 ((a40.add (Int.toNat j * 5)).add 3) (.int .i64 n64) fun h48 =>
  Wr h48 ((a40.add (Int.toNat j * 5)).add 4) (.slice a38 L16 C16) fun h49 =>
  InR (i + 1) ∧
  InR (j - 1) ∧
  nx0 (i + 1, j - 1, ()) h49)) := by kernel_rfl
theorem slices_partitionCmpFunc_l35_Step_b14_eq (data : Option Addr) (dataL : Nat) (dataC : Nat) (a : Int) (j : Int) (h : Hp)  (K : Value → Hp → Prop) : slices_partitionCmpFunc_l35_Step_b14 data dataL dataC a j h  K = (
  (0 ≤ a ∧ a < (dataL : Int)) ∧
  NN data fun a41 =>
  ∃ n65 : Int, ∃ n66 : Int, ∃ n67 : Int, ∃ n68 : Int, ∃ (a42 : Option Addr) (L17 C17 : Nat), cell h (a41.add (Int.toNat a * 5)) = some (.int .i64 n65) ∧
  cell h ((a41.add (Int.toNat a * 5)).add 1) = some (.int .i64 n66) ∧
  cell h ((a41.add (Int.toNat a * 5)).add 2) = some (.int .i64 n67) ∧
  cell h ((a41.add (Int.toNat a * 5)).add 3) = some (.int .i64 n68) ∧
  cell h ((a41.add (Int.toNat a * 5)).add 4) = some (.slice a42 L17 C17) ∧
  (0 ≤ j ∧ j < (dataL : Int)) ∧
  NN data fun a43 =>
  ∃ n69 : Int, ∃ n70 : Int, ∃ n71 : Int, ∃ n72 : Int, ∃ (a44 : Option Addr) (L18 C18 : Nat), cell h (a43.add (Int.toNat j * 5)) = some (.int .i64 n69) ∧
  cell h ((a43.add (Int.toNat j * 5)).add 1) = some (.int .i64 n70) ∧
  cell h ((a43.add (Int.toNat j * 5)).add 2) = some (.int .i64 n71) ∧
  cell h ((a43.add (Int.toNat j * 5)).add 3) = some (.int .i64 n72) ∧
  cell h ((a43.add (Int.toNat j * 5)).add 4) = some (.slice a44 L18 C18) ∧
  (0 ≤ j ∧ j < (dataL : Int)) ∧
  NN data fun a45 =>
  Wr h (a45.add (Int.toNat j * 5)) (.int .i64 n65) fun h50 =>
  Wr h50 ((a45.add (Int.toNat j * 5)).add 1) (.int .i64 n66) fun h51 =>
  Wr h51 ((a45.add (Int.toNat j * 5)).add 2) (.int .i64 n67) fun h52 =>
  Wr h52 ((a45.add (Int.toNat j * 5)).add 3) (.int .i64 n68) fun h53 =>
  Wr h53 ((a45.add (Int.toNat j * 5)).add 4) (.slice a42 L17 C17) fun h54 =>
  (0 ≤ a ∧ a < (dataL : Int)) ∧
  NN data fun a46 =>
  Wr h54 (a46.add (Int.toNat a * 5)) (.int .i64 n69) fun h55 =>
  Wr h55 ((a46.add (Int.toNat a * 5)).add 1) (.int .i64 n70) fun h56 =>
  Wr h56 ((a46.add (Int.toNat a * 5)).add 2) (.int .i64 n71) fun h57 =>
  Wr h57 ((a46.add (Int.toNat a * 5)).add 3) (.int .i64 n72) fun h58 =>
  Wr h58 ((a46.add (Int.toNat a * 5)).add 4) (.slice a44 L18 C18) fun h59 =>
  K (.tuple #[.int .i64 j, .bool false]) h59) := by kernel_rfl
theorem slices_partitionCmpFunc_l35_Step_call {data : Option Addr} {dataL : Nat} {dataC : Nat} {a : Int} {b : Int} {pivot : Int} {cmp : Value} {h : Hp} {K : Value → Hp → Prop} (hk : slices_partitionCmpFunc_l35_Step_b0 data dataL dataC a b pivot cmp h K) : HCalls Tryz.prog 131 #[.slice data dataL dataC, .int .i64 a, .int .i64 b, .int .i64 pivot, cmp] h K :=
  calls_of_snd slices_partitionCmpFunc_l35_Step_an Tryz.func131 (c := bodyOf Tryz.f131) rfl Tryz.ntmps131 (Nat.le_of_ble_eq_true rfl) (snd_7 F_ok F_mixed) hk

/-! ### math_bits_Len32 -/
/-! ### math_bits_Len64 -/
def math_bits_Len64_an : Ann := .node none (.leaf) (.node (some [0, 2]) (.leaf) (.node (some [0, 2]) (.leaf) (.node (some [0, 2]) (.leaf) (.leaf))))
def math_bits_Len64_K0  (K : Value → Hp → Prop) : Exit → Env → Hp → Prop := retK Tryz.prog Tryz.f133.results.toList K
def math_bits_Len64_b0 (x : Int) (h : Hp)  (K : Value → Hp → Prop) : Prop :=
  sx_4 Tryz.prog F 25 (cp [] (bodyOf Tryz.f133)) (ap [] math_bits_Len64_an) [(0, .int .u64 x)] h (math_bits_Len64_K0  K)
def math_bits_Len64_b1 (x : Int) (nv : Int) (h : Hp)  (K : Value → Hp → Prop) : Prop :=
  sx_3 Tryz.prog F 25 (cp [1, 1] (bodyOf Tryz.f133)) (ap [1, 1] math_bits_Len64_an) [(0, .int .u64 x), (2, .int .i64 nv)] h (math_bits_Len64_K0  K)
def math_bits_Len64_b2 (x : Int) (nv : Int) (h : Hp)  (K : Value → Hp → Prop) : Prop :=
  sx_2 Tryz.prog F 25 (cp [1, 1, 1] (bodyOf Tryz.f133)) (ap [1, 1, 1] math_bits_Len64_an) [(0, .int .u64 x), (2, .int .i64 nv)] h (math_bits_Len64_K0  K)
def math_bits_Len64_b3 (x : Int) (nv : Int) (h : Hp)  (K : Value → Hp → Prop) : Prop :=
  sx_1 Tryz.prog F 25 (cp [1, 1, 1, 1] (bodyOf Tryz.f133)) (ap [1, 1, 1, 1] math_bits_Len64_an) [(0, .int .u64 x), (2, .int .i64 nv)] h (math_bits_Len64_K0  K)
theorem math_bits_Len64_b0_eq (x : Int) (h : Hp)  (K : Value → Hp → Prop) : math_bits_Len64_b0 x h  K = (
  cond (decide ((4294967296 : Int) ≤ x))
  (∃ sr1 : Int, Sx.Shr .u64 x 32 sr1 ∧
  math_bits_Len64_b1 sr1 32 h  K)
  (math_bits_Len64_b1 x 0 h  K)) := by kernel_rfl
theorem math_bits_Len64_b1_eq (x : Int) (nv : Int) (h : Hp)  (K : Value → Hp → Prop) : math_bits_Len64_b1 x nv h  K = (
  cond (decide ((65536 : Int) ≤ x))
  (∃ sr2 : Int, Sx.Shr .u64 x 16 sr2 ∧
  InR (nv + 16) ∧
  math_bits_Len64_b2 sr2 (nv + 16) h  K)
  (math_bits_Len64_b2 x nv h  K)) := by kernel_rfl
theorem math_bits_Len64_b2_eq (x : Int) (nv : Int) (h : Hp)  (K : Value → Hp → Prop) : math_bits_Len64_b2 x nv h  K = (
  cond (decide ((256 : Int) ≤ x))
  (∃ sr3 : Int, Sx.Shr .u64 x 8 sr3 ∧
  InR (nv + 8) ∧
  math_bits_Len64_b3 sr3 (nv + 8) h  K)
  (math_bits_Len64_b3 x nv h  K)) := by kernel_rfl
theorem math_bits_Len64_b3_eq (x : Int) (nv : Int) (h : Hp)  (K : Value → Hp → Prop) : math_bits_Len64_b3 x nv h  K = (
  (0 ≤ IntKind.u8.wrap x ∧ IntKind.u8.wrap x < ((⟨#[0, 1, 2, 2, 3, 3, 3, 3, 4, 4, 4, 4, 4, 4, 4, 4, 5, 5, 5, 5, 5, 5, 5, 5, 5, 5, 5, 5, 5, 5, 5, 5, 6, 6, 6, 6, 6, 6, 6, 6, 6, 6, 6, 6, 6, 6, 6, 6, 6, 6, 6, 6, 6, 6, 6, 6, 6, 6, 6, 6, 6, 6, 6, 6, 7, 7, 7, 7, 7, 7, 7, 7, 7, 7, 7, 7, 7, 7, 7, 7, 7, 7, 7, 7, 7, 7, 7, 7, 7, 7, 7, 7, 7, 7, 7, 7, 7, 7, 7, 7, 7, 7, 7, 7, 7, 7, 7, 7, 7, 7, 7, 7, 7, 7, 7, 7, 7, 7, 7, 7, 7, 7, 7, 7, 7, 7, 7, 7, 8, 8, 8, 8, 8, 8, 8, 8, 8, 8, 8, 8, 8, 8, 8, 8, 8, 8, 8, 8, 8, 8, 8, 8, 8, 8, 8, 8, 8, 8, 8, 8, 8, 8, 8, 8, 8, 8, 8, 8, 8, 8, 8, 8, 8, 8, 8, 8, 8, 8, 8, 8, 8, 8, 8, 8, 8, 8, 8, 8, 8, 8, 8, 8, 8, 8, 8, 8, 8, 8, 8, 8, 8, 8, 8, 8, 8, 8, 8, 8, 8, 8, 8, 8, 8, 8, 8, 8, 8, 8, 8, 8, 8, 8, 8, 8, 8, 8, 8, 8, 8, 8, 8, 8, 8, 8, 8, 8, 8, 8, 8, 8, 8, 8, 8, 8, 8, 8, 8, 8, 8, 8, 8, 8, 8, 8, 8, 8]⟩ : ByteArray).size : Int)) ∧
  InR (((⟨#[0, 1, 2, 2, 3, 3, 3, 3, 4, 4, 4, 4, 4, 4, 4, 4, 5, 5, 5, 5, 5, 5, 5, 5, 5, 5, 5, 5, 5, 5, 5, 5, 6, 6, 6, 6, 6, 6, 6, 6, 6, 6, 6, 6, 6, 6, 6, 6, 6, 6, 6, 6, 6, 6, 6, 6, 6, 6, 6, 6, 6, 6, 6, 6, 7, 7, 7, 7, 7, 7, 7, 7, 7, 7, 7, 7, 7, 7, 7, 7, 7, 7, 7, 7, 7, 7, 7, 7, 7, 7, 7, 7, 7, 7, 7, 7, 7, 7, 7, 7, 7, 7, 7, 7, 7, 7, 7, 7, 7, 7, 7, 7, 7, 7, 7, 7, 7, 7, 7, 7, 7, 7, 7, 7, 7, 7, 7, 7, 8, 8, 8, 8, 8, 8, 8, 8, 8, 8, 8, 8, 8, 8, 8, 8, 8, 8, 8, 8, 8, 8, 8, 8, 8, 8, 8, 8, 8, 8, 8, 8, 8, 8, 8, 8, 8, 8, 8, 8, 8, 8, 8, 8, 8, 8, 8, 8, 8, 8, 8, 8, 8, 8, 8, 8, 8, 8, 8, 8, 8, 8, 8, 8, 8, 8, 8, 8, 8, 8, 8, 8, 8, 8, 8, 8, 8, 8, 8, 8, 8, 8, 8, 8, 8, 8, 8, 8, 8, 8, 8, 8, 8, 8, 8, 8, 8, 8, 8, 8, 8, 8, 8, 8, 8, 8, 8, 8, 8, 8, 8, 8, 8, 8, 8, 8, 8, 8, 8, 8, 8, 8, 8, 8, 8, 8, 8, 8]⟩ : ByteArray).data.toList.getD (Int.toNat (IntKind.u8.wrap x)) 0).toNat : Int) ∧
  InR (nv + (((⟨#[0, 1, 2, 2, 3, 3, 3, 3, 4, 4, 4, 4, 4, 4, 4, 4, 5, 5, 5, 5, 5, 5, 5, 5, 5, 5, 5, 5, 5, 5, 5, 5, 6, 6, 6, 6, 6, 6, 6, 6, 6, 6, 6, 6, 6, 6, 6, 6, 6, 6, 6, 6, 6, 6, 6, 6, 6, 6, 6, 6, 6, 6, 6, 6, 7, 7, 7, 7, 7, 7, 7, 7, 7, 7, 7, 7, 7, 7, 7, 7, 7, 7, 7, 7, 7, 7, 7, 7, 7, 7, 7, 7, 7, 7, 7, 7, 7, 7, 7, 7, 7, 7, 7, 7, 7, 7, 7, 7, 7, 7, 7, 7, 7, 7, 7, 7, 7, 7, 7, 7, 7, 7, 7, 7, 7, 7, 7, 7, 8, 8, 8, 8, 8, 8, 8, 8, 8, 8, 8, 8, 8, 8, 8, 8, 8, 8, 8, 8, 8, 8, 8, 8, 8, 8, 8, 8, 8, 8, 8, 8, 8, 8, 8, 8, 8, 8, 8, 8, 8, 8, 8, 8, 8, 8, 8, 8, 8, 8, 8, 8, 8, 8, 8, 8, 8, 8, 8, 8, 8, 8, 8, 8, 8, 8, 8, 8, 8, 8, 8, 8, 8, 8, 8, 8, 8, 8, 8, 8, 8, 8, 8, 8, 8, 8, 8, 8, 8, 8, 8, 8, 8, 8, 8, 8, 8, 8, 8, 8, 8, 8, 8, 8, 8, 8, 8, 8, 8, 8, 8, 8, 8, 8, 8, 8, 8, 8, 8, 8, 8, 8, 8, 8, 8, 8, 8, 8]⟩ : ByteArray).data.toList.getD (Int.toNat (IntKind.u8.wrap x)) 0).toNat : Int)) ∧
  K (.int .i64 (nv + (((⟨#[0, 1, 2, 2, 3, 3, 3, 3, 4, 4, 4, 4, 4, 4, 4, 4, 5, 5, 5, 5, 5, 5, 5, 5, 5, 5, 5, 5, 5, 5, 5, 5, 6, 6, 6, 6, 6, 6, 6, 6, 6, 6, 6, 6, 6, 6, 6, 6, 6, 6, 6, 6, 6, 6, 6, 6, 6, 6, 6, 6, 6, 6, 6, 6, 7, 7, 7, 7, 7, 7, 7, 7, 7, 7, 7, 7, 7, 7, 7, 7, 7, 7, 7, 7, 7, 7, 7, 7, 7, 7, 7, 7, 7, 7, 7, 7, 7, 7, 7, 7, 7, 7, 7, 7, 7, 7, 7, 7, 7, 7, 7, 7, 7, 7, 7, 7, 7, 7, 7, 7, 7, 7, 7, 7, 7, 7, 7, 7, 8, 8, 8, 8, 8, 8, 8, 8, 8, 8, 8, 8, 8, 8, 8, 8, 8, 8, 8, 8, 8, 8, 8, 8, 8, 8, 8, 8, 8, 8, 8, 8, 8, 8, 8, 8, 8, 8, 8, 8, 8, 8, 8, 8, 8, 8, 8, 8, 8, 8, 8, 8, 8, 8, 8, 8, 8, 8, 8, 8, 8, 8, 8, 8, 8, 8, 8, 8, 8, 8, 8, 8, 8, 8, 8, 8, 8, 8, 8, 8, 8, 8, 8, 8, 8, 8, 8, 8, 8, 8, 8, 8, 8, 8, 8, 8, 8, 8, 8, 8, 8, 8, 8, 8, 8, 8, 8, 8, 8, 8, 8, 8, 8, 8, 8, 8, 8, 8, 8, 8, 8, 8, 8, 8, 8, 8, 8, 8]⟩ : ByteArray).data.toList.getD (Int.toNat (IntKind.u8.wrap x)) 0).toNat : Int))) h) := by kernel_rfl
theorem math_bits_Len64_call {x : Int} {h : Hp} {K : Value → Hp → Prop} (hk : math_bits_Len64_b0 x h K) : HCalls Tryz.prog 133 #[.int .u64 x] h K :=
  calls_of_snd math_bits_Len64_an Tryz.func133 (c := bodyOf Tryz.f133) rfl Tryz.ntmps133 (Nat.le_of_ble_eq_true rfl) (snd_4 F_ok F_mixed) hk

/-! ### model_validRows -/
def model_validRows_an : Ann := .node none (.leaf) (.node none (.leaf) (.node none (.leaf) (.node (some []) (.node none (.leaf) (.loop [1, 3, 4, 19, 20] [(21, .int .i64)] (.node none (.leaf) (.node none (.leaf) (.node (some [1, 3, 4, 19, 20, 21]) (.node none (.leaf) (.node (some [1, 3, 4, 5, 6, 19, 20, 21]) (.leaf) (.node (some [1, 3, 4, 5, 6, 19, 20, 21]) (.leaf) (.leaf)))) (.leaf)))))) (.leaf))))
def model_validRows_K0  (K : Value → Hp → Prop) : Exit → Env → Hp → Prop := retK Tryz.prog Tryz.f134.results.toList K
def model_validRows_K1  (K : Value → Hp → Prop) : Exit → Env → Hp → Prop := thenE (fun env h => sx_3 Tryz.prog F 64 (cp [1, 1, 1, 1] (bodyOf Tryz.f134)) (ap [1, 1, 1, 1] model_validRows_an) (rs [] env) h (model_validRows_K0  K)) (model_validRows_K0  K)
def model_validRows_K2  (K : Value → Hp → Prop) : Exit → Env → Hp → Prop := blockE 0 (model_validRows_K1  K)
def model_validRows_K3 (nx0 : Int × Unit → Hp → Prop) (K : Value → Hp → Prop) : Exit → Env → Hp → Prop := thenE (fun env h => getV [(21, .int .i64)] env fun s => nx0 s h) (model_validRows_K2  K)
def model_validRows_K4 (nx0 : Int × Unit → Hp → Prop) (K : Value → Hp → Prop) : Exit → Env → Hp → Prop := thenE (fun env h => sx_2 Tryz.prog F 64 (cp [1, 1, 1, 0, 1, 2, 2, 1, 1, 1] (bodyOf Tryz.f134)) (ap [1, 1, 1, 0, 1, 2, 1, 1, 1] model_validRows_an) (rs [1, 3, 4, 19, 20, 21] env) h (model_validRows_K3 nx0 K)) (model_validRows_K3 nx0 K)
def model_validRows_K5 (nx0 : Int × Unit → Hp → Prop) (K : Value → Hp → Prop) : Exit → Env → Hp → Prop := blockE 1 (model_validRows_K4 nx0 K)
def model_validRows_b0 (s_0 : Int) (s_1 : Option Addr) (s_1L : Nat) (s_1C : Nat) (h : Hp)  (K : Value → Hp → Prop) : Prop :=
  sx_4 Tryz.prog F 64 (cp [] (bodyOf Tryz.f134)) (ap [] model_validRows_an) [(0, .agg #[.int .i64 s_0, .slice s_1 s_1L s_1C])] h (model_validRows_K0  K)
def model_validRows_b1 (t21 : Int) (s : Option Addr) (w : Int) (keys : Int) (t19 : Option Addr) (t19L : Nat) (t19C : Nat) (t20 : Int) (h : Hp) (nx0 : Int × Unit → Hp → Prop) (K : Value → Hp → Prop) : Prop :=
  sx_3 Tryz.prog F 64 (cp [1, 1, 1, 0, 1, 2, 2] (bodyOf Tryz.f134)) (ap [1, 1, 1, 0, 1, 2] model_validRows_an) [(21, .int .i64 t21), (1, .pointer s), (3, .int .i64 w), (4, .int .i64 keys), (19, .slice t19 t19L t19C), (20, .int .i64 t20)] h (model_validRows_K3 nx0 K)
def model_validRows_b2 (s : Option Addr) (w : Int) (keys : Int) (i : Int) (row : Option Addr) (rowL : Nat) (rowC : Nat) (t19 : Option Addr) (t19L : Nat) (t19C : Nat) (t20 : Int) (t21 : Int) (h : Hp) (nx0 : Int × Unit → Hp → Prop) (K : Value → Hp → Prop) : Prop :=
  sx_2 Tryz.prog F 64 (cp [1, 1, 1, 0, 1, 2, 2, 1, 1, 0, 2, 1, 1] (bodyOf Tryz.f134)) (ap [1, 1, 1, 0, 1, 2, 1, 1, 0, 1, 1] model_validRows_an) [(1, .pointer s), (3, .int .i64 w), (4, .int .i64 keys), (5, .int .i64 i), (6, .slice row rowL rowC), (19, .slice t19 t19L t19C), (20, .int .i64 t20), (21, .int .i64 t21)] h (model_validRows_K5 nx0 K)
def model_validRows_b3  (h : Hp)  (K : Value → Hp → Prop) : Prop :=
  sx_3 Tryz.prog F 64 (cp [1, 1, 1, 1] (bodyOf Tryz.f134)) (ap [1, 1, 1, 1] model_validRows_an) [] h (model_validRows_K0  K)
def model_validRows_b4 (s : Option Addr) (w : Int) (keys : Int) (t19 : Option Addr) (t19L : Nat) (t19C : Nat) (t20 : Int) (t21 : Int) (h : Hp) (nx0 : Int × Unit → Hp → Prop) (K : Value → Hp → Prop) : Prop :=
  sx_2 Tryz.prog F 64 (cp [1, 1, 1, 0, 1, 2, 2, 1, 1, 1] (bodyOf Tryz.f134)) (ap [1, 1, 1, 0, 1, 2, 1, 1, 1] model_validRows_an) [(1, .pointer s), (3, .int .i64 w), (4, .int .i64 keys), (19, .slice t19 t19L t19C), (20, .int .i64 t20), (21, .int .i64 t21)] h (model_validRows_K3 nx0 K)
def model_validRows_b5 (s : Option Addr) (w : Int) (keys : Int) (i : Int) (row : Option Addr) (rowL : Nat) (rowC : Nat) (t19 : Option Addr) (t19L : Nat) (t19C : Nat) (t20 : Int) (t21 : Int) (h : Hp) (nx0 : Int × Unit → Hp → Prop) (K : Value → Hp → Prop) : Prop :=
  sx_1 Tryz.prog F 64 (cp [1, 1, 1, 0, 1, 2, 2, 1, 1, 0, 2, 1, 1, 1] (bodyOf Tryz.f134)) (ap [1, 1, 1, 0, 1, 2, 1, 1, 0, 1, 1, 1] model_validRows_an) [(1, .pointer s), (3, .int .i64 w), (4, .int .i64 keys), (5, .int .i64 i), (6, .slice row rowL rowC), (19, .slice t19 t19L t19C), (20, .int .i64 t20), (21, .int .i64 t21)] h (model_validRows_K5 nx0 K)
theorem model_validRows_b0_eq (s_0 : Int) (s_1 : Option Addr) (s_1L : Nat) (s_1C : Nat) (h : Hp)  (K : Value → Hp → Prop) : model_validRows_b0 s_0 s_1 s_1L s_1C h  K = (
  New h (.cells #[.int .i64 s_0, .slice s_1 s_1L s_1C] 66) fun b1 h1 =>
  ∃ (a1 : Option Addr) (L1 C1 : Nat), cell h1 ((⟨b1, 0, none⟩ : Addr).add 1) = some (.slice a1 L1 C1) ∧
  cond (decide ((500 : Int) < (L1 : Int)))
  (K (.bool false) h1)
  (∃ n1 : Int, cell h1 ⟨b1, 0, none⟩ = some (.int .i64 n1) ∧
  HCalls Tryz.prog 159 #[.int .i64 n1] h1 fun v1 h2 => ∃ r1 : Int, ∃ r2 : Int, v1 = .tuple #[.int .i64 r1, .int .i64 r2] ∧
  ∃ (a2 : Option Addr) (L2 C2 : Nat), cell h2 ((⟨b1, 0, none⟩ : Addr).add 1) = some (.slice a2 L2 C2) ∧
  LoopVC ((0, ()) : Int × Unit) h2 (fun (nx0 : Int × Unit → Hp → Prop) (s1 : Int × Unit) h3 => model_validRows_b1 s1.1 (some ⟨b1, 0, none⟩) r1 r2 a2 L2 C2 (L2 : Int) h3 nx0 K))) := by kernel_rfl
theorem model_validRows_b1_eq (t21 : Int) (s : Option Addr) (w : Int) (keys : Int) (t19 : Option Addr) (t19L : Nat) (t19C : Nat) (t20 : Int) (h : Hp) (nx0 : Int × Unit → Hp → Prop) (K : Value → Hp → Prop) : model_validRows_b1 t21 s w keys t19 t19L t19C t20 h nx0 K = (
  cond (decide (t21 < t20))
  ((0 ≤ t21 ∧ t21 < (t19L : Int)) ∧
  NN t19 fun a3 =>
  ∃ (a4 : Option Addr) (L3 C3 : Nat), cell h (a3.add (Int.toNat t21 * 1)) = some (.slice a4 L3 C3) ∧
  cond (!decide ((L3 : Int) = w))
  (K (.bool false) h)
  (HCalls Tryz.prog 105 #[.slice a4 L3 C3, .func (.func 160) #[] #[]] h fun v2 h4 => ∃ r3 : Bool, v2 = .bool r3 ∧
  cond r3
  (K (.bool false) h4)
  (model_validRows_b2 s w keys t21 a4 L3 C3 t19 t19L t19C t20 t21 h4 nx0 K)))
  (model_validRows_b3  h  K)) := by kernel_rfl
theorem model_validRows_b2_eq (s : Option Addr) (w : Int) (keys : Int) (i : Int) (row : Option Addr) (rowL : Nat) (rowC : Nat) (t19 : Option Addr) (t19L : Nat) (t19C : Nat) (t20 : Int) (t21 : Int) (h : Hp) (nx0 : Int × Unit → Hp → Prop) (K : Value → Hp → Prop) : model_validRows_b2 s w keys i row rowL rowC t19 t19L t19C t20 t21 h nx0 K = (
  cond (decide (i = 0))
  (model_validRows_b4 s w keys t19 t19L t19C t20 t21 h nx0 K)
  (cond (decide (keys = 0))
  (model_validRows_b4 s w keys t19 t19L t19C t20 t21 h nx0 K)
  (model_validRows_b5 s w keys i row rowL rowC t19 t19L t19C t20 t21 h nx0 K))) := by kernel_rfl
theorem model_validRows_b3_eq  (h : Hp)  (K : Value → Hp → Prop) : model_validRows_b3  h  K = (
  K (.bool true) h) := by kernel_rfl
theorem model_validRows_b4_eq (s : Option Addr) (w : Int) (keys : Int) (t19 : Option Addr) (t19L : Nat) (t19C : Nat) (t20 : Int) (t21 : Int) (h : Hp) (nx0 : Int × Unit → Hp → Prop) (K : Value → Hp → Prop) : model_validRows_b4 s w keys t19 t19L t19C t20 t21 h nx0 K = (
  InR (t21 + 1) ∧
  nx0 (t21 + 1, ()) h) := by kernel_rfl
theorem model_validRows_b5_eq (s : Option Addr) (w : Int) (keys : Int) (i : Int) (row : Option Addr) (rowL : Nat) (rowC : Nat) (t19 : Option Addr) (t19L : Nat) (t19C : Nat) (t20 : Int) (t21 : Int) (h : Hp) (nx0 : Int × Unit → Hp → Prop) (K : Value → Hp → Prop) : model_validRows_b5 s w keys i row rowL rowC t19 t19L t19C t20 t21 h nx0 K = (
  NN s fun a5 =>
  ∃ (a6 : Option Addr) (L4 C4 : Nat), cell h (a5.add 1) = some (.slice a6 L4 C4) ∧
  InR (i - 1) ∧
  (0 ≤ i - 1 ∧ i - 1 < (L4 : Int)) ∧
  NN a6 fun a7 =>
  ∃ (a8 : Option Addr) (L5 C5 : Nat), cell h (a7.add (Int.toNat (i - 1) * 1)) = some (.slice a8 L5 C5) ∧
  (0 ≤ (0 : Int) ∧ (0 : Int) ≤ keys ∧ keys ≤ (C5 : Int)) ∧
  (0 ≤ (0 : Int) ∧ (0 : Int) ≤ keys ∧ keys ≤ (rowC : Int)) ∧
  ∃ r4 : Int, HCalls Tryz.prog 161 #[.slice (subAddr a8 C5 (Int.toNat (0 : Int)) 1) (Int.toNat keys - Int.toNat (0 : Int)) (C5 - Int.toNat (0 : Int)), .slice (subAddr row rowC (Int.toNat (0 : Int)) 1) (Int.toNat keys - Int.toNat (0 : Int)) (rowC - Int.toNat (0 : Int))] h (fun v3 h5 => v3 = .int .i64 r4 ∧ h5 = h) ∧
  cond (decide ((0 : Int) < r4))
  (K (.bool false) h)
  (cond (decide (r4 = 0))
  (NN s fun a9 =>
  ∃ n2 : Int, cell h a9 = some (.int .i64 n2) ∧
  cond (!decide (n2 = 2))
  (K (.bool false) h)
  (model_validRows_b4 s w keys t19 t19L t19C t20 t21 h nx0 K))
  (model_validRows_b4 s w keys t19 t19L t19C t20 t21 h nx0 K))) := by kernel_rfl
theorem model_validRows_call {s_0 : Int} {s_1 : Option Addr} {s_1L : Nat} {s_1C : Nat} {h : Hp} {K : Value → Hp → Prop} (hk : model_validRows_b0 s_0 s_1 s_1L s_1C h K) : HCalls Tryz.prog 134 #[.agg #[.int .i64 s_0, .slice s_1 s_1L s_1C]] h K :=
  calls_of_snd model_validRows_an Tryz.func134 (c := bodyOf Tryz.f134) rfl Tryz.ntmps134 (Nat.le_of_ble_eq_true rfl) (snd_4 F_ok F_mixed) hk

/-! ### model_validSets -/
end Go.Proofs.YtdlkohenamlnaaaGreat
