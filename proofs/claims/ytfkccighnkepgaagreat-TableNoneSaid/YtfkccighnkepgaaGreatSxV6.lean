/- Plain statements of what each block of code of this seat asks; printed by a program, checked by Lean. -/
import Derived.Test.YtfkccighnkepgaaGreatSxV0
set_option maxRecDepth 10000
namespace Go.Proofs.YtfkccighnkepgaaGreat
open Go Go.Sx

/-! ### slices_partitionOrdered_int -/
def slices_partitionOrdered_int_an : Ann := .node none (.leaf) (.node none (.plan (.qu 0 (.qu 1 (.qu 2 (.qu 3 (.qu 4 (.qu 5 (.qu 6 (.qu 7 (.qu 8 (.qu 9 (.qu 10 (.qu 11 (.qu 12 (.wo 13 (.qu 14 (.wo 15 .fin .no)) .no))))))))))))))) (.node none (.leaf) (.node (some [0, 1, 10, 11]) (.loop [0, 1, 11] [(10, .int .i64)] (.node (some [0, 1, 10, 11]) (.leaf) (.leaf))) (.node (some [0, 1, 10, 11]) (.loop [0, 1, 10] [(11, .int .i64)] (.node (some [0, 1, 10, 11]) (.leaf) (.leaf))) (.node none (.node none (.leaf) (.node none (.node none (.plan (.qu 0 (.qu 1 (.qu 2 (.qu 3 (.qu 4 (.qu 5 (.qu 6 (.qu 7 (.qu 8 (.qu 9 (.qu 10 (.qu 11 (.qu 12 (.wo 13 (.qu 14 (.wo 15 .fin .no)) .no))))))))))))))) (.leaf)) (.leaf))) (.node none (.plan (.qu 0 (.qu 1 (.qu 2 (.qu 3 (.qu 4 (.qu 5 (.qu 6 (.qu 7 (.qu 8 (.qu 9 (.qu 10 (.qu 11 (.qu 12 (.wo 13 (.qu 14 (.wo 15 .fin .no)) .no))))))))))))))) (.node none (.leaf) (.node none (.leaf) (.node (some [0, 1, 11]) (.loop [0, 1] [(10, .int .i64), (11, .int .i64)] (.node (some [0, 1, 10, 11]) (.loop [0, 1, 11] [(10, .int .i64)] (.node (some [0, 1, 10, 11]) (.leaf) (.leaf))) (.node (some [0, 1, 10, 11]) (.loop [0, 1, 10] [(11, .int .i64)] (.node (some [0, 1, 10, 11]) (.leaf) (.leaf))) (.node none (.leaf) (.node none (.plan (.qu 0 (.qu 1 (.qu 2 (.qu 3 (.qu 4 (.qu 5 (.qu 6 (.qu 7 (.qu 8 (.qu 9 (.qu 10 (.qu 11 (.qu 12 (.wo 13 (.qu 14 (.wo 15 .fin .no)) .no))))))))))))))) (.leaf)))))) (.node none (.plan (.qu 0 (.qu 1 (.qu 2 (.qu 3 (.qu 4 (.qu 5 (.qu 6 (.qu 7 (.qu 8 (.qu 9 (.qu 10 (.qu 11 (.qu 12 (.wo 13 (.qu 14 (.wo 15 .fin .no)) .no))))))))))))))) (.leaf)))))))))))
def slices_partitionOrdered_int_K0  (K : Value → Hp → Prop) : Exit → Env → Hp → Prop := retK Tryz.prog Tryz.f97.results.toList K
def slices_partitionOrdered_int_K1  (K : Value → Hp → Prop) : Exit → Env → Hp → Prop := thenE (fun env h => sx_6 Tryz.prog F 168 (cp [1, 1, 1, 1] (bodyOf Tryz.f97)) (ap [1, 1, 1, 1] slices_partitionOrdered_int_an) (rs [0, 1, 10, 11] env) h (slices_partitionOrdered_int_K0  K)) (slices_partitionOrdered_int_K0  K)
def slices_partitionOrdered_int_K2  (K : Value → Hp → Prop) : Exit → Env → Hp → Prop := blockE 0 (slices_partitionOrdered_int_K1  K)
def slices_partitionOrdered_int_K3 (nx0 : Int × Unit → Hp → Prop) (K : Value → Hp → Prop) : Exit → Env → Hp → Prop := thenE (fun env h => getV [(10, .int .i64)] env fun s => nx0 s h) (slices_partitionOrdered_int_K2  K)
def slices_partitionOrdered_int_K4  (K : Value → Hp → Prop) : Exit → Env → Hp → Prop := thenE (fun env h => sx_5 Tryz.prog F 168 (cp [1, 1, 1, 1, 1] (bodyOf Tryz.f97)) (ap [1, 1, 1, 1, 1] slices_partitionOrdered_int_an) (rs [0, 1, 10, 11] env) h (slices_partitionOrdered_int_K0  K)) (slices_partitionOrdered_int_K0  K)
def slices_partitionOrdered_int_K5  (K : Value → Hp → Prop) : Exit → Env → Hp → Prop := blockE 2 (slices_partitionOrdered_int_K4  K)
def slices_partitionOrdered_int_K6 (nx0 : Int × Unit → Hp → Prop) (K : Value → Hp → Prop) : Exit → Env → Hp → Prop := thenE (fun env h => getV [(11, .int .i64)] env fun s => nx0 s h) (slices_partitionOrdered_int_K5  K)
def slices_partitionOrdered_int_K7  (K : Value → Hp → Prop) : Exit → Env → Hp → Prop := thenE (fun env h => sx_4 Tryz.prog F 168 (cp [1, 1, 1, 1, 1, 1, 1, 1, 1, 1] (bodyOf Tryz.f97)) (ap [1, 1, 1, 1, 1, 1, 1, 1, 1, 1] slices_partitionOrdered_int_an) (rs [0, 1, 11] env) h (slices_partitionOrdered_int_K0  K)) (slices_partitionOrdered_int_K0  K)
def slices_partitionOrdered_int_K8  (K : Value → Hp → Prop) : Exit → Env → Hp → Prop := blockE 4 (slices_partitionOrdered_int_K7  K)
def slices_partitionOrdered_int_K9 (nx0 : Int × Int × Unit → Hp → Prop) (K : Value → Hp → Prop) : Exit → Env → Hp → Prop := thenE (fun env h => getV [(10, .int .i64), (11, .int .i64)] env fun s => nx0 s h) (slices_partitionOrdered_int_K8  K)
def slices_partitionOrdered_int_K10 (nx0 : Int × Int × Unit → Hp → Prop) (K : Value → Hp → Prop) : Exit → Env → Hp → Prop := blockE 5 (slices_partitionOrdered_int_K9 nx0 K)
def slices_partitionOrdered_int_K11 (nx0 : Int × Int × Unit → Hp → Prop) (K : Value → Hp → Prop) : Exit → Env → Hp → Prop := thenE (fun env h => sx_3 Tryz.prog F 168 (cp [1, 1, 1, 1, 1, 1, 1, 1, 1, 0, 2, 2, 2, 1] (bodyOf Tryz.f97)) (ap [1, 1, 1, 1, 1, 1, 1, 1, 1, 0, 2, 1] slices_partitionOrdered_int_an) (rs [0, 1, 10, 11] env) h (slices_partitionOrdered_int_K10 nx0 K)) (slices_partitionOrdered_int_K10 nx0 K)
def slices_partitionOrdered_int_K12 (nx0 : Int × Int × Unit → Hp → Prop) (K : Value → Hp → Prop) : Exit → Env → Hp → Prop := blockE 6 (slices_partitionOrdered_int_K11 nx0 K)
def slices_partitionOrdered_int_K13 (nx0 : Int × Int × Unit → Hp → Prop) (nx1 : Int × Unit → Hp → Prop) (K : Value → Hp → Prop) : Exit → Env → Hp → Prop := thenE (fun env h => getV [(10, .int .i64)] env fun s => nx1 s h) (slices_partitionOrdered_int_K12 nx0 K)
def slices_partitionOrdered_int_K14 (nx0 : Int × Int × Unit → Hp → Prop) (K : Value → Hp → Prop) : Exit → Env → Hp → Prop := thenE (fun env h => sx_2 Tryz.prog F 168 (cp [1, 1, 1, 1, 1, 1, 1, 1, 1, 0, 2, 2, 2, 1, 1] (bodyOf Tryz.f97)) (ap [1, 1, 1, 1, 1, 1, 1, 1, 1, 0, 2, 1, 1] slices_partitionOrdered_int_an) (rs [0, 1, 10, 11] env) h (slices_partitionOrdered_int_K10 nx0 K)) (slices_partitionOrdered_int_K10 nx0 K)
def slices_partitionOrdered_int_K15 (nx0 : Int × Int × Unit → Hp → Prop) (K : Value → Hp → Prop) : Exit → Env → Hp → Prop := blockE 8 (slices_partitionOrdered_int_K14 nx0 K)
def slices_partitionOrdered_int_K16 (nx0 : Int × Int × Unit → Hp → Prop) (nx1 : Int × Unit → Hp → Prop) (K : Value → Hp → Prop) : Exit → Env → Hp → Prop := thenE (fun env h => getV [(11, .int .i64)] env fun s => nx1 s h) (slices_partitionOrdered_int_K15 nx0 K)
def slices_partitionOrdered_int_b0 (data : Option Addr) (dataL : Nat) (dataC : Nat) (a : Int) (b : Int) (pivot : Int) (h : Hp)  (K : Value → Hp → Prop) : Prop :=
  sx_7 Tryz.prog F 168 (cp [] (bodyOf Tryz.f97)) (ap [] slices_partitionOrdered_int_an) [(0, .slice data dataL dataC), (1, .int .i64 a), (2, .int .i64 b), (3, .int .i64 pivot)] h (slices_partitionOrdered_int_K0  K)
def slices_partitionOrdered_int_b1 (i : Int) (data : Option Addr) (dataL : Nat) (dataC : Nat) (a : Int) (j : Int) (h : Hp) (nx0 : Int × Unit → Hp → Prop) (K : Value → Hp → Prop) : Prop :=
  sx_6 Tryz.prog F 168 (cp [1, 1, 1, 0, 2, 2] (bodyOf Tryz.f97)) (ap [1, 1, 1, 0, 2] slices_partitionOrdered_int_an) [(10, .int .i64 i), (0, .slice data dataL dataC), (1, .int .i64 a), (11, .int .i64 j)] h (slices_partitionOrdered_int_K3 nx0 K)
def slices_partitionOrdered_int_b2 (data : Option Addr) (dataL : Nat) (dataC : Nat) (a : Int) (i : Int) (j : Int) (h : Hp) (nx0 : Int × Unit → Hp → Prop) (K : Value → Hp → Prop) : Prop :=
  sx_5 Tryz.prog F 168 (cp [1, 1, 1, 0, 2, 2, 1] (bodyOf Tryz.f97)) (ap [1, 1, 1, 0, 2, 1] slices_partitionOrdered_int_an) [(0, .slice data dataL dataC), (1, .int .i64 a), (10, .int .i64 i), (11, .int .i64 j)] h (slices_partitionOrdered_int_K3 nx0 K)
def slices_partitionOrdered_int_b3 (data : Option Addr) (dataL : Nat) (dataC : Nat) (a : Int) (i : Int) (j : Int) (h : Hp)  (K : Value → Hp → Prop) : Prop :=
  sx_6 Tryz.prog F 168 (cp [1, 1, 1, 1] (bodyOf Tryz.f97)) (ap [1, 1, 1, 1] slices_partitionOrdered_int_an) [(0, .slice data dataL dataC), (1, .int .i64 a), (10, .int .i64 i), (11, .int .i64 j)] h (slices_partitionOrdered_int_K0  K)
def slices_partitionOrdered_int_b4 (j : Int) (data : Option Addr) (dataL : Nat) (dataC : Nat) (a : Int) (i : Int) (h : Hp) (nx0 : Int × Unit → Hp → Prop) (K : Value → Hp → Prop) : Prop :=
  sx_5 Tryz.prog F 168 (cp [1, 1, 1, 1, 0, 2, 2] (bodyOf Tryz.f97)) (ap [1, 1, 1, 1, 0, 2] slices_partitionOrdered_int_an) [(11, .int .i64 j), (0, .slice data dataL dataC), (1, .int .i64 a), (10, .int .i64 i)] h (slices_partitionOrdered_int_K6 nx0 K)
def slices_partitionOrdered_int_b5 (data : Option Addr) (dataL : Nat) (dataC : Nat) (a : Int) (i : Int) (j : Int) (h : Hp) (nx0 : Int × Unit → Hp → Prop) (K : Value → Hp → Prop) : Prop :=
  sx_4 Tryz.prog F 168 (cp [1, 1, 1, 1, 0, 2, 2, 1] (bodyOf Tryz.f97)) (ap [1, 1, 1, 1, 0, 2, 1] slices_partitionOrdered_int_an) [(0, .slice data dataL dataC), (1, .int .i64 a), (10, .int .i64 i), (11, .int .i64 j)] h (slices_partitionOrdered_int_K6 nx0 K)
def slices_partitionOrdered_int_b6 (data : Option Addr) (dataL : Nat) (dataC : Nat) (a : Int) (i : Int) (j : Int) (h : Hp)  (K : Value → Hp → Prop) : Prop :=
  sx_5 Tryz.prog F 168 (cp [1, 1, 1, 1, 1] (bodyOf Tryz.f97)) (ap [1, 1, 1, 1, 1] slices_partitionOrdered_int_an) [(0, .slice data dataL dataC), (1, .int .i64 a), (10, .int .i64 i), (11, .int .i64 j)] h (slices_partitionOrdered_int_K0  K)
def slices_partitionOrdered_int_b7 (i : Int) (j : Int) (data : Option Addr) (dataL : Nat) (dataC : Nat) (a : Int) (h : Hp) (nx0 : Int × Int × Unit → Hp → Prop) (K : Value → Hp → Prop) : Prop :=
  sx_4 Tryz.prog F 168 (cp [1, 1, 1, 1, 1, 1, 1, 1, 1, 0, 2, 2] (bodyOf Tryz.f97)) (ap [1, 1, 1, 1, 1, 1, 1, 1, 1, 0, 2] slices_partitionOrdered_int_an) [(10, .int .i64 i), (11, .int .i64 j), (0, .slice data dataL dataC), (1, .int .i64 a)] h (slices_partitionOrdered_int_K9 nx0 K)
def slices_partitionOrdered_int_b8 (i : Int) (data : Option Addr) (dataL : Nat) (dataC : Nat) (a : Int) (j : Int) (h : Hp) (nx0 : Int × Int × Unit → Hp → Prop) (nx1 : Int × Unit → Hp → Prop) (K : Value → Hp → Prop) : Prop :=
  sx_3 Tryz.prog F 168 (cp [1, 1, 1, 1, 1, 1, 1, 1, 1, 0, 2, 2, 2, 0, 2, 2] (bodyOf Tryz.f97)) (ap [1, 1, 1, 1, 1, 1, 1, 1, 1, 0, 2, 0, 2] slices_partitionOrdered_int_an) [(10, .int .i64 i), (0, .slice data dataL dataC), (1, .int .i64 a), (11, .int .i64 j)] h (slices_partitionOrdered_int_K13 nx0 nx1 K)
def slices_partitionOrdered_int_b9 (data : Option Addr) (dataL : Nat) (dataC : Nat) (a : Int) (i : Int) (j : Int) (h : Hp) (nx0 : Int × Int × Unit → Hp → Prop) (nx1 : Int × Unit → Hp → Prop) (K : Value → Hp → Prop) : Prop :=
  sx_2 Tryz.prog F 168 (cp [1, 1, 1, 1, 1, 1, 1, 1, 1, 0, 2, 2, 2, 0, 2, 2, 1] (bodyOf Tryz.f97)) (ap [1, 1, 1, 1, 1, 1, 1, 1, 1, 0, 2, 0, 2, 1] slices_partitionOrdered_int_an) [(0, .slice data dataL dataC), (1, .int .i64 a), (10, .int .i64 i), (11, .int .i64 j)] h (slices_partitionOrdered_int_K13 nx0 nx1 K)
def slices_partitionOrdered_int_b10 (data : Option Addr) (dataL : Nat) (dataC : Nat) (a : Int) (i : Int) (j : Int) (h : Hp) (nx0 : Int × Int × Unit → Hp → Prop) (K : Value → Hp → Prop) : Prop :=
  sx_3 Tryz.prog F 168 (cp [1, 1, 1, 1, 1, 1, 1, 1, 1, 0, 2, 2, 2, 1] (bodyOf Tryz.f97)) (ap [1, 1, 1, 1, 1, 1, 1, 1, 1, 0, 2, 1] slices_partitionOrdered_int_an) [(0, .slice data dataL dataC), (1, .int .i64 a), (10, .int .i64 i), (11, .int .i64 j)] h (slices_partitionOrdered_int_K10 nx0 K)
def slices_partitionOrdered_int_b11 (j : Int) (data : Option Addr) (dataL : Nat) (dataC : Nat) (a : Int) (i : Int) (h : Hp) (nx0 : Int × Int × Unit → Hp → Prop) (nx1 : Int × Unit → Hp → Prop) (K : Value → Hp → Prop) : Prop :=
  sx_2 Tryz.prog F 168 (cp [1, 1, 1, 1, 1, 1, 1, 1, 1, 0, 2, 2, 2, 1, 0, 2, 2] (bodyOf Tryz.f97)) (ap [1, 1, 1, 1, 1, 1, 1, 1, 1, 0, 2, 1, 0, 2] slices_partitionOrdered_int_an) [(11, .int .i64 j), (0, .slice data dataL dataC), (1, .int .i64 a), (10, .int .i64 i)] h (slices_partitionOrdered_int_K16 nx0 nx1 K)
def slices_partitionOrdered_int_b12 (data : Option Addr) (dataL : Nat) (dataC : Nat) (a : Int) (i : Int) (j : Int) (h : Hp) (nx0 : Int × Int × Unit → Hp → Prop) (nx1 : Int × Unit → Hp → Prop) (K : Value → Hp → Prop) : Prop :=
  sx_1 Tryz.prog F 168 (cp [1, 1, 1, 1, 1, 1, 1, 1, 1, 0, 2, 2, 2, 1, 0, 2, 2, 1] (bodyOf Tryz.f97)) (ap [1, 1, 1, 1, 1, 1, 1, 1, 1, 0, 2, 1, 0, 2, 1] slices_partitionOrdered_int_an) [(0, .slice data dataL dataC), (1, .int .i64 a), (10, .int .i64 i), (11, .int .i64 j)] h (slices_partitionOrdered_int_K16 nx0 nx1 K)
def slices_partitionOrdered_int_b13 (data : Option Addr) (dataL : Nat) (dataC : Nat) (a : Int) (i : Int) (j : Int) (h : Hp) (nx0 : Int × Int × Unit → Hp → Prop) (K : Value → Hp → Prop) : Prop :=
  sx_2 Tryz.prog F 168 (cp [1, 1, 1, 1, 1, 1, 1, 1, 1, 0, 2, 2, 2, 1, 1] (bodyOf Tryz.f97)) (ap [1, 1, 1, 1, 1, 1, 1, 1, 1, 0, 2, 1, 1] slices_partitionOrdered_int_an) [(0, .slice data dataL dataC), (1, .int .i64 a), (10, .int .i64 i), (11, .int .i64 j)] h (slices_partitionOrdered_int_K10 nx0 K)
def slices_partitionOrdered_int_b14 (data : Option Addr) (dataL : Nat) (dataC : Nat) (a : Int) (j : Int) (h : Hp)  (K : Value → Hp → Prop) : Prop :=
  sx_4 Tryz.prog F 168 (cp [1, 1, 1, 1, 1, 1, 1, 1, 1, 1] (bodyOf Tryz.f97)) (ap [1, 1, 1, 1, 1, 1, 1, 1, 1, 1] slices_partitionOrdered_int_an) [(0, .slice data dataL dataC), (1, .int .i64 a), (11, .int .i64 j)] h (slices_partitionOrdered_int_K0  K)
theorem slices_partitionOrdered_int_b0_eq (data : Option Addr) (dataL : Nat) (dataC : Nat) (a : Int) (b : Int) (pivot : Int) (h : Hp)  (K : Value → Hp → Prop) : slices_partitionOrdered_int_b0 data dataL dataC a b pivot h  K = (
  (0 ≤ pivot ∧ pivot < (dataL : Int)) ∧
  NN data fun a1 =>
  ∃ n1 : Int, cell h (a1.add (Int.toNat pivot * 1)) = some (.int .i64 n1) ∧
  (0 ≤ a ∧ a < (dataL : Int)) ∧
  NN data fun a2 =>
  ∃ n2 : Int, cell h (a2.add (Int.toNat a * 1)) = some (.int .i64 n2) ∧
  (0 ≤ a ∧ a < (dataL : Int)) ∧
  NN data fun a3 =>
  Wr h (a3.add (Int.toNat a * 1)) (.int .i64 n1) fun h1 =>
  (0 ≤ pivot ∧ pivot < (dataL : Int)) ∧
  NN data fun a4 =>
  Wr h1 (a4.add (Int.toNat pivot * 1)) (.int .i64 n2) fun h2 =>
  InR (a + 1) ∧
  InR (b - 1) ∧
  LoopVC ((a + 1, ()) : Int × Unit) h2 (fun (nx0 : Int × Unit → Hp → Prop) (s1 : Int × Unit) h3 => slices_partitionOrdered_int_b1 s1.1 data dataL dataC a (b - 1) h3 nx0 K)) := by kernel_rfl
theorem slices_partitionOrdered_int_b1_eq (i : Int) (data : Option Addr) (dataL : Nat) (dataC : Nat) (a : Int) (j : Int) (h : Hp) (nx0 : Int × Unit → Hp → Prop) (K : Value → Hp → Prop) : slices_partitionOrdered_int_b1 i data dataL dataC a j h nx0 K = (
  cond (decide (i ≤ j))
  ((0 ≤ i ∧ i < (dataL : Int)) ∧
  NN data fun a5 =>
  ∃ n3 : Int, cell h (a5.add (Int.toNat i * 1)) = some (.int .i64 n3) ∧
  (0 ≤ a ∧ a < (dataL : Int)) ∧
  NN data fun a6 =>
  ∃ n4 : Int, cell h (a6.add (Int.toNat a * 1)) = some (.int .i64 n4) ∧
  ∃ r1 : Bool, HCalls Tryz.prog 95 #[.int .i64 n3, .int .i64 n4] h (fun v1 h4 => v1 = .bool r1 ∧ h4 = h) ∧
  cond r1
  (slices_partitionOrdered_int_b2 data dataL dataC a i j h nx0 K)
  (slices_partitionOrdered_int_b3 data dataL dataC a i j h  K))
  (slices_partitionOrdered_int_b3 data dataL dataC a i j h  K)) := by kernel_rfl
theorem slices_partitionOrdered_int_b2_eq (data : Option Addr) (dataL : Nat) (dataC : Nat) (a : Int) (i : Int) (j : Int) (h : Hp) (nx0 : Int × Unit → Hp → Prop) (K : Value → Hp → Prop) : slices_partitionOrdered_int_b2 data dataL dataC a i j h nx0 K = (
  InR (i + 1) ∧
  nx0 (i + 1, ()) h) := by kernel_rfl
theorem slices_partitionOrdered_int_b3_eq (data : Option Addr) (dataL : Nat) (dataC : Nat) (a : Int) (i : Int) (j : Int) (h : Hp)  (K : Value → Hp → Prop) : slices_partitionOrdered_int_b3 data dataL dataC a i j h  K = (
  LoopVC ((j, ()) : Int × Unit) h (fun (nx0 : Int × Unit → Hp → Prop) (s2 : Int × Unit) h5 => slices_partitionOrdered_int_b4 s2.1 data dataL dataC a i h5 nx0 K)) := by kernel_rfl
theorem slices_partitionOrdered_int_b4_eq (j : Int) (data : Option Addr) (dataL : Nat) (dataC : Nat) (a : Int) (i : Int) (h : Hp) (nx0 : Int × Unit → Hp → Prop) (K : Value → Hp → Prop) : slices_partitionOrdered_int_b4 j data dataL dataC a i h nx0 K = (
  cond (decide (i ≤ j))
  ((0 ≤ j ∧ j < (dataL : Int)) ∧
  NN data fun a7 =>
  ∃ n5 : Int, cell h (a7.add (Int.toNat j * 1)) = some (.int .i64 n5) ∧
  (0 ≤ a ∧ a < (dataL : Int)) ∧
  NN data fun a8 =>
  ∃ n6 : Int, cell h (a8.add (Int.toNat a * 1)) = some (.int .i64 n6) ∧
  ∃ r2 : Bool, HCalls Tryz.prog 95 #[.int .i64 n5, .int .i64 n6] h (fun v2 h6 => v2 = .bool r2 ∧ h6 = h) ∧
  cond (!r2)
  (slices_partitionOrdered_int_b5 data dataL dataC a i j h nx0 K)
  (slices_partitionOrdered_int_b6 data dataL dataC a i j h  K))
  (slices_partitionOrdered_int_b6 data dataL dataC a i j h  K)) := by kernel_rfl
theorem slices_partitionOrdered_int_b5_eq (data : Option Addr) (dataL : Nat) (dataC : Nat) (a : Int) (i : Int) (j : Int) (h : Hp) (nx0 : Int × Unit → Hp → Prop) (K : Value → Hp → Prop) : slices_partitionOrdered_int_b5 data dataL dataC a i j h nx0 K = (
  InR (j - 1) ∧
  nx0 (j - 1, ()) h) := by kernel_rfl
theorem slices_partitionOrdered_int_b6_eq (data : Option Addr) (dataL : Nat) (dataC : Nat) (a : Int) (i : Int) (j : Int) (h : Hp)  (K : Value → Hp → Prop) : slices_partitionOrdered_int_b6 data dataL dataC a i j h  K = (
  cond (decide (j < i))
  ((0 ≤ a ∧ a < (dataL : Int)) ∧
  NN data fun a9 =>
  ∃ n7 : Int, cell h (a9.add (Int.toNat a * 1)) = some (.int .i64 n7) ∧
  (0 ≤ j ∧ j < (dataL : Int)) ∧
  NN data fun a10 =>
  ∃ n8 : Int, cell h (a10.add (Int.toNat j * 1)) = some (.int .i64 n8) ∧
  (0 ≤ j ∧ j < (dataL : Int)) ∧
  NN data fun a11 =>
  Wr h (a11.add (Int.toNat j * 1)) (.int .i64 n7) fun h7 =>
  (0 ≤ a ∧ a < (dataL : Int)) ∧
  NN data fun a12 =>
  Wr h7 (a12.add (Int.toNat a * 1)) (.int .i64 n8) fun h8 =>
  K (.tuple #[.int .i64 j, .bool true]) h8)
  ((0 ≤ j ∧ j < (dataL : Int)) ∧
  NN data fun a13 =>
  ∃ n9 : Int, cell h (a13.add (Int.toNat j * 1)) = some (.int .i64 n9) ∧
  (0 ≤ i ∧ i < (dataL : Int)) ∧
  NN data fun a14 =>
  ∃ n10 : Int, cell h (a14.add (Int.toNat i * 1)) = some (.int .i64 n10) ∧
  (0 ≤ i ∧ i < (dataL : Int)) ∧
  NN data fun a15 =>
  Wr h (a15.add (Int.toNat i * 1)) (.int .i64 n9) fun h9 =>
  (0 ≤ j ∧ j < (dataL : Int)) ∧
  NN data fun a16 =>
  Wr h9 (a16.add (Int.toNat j * 1)) (.int .i64 n10) fun h10 =>
  InR (i + 1) ∧
  InR (j - 1) ∧
  LoopVC ((i + 1, j - 1, ()) : Int × Int × Unit) h10 (fun (nx0 : Int × Int × Unit → Hp → Prop) (s3 : Int × Int × Unit) h11 => slices_partitionOrdered_int_b7 s3.1 s3.2.1 data dataL dataC a h11 nx0 K))) := by kernel_rfl
theorem slices_partitionOrdered_int_b7_eq (i : Int) (j : Int) (data : Option Addr) (dataL : Nat) (dataC : Nat) (a : Int) (h : Hp) (nx0 : Int × Int × Unit → Hp → Prop) (K : Value → Hp → Prop) : slices_partitionOrdered_int_b7 i j data dataL dataC a h nx0 K = (
  LoopVC ((i, ()) : Int × Unit) h (fun (nx1 : Int × Unit → Hp → Prop) (s4 : Int × Unit) h12 => slices_partitionOrdered_int_b8 s4.1 data dataL dataC a j h12 nx0 nx1 K)) := by kernel_rfl
theorem slices_partitionOrdered_int_b8_eq (i : Int) (data : Option Addr) (dataL : Nat) (dataC : Nat) (a : Int) (j : Int) (h : Hp) (nx0 : Int × Int × Unit → Hp → Prop) (nx1 : Int × Unit → Hp → Prop) (K : Value → Hp → Prop) : slices_partitionOrdered_int_b8 i data dataL dataC a j h nx0 nx1 K = (
  cond (decide (i ≤ j))
  ((0 ≤ i ∧ i < (dataL : Int)) ∧
  NN data fun a17 =>
  ∃ n11 : Int, cell h (a17.add (Int.toNat i * 1)) = some (.int .i64 n11) ∧
  (0 ≤ a ∧ a < (dataL : Int)) ∧
  NN data fun a18 =>
  ∃ n12 : Int, cell h (a18.add (Int.toNat a * 1)) = some (.int .i64 n12) ∧
  ∃ r3 : Bool, HCalls Tryz.prog 95 #[.int .i64 n11, .int .i64 n12] h (fun v3 h13 => v3 = .bool r3 ∧ h13 = h) ∧
  cond r3
  (slices_partitionOrdered_int_b9 data dataL dataC a i j h nx0 nx1 K)
  (slices_partitionOrdered_int_b10 data dataL dataC a i j h nx0 K))
  (slices_partitionOrdered_int_b10 data dataL dataC a i j h nx0 K)) := by kernel_rfl
theorem slices_partitionOrdered_int_b9_eq (data : Option Addr) (dataL : Nat) (dataC : Nat) (a : Int) (i : Int) (j : Int) (h : Hp) (nx0 : Int × Int × Unit → Hp → Prop) (nx1 : Int × Unit → Hp → Prop) (K : Value → Hp → Prop) : slices_partitionOrdered_int_b9 data dataL dataC a i j h nx0 nx1 K = (
  InR (i + 1) ∧
  nx1 (i + 1, ()) h) := by kernel_rfl
theorem slices_partitionOrdered_int_b10_eq (data : Option Addr) (dataL : Nat) (dataC : Nat) (a : Int) (i : Int) (j : Int) (h : Hp) (nx0 : Int × Int × Unit → Hp → Prop) (K : Value → Hp → Prop) : slices_partitionOrdered_int_b10 data dataL dataC a i j h nx0 K = (
  LoopVC ((j, ()) : Int × Unit) h (fun (nx1 : Int × Unit → Hp → Prop) (s5 : Int × Unit) h14 => slices_partitionOrdered_int_b11 s5.1 data dataL dataC a i h14 nx0 nx1 K)) := by kernel_rfl
theorem slices_partitionOrdered_int_b11_eq (j : Int) (data : Option Addr) (dataL : Nat) (dataC : Nat) (a : Int) (i : Int) (h : Hp) (nx0 : Int × Int × Unit → Hp → Prop) (nx1 : Int × Unit → Hp → Prop) (K : Value → Hp → Prop) : slices_partitionOrdered_int_b11 j data dataL dataC a i h nx0 nx1 K = (
  cond (decide (i ≤ j))
  ((0 ≤ j ∧ j < (dataL : Int)) ∧
  NN data fun a19 =>
  ∃ n13 : Int, cell h (a19.add (Int.toNat j * 1)) = some (.int .i64 n13) ∧
  (0 ≤ a ∧ a < (dataL : Int)) ∧
  NN data fun a20 =>
  ∃ n14 : Int, cell h (a20.add (Int.toNat a * 1)) = some (.int .i64 n14) ∧
  ∃ r4 : Bool, HCalls Tryz.prog 95 #[.int .i64 n13, .int .i64 n14] h (fun v4 h15 => v4 = .bool r4 ∧ h15 = h) ∧
  cond (!r4)
  (slices_partitionOrdered_int_b12 data dataL dataC a i j h nx0 nx1 K)
  (slices_partitionOrdered_int_b13 data dataL dataC a i j h nx0 K))
  (slices_partitionOrdered_int_b13 data dataL dataC a i j h nx0 K)) := by kernel_rfl
theorem slices_partitionOrdered_int_b12_eq (data : Option Addr) (dataL : Nat) (dataC : Nat) (a : Int) (i : Int) (j : Int) (h : Hp) (nx0 : Int × Int × Unit → Hp → Prop) (nx1 : Int × Unit → Hp → Prop) (K : Value → Hp → Prop) : slices_partitionOrdered_int_b12 data dataL dataC a i j h nx0 nx1 K = (
  InR (j - 1) ∧
  nx1 (j - 1, ()) h) := by kernel_rfl
theorem slices_partitionOrdered_int_b13_eq (data : Option Addr) (dataL : Nat) (dataC : Nat) (a : Int) (i : Int) (j : Int) (h : Hp) (nx0 : Int × Int × Unit → Hp → Prop) (K : Value → Hp → Prop) : slices_partitionOrdered_int_b13 data dataL dataC a i j h nx0 K = (
  cond (decide (j < i))
  (slices_partitionOrdered_int_b14 data dataL dataC a j h  K)
  ((0 ≤ j ∧ j < (dataL : Int)) ∧
  NN data fun a21 =>
  ∃ n15 : Int, cell h (a21.add (Int.toNat j * 1)) = some (.int .i64 n15) ∧
  (0 ≤ i ∧ i < (dataL : Int)) ∧
  NN data fun a22 =>
  ∃ n16 : Int, cell h (a22.add (Int.toNat i * 1)) = some (.int .i64 n16) ∧
  (0 ≤ i ∧ i < (dataL : Int)) ∧
  NN data fun a23 =>
  Wr h (a23.add (Int.toNat i * 1)) (.int .i64 n15) fun h16 =>
  (0 ≤ j ∧ j < (dataL : Int)) ∧
  NN data fun a24 =>
  Wr h16 (a24.add (Int.toNat j * 1)) (.int .i64 n16) fun h17 =>
  InR (i + 1) ∧
  InR (j - 1) ∧
  nx0 (i + 1, j - 1, ()) h17)) := by kernel_rfl
theorem slices_partitionOrdered_int_b14_eq (data : Option Addr) (dataL : Nat) (dataC : Nat) (a : Int) (j : Int) (h : Hp)  (K : Value → Hp → Prop) : slices_partitionOrdered_int_b14 data dataL dataC a j h  K = (
  (0 ≤ a ∧ a < (dataL : Int)) ∧
  NN data fun a25 =>
  ∃ n17 : Int, cell h (a25.add (Int.toNat a * 1)) = some (.int .i64 n17) ∧
  (0 ≤ j ∧ j < (dataL : Int)) ∧
  NN data fun a26 =>
  ∃ n18 : Int, cell h (a26.add (Int.toNat j * 1)) = some (.int .i64 n18) ∧
  (0 ≤ j ∧ j < (dataL : Int)) ∧
  NN data fun a27 =>
  Wr h (a27.add (Int.toNat j * 1)) (.int .i64 n17) fun h18 =>
  (0 ≤ a ∧ a < (dataL : Int)) ∧
  NN data fun a28 =>
  Wr h18 (a28.add (Int.toNat a * 1)) (.int .i64 n18) fun h19 =>
  K (.tuple #[.int .i64 j, .bool false]) h19) := by kernel_rfl
theorem slices_partitionOrdered_int_call {data : Option Addr} {dataL : Nat} {dataC : Nat} {a : Int} {b : Int} {pivot : Int} {h : Hp} {K : Value → Hp → Prop} (hk : slices_partitionOrdered_int_b0 data dataL dataC a b pivot h K) : HCalls Tryz.prog 97 #[.slice data dataL dataC, .int .i64 a, .int .i64 b, .int .i64 pivot] h K :=
  calls_of_snd slices_partitionOrdered_int_an Tryz.func97 (c := bodyOf Tryz.f97) rfl Tryz.ntmps97 (Nat.le_of_ble_eq_true rfl) (snd_7 F_ok F_mixed) hk

/-! ### r50_key -/
def r50_key_an : Ann := .leaf
def r50_key_K0  (K : Value → Hp → Prop) : Exit → Env → Hp → Prop := retK Tryz.prog Tryz.f99.results.toList K
def r50_key_b0 (nv : Int) (h : Hp)  (K : Value → Hp → Prop) : Prop :=
  sx_1 Tryz.prog F 9 (cp [] (bodyOf Tryz.f99)) (ap [] r50_key_an) [(0, .int .i64 nv)] h (r50_key_K0  K)
theorem r50_key_b0_eq (nv : Int) (h : Hp)  (K : Value → Hp → Prop) : r50_key_b0 nv h  K = (
  cond (decide (((-1048576) : Int) ≤ nv))
  (K (.bool (decide (nv ≤ 1048576))) h)
  (K (.bool false) h)) := by kernel_rfl
theorem r50_key_call {nv : Int} {h : Hp} {K : Value → Hp → Prop} (hk : r50_key_b0 nv h K) : HCalls Tryz.prog 99 #[.int .i64 nv] h K :=
  calls_of_snd r50_key_an Tryz.func99 (c := bodyOf Tryz.f99) rfl Tryz.ntmps99 (Nat.le_of_ble_eq_true rfl) (snd_1 F_ok F_mixed) hk

/-! ### slices_siftDownCmpFunc_int -/
def slices_siftDownCmpFunc_int_an : Ann := .node none (.leaf) (.loop [0, 2, 3, 4] [(10, .int .i64)] (.node none (.leaf) (.node none (.leaf) (.node (some [0, 2, 3, 4, 10, 11]) (.node none (.tail 19) (.leaf)) (.node none (.node none (.tail 13) (.leaf)) (.node none (.plan (.qu 0 (.qu 1 (.qu 2 (.qu 3 (.qu 4 (.qu 5 (.qu 6 (.qu 7 (.qu 8 (.qu 9 (.qu 10 (.qu 11 (.qu 12 (.qu 13 (.qu 14 (.qu 15 (.qu 16 (.qu 17 (.qu 18 (.qu 19 (.qu 20 (.wo 21 (.qu 22 (.wo 23 .fin .no)) .no))))))))))))))))))))))) (.leaf)))))))
def slices_siftDownCmpFunc_int_K0  (K : Value → Hp → Prop) : Exit → Env → Hp → Prop := retK Tryz.prog Tryz.f100.results.toList K
def slices_siftDownCmpFunc_int_K1  (K : Value → Hp → Prop) : Exit → Env → Hp → Prop := blockE 0 (slices_siftDownCmpFunc_int_K0  K)
def slices_siftDownCmpFunc_int_K2 (nx0 : Int × Unit → Hp → Prop) (K : Value → Hp → Prop) : Exit → Env → Hp → Prop := thenE (fun env h => getV [(10, .int .i64)] env fun s => nx0 s h) (slices_siftDownCmpFunc_int_K1  K)
def slices_siftDownCmpFunc_int_K3 (nx0 : Int × Unit → Hp → Prop) (K : Value → Hp → Prop) : Exit → Env → Hp → Prop := blockE 1 (slices_siftDownCmpFunc_int_K2 nx0 K)
def slices_siftDownCmpFunc_int_b0 (data : Option Addr) (dataL : Nat) (dataC : Nat) (lo : Int) (hi : Int) (first : Int) (cmp : Value) (h : Hp)  (K : Value → Hp → Prop) : Prop :=
  sx_3 Tryz.prog F 82 (cp [] (bodyOf Tryz.f100)) (ap [] slices_siftDownCmpFunc_int_an) [(0, .slice data dataL dataC), (1, .int .i64 lo), (2, .int .i64 hi), (3, .int .i64 first), (4, cmp)] h (slices_siftDownCmpFunc_int_K0  K)
def slices_siftDownCmpFunc_int_b1 (root : Int) (data : Option Addr) (dataL : Nat) (dataC : Nat) (hi : Int) (first : Int) (cmp : Value) (h : Hp) (nx0 : Int × Unit → Hp → Prop) (K : Value → Hp → Prop) : Prop :=
  sx_2 Tryz.prog F 82 (cp [1, 2, 2] (bodyOf Tryz.f100)) (ap [1, 2] slices_siftDownCmpFunc_int_an) [(10, .int .i64 root), (0, .slice data dataL dataC), (2, .int .i64 hi), (3, .int .i64 first), (4, cmp)] h (slices_siftDownCmpFunc_int_K2 nx0 K)
def slices_siftDownCmpFunc_int_b2 (data : Option Addr) (dataL : Nat) (dataC : Nat) (hi : Int) (first : Int) (cmp : Value) (root : Int) (child : Int) (h : Hp) (nx0 : Int × Unit → Hp → Prop) (K : Value → Hp → Prop) : Prop :=
  sx_1 Tryz.prog F 82 (cp [1, 2, 2, 2, 1, 1, 1] (bodyOf Tryz.f100)) (ap [1, 2, 1, 1, 1] slices_siftDownCmpFunc_int_an) [(0, .slice data dataL dataC), (2, .int .i64 hi), (3, .int .i64 first), (4, cmp), (10, .int .i64 root), (11, .int .i64 child)] h (slices_siftDownCmpFunc_int_K3 nx0 K)
theorem slices_siftDownCmpFunc_int_b0_eq (data : Option Addr) (dataL : Nat) (dataC : Nat) (lo : Int) (hi : Int) (first : Int) (cmp : Value) (h : Hp)  (K : Value → Hp → Prop) : slices_siftDownCmpFunc_int_b0 data dataL dataC lo hi first cmp h  K = (
  LoopVC ((lo, ()) : Int × Unit) h (fun (nx0 : Int × Unit → Hp → Prop) (s1 : Int × Unit) h1 => slices_siftDownCmpFunc_int_b1 s1.1 data dataL dataC hi first cmp h1 nx0 K)) := by kernel_rfl
theorem slices_siftDownCmpFunc_int_b1_eq (root : Int) (data : Option Addr) (dataL : Nat) (dataC : Nat) (hi : Int) (first : Int) (cmp : Value) (h : Hp) (nx0 : Int × Unit → Hp → Prop) (K : Value → Hp → Prop) : slices_siftDownCmpFunc_int_b1 root data dataL dataC hi first cmp h nx0 K = (
  InR (2 * root) ∧
  InR ((2 * root) + 1) ∧
  cond (decide (hi ≤ ((2 * root) + 1)))
  (K (.tuple #[]) h)
  (InR (((2 * root) + 1) + 1) ∧
  cond (decide ((((2 * root) + 1) + 1) < hi))
  (InR (first + ((2 * root) + 1)) ∧
  (0 ≤ first + ((2 * root) + 1) ∧ first + ((2 * root) + 1) < (dataL : Int)) ∧
  NN data fun a1 =>
  ∃ n1 : Int, cell h (a1.add (Int.toNat (first + ((2 * root) + 1)) * 1)) = some (.int .i64 n1) ∧
  InR (first + ((2 * root) + 1)) ∧
  InR ((first + ((2 * root) + 1)) + 1) ∧
  (0 ≤ (first + ((2 * root) + 1)) + 1 ∧ (first + ((2 * root) + 1)) + 1 < (dataL : Int)) ∧
  NN data fun a2 =>
  ∃ n2 : Int, cell h (a2.add (Int.toNat ((first + ((2 * root) + 1)) + 1) * 1)) = some (.int .i64 n2) ∧
  funV cmp fun fg1 fa1 fc1 => callX Tryz.prog F fg1 (fa1 ++ (([.int .i64 n1, .int .i64 n2] : List Value) ++ fc1)).toArray h fun v1 h2 => ∃ r1 : Int, v1 = .int .i64 r1 ∧
  cond (decide (r1 < 0))
  (InR (((2 * root) + 1) + 1) ∧
  slices_siftDownCmpFunc_int_b2 data dataL dataC hi first cmp root (((2 * root) + 1) + 1) h2 nx0 K)
  (slices_siftDownCmpFunc_int_b2 data dataL dataC hi first cmp root ((2 * root) + 1) h2 nx0 K))
  (slices_siftDownCmpFunc_int_b2 data dataL dataC hi first cmp root ((2 * root) + 1) h nx0 K))) := by kernel_rfl
theorem slices_siftDownCmpFunc_int_b2_eq (data : Option Addr) (dataL : Nat) (dataC : Nat) (hi : Int) (first : Int) (cmp : Value) (root : Int) (child : Int) (h : Hp) (nx0 : Int × Unit → Hp → Prop) (K : Value → Hp → Prop) : slices_siftDownCmpFunc_int_b2 data dataL dataC hi first cmp root child h nx0 K = (
  InR (first + root) ∧
  (0 ≤ first + root ∧ first + root < (dataL : Int)) ∧
  NN data fun a3 =>
  ∃ n3 : Int, cell h (a3.add (Int.toNat (first + root) * 1)) = some (.int .i64 n3) ∧
  InR (first + child) ∧
  (0 ≤ first + child ∧ first + child < (dataL : Int)) ∧
  NN data fun a4 =>
  ∃ n4 : Int, cell h (a4.add (Int.toNat (first + child) * 1)) = some (.int .i64 n4) ∧
  funV cmp fun fg2 fa2 fc2 => callX Tryz.prog F fg2 (fa2 ++ (([.int .i64 n3, .int .i64 n4] : List Value) ++ fc2)).toArray h fun v2 h3 => ∃ r2 : Int, v2 = .int .i64 r2 ∧
  cond (!(decide (r2 < 0)))
  (K (.tuple #[]) h3)
  (InR (first + root) ∧
  InR (first + child) ∧
  InR (first + child) ∧
  (0 ≤ first + child ∧ first + child < (dataL : Int)) ∧
  NN data fun a5 =>
  ∃ n5 : Int, cell h3 (a5.add (Int.toNat (first + child) * 1)) = some (.int .i64 n5) ∧
  InR (first + root) ∧
  (0 ≤ first + root ∧ first + root < (dataL : Int)) ∧
  NN data fun a6 =>
  ∃ n6 : Int, cell h3 (a6.add (Int.toNat (first + root) * 1)) = some (.int .i64 n6) ∧
  (0 ≤ first + root ∧ first + root < (dataL : Int)) ∧
  NN data fun a7 =>
  Wr h3 (a7.add (Int.toNat (first + root) * 1)) (.int .i64 n5) fun h4 =>
  (0 ≤ first + child ∧ first + child < (dataL : Int)) ∧
  NN data fun a8 =>
  Wr h4 (a8.add (Int.toNat (first + child) * 1)) (.int .i64 n6) fun h5 =>
  nx0 (child, ()) h5)) := by kernel_rfl
theorem slices_siftDownCmpFunc_int_call {data : Option Addr} {dataL : Nat} {dataC : Nat} {lo : Int} {hi : Int} {first : Int} {cmp : Value} {h : Hp} {K : Value → Hp → Prop} (hk : slices_siftDownCmpFunc_int_b0 data dataL dataC lo hi first cmp h K) : HCalls Tryz.prog 100 #[.slice data dataL dataC, .int .i64 lo, .int .i64 hi, .int .i64 first, cmp] h K :=
  calls_of_snd slices_siftDownCmpFunc_int_an Tryz.func100 (c := bodyOf Tryz.f100) rfl Tryz.ntmps100 (Nat.le_of_ble_eq_true rfl) (snd_3 F_ok F_mixed) hk

/-! ### slices_nextPowerOfTwo -/
def slices_nextPowerOfTwo_an : Ann := .leaf
def slices_nextPowerOfTwo_K0  (K : Value → Hp → Prop) : Exit → Env → Hp → Prop := retK Tryz.prog Tryz.f101.results.toList K
def slices_nextPowerOfTwo_b0 (length : Int) (h : Hp)  (K : Value → Hp → Prop) : Prop :=
  sx_1 Tryz.prog F 7 (cp [] (bodyOf Tryz.f101)) (ap [] slices_nextPowerOfTwo_an) [(0, .int .i64 length)] h (slices_nextPowerOfTwo_K0  K)
theorem slices_nextPowerOfTwo_b0_eq (length : Int) (h : Hp)  (K : Value → Hp → Prop) : slices_nextPowerOfTwo_b0 length h  K = (
  HCalls Tryz.prog 64 #[.int .u64 (IntKind.u64.wrap length)] h fun v1 h1 => ∃ r1 : Int, v1 = .int .i64 r1 ∧
  ∃ sl1 : Int, Sx.Shl .u64 1 r1 sl1 ∧
  K (.int .u64 sl1) h1) := by kernel_rfl
theorem slices_nextPowerOfTwo_call {length : Int} {h : Hp} {K : Value → Hp → Prop} (hk : slices_nextPowerOfTwo_b0 length h K) : HCalls Tryz.prog 101 #[.int .i64 length] h K :=
  calls_of_snd slices_nextPowerOfTwo_an Tryz.func101 (c := bodyOf Tryz.f101) rfl Tryz.ntmps101 (Nat.le_of_ble_eq_true rfl) (snd_1 F_ok F_mixed) hk

/-! ### slices_xorshift_Next -/
def slices_xorshift_Next_an : Ann := .node none (.leaf) (.node none (.tail 9) (.node none (.tail 9) (.node none (.tail 9) (.leaf))))
def slices_xorshift_Next_K0  (K : Value → Hp → Prop) : Exit → Env → Hp → Prop := retK Tryz.prog Tryz.f102.results.toList K
def slices_xorshift_Next_b0 (r : Option Addr) (h : Hp)  (K : Value → Hp → Prop) : Prop :=
  sx_1 Tryz.prog F 33 (cp [] (bodyOf Tryz.f102)) (ap [] slices_xorshift_Next_an) [(0, .pointer r)] h (slices_xorshift_Next_K0  K)
theorem slices_xorshift_Next_b0_eq (r : Option Addr) (h : Hp)  (K : Value → Hp → Prop) : slices_xorshift_Next_b0 r h  K = (
  NN r fun a1 =>
  ∃ n1 : Int, cell h a1 = some (.int .u64 n1) ∧
  NN r fun a2 =>
  ∃ n2 : Int, cell h a2 = some (.int .u64 n2) ∧
  ∃ sl1 : Int, Sx.Shl .u64 n2 13 sl1 ∧
  ∃ xo1 : Int, Sx.Xor .u64 n1 sl1 xo1 ∧
  NN r fun a3 =>
  Wr h a3 (.int .u64 xo1) fun h1 =>
  NN r fun a4 =>
  ∃ n3 : Int, cell h1 a4 = some (.int .u64 n3) ∧
  NN r fun a5 =>
  ∃ n4 : Int, cell h1 a5 = some (.int .u64 n4) ∧
  ∃ sr1 : Int, Sx.Shr .u64 n4 7 sr1 ∧
  ∃ xo2 : Int, Sx.Xor .u64 n3 sr1 xo2 ∧
  NN r fun a6 =>
  Wr h1 a6 (.int .u64 xo2) fun h2 =>
  NN r fun a7 =>
  ∃ n5 : Int, cell h2 a7 = some (.int .u64 n5) ∧
  NN r fun a8 =>
  ∃ n6 : Int, cell h2 a8 = some (.int .u64 n6) ∧
  ∃ sl2 : Int, Sx.Shl .u64 n6 17 sl2 ∧
  ∃ xo3 : Int, Sx.Xor .u64 n5 sl2 xo3 ∧
  NN r fun a9 =>
  Wr h2 a9 (.int .u64 xo3) fun h3 =>
  NN r fun a10 =>
  ∃ n7 : Int, cell h3 a10 = some (.int .u64 n7) ∧
  K (.int .u64 n7) h3) := by kernel_rfl
theorem slices_xorshift_Next_call {r : Option Addr} {h : Hp} {K : Value → Hp → Prop} (hk : slices_xorshift_Next_b0 r h K) : HCalls Tryz.prog 102 #[.pointer r] h K :=
  calls_of_snd slices_xorshift_Next_an Tryz.func102 (c := bodyOf Tryz.f102) rfl Tryz.ntmps102 (Nat.le_of_ble_eq_true rfl) (snd_1 F_ok F_mixed) hk

/-! ### slices_medianAdjacentCmpFunc_int -/
def slices_medianAdjacentCmpFunc_int_an : Ann := .leaf
def slices_medianAdjacentCmpFunc_int_K0  (K : Value → Hp → Prop) : Exit → Env → Hp → Prop := retK Tryz.prog Tryz.f103.results.toList K
def slices_medianAdjacentCmpFunc_int_b0 (data : Option Addr) (dataL : Nat) (dataC : Nat) (a : Int) (swaps : Option Addr) (cmp : Value) (h : Hp)  (K : Value → Hp → Prop) : Prop :=
  sx_1 Tryz.prog F 18 (cp [] (bodyOf Tryz.f103)) (ap [] slices_medianAdjacentCmpFunc_int_an) [(0, .slice data dataL dataC), (1, .int .i64 a), (2, .pointer swaps), (3, cmp)] h (slices_medianAdjacentCmpFunc_int_K0  K)
theorem slices_medianAdjacentCmpFunc_int_b0_eq (data : Option Addr) (dataL : Nat) (dataC : Nat) (a : Int) (swaps : Option Addr) (cmp : Value) (h : Hp)  (K : Value → Hp → Prop) : slices_medianAdjacentCmpFunc_int_b0 data dataL dataC a swaps cmp h  K = (
  InR (a - 1) ∧
  InR (a + 1) ∧
  HCalls Tryz.prog 104 #[.slice data dataL dataC, .int .i64 (a - 1), .int .i64 a, .int .i64 (a + 1), .pointer swaps, cmp] h fun v1 h1 => ∃ r1 : Int, v1 = .int .i64 r1 ∧
  K (.int .i64 r1) h1) := by kernel_rfl
theorem slices_medianAdjacentCmpFunc_int_call {data : Option Addr} {dataL : Nat} {dataC : Nat} {a : Int} {swaps : Option Addr} {cmp : Value} {h : Hp} {K : Value → Hp → Prop} (hk : slices_medianAdjacentCmpFunc_int_b0 data dataL dataC a swaps cmp h K) : HCalls Tryz.prog 103 #[.slice data dataL dataC, .int .i64 a, .pointer swaps, cmp] h K :=
  calls_of_snd slices_medianAdjacentCmpFunc_int_an Tryz.func103 (c := bodyOf Tryz.f103) rfl Tryz.ntmps103 (Nat.le_of_ble_eq_true rfl) (snd_1 F_ok F_mixed) hk

/-! ### slices_medianCmpFunc_int -/
def slices_medianCmpFunc_int_an : Ann := .leaf
def slices_medianCmpFunc_int_K0  (K : Value → Hp → Prop) : Exit → Env → Hp → Prop := retK Tryz.prog Tryz.f104.results.toList K
def slices_medianCmpFunc_int_b0 (data : Option Addr) (dataL : Nat) (dataC : Nat) (a : Int) (b : Int) (c : Int) (swaps : Option Addr) (cmp : Value) (h : Hp)  (K : Value → Hp → Prop) : Prop :=
  sx_1 Tryz.prog F 41 (cp [] (bodyOf Tryz.f104)) (ap [] slices_medianCmpFunc_int_an) [(0, .slice data dataL dataC), (1, .int .i64 a), (2, .int .i64 b), (3, .int .i64 c), (4, .pointer swaps), (5, cmp)] h (slices_medianCmpFunc_int_K0  K)
theorem slices_medianCmpFunc_int_b0_eq (data : Option Addr) (dataL : Nat) (dataC : Nat) (a : Int) (b : Int) (c : Int) (swaps : Option Addr) (cmp : Value) (h : Hp)  (K : Value → Hp → Prop) : slices_medianCmpFunc_int_b0 data dataL dataC a b c swaps cmp h  K = (
  HCalls Tryz.prog 112 #[.slice data dataL dataC, .int .i64 a, .int .i64 b, .pointer swaps, cmp] h fun v1 h1 => ∃ r1 : Int, ∃ r2 : Int, v1 = .tuple #[.int .i64 r1, .int .i64 r2] ∧
  HCalls Tryz.prog 112 #[.slice data dataL dataC, .int .i64 r2, .int .i64 c, .pointer swaps, cmp] h1 fun v2 h2 => ∃ r3 : Int, ∃ r4 : Int, v2 = .tuple #[.int .i64 r3, .int .i64 r4] ∧
  HCalls Tryz.prog 112 #[.slice data dataL dataC, .int .i64 r1, .int .i64 r3, .pointer swaps, cmp] h2 fun v3 h3 => ∃ r5 : Int, ∃ r6 : Int, v3 = .tuple #[.int .i64 r5, .int .i64 r6] ∧
  K (.int .i64 r6) h3) := by kernel_rfl
theorem slices_medianCmpFunc_int_call {data : Option Addr} {dataL : Nat} {dataC : Nat} {a : Int} {b : Int} {c : Int} {swaps : Option Addr} {cmp : Value} {h : Hp} {K : Value → Hp → Prop} (hk : slices_medianCmpFunc_int_b0 data dataL dataC a b c swaps cmp h K) : HCalls Tryz.prog 104 #[.slice data dataL dataC, .int .i64 a, .int .i64 b, .int .i64 c, .pointer swaps, cmp] h K :=
  calls_of_snd slices_medianCmpFunc_int_an Tryz.func104 (c := bodyOf Tryz.f104) rfl Tryz.ntmps104 (Nat.le_of_ble_eq_true rfl) (snd_1 F_ok F_mixed) hk

/-! ### slices_siftDownOrdered_int -/
def slices_siftDownOrdered_int_an : Ann := .node none (.leaf) (.loop [0, 2, 3] [(8, .int .i64)] (.node none (.leaf) (.node none (.leaf) (.node (some [0, 2, 3, 8, 9]) (.leaf) (.node none (.leaf) (.node none (.plan (.qu 0 (.qu 1 (.qu 2 (.qu 3 (.qu 4 (.qu 5 (.qu 6 (.qu 7 (.qu 8 (.qu 9 (.qu 10 (.qu 11 (.qu 12 (.qu 13 (.qu 14 (.qu 15 (.qu 16 (.qu 17 (.qu 18 (.qu 19 (.qu 20 (.wo 21 (.qu 22 (.wo 23 .fin .no)) .no))))))))))))))))))))))) (.leaf)))))))
def slices_siftDownOrdered_int_K0  (K : Value → Hp → Prop) : Exit → Env → Hp → Prop := retK Tryz.prog Tryz.f105.results.toList K
def slices_siftDownOrdered_int_K1  (K : Value → Hp → Prop) : Exit → Env → Hp → Prop := blockE 0 (slices_siftDownOrdered_int_K0  K)
def slices_siftDownOrdered_int_K2 (nx0 : Int × Unit → Hp → Prop) (K : Value → Hp → Prop) : Exit → Env → Hp → Prop := thenE (fun env h => getV [(8, .int .i64)] env fun s => nx0 s h) (slices_siftDownOrdered_int_K1  K)
def slices_siftDownOrdered_int_K3 (nx0 : Int × Unit → Hp → Prop) (K : Value → Hp → Prop) : Exit → Env → Hp → Prop := blockE 1 (slices_siftDownOrdered_int_K2 nx0 K)
def slices_siftDownOrdered_int_b0 (data : Option Addr) (dataL : Nat) (dataC : Nat) (lo : Int) (hi : Int) (first : Int) (h : Hp)  (K : Value → Hp → Prop) : Prop :=
  sx_3 Tryz.prog F 76 (cp [] (bodyOf Tryz.f105)) (ap [] slices_siftDownOrdered_int_an) [(0, .slice data dataL dataC), (1, .int .i64 lo), (2, .int .i64 hi), (3, .int .i64 first)] h (slices_siftDownOrdered_int_K0  K)
def slices_siftDownOrdered_int_b1 (root : Int) (data : Option Addr) (dataL : Nat) (dataC : Nat) (hi : Int) (first : Int) (h : Hp) (nx0 : Int × Unit → Hp → Prop) (K : Value → Hp → Prop) : Prop :=
  sx_2 Tryz.prog F 76 (cp [1, 2, 2] (bodyOf Tryz.f105)) (ap [1, 2] slices_siftDownOrdered_int_an) [(8, .int .i64 root), (0, .slice data dataL dataC), (2, .int .i64 hi), (3, .int .i64 first)] h (slices_siftDownOrdered_int_K2 nx0 K)
def slices_siftDownOrdered_int_b2 (data : Option Addr) (dataL : Nat) (dataC : Nat) (hi : Int) (first : Int) (root : Int) (child : Int) (h : Hp) (nx0 : Int × Unit → Hp → Prop) (K : Value → Hp → Prop) : Prop :=
  sx_1 Tryz.prog F 76 (cp [1, 2, 2, 2, 1, 1, 1] (bodyOf Tryz.f105)) (ap [1, 2, 1, 1, 1] slices_siftDownOrdered_int_an) [(0, .slice data dataL dataC), (2, .int .i64 hi), (3, .int .i64 first), (8, .int .i64 root), (9, .int .i64 child)] h (slices_siftDownOrdered_int_K3 nx0 K)
theorem slices_siftDownOrdered_int_b0_eq (data : Option Addr) (dataL : Nat) (dataC : Nat) (lo : Int) (hi : Int) (first : Int) (h : Hp)  (K : Value → Hp → Prop) : slices_siftDownOrdered_int_b0 data dataL dataC lo hi first h  K = (
  LoopVC ((lo, ()) : Int × Unit) h (fun (nx0 : Int × Unit → Hp → Prop) (s1 : Int × Unit) h1 => slices_siftDownOrdered_int_b1 s1.1 data dataL dataC hi first h1 nx0 K)) := by kernel_rfl
theorem slices_siftDownOrdered_int_b1_eq (root : Int) (data : Option Addr) (dataL : Nat) (dataC : Nat) (hi : Int) (first : Int) (h : Hp) (nx0 : Int × Unit → Hp → Prop) (K : Value → Hp → Prop) : slices_siftDownOrdered_int_b1 root data dataL dataC hi first h nx0 K = (
  InR (2 * root) ∧
  InR ((2 * root) + 1) ∧
  cond (decide (hi ≤ ((2 * root) + 1)))
  (K (.tuple #[]) h)
  (InR (((2 * root) + 1) + 1) ∧
  cond (decide ((((2 * root) + 1) + 1) < hi))
  (InR (first + ((2 * root) + 1)) ∧
  (0 ≤ first + ((2 * root) + 1) ∧ first + ((2 * root) + 1) < (dataL : Int)) ∧
  NN data fun a1 =>
  ∃ n1 : Int, cell h (a1.add (Int.toNat (first + ((2 * root) + 1)) * 1)) = some (.int .i64 n1) ∧
  InR (first + ((2 * root) + 1)) ∧
  InR ((first + ((2 * root) + 1)) + 1) ∧
  (0 ≤ (first + ((2 * root) + 1)) + 1 ∧ (first + ((2 * root) + 1)) + 1 < (dataL : Int)) ∧
  NN data fun a2 =>
  ∃ n2 : Int, cell h (a2.add (Int.toNat ((first + ((2 * root) + 1)) + 1) * 1)) = some (.int .i64 n2) ∧
  ∃ r1 : Bool, HCalls Tryz.prog 95 #[.int .i64 n1, .int .i64 n2] h (fun v1 h2 => v1 = .bool r1 ∧ h2 = h) ∧
  cond r1
  (InR (((2 * root) + 1) + 1) ∧
  slices_siftDownOrdered_int_b2 data dataL dataC hi first root (((2 * root) + 1) + 1) h nx0 K)
  (slices_siftDownOrdered_int_b2 data dataL dataC hi first root ((2 * root) + 1) h nx0 K))
  (slices_siftDownOrdered_int_b2 data dataL dataC hi first root ((2 * root) + 1) h nx0 K))) := by kernel_rfl
theorem slices_siftDownOrdered_int_b2_eq (data : Option Addr) (dataL : Nat) (dataC : Nat) (hi : Int) (first : Int) (root : Int) (child : Int) (h : Hp) (nx0 : Int × Unit → Hp → Prop) (K : Value → Hp → Prop) : slices_siftDownOrdered_int_b2 data dataL dataC hi first root child h nx0 K = (
  InR (first + root) ∧
  (0 ≤ first + root ∧ first + root < (dataL : Int)) ∧
  NN data fun a3 =>
  ∃ n3 : Int, cell h (a3.add (Int.toNat (first + root) * 1)) = some (.int .i64 n3) ∧
  InR (first + child) ∧
  (0 ≤ first + child ∧ first + child < (dataL : Int)) ∧
  NN data fun a4 =>
  ∃ n4 : Int, cell h (a4.add (Int.toNat (first + child) * 1)) = some (.int .i64 n4) ∧
  ∃ r2 : Bool, HCalls Tryz.prog 95 #[.int .i64 n3, .int .i64 n4] h (fun v2 h3 => v2 = .bool r2 ∧ h3 = h) ∧
  cond (!r2)
  (K (.tuple #[]) h)
  (InR (first + root) ∧
  InR (first + child) ∧
  InR (first + child) ∧
  (0 ≤ first + child ∧ first + child < (dataL : Int)) ∧
  NN data fun a5 =>
  ∃ n5 : Int, cell h (a5.add (Int.toNat (first + child) * 1)) = some (.int .i64 n5) ∧
  InR (first + root) ∧
  (0 ≤ first + root ∧ first + root < (dataL : Int)) ∧
  NN data fun a6 =>
  ∃ n6 : Int, cell h (a6.add (Int.toNat (first + root) * 1)) = some (.int .i64 n6) ∧
  (0 ≤ first + root ∧ first + root < (dataL : Int)) ∧
  NN data fun a7 =>
  Wr h (a7.add (Int.toNat (first + root) * 1)) (.int .i64 n5) fun h4 =>
  (0 ≤ first + child ∧ first + child < (dataL : Int)) ∧
  NN data fun a8 =>
  Wr h4 (a8.add (Int.toNat (first + child) * 1)) (.int .i64 n6) fun h5 =>
  nx0 (child, ()) h5)) := by kernel_rfl
theorem slices_siftDownOrdered_int_call {data : Option Addr} {dataL : Nat} {dataC : Nat} {lo : Int} {hi : Int} {first : Int} {h : Hp} {K : Value → Hp → Prop} (hk : slices_siftDownOrdered_int_b0 data dataL dataC lo hi first h K) : HCalls Tryz.prog 105 #[.slice data dataL dataC, .int .i64 lo, .int .i64 hi, .int .i64 first] h K :=
  calls_of_snd slices_siftDownOrdered_int_an Tryz.func105 (c := bodyOf Tryz.f105) rfl Tryz.ntmps105 (Nat.le_of_ble_eq_true rfl) (snd_3 F_ok F_mixed) hk

/-! ### slices_medianAdjacentOrdered_int -/
def slices_medianAdjacentOrdered_int_an : Ann := .leaf
def slices_medianAdjacentOrdered_int_K0  (K : Value → Hp → Prop) : Exit → Env → Hp → Prop := retK Tryz.prog Tryz.f106.results.toList K
def slices_medianAdjacentOrdered_int_b0 (data : Option Addr) (dataL : Nat) (dataC : Nat) (a : Int) (swaps : Option Addr) (h : Hp)  (K : Value → Hp → Prop) : Prop :=
  sx_1 Tryz.prog F 15 (cp [] (bodyOf Tryz.f106)) (ap [] slices_medianAdjacentOrdered_int_an) [(0, .slice data dataL dataC), (1, .int .i64 a), (2, .pointer swaps)] h (slices_medianAdjacentOrdered_int_K0  K)
theorem slices_medianAdjacentOrdered_int_b0_eq (data : Option Addr) (dataL : Nat) (dataC : Nat) (a : Int) (swaps : Option Addr) (h : Hp)  (K : Value → Hp → Prop) : slices_medianAdjacentOrdered_int_b0 data dataL dataC a swaps h  K = (
  InR (a - 1) ∧
  InR (a + 1) ∧
  HCalls Tryz.prog 107 #[.slice data dataL dataC, .int .i64 (a - 1), .int .i64 a, .int .i64 (a + 1), .pointer swaps] h fun v1 h1 => ∃ r1 : Int, v1 = .int .i64 r1 ∧
  K (.int .i64 r1) h1) := by kernel_rfl
theorem slices_medianAdjacentOrdered_int_call {data : Option Addr} {dataL : Nat} {dataC : Nat} {a : Int} {swaps : Option Addr} {h : Hp} {K : Value → Hp → Prop} (hk : slices_medianAdjacentOrdered_int_b0 data dataL dataC a swaps h K) : HCalls Tryz.prog 106 #[.slice data dataL dataC, .int .i64 a, .pointer swaps] h K :=
  calls_of_snd slices_medianAdjacentOrdered_int_an Tryz.func106 (c := bodyOf Tryz.f106) rfl Tryz.ntmps106 (Nat.le_of_ble_eq_true rfl) (snd_1 F_ok F_mixed) hk

/-! ### slices_medianOrdered_int -/
def slices_medianOrdered_int_an : Ann := .leaf
def slices_medianOrdered_int_K0  (K : Value → Hp → Prop) : Exit → Env → Hp → Prop := retK Tryz.prog Tryz.f107.results.toList K
def slices_medianOrdered_int_b0 (data : Option Addr) (dataL : Nat) (dataC : Nat) (a : Int) (b : Int) (c : Int) (swaps : Option Addr) (h : Hp)  (K : Value → Hp → Prop) : Prop :=
  sx_1 Tryz.prog F 36 (cp [] (bodyOf Tryz.f107)) (ap [] slices_medianOrdered_int_an) [(0, .slice data dataL dataC), (1, .int .i64 a), (2, .int .i64 b), (3, .int .i64 c), (4, .pointer swaps)] h (slices_medianOrdered_int_K0  K)
theorem slices_medianOrdered_int_b0_eq (data : Option Addr) (dataL : Nat) (dataC : Nat) (a : Int) (b : Int) (c : Int) (swaps : Option Addr) (h : Hp)  (K : Value → Hp → Prop) : slices_medianOrdered_int_b0 data dataL dataC a b c swaps h  K = (
  HCalls Tryz.prog 113 #[.slice data dataL dataC, .int .i64 a, .int .i64 b, .pointer swaps] h fun v1 h1 => ∃ r1 : Int, ∃ r2 : Int, v1 = .tuple #[.int .i64 r1, .int .i64 r2] ∧
  HCalls Tryz.prog 113 #[.slice data dataL dataC, .int .i64 r2, .int .i64 c, .pointer swaps] h1 fun v2 h2 => ∃ r3 : Int, ∃ r4 : Int, v2 = .tuple #[.int .i64 r3, .int .i64 r4] ∧
  HCalls Tryz.prog 113 #[.slice data dataL dataC, .int .i64 r1, .int .i64 r3, .pointer swaps] h2 fun v3 h3 => ∃ r5 : Int, ∃ r6 : Int, v3 = .tuple #[.int .i64 r5, .int .i64 r6] ∧
  K (.int .i64 r6) h3) := by kernel_rfl
theorem slices_medianOrdered_int_call {data : Option Addr} {dataL : Nat} {dataC : Nat} {a : Int} {b : Int} {c : Int} {swaps : Option Addr} {h : Hp} {K : Value → Hp → Prop} (hk : slices_medianOrdered_int_b0 data dataL dataC a b c swaps h K) : HCalls Tryz.prog 107 #[.slice data dataL dataC, .int .i64 a, .int .i64 b, .int .i64 c, .pointer swaps] h K :=
  calls_of_snd slices_medianOrdered_int_an Tryz.func107 (c := bodyOf Tryz.f107) rfl Tryz.ntmps107 (Nat.le_of_ble_eq_true rfl) (snd_1 F_ok F_mixed) hk

/-! ### slices_order2CmpFunc_int -/
def slices_order2CmpFunc_int_an : Ann := .node none (.leaf) (.node none (.node none (.tail 9) (.leaf)) (.leaf))
def slices_order2CmpFunc_int_K0  (K : Value → Hp → Prop) : Exit → Env → Hp → Prop := retK Tryz.prog Tryz.f112.results.toList K
def slices_order2CmpFunc_int_b0 (data : Option Addr) (dataL : Nat) (dataC : Nat) (a : Int) (b : Int) (swaps : Option Addr) (cmp : Value) (h : Hp)  (K : Value → Hp → Prop) : Prop :=
  sx_1 Tryz.prog F 32 (cp [] (bodyOf Tryz.f112)) (ap [] slices_order2CmpFunc_int_an) [(0, .slice data dataL dataC), (1, .int .i64 a), (2, .int .i64 b), (3, .pointer swaps), (4, cmp)] h (slices_order2CmpFunc_int_K0  K)
theorem slices_order2CmpFunc_int_b0_eq (data : Option Addr) (dataL : Nat) (dataC : Nat) (a : Int) (b : Int) (swaps : Option Addr) (cmp : Value) (h : Hp)  (K : Value → Hp → Prop) : slices_order2CmpFunc_int_b0 data dataL dataC a b swaps cmp h  K = (
  (0 ≤ b ∧ b < (dataL : Int)) ∧
  NN data fun a1 =>
  ∃ n1 : Int, cell h (a1.add (Int.toNat b * 1)) = some (.int .i64 n1) ∧
  (0 ≤ a ∧ a < (dataL : Int)) ∧
  NN data fun a2 =>
  ∃ n2 : Int, cell h (a2.add (Int.toNat a * 1)) = some (.int .i64 n2) ∧
  funV cmp fun fg1 fa1 fc1 => callX Tryz.prog F fg1 (fa1 ++ (([.int .i64 n1, .int .i64 n2] : List Value) ++ fc1)).toArray h fun v1 h1 => ∃ r1 : Int, v1 = .int .i64 r1 ∧
  cond (decide (r1 < 0))
  (NN swaps fun a3 =>
  ∃ n3 : Int, cell h1 a3 = some (.int .i64 n3) ∧
  InR (n3 + 1) ∧
  NN swaps fun a4 =>
  Wr h1 a4 (.int .i64 (n3 + 1)) fun h2 =>
  K (.tuple #[.int .i64 b, .int .i64 a]) h2)
  (K (.tuple #[.int .i64 a, .int .i64 b]) h1)) := by kernel_rfl
theorem slices_order2CmpFunc_int_call {data : Option Addr} {dataL : Nat} {dataC : Nat} {a : Int} {b : Int} {swaps : Option Addr} {cmp : Value} {h : Hp} {K : Value → Hp → Prop} (hk : slices_order2CmpFunc_int_b0 data dataL dataC a b swaps cmp h K) : HCalls Tryz.prog 112 #[.slice data dataL dataC, .int .i64 a, .int .i64 b, .pointer swaps, cmp] h K :=
  calls_of_snd slices_order2CmpFunc_int_an Tryz.func112 (c := bodyOf Tryz.f112) rfl Tryz.ntmps112 (Nat.le_of_ble_eq_true rfl) (snd_1 F_ok F_mixed) hk

/-! ### slices_order2Ordered_int -/
def slices_order2Ordered_int_an : Ann := .leaf
def slices_order2Ordered_int_K0  (K : Value → Hp → Prop) : Exit → Env → Hp → Prop := retK Tryz.prog Tryz.f113.results.toList K
def slices_order2Ordered_int_b0 (data : Option Addr) (dataL : Nat) (dataC : Nat) (a : Int) (b : Int) (swaps : Option Addr) (h : Hp)  (K : Value → Hp → Prop) : Prop :=
  sx_1 Tryz.prog F 28 (cp [] (bodyOf Tryz.f113)) (ap [] slices_order2Ordered_int_an) [(0, .slice data dataL dataC), (1, .int .i64 a), (2, .int .i64 b), (3, .pointer swaps)] h (slices_order2Ordered_int_K0  K)
theorem slices_order2Ordered_int_b0_eq (data : Option Addr) (dataL : Nat) (dataC : Nat) (a : Int) (b : Int) (swaps : Option Addr) (h : Hp)  (K : Value → Hp → Prop) : slices_order2Ordered_int_b0 data dataL dataC a b swaps h  K = (
  (0 ≤ b ∧ b < (dataL : Int)) ∧
  NN data fun a1 =>
  ∃ n1 : Int, cell h (a1.add (Int.toNat b * 1)) = some (.int .i64 n1) ∧
  (0 ≤ a ∧ a < (dataL : Int)) ∧
  NN data fun a2 =>
  ∃ n2 : Int, cell h (a2.add (Int.toNat a * 1)) = some (.int .i64 n2) ∧
  ∃ r1 : Bool, HCalls Tryz.prog 95 #[.int .i64 n1, .int .i64 n2] h (fun v1 h1 => v1 = .bool r1 ∧ h1 = h) ∧
  cond r1
  (NN swaps fun a3 =>
  ∃ n3 : Int, cell h a3 = some (.int .i64 n3) ∧
  InR (n3 + 1) ∧
  NN swaps fun a4 =>
  Wr h a4 (.int .i64 (n3 + 1)) fun h2 =>
  K (.tuple #[.int .i64 b, .int .i64 a]) h2)
  (K (.tuple #[.int .i64 a, .int .i64 b]) h)) := by kernel_rfl
theorem slices_order2Ordered_int_call {data : Option Addr} {dataL : Nat} {dataC : Nat} {a : Int} {b : Int} {swaps : Option Addr} {h : Hp} {K : Value → Hp → Prop} (hk : slices_order2Ordered_int_b0 data dataL dataC a b swaps h K) : HCalls Tryz.prog 113 #[.slice data dataL dataC, .int .i64 a, .int .i64 b, .pointer swaps] h K :=
  calls_of_snd slices_order2Ordered_int_an Tryz.func113 (c := bodyOf Tryz.f113) rfl Tryz.ntmps113 (Nat.le_of_ble_eq_true rfl) (snd_1 F_ok F_mixed) hk

end Go.Proofs.YtfkccighnkepgaaGreat
