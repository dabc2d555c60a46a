/- Plain statements of what each block of code of this seat asks; printed by a program, checked by Lean. -/
import Derived.Test.YtfkccighnkepgaaGreatSxV0
set_option maxRecDepth 10000
namespace Go.Proofs.YtfkccighnkepgaaGreat
open Go Go.Sx

/-! ### slices_partitionCmpFunc_int -/
def slices_partitionCmpFunc_int_an : Ann := .node none (.leaf) (.node none (.plan (.qu 0 (.qu 1 (.qu 2 (.qu 3 (.qu 4 (.qu 5 (.qu 6 (.qu 7 (.qu 8 (.qu 9 (.qu 10 (.qu 11 (.qu 12 (.wo 13 (.qu 14 (.wo 15 .fin .no)) .no))))))))))))))) (.node none (.leaf) (.node (some [0, 1, 4, 12, 13]) (.loop [0, 1, 4, 13] [(12, .int .i64)] (.node (some [0, 1, 4, 12, 13]) (.node none (.tail 13) (.leaf)) (.leaf))) (.node (some [0, 1, 4, 12, 13]) (.loop [0, 1, 4, 12] [(13, .int .i64)] (.node (some [0, 1, 4, 12, 13]) (.node none (.tail 13) (.leaf)) (.leaf))) (.node none (.node none (.leaf) (.node none (.node none (.plan (.qu 0 (.qu 1 (.qu 2 (.qu 3 (.qu 4 (.qu 5 (.qu 6 (.qu 7 (.qu 8 (.qu 9 (.qu 10 (.qu 11 (.qu 12 (.wo 13 (.qu 14 (.wo 15 .fin .no)) .no))))))))))))))) (.leaf)) (.leaf))) (.node none (.plan (.qu 0 (.qu 1 (.qu 2 (.qu 3 (.qu 4 (.qu 5 (.qu 6 (.qu 7 (.qu 8 (.qu 9 (.qu 10 (.qu 11 (.qu 12 (.wo 13 (.qu 14 (.wo 15 .fin .no)) .no))))))))))))))) (.node none (.leaf) (.node none (.leaf) (.node (some [0, 1, 13]) (.loop [0, 1, 4] [(12, .int .i64), (13, .int .i64)] (.node (some [0, 1, 4, 12, 13]) (.loop [0, 1, 4, 13] [(12, .int .i64)] (.node (some [0, 1, 4, 12, 13]) (.node none (.tail 13) (.leaf)) (.leaf))) (.node (some [0, 1, 4, 12, 13]) (.loop [0, 1, 4, 12] [(13, .int .i64)] (.node (some [0, 1, 4, 12, 13]) (.node none (.tail 13) (.leaf)) (.leaf))) (.node none (.leaf) (.node none (.plan (.qu 0 (.qu 1 (.qu 2 (.qu 3 (.qu 4 (.qu 5 (.qu 6 (.qu 7 (.qu 8 (.qu 9 (.qu 10 (.qu 11 (.qu 12 (.wo 13 (.qu 14 (.wo 15 .fin .no)) .no))))))))))))))) (.leaf)))))) (.node none (.plan (.qu 0 (.qu 1 (.qu 2 (.qu 3 (.qu 4 (.qu 5 (.qu 6 (.qu 7 (.qu 8 (.qu 9 (.qu 10 (.qu 11 (.qu 12 (.wo 13 (.qu 14 (.wo 15 .fin .no)) .no))))))))))))))) (.leaf)))))))))))
def slices_partitionCmpFunc_int_K0  (K : Value → Hp → Prop) : Exit → Env → Hp → Prop := retK Tryz.prog Tryz.f86.results.toList K
def slices_partitionCmpFunc_int_K1  (K : Value → Hp → Prop) : Exit → Env → Hp → Prop := thenE (fun env h => sx_6 Tryz.prog F 178 (cp [1, 1, 1, 1] (bodyOf Tryz.f86)) (ap [1, 1, 1, 1] slices_partitionCmpFunc_int_an) (rs [0, 1, 4, 12, 13] env) h (slices_partitionCmpFunc_int_K0  K)) (slices_partitionCmpFunc_int_K0  K)
def slices_partitionCmpFunc_int_K2  (K : Value → Hp → Prop) : Exit → Env → Hp → Prop := blockE 0 (slices_partitionCmpFunc_int_K1  K)
def slices_partitionCmpFunc_int_K3 (nx0 : Int × Unit → Hp → Prop) (K : Value → Hp → Prop) : Exit → Env → Hp → Prop := thenE (fun env h => getV [(12, .int .i64)] env fun s => nx0 s h) (slices_partitionCmpFunc_int_K2  K)
def slices_partitionCmpFunc_int_K4  (K : Value → Hp → Prop) : Exit → Env → Hp → Prop := thenE (fun env h => sx_5 Tryz.prog F 178 (cp [1, 1, 1, 1, 1] (bodyOf Tryz.f86)) (ap [1, 1, 1, 1, 1] slices_partitionCmpFunc_int_an) (rs [0, 1, 4, 12, 13] env) h (slices_partitionCmpFunc_int_K0  K)) (slices_partitionCmpFunc_int_K0  K)
def slices_partitionCmpFunc_int_K5  (K : Value → Hp → Prop) : Exit → Env → Hp → Prop := blockE 2 (slices_partitionCmpFunc_int_K4  K)
def slices_partitionCmpFunc_int_K6 (nx0 : Int × Unit → Hp → Prop) (K : Value → Hp → Prop) : Exit → Env → Hp → Prop := thenE (fun env h => getV [(13, .int .i64)] env fun s => nx0 s h) (slices_partitionCmpFunc_int_K5  K)
def slices_partitionCmpFunc_int_K7  (K : Value → Hp → Prop) : Exit → Env → Hp → Prop := thenE (fun env h => sx_4 Tryz.prog F 178 (cp [1, 1, 1, 1, 1, 1, 1, 1, 1, 1] (bodyOf Tryz.f86)) (ap [1, 1, 1, 1, 1, 1, 1, 1, 1, 1] slices_partitionCmpFunc_int_an) (rs [0, 1, 13] env) h (slices_partitionCmpFunc_int_K0  K)) (slices_partitionCmpFunc_int_K0  K)
def slices_partitionCmpFunc_int_K8  (K : Value → Hp → Prop) : Exit → Env → Hp → Prop := blockE 4 (slices_partitionCmpFunc_int_K7  K)
def slices_partitionCmpFunc_int_K9 (nx0 : Int × Int × Unit → Hp → Prop) (K : Value → Hp → Prop) : Exit → Env → Hp → Prop := thenE (fun env h => getV [(12, .int .i64), (13, .int .i64)] env fun s => nx0 s h) (slices_partitionCmpFunc_int_K8  K)
def slices_partitionCmpFunc_int_K10 (nx0 : Int × Int × Unit → Hp → Prop) (K : Value → Hp → Prop) : Exit → Env → Hp → Prop := blockE 5 (slices_partitionCmpFunc_int_K9 nx0 K)
def slices_partitionCmpFunc_int_K11 (nx0 : Int × Int × Unit → Hp → Prop) (K : Value → Hp → Prop) : Exit → Env → Hp → Prop := thenE (fun env h => sx_3 Tryz.prog F 178 (cp [1, 1, 1, 1, 1, 1, 1, 1, 1, 0, 2, 2, 2, 1] (bodyOf Tryz.f86)) (ap [1, 1, 1, 1, 1, 1, 1, 1, 1, 0, 2, 1] slices_partitionCmpFunc_int_an) (rs [0, 1, 4, 12, 13] env) h (slices_partitionCmpFunc_int_K10 nx0 K)) (slices_partitionCmpFunc_int_K10 nx0 K)
def slices_partitionCmpFunc_int_K12 (nx0 : Int × Int × Unit → Hp → Prop) (K : Value → Hp → Prop) : Exit → Env → Hp → Prop := blockE 6 (slices_partitionCmpFunc_int_K11 nx0 K)
def slices_partitionCmpFunc_int_K13 (nx0 : Int × Int × Unit → Hp → Prop) (nx1 : Int × Unit → Hp → Prop) (K : Value → Hp → Prop) : Exit → Env → Hp → Prop := thenE (fun env h => getV [(12, .int .i64)] env fun s => nx1 s h) (slices_partitionCmpFunc_int_K12 nx0 K)
def slices_partitionCmpFunc_int_K14 (nx0 : Int × Int × Unit → Hp → Prop) (K : Value → Hp → Prop) : Exit → Env → Hp → Prop := thenE (fun env h => sx_2 Tryz.prog F 178 (cp [1, 1, 1, 1, 1, 1, 1, 1, 1, 0, 2, 2, 2, 1, 1] (bodyOf Tryz.f86)) (ap [1, 1, 1, 1, 1, 1, 1, 1, 1, 0, 2, 1, 1] slices_partitionCmpFunc_int_an) (rs [0, 1, 4, 12, 13] env) h (slices_partitionCmpFunc_int_K10 nx0 K)) (slices_partitionCmpFunc_int_K10 nx0 K)
def slices_partitionCmpFunc_int_K15 (nx0 : Int × Int × Unit → Hp → Prop) (K : Value → Hp → Prop) : Exit → Env → Hp → Prop := blockE 8 (slices_partitionCmpFunc_int_K14 nx0 K)
def slices_partitionCmpFunc_int_K16 (nx0 : Int × Int × Unit → Hp → Prop) (nx1 : Int × Unit → Hp → Prop) (K : Value → Hp → Prop) : Exit → Env → Hp → Prop := thenE (fun env h => getV [(13, .int .i64)] env fun s => nx1 s h) (slices_partitionCmpFunc_int_K15 nx0 K)
def slices_partitionCmpFunc_int_b0 (data : Option Addr) (dataL : Nat) (dataC : Nat) (a : Int) (b : Int) (pivot : Int) (cmp : Value) (h : Hp)  (K : Value → Hp → Prop) : Prop :=
  sx_7 Tryz.prog F 178 (cp [] (bodyOf Tryz.f86)) (ap [] slices_partitionCmpFunc_int_an) [(0, .slice data dataL dataC), (1, .int .i64 a), (2, .int .i64 b), (3, .int .i64 pivot), (4, cmp)] h (slices_partitionCmpFunc_int_K0  K)
def slices_partitionCmpFunc_int_b1 (i : Int) (data : Option Addr) (dataL : Nat) (dataC : Nat) (a : Int) (cmp : Value) (j : Int) (h : Hp) (nx0 : Int × Unit → Hp → Prop) (K : Value → Hp → Prop) : Prop :=
  sx_6 Tryz.prog F 178 (cp [1, 1, 1, 0, 2, 2] (bodyOf Tryz.f86)) (ap [1, 1, 1, 0, 2] slices_partitionCmpFunc_int_an) [(12, .int .i64 i), (0, .slice data dataL dataC), (1, .int .i64 a), (4, cmp), (13, .int .i64 j)] h (slices_partitionCmpFunc_int_K3 nx0 K)
def slices_partitionCmpFunc_int_b2 (data : Option Addr) (dataL : Nat) (dataC : Nat) (a : Int) (cmp : Value) (i : Int) (j : Int) (h : Hp) (nx0 : Int × Unit → Hp → Prop) (K : Value → Hp → Prop) : Prop :=
  sx_5 Tryz.prog F 178 (cp [1, 1, 1, 0, 2, 2, 1] (bodyOf Tryz.f86)) (ap [1, 1, 1, 0, 2, 1] slices_partitionCmpFunc_int_an) [(0, .slice data dataL dataC), (1, .int .i64 a), (4, cmp), (12, .int .i64 i), (13, .int .i64 j)] h (slices_partitionCmpFunc_int_K3 nx0 K)
def slices_partitionCmpFunc_int_b3 (data : Option Addr) (dataL : Nat) (dataC : Nat) (a : Int) (cmp : Value) (i : Int) (j : Int) (h : Hp)  (K : Value → Hp → Prop) : Prop :=
  sx_6 Tryz.prog F 178 (cp [1, 1, 1, 1] (bodyOf Tryz.f86)) (ap [1, 1, 1, 1] slices_partitionCmpFunc_int_an) [(0, .slice data dataL dataC), (1, .int .i64 a), (4, cmp), (12, .int .i64 i), (13, .int .i64 j)] h (slices_partitionCmpFunc_int_K0  K)
def slices_partitionCmpFunc_int_b4 (j : Int) (data : Option Addr) (dataL : Nat) (dataC : Nat) (a : Int) (cmp : Value) (i : Int) (h : Hp) (nx0 : Int × Unit → Hp → Prop) (K : Value → Hp → Prop) : Prop :=
  sx_5 Tryz.prog F 178 (cp [1, 1, 1, 1, 0, 2, 2] (bodyOf Tryz.f86)) (ap [1, 1, 1, 1, 0, 2] slices_partitionCmpFunc_int_an) [(13, .int .i64 j), (0, .slice data dataL dataC), (1, .int .i64 a), (4, cmp), (12, .int .i64 i)] h (slices_partitionCmpFunc_int_K6 nx0 K)
def slices_partitionCmpFunc_int_b5 (data : Option Addr) (dataL : Nat) (dataC : Nat) (a : Int) (cmp : Value) (i : Int) (j : Int) (h : Hp) (nx0 : Int × Unit → Hp → Prop) (K : Value → Hp → Prop) : Prop :=
  sx_4 Tryz.prog F 178 (cp [1, 1, 1, 1, 0, 2, 2, 1] (bodyOf Tryz.f86)) (ap [1, 1, 1, 1, 0, 2, 1] slices_partitionCmpFunc_int_an) [(0, .slice data dataL dataC), (1, .int .i64 a), (4, cmp), (12, .int .i64 i), (13, .int .i64 j)] h (slices_partitionCmpFunc_int_K6 nx0 K)
def slices_partitionCmpFunc_int_b6 (data : Option Addr) (dataL : Nat) (dataC : Nat) (a : Int) (cmp : Value) (i : Int) (j : Int) (h : Hp)  (K : Value → Hp → Prop) : Prop :=
  sx_5 Tryz.prog F 178 (cp [1, 1, 1, 1, 1] (bodyOf Tryz.f86)) (ap [1, 1, 1, 1, 1] slices_partitionCmpFunc_int_an) [(0, .slice data dataL dataC), (1, .int .i64 a), (4, cmp), (12, .int .i64 i), (13, .int .i64 j)] h (slices_partitionCmpFunc_int_K0  K)
def slices_partitionCmpFunc_int_b7 (i : Int) (j : Int) (data : Option Addr) (dataL : Nat) (dataC : Nat) (a : Int) (cmp : Value) (h : Hp) (nx0 : Int × Int × Unit → Hp → Prop) (K : Value → Hp → Prop) : Prop :=
  sx_4 Tryz.prog F 178 (cp [1, 1, 1, 1, 1, 1, 1, 1, 1, 0, 2, 2] (bodyOf Tryz.f86)) (ap [1, 1, 1, 1, 1, 1, 1, 1, 1, 0, 2] slices_partitionCmpFunc_int_an) [(12, .int .i64 i), (13, .int .i64 j), (0, .slice data dataL dataC), (1, .int .i64 a), (4, cmp)] h (slices_partitionCmpFunc_int_K9 nx0 K)
def slices_partitionCmpFunc_int_b8 (i : Int) (data : Option Addr) (dataL : Nat) (dataC : Nat) (a : Int) (cmp : Value) (j : Int) (h : Hp) (nx0 : Int × Int × Unit → Hp → Prop) (nx1 : Int × Unit → Hp → Prop) (K : Value → Hp → Prop) : Prop :=
  sx_3 Tryz.prog F 178 (cp [1, 1, 1, 1, 1, 1, 1, 1, 1, 0, 2, 2, 2, 0, 2, 2] (bodyOf Tryz.f86)) (ap [1, 1, 1, 1, 1, 1, 1, 1, 1, 0, 2, 0, 2] slices_partitionCmpFunc_int_an) [(12, .int .i64 i), (0, .slice data dataL dataC), (1, .int .i64 a), (4, cmp), (13, .int .i64 j)] h (slices_partitionCmpFunc_int_K13 nx0 nx1 K)
def slices_partitionCmpFunc_int_b9 (data : Option Addr) (dataL : Nat) (dataC : Nat) (a : Int) (cmp : Value) (i : Int) (j : Int) (h : Hp) (nx0 : Int × Int × Unit → Hp → Prop) (nx1 : Int × Unit → Hp → Prop) (K : Value → Hp → Prop) : Prop :=
  sx_2 Tryz.prog F 178 (cp [1, 1, 1, 1, 1, 1, 1, 1, 1, 0, 2, 2, 2, 0, 2, 2, 1] (bodyOf Tryz.f86)) (ap [1, 1, 1, 1, 1, 1, 1, 1, 1, 0, 2, 0, 2, 1] slices_partitionCmpFunc_int_an) [(0, .slice data dataL dataC), (1, .int .i64 a), (4, cmp), (12, .int .i64 i), (13, .int .i64 j)] h (slices_partitionCmpFunc_int_K13 nx0 nx1 K)
def slices_partitionCmpFunc_int_b10 (data : Option Addr) (dataL : Nat) (dataC : Nat) (a : Int) (cmp : Value) (i : Int) (j : Int) (h : Hp) (nx0 : Int × Int × Unit → Hp → Prop) (K : Value → Hp → Prop) : Prop :=
  sx_3 Tryz.prog F 178 (cp [1, 1, 1, 1, 1, 1, 1, 1, 1, 0, 2, 2, 2, 1] (bodyOf Tryz.f86)) (ap [1, 1, 1, 1, 1, 1, 1, 1, 1, 0, 2, 1] slices_partitionCmpFunc_int_an) [(0, .slice data dataL dataC), (1, .int .i64 a), (4, cmp), (12, .int .i64 i), (13, .int .i64 j)] h (slices_partitionCmpFunc_int_K10 nx0 K)
def slices_partitionCmpFunc_int_b11 (j : Int) (data : Option Addr) (dataL : Nat) (dataC : Nat) (a : Int) (cmp : Value) (i : Int) (h : Hp) (nx0 : Int × Int × Unit → Hp → Prop) (nx1 : Int × Unit → Hp → Prop) (K : Value → Hp → Prop) : Prop :=
  sx_2 Tryz.prog F 178 (cp [1, 1, 1, 1, 1, 1, 1, 1, 1, 0, 2, 2, 2, 1, 0, 2, 2] (bodyOf Tryz.f86)) (ap [1, 1, 1, 1, 1, 1, 1, 1, 1, 0, 2, 1, 0, 2] slices_partitionCmpFunc_int_an) [(13, .int .i64 j), (0, .slice data dataL dataC), (1, .int .i64 a), (4, cmp), (12, .int .i64 i)] h (slices_partitionCmpFunc_int_K16 nx0 nx1 K)
def slices_partitionCmpFunc_int_b12 (data : Option Addr) (dataL : Nat) (dataC : Nat) (a : Int) (cmp : Value) (i : Int) (j : Int) (h : Hp) (nx0 : Int × Int × Unit → Hp → Prop) (nx1 : Int × Unit → Hp → Prop) (K : Value → Hp → Prop) : Prop :=
  sx_1 Tryz.prog F 178 (cp [1, 1, 1, 1, 1, 1, 1, 1, 1, 0, 2, 2, 2, 1, 0, 2, 2, 1] (bodyOf Tryz.f86)) (ap [1, 1, 1, 1, 1, 1, 1, 1, 1, 0, 2, 1, 0, 2, 1] slices_partitionCmpFunc_int_an) [(0, .slice data dataL dataC), (1, .int .i64 a), (4, cmp), (12, .int .i64 i), (13, .int .i64 j)] h (slices_partitionCmpFunc_int_K16 nx0 nx1 K)
def slices_partitionCmpFunc_int_b13 (data : Option Addr) (dataL : Nat) (dataC : Nat) (a : Int) (cmp : Value) (i : Int) (j : Int) (h : Hp) (nx0 : Int × Int × Unit → Hp → Prop) (K : Value → Hp → Prop) : Prop :=
  sx_2 Tryz.prog F 178 (cp [1, 1, 1, 1, 1, 1, 1, 1, 1, 0, 2, 2, 2, 1, 1] (bodyOf Tryz.f86)) (ap [1, 1, 1, 1, 1, 1, 1, 1, 1, 0, 2, 1, 1] slices_partitionCmpFunc_int_an) [(0, .slice data dataL dataC), (1, .int .i64 a), (4, cmp), (12, .int .i64 i), (13, .int .i64 j)] h (slices_partitionCmpFunc_int_K10 nx0 K)
def slices_partitionCmpFunc_int_b14 (data : Option Addr) (dataL : Nat) (dataC : Nat) (a : Int) (j : Int) (h : Hp)  (K : Value → Hp → Prop) : Prop :=
  sx_4 Tryz.prog F 178 (cp [1, 1, 1, 1, 1, 1, 1, 1, 1, 1] (bodyOf Tryz.f86)) (ap [1, 1, 1, 1, 1, 1, 1, 1, 1, 1] slices_partitionCmpFunc_int_an) [(0, .slice data dataL dataC), (1, .int .i64 a), (13, .int .i64 j)] h (slices_partitionCmpFunc_int_K0  K)
theorem slices_partitionCmpFunc_int_b0_eq (data : Option Addr) (dataL : Nat) (dataC : Nat) (a : Int) (b : Int) (pivot : Int) (cmp : Value) (h : Hp)  (K : Value → Hp → Prop) : slices_partitionCmpFunc_int_b0 data dataL dataC a b pivot cmp h  K = (
  (0 ≤ pivot ∧ pivot < (dataL : Int)) ∧
  NN data fun a1 =>
  ∃ n1 : Int, cell h (a1.add (Int.toNat pivot * 1)) = some (.int .i64 n1) ∧
  (0 ≤ a ∧ a < (dataL : Int)) ∧
  NN data fun a2 =>
  ∃ n2 : Int, cell h (a2.add (Int.toNat a * 1)) = some (.int .i64 n2) ∧
  (0 ≤ a ∧ a < (dataL : Int)) ∧
  NN data fun a3 =>
  Wr h (a3.add (Int.toNat a * 1)) (.int .i64 n1) fun h1 =>
  (0 ≤ pivot ∧ pivot < (dataL : Int)) ∧
  NN data fun a4 =>
  Wr h1 (a4.add (Int.toNat pivot * 1)) (.int .i64 n2) fun h2 =>
  InR (a + 1) ∧
  InR (b - 1) ∧
  LoopVC ((a + 1, ()) : Int × Unit) h2 (fun (nx0 : Int × Unit → Hp → Prop) (s1 : Int × Unit) h3 => slices_partitionCmpFunc_int_b1 s1.1 data dataL dataC a cmp (b - 1) h3 nx0 K)) := by kernel_rfl
theorem slices_partitionCmpFunc_int_b1_eq (i : Int) (data : Option Addr) (dataL : Nat) (dataC : Nat) (a : Int) (cmp : Value) (j : Int) (h : Hp) (nx0 : Int × Unit → Hp → Prop) (K : Value → Hp → Prop) : slices_partitionCmpFunc_int_b1 i data dataL dataC a cmp j h nx0 K = (
  cond (decide (i ≤ j))
  ((0 ≤ i ∧ i < (dataL : Int)) ∧
  NN data fun a5 =>
  ∃ n3 : Int, cell h (a5.add (Int.toNat i * 1)) = some (.int .i64 n3) ∧
  (0 ≤ a ∧ a < (dataL : Int)) ∧
  NN data fun a6 =>
  ∃ n4 : Int, cell h (a6.add (Int.toNat a * 1)) = some (.int .i64 n4) ∧
  funV cmp fun fg1 fa1 fc1 => callX Tryz.prog F fg1 (fa1 ++ (([.int .i64 n3, .int .i64 n4] : List Value) ++ fc1)).toArray h fun v1 h4 => ∃ r1 : Int, v1 = .int .i64 r1 ∧
  cond (decide (r1 < 0))
  (slices_partitionCmpFunc_int_b2 data dataL dataC a cmp i j h4 nx0 K)
  (slices_partitionCmpFunc_int_b3 data dataL dataC a cmp i j h4  K))
  (slices_partitionCmpFunc_int_b3 data dataL dataC a cmp i j h  K)) := by kernel_rfl
theorem slices_partitionCmpFunc_int_b2_eq (data : Option Addr) (dataL : Nat) (dataC : Nat) (a : Int) (cmp : Value) (i : Int) (j : Int) (h : Hp) (nx0 : Int × Unit → Hp → Prop) (K : Value → Hp → Prop) : slices_partitionCmpFunc_int_b2 data dataL dataC a cmp i j h nx0 K = (
  InR (i + 1) ∧
  nx0 (i + 1, ()) h) := by kernel_rfl
theorem slices_partitionCmpFunc_int_b3_eq (data : Option Addr) (dataL : Nat) (dataC : Nat) (a : Int) (cmp : Value) (i : Int) (j : Int) (h : Hp)  (K : Value → Hp → Prop) : slices_partitionCmpFunc_int_b3 data dataL dataC a cmp i j h  K = (
  LoopVC ((j, ()) : Int × Unit) h (fun (nx0 : Int × Unit → Hp → Prop) (s2 : Int × Unit) h5 => slices_partitionCmpFunc_int_b4 s2.1 data dataL dataC a cmp i h5 nx0 K)) := by kernel_rfl
theorem slices_partitionCmpFunc_int_b4_eq (j : Int) (data : Option Addr) (dataL : Nat) (dataC : Nat) (a : Int) (cmp : Value) (i : Int) (h : Hp) (nx0 : Int × Unit → Hp → Prop) (K : Value → Hp → Prop) : slices_partitionCmpFunc_int_b4 j data dataL dataC a cmp i h nx0 K = (
  cond (decide (i ≤ j))
  ((0 ≤ j ∧ j < (dataL : Int)) ∧
  NN data fun a7 =>
  ∃ n5 : Int, cell h (a7.add (Int.toNat j * 1)) = some (.int .i64 n5) ∧
  (0 ≤ a ∧ a < (dataL : Int)) ∧
  NN data fun a8 =>
  ∃ n6 : Int, cell h (a8.add (Int.toNat a * 1)) = some (.int .i64 n6) ∧
  funV cmp fun fg2 fa2 fc2 => callX Tryz.prog F fg2 (fa2 ++ (([.int .i64 n5, .int .i64 n6] : List Value) ++ fc2)).toArray h fun v2 h6 => ∃ r2 : Int, v2 = .int .i64 r2 ∧
  cond (!(decide (r2 < 0)))
  (slices_partitionCmpFunc_int_b5 data dataL dataC a cmp i j h6 nx0 K)
  (slices_partitionCmpFunc_int_b6 data dataL dataC a cmp i j h6  K))
  (slices_partitionCmpFunc_int_b6 data dataL dataC a cmp i j h  K)) := by kernel_rfl
theorem slices_partitionCmpFunc_int_b5_eq (data : Option Addr) (dataL : Nat) (dataC : Nat) (a : Int) (cmp : Value) (i : Int) (j : Int) (h : Hp) (nx0 : Int × Unit → Hp → Prop) (K : Value → Hp → Prop) : slices_partitionCmpFunc_int_b5 data dataL dataC a cmp i j h nx0 K = (
  InR (j - 1) ∧
  nx0 (j - 1, ()) h) := by kernel_rfl
theorem slices_partitionCmpFunc_int_b6_eq (data : Option Addr) (dataL : Nat) (dataC : Nat) (a : Int) (cmp : Value) (i : Int) (j : Int) (h : Hp)  (K : Value → Hp → Prop) : slices_partitionCmpFunc_int_b6 data dataL dataC a cmp i j h  K = (
  cond (decide (j < i))
  ((0 ≤ a ∧ a < (dataL : Int)) ∧
  NN data fun a9 =>
  ∃ n7 : Int, cell h (a9.add (Int.toNat a * 1)) = some (.int .i64 n7) ∧
  (0 ≤ j ∧ j < (dataL : Int)) ∧
  NN data fun a10 =>
  ∃ n8 : Int, cell h (a10.add (Int.toNat j * 1)) = some (.int .i64 n8) ∧
  (0 ≤ j ∧ j < (dataL : Int)) ∧
  NN data fun a11 =>
  Wr h (a11.add (Int.toNat j * 1)) (.int .i64 n7) fun h7 =>
  (0 ≤ a ∧ a < (dataL : Int)) ∧
  NN data fun a12 =>
  Wr h7 (a12.add (Int.toNat a * 1)) (.int .i64 n8) fun h8 =>
  K (.tuple #[.int .i64 j, .bool true]) h8)
  ((0 ≤ j ∧ j < (dataL : Int)) ∧
  NN data fun a13 =>
  ∃ n9 : Int, cell h (a13.add (Int.toNat j * 1)) = some (.int .i64 n9) ∧
  (0 ≤ i ∧ i < (dataL : Int)) ∧
  NN data fun a14 =>
  ∃ n10 : Int, cell h (a14.add (Int.toNat i * 1)) = some (.int .i64 n10) ∧
  (0 ≤ i ∧ i < (dataL : Int)) ∧
  NN data fun a15 =>
  Wr h (a15.add (Int.toNat i * 1)) (.int .i64 n9) fun h9 =>
  (0 ≤ j ∧ j < (dataL : Int)) ∧
  NN data fun a16 =>
  Wr h9 (a16.add (Int.toNat j * 1)) (.int .i64 n10) fun h10 =>
  InR (i + 1) ∧
  InR (j - 1) ∧
  LoopVC ((i + 1, j - 1, ()) : Int × Int × Unit) h10 (fun (nx0 : Int × Int × Unit → Hp → Prop) (s3 : Int × Int × Unit) h11 => slices_partitionCmpFunc_int_b7 s3.1 s3.2.1 data dataL dataC a cmp h11 nx0 K))) := by kernel_rfl
theorem slices_partitionCmpFunc_int_b7_eq (i : Int) (j : Int) (data : Option Addr) (dataL : Nat) (dataC : Nat) (a : Int) (cmp : Value) (h : Hp) (nx0 : Int × Int × Unit → Hp → Prop) (K : Value → Hp → Prop) : slices_partitionCmpFunc_int_b7 i j data dataL dataC a cmp h nx0 K = (
  LoopVC ((i, ()) : Int × Unit) h (fun (nx1 : Int × Unit → Hp → Prop) (s4 : Int × Unit) h12 => slices_partitionCmpFunc_int_b8 s4.1 data dataL dataC a cmp j h12 nx0 nx1 K)) := by kernel_rfl
theorem slices_partitionCmpFunc_int_b8_eq (i : Int) (data : Option Addr) (dataL : Nat) (dataC : Nat) (a : Int) (cmp : Value) (j : Int) (h : Hp) (nx0 : Int × Int × Unit → Hp → Prop) (nx1 : Int × Unit → Hp → Prop) (K : Value → Hp → Prop) : slices_partitionCmpFunc_int_b8 i data dataL dataC a cmp j h nx0 nx1 K = (
  cond (decide (i ≤ j))
  ((0 ≤ i ∧ i < (dataL : Int)) ∧
  NN data fun a17 =>
  ∃ n11 : Int, cell h (a17.add (Int.toNat i * 1)) = some (.int .i64 n11) ∧
  (0 ≤ a ∧ a < (dataL : Int)) ∧
  NN data fun a18 =>
  ∃ n12 : Int, cell h (a18.add (Int.toNat a * 1)) = some (.int .i64 n12) ∧
  funV cmp fun fg3 fa3 fc3 => callX Tryz.prog F fg3 (fa3 ++ (([.int .i64 n11, .int .i64 n12] : List Value) ++ fc3)).toArray h fun v3 h13 => ∃ r3 : Int, v3 = .int .i64 r3 ∧
  cond (decide (r3 < 0))
  (slices_partitionCmpFunc_int_b9 data dataL dataC a cmp i j h13 nx0 nx1 K)
  (slices_partitionCmpFunc_int_b10 data dataL dataC a cmp i j h13 nx0 K))
  (slices_partitionCmpFunc_int_b10 data dataL dataC a cmp i j h nx0 K)) := by kernel_rfl
theorem slices_partitionCmpFunc_int_b9_eq (data : Option Addr) (dataL : Nat) (dataC : Nat) (a : Int) (cmp : Value) (i : Int) (j : Int) (h : Hp) (nx0 : Int × Int × Unit → Hp → Prop) (nx1 : Int × Unit → Hp → Prop) (K : Value → Hp → Prop) : slices_partitionCmpFunc_int_b9 data dataL dataC a cmp i j h nx0 nx1 K = (
  InR (i + 1) ∧
  nx1 (i + 1, ()) h) := by kernel_rfl
theorem slices_partitionCmpFunc_int_b10_eq (data : Option Addr) (dataL : Nat) (dataC : Nat) (a : Int) (cmp : Value) (i : Int) (j : Int) (h : Hp) (nx0 : Int × Int × Unit → Hp → Prop) (K : Value → Hp → Prop) : slices_partitionCmpFunc_int_b10 data dataL dataC a cmp i j h nx0 K = (
  LoopVC ((j, ()) : Int × Unit) h (fun (nx1 : Int × Unit → Hp → Prop) (s5 : Int × Unit) h14 => slices_partitionCmpFunc_int_b11 s5.1 data dataL dataC a cmp i h14 nx0 nx1 K)) := by kernel_rfl
theorem slices_partitionCmpFunc_int_b11_eq (j : Int) (data : Option Addr) (dataL : Nat) (dataC : Nat) (a : Int) (cmp : Value) (i : Int) (h : Hp) (nx0 : Int × Int × Unit → Hp → Prop) (nx1 : Int × Unit → Hp → Prop) (K : Value → Hp → Prop) : slices_partitionCmpFunc_int_b11 j data dataL dataC a cmp i h nx0 nx1 K = (
  cond (decide (i ≤ j))
  ((0 ≤ j ∧ j < (dataL : Int)) ∧
  NN data fun a19 =>
  ∃ n13 : Int, cell h (a19.add (Int.toNat j * 1)) = some (.int .i64 n13) ∧
  (0 ≤ a ∧ a < (dataL : Int)) ∧
  NN data fun a20 =>
  ∃ n14 : Int, cell h (a20.add (Int.toNat a * 1)) = some (.int .i64 n14) ∧
  funV cmp fun fg4 fa4 fc4 => callX Tryz.prog F fg4 (fa4 ++ (([.int .i64 n13, .int .i64 n14] : List Value) ++ fc4)).toArray h fun v4 h15 => ∃ r4 : Int, v4 = .int .i64 r4 ∧
  cond (!(decide (r4 < 0)))
  (slices_partitionCmpFunc_int_b12 data dataL dataC a cmp i j h15 nx0 nx1 K)
  (slices_partitionCmpFunc_int_b13 data dataL dataC a cmp i j h15 nx0 K))
  (slices_partitionCmpFunc_int_b13 data dataL dataC a cmp i j h nx0 K)) := by kernel_rfl
theorem slices_partitionCmpFunc_int_b12_eq (data : Option Addr) (dataL : Nat) (dataC : Nat) (a : Int) (cmp : Value) (i : Int) (j : Int) (h : Hp) (nx0 : Int × Int × Unit → Hp → Prop) (nx1 : Int × Unit → Hp → Prop) (K : Value → Hp → Prop) : slices_partitionCmpFunc_int_b12 data dataL dataC a cmp i j h nx0 nx1 K = (
  InR (j - 1) ∧
  nx1 (j - 1, ()) h) := by kernel_rfl
theorem slices_partitionCmpFunc_int_b13_eq (data : Option Addr) (dataL : Nat) (dataC : Nat) (a : Int) (cmp : Value) (i : Int) (j : Int) (h : Hp) (nx0 : Int × Int × Unit → Hp → Prop) (K : Value → Hp → Prop) : slices_partitionCmpFunc_int_b13 data dataL dataC a cmp i j h nx0 K = (
  cond (decide (j < i))
  (slices_partitionCmpFunc_int_b14 data dataL dataC a j h  K)
  ((0 ≤ j ∧ j < (dataL : Int)) ∧
  NN data fun a21 =>
  ∃ n15 : Int, cell h (a21.add (Int.toNat j * 1)) = some (.int .i64 n15) ∧
  (0 ≤ i ∧ i < (dataL : Int)) ∧
  NN data fun a22 =>
  ∃ n16 : Int, cell h (a22.add (Int.toNat i * 1)) = some (.int .i64 n16) ∧
  (0 ≤ i ∧ i < (dataL : Int)) ∧
  NN data fun a23 =>
  Wr h (a23.add (Int.toNat i * 1)) (.int .i64 n15) fun h16 =>
  (0 ≤ j ∧ j < (dataL : Int)) ∧
  NN data fun a24 =>
  Wr h16 (a24.add (Int.toNat j * 1)) (.int .i64 n16) fun h17 =>
  InR (i + 1) ∧
  InR (j - 1) ∧
  nx0 (i + 1, j - 1, ()) h17)) := by kernel_rfl
theorem slices_partitionCmpFunc_int_b14_eq (data : Option Addr) (dataL : Nat) (dataC : Nat) (a : Int) (j : Int) (h : Hp)  (K : Value → Hp → Prop) : slices_partitionCmpFunc_int_b14 data dataL dataC a j h  K = (
  (0 ≤ a ∧ a < (dataL : Int)) ∧
  NN data fun a25 =>
  ∃ n17 : Int, cell h (a25.add (Int.toNat a * 1)) = some (.int .i64 n17) ∧
  (0 ≤ j ∧ j < (dataL : Int)) ∧
  NN data fun a26 =>
  ∃ n18 : Int, cell h (a26.add (Int.toNat j * 1)) = some (.int .i64 n18) ∧
  (0 ≤ j ∧ j < (dataL : Int)) ∧
  NN data fun a27 =>
  Wr h (a27.add (Int.toNat j * 1)) (.int .i64 n17) fun h18 =>
  (0 ≤ a ∧ a < (dataL : Int)) ∧
  NN data fun a28 =>
  Wr h18 (a28.add (Int.toNat a * 1)) (.int .i64 n18) fun h19 =>
  K (.tuple #[.int .i64 j, .bool false]) h19) := by kernel_rfl
theorem slices_partitionCmpFunc_int_call {data : Option Addr} {dataL : Nat} {dataC : Nat} {a : Int} {b : Int} {pivot : Int} {cmp : Value} {h : Hp} {K : Value → Hp → Prop} (hk : slices_partitionCmpFunc_int_b0 data dataL dataC a b pivot cmp h K) : HCalls Tryz.prog 86 #[.slice data dataL dataC, .int .i64 a, .int .i64 b, .int .i64 pivot, cmp] h K :=
  calls_of_snd slices_partitionCmpFunc_int_an Tryz.func86 (c := bodyOf Tryz.f86) rfl Tryz.ntmps86 (Nat.le_of_ble_eq_true rfl) (snd_7 F_ok F_mixed) hk

/-! ### math_bits_Len32 -/
/-! ### math_bits_Len64 -/
def math_bits_Len64_an : Ann := .node none (.leaf) (.node (some [0, 2]) (.leaf) (.node (some [0, 2]) (.leaf) (.node (some [0, 2]) (.leaf) (.leaf))))
def math_bits_Len64_K0  (K : Value → Hp → Prop) : Exit → Env → Hp → Prop := retK Tryz.prog Tryz.f88.results.toList K
def math_bits_Len64_b0 (x : Int) (h : Hp)  (K : Value → Hp → Prop) : Prop :=
  sx_4 Tryz.prog F 25 (cp [] (bodyOf Tryz.f88)) (ap [] math_bits_Len64_an) [(0, .int .u64 x)] h (math_bits_Len64_K0  K)
def math_bits_Len64_b1 (x : Int) (nv : Int) (h : Hp)  (K : Value → Hp → Prop) : Prop :=
  sx_3 Tryz.prog F 25 (cp [1, 1] (bodyOf Tryz.f88)) (ap [1, 1] math_bits_Len64_an) [(0, .int .u64 x), (2, .int .i64 nv)] h (math_bits_Len64_K0  K)
def math_bits_Len64_b2 (x : Int) (nv : Int) (h : Hp)  (K : Value → Hp → Prop) : Prop :=
  sx_2 Tryz.prog F 25 (cp [1, 1, 1] (bodyOf Tryz.f88)) (ap [1, 1, 1] math_bits_Len64_an) [(0, .int .u64 x), (2, .int .i64 nv)] h (math_bits_Len64_K0  K)
def math_bits_Len64_b3 (x : Int) (nv : Int) (h : Hp)  (K : Value → Hp → Prop) : Prop :=
  sx_1 Tryz.prog F 25 (cp [1, 1, 1, 1] (bodyOf Tryz.f88)) (ap [1, 1, 1, 1] math_bits_Len64_an) [(0, .int .u64 x), (2, .int .i64 nv)] h (math_bits_Len64_K0  K)
theorem math_bits_Len64_b0_eq (x : Int) (h : Hp)  (K : Value → Hp → Prop) : math_bits_Len64_b0 x h  K = (
  cond (decide ((4294967296 : Int) ≤ x))
  (∃ sr1 : Int, Sx.Shr .u64 x 32 sr1 ∧
  math_bits_Len64_b1 sr1 32 h  K)
  (math_bits_Len64_b1 x 0 h  K)) := by kernel_rfl
theorem math_bits_Len64_b1_eq (x : Int) (nv : Int) (h : Hp)  (K : Value → Hp → Prop) : math_bits_Len64_b1 x nv h  K = (
  cond (decide ((65536 : Int) ≤ x))
  (∃ sr2 : Int, Sx.Shr .u64 x 16 sr2 ∧
  InR (nv + 16) ∧
  math_bits_Len64_b2 sr2 (nv + 16) h  K)
  (math_bits_Len64_b2 x nv h  K)) := by kernel_rfl
theorem math_bits_Len64_b2_eq (x : Int) (nv : Int) (h : Hp)  (K : Value → Hp → Prop) : math_bits_Len64_b2 x nv h  K = (
  cond (decide ((256 : Int) ≤ x))
  (∃ sr3 : Int, Sx.Shr .u64 x 8 sr3 ∧
  InR (nv + 8) ∧
  math_bits_Len64_b3 sr3 (nv + 8) h  K)
  (math_bits_Len64_b3 x nv h  K)) := by kernel_rfl
theorem math_bits_Len64_b3_eq (x : Int) (nv : Int) (h : Hp)  (K : Value → Hp → Prop) : math_bits_Len64_b3 x nv h  K = (
  (0 ≤ IntKind.u8.wrap x ∧ IntKind.u8.wrap x < ((⟨#[0, 1, 2, 2, 3, 3, 3, 3, 4, 4, 4, 4, 4, 4, 4, 4, 5, 5, 5, 5, 5, 5, 5, 5, 5, 5, 5, 5, 5, 5, 5, 5, 6, 6, 6, 6, 6, 6, 6, 6, 6, 6, 6, 6, 6, 6, 6, 6, 6, 6, 6, 6, 6, 6, 6, 6, 6, 6, 6, 6, 6, 6, 6, 6, 7, 7, 7, 7, 7, 7, 7, 7, 7, 7, 7, 7, 7, 7, 7, 7, 7, 7, 7, 7, 7, 7, 7, 7, 7, 7, 7, 7, 7, 7, 7, 7, 7, 7, 7, 7, 7, 7, 7, 7, 7, 7, 7, 7, 7, 7, 7, 7, 7, 7, 7, 7, 7, 7, 7, 7, 7, 7, 7, 7, 7, 7, 7, 7, 8, 8, 8, 8, 8, 8, 8, 8, 8, 8, 8, 8, 8, 8, 8, 8, 8, 8, 8, 8, 8, 8, 8, 8, 8, 8, 8, 8, 8, 8, 8, 8, 8, 8, 8, 8, 8, 8, 8, 8, 8, 8, 8, 8, 8, 8, 8, 8, 8, 8, 8, 8, 8, 8, 8, 8, 8, 8, 8, 8, 8, 8, 8, 8, 8, 8, 8, 8, 8, 8, 8, 8, 8, 8, 8, 8, 8, 8, 8, 8, 8, 8, 8, 8, 8, 8, 8, 8, 8, 8, 8, 8, 8, 8, 8, 8, 8, 8, 8, 8, 8, 8, 8, 8, 8, 8, 8, 8, 8, 8, 8, 8, 8, 8, 8, 8, 8, 8, 8, 8, 8, 8, 8, 8, 8, 8, 8, 8]⟩ : ByteArray).size : Int)) ∧
  InR (((⟨#[0, 1, 2, 2, 3, 3, 3, 3, 4, 4, 4, 4, 4, 4, 4, 4, 5, 5, 5, 5, 5, 5, 5, 5, 5, 5, 5, 5, 5, 5, 5, 5, 6, 6, 6, 6, 6, 6, 6, 6, 6, 6, 6, 6, 6, 6, 6, 6, 6, 6, 6, 6, 6, 6, 6, 6, 6, 6, 6, 6, 6, 6, 6, 6, 7, 7, 7, 7, 7, 7, 7, 7, 7, 7, 7, 7, 7, 7, 7, 7, 7, 7, 7, 7, 7, 7, 7, 7, 7, 7, 7, 7, 7, 7, 7, 7, 7, 7, 7, 7, 7, 7, 7, 7, 7, 7, 7, 7, 7, 7, 7, 7, 7, 7, 7, 7, 7, 7, 7, 7, 7, 7, 7, 7, 7, 7, 7, 7, 8, 8, 8, 8, 8, 8, 8, 8, 8, 8, 8, 8, 8, 8, 8, 8, 8, 8, 8, 8, 8, 8, 8, 8, 8, 8, 8, 8, 8, 8, 8, 8, 8, 8, 8, 8, 8, 8, 8, 8, 8, 8, 8, 8, 8, 8, 8, 8, 8, 8, 8, 8, 8, 8, 8, 8, 8, 8, 8, 8, 8, 8, 8, 8, 8, 8, 8, 8, 8, 8, 8, 8, 8, 8, 8, 8, 8, 8, 8, 8, 8, 8, 8, 8, 8, 8, 8, 8, 8, 8, 8, 8, 8, 8, 8, 8, 8, 8, 8, 8, 8, 8, 8, 8, 8, 8, 8, 8, 8, 8, 8, 8, 8, 8, 8, 8, 8, 8, 8, 8, 8, 8, 8, 8, 8, 8, 8, 8]⟩ : ByteArray).data.toList.getD (Int.toNat (IntKind.u8.wrap x)) 0).toNat : Int) ∧
  InR (nv + (((⟨#[0, 1, 2, 2, 3, 3, 3, 3, 4, 4, 4, 4, 4, 4, 4, 4, 5, 5, 5, 5, 5, 5, 5, 5, 5, 5, 5, 5, 5, 5, 5, 5, 6, 6, 6, 6, 6, 6, 6, 6, 6, 6, 6, 6, 6, 6, 6, 6, 6, 6, 6, 6, 6, 6, 6, 6, 6, 6, 6, 6, 6, 6, 6, 6, 7, 7, 7, 7, 7, 7, 7, 7, 7, 7, 7, 7, 7, 7, 7, 7, 7, 7, 7, 7, 7, 7, 7, 7, 7, 7, 7, 7, 7, 7, 7, 7, 7, 7, 7, 7, 7, 7, 7, 7, 7, 7, 7, 7, 7, 7, 7, 7, 7, 7, 7, 7, 7, 7, 7, 7, 7, 7, 7, 7, 7, 7, 7, 7, 8, 8, 8, 8, 8, 8, 8, 8, 8, 8, 8, 8, 8, 8, 8, 8, 8, 8, 8, 8, 8, 8, 8, 8, 8, 8, 8, 8, 8, 8, 8, 8, 8, 8, 8, 8, 8, 8, 8, 8, 8, 8, 8, 8, 8, 8, 8, 8, 8, 8, 8, 8, 8, 8, 8, 8, 8, 8, 8, 8, 8, 8, 8, 8, 8, 8, 8, 8, 8, 8, 8, 8, 8, 8, 8, 8, 8, 8, 8, 8, 8, 8, 8, 8, 8, 8, 8, 8, 8, 8, 8, 8, 8, 8, 8, 8, 8, 8, 8, 8, 8, 8, 8, 8, 8, 8, 8, 8, 8, 8, 8, 8, 8, 8, 8, 8, 8, 8, 8, 8, 8, 8, 8, 8, 8, 8, 8, 8]⟩ : ByteArray).data.toList.getD (Int.toNat (IntKind.u8.wrap x)) 0).toNat : Int)) ∧
  K (.int .i64 (nv + (((⟨#[0, 1, 2, 2, 3, 3, 3, 3, 4, 4, 4, 4, 4, 4, 4, 4, 5, 5, 5, 5, 5, 5, 5, 5, 5, 5, 5, 5, 5, 5, 5, 5, 6, 6, 6, 6, 6, 6, 6, 6, 6, 6, 6, 6, 6, 6, 6, 6, 6, 6, 6, 6, 6, 6, 6, 6, 6, 6, 6, 6, 6, 6, 6, 6, 7, 7, 7, 7, 7, 7, 7, 7, 7, 7, 7, 7, 7, 7, 7, 7, 7, 7, 7, 7, 7, 7, 7, 7, 7, 7, 7, 7, 7, 7, 7, 7, 7, 7, 7, 7, 7, 7, 7, 7, 7, 7, 7, 7, 7, 7, 7, 7, 7, 7, 7, 7, 7, 7, 7, 7, 7, 7, 7, 7, 7, 7, 7, 7, 8, 8, 8, 8, 8, 8, 8, 8, 8, 8, 8, 8, 8, 8, 8, 8, 8, 8, 8, 8, 8, 8, 8, 8, 8, 8, 8, 8, 8, 8, 8, 8, 8, 8, 8, 8, 8, 8, 8, 8, 8, 8, 8, 8, 8, 8, 8, 8, 8, 8, 8, 8, 8, 8, 8, 8, 8, 8, 8, 8, 8, 8, 8, 8, 8, 8, 8, 8, 8, 8, 8, 8, 8, 8, 8, 8, 8, 8, 8, 8, 8, 8, 8, 8, 8, 8, 8, 8, 8, 8, 8, 8, 8, 8, 8, 8, 8, 8, 8, 8, 8, 8, 8, 8, 8, 8, 8, 8, 8, 8, 8, 8, 8, 8, 8, 8, 8, 8, 8, 8, 8, 8, 8, 8, 8, 8, 8, 8]⟩ : ByteArray).data.toList.getD (Int.toNat (IntKind.u8.wrap x)) 0).toNat : Int))) h) := by kernel_rfl
theorem math_bits_Len64_call {x : Int} {h : Hp} {K : Value → Hp → Prop} (hk : math_bits_Len64_b0 x h K) : HCalls Tryz.prog 88 #[.int .u64 x] h K :=
  calls_of_snd math_bits_Len64_an Tryz.func88 (c := bodyOf Tryz.f88) rfl Tryz.ntmps88 (Nat.le_of_ble_eq_true rfl) (snd_4 F_ok F_mixed) hk

/-! ### slices_insertionSortOrdered_int -/
def slices_insertionSortOrdered_int_an : Ann := .node none (.leaf) (.loop [0, 1, 2] [(6, .int .i64)] (.node none (.leaf) (.node (some [0, 1, 2, 6]) (.node none (.leaf) (.loop [0, 1, 2, 6] [(7, .int .i64)] (.node (some [0, 1, 2, 6, 7]) (.leaf) (.node (some [0, 1, 2, 6, 7]) (.plan (.qu 0 (.qu 1 (.qu 2 (.qu 3 (.qu 4 (.qu 5 (.qu 6 (.qu 7 (.qu 8 (.qu 9 (.qu 10 (.qu 11 (.qu 12 (.qu 13 (.qu 14 (.wo 15 (.qu 16 (.wo 17 .fin .no)) .no))))))))))))))))) (.leaf))))) (.leaf))))
def slices_insertionSortOrdered_int_K0  (K : Value → Hp → Prop) : Exit → Env → Hp → Prop := retK Tryz.prog Tryz.f89.results.toList K
def slices_insertionSortOrdered_int_K1  (K : Value → Hp → Prop) : Exit → Env → Hp → Prop := blockE 0 (slices_insertionSortOrdered_int_K0  K)
def slices_insertionSortOrdered_int_K2 (nx0 : Int × Unit → Hp → Prop) (K : Value → Hp → Prop) : Exit → Env → Hp → Prop := thenE (fun env h => getV [(6, .int .i64)] env fun s => nx0 s h) (slices_insertionSortOrdered_int_K1  K)
def slices_insertionSortOrdered_int_K3 (nx0 : Int × Unit → Hp → Prop) (K : Value → Hp → Prop) : Exit → Env → Hp → Prop := thenE (fun env h => sx_3 Tryz.prog F 49 (cp [1, 2, 2, 1, 1] (bodyOf Tryz.f89)) (ap [1, 2, 1, 1] slices_insertionSortOrdered_int_an) (rs [0, 1, 2, 6] env) h (slices_insertionSortOrdered_int_K2 nx0 K)) (slices_insertionSortOrdered_int_K2 nx0 K)
def slices_insertionSortOrdered_int_K4 (nx0 : Int × Unit → Hp → Prop) (K : Value → Hp → Prop) : Exit → Env → Hp → Prop := blockE 1 (slices_insertionSortOrdered_int_K3 nx0 K)
def slices_insertionSortOrdered_int_K5 (nx0 : Int × Unit → Hp → Prop) (K : Value → Hp → Prop) : Exit → Env → Hp → Prop := blockE 2 (slices_insertionSortOrdered_int_K4 nx0 K)
def slices_insertionSortOrdered_int_K6 (nx0 : Int × Unit → Hp → Prop) (nx1 : Int × Unit → Hp → Prop) (K : Value → Hp → Prop) : Exit → Env → Hp → Prop := thenE (fun env h => getV [(7, .int .i64)] env fun s => nx1 s h) (slices_insertionSortOrdered_int_K5 nx0 K)
def slices_insertionSortOrdered_int_b0 (data : Option Addr) (dataL : Nat) (dataC : Nat) (a : Int) (b : Int) (h : Hp)  (K : Value → Hp → Prop) : Prop :=
  sx_5 Tryz.prog F 49 (cp [] (bodyOf Tryz.f89)) (ap [] slices_insertionSortOrdered_int_an) [(0, .slice data dataL dataC), (1, .int .i64 a), (2, .int .i64 b)] h (slices_insertionSortOrdered_int_K0  K)
def slices_insertionSortOrdered_int_b1 (i : Int) (data : Option Addr) (dataL : Nat) (dataC : Nat) (a : Int) (b : Int) (h : Hp) (nx0 : Int × Unit → Hp → Prop) (K : Value → Hp → Prop) : Prop :=
  sx_4 Tryz.prog F 49 (cp [1, 2, 2] (bodyOf Tryz.f89)) (ap [1, 2] slices_insertionSortOrdered_int_an) [(6, .int .i64 i), (0, .slice data dataL dataC), (1, .int .i64 a), (2, .int .i64 b)] h (slices_insertionSortOrdered_int_K2 nx0 K)
def slices_insertionSortOrdered_int_b2 (j : Int) (data : Option Addr) (dataL : Nat) (dataC : Nat) (a : Int) (b : Int) (i : Int) (h : Hp) (nx0 : Int × Unit → Hp → Prop) (nx1 : Int × Unit → Hp → Prop) (K : Value → Hp → Prop) : Prop :=
  sx_3 Tryz.prog F 49 (cp [1, 2, 2, 1, 0, 2, 1, 2, 2] (bodyOf Tryz.f89)) (ap [1, 2, 1, 0, 1, 2] slices_insertionSortOrdered_int_an) [(7, .int .i64 j), (0, .slice data dataL dataC), (1, .int .i64 a), (2, .int .i64 b), (6, .int .i64 i)] h (slices_insertionSortOrdered_int_K6 nx0 nx1 K)
def slices_insertionSortOrdered_int_b3 (data : Option Addr) (dataL : Nat) (dataC : Nat) (a : Int) (b : Int) (i : Int) (j : Int) (h : Hp) (nx0 : Int × Unit → Hp → Prop) (nx1 : Int × Unit → Hp → Prop) (K : Value → Hp → Prop) : Prop :=
  sx_2 Tryz.prog F 49 (cp [1, 2, 2, 1, 0, 2, 1, 2, 2, 1] (bodyOf Tryz.f89)) (ap [1, 2, 1, 0, 1, 2, 1] slices_insertionSortOrdered_int_an) [(0, .slice data dataL dataC), (1, .int .i64 a), (2, .int .i64 b), (6, .int .i64 i), (7, .int .i64 j)] h (slices_insertionSortOrdered_int_K6 nx0 nx1 K)
def slices_insertionSortOrdered_int_b4 (data : Option Addr) (dataL : Nat) (dataC : Nat) (a : Int) (b : Int) (i : Int) (h : Hp) (nx0 : Int × Unit → Hp → Prop) (K : Value → Hp → Prop) : Prop :=
  sx_3 Tryz.prog F 49 (cp [1, 2, 2, 1, 1] (bodyOf Tryz.f89)) (ap [1, 2, 1, 1] slices_insertionSortOrdered_int_an) [(0, .slice data dataL dataC), (1, .int .i64 a), (2, .int .i64 b), (6, .int .i64 i)] h (slices_insertionSortOrdered_int_K2 nx0 K)
def slices_insertionSortOrdered_int_b5 (data : Option Addr) (dataL : Nat) (dataC : Nat) (a : Int) (b : Int) (i : Int) (j : Int) (h : Hp) (nx0 : Int × Unit → Hp → Prop) (nx1 : Int × Unit → Hp → Prop) (K : Value → Hp → Prop) : Prop :=
  sx_1 Tryz.prog F 49 (cp [1, 2, 2, 1, 0, 2, 1, 2, 2, 1, 1] (bodyOf Tryz.f89)) (ap [1, 2, 1, 0, 1, 2, 1, 1] slices_insertionSortOrdered_int_an) [(0, .slice data dataL dataC), (1, .int .i64 a), (2, .int .i64 b), (6, .int .i64 i), (7, .int .i64 j)] h (slices_insertionSortOrdered_int_K6 nx0 nx1 K)
theorem slices_insertionSortOrdered_int_b0_eq (data : Option Addr) (dataL : Nat) (dataC : Nat) (a : Int) (b : Int) (h : Hp)  (K : Value → Hp → Prop) : slices_insertionSortOrdered_int_b0 data dataL dataC a b h  K = (
  InR (a + 1) ∧
  LoopVC ((a + 1, ()) : Int × Unit) h (fun (nx0 : Int × Unit → Hp → Prop) (s1 : Int × Unit) h1 => slices_insertionSortOrdered_int_b1 s1.1 data dataL dataC a b h1 nx0 K)) := by kernel_rfl
theorem slices_insertionSortOrdered_int_b1_eq (i : Int) (data : Option Addr) (dataL : Nat) (dataC : Nat) (a : Int) (b : Int) (h : Hp) (nx0 : Int × Unit → Hp → Prop) (K : Value → Hp → Prop) : slices_insertionSortOrdered_int_b1 i data dataL dataC a b h nx0 K = (
  cond (decide (i < b))
  (LoopVC ((i, ()) : Int × Unit) h (fun (nx1 : Int × Unit → Hp → Prop) (s2 : Int × Unit) h2 => slices_insertionSortOrdered_int_b2 s2.1 data dataL dataC a b i h2 nx0 nx1 K))
  (K (.tuple #[]) h)) := by kernel_rfl
theorem slices_insertionSortOrdered_int_b2_eq (j : Int) (data : Option Addr) (dataL : Nat) (dataC : Nat) (a : Int) (b : Int) (i : Int) (h : Hp) (nx0 : Int × Unit → Hp → Prop) (nx1 : Int × Unit → Hp → Prop) (K : Value → Hp → Prop) : slices_insertionSortOrdered_int_b2 j data dataL dataC a b i h nx0 nx1 K = (
  cond (decide (a < j))
  ((0 ≤ j ∧ j < (dataL : Int)) ∧
  NN data fun a1 =>
  ∃ n1 : Int, cell h (a1.add (Int.toNat j * 1)) = some (.int .i64 n1) ∧
  InR (j - 1) ∧
  (0 ≤ j - 1 ∧ j - 1 < (dataL : Int)) ∧
  NN data fun a2 =>
  ∃ n2 : Int, cell h (a2.add (Int.toNat (j - 1) * 1)) = some (.int .i64 n2) ∧
  ∃ r1 : Bool, HCalls Tryz.prog 95 #[.int .i64 n1, .int .i64 n2] h (fun v1 h3 => v1 = .bool r1 ∧ h3 = h) ∧
  cond r1
  (slices_insertionSortOrdered_int_b3 data dataL dataC a b i j h nx0 nx1 K)
  (slices_insertionSortOrdered_int_b4 data dataL dataC a b i h nx0 K))
  (slices_insertionSortOrdered_int_b4 data dataL dataC a b i h nx0 K)) := by kernel_rfl
theorem slices_insertionSortOrdered_int_b3_eq (data : Option Addr) (dataL : Nat) (dataC : Nat) (a : Int) (b : Int) (i : Int) (j : Int) (h : Hp) (nx0 : Int × Unit → Hp → Prop) (nx1 : Int × Unit → Hp → Prop) (K : Value → Hp → Prop) : slices_insertionSortOrdered_int_b3 data dataL dataC a b i j h nx0 nx1 K = (
  InR (j - 1) ∧
  InR (j - 1) ∧
  (0 ≤ j - 1 ∧ j - 1 < (dataL : Int)) ∧
  NN data fun a3 =>
  ∃ n3 : Int, cell h (a3.add (Int.toNat (j - 1) * 1)) = some (.int .i64 n3) ∧
  (0 ≤ j ∧ j < (dataL : Int)) ∧
  NN data fun a4 =>
  ∃ n4 : Int, cell h (a4.add (Int.toNat j * 1)) = some (.int .i64 n4) ∧
  (0 ≤ j ∧ j < (dataL : Int)) ∧
  NN data fun a5 =>
  Wr h (a5.add (Int.toNat j * 1)) (.int .i64 n3) fun h4 =>
  (0 ≤ j - 1 ∧ j - 1 < (dataL : Int)) ∧
  NN data fun a6 =>
  Wr h4 (a6.add (Int.toNat (j - 1) * 1)) (.int .i64 n4) fun h5 =>
  slices_insertionSortOrdered_int_b5 data dataL dataC a b i j h5 nx0 nx1 K) := by kernel_rfl
theorem slices_insertionSortOrdered_int_b4_eq (data : Option Addr) (dataL : Nat) (dataC : Nat) (a : Int) (b : Int) (i : Int) (h : Hp) (nx0 : Int × Unit → Hp → Prop) (K : Value → Hp → Prop) : slices_insertionSortOrdered_int_b4 data dataL dataC a b i h nx0 K = (
  InR (i + 1) ∧
  nx0 (i + 1, ()) h) := by kernel_rfl
theorem slices_insertionSortOrdered_int_b5_eq (data : Option Addr) (dataL : Nat) (dataC : Nat) (a : Int) (b : Int) (i : Int) (j : Int) (h : Hp) (nx0 : Int × Unit → Hp → Prop) (nx1 : Int × Unit → Hp → Prop) (K : Value → Hp → Prop) : slices_insertionSortOrdered_int_b5 data dataL dataC a b i j h nx0 nx1 K = (
  InR (j - 1) ∧
  nx1 (j - 1, ()) h) := by kernel_rfl
theorem slices_insertionSortOrdered_int_call {data : Option Addr} {dataL : Nat} {dataC : Nat} {a : Int} {b : Int} {h : Hp} {K : Value → Hp → Prop} (hk : slices_insertionSortOrdered_int_b0 data dataL dataC a b h K) : HCalls Tryz.prog 89 #[.slice data dataL dataC, .int .i64 a, .int .i64 b] h K :=
  calls_of_snd slices_insertionSortOrdered_int_an Tryz.func89 (c := bodyOf Tryz.f89) rfl Tryz.ntmps89 (Nat.le_of_ble_eq_true rfl) (snd_5 F_ok F_mixed) hk

/-! ### slices_heapSortOrdered_int -/
def slices_heapSortOrdered_int_an : Ann := .node none (.leaf) (.node none (.leaf) (.node none (.leaf) (.node (some [0, 6, 7, 8]) (.node none (.leaf) (.loop [0, 6, 7, 8] [(9, .int .i64)] (.node none (.leaf) (.node (some [0, 6, 7, 8, 9]) (.leaf) (.leaf))))) (.node none (.leaf) (.loop [0, 6, 7] [(10, .int .i64)] (.node none (.leaf) (.node (some [0, 6, 7, 10]) (.node none (.plan (.qu 0 (.qu 1 (.qu 2 (.qu 3 (.qu 4 (.qu 5 (.qu 6 (.qu 7 (.qu 8 (.qu 9 (.qu 10 (.qu 11 (.qu 12 (.qu 13 (.qu 14 (.qu 15 (.qu 16 (.wo 17 (.qu 18 (.wo 19 .fin .no)) .no))))))))))))))))))) (.leaf)) (.leaf))))))))
def slices_heapSortOrdered_int_K0  (K : Value → Hp → Prop) : Exit → Env → Hp → Prop := retK Tryz.prog Tryz.f90.results.toList K
def slices_heapSortOrdered_int_K1  (K : Value → Hp → Prop) : Exit → Env → Hp → Prop := thenE (fun env h => sx_3 Tryz.prog F 56 (cp [1, 1, 1, 1] (bodyOf Tryz.f90)) (ap [1, 1, 1, 1] slices_heapSortOrdered_int_an) (rs [0, 6, 7, 8] env) h (slices_heapSortOrdered_int_K0  K)) (slices_heapSortOrdered_int_K0  K)
def slices_heapSortOrdered_int_K2  (K : Value → Hp → Prop) : Exit → Env → Hp → Prop := blockE 0 (slices_heapSortOrdered_int_K1  K)
def slices_heapSortOrdered_int_K3 (nx0 : Int × Unit → Hp → Prop) (K : Value → Hp → Prop) : Exit → Env → Hp → Prop := thenE (fun env h => getV [(9, .int .i64)] env fun s => nx0 s h) (slices_heapSortOrdered_int_K2  K)
def slices_heapSortOrdered_int_K4  (K : Value → Hp → Prop) : Exit → Env → Hp → Prop := blockE 2 (slices_heapSortOrdered_int_K0  K)
def slices_heapSortOrdered_int_K5 (nx0 : Int × Unit → Hp → Prop) (K : Value → Hp → Prop) : Exit → Env → Hp → Prop := thenE (fun env h => getV [(10, .int .i64)] env fun s => nx0 s h) (slices_heapSortOrdered_int_K4  K)
def slices_heapSortOrdered_int_b0 (data : Option Addr) (dataL : Nat) (dataC : Nat) (a : Int) (b : Int) (h : Hp)  (K : Value → Hp → Prop) : Prop :=
  sx_4 Tryz.prog F 56 (cp [] (bodyOf Tryz.f90)) (ap [] slices_heapSortOrdered_int_an) [(0, .slice data dataL dataC), (1, .int .i64 a), (2, .int .i64 b)] h (slices_heapSortOrdered_int_K0  K)
def slices_heapSortOrdered_int_b1 (i : Int) (data : Option Addr) (dataL : Nat) (dataC : Nat) (first : Int) (lo : Int) (hi : Int) (h : Hp) (nx0 : Int × Unit → Hp → Prop) (K : Value → Hp → Prop) : Prop :=
  sx_3 Tryz.prog F 56 (cp [1, 1, 1, 0, 1, 2, 2] (bodyOf Tryz.f90)) (ap [1, 1, 1, 0, 1, 2] slices_heapSortOrdered_int_an) [(9, .int .i64 i), (0, .slice data dataL dataC), (6, .int .i64 first), (7, .int .i64 lo), (8, .int .i64 hi)] h (slices_heapSortOrdered_int_K3 nx0 K)
def slices_heapSortOrdered_int_b2 (data : Option Addr) (dataL : Nat) (dataC : Nat) (first : Int) (lo : Int) (hi : Int) (i : Int) (h : Hp) (nx0 : Int × Unit → Hp → Prop) (K : Value → Hp → Prop) : Prop :=
  sx_2 Tryz.prog F 56 (cp [1, 1, 1, 0, 1, 2, 2, 1, 1] (bodyOf Tryz.f90)) (ap [1, 1, 1, 0, 1, 2, 1, 1] slices_heapSortOrdered_int_an) [(0, .slice data dataL dataC), (6, .int .i64 first), (7, .int .i64 lo), (8, .int .i64 hi), (9, .int .i64 i)] h (slices_heapSortOrdered_int_K3 nx0 K)
def slices_heapSortOrdered_int_b3 (data : Option Addr) (dataL : Nat) (dataC : Nat) (first : Int) (lo : Int) (hi : Int) (h : Hp)  (K : Value → Hp → Prop) : Prop :=
  sx_3 Tryz.prog F 56 (cp [1, 1, 1, 1] (bodyOf Tryz.f90)) (ap [1, 1, 1, 1] slices_heapSortOrdered_int_an) [(0, .slice data dataL dataC), (6, .int .i64 first), (7, .int .i64 lo), (8, .int .i64 hi)] h (slices_heapSortOrdered_int_K0  K)
def slices_heapSortOrdered_int_b4 (i : Int) (data : Option Addr) (dataL : Nat) (dataC : Nat) (first : Int) (lo : Int) (h : Hp) (nx0 : Int × Unit → Hp → Prop) (K : Value → Hp → Prop) : Prop :=
  sx_2 Tryz.prog F 56 (cp [1, 1, 1, 1, 1, 2, 2] (bodyOf Tryz.f90)) (ap [1, 1, 1, 1, 1, 2] slices_heapSortOrdered_int_an) [(10, .int .i64 i), (0, .slice data dataL dataC), (6, .int .i64 first), (7, .int .i64 lo)] h (slices_heapSortOrdered_int_K5 nx0 K)
def slices_heapSortOrdered_int_b5 (data : Option Addr) (dataL : Nat) (dataC : Nat) (first : Int) (lo : Int) (i : Int) (h : Hp) (nx0 : Int × Unit → Hp → Prop) (K : Value → Hp → Prop) : Prop :=
  sx_1 Tryz.prog F 56 (cp [1, 1, 1, 1, 1, 2, 2, 1, 1] (bodyOf Tryz.f90)) (ap [1, 1, 1, 1, 1, 2, 1, 1] slices_heapSortOrdered_int_an) [(0, .slice data dataL dataC), (6, .int .i64 first), (7, .int .i64 lo), (10, .int .i64 i)] h (slices_heapSortOrdered_int_K5 nx0 K)
theorem slices_heapSortOrdered_int_b0_eq (data : Option Addr) (dataL : Nat) (dataC : Nat) (a : Int) (b : Int) (h : Hp)  (K : Value → Hp → Prop) : slices_heapSortOrdered_int_b0 data dataL dataC a b h  K = (
  InR (b - a) ∧
  InR ((b - a) - 1) ∧
  ∃ q1 : Int, Sx.Quo .i64 ((b - a) - 1) 2 q1 ∧
  LoopVC ((q1, ()) : Int × Unit) h (fun (nx0 : Int × Unit → Hp → Prop) (s1 : Int × Unit) h1 => slices_heapSortOrdered_int_b1 s1.1 data dataL dataC a 0 (b - a) h1 nx0 K)) := by kernel_rfl
theorem slices_heapSortOrdered_int_b1_eq (i : Int) (data : Option Addr) (dataL : Nat) (dataC : Nat) (first : Int) (lo : Int) (hi : Int) (h : Hp) (nx0 : Int × Unit → Hp → Prop) (K : Value → Hp → Prop) : slices_heapSortOrdered_int_b1 i data dataL dataC first lo hi h nx0 K = (
  cond (decide ((0 : Int) ≤ i))
  (HCalls Tryz.prog 105 #[.slice data dataL dataC, .int .i64 i, .int .i64 hi, .int .i64 first] h fun v1 h2 => v1 = .tuple #[] ∧
  slices_heapSortOrdered_int_b2 data dataL dataC first lo hi i h2 nx0 K)
  (slices_heapSortOrdered_int_b3 data dataL dataC first lo hi h  K)) := by kernel_rfl
theorem slices_heapSortOrdered_int_b2_eq (data : Option Addr) (dataL : Nat) (dataC : Nat) (first : Int) (lo : Int) (hi : Int) (i : Int) (h : Hp) (nx0 : Int × Unit → Hp → Prop) (K : Value → Hp → Prop) : slices_heapSortOrdered_int_b2 data dataL dataC first lo hi i h nx0 K = (
  InR (i - 1) ∧
  nx0 (i - 1, ()) h) := by kernel_rfl
theorem slices_heapSortOrdered_int_b3_eq (data : Option Addr) (dataL : Nat) (dataC : Nat) (first : Int) (lo : Int) (hi : Int) (h : Hp)  (K : Value → Hp → Prop) : slices_heapSortOrdered_int_b3 data dataL dataC first lo hi h  K = (
  InR (hi - 1) ∧
  LoopVC ((hi - 1, ()) : Int × Unit) h (fun (nx0 : Int × Unit → Hp → Prop) (s2 : Int × Unit) h3 => slices_heapSortOrdered_int_b4 s2.1 data dataL dataC first lo h3 nx0 K)) := by kernel_rfl
theorem slices_heapSortOrdered_int_b4_eq (i : Int) (data : Option Addr) (dataL : Nat) (dataC : Nat) (first : Int) (lo : Int) (h : Hp) (nx0 : Int × Unit → Hp → Prop) (K : Value → Hp → Prop) : slices_heapSortOrdered_int_b4 i data dataL dataC first lo h nx0 K = (
  cond (decide ((0 : Int) ≤ i))
  (InR (first + i) ∧
  InR (first + i) ∧
  (0 ≤ first + i ∧ first + i < (dataL : Int)) ∧
  NN data fun a1 =>
  ∃ n1 : Int, cell h (a1.add (Int.toNat (first + i) * 1)) = some (.int .i64 n1) ∧
  (0 ≤ first ∧ first < (dataL : Int)) ∧
  NN data fun a2 =>
  ∃ n2 : Int, cell h (a2.add (Int.toNat first * 1)) = some (.int .i64 n2) ∧
  (0 ≤ first ∧ first < (dataL : Int)) ∧
  NN data fun a3 =>
  Wr h (a3.add (Int.toNat first * 1)) (.int .i64 n1) fun h4 =>
  (0 ≤ first + i ∧ first + i < (dataL : Int)) ∧
  NN data fun a4 =>
  Wr h4 (a4.add (Int.toNat (first + i) * 1)) (.int .i64 n2) fun h5 =>
  HCalls Tryz.prog 105 #[.slice data dataL dataC, .int .i64 lo, .int .i64 i, .int .i64 first] h5 fun v2 h6 => v2 = .tuple #[] ∧
  slices_heapSortOrdered_int_b5 data dataL dataC first lo i h6 nx0 K)
  (K (.tuple #[]) h)) := by kernel_rfl
theorem slices_heapSortOrdered_int_b5_eq (data : Option Addr) (dataL : Nat) (dataC : Nat) (first : Int) (lo : Int) (i : Int) (h : Hp) (nx0 : Int × Unit → Hp → Prop) (K : Value → Hp → Prop) : slices_heapSortOrdered_int_b5 data dataL dataC first lo i h nx0 K = (
  InR (i - 1) ∧
  nx0 (i - 1, ()) h) := by kernel_rfl
theorem slices_heapSortOrdered_int_call {data : Option Addr} {dataL : Nat} {dataC : Nat} {a : Int} {b : Int} {h : Hp} {K : Value → Hp → Prop} (hk : slices_heapSortOrdered_int_b0 data dataL dataC a b h K) : HCalls Tryz.prog 90 #[.slice data dataL dataC, .int .i64 a, .int .i64 b] h K :=
  calls_of_snd slices_heapSortOrdered_int_an Tryz.func90 (c := bodyOf Tryz.f90) rfl Tryz.ntmps90 (Nat.le_of_ble_eq_true rfl) (snd_4 F_ok F_mixed) hk

/-! ### slices_breakPatternsOrdered_int -/
def slices_breakPatternsOrdered_int_an : Ann := .node none (.leaf) (.node none (.leaf) (.node none (.node none (.leaf) (.node none (.leaf) (.node none (.leaf) (.loop [0, 1, 6, 7, 8] [(9, .int .i64)] (.node none (.leaf) (.node (some [0, 1, 6, 7, 8, 9]) (.node none (.leaf) (.node (some [0, 1, 6, 7, 8, 9, 10]) (.leaf) (.plan (.qu 0 (.qu 1 (.qu 2 (.qu 3 (.qu 4 (.qu 5 (.qu 6 (.qu 7 (.qu 8 (.qu 9 (.qu 10 (.qu 11 (.qu 12 (.qu 13 (.qu 14 (.qu 15 (.qu 16 (.wo 17 (.qu 18 (.wo 19 .fin .no)) .no))))))))))))))))))))) (.leaf))))))) (.leaf)))
def slices_breakPatternsOrdered_int_K0  (K : Value → Hp → Prop) : Exit → Env → Hp → Prop := retK Tryz.prog Tryz.f91.results.toList K
def slices_breakPatternsOrdered_int_K1  (K : Value → Hp → Prop) : Exit → Env → Hp → Prop := blockE 0 (slices_breakPatternsOrdered_int_K0  K)
def slices_breakPatternsOrdered_int_K2 (nx0 : Int × Unit → Hp → Prop) (K : Value → Hp → Prop) : Exit → Env → Hp → Prop := thenE (fun env h => getV [(9, .int .i64)] env fun s => nx0 s h) (slices_breakPatternsOrdered_int_K1  K)
def slices_breakPatternsOrdered_int_K3 (nx0 : Int × Unit → Hp → Prop) (K : Value → Hp → Prop) : Exit → Env → Hp → Prop := thenE (fun env h => sx_1 Tryz.prog F 65 (cp [1, 1, 0, 1, 1, 1, 2, 2, 1, 1] (bodyOf Tryz.f91)) (ap [1, 1, 0, 1, 1, 1, 2, 1, 1] slices_breakPatternsOrdered_int_an) (rs [0, 1, 6, 7, 8, 9] env) h (slices_breakPatternsOrdered_int_K2 nx0 K)) (slices_breakPatternsOrdered_int_K2 nx0 K)
def slices_breakPatternsOrdered_int_K4 (nx0 : Int × Unit → Hp → Prop) (K : Value → Hp → Prop) : Exit → Env → Hp → Prop := blockE 1 (slices_breakPatternsOrdered_int_K3 nx0 K)
def slices_breakPatternsOrdered_int_b0 (data : Option Addr) (dataL : Nat) (dataC : Nat) (a : Int) (b : Int) (h : Hp)  (K : Value → Hp → Prop) : Prop :=
  sx_3 Tryz.prog F 65 (cp [] (bodyOf Tryz.f91)) (ap [] slices_breakPatternsOrdered_int_an) [(0, .slice data dataL dataC), (1, .int .i64 a), (2, .int .i64 b)] h (slices_breakPatternsOrdered_int_K0  K)
def slices_breakPatternsOrdered_int_b1 (idx : Int) (data : Option Addr) (dataL : Nat) (dataC : Nat) (a : Int) (length : Int) (random : Option Addr) (modulus : Int) (h : Hp) (nx0 : Int × Unit → Hp → Prop) (K : Value → Hp → Prop) : Prop :=
  sx_2 Tryz.prog F 65 (cp [1, 1, 0, 1, 1, 1, 2, 2] (bodyOf Tryz.f91)) (ap [1, 1, 0, 1, 1, 1, 2] slices_breakPatternsOrdered_int_an) [(9, .int .i64 idx), (0, .slice data dataL dataC), (1, .int .i64 a), (6, .int .i64 length), (7, .pointer random), (8, .int .u64 modulus)] h (slices_breakPatternsOrdered_int_K2 nx0 K)
def slices_breakPatternsOrdered_int_b2 (data : Option Addr) (dataL : Nat) (dataC : Nat) (a : Int) (length : Int) (random : Option Addr) (modulus : Int) (idx : Int) (other : Int) (h : Hp) (nx0 : Int × Unit → Hp → Prop) (K : Value → Hp → Prop) : Prop :=
  sx_1 Tryz.prog F 65 (cp [1, 1, 0, 1, 1, 1, 2, 2, 1, 0, 2, 1, 1] (bodyOf Tryz.f91)) (ap [1, 1, 0, 1, 1, 1, 2, 1, 0, 1, 1] slices_breakPatternsOrdered_int_an) [(0, .slice data dataL dataC), (1, .int .i64 a), (6, .int .i64 length), (7, .pointer random), (8, .int .u64 modulus), (9, .int .i64 idx), (10, .int .i64 other)] h (slices_breakPatternsOrdered_int_K4 nx0 K)
def slices_breakPatternsOrdered_int_b3 (data : Option Addr) (dataL : Nat) (dataC : Nat) (a : Int) (length : Int) (random : Option Addr) (modulus : Int) (idx : Int) (h : Hp) (nx0 : Int × Unit → Hp → Prop) (K : Value → Hp → Prop) : Prop :=
  sx_1 Tryz.prog F 65 (cp [1, 1, 0, 1, 1, 1, 2, 2, 1, 1] (bodyOf Tryz.f91)) (ap [1, 1, 0, 1, 1, 1, 2, 1, 1] slices_breakPatternsOrdered_int_an) [(0, .slice data dataL dataC), (1, .int .i64 a), (6, .int .i64 length), (7, .pointer random), (8, .int .u64 modulus), (9, .int .i64 idx)] h (slices_breakPatternsOrdered_int_K2 nx0 K)
theorem slices_breakPatternsOrdered_int_b0_eq (data : Option Addr) (dataL : Nat) (dataC : Nat) (a : Int) (b : Int) (h : Hp)  (K : Value → Hp → Prop) : slices_breakPatternsOrdered_int_b0 data dataL dataC a b h  K = (
  InR (b - a) ∧
  cond (decide ((8 : Int) ≤ (b - a)))
  (New h (.cells #[.int .u64 0] 139) fun b1 h1 =>
  Wr h1 ⟨b1, 0, none⟩ (.int .u64 (IntKind.u64.wrap (b - a))) fun h2 =>
  HCalls Tryz.prog 101 #[.int .i64 (b - a)] h2 fun v1 h3 => ∃ r1 : Int, v1 = .int .u64 r1 ∧
  ∃ q1 : Int, Sx.Quo .i64 (b - a) 4 q1 ∧
  InR (q1 * 2) ∧
  InR (a + (q1 * 2)) ∧
  InR ((a + (q1 * 2)) - 1) ∧
  LoopVC (((a + (q1 * 2)) - 1, ()) : Int × Unit) h3 (fun (nx0 : Int × Unit → Hp → Prop) (s1 : Int × Unit) h4 => slices_breakPatternsOrdered_int_b1 s1.1 data dataL dataC a (b - a) (some ⟨b1, 0, none⟩) r1 h4 nx0 K))
  (K (.tuple #[]) h)) := by kernel_rfl
theorem slices_breakPatternsOrdered_int_b1_eq (idx : Int) (data : Option Addr) (dataL : Nat) (dataC : Nat) (a : Int) (length : Int) (random : Option Addr) (modulus : Int) (h : Hp) (nx0 : Int × Unit → Hp → Prop) (K : Value → Hp → Prop) : slices_breakPatternsOrdered_int_b1 idx data dataL dataC a length random modulus h nx0 K = (
  ∃ q2 : Int, Sx.Quo .i64 length 4 q2 ∧
  InR (q2 * 2) ∧
  InR (a + (q2 * 2)) ∧
  InR ((a + (q2 * 2)) + 1) ∧
  cond (decide (idx ≤ ((a + (q2 * 2)) + 1)))
  (HCalls Tryz.prog 102 #[.pointer random] h fun v2 h5 => ∃ r2 : Int, v2 = .int .u64 r2 ∧
  ∃ an1 : Int, Sx.And .u64 r2 (IntKind.u64.wrap (modulus - 1)) an1 ∧
  InR an1 ∧
  cond (decide (length ≤ an1))
  (InR (an1 - length) ∧
  slices_breakPatternsOrdered_int_b2 data dataL dataC a length random modulus idx (an1 - length) h5 nx0 K)
  (slices_breakPatternsOrdered_int_b2 data dataL dataC a length random modulus idx an1 h5 nx0 K))
  (K (.tuple #[]) h)) := by kernel_rfl
theorem slices_breakPatternsOrdered_int_b2_eq (data : Option Addr) (dataL : Nat) (dataC : Nat) (a : Int) (length : Int) (random : Option Addr) (modulus : Int) (idx : Int) (other : Int) (h : Hp) (nx0 : Int × Unit → Hp → Prop) (K : Value → Hp → Prop) : slices_breakPatternsOrdered_int_b2 data dataL dataC a length random modulus idx other h nx0 K = (
  InR (a + other) ∧
  InR (a + other) ∧
  (0 ≤ a + other ∧ a + other < (dataL : Int)) ∧
  NN data fun a1 =>
  ∃ n1 : Int, cell h (a1.add (Int.toNat (a + other) * 1)) = some (.int .i64 n1) ∧
  (0 ≤ idx ∧ idx < (dataL : Int)) ∧
  NN data fun a2 =>
  ∃ n2 : Int, cell h (a2.add (Int.toNat idx * 1)) = some (.int .i64 n2) ∧
  (0 ≤ idx ∧ idx < (dataL : Int)) ∧
  NN data fun a3 =>
  Wr h (a3.add (Int.toNat idx * 1)) (.int .i64 n1) fun h6 =>
  (0 ≤ a + other ∧ a + other < (dataL : Int)) ∧
  NN data fun a4 =>
  Wr h6 (a4.add (Int.toNat (a + other) * 1)) (.int .i64 n2) fun h7 =>
  slices_breakPatternsOrdered_int_b3 data dataL dataC a length random modulus idx h7 nx0 K) := by kernel_rfl
theorem slices_breakPatternsOrdered_int_b3_eq (data : Option Addr) (dataL : Nat) (dataC : Nat) (a : Int) (length : Int) (random : Option Addr) (modulus : Int) (idx : Int) (h : Hp) (nx0 : Int × Unit → Hp → Prop) (K : Value → Hp → Prop) : slices_breakPatternsOrdered_int_b3 data dataL dataC a length random modulus idx h nx0 K = (
  InR (idx + 1) ∧
  nx0 (idx + 1, ()) h) := by kernel_rfl
theorem slices_breakPatternsOrdered_int_call {data : Option Addr} {dataL : Nat} {dataC : Nat} {a : Int} {b : Int} {h : Hp} {K : Value → Hp → Prop} (hk : slices_breakPatternsOrdered_int_b0 data dataL dataC a b h K) : HCalls Tryz.prog 91 #[.slice data dataL dataC, .int .i64 a, .int .i64 b] h K :=
  calls_of_snd slices_breakPatternsOrdered_int_an Tryz.func91 (c := bodyOf Tryz.f91) rfl Tryz.ntmps91 (Nat.le_of_ble_eq_true rfl) (snd_3 F_ok F_mixed) hk

/-! ### slices_choosePivotOrdered_int -/
def slices_choosePivotOrdered_int_an : Ann := .node none (.leaf) (.node none (.leaf) (.node none (.leaf) (.node none (.leaf) (.node none (.leaf) (.node none (.leaf) (.node (some [9, 11]) (.node none (.leaf) (.node none (.node (some [0, 9, 10, 11, 12]) (.leaf) (.leaf)) (.leaf))) (.leaf)))))))
def slices_choosePivotOrdered_int_K0  (K : Value → Hp → Prop) : Exit → Env → Hp → Prop := retK Tryz.prog Tryz.f92.results.toList K
def slices_choosePivotOrdered_int_K1  (K : Value → Hp → Prop) : Exit → Env → Hp → Prop := thenE (fun env h => sx_1 Tryz.prog F 57 (cp [1, 1, 1, 1, 1, 1, 1] (bodyOf Tryz.f92)) (ap [1, 1, 1, 1, 1, 1, 1] slices_choosePivotOrdered_int_an) (rs [9, 11] env) h (slices_choosePivotOrdered_int_K0  K)) (slices_choosePivotOrdered_int_K0  K)
def slices_choosePivotOrdered_int_b0 (data : Option Addr) (dataL : Nat) (dataC : Nat) (a : Int) (b : Int) (h : Hp)  (K : Value → Hp → Prop) : Prop :=
  sx_2 Tryz.prog F 57 (cp [] (bodyOf Tryz.f92)) (ap [] slices_choosePivotOrdered_int_an) [(0, .slice data dataL dataC), (1, .int .i64 a), (2, .int .i64 b)] h (slices_choosePivotOrdered_int_K0  K)
def slices_choosePivotOrdered_int_b1 (data : Option Addr) (dataL : Nat) (dataC : Nat) (swaps : Option Addr) (i : Int) (j : Int) (k : Int) (h : Hp)  (K : Value → Hp → Prop) : Prop :=
  sx_1 Tryz.prog F 57 (cp [1, 1, 1, 1, 1, 1, 0, 1, 0, 1] (bodyOf Tryz.f92)) (ap [1, 1, 1, 1, 1, 1, 0, 1, 0, 1] slices_choosePivotOrdered_int_an) [(0, .slice data dataL dataC), (9, .pointer swaps), (10, .int .i64 i), (11, .int .i64 j), (12, .int .i64 k)] h (slices_choosePivotOrdered_int_K1  K)
def slices_choosePivotOrdered_int_b2 (swaps : Option Addr) (j : Int) (h : Hp)  (K : Value → Hp → Prop) : Prop :=
  sx_1 Tryz.prog F 57 (cp [1, 1, 1, 1, 1, 1, 1] (bodyOf Tryz.f92)) (ap [1, 1, 1, 1, 1, 1, 1] slices_choosePivotOrdered_int_an) [(9, .pointer swaps), (11, .int .i64 j)] h (slices_choosePivotOrdered_int_K0  K)
theorem slices_choosePivotOrdered_int_b0_eq (data : Option Addr) (dataL : Nat) (dataC : Nat) (a : Int) (b : Int) (h : Hp)  (K : Value → Hp → Prop) : slices_choosePivotOrdered_int_b0 data dataL dataC a b h  K = (
  InR (b - a) ∧
  New h (.cells #[.int .i64 0] 3) fun b1 h1 =>
  ∃ q1 : Int, Sx.Quo .i64 (b - a) 4 q1 ∧
  InR (q1 * 1) ∧
  InR (a + (q1 * 1)) ∧
  ∃ q2 : Int, Sx.Quo .i64 (b - a) 4 q2 ∧
  InR (q2 * 2) ∧
  InR (a + (q2 * 2)) ∧
  ∃ q3 : Int, Sx.Quo .i64 (b - a) 4 q3 ∧
  InR (q3 * 3) ∧
  InR (a + (q3 * 3)) ∧
  cond (decide ((8 : Int) ≤ (b - a)))
  (cond (decide ((50 : Int) ≤ (b - a)))
  (HCalls Tryz.prog 106 #[.slice data dataL dataC, .int .i64 (a + (q1 * 1)), .pointer (some ⟨b1, 0, none⟩)] h1 fun v1 h2 => ∃ r1 : Int, v1 = .int .i64 r1 ∧
  HCalls Tryz.prog 106 #[.slice data dataL dataC, .int .i64 (a + (q2 * 2)), .pointer (some ⟨b1, 0, none⟩)] h2 fun v2 h3 => ∃ r2 : Int, v2 = .int .i64 r2 ∧
  HCalls Tryz.prog 106 #[.slice data dataL dataC, .int .i64 (a + (q3 * 3)), .pointer (some ⟨b1, 0, none⟩)] h3 fun v3 h4 => ∃ r3 : Int, v3 = .int .i64 r3 ∧
  slices_choosePivotOrdered_int_b1 data dataL dataC (some ⟨b1, 0, none⟩) r1 r2 r3 h4  K)
  (slices_choosePivotOrdered_int_b1 data dataL dataC (some ⟨b1, 0, none⟩) (a + (q1 * 1)) (a + (q2 * 2)) (a + (q3 * 3)) h1  K))
  (slices_choosePivotOrdered_int_b2 (some ⟨b1, 0, none⟩) (a + (q2 * 2)) h1  K)) := by kernel_rfl
theorem slices_choosePivotOrdered_int_b1_eq (data : Option Addr) (dataL : Nat) (dataC : Nat) (swaps : Option Addr) (i : Int) (j : Int) (k : Int) (h : Hp)  (K : Value → Hp → Prop) : slices_choosePivotOrdered_int_b1 data dataL dataC swaps i j k h  K = (
  HCalls Tryz.prog 107 #[.slice data dataL dataC, .int .i64 i, .int .i64 j, .int .i64 k, .pointer swaps] h fun v4 h5 => ∃ r4 : Int, v4 = .int .i64 r4 ∧
  slices_choosePivotOrdered_int_b2 swaps r4 h5  K) := by kernel_rfl
theorem slices_choosePivotOrdered_int_b2_eq (swaps : Option Addr) (j : Int) (h : Hp)  (K : Value → Hp → Prop) : slices_choosePivotOrdered_int_b2 swaps j h  K = (
  NN swaps fun a1 =>
  ∃ n1 : Int, cell h a1 = some (.int .i64 n1) ∧
  cond (decide (n1 = 0))
  (K (.tuple #[.int .i64 j, .int .i64 1]) h)
  (cond (decide (n1 = 12))
  (K (.tuple #[.int .i64 j, .int .i64 2]) h)
  (K (.tuple #[.int .i64 j, .int .i64 0]) h))) := by kernel_rfl
theorem slices_choosePivotOrdered_int_call {data : Option Addr} {dataL : Nat} {dataC : Nat} {a : Int} {b : Int} {h : Hp} {K : Value → Hp → Prop} (hk : slices_choosePivotOrdered_int_b0 data dataL dataC a b h K) : HCalls Tryz.prog 92 #[.slice data dataL dataC, .int .i64 a, .int .i64 b] h K :=
  calls_of_snd slices_choosePivotOrdered_int_an Tryz.func92 (c := bodyOf Tryz.f92) rfl Tryz.ntmps92 (Nat.le_of_ble_eq_true rfl) (snd_2 F_ok F_mixed) hk

/-! ### slices_reverseRangeOrdered_int -/
def slices_reverseRangeOrdered_int_an : Ann := .node none (.leaf) (.node none (.leaf) (.loop [0] [(6, .int .i64), (7, .int .i64)] (.node none (.leaf) (.node none (.plan (.qu 0 (.qu 1 (.qu 2 (.qu 3 (.qu 4 (.qu 5 (.qu 6 (.qu 7 (.qu 8 (.qu 9 (.qu 10 (.qu 11 (.qu 12 (.wo 13 (.qu 14 (.wo 15 .fin .no)) .no))))))))))))))) (.leaf)))))
def slices_reverseRangeOrdered_int_K0  (K : Value → Hp → Prop) : Exit → Env → Hp → Prop := retK Tryz.prog Tryz.f93.results.toList K
def slices_reverseRangeOrdered_int_K1  (K : Value → Hp → Prop) : Exit → Env → Hp → Prop := blockE 0 (slices_reverseRangeOrdered_int_K0  K)
def slices_reverseRangeOrdered_int_K2 (nx0 : Int × Int × Unit → Hp → Prop) (K : Value → Hp → Prop) : Exit → Env → Hp → Prop := thenE (fun env h => getV [(6, .int .i64), (7, .int .i64)] env fun s => nx0 s h) (slices_reverseRangeOrdered_int_K1  K)
def slices_reverseRangeOrdered_int_b0 (data : Option Addr) (dataL : Nat) (dataC : Nat) (a : Int) (b : Int) (h : Hp)  (K : Value → Hp → Prop) : Prop :=
  sx_2 Tryz.prog F 32 (cp [] (bodyOf Tryz.f93)) (ap [] slices_reverseRangeOrdered_int_an) [(0, .slice data dataL dataC), (1, .int .i64 a), (2, .int .i64 b)] h (slices_reverseRangeOrdered_int_K0  K)
def slices_reverseRangeOrdered_int_b1 (i : Int) (j : Int) (data : Option Addr) (dataL : Nat) (dataC : Nat) (h : Hp) (nx0 : Int × Int × Unit → Hp → Prop) (K : Value → Hp → Prop) : Prop :=
  sx_1 Tryz.prog F 32 (cp [1, 1, 2, 2] (bodyOf Tryz.f93)) (ap [1, 1, 2] slices_reverseRangeOrdered_int_an) [(6, .int .i64 i), (7, .int .i64 j), (0, .slice data dataL dataC)] h (slices_reverseRangeOrdered_int_K2 nx0 K)
theorem slices_reverseRangeOrdered_int_b0_eq (data : Option Addr) (dataL : Nat) (dataC : Nat) (a : Int) (b : Int) (h : Hp)  (K : Value → Hp → Prop) : slices_reverseRangeOrdered_int_b0 data dataL dataC a b h  K = (
  InR (b - 1) ∧
  LoopVC ((a, b - 1, ()) : Int × Int × Unit) h (fun (nx0 : Int × Int × Unit → Hp → Prop) (s1 : Int × Int × Unit) h1 => slices_reverseRangeOrdered_int_b1 s1.1 s1.2.1 data dataL dataC h1 nx0 K)) := by kernel_rfl
theorem slices_reverseRangeOrdered_int_b1_eq (i : Int) (j : Int) (data : Option Addr) (dataL : Nat) (dataC : Nat) (h : Hp) (nx0 : Int × Int × Unit → Hp → Prop) (K : Value → Hp → Prop) : slices_reverseRangeOrdered_int_b1 i j data dataL dataC h nx0 K = (
  cond (decide (i < j))
  ((0 ≤ j ∧ j < (dataL : Int)) ∧
  NN data fun a1 =>
  ∃ n1 : Int, cell h (a1.add (Int.toNat j * 1)) = some (.int .i64 n1) ∧
  (0 ≤ i ∧ i < (dataL : Int)) ∧
  NN data fun a2 =>
  ∃ n2 : Int, cell h (a2.add (Int.toNat i * 1)) = some (.int .i64 n2) ∧
  (0 ≤ i ∧ i < (dataL : Int)) ∧
  NN data fun a3 =>
  Wr h (a3.add (Int.toNat i * 1)) (.int .i64 n1) fun h2 =>
  (0 ≤ j ∧ j < (dataL : Int)) ∧
  NN data fun a4 =>
  Wr h2 (a4.add (Int.toNat j * 1)) (.int .i64 n2) fun h3 =>
  InR (i + 1) ∧
  InR (j - 1) ∧
  nx0 (i + 1, j - 1, ()) h3)
  (K (.tuple #[]) h)) := by kernel_rfl
theorem slices_reverseRangeOrdered_int_call {data : Option Addr} {dataL : Nat} {dataC : Nat} {a : Int} {b : Int} {h : Hp} {K : Value → Hp → Prop} (hk : slices_reverseRangeOrdered_int_b0 data dataL dataC a b h K) : HCalls Tryz.prog 93 #[.slice data dataL dataC, .int .i64 a, .int .i64 b] h K :=
  calls_of_snd slices_reverseRangeOrdered_int_an Tryz.func93 (c := bodyOf Tryz.f93) rfl Tryz.ntmps93 (Nat.le_of_ble_eq_true rfl) (snd_2 F_ok F_mixed) hk

/-! ### slices_partialInsertionSortOrdered_int -/
def slices_partialInsertionSortOrdered_int_an : Ann := .node none (.leaf) (.node none (.leaf) (.node (some []) (.node none (.leaf) (.loop [0, 1, 2] [(7, .int .i64), (8, .int .i64)] (.node none (.leaf) (.node (some [0, 1, 2, 7, 8]) (.node (some [0, 1, 2, 7, 8]) (.loop [0, 1, 2, 8] [(7, .int .i64)] (.node (some [0, 1, 2, 7, 8]) (.leaf) (.leaf))) (.node none (.leaf) (.node none (.leaf) (.node none (.plan (.qu 0 (.qu 1 (.qu 2 (.qu 3 (.qu 4 (.qu 5 (.qu 6 (.qu 7 (.qu 8 (.qu 9 (.qu 10 (.qu 11 (.qu 12 (.qu 13 (.qu 14 (.wo 15 (.qu 16 (.wo 17 .fin .no)) .no))))))))))))))))) (.node (some [0, 1, 2, 7, 8]) (.node none (.leaf) (.node none (.node none (.leaf) (.loop [0, 1, 2, 7, 8] [(9, .int .i64)] (.node none (.leaf) (.node (some [0, 1, 2, 7, 8, 9]) (.node none (.leaf) (.plan (.qu 0 (.qu 1 (.qu 2 (.qu 3 (.qu 4 (.qu 5 (.qu 6 (.qu 7 (.qu 8 (.qu 9 (.qu 10 (.qu 11 (.qu 12 (.qu 13 (.qu 14 (.wo 15 (.qu 16 (.wo 17 .fin .no)) .no)))))))))))))))))) (.leaf))))) (.leaf))) (.node none (.leaf) (.node none (.node none (.leaf) (.loop [0, 1, 2, 7, 8] [(10, .int .i64)] (.node none (.leaf) (.node (some [0, 1, 2, 7, 8, 10]) (.node none (.leaf) (.plan (.qu 0 (.qu 1 (.qu 2 (.qu 3 (.qu 4 (.qu 5 (.qu 6 (.qu 7 (.qu 8 (.qu 9 (.qu 10 (.qu 11 (.qu 12 (.qu 13 (.qu 14 (.wo 15 (.qu 16 (.wo 17 .fin .no)) .no)))))))))))))))))) (.leaf))))) (.leaf)))))))) (.leaf))))) (.leaf)))
def slices_partialInsertionSortOrdered_int_K0  (K : Value → Hp → Prop) : Exit → Env → Hp → Prop := retK Tryz.prog Tryz.f94.results.toList K
def slices_partialInsertionSortOrdered_int_K1  (K : Value → Hp → Prop) : Exit → Env → Hp → Prop := thenE (fun env h => sx_5 Tryz.prog F 133 (cp [1, 1, 1] (bodyOf Tryz.f94)) (ap [1, 1, 1] slices_partialInsertionSortOrdered_int_an) (rs [] env) h (slices_partialInsertionSortOrdered_int_K0  K)) (slices_partialInsertionSortOrdered_int_K0  K)
def slices_partialInsertionSortOrdered_int_K2  (K : Value → Hp → Prop) : Exit → Env → Hp → Prop := blockE 0 (slices_partialInsertionSortOrdered_int_K1  K)
def slices_partialInsertionSortOrdered_int_K3 (nx0 : Int × Int × Unit → Hp → Prop) (K : Value → Hp → Prop) : Exit → Env → Hp → Prop := thenE (fun env h => getV [(7, .int .i64), (8, .int .i64)] env fun s => nx0 s h) (slices_partialInsertionSortOrdered_int_K2  K)
def slices_partialInsertionSortOrdered_int_K4 (nx0 : Int × Int × Unit → Hp → Prop) (K : Value → Hp → Prop) : Exit → Env → Hp → Prop := thenE (fun env h => sx_4 Tryz.prog F 133 (cp [1, 1, 0, 1, 2, 2, 1, 1] (bodyOf Tryz.f94)) (ap [1, 1, 0, 1, 2, 1, 1] slices_partialInsertionSortOrdered_int_an) (rs [0, 1, 2, 7, 8] env) h (slices_partialInsertionSortOrdered_int_K3 nx0 K)) (slices_partialInsertionSortOrdered_int_K3 nx0 K)
def slices_partialInsertionSortOrdered_int_K5 (nx0 : Int × Int × Unit → Hp → Prop) (K : Value → Hp → Prop) : Exit → Env → Hp → Prop := blockE 1 (slices_partialInsertionSortOrdered_int_K4 nx0 K)
def slices_partialInsertionSortOrdered_int_K6 (nx0 : Int × Int × Unit → Hp → Prop) (K : Value → Hp → Prop) : Exit → Env → Hp → Prop := thenE (fun env h => sx_4 Tryz.prog F 133 (cp [1, 1, 0, 1, 2, 2, 1, 0, 2, 1] (bodyOf Tryz.f94)) (ap [1, 1, 0, 1, 2, 1, 0, 1] slices_partialInsertionSortOrdered_int_an) (rs [0, 1, 2, 7, 8] env) h (slices_partialInsertionSortOrdered_int_K5 nx0 K)) (slices_partialInsertionSortOrdered_int_K5 nx0 K)
def slices_partialInsertionSortOrdered_int_K7 (nx0 : Int × Int × Unit → Hp → Prop) (K : Value → Hp → Prop) : Exit → Env → Hp → Prop := blockE 2 (slices_partialInsertionSortOrdered_int_K6 nx0 K)
def slices_partialInsertionSortOrdered_int_K8 (nx0 : Int × Int × Unit → Hp → Prop) (nx1 : Int × Unit → Hp → Prop) (K : Value → Hp → Prop) : Exit → Env → Hp → Prop := thenE (fun env h => getV [(7, .int .i64)] env fun s => nx1 s h) (slices_partialInsertionSortOrdered_int_K7 nx0 K)
def slices_partialInsertionSortOrdered_int_K9 (nx0 : Int × Int × Unit → Hp → Prop) (K : Value → Hp → Prop) : Exit → Env → Hp → Prop := thenE (fun env h => sx_3 Tryz.prog F 133 (cp [1, 1, 0, 1, 2, 2, 1, 0, 2, 1, 1, 1, 1, 1] (bodyOf Tryz.f94)) (ap [1, 1, 0, 1, 2, 1, 0, 1, 1, 1, 1, 1] slices_partialInsertionSortOrdered_int_an) (rs [0, 1, 2, 7, 8] env) h (slices_partialInsertionSortOrdered_int_K5 nx0 K)) (slices_partialInsertionSortOrdered_int_K5 nx0 K)
def slices_partialInsertionSortOrdered_int_K10 (nx0 : Int × Int × Unit → Hp → Prop) (K : Value → Hp → Prop) : Exit → Env → Hp → Prop := blockE 4 (slices_partialInsertionSortOrdered_int_K9 nx0 K)
def slices_partialInsertionSortOrdered_int_K11 (nx0 : Int × Int × Unit → Hp → Prop) (nx1 : Int × Unit → Hp → Prop) (K : Value → Hp → Prop) : Exit → Env → Hp → Prop := thenE (fun env h => getV [(9, .int .i64)] env fun s => nx1 s h) (slices_partialInsertionSortOrdered_int_K10 nx0 K)
def slices_partialInsertionSortOrdered_int_K12 (nx0 : Int × Int × Unit → Hp → Prop) (K : Value → Hp → Prop) : Exit → Env → Hp → Prop := blockE 6 (slices_partialInsertionSortOrdered_int_K5 nx0 K)
def slices_partialInsertionSortOrdered_int_K13 (nx0 : Int × Int × Unit → Hp → Prop) (nx1 : Int × Unit → Hp → Prop) (K : Value → Hp → Prop) : Exit → Env → Hp → Prop := thenE (fun env h => getV [(10, .int .i64)] env fun s => nx1 s h) (slices_partialInsertionSortOrdered_int_K12 nx0 K)
def slices_partialInsertionSortOrdered_int_b0 (data : Option Addr) (dataL : Nat) (dataC : Nat) (a : Int) (b : Int) (h : Hp)  (K : Value → Hp → Prop) : Prop :=
  sx_6 Tryz.prog F 133 (cp [] (bodyOf Tryz.f94)) (ap [] slices_partialInsertionSortOrdered_int_an) [(0, .slice data dataL dataC), (1, .int .i64 a), (2, .int .i64 b)] h (slices_partialInsertionSortOrdered_int_K0  K)
def slices_partialInsertionSortOrdered_int_b1 (i : Int) (j : Int) (data : Option Addr) (dataL : Nat) (dataC : Nat) (a : Int) (b : Int) (h : Hp) (nx0 : Int × Int × Unit → Hp → Prop) (K : Value → Hp → Prop) : Prop :=
  sx_5 Tryz.prog F 133 (cp [1, 1, 0, 1, 2, 2] (bodyOf Tryz.f94)) (ap [1, 1, 0, 1, 2] slices_partialInsertionSortOrdered_int_an) [(7, .int .i64 i), (8, .int .i64 j), (0, .slice data dataL dataC), (1, .int .i64 a), (2, .int .i64 b)] h (slices_partialInsertionSortOrdered_int_K3 nx0 K)
def slices_partialInsertionSortOrdered_int_b2 (i : Int) (data : Option Addr) (dataL : Nat) (dataC : Nat) (a : Int) (b : Int) (j : Int) (h : Hp) (nx0 : Int × Int × Unit → Hp → Prop) (nx1 : Int × Unit → Hp → Prop) (K : Value → Hp → Prop) : Prop :=
  sx_4 Tryz.prog F 133 (cp [1, 1, 0, 1, 2, 2, 1, 0, 2, 0, 2, 2] (bodyOf Tryz.f94)) (ap [1, 1, 0, 1, 2, 1, 0, 0, 2] slices_partialInsertionSortOrdered_int_an) [(7, .int .i64 i), (0, .slice data dataL dataC), (1, .int .i64 a), (2, .int .i64 b), (8, .int .i64 j)] h (slices_partialInsertionSortOrdered_int_K8 nx0 nx1 K)
def slices_partialInsertionSortOrdered_int_b3  (h : Hp)  (K : Value → Hp → Prop) : Prop :=
  sx_5 Tryz.prog F 133 (cp [1, 1, 1] (bodyOf Tryz.f94)) (ap [1, 1, 1] slices_partialInsertionSortOrdered_int_an) [] h (slices_partialInsertionSortOrdered_int_K0  K)
def slices_partialInsertionSortOrdered_int_b4 (data : Option Addr) (dataL : Nat) (dataC : Nat) (a : Int) (b : Int) (i : Int) (j : Int) (h : Hp) (nx0 : Int × Int × Unit → Hp → Prop) (nx1 : Int × Unit → Hp → Prop) (K : Value → Hp → Prop) : Prop :=
  sx_3 Tryz.prog F 133 (cp [1, 1, 0, 1, 2, 2, 1, 0, 2, 0, 2, 2, 1] (bodyOf Tryz.f94)) (ap [1, 1, 0, 1, 2, 1, 0, 0, 2, 1] slices_partialInsertionSortOrdered_int_an) [(0, .slice data dataL dataC), (1, .int .i64 a), (2, .int .i64 b), (7, .int .i64 i), (8, .int .i64 j)] h (slices_partialInsertionSortOrdered_int_K8 nx0 nx1 K)
def slices_partialInsertionSortOrdered_int_b5 (data : Option Addr) (dataL : Nat) (dataC : Nat) (a : Int) (b : Int) (i : Int) (j : Int) (h : Hp) (nx0 : Int × Int × Unit → Hp → Prop) (K : Value → Hp → Prop) : Prop :=
  sx_4 Tryz.prog F 133 (cp [1, 1, 0, 1, 2, 2, 1, 0, 2, 1] (bodyOf Tryz.f94)) (ap [1, 1, 0, 1, 2, 1, 0, 1] slices_partialInsertionSortOrdered_int_an) [(0, .slice data dataL dataC), (1, .int .i64 a), (2, .int .i64 b), (7, .int .i64 i), (8, .int .i64 j)] h (slices_partialInsertionSortOrdered_int_K5 nx0 K)
def slices_partialInsertionSortOrdered_int_b6 (j : Int) (data : Option Addr) (dataL : Nat) (dataC : Nat) (a : Int) (b : Int) (i : Int) (j_8 : Int) (h : Hp) (nx0 : Int × Int × Unit → Hp → Prop) (nx1 : Int × Unit → Hp → Prop) (K : Value → Hp → Prop) : Prop :=
  sx_3 Tryz.prog F 133 (cp [1, 1, 0, 1, 2, 2, 1, 0, 2, 1, 1, 1, 1, 0, 1, 0, 1, 2, 2] (bodyOf Tryz.f94)) (ap [1, 1, 0, 1, 2, 1, 0, 1, 1, 1, 1, 0, 1, 0, 1, 2] slices_partialInsertionSortOrdered_int_an) [(9, .int .i64 j), (0, .slice data dataL dataC), (1, .int .i64 a), (2, .int .i64 b), (7, .int .i64 i), (8, .int .i64 j_8)] h (slices_partialInsertionSortOrdered_int_K11 nx0 nx1 K)
def slices_partialInsertionSortOrdered_int_b7 (data : Option Addr) (dataL : Nat) (dataC : Nat) (a : Int) (b : Int) (i : Int) (j : Int) (h : Hp) (nx0 : Int × Int × Unit → Hp → Prop) (K : Value → Hp → Prop) : Prop :=
  sx_3 Tryz.prog F 133 (cp [1, 1, 0, 1, 2, 2, 1, 0, 2, 1, 1, 1, 1, 1] (bodyOf Tryz.f94)) (ap [1, 1, 0, 1, 2, 1, 0, 1, 1, 1, 1, 1] slices_partialInsertionSortOrdered_int_an) [(0, .slice data dataL dataC), (1, .int .i64 a), (2, .int .i64 b), (7, .int .i64 i), (8, .int .i64 j)] h (slices_partialInsertionSortOrdered_int_K5 nx0 K)
def slices_partialInsertionSortOrdered_int_b8 (data : Option Addr) (dataL : Nat) (dataC : Nat) (a : Int) (b : Int) (i : Int) (j : Int) (j_9 : Int) (h : Hp) (nx0 : Int × Int × Unit → Hp → Prop) (nx1 : Int × Unit → Hp → Prop) (K : Value → Hp → Prop) : Prop :=
  sx_2 Tryz.prog F 133 (cp [1, 1, 0, 1, 2, 2, 1, 0, 2, 1, 1, 1, 1, 0, 1, 0, 1, 2, 2, 1, 1] (bodyOf Tryz.f94)) (ap [1, 1, 0, 1, 2, 1, 0, 1, 1, 1, 1, 0, 1, 0, 1, 2, 1, 1] slices_partialInsertionSortOrdered_int_an) [(0, .slice data dataL dataC), (1, .int .i64 a), (2, .int .i64 b), (7, .int .i64 i), (8, .int .i64 j), (9, .int .i64 j_9)] h (slices_partialInsertionSortOrdered_int_K11 nx0 nx1 K)
def slices_partialInsertionSortOrdered_int_b9 (j : Int) (data : Option Addr) (dataL : Nat) (dataC : Nat) (a : Int) (b : Int) (i : Int) (j_8 : Int) (h : Hp) (nx0 : Int × Int × Unit → Hp → Prop) (nx1 : Int × Unit → Hp → Prop) (K : Value → Hp → Prop) : Prop :=
  sx_2 Tryz.prog F 133 (cp [1, 1, 0, 1, 2, 2, 1, 0, 2, 1, 1, 1, 1, 1, 1, 0, 1, 2, 2] (bodyOf Tryz.f94)) (ap [1, 1, 0, 1, 2, 1, 0, 1, 1, 1, 1, 1, 1, 0, 1, 2] slices_partialInsertionSortOrdered_int_an) [(10, .int .i64 j), (0, .slice data dataL dataC), (1, .int .i64 a), (2, .int .i64 b), (7, .int .i64 i), (8, .int .i64 j_8)] h (slices_partialInsertionSortOrdered_int_K13 nx0 nx1 K)
def slices_partialInsertionSortOrdered_int_b10 (data : Option Addr) (dataL : Nat) (dataC : Nat) (a : Int) (b : Int) (i : Int) (j : Int) (h : Hp) (nx0 : Int × Int × Unit → Hp → Prop) (K : Value → Hp → Prop) : Prop :=
  sx_4 Tryz.prog F 133 (cp [1, 1, 0, 1, 2, 2, 1, 1] (bodyOf Tryz.f94)) (ap [1, 1, 0, 1, 2, 1, 1] slices_partialInsertionSortOrdered_int_an) [(0, .slice data dataL dataC), (1, .int .i64 a), (2, .int .i64 b), (7, .int .i64 i), (8, .int .i64 j)] h (slices_partialInsertionSortOrdered_int_K3 nx0 K)
def slices_partialInsertionSortOrdered_int_b11 (data : Option Addr) (dataL : Nat) (dataC : Nat) (a : Int) (b : Int) (i : Int) (j : Int) (j_10 : Int) (h : Hp) (nx0 : Int × Int × Unit → Hp → Prop) (nx1 : Int × Unit → Hp → Prop) (K : Value → Hp → Prop) : Prop :=
  sx_1 Tryz.prog F 133 (cp [1, 1, 0, 1, 2, 2, 1, 0, 2, 1, 1, 1, 1, 1, 1, 0, 1, 2, 2, 1, 1] (bodyOf Tryz.f94)) (ap [1, 1, 0, 1, 2, 1, 0, 1, 1, 1, 1, 1, 1, 0, 1, 2, 1, 1] slices_partialInsertionSortOrdered_int_an) [(0, .slice data dataL dataC), (1, .int .i64 a), (2, .int .i64 b), (7, .int .i64 i), (8, .int .i64 j), (10, .int .i64 j_10)] h (slices_partialInsertionSortOrdered_int_K13 nx0 nx1 K)
theorem slices_partialInsertionSortOrdered_int_b0_eq (data : Option Addr) (dataL : Nat) (dataC : Nat) (a : Int) (b : Int) (h : Hp)  (K : Value → Hp → Prop) : slices_partialInsertionSortOrdered_int_b0 data dataL dataC a b h  K = (
  InR (a + 1) ∧
  LoopVC ((a + 1, 0, ()) : Int × Int × Unit) h (fun (nx0 : Int × Int × Unit → Hp → Prop) (s1 : Int × Int × Unit) h1 => slices_partialInsertionSortOrdered_int_b1 s1.1 s1.2.1 data dataL dataC a b h1 nx0 K)) := by kernel_rfl
theorem slices_partialInsertionSortOrdered_int_b1_eq (i : Int) (j : Int) (data : Option Addr) (dataL : Nat) (dataC : Nat) (a : Int) (b : Int) (h : Hp) (nx0 : Int × Int × Unit → Hp → Prop) (K : Value → Hp → Prop) : slices_partialInsertionSortOrdered_int_b1 i j data dataL dataC a b h nx0 K = (
  cond (decide (j < 5))
  (LoopVC ((i, ()) : Int × Unit) h (fun (nx1 : Int × Unit → Hp → Prop) (s2 : Int × Unit) h2 => slices_partialInsertionSortOrdered_int_b2 s2.1 data dataL dataC a b j h2 nx0 nx1 K))
  (slices_partialInsertionSortOrdered_int_b3  h  K)) := by kernel_rfl
theorem slices_partialInsertionSortOrdered_int_b2_eq (i : Int) (data : Option Addr) (dataL : Nat) (dataC : Nat) (a : Int) (b : Int) (j : Int) (h : Hp) (nx0 : Int × Int × Unit → Hp → Prop) (nx1 : Int × Unit → Hp → Prop) (K : Value → Hp → Prop) : slices_partialInsertionSortOrdered_int_b2 i data dataL dataC a b j h nx0 nx1 K = (
  cond (decide (i < b))
  ((0 ≤ i ∧ i < (dataL : Int)) ∧
  NN data fun a1 =>
  ∃ n1 : Int, cell h (a1.add (Int.toNat i * 1)) = some (.int .i64 n1) ∧
  InR (i - 1) ∧
  (0 ≤ i - 1 ∧ i - 1 < (dataL : Int)) ∧
  NN data fun a2 =>
  ∃ n2 : Int, cell h (a2.add (Int.toNat (i - 1) * 1)) = some (.int .i64 n2) ∧
  ∃ r1 : Bool, HCalls Tryz.prog 95 #[.int .i64 n1, .int .i64 n2] h (fun v1 h3 => v1 = .bool r1 ∧ h3 = h) ∧
  cond (!r1)
  (slices_partialInsertionSortOrdered_int_b4 data dataL dataC a b i j h nx0 nx1 K)
  (slices_partialInsertionSortOrdered_int_b5 data dataL dataC a b i j h nx0 K))
  (slices_partialInsertionSortOrdered_int_b5 data dataL dataC a b i j h nx0 K)) := by kernel_rfl
theorem slices_partialInsertionSortOrdered_int_b3_eq  (h : Hp)  (K : Value → Hp → Prop) : slices_partialInsertionSortOrdered_int_b3  h  K = (
  K (.bool false) h) := by kernel_rfl
theorem slices_partialInsertionSortOrdered_int_b4_eq (data : Option Addr) (dataL : Nat) (dataC : Nat) (a : Int) (b : Int) (i : Int) (j : Int) (h : Hp) (nx0 : Int × Int × Unit → Hp → Prop) (nx1 : Int × Unit → Hp → Prop) (K : Value → Hp → Prop) : slices_partialInsertionSortOrdered_int_b4 data dataL dataC a b i j h nx0 nx1 K = (
  InR (i + 1) ∧
  nx1 (i + 1, ()) h) := by kernel_rfl
theorem slices_partialInsertionSortOrdered_int_b5_eq (data : Option Addr) (dataL : Nat) (dataC : Nat) (a : Int) (b : Int) (i : Int) (j : Int) (h : Hp) (nx0 : Int × Int × Unit → Hp → Prop) (K : Value → Hp → Prop) : slices_partialInsertionSortOrdered_int_b5 data dataL dataC a b i j h nx0 K = (
  cond (decide (i = b))
  (K (.bool true) h)
  (InR (b - a) ∧
  cond (decide ((b - a) < 50))
  (K (.bool false) h)
  (InR (i - 1) ∧
  InR (i - 1) ∧
  (0 ≤ i - 1 ∧ i - 1 < (dataL : Int)) ∧
  NN data fun a3 =>
  ∃ n3 : Int, cell h (a3.add (Int.toNat (i - 1) * 1)) = some (.int .i64 n3) ∧
  (0 ≤ i ∧ i < (dataL : Int)) ∧
  NN data fun a4 =>
  ∃ n4 : Int, cell h (a4.add (Int.toNat i * 1)) = some (.int .i64 n4) ∧
  (0 ≤ i ∧ i < (dataL : Int)) ∧
  NN data fun a5 =>
  Wr h (a5.add (Int.toNat i * 1)) (.int .i64 n3) fun h4 =>
  (0 ≤ i - 1 ∧ i - 1 < (dataL : Int)) ∧
  NN data fun a6 =>
  Wr h4 (a6.add (Int.toNat (i - 1) * 1)) (.int .i64 n4) fun h5 =>
  InR (i - a) ∧
  cond (decide ((2 : Int) ≤ (i - a)))
  (InR (i - 1) ∧
  LoopVC ((i - 1, ()) : Int × Unit) h5 (fun (nx1 : Int × Unit → Hp → Prop) (s3 : Int × Unit) h6 => slices_partialInsertionSortOrdered_int_b6 s3.1 data dataL dataC a b i j h6 nx0 nx1 K))
  (slices_partialInsertionSortOrdered_int_b7 data dataL dataC a b i j h5 nx0 K)))) := by kernel_rfl
theorem slices_partialInsertionSortOrdered_int_b6_eq (j : Int) (data : Option Addr) (dataL : Nat) (dataC : Nat) (a : Int) (b : Int) (i : Int) (j_8 : Int) (h : Hp) (nx0 : Int × Int × Unit → Hp → Prop) (nx1 : Int × Unit → Hp → Prop) (K : Value → Hp → Prop) : slices_partialInsertionSortOrdered_int_b6 j data dataL dataC a b i j_8 h nx0 nx1 K = (
  cond (decide ((1 : Int) ≤ j))
  ((0 ≤ j ∧ j < (dataL : Int)) ∧
  NN data fun a7 =>
  ∃ n5 : Int, cell h (a7.add (Int.toNat j * 1)) = some (.int .i64 n5) ∧
  InR (j - 1) ∧
  (0 ≤ j - 1 ∧ j - 1 < (dataL : Int)) ∧
  NN data fun a8 =>
  ∃ n6 : Int, cell h (a8.add (Int.toNat (j - 1) * 1)) = some (.int .i64 n6) ∧
  ∃ r2 : Bool, HCalls Tryz.prog 95 #[.int .i64 n5, .int .i64 n6] h (fun v2 h7 => v2 = .bool r2 ∧ h7 = h) ∧
  cond (!r2)
  (slices_partialInsertionSortOrdered_int_b7 data dataL dataC a b i j_8 h nx0 K)
  (InR (j - 1) ∧
  InR (j - 1) ∧
  (0 ≤ j - 1 ∧ j - 1 < (dataL : Int)) ∧
  NN data fun a9 =>
  ∃ n7 : Int, cell h (a9.add (Int.toNat (j - 1) * 1)) = some (.int .i64 n7) ∧
  (0 ≤ j ∧ j < (dataL : Int)) ∧
  NN data fun a10 =>
  ∃ n8 : Int, cell h (a10.add (Int.toNat j * 1)) = some (.int .i64 n8) ∧
  (0 ≤ j ∧ j < (dataL : Int)) ∧
  NN data fun a11 =>
  Wr h (a11.add (Int.toNat j * 1)) (.int .i64 n7) fun h8 =>
  (0 ≤ j - 1 ∧ j - 1 < (dataL : Int)) ∧
  NN data fun a12 =>
  Wr h8 (a12.add (Int.toNat (j - 1) * 1)) (.int .i64 n8) fun h9 =>
  slices_partialInsertionSortOrdered_int_b8 data dataL dataC a b i j_8 j h9 nx0 nx1 K))
  (slices_partialInsertionSortOrdered_int_b7 data dataL dataC a b i j_8 h nx0 K)) := by kernel_rfl
theorem slices_partialInsertionSortOrdered_int_b7_eq (data : Option Addr) (dataL : Nat) (dataC : Nat) (a : Int) (b : Int) (i : Int) (j : Int) (h : Hp) (nx0 : Int × Int × Unit → Hp → Prop) (K : Value → Hp → Prop) : slices_partialInsertionSortOrdered_int_b7 data dataL dataC a b i j h nx0 K = (
  InR (b - i) ∧
  cond (decide ((2 : Int) ≤ (b - i)))
  (InR (i + 1) ∧
  LoopVC ((i + 1, ()) : Int × Unit) h (fun (nx1 : Int × Unit → Hp → Prop) (s4 : Int × Unit) h10 => slices_partialInsertionSortOrdered_int_b9 s4.1 data dataL dataC a b i j h10 nx0 nx1 K))
  (slices_partialInsertionSortOrdered_int_b10 data dataL dataC a b i j h nx0 K)) := by kernel_rfl
theorem slices_partialInsertionSortOrdered_int_b8_eq (data : Option Addr) (dataL : Nat) (dataC : Nat) (a : Int) (b : Int) (i : Int) (j : Int) (j_9 : Int) (h : Hp) (nx0 : Int × Int × Unit → Hp → Prop) (nx1 : Int × Unit → Hp → Prop) (K : Value → Hp → Prop) : slices_partialInsertionSortOrdered_int_b8 data dataL dataC a b i j j_9 h nx0 nx1 K = (
  InR (j_9 - 1) ∧
  nx1 (j_9 - 1, ()) h) := by kernel_rfl
theorem slices_partialInsertionSortOrdered_int_b9_eq (j : Int) (data : Option Addr) (dataL : Nat) (dataC : Nat) (a : Int) (b : Int) (i : Int) (j_8 : Int) (h : Hp) (nx0 : Int × Int × Unit → Hp → Prop) (nx1 : Int × Unit → Hp → Prop) (K : Value → Hp → Prop) : slices_partialInsertionSortOrdered_int_b9 j data dataL dataC a b i j_8 h nx0 nx1 K = (
  cond (decide (j < b))
  ((0 ≤ j ∧ j < (dataL : Int)) ∧
  NN data fun a13 =>
  ∃ n9 : Int, cell h (a13.add (Int.toNat j * 1)) = some (.int .i64 n9) ∧
  InR (j - 1) ∧
  (0 ≤ j - 1 ∧ j - 1 < (dataL : Int)) ∧
  NN data fun a14 =>
  ∃ n10 : Int, cell h (a14.add (Int.toNat (j - 1) * 1)) = some (.int .i64 n10) ∧
  ∃ r3 : Bool, HCalls Tryz.prog 95 #[.int .i64 n9, .int .i64 n10] h (fun v3 h11 => v3 = .bool r3 ∧ h11 = h) ∧
  cond (!r3)
  (slices_partialInsertionSortOrdered_int_b10 data dataL dataC a b i j_8 h nx0 K)
  (InR (j - 1) ∧
  InR (j - 1) ∧
  (0 ≤ j - 1 ∧ j - 1 < (dataL : Int)) ∧
  NN data fun a15 =>
  ∃ n11 : Int, cell h (a15.add (Int.toNat (j - 1) * 1)) = some (.int .i64 n11) ∧
  (0 ≤ j ∧ j < (dataL : Int)) ∧
  NN data fun a16 =>
  ∃ n12 : Int, cell h (a16.add (Int.toNat j * 1)) = some (.int .i64 n12) ∧
  (0 ≤ j ∧ j < (dataL : Int)) ∧
  NN data fun a17 =>
  Wr h (a17.add (Int.toNat j * 1)) (.int .i64 n11) fun h12 =>
  (0 ≤ j - 1 ∧ j - 1 < (dataL : Int)) ∧
  NN data fun a18 =>
  Wr h12 (a18.add (Int.toNat (j - 1) * 1)) (.int .i64 n12) fun h13 =>
  slices_partialInsertionSortOrdered_int_b11 data dataL dataC a b i j_8 j h13 nx0 nx1 K))
  (slices_partialInsertionSortOrdered_int_b10 data dataL dataC a b i j_8 h nx0 K)) := by kernel_rfl
theorem slices_partialInsertionSortOrdered_int_b10_eq (data : Option Addr) (dataL : Nat) (dataC : Nat) (a : Int) (b : Int) (i : Int) (j : Int) (h : Hp) (nx0 : Int × Int × Unit → Hp → Prop) (K : Value → Hp → Prop) : slices_partialInsertionSortOrdered_int_b10 data dataL dataC a b i j h nx0 K = (
  InR (j + 1) ∧
  nx0 (i, j + 1, ()) h) := by kernel_rfl
theorem slices_partialInsertionSortOrdered_int_b11_eq (data : Option Addr) (dataL : Nat) (dataC : Nat) (a : Int) (b : Int) (i : Int) (j : Int) (j_10 : Int) (h : Hp) (nx0 : Int × Int × Unit → Hp → Prop) (nx1 : Int × Unit → Hp → Prop) (K : Value → Hp → Prop) : slices_partialInsertionSortOrdered_int_b11 data dataL dataC a b i j j_10 h nx0 nx1 K = (
  InR (j_10 + 1) ∧
  nx1 (j_10 + 1, ()) h) := by kernel_rfl
theorem slices_partialInsertionSortOrdered_int_call {data : Option Addr} {dataL : Nat} {dataC : Nat} {a : Int} {b : Int} {h : Hp} {K : Value → Hp → Prop} (hk : slices_partialInsertionSortOrdered_int_b0 data dataL dataC a b h K) : HCalls Tryz.prog 94 #[.slice data dataL dataC, .int .i64 a, .int .i64 b] h K :=
  calls_of_snd slices_partialInsertionSortOrdered_int_an Tryz.func94 (c := bodyOf Tryz.f94) rfl Tryz.ntmps94 (Nat.le_of_ble_eq_true rfl) (snd_6 F_ok F_mixed) hk

/-! ### cmp_Less_int -/
def cmp_Less_int_an : Ann := .leaf
def cmp_Less_int_K0  (K : Value → Hp → Prop) : Exit → Env → Hp → Prop := retK Tryz.prog Tryz.f95.results.toList K
def cmp_Less_int_b0 (x : Int) (y : Int) (h : Hp)  (K : Value → Hp → Prop) : Prop :=
  sx_1 Tryz.prog F 17 (cp [] (bodyOf Tryz.f95)) (ap [] cmp_Less_int_an) [(0, .int .i64 x), (1, .int .i64 y)] h (cmp_Less_int_K0  K)
theorem cmp_Less_int_b0_eq (x : Int) (y : Int) (h : Hp)  (K : Value → Hp → Prop) : cmp_Less_int_b0 x y h  K = (
  HCalls Tryz.prog 65 #[.int .i64 x] h fun v1 h1 => ∃ r1 : Bool, v1 = .bool r1 ∧
  cond r1
  (HCalls Tryz.prog 65 #[.int .i64 y] h1 fun v2 h2 => ∃ r2 : Bool, v2 = .bool r2 ∧
  cond (!r2)
  (K (.bool true) h2)
  (K (.bool (decide (x < y))) h2))
  (K (.bool (decide (x < y))) h1)) := by kernel_rfl
theorem cmp_Less_int_call {x : Int} {y : Int} {h : Hp} {K : Value → Hp → Prop} (hk : cmp_Less_int_b0 x y h K) : HCalls Tryz.prog 95 #[.int .i64 x, .int .i64 y] h K :=
  calls_of_snd cmp_Less_int_an Tryz.func95 (c := bodyOf Tryz.f95) rfl Tryz.ntmps95 (Nat.le_of_ble_eq_true rfl) (snd_1 F_ok F_mixed) hk

/-! ### slices_partitionEqualOrdered_int -/
def slices_partitionEqualOrdered_int_an : Ann := .node none (.leaf) (.node none (.plan (.qu 0 (.qu 1 (.qu 2 (.qu 3 (.qu 4 (.qu 5 (.qu 6 (.qu 7 (.qu 8 (.qu 9 (.qu 10 (.qu 11 (.qu 12 (.wo 13 (.qu 14 (.wo 15 .fin .no)) .no))))))))))))))) (.node none (.leaf) (.node (some [9]) (.loop [0, 1] [(9, .int .i64), (10, .int .i64)] (.node (some [0, 1, 9, 10]) (.loop [0, 1, 10] [(9, .int .i64)] (.node (some [0, 1, 9, 10]) (.leaf) (.leaf))) (.node (some [0, 1, 9, 10]) (.loop [0, 1, 9] [(10, .int .i64)] (.node (some [0, 1, 9, 10]) (.leaf) (.leaf))) (.node none (.leaf) (.node none (.plan (.qu 0 (.qu 1 (.qu 2 (.qu 3 (.qu 4 (.qu 5 (.qu 6 (.qu 7 (.qu 8 (.qu 9 (.qu 10 (.qu 11 (.qu 12 (.wo 13 (.qu 14 (.wo 15 .fin .no)) .no))))))))))))))) (.leaf)))))) (.leaf))))
def slices_partitionEqualOrdered_int_K0  (K : Value → Hp → Prop) : Exit → Env → Hp → Prop := retK Tryz.prog Tryz.f96.results.toList K
def slices_partitionEqualOrdered_int_K1  (K : Value → Hp → Prop) : Exit → Env → Hp → Prop := thenE (fun env h => sx_4 Tryz.prog F 84 (cp [1, 1, 1, 1] (bodyOf Tryz.f96)) (ap [1, 1, 1, 1] slices_partitionEqualOrdered_int_an) (rs [9] env) h (slices_partitionEqualOrdered_int_K0  K)) (slices_partitionEqualOrdered_int_K0  K)
def slices_partitionEqualOrdered_int_K2  (K : Value → Hp → Prop) : Exit → Env → Hp → Prop := blockE 0 (slices_partitionEqualOrdered_int_K1  K)
def slices_partitionEqualOrdered_int_K3 (nx0 : Int × Int × Unit → Hp → Prop) (K : Value → Hp → Prop) : Exit → Env → Hp → Prop := thenE (fun env h => getV [(9, .int .i64), (10, .int .i64)] env fun s => nx0 s h) (slices_partitionEqualOrdered_int_K2  K)
def slices_partitionEqualOrdered_int_K4 (nx0 : Int × Int × Unit → Hp → Prop) (K : Value → Hp → Prop) : Exit → Env → Hp → Prop := blockE 1 (slices_partitionEqualOrdered_int_K3 nx0 K)
def slices_partitionEqualOrdered_int_K5 (nx0 : Int × Int × Unit → Hp → Prop) (K : Value → Hp → Prop) : Exit → Env → Hp → Prop := thenE (fun env h => sx_3 Tryz.prog F 84 (cp [1, 1, 1, 0, 2, 2, 2, 1] (bodyOf Tryz.f96)) (ap [1, 1, 1, 0, 2, 1] slices_partitionEqualOrdered_int_an) (rs [0, 1, 9, 10] env) h (slices_partitionEqualOrdered_int_K4 nx0 K)) (slices_partitionEqualOrdered_int_K4 nx0 K)
def slices_partitionEqualOrdered_int_K6 (nx0 : Int × Int × Unit → Hp → Prop) (K : Value → Hp → Prop) : Exit → Env → Hp → Prop := blockE 2 (slices_partitionEqualOrdered_int_K5 nx0 K)
def slices_partitionEqualOrdered_int_K7 (nx0 : Int × Int × Unit → Hp → Prop) (nx1 : Int × Unit → Hp → Prop) (K : Value → Hp → Prop) : Exit → Env → Hp → Prop := thenE (fun env h => getV [(9, .int .i64)] env fun s => nx1 s h) (slices_partitionEqualOrdered_int_K6 nx0 K)
def slices_partitionEqualOrdered_int_K8 (nx0 : Int × Int × Unit → Hp → Prop) (K : Value → Hp → Prop) : Exit → Env → Hp → Prop := thenE (fun env h => sx_2 Tryz.prog F 84 (cp [1, 1, 1, 0, 2, 2, 2, 1, 1] (bodyOf Tryz.f96)) (ap [1, 1, 1, 0, 2, 1, 1] slices_partitionEqualOrdered_int_an) (rs [0, 1, 9, 10] env) h (slices_partitionEqualOrdered_int_K4 nx0 K)) (slices_partitionEqualOrdered_int_K4 nx0 K)
def slices_partitionEqualOrdered_int_K9 (nx0 : Int × Int × Unit → Hp → Prop) (K : Value → Hp → Prop) : Exit → Env → Hp → Prop := blockE 4 (slices_partitionEqualOrdered_int_K8 nx0 K)
def slices_partitionEqualOrdered_int_K10 (nx0 : Int × Int × Unit → Hp → Prop) (nx1 : Int × Unit → Hp → Prop) (K : Value → Hp → Prop) : Exit → Env → Hp → Prop := thenE (fun env h => getV [(10, .int .i64)] env fun s => nx1 s h) (slices_partitionEqualOrdered_int_K9 nx0 K)
def slices_partitionEqualOrdered_int_b0 (data : Option Addr) (dataL : Nat) (dataC : Nat) (a : Int) (b : Int) (pivot : Int) (h : Hp)  (K : Value → Hp → Prop) : Prop :=
  sx_5 Tryz.prog F 84 (cp [] (bodyOf Tryz.f96)) (ap [] slices_partitionEqualOrdered_int_an) [(0, .slice data dataL dataC), (1, .int .i64 a), (2, .int .i64 b), (3, .int .i64 pivot)] h (slices_partitionEqualOrdered_int_K0  K)
def slices_partitionEqualOrdered_int_b1 (i : Int) (j : Int) (data : Option Addr) (dataL : Nat) (dataC : Nat) (a : Int) (h : Hp) (nx0 : Int × Int × Unit → Hp → Prop) (K : Value → Hp → Prop) : Prop :=
  sx_4 Tryz.prog F 84 (cp [1, 1, 1, 0, 2, 2] (bodyOf Tryz.f96)) (ap [1, 1, 1, 0, 2] slices_partitionEqualOrdered_int_an) [(9, .int .i64 i), (10, .int .i64 j), (0, .slice data dataL dataC), (1, .int .i64 a)] h (slices_partitionEqualOrdered_int_K3 nx0 K)
def slices_partitionEqualOrdered_int_b2 (i : Int) (data : Option Addr) (dataL : Nat) (dataC : Nat) (a : Int) (j : Int) (h : Hp) (nx0 : Int × Int × Unit → Hp → Prop) (nx1 : Int × Unit → Hp → Prop) (K : Value → Hp → Prop) : Prop :=
  sx_3 Tryz.prog F 84 (cp [1, 1, 1, 0, 2, 2, 2, 0, 2, 2] (bodyOf Tryz.f96)) (ap [1, 1, 1, 0, 2, 0, 2] slices_partitionEqualOrdered_int_an) [(9, .int .i64 i), (0, .slice data dataL dataC), (1, .int .i64 a), (10, .int .i64 j)] h (slices_partitionEqualOrdered_int_K7 nx0 nx1 K)
def slices_partitionEqualOrdered_int_b3 (data : Option Addr) (dataL : Nat) (dataC : Nat) (a : Int) (i : Int) (j : Int) (h : Hp) (nx0 : Int × Int × Unit → Hp → Prop) (nx1 : Int × Unit → Hp → Prop) (K : Value → Hp → Prop) : Prop :=
  sx_2 Tryz.prog F 84 (cp [1, 1, 1, 0, 2, 2, 2, 0, 2, 2, 1] (bodyOf Tryz.f96)) (ap [1, 1, 1, 0, 2, 0, 2, 1] slices_partitionEqualOrdered_int_an) [(0, .slice data dataL dataC), (1, .int .i64 a), (9, .int .i64 i), (10, .int .i64 j)] h (slices_partitionEqualOrdered_int_K7 nx0 nx1 K)
def slices_partitionEqualOrdered_int_b4 (data : Option Addr) (dataL : Nat) (dataC : Nat) (a : Int) (i : Int) (j : Int) (h : Hp) (nx0 : Int × Int × Unit → Hp → Prop) (K : Value → Hp → Prop) : Prop :=
  sx_3 Tryz.prog F 84 (cp [1, 1, 1, 0, 2, 2, 2, 1] (bodyOf Tryz.f96)) (ap [1, 1, 1, 0, 2, 1] slices_partitionEqualOrdered_int_an) [(0, .slice data dataL dataC), (1, .int .i64 a), (9, .int .i64 i), (10, .int .i64 j)] h (slices_partitionEqualOrdered_int_K4 nx0 K)
def slices_partitionEqualOrdered_int_b5 (j : Int) (data : Option Addr) (dataL : Nat) (dataC : Nat) (a : Int) (i : Int) (h : Hp) (nx0 : Int × Int × Unit → Hp → Prop) (nx1 : Int × Unit → Hp → Prop) (K : Value → Hp → Prop) : Prop :=
  sx_2 Tryz.prog F 84 (cp [1, 1, 1, 0, 2, 2, 2, 1, 0, 2, 2] (bodyOf Tryz.f96)) (ap [1, 1, 1, 0, 2, 1, 0, 2] slices_partitionEqualOrdered_int_an) [(10, .int .i64 j), (0, .slice data dataL dataC), (1, .int .i64 a), (9, .int .i64 i)] h (slices_partitionEqualOrdered_int_K10 nx0 nx1 K)
def slices_partitionEqualOrdered_int_b6 (data : Option Addr) (dataL : Nat) (dataC : Nat) (a : Int) (i : Int) (j : Int) (h : Hp) (nx0 : Int × Int × Unit → Hp → Prop) (nx1 : Int × Unit → Hp → Prop) (K : Value → Hp → Prop) : Prop :=
  sx_1 Tryz.prog F 84 (cp [1, 1, 1, 0, 2, 2, 2, 1, 0, 2, 2, 1] (bodyOf Tryz.f96)) (ap [1, 1, 1, 0, 2, 1, 0, 2, 1] slices_partitionEqualOrdered_int_an) [(0, .slice data dataL dataC), (1, .int .i64 a), (9, .int .i64 i), (10, .int .i64 j)] h (slices_partitionEqualOrdered_int_K10 nx0 nx1 K)
def slices_partitionEqualOrdered_int_b7 (data : Option Addr) (dataL : Nat) (dataC : Nat) (a : Int) (i : Int) (j : Int) (h : Hp) (nx0 : Int × Int × Unit → Hp → Prop) (K : Value → Hp → Prop) : Prop :=
  sx_2 Tryz.prog F 84 (cp [1, 1, 1, 0, 2, 2, 2, 1, 1] (bodyOf Tryz.f96)) (ap [1, 1, 1, 0, 2, 1, 1] slices_partitionEqualOrdered_int_an) [(0, .slice data dataL dataC), (1, .int .i64 a), (9, .int .i64 i), (10, .int .i64 j)] h (slices_partitionEqualOrdered_int_K4 nx0 K)
def slices_partitionEqualOrdered_int_b8 (i : Int) (h : Hp)  (K : Value → Hp → Prop) : Prop :=
  sx_4 Tryz.prog F 84 (cp [1, 1, 1, 1] (bodyOf Tryz.f96)) (ap [1, 1, 1, 1] slices_partitionEqualOrdered_int_an) [(9, .int .i64 i)] h (slices_partitionEqualOrdered_int_K0  K)
theorem slices_partitionEqualOrdered_int_b0_eq (data : Option Addr) (dataL : Nat) (dataC : Nat) (a : Int) (b : Int) (pivot : Int) (h : Hp)  (K : Value → Hp → Prop) : slices_partitionEqualOrdered_int_b0 data dataL dataC a b pivot h  K = (
  (0 ≤ pivot ∧ pivot < (dataL : Int)) ∧
  NN data fun a1 =>
  ∃ n1 : Int, cell h (a1.add (Int.toNat pivot * 1)) = some (.int .i64 n1) ∧
  (0 ≤ a ∧ a < (dataL : Int)) ∧
  NN data fun a2 =>
  ∃ n2 : Int, cell h (a2.add (Int.toNat a * 1)) = some (.int .i64 n2) ∧
  (0 ≤ a ∧ a < (dataL : Int)) ∧
  NN data fun a3 =>
  Wr h (a3.add (Int.toNat a * 1)) (.int .i64 n1) fun h1 =>
  (0 ≤ pivot ∧ pivot < (dataL : Int)) ∧
  NN data fun a4 =>
  Wr h1 (a4.add (Int.toNat pivot * 1)) (.int .i64 n2) fun h2 =>
  InR (a + 1) ∧
  InR (b - 1) ∧
  LoopVC ((a + 1, b - 1, ()) : Int × Int × Unit) h2 (fun (nx0 : Int × Int × Unit → Hp → Prop) (s1 : Int × Int × Unit) h3 => slices_partitionEqualOrdered_int_b1 s1.1 s1.2.1 data dataL dataC a h3 nx0 K)) := by kernel_rfl
theorem slices_partitionEqualOrdered_int_b1_eq (i : Int) (j : Int) (data : Option Addr) (dataL : Nat) (dataC : Nat) (a : Int) (h : Hp) (nx0 : Int × Int × Unit → Hp → Prop) (K : Value → Hp → Prop) : slices_partitionEqualOrdered_int_b1 i j data dataL dataC a h nx0 K = (
  LoopVC ((i, ()) : Int × Unit) h (fun (nx1 : Int × Unit → Hp → Prop) (s2 : Int × Unit) h4 => slices_partitionEqualOrdered_int_b2 s2.1 data dataL dataC a j h4 nx0 nx1 K)) := by kernel_rfl
theorem slices_partitionEqualOrdered_int_b2_eq (i : Int) (data : Option Addr) (dataL : Nat) (dataC : Nat) (a : Int) (j : Int) (h : Hp) (nx0 : Int × Int × Unit → Hp → Prop) (nx1 : Int × Unit → Hp → Prop) (K : Value → Hp → Prop) : slices_partitionEqualOrdered_int_b2 i data dataL dataC a j h nx0 nx1 K = (
  cond (decide (i ≤ j))
  ((0 ≤ a ∧ a < (dataL : Int)) ∧
  NN data fun a5 =>
  ∃ n3 : Int, cell h (a5.add (Int.toNat a * 1)) = some (.int .i64 n3) ∧
  (0 ≤ i ∧ i < (dataL : Int)) ∧
  NN data fun a6 =>
  ∃ n4 : Int, cell h (a6.add (Int.toNat i * 1)) = some (.int .i64 n4) ∧
  ∃ r1 : Bool, HCalls Tryz.prog 95 #[.int .i64 n3, .int .i64 n4] h (fun v1 h5 => v1 = .bool r1 ∧ h5 = h) ∧
  cond (!r1)
  (slices_partitionEqualOrdered_int_b3 data dataL dataC a i j h nx0 nx1 K)
  (slices_partitionEqualOrdered_int_b4 data dataL dataC a i j h nx0 K))
  (slices_partitionEqualOrdered_int_b4 data dataL dataC a i j h nx0 K)) := by kernel_rfl
theorem slices_partitionEqualOrdered_int_b3_eq (data : Option Addr) (dataL : Nat) (dataC : Nat) (a : Int) (i : Int) (j : Int) (h : Hp) (nx0 : Int × Int × Unit → Hp → Prop) (nx1 : Int × Unit → Hp → Prop) (K : Value → Hp → Prop) : slices_partitionEqualOrdered_int_b3 data dataL dataC a i j h nx0 nx1 K = (
  InR (i + 1) ∧
  nx1 (i + 1, ()) h) := by kernel_rfl
theorem slices_partitionEqualOrdered_int_b4_eq (data : Option Addr) (dataL : Nat) (dataC : Nat) (a : Int) (i : Int) (j : Int) (h : Hp) (nx0 : Int × Int × Unit → Hp → Prop) (K : Value → Hp → Prop) : slices_partitionEqualOrdered_int_b4 data dataL dataC a i j h nx0 K = (
  LoopVC ((j, ()) : Int × Unit) h (fun (nx1 : Int × Unit → Hp → Prop) (s3 : Int × Unit) h6 => slices_partitionEqualOrdered_int_b5 s3.1 data dataL dataC a i h6 nx0 nx1 K)) := by kernel_rfl
theorem slices_partitionEqualOrdered_int_b5_eq (j : Int) (data : Option Addr) (dataL : Nat) (dataC : Nat) (a : Int) (i : Int) (h : Hp) (nx0 : Int × Int × Unit → Hp → Prop) (nx1 : Int × Unit → Hp → Prop) (K : Value → Hp → Prop) : slices_partitionEqualOrdered_int_b5 j data dataL dataC a i h nx0 nx1 K = (
  cond (decide (i ≤ j))
  ((0 ≤ a ∧ a < (dataL : Int)) ∧
  NN data fun a7 =>
  ∃ n5 : Int, cell h (a7.add (Int.toNat a * 1)) = some (.int .i64 n5) ∧
  (0 ≤ j ∧ j < (dataL : Int)) ∧
  NN data fun a8 =>
  ∃ n6 : Int, cell h (a8.add (Int.toNat j * 1)) = some (.int .i64 n6) ∧
  ∃ r2 : Bool, HCalls Tryz.prog 95 #[.int .i64 n5, .int .i64 n6] h (fun v2 h7 => v2 = .bool r2 ∧ h7 = h) ∧
  cond r2
  (slices_partitionEqualOrdered_int_b6 data dataL dataC a i j h nx0 nx1 K)
  (slices_partitionEqualOrdered_int_b7 data dataL dataC a i j h nx0 K))
  (slices_partitionEqualOrdered_int_b7 data dataL dataC a i j h nx0 K)) := by kernel_rfl
theorem slices_partitionEqualOrdered_int_b6_eq (data : Option Addr) (dataL : Nat) (dataC : Nat) (a : Int) (i : Int) (j : Int) (h : Hp) (nx0 : Int × Int × Unit → Hp → Prop) (nx1 : Int × Unit → Hp → Prop) (K : Value → Hp → Prop) : slices_partitionEqualOrdered_int_b6 data dataL dataC a i j h nx0 nx1 K = (
  InR (j - 1) ∧
  nx1 (j - 1, ()) h) := by kernel_rfl
theorem slices_partitionEqualOrdered_int_b7_eq (data : Option Addr) (dataL : Nat) (dataC : Nat) (a : Int) (i : Int) (j : Int) (h : Hp) (nx0 : Int × Int × Unit → Hp → Prop) (K : Value → Hp → Prop) : slices_partitionEqualOrdered_int_b7 data dataL dataC a i j h nx0 K = (
  cond (decide (j < i))
  (slices_partitionEqualOrdered_int_b8 i h  K)
  ((0 ≤ j ∧ j < (dataL : Int)) ∧
  NN data fun a9 =>
  ∃ n7 : Int, cell h (a9.add (Int.toNat j * 1)) = some (.int .i64 n7) ∧
  (0 ≤ i ∧ i < (dataL : Int)) ∧
  NN data fun a10 =>
  ∃ n8 : Int, cell h (a10.add (Int.toNat i * 1)) = some (.int .i64 n8) ∧
  (0 ≤ i ∧ i < (dataL : Int)) ∧
  NN data fun a11 =>
  Wr h (a11.add (Int.toNat i * 1)) (.int .i64 n7) fun h8 =>
  (0 ≤ j ∧ j < (dataL : Int)) ∧
  NN data fun a12 =>
  Wr h8 (a12.add (Int.toNat j * 1)) (.int .i64 n8) fun h9 =>
  InR (i + 1) ∧
  InR (j - 1) ∧
  nx0 (i + 1, j - 1, ()) h9)) := by kernel_rfl
theorem slices_partitionEqualOrdered_int_b8_eq (i : Int) (h : Hp)  (K : Value → Hp → Prop) : slices_partitionEqualOrdered_int_b8 i h  K = (
  K (.int .i64 i) h) := by kernel_rfl
theorem slices_partitionEqualOrdered_int_call {data : Option Addr} {dataL : Nat} {dataC : Nat} {a : Int} {b : Int} {pivot : Int} {h : Hp} {K : Value → Hp → Prop} (hk : slices_partitionEqualOrdered_int_b0 data dataL dataC a b pivot h K) : HCalls Tryz.prog 96 #[.slice data dataL dataC, .int .i64 a, .int .i64 b, .int .i64 pivot] h K :=
  calls_of_snd slices_partitionEqualOrdered_int_an Tryz.func96 (c := bodyOf Tryz.f96) rfl Tryz.ntmps96 (Nat.le_of_ble_eq_true rfl) (snd_5 F_ok F_mixed) hk

end Go.Proofs.YtfkccighnkepgaaGreat
