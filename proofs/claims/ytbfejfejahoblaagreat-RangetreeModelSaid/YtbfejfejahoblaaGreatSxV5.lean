/- Plain statements of what each block of code of this seat asks; printed by a program, checked by Lean. -/
import Derived.Test.YtbfejfejahoblaaGreatSxV0
set_option maxRecDepth 10000
namespace Go.Proofs.YtbfejfejahoblaaGreat
open Go Go.Sx

/-! ### slices_partitionEqualCmpFunc_api_Point -/
def slices_partitionEqualCmpFunc_api_Point_an : Ann := .node none (.leaf) (.node none (.plan (.qu 0 (.qu 1 (.qu 2 (.qu 3 (.qu 4 (.qu 5 (.qu 6 (.qu 7 (.qu 8 (.qu 9 (.qu 10 (.qu 11 (.qu 12 (.wo 13 (.qu 14 (.wo 15 .fin .no)) .no))))))))))))))) (.node none (.leaf) (.node (some [11]) (.loop [0, 1, 4] [(11, .int .i64), (12, .int .i64)] (.node (some [0, 1, 4, 11, 12]) (.loop [0, 1, 4, 12] [(11, .int .i64)] (.node (some [0, 1, 4, 11, 12]) (.node none (.tail 13) (.leaf)) (.leaf))) (.node (some [0, 1, 4, 11, 12]) (.loop [0, 1, 4, 11] [(12, .int .i64)] (.node (some [0, 1, 4, 11, 12]) (.node none (.tail 13) (.leaf)) (.leaf))) (.node none (.leaf) (.node none (.plan (.qu 0 (.qu 1 (.qu 2 (.qu 3 (.qu 4 (.qu 5 (.qu 6 (.qu 7 (.qu 8 (.qu 9 (.qu 10 (.qu 11 (.qu 12 (.wo 13 (.qu 14 (.wo 15 .fin .no)) .no))))))))))))))) (.leaf)))))) (.leaf))))
def slices_partitionEqualCmpFunc_api_Point_K0  (K : Value → Hp → Prop) : Exit → Env → Hp → Prop := retK Tryz.prog Tryz.f96.results.toList K
def slices_partitionEqualCmpFunc_api_Point_K1  (K : Value → Hp → Prop) : Exit → Env → Hp → Prop := thenE (fun env h => sx_4 Tryz.prog F 90 (cp [1, 1, 1, 1] (bodyOf Tryz.f96)) (ap [1, 1, 1, 1] slices_partitionEqualCmpFunc_api_Point_an) (rs [11] env) h (slices_partitionEqualCmpFunc_api_Point_K0  K)) (slices_partitionEqualCmpFunc_api_Point_K0  K)
def slices_partitionEqualCmpFunc_api_Point_K2  (K : Value → Hp → Prop) : Exit → Env → Hp → Prop := blockE 0 (slices_partitionEqualCmpFunc_api_Point_K1  K)
def slices_partitionEqualCmpFunc_api_Point_K3 (nx0 : Int × Int × Unit → Hp → Prop) (K : Value → Hp → Prop) : Exit → Env → Hp → Prop := thenE (fun env h => getV [(11, .int .i64), (12, .int .i64)] env fun s => nx0 s h) (slices_partitionEqualCmpFunc_api_Point_K2  K)
def slices_partitionEqualCmpFunc_api_Point_K4 (nx0 : Int × Int × Unit → Hp → Prop) (K : Value → Hp → Prop) : Exit → Env → Hp → Prop := blockE 1 (slices_partitionEqualCmpFunc_api_Point_K3 nx0 K)
def slices_partitionEqualCmpFunc_api_Point_K5 (nx0 : Int × Int × Unit → Hp → Prop) (K : Value → Hp → Prop) : Exit → Env → Hp → Prop := thenE (fun env h => sx_3 Tryz.prog F 90 (cp [1, 1, 1, 0, 2, 2, 2, 1] (bodyOf Tryz.f96)) (ap [1, 1, 1, 0, 2, 1] slices_partitionEqualCmpFunc_api_Point_an) (rs [0, 1, 4, 11, 12] env) h (slices_partitionEqualCmpFunc_api_Point_K4 nx0 K)) (slices_partitionEqualCmpFunc_api_Point_K4 nx0 K)
def slices_partitionEqualCmpFunc_api_Point_K6 (nx0 : Int × Int × Unit → Hp → Prop) (K : Value → Hp → Prop) : Exit → Env → Hp → Prop := blockE 2 (slices_partitionEqualCmpFunc_api_Point_K5 nx0 K)
def slices_partitionEqualCmpFunc_api_Point_K7 (nx0 : Int × Int × Unit → Hp → Prop) (nx1 : Int × Unit → Hp → Prop) (K : Value → Hp → Prop) : Exit → Env → Hp → Prop := thenE (fun env h => getV [(11, .int .i64)] env fun s => nx1 s h) (slices_partitionEqualCmpFunc_api_Point_K6 nx0 K)
def slices_partitionEqualCmpFunc_api_Point_K8 (nx0 : Int × Int × Unit → Hp → Prop) (K : Value → Hp → Prop) : Exit → Env → Hp → Prop := thenE (fun env h => sx_2 Tryz.prog F 90 (cp [1, 1, 1, 0, 2, 2, 2, 1, 1] (bodyOf Tryz.f96)) (ap [1, 1, 1, 0, 2, 1, 1] slices_partitionEqualCmpFunc_api_Point_an) (rs [0, 1, 4, 11, 12] env) h (slices_partitionEqualCmpFunc_api_Point_K4 nx0 K)) (slices_partitionEqualCmpFunc_api_Point_K4 nx0 K)
def slices_partitionEqualCmpFunc_api_Point_K9 (nx0 : Int × Int × Unit → Hp → Prop) (K : Value → Hp → Prop) : Exit → Env → Hp → Prop := blockE 4 (slices_partitionEqualCmpFunc_api_Point_K8 nx0 K)
def slices_partitionEqualCmpFunc_api_Point_K10 (nx0 : Int × Int × Unit → Hp → Prop) (nx1 : Int × Unit → Hp → Prop) (K : Value → Hp → Prop) : Exit → Env → Hp → Prop := thenE (fun env h => getV [(12, .int .i64)] env fun s => nx1 s h) (slices_partitionEqualCmpFunc_api_Point_K9 nx0 K)
def slices_partitionEqualCmpFunc_api_Point_b0 (data : Option Addr) (dataL : Nat) (dataC : Nat) (a : Int) (b : Int) (pivot : Int) (cmp : Value) (h : Hp)  (K : Value → Hp → Prop) : Prop :=
  sx_5 Tryz.prog F 90 (cp [] (bodyOf Tryz.f96)) (ap [] slices_partitionEqualCmpFunc_api_Point_an) [(0, .slice data dataL dataC), (1, .int .i64 a), (2, .int .i64 b), (3, .int .i64 pivot), (4, cmp)] h (slices_partitionEqualCmpFunc_api_Point_K0  K)
def slices_partitionEqualCmpFunc_api_Point_b1 (i : Int) (j : Int) (data : Option Addr) (dataL : Nat) (dataC : Nat) (a : Int) (cmp : Value) (h : Hp) (nx0 : Int × Int × Unit → Hp → Prop) (K : Value → Hp → Prop) : Prop :=
  sx_4 Tryz.prog F 90 (cp [1, 1, 1, 0, 2, 2] (bodyOf Tryz.f96)) (ap [1, 1, 1, 0, 2] slices_partitionEqualCmpFunc_api_Point_an) [(11, .int .i64 i), (12, .int .i64 j), (0, .slice data dataL dataC), (1, .int .i64 a), (4, cmp)] h (slices_partitionEqualCmpFunc_api_Point_K3 nx0 K)
def slices_partitionEqualCmpFunc_api_Point_b2 (i : Int) (data : Option Addr) (dataL : Nat) (dataC : Nat) (a : Int) (cmp : Value) (j : Int) (h : Hp) (nx0 : Int × Int × Unit → Hp → Prop) (nx1 : Int × Unit → Hp → Prop) (K : Value → Hp → Prop) : Prop :=
  sx_3 Tryz.prog F 90 (cp [1, 1, 1, 0, 2, 2, 2, 0, 2, 2] (bodyOf Tryz.f96)) (ap [1, 1, 1, 0, 2, 0, 2] slices_partitionEqualCmpFunc_api_Point_an) [(11, .int .i64 i), (0, .slice data dataL dataC), (1, .int .i64 a), (4, cmp), (12, .int .i64 j)] h (slices_partitionEqualCmpFunc_api_Point_K7 nx0 nx1 K)
def slices_partitionEqualCmpFunc_api_Point_b3 (data : Option Addr) (dataL : Nat) (dataC : Nat) (a : Int) (cmp : Value) (i : Int) (j : Int) (h : Hp) (nx0 : Int × Int × Unit → Hp → Prop) (nx1 : Int × Unit → Hp → Prop) (K : Value → Hp → Prop) : Prop :=
  sx_2 Tryz.prog F 90 (cp [1, 1, 1, 0, 2, 2, 2, 0, 2, 2, 1] (bodyOf Tryz.f96)) (ap [1, 1, 1, 0, 2, 0, 2, 1] slices_partitionEqualCmpFunc_api_Point_an) [(0, .slice data dataL dataC), (1, .int .i64 a), (4, cmp), (11, .int .i64 i), (12, .int .i64 j)] h (slices_partitionEqualCmpFunc_api_Point_K7 nx0 nx1 K)
def slices_partitionEqualCmpFunc_api_Point_b4 (data : Option Addr) (dataL : Nat) (dataC : Nat) (a : Int) (cmp : Value) (i : Int) (j : Int) (h : Hp) (nx0 : Int × Int × Unit → Hp → Prop) (K : Value → Hp → Prop) : Prop :=
  sx_3 Tryz.prog F 90 (cp [1, 1, 1, 0, 2, 2, 2, 1] (bodyOf Tryz.f96)) (ap [1, 1, 1, 0, 2, 1] slices_partitionEqualCmpFunc_api_Point_an) [(0, .slice data dataL dataC), (1, .int .i64 a), (4, cmp), (11, .int .i64 i), (12, .int .i64 j)] h (slices_partitionEqualCmpFunc_api_Point_K4 nx0 K)
def slices_partitionEqualCmpFunc_api_Point_b5 (j : Int) (data : Option Addr) (dataL : Nat) (dataC : Nat) (a : Int) (cmp : Value) (i : Int) (h : Hp) (nx0 : Int × Int × Unit → Hp → Prop) (nx1 : Int × Unit → Hp → Prop) (K : Value → Hp → Prop) : Prop :=
  sx_2 Tryz.prog F 90 (cp [1, 1, 1, 0, 2, 2, 2, 1, 0, 2, 2] (bodyOf Tryz.f96)) (ap [1, 1, 1, 0, 2, 1, 0, 2] slices_partitionEqualCmpFunc_api_Point_an) [(12, .int .i64 j), (0, .slice data dataL dataC), (1, .int .i64 a), (4, cmp), (11, .int .i64 i)] h (slices_partitionEqualCmpFunc_api_Point_K10 nx0 nx1 K)
def slices_partitionEqualCmpFunc_api_Point_b6 (data : Option Addr) (dataL : Nat) (dataC : Nat) (a : Int) (cmp : Value) (i : Int) (j : Int) (h : Hp) (nx0 : Int × Int × Unit → Hp → Prop) (nx1 : Int × Unit → Hp → Prop) (K : Value → Hp → Prop) : Prop :=
  sx_1 Tryz.prog F 90 (cp [1, 1, 1, 0, 2, 2, 2, 1, 0, 2, 2, 1] (bodyOf Tryz.f96)) (ap [1, 1, 1, 0, 2, 1, 0, 2, 1] slices_partitionEqualCmpFunc_api_Point_an) [(0, .slice data dataL dataC), (1, .int .i64 a), (4, cmp), (11, .int .i64 i), (12, .int .i64 j)] h (slices_partitionEqualCmpFunc_api_Point_K10 nx0 nx1 K)
def slices_partitionEqualCmpFunc_api_Point_b7 (data : Option Addr) (dataL : Nat) (dataC : Nat) (a : Int) (cmp : Value) (i : Int) (j : Int) (h : Hp) (nx0 : Int × Int × Unit → Hp → Prop) (K : Value → Hp → Prop) : Prop :=
  sx_2 Tryz.prog F 90 (cp [1, 1, 1, 0, 2, 2, 2, 1, 1] (bodyOf Tryz.f96)) (ap [1, 1, 1, 0, 2, 1, 1] slices_partitionEqualCmpFunc_api_Point_an) [(0, .slice data dataL dataC), (1, .int .i64 a), (4, cmp), (11, .int .i64 i), (12, .int .i64 j)] h (slices_partitionEqualCmpFunc_api_Point_K4 nx0 K)
def slices_partitionEqualCmpFunc_api_Point_b8 (i : Int) (h : Hp)  (K : Value → Hp → Prop) : Prop :=
  sx_4 Tryz.prog F 90 (cp [1, 1, 1, 1] (bodyOf Tryz.f96)) (ap [1, 1, 1, 1] slices_partitionEqualCmpFunc_api_Point_an) [(11, .int .i64 i)] h (slices_partitionEqualCmpFunc_api_Point_K0  K)
theorem slices_partitionEqualCmpFunc_api_Point_b0_eq (data : Option Addr) (dataL : Nat) (dataC : Nat) (a : Int) (b : Int) (pivot : Int) (cmp : Value) (h : Hp)  (K : Value → Hp → Prop) : slices_partitionEqualCmpFunc_api_Point_b0 data dataL dataC a b pivot cmp h  K = (
  (0 ≤ pivot ∧ pivot < (dataL : Int)) ∧
  NN data fun a1 =>
  ∃ n1 : Int, ∃ n2 : Int, ∃ n3 : Int, cell h (a1.add (Int.toNat pivot * 3)) = some (.int .i64 n1) ∧
  cell h ((a1.add (Int.toNat pivot * 3)).add 1) = some (.int .i64 n2) ∧
  cell h ((a1.add (Int.toNat pivot * 3)).add 2) = some (.int .i64 n3) ∧
  (0 ≤ a ∧ a < (dataL : Int)) ∧
  NN data fun a2 =>
  ∃ n4 : Int, ∃ n5 : Int, ∃ n6 : Int, cell h (a2.add (Int.toNat a * 3)) = some (.int .i64 n4) ∧
  cell h ((a2.add (Int.toNat a * 3)).add 1) = some (.int .i64 n5) ∧
  cell h ((a2.add (Int.toNat a * 3)).add 2) = some (.int .i64 n6) ∧
  (0 ≤ a ∧ a < (dataL : Int)) ∧
  NN data fun a3 =>
  Wr h (a3.add (Int.toNat a * 3)) (.int .i64 n1) fun h1 =>
  Wr h1 ((a3.add (Int.toNat a * 3)).add 1) (.int .i64 n2) fun h2 =>
  Wr h2 ((a3.add (Int.toNat a * 3)).add 2) (.int .i64 n3) fun h3 =>
  (0 ≤ pivot ∧ pivot < (dataL : Int)) ∧
  NN data fun a4 =>
  Wr h3 (a4.add (Int.toNat pivot * 3)) (.int .i64 n4) fun h4 =>
  Wr h4 ((a4.add (Int.toNat pivot * 3)).add 1) (.int .i64 n5) fun h5 =>
  Wr h5 ((a4.add (Int.toNat pivot * 3)).add 2) (.int .i64 n6) fun h6 =>
  InR (a + 1) ∧
  InR (b - 1) ∧
  LoopVC ((a + 1, b - 1, ()) : Int × Int × Unit) h6 (fun (nx0 : Int × Int × Unit → Hp → Prop) (s1 : Int × Int × Unit) h7 => slices_partitionEqualCmpFunc_api_Point_b1 s1.1 s1.2.1 data dataL dataC a cmp h7 nx0 K)) := by kernel_rfl
theorem slices_partitionEqualCmpFunc_api_Point_b1_eq (i : Int) (j : Int) (data : Option Addr) (dataL : Nat) (dataC : Nat) (a : Int) (cmp : Value) (h : Hp) (nx0 : Int × Int × Unit → Hp → Prop) (K : Value → Hp → Prop) : slices_partitionEqualCmpFunc_api_Point_b1 i j data dataL dataC a cmp h nx0 K = (
  LoopVC ((i, ()) : Int × Unit) h (fun (nx1 : Int × Unit → Hp → Prop) (s2 : Int × Unit) h8 => slices_partitionEqualCmpFunc_api_Point_b2 s2.1 data dataL dataC a cmp j h8 nx0 nx1 K)) := by kernel_rfl
theorem slices_partitionEqualCmpFunc_api_Point_b2_eq (i : Int) (data : Option Addr) (dataL : Nat) (dataC : Nat) (a : Int) (cmp : Value) (j : Int) (h : Hp) (nx0 : Int × Int × Unit → Hp → Prop) (nx1 : Int × Unit → Hp → Prop) (K : Value → Hp → Prop) : slices_partitionEqualCmpFunc_api_Point_b2 i data dataL dataC a cmp j h nx0 nx1 K = (
  cond (decide (i ≤ j))
  ((0 ≤ a ∧ a < (dataL : Int)) ∧
  NN data fun a5 =>
  ∃ n7 : Int, ∃ n8 : Int, ∃ n9 : Int, cell h (a5.add (Int.toNat a * 3)) = some (.int .i64 n7) ∧
  cell h ((a5.add (Int.toNat a * 3)).add 1) = some (.int .i64 n8) ∧
  cell h ((a5.add (Int.toNat a * 3)).add 2) = some (.int .i64 n9) ∧
  (0 ≤ i ∧ i < (dataL : Int)) ∧
  NN data fun a6 =>
  ∃ n10 : Int, ∃ n11 : Int, ∃ n12 : Int, cell h (a6.add (Int.toNat i * 3)) = some (.int .i64 n10) ∧
  cell h ((a6.add (Int.toNat i * 3)).add 1) = some (.int .i64 n11) ∧
  cell h ((a6.add (Int.toNat i * 3)).add 2) = some (.int .i64 n12) ∧
  funV cmp fun fg1 fa1 fc1 => callX Tryz.prog F fg1 (fa1 ++ (([.agg #[.int .i64 n7, .int .i64 n8, .int .i64 n9], .agg #[.int .i64 n10, .int .i64 n11, .int .i64 n12]] : List Value) ++ fc1)).toArray h fun v1 h9 => ∃ r1 : Int, v1 = .int .i64 r1 ∧
  cond (!(decide (r1 < 0)))
  (slices_partitionEqualCmpFunc_api_Point_b3 data dataL dataC a cmp i j h9 nx0 nx1 K)
  (slices_partitionEqualCmpFunc_api_Point_b4 data dataL dataC a cmp i j h9 nx0 K))
  (slices_partitionEqualCmpFunc_api_Point_b4 data dataL dataC a cmp i j h nx0 K)) := by kernel_rfl
theorem slices_partitionEqualCmpFunc_api_Point_b3_eq (data : Option Addr) (dataL : Nat) (dataC : Nat) (a : Int) (cmp : Value) (i : Int) (j : Int) (h : Hp) (nx0 : Int × Int × Unit → Hp → Prop) (nx1 : Int × Unit → Hp → Prop) (K : Value → Hp → Prop) : slices_partitionEqualCmpFunc_api_Point_b3 data dataL dataC a cmp i j h nx0 nx1 K = (
  InR (i + 1) ∧
  nx1 (i + 1, ()) h) := by kernel_rfl
theorem slices_partitionEqualCmpFunc_api_Point_b4_eq (data : Option Addr) (dataL : Nat) (dataC : Nat) (a : Int) (cmp : Value) (i : Int) (j : Int) (h : Hp) (nx0 : Int × Int × Unit → Hp → Prop) (K : Value → Hp → Prop) : slices_partitionEqualCmpFunc_api_Point_b4 data dataL dataC a cmp i j h nx0 K = (
  LoopVC ((j, ()) : Int × Unit) h (fun (nx1 : Int × Unit → Hp → Prop) (s3 : Int × Unit) h10 => slices_partitionEqualCmpFunc_api_Point_b5 s3.1 data dataL dataC a cmp i h10 nx0 nx1 K)) := by kernel_rfl
theorem slices_partitionEqualCmpFunc_api_Point_b5_eq (j : Int) (data : Option Addr) (dataL : Nat) (dataC : Nat) (a : Int) (cmp : Value) (i : Int) (h : Hp) (nx0 : Int × Int × Unit → Hp → Prop) (nx1 : Int × Unit → Hp → Prop) (K : Value → Hp → Prop) : slices_partitionEqualCmpFunc_api_Point_b5 j data dataL dataC a cmp i h nx0 nx1 K = (
  cond (decide (i ≤ j))
  ((0 ≤ a ∧ a < (dataL : Int)) ∧
  NN data fun a7 =>
  ∃ n13 : Int, ∃ n14 : Int, ∃ n15 : Int, cell h (a7.add (Int.toNat a * 3)) = some (.int .i64 n13) ∧
  cell h ((a7.add (Int.toNat a * 3)).add 1) = some (.int .i64 n14) ∧
  cell h ((a7.add (Int.toNat a * 3)).add 2) = some (.int .i64 n15) ∧
  (0 ≤ j ∧ j < (dataL : Int)) ∧
  NN data fun a8 =>
  ∃ n16 : Int, ∃ n17 : Int, ∃ n18 : Int, cell h (a8.add (Int.toNat j * 3)) = some (.int .i64 n16) ∧
  cell h ((a8.add (Int.toNat j * 3)).add 1) = some (.int .i64 n17) ∧
  cell h ((a8.add (Int.toNat j * 3)).add 2) = some (.int .i64 n18) ∧
  funV cmp fun fg2 fa2 fc2 => callX Tryz.prog F fg2 (fa2 ++ (([.agg #[.int .i64 n13, .int .i64 n14, .int .i64 n15], .agg #[.int .i64 n16, .int .i64 n17, .int .i64 n18]] : List Value) ++ fc2)).toArray h fun v2 h11 => ∃ r2 : Int, v2 = .int .i64 r2 ∧
  cond (decide (r2 < 0))
  (slices_partitionEqualCmpFunc_api_Point_b6 data dataL dataC a cmp i j h11 nx0 nx1 K)
  (slices_partitionEqualCmpFunc_api_Point_b7 data dataL dataC a cmp i j h11 nx0 K))
  (slices_partitionEqualCmpFunc_api_Point_b7 data dataL dataC a cmp i j h nx0 K)) := by kernel_rfl
theorem slices_partitionEqualCmpFunc_api_Point_b6_eq (data : Option Addr) (dataL : Nat) (dataC : Nat) (a : Int) (cmp : Value) (i : Int) (j : Int) (h : Hp) (nx0 : Int × Int × Unit → Hp → Prop) (nx1 : Int × Unit → Hp → Prop) (K : Value → Hp → Prop) : slices_partitionEqualCmpFunc_api_Point_b6 data dataL dataC a cmp i j h nx0 nx1 K = (
  InR (j - 1) ∧
  nx1 (j - 1, ()) h) := by kernel_rfl
theorem slices_partitionEqualCmpFunc_api_Point_b7_eq (data : Option Addr) (dataL : Nat) (dataC : Nat) (a : Int) (cmp : Value) (i : Int) (j : Int) (h : Hp) (nx0 : Int × Int × Unit → Hp → Prop) (K : Value → Hp → Prop) : slices_partitionEqualCmpFunc_api_Point_b7 data dataL dataC a cmp i j h nx0 K = (
  cond (decide (j < i))
  (slices_partitionEqualCmpFunc_api_Point_b8 i h  K)
  ((0 ≤ j ∧ j < (dataL : Int)) ∧
  NN data fun a9 =>
  ∃ n19 : Int, ∃ n20 : Int, ∃ n21 : Int, cell h (a9.add (Int.toNat j * 3)) = some (.int .i64 n19) ∧
  cell h ((a9.add (Int.toNat j * 3)).add 1) = some (.int .i64 n20) ∧
  cell h ((a9.add (Int.toNat j * 3)).add 2) = some (.int .i64 n21) ∧
  (0 ≤ i ∧ i < (dataL : Int)) ∧
  NN data fun a10 =>
  ∃ n22 : Int, ∃ n23 : Int, ∃ n24 : Int, cell h (a10.add (Int.toNat i * 3)) = some (.int .i64 n22) ∧
  cell h ((a10.add (Int.toNat i * 3)).add 1) = some (.int .i64 n23) ∧
  cell h ((a10.add (Int.toNat i * 3)).add 2) = some (.int .i64 n24) ∧
  (0 ≤ i ∧ i < (dataL : Int)) ∧
  NN data fun a11 =>
  Wr h (a11.add (Int.toNat i * 3)) (.int .i64 n19) fun h12 =>
  Wr h12 ((a11.add (Int.toNat i * 3)).add 1) (.int .i64 n20) fun h13 =>
  Wr h13 ((a11.add (Int.toNat i * 3)).add 2) (.int .i64 n21) fun h14 =>
  (0 ≤ j ∧ j < (dataL : Int)) ∧
  NN data fun a12 =>
  Wr h14 (a12.add (Int.toNat j * 3)) (.int .i64 n22) fun h15 =>
  Wr h15 ((a12.add (Int.toNat j * 3)).add 1) (.int .i64 n23) fun h16 =>
  Wr h16 ((a12.add (Int.toNat j * 3)).add 2) (.int .i64 n24) fun h17 =>
  InR (i + 1) ∧
  InR (j - 1) ∧
  nx0 (i + 1, j - 1, ()) h17)) := by kernel_rfl
theorem slices_partitionEqualCmpFunc_api_Point_b8_eq (i : Int) (h : Hp)  (K : Value → Hp → Prop) : slices_partitionEqualCmpFunc_api_Point_b8 i h  K = (
  K (.int .i64 i) h) := by kernel_rfl
theorem slices_partitionEqualCmpFunc_api_Point_call {data : Option Addr} {dataL : Nat} {dataC : Nat} {a : Int} {b : Int} {pivot : Int} {cmp : Value} {h : Hp} {K : Value → Hp → Prop} (hk : slices_partitionEqualCmpFunc_api_Point_b0 data dataL dataC a b pivot cmp h K) : HCalls Tryz.prog 96 #[.slice data dataL dataC, .int .i64 a, .int .i64 b, .int .i64 pivot, cmp] h K :=
  calls_of_snd slices_partitionEqualCmpFunc_api_Point_an Tryz.func96 (c := bodyOf Tryz.f96) rfl Tryz.ntmps96 (Nat.le_of_ble_eq_true rfl) (snd_5 F_ok F_mixed) hk

/-! ### slices_partitionCmpFunc_api_Point -/
def slices_partitionCmpFunc_api_Point_an : Ann := .node none (.leaf) (.node none (.plan (.qu 0 (.qu 1 (.qu 2 (.qu 3 (.qu 4 (.qu 5 (.qu 6 (.qu 7 (.qu 8 (.qu 9 (.qu 10 (.qu 11 (.qu 12 (.wo 13 (.qu 14 (.wo 15 .fin .no)) .no))))))))))))))) (.node none (.leaf) (.node (some [0, 1, 4, 12, 13]) (.loop [0, 1, 4, 13] [(12, .int .i64)] (.node (some [0, 1, 4, 12, 13]) (.node none (.tail 13) (.leaf)) (.leaf))) (.node (some [0, 1, 4, 12, 13]) (.loop [0, 1, 4, 12] [(13, .int .i64)] (.node (some [0, 1, 4, 12, 13]) (.node none (.tail 13) (.leaf)) (.leaf))) (.node none (.node none (.leaf) (.node none (.node none (.plan (.qu 0 (.qu 1 (.qu 2 (.qu 3 (.qu 4 (.qu 5 (.qu 6 (.qu 7 (.qu 8 (.qu 9 (.qu 10 (.qu 11 (.qu 12 (.wo 13 (.qu 14 (.wo 15 .fin .no)) .no))))))))))))))) (.leaf)) (.leaf))) (.node none (.plan (.qu 0 (.qu 1 (.qu 2 (.qu 3 (.qu 4 (.qu 5 (.qu 6 (.qu 7 (.qu 8 (.qu 9 (.qu 10 (.qu 11 (.qu 12 (.wo 13 (.qu 14 (.wo 15 .fin .no)) .no))))))))))))))) (.node none (.leaf) (.node none (.leaf) (.node (some [0, 1, 13]) (.loop [0, 1, 4] [(12, .int .i64), (13, .int .i64)] (.node (some [0, 1, 4, 12, 13]) (.loop [0, 1, 4, 13] [(12, .int .i64)] (.node (some [0, 1, 4, 12, 13]) (.node none (.tail 13) (.leaf)) (.leaf))) (.node (some [0, 1, 4, 12, 13]) (.loop [0, 1, 4, 12] [(13, .int .i64)] (.node (some [0, 1, 4, 12, 13]) (.node none (.tail 13) (.leaf)) (.leaf))) (.node none (.leaf) (.node none (.plan (.qu 0 (.qu 1 (.qu 2 (.qu 3 (.qu 4 (.qu 5 (.qu 6 (.qu 7 (.qu 8 (.qu 9 (.qu 10 (.qu 11 (.qu 12 (.wo 13 (.qu 14 (.wo 15 .fin .no)) .no))))))))))))))) (.leaf)))))) (.node none (.plan (.qu 0 (.qu 1 (.qu 2 (.qu 3 (.qu 4 (.qu 5 (.qu 6 (.qu 7 (.qu 8 (.qu 9 (.qu 10 (.qu 11 (.qu 12 (.wo 13 (.qu 14 (.wo 15 .fin .no)) .no))))))))))))))) (.leaf)))))))))))
def slices_partitionCmpFunc_api_Point_K0  (K : Value → Hp → Prop) : Exit → Env → Hp → Prop := retK Tryz.prog Tryz.f97.results.toList K
def slices_partitionCmpFunc_api_Point_K1  (K : Value → Hp → Prop) : Exit → Env → Hp → Prop := thenE (fun env h => sx_6 Tryz.prog F 178 (cp [1, 1, 1, 1] (bodyOf Tryz.f97)) (ap [1, 1, 1, 1] slices_partitionCmpFunc_api_Point_an) (rs [0, 1, 4, 12, 13] env) h (slices_partitionCmpFunc_api_Point_K0  K)) (slices_partitionCmpFunc_api_Point_K0  K)
def slices_partitionCmpFunc_api_Point_K2  (K : Value → Hp → Prop) : Exit → Env → Hp → Prop := blockE 0 (slices_partitionCmpFunc_api_Point_K1  K)
def slices_partitionCmpFunc_api_Point_K3 (nx0 : Int × Unit → Hp → Prop) (K : Value → Hp → Prop) : Exit → Env → Hp → Prop := thenE (fun env h => getV [(12, .int .i64)] env fun s => nx0 s h) (slices_partitionCmpFunc_api_Point_K2  K)
def slices_partitionCmpFunc_api_Point_K4  (K : Value → Hp → Prop) : Exit → Env → Hp → Prop := thenE (fun env h => sx_5 Tryz.prog F 178 (cp [1, 1, 1, 1, 1] (bodyOf Tryz.f97)) (ap [1, 1, 1, 1, 1] slices_partitionCmpFunc_api_Point_an) (rs [0, 1, 4, 12, 13] env) h (slices_partitionCmpFunc_api_Point_K0  K)) (slices_partitionCmpFunc_api_Point_K0  K)
def slices_partitionCmpFunc_api_Point_K5  (K : Value → Hp → Prop) : Exit → Env → Hp → Prop := blockE 2 (slices_partitionCmpFunc_api_Point_K4  K)
def slices_partitionCmpFunc_api_Point_K6 (nx0 : Int × Unit → Hp → Prop) (K : Value → Hp → Prop) : Exit → Env → Hp → Prop := thenE (fun env h => getV [(13, .int .i64)] env fun s => nx0 s h) (slices_partitionCmpFunc_api_Point_K5  K)
def slices_partitionCmpFunc_api_Point_K7  (K : Value → Hp → Prop) : Exit → Env → Hp → Prop := thenE (fun env h => sx_4 Tryz.prog F 178 (cp [1, 1, 1, 1, 1, 1, 1, 1, 1, 1] (bodyOf Tryz.f97)) (ap [1, 1, 1, 1, 1, 1, 1, 1, 1, 1] slices_partitionCmpFunc_api_Point_an) (rs [0, 1, 13] env) h (slices_partitionCmpFunc_api_Point_K0  K)) (slices_partitionCmpFunc_api_Point_K0  K)
def slices_partitionCmpFunc_api_Point_K8  (K : Value → Hp → Prop) : Exit → Env → Hp → Prop := blockE 4 (slices_partitionCmpFunc_api_Point_K7  K)
def slices_partitionCmpFunc_api_Point_K9 (nx0 : Int × Int × Unit → Hp → Prop) (K : Value → Hp → Prop) : Exit → Env → Hp → Prop := thenE (fun env h => getV [(12, .int .i64), (13, .int .i64)] env fun s => nx0 s h) (slices_partitionCmpFunc_api_Point_K8  K)
def slices_partitionCmpFunc_api_Point_K10 (nx0 : Int × Int × Unit → Hp → Prop) (K : Value → Hp → Prop) : Exit → Env → Hp → Prop := blockE 5 (slices_partitionCmpFunc_api_Point_K9 nx0 K)
def slices_partitionCmpFunc_api_Point_K11 (nx0 : Int × Int × Unit → Hp → Prop) (K : Value → Hp → Prop) : Exit → Env → Hp → Prop := thenE (fun env h => sx_3 Tryz.prog F 178 (cp [1, 1, 1, 1, 1, 1, 1, 1, 1, 0, 2, 2, 2, 1] (bodyOf Tryz.f97)) (ap [1, 1, 1, 1, 1, 1, 1, 1, 1, 0, 2, 1] slices_partitionCmpFunc_api_Point_an) (rs [0, 1, 4, 12, 13] env) h (slices_partitionCmpFunc_api_Point_K10 nx0 K)) (slices_partitionCmpFunc_api_Point_K10 nx0 K)
def slices_partitionCmpFunc_api_Point_K12 (nx0 : Int × Int × Unit → Hp → Prop) (K : Value → Hp → Prop) : Exit → Env → Hp → Prop := blockE 6 (slices_partitionCmpFunc_api_Point_K11 nx0 K)
def slices_partitionCmpFunc_api_Point_K13 (nx0 : Int × Int × Unit → Hp → Prop) (nx1 : Int × Unit → Hp → Prop) (K : Value → Hp → Prop) : Exit → Env → Hp → Prop := thenE (fun env h => getV [(12, .int .i64)] env fun s => nx1 s h) (slices_partitionCmpFunc_api_Point_K12 nx0 K)
def slices_partitionCmpFunc_api_Point_K14 (nx0 : Int × Int × Unit → Hp → Prop) (K : Value → Hp → Prop) : Exit → Env → Hp → Prop := thenE (fun env h => sx_2 Tryz.prog F 178 (cp [1, 1, 1, 1, 1, 1, 1, 1, 1, 0, 2, 2, 2, 1, 1] (bodyOf Tryz.f97)) (ap [1, 1, 1, 1, 1, 1, 1, 1, 1, 0, 2, 1, 1] slices_partitionCmpFunc_api_Point_an) (rs [0, 1, 4, 12, 13] env) h (slices_partitionCmpFunc_api_Point_K10 nx0 K)) (slices_partitionCmpFunc_api_Point_K10 nx0 K)
def slices_partitionCmpFunc_api_Point_K15 (nx0 : Int × Int × Unit → Hp → Prop) (K : Value → Hp → Prop) : Exit → Env → Hp → Prop := blockE 8 (slices_partitionCmpFunc_api_Point_K14 nx0 K)
def slices_partitionCmpFunc_api_Point_K16 (nx0 : Int × Int × Unit → Hp → Prop) (nx1 : Int × Unit → Hp → Prop) (K : Value → Hp → Prop) : Exit → Env → Hp → Prop := thenE (fun env h => getV [(13, .int .i64)] env fun s => nx1 s h) (slices_partitionCmpFunc_api_Point_K15 nx0 K)
def slices_partitionCmpFunc_api_Point_b0 (data : Option Addr) (dataL : Nat) (dataC : Nat) (a : Int) (b : Int) (pivot : Int) (cmp : Value) (h : Hp)  (K : Value → Hp → Prop) : Prop :=
  sx_7 Tryz.prog F 178 (cp [] (bodyOf Tryz.f97)) (ap [] slices_partitionCmpFunc_api_Point_an) [(0, .slice data dataL dataC), (1, .int .i64 a), (2, .int .i64 b), (3, .int .i64 pivot), (4, cmp)] h (slices_partitionCmpFunc_api_Point_K0  K)
def slices_partitionCmpFunc_api_Point_b1 (i : Int) (data : Option Addr) (dataL : Nat) (dataC : Nat) (a : Int) (cmp : Value) (j : Int) (h : Hp) (nx0 : Int × Unit → Hp → Prop) (K : Value → Hp → Prop) : Prop :=
  sx_6 Tryz.prog F 178 (cp [1, 1, 1, 0, 2, 2] (bodyOf Tryz.f97)) (ap [1, 1, 1, 0, 2] slices_partitionCmpFunc_api_Point_an) [(12, .int .i64 i), (0, .slice data dataL dataC), (1, .int .i64 a), (4, cmp), (13, .int .i64 j)] h (slices_partitionCmpFunc_api_Point_K3 nx0 K)
def slices_partitionCmpFunc_api_Point_b2 (data : Option Addr) (dataL : Nat) (dataC : Nat) (a : Int) (cmp : Value) (i : Int) (j : Int) (h : Hp) (nx0 : Int × Unit → Hp → Prop) (K : Value → Hp → Prop) : Prop :=
  sx_5 Tryz.prog F 178 (cp [1, 1, 1, 0, 2, 2, 1] (bodyOf Tryz.f97)) (ap [1, 1, 1, 0, 2, 1] slices_partitionCmpFunc_api_Point_an) [(0, .slice data dataL dataC), (1, .int .i64 a), (4, cmp), (12, .int .i64 i), (13, .int .i64 j)] h (slices_partitionCmpFunc_api_Point_K3 nx0 K)
def slices_partitionCmpFunc_api_Point_b3 (data : Option Addr) (dataL : Nat) (dataC : Nat) (a : Int) (cmp : Value) (i : Int) (j : Int) (h : Hp)  (K : Value → Hp → Prop) : Prop :=
  sx_6 Tryz.prog F 178 (cp [1, 1, 1, 1] (bodyOf Tryz.f97)) (ap [1, 1, 1, 1] slices_partitionCmpFunc_api_Point_an) [(0, .slice data dataL dataC), (1, .int .i64 a), (4, cmp), (12, .int .i64 i), (13, .int .i64 j)] h (slices_partitionCmpFunc_api_Point_K0  K)
def slices_partitionCmpFunc_api_Point_b4 (j : Int) (data : Option Addr) (dataL : Nat) (dataC : Nat) (a : Int) (cmp : Value) (i : Int) (h : Hp) (nx0 : Int × Unit → Hp → Prop) (K : Value → Hp → Prop) : Prop :=
  sx_5 Tryz.prog F 178 (cp [1, 1, 1, 1, 0, 2, 2] (bodyOf Tryz.f97)) (ap [1, 1, 1, 1, 0, 2] slices_partitionCmpFunc_api_Point_an) [(13, .int .i64 j), (0, .slice data dataL dataC), (1, .int .i64 a), (4, cmp), (12, .int .i64 i)] h (slices_partitionCmpFunc_api_Point_K6 nx0 K)
def slices_partitionCmpFunc_api_Point_b5 (data : Option Addr) (dataL : Nat) (dataC : Nat) (a : Int) (cmp : Value) (i : Int) (j : Int) (h : Hp) (nx0 : Int × Unit → Hp → Prop) (K : Value → Hp → Prop) : Prop :=
  sx_4 Tryz.prog F 178 (cp [1, 1, 1, 1, 0, 2, 2, 1] (bodyOf Tryz.f97)) (ap [1, 1, 1, 1, 0, 2, 1] slices_partitionCmpFunc_api_Point_an) [(0, .slice data dataL dataC), (1, .int .i64 a), (4, cmp), (12, .int .i64 i), (13, .int .i64 j)] h (slices_partitionCmpFunc_api_Point_K6 nx0 K)
def slices_partitionCmpFunc_api_Point_b6 (data : Option Addr) (dataL : Nat) (dataC : Nat) (a : Int) (cmp : Value) (i : Int) (j : Int) (h : Hp)  (K : Value → Hp → Prop) : Prop :=
  sx_5 Tryz.prog F 178 (cp [1, 1, 1, 1, 1] (bodyOf Tryz.f97)) (ap [1, 1, 1, 1, 1] slices_partitionCmpFunc_api_Point_an) [(0, .slice data dataL dataC), (1, .int .i64 a), (4, cmp), (12, .int .i64 i), (13, .int .i64 j)] h (slices_partitionCmpFunc_api_Point_K0  K)
def slices_partitionCmpFunc_api_Point_b7 (i : Int) (j : Int) (data : Option Addr) (dataL : Nat) (dataC : Nat) (a : Int) (cmp : Value) (h : Hp) (nx0 : Int × Int × Unit → Hp → Prop) (K : Value → Hp → Prop) : Prop :=
  sx_4 Tryz.prog F 178 (cp [1, 1, 1, 1, 1, 1, 1, 1, 1, 0, 2, 2] (bodyOf Tryz.f97)) (ap [1, 1, 1, 1, 1, 1, 1, 1, 1, 0, 2] slices_partitionCmpFunc_api_Point_an) [(12, .int .i64 i), (13, .int .i64 j), (0, .slice data dataL dataC), (1, .int .i64 a), (4, cmp)] h (slices_partitionCmpFunc_api_Point_K9 nx0 K)
def slices_partitionCmpFunc_api_Point_b8 (i : Int) (data : Option Addr) (dataL : Nat) (dataC : Nat) (a : Int) (cmp : Value) (j : Int) (h : Hp) (nx0 : Int × Int × Unit → Hp → Prop) (nx1 : Int × Unit → Hp → Prop) (K : Value → Hp → Prop) : Prop :=
  sx_3 Tryz.prog F 178 (cp [1, 1, 1, 1, 1, 1, 1, 1, 1, 0, 2, 2, 2, 0, 2, 2] (bodyOf Tryz.f97)) (ap [1, 1, 1, 1, 1, 1, 1, 1, 1, 0, 2, 0, 2] slices_partitionCmpFunc_api_Point_an) [(12, .int .i64 i), (0, .slice data dataL dataC), (1, .int .i64 a), (4, cmp), (13, .int .i64 j)] h (slices_partitionCmpFunc_api_Point_K13 nx0 nx1 K)
def slices_partitionCmpFunc_api_Point_b9 (data : Option Addr) (dataL : Nat) (dataC : Nat) (a : Int) (cmp : Value) (i : Int) (j : Int) (h : Hp) (nx0 : Int × Int × Unit → Hp → Prop) (nx1 : Int × Unit → Hp → Prop) (K : Value → Hp → Prop) : Prop :=
  sx_2 Tryz.prog F 178 (cp [1, 1, 1, 1, 1, 1, 1, 1, 1, 0, 2, 2, 2, 0, 2, 2, 1] (bodyOf Tryz.f97)) (ap [1, 1, 1, 1, 1, 1, 1, 1, 1, 0, 2, 0, 2, 1] slices_partitionCmpFunc_api_Point_an) [(0, .slice data dataL dataC), (1, .int .i64 a), (4, cmp), (12, .int .i64 i), (13, .int .i64 j)] h (slices_partitionCmpFunc_api_Point_K13 nx0 nx1 K)
def slices_partitionCmpFunc_api_Point_b10 (data : Option Addr) (dataL : Nat) (dataC : Nat) (a : Int) (cmp : Value) (i : Int) (j : Int) (h : Hp) (nx0 : Int × Int × Unit → Hp → Prop) (K : Value → Hp → Prop) : Prop :=
  sx_3 Tryz.prog F 178 (cp [1, 1, 1, 1, 1, 1, 1, 1, 1, 0, 2, 2, 2, 1] (bodyOf Tryz.f97)) (ap [1, 1, 1, 1, 1, 1, 1, 1, 1, 0, 2, 1] slices_partitionCmpFunc_api_Point_an) [(0, .slice data dataL dataC), (1, .int .i64 a), (4, cmp), (12, .int .i64 i), (13, .int .i64 j)] h (slices_partitionCmpFunc_api_Point_K10 nx0 K)
def slices_partitionCmpFunc_api_Point_b11 (j : Int) (data : Option Addr) (dataL : Nat) (dataC : Nat) (a : Int) (cmp : Value) (i : Int) (h : Hp) (nx0 : Int × Int × Unit → Hp → Prop) (nx1 : Int × Unit → Hp → Prop) (K : Value → Hp → Prop) : Prop :=
  sx_2 Tryz.prog F 178 (cp [1, 1, 1, 1, 1, 1, 1, 1, 1, 0, 2, 2, 2, 1, 0, 2, 2] (bodyOf Tryz.f97)) (ap [1, 1, 1, 1, 1, 1, 1, 1, 1, 0, 2, 1, 0, 2] slices_partitionCmpFunc_api_Point_an) [(13, .int .i64 j), (0, .slice data dataL dataC), (1, .int .i64 a), (4, cmp), (12, .int .i64 i)] h (slices_partitionCmpFunc_api_Point_K16 nx0 nx1 K)
def slices_partitionCmpFunc_api_Point_b12 (data : Option Addr) (dataL : Nat) (dataC : Nat) (a : Int) (cmp : Value) (i : Int) (j : Int) (h : Hp) (nx0 : Int × Int × Unit → Hp → Prop) (nx1 : Int × Unit → Hp → Prop) (K : Value → Hp → Prop) : Prop :=
  sx_1 Tryz.prog F 178 (cp [1, 1, 1, 1, 1, 1, 1, 1, 1, 0, 2, 2, 2, 1, 0, 2, 2, 1] (bodyOf Tryz.f97)) (ap [1, 1, 1, 1, 1, 1, 1, 1, 1, 0, 2, 1, 0, 2, 1] slices_partitionCmpFunc_api_Point_an) [(0, .slice data dataL dataC), (1, .int .i64 a), (4, cmp), (12, .int .i64 i), (13, .int .i64 j)] h (slices_partitionCmpFunc_api_Point_K16 nx0 nx1 K)
def slices_partitionCmpFunc_api_Point_b13 (data : Option Addr) (dataL : Nat) (dataC : Nat) (a : Int) (cmp : Value) (i : Int) (j : Int) (h : Hp) (nx0 : Int × Int × Unit → Hp → Prop) (K : Value → Hp → Prop) : Prop :=
  sx_2 Tryz.prog F 178 (cp [1, 1, 1, 1, 1, 1, 1, 1, 1, 0, 2, 2, 2, 1, 1] (bodyOf Tryz.f97)) (ap [1, 1, 1, 1, 1, 1, 1, 1, 1, 0, 2, 1, 1] slices_partitionCmpFunc_api_Point_an) [(0, .slice data dataL dataC), (1, .int .i64 a), (4, cmp), (12, .int .i64 i), (13, .int .i64 j)] h (slices_partitionCmpFunc_api_Point_K10 nx0 K)
def slices_partitionCmpFunc_api_Point_b14 (data : Option Addr) (dataL : Nat) (dataC : Nat) (a : Int) (j : Int) (h : Hp)  (K : Value → Hp → Prop) : Prop :=
  sx_4 Tryz.prog F 178 (cp [1, 1, 1, 1, 1, 1, 1, 1, 1, 1] (bodyOf Tryz.f97)) (ap [1, 1, 1, 1, 1, 1, 1, 1, 1, 1] slices_partitionCmpFunc_api_Point_an) [(0, .slice data dataL dataC), (1, .int .i64 a), (13, .int .i64 j)] h (slices_partitionCmpFunc_api_Point_K0  K)
theorem slices_partitionCmpFunc_api_Point_b0_eq (data : Option Addr) (dataL : Nat) (dataC : Nat) (a : Int) (b : Int) (pivot : Int) (cmp : Value) (h : Hp)  (K : Value → Hp → Prop) : slices_partitionCmpFunc_api_Point_b0 data dataL dataC a b pivot cmp h  K = (
  (0 ≤ pivot ∧ pivot < (dataL : Int)) ∧
  NN data fun a1 =>
  ∃ n1 : Int, ∃ n2 : Int, ∃ n3 : Int, cell h (a1.add (Int.toNat pivot * 3)) = some (.int .i64 n1) ∧
  cell h ((a1.add (Int.toNat pivot * 3)).add 1) = some (.int .i64 n2) ∧
  cell h ((a1.add (Int.toNat pivot * 3)).add 2) = some (.int .i64 n3) ∧
  (0 ≤ a ∧ a < (dataL : Int)) ∧
  NN data fun a2 =>
  ∃ n4 : Int, ∃ n5 : Int, ∃ n6 : Int, cell h (a2.add (Int.toNat a * 3)) = some (.int .i64 n4) ∧
  cell h ((a2.add (Int.toNat a * 3)).add 1) = some (.int .i64 n5) ∧
  cell h ((a2.add (Int.toNat a * 3)).add 2) = some (.int .i64 n6) ∧
  (0 ≤ a ∧ a < (dataL : Int)) ∧
  NN data fun a3 =>
  Wr h (a3.add (Int.toNat a * 3)) (.int .i64 n1) fun h1 =>
  Wr h1 ((a3.add (Int.toNat a * 3)).add 1) (.int .i64 n2) fun h2 =>
  Wr h2 ((a3.add (Int.toNat a * 3)).add 2) (.int .i64 n3) fun h3 =>
  (0 ≤ pivot ∧ pivot < (dataL : Int)) ∧
  NN data fun a4 =>
  Wr h3 (a4.add (Int.toNat pivot * 3)) (.int .i64 n4) fun h4 =>
  Wr h4 ((a4.add (Int.toNat pivot * 3)).add 1) (.int .i64 n5) fun h5 =>
  Wr h5 ((a4.add (Int.toNat pivot * 3)).add 2) (.int .i64 n6) fun h6 =>
  InR (a + 1) ∧
  InR (b - 1) ∧
  LoopVC ((a + 1, ()) : Int × Unit) h6 (fun (nx0 : Int × Unit → Hp → Prop) (s1 : Int × Unit) h7 => slices_partitionCmpFunc_api_Point_b1 s1.1 data dataL dataC a cmp (b - 1) h7 nx0 K)) := by kernel_rfl
theorem slices_partitionCmpFunc_api_Point_b1_eq (i : Int) (data : Option Addr) (dataL : Nat) (dataC : Nat) (a : Int) (cmp : Value) (j : Int) (h : Hp) (nx0 : Int × Unit → Hp → Prop) (K : Value → Hp → Prop) : slices_partitionCmpFunc_api_Point_b1 i data dataL dataC a cmp j h nx0 K = (
  cond (decide (i ≤ j))
  ((0 ≤ i ∧ i < (dataL : Int)) ∧
  NN data fun a5 =>
  ∃ n7 : Int, ∃ n8 : Int, ∃ n9 : Int, cell h (a5.add (Int.toNat i * 3)) = some (.int .i64 n7) ∧
  cell h ((a5.add (Int.toNat i * 3)).add 1) = some (.int .i64 n8) ∧
  cell h ((a5.add (Int.toNat i * 3)).add 2) = some (.int .i64 n9) ∧
  (0 ≤ a ∧ a < (dataL : Int)) ∧
  NN data fun a6 =>
  ∃ n10 : Int, ∃ n11 : Int, ∃ n12 : Int, cell h (a6.add (Int.toNat a * 3)) = some (.int .i64 n10) ∧
  cell h ((a6.add (Int.toNat a * 3)).add 1) = some (.int .i64 n11) ∧
  cell h ((a6.add (Int.toNat a * 3)).add 2) = some (.int .i64 n12) ∧
  funV cmp fun fg1 fa1 fc1 => callX Tryz.prog F fg1 (fa1 ++ (([.agg #[.int .i64 n7, .int .i64 n8, .int .i64 n9], .agg #[.int .i64 n10, .int .i64 n11, .int .i64 n12]] : List Value) ++ fc1)).toArray h fun v1 h8 => ∃ r1 : Int, v1 = .int .i64 r1 ∧
  cond (decide (r1 < 0))
  (slices_partitionCmpFunc_api_Point_b2 data dataL dataC a cmp i j h8 nx0 K)
  (slices_partitionCmpFunc_api_Point_b3 data dataL dataC a cmp i j h8  K))
  (slices_partitionCmpFunc_api_Point_b3 data dataL dataC a cmp i j h  K)) := by kernel_rfl
theorem slices_partitionCmpFunc_api_Point_b2_eq (data : Option Addr) (dataL : Nat) (dataC : Nat) (a : Int) (cmp : Value) (i : Int) (j : Int) (h : Hp) (nx0 : Int × Unit → Hp → Prop) (K : Value → Hp → Prop) : slices_partitionCmpFunc_api_Point_b2 data dataL dataC a cmp i j h nx0 K = (
  InR (i + 1) ∧
  nx0 (i + 1, ()) h) := by kernel_rfl
theorem slices_partitionCmpFunc_api_Point_b3_eq (data : Option Addr) (dataL : Nat) (dataC : Nat) (a : Int) (cmp : Value) (i : Int) (j : Int) (h : Hp)  (K : Value → Hp → Prop) : slices_partitionCmpFunc_api_Point_b3 data dataL dataC a cmp i j h  K = (
  LoopVC ((j, ()) : Int × Unit) h (fun (nx0 : Int × Unit → Hp → Prop) (s2 : Int × Unit) h9 => slices_partitionCmpFunc_api_Point_b4 s2.1 data dataL dataC a cmp i h9 nx0 K)) := by kernel_rfl
theorem slices_partitionCmpFunc_api_Point_b4_eq (j : Int) (data : Option Addr) (dataL : Nat) (dataC : Nat) (a : Int) (cmp : Value) (i : Int) (h : Hp) (nx0 : Int × Unit → Hp → Prop) (K : Value → Hp → Prop) : slices_partitionCmpFunc_api_Point_b4 j data dataL dataC a cmp i h nx0 K = (
  cond (decide (i ≤ j))
  ((0 ≤ j ∧ j < (dataL : Int)) ∧
  NN data fun a7 =>
  ∃ n13 : Int, ∃ n14 : Int, ∃ n15 : Int, cell h (a7.add (Int.toNat j * 3)) = some (.int .i64 n13) ∧
  cell h ((a7.add (Int.toNat j * 3)).add 1) = some (.int .i64 n14) ∧
  cell h ((a7.add (Int.toNat j * 3)).add 2) = some (.int .i64 n15) ∧
  (0 ≤ a ∧ a < (dataL : Int)) ∧
  NN data fun a8 =>
  ∃ n16 : Int, ∃ n17 : Int, ∃ n18 : Int, cell h (a8.add (Int.toNat a * 3)) = some (.int .i64 n16) ∧
  cell h ((a8.add (Int.toNat a * 3)).add 1) = some (.int .i64 n17) ∧
  cell h ((a8.add (Int.toNat a * 3)).add 2) = some (.int .i64 n18) ∧
  funV cmp fun fg2 fa2 fc2 => callX Tryz.prog F fg2 (fa2 ++ (([.agg #[.int .i64 n13, .int .i64 n14, .int .i64 n15], .agg #[.int .i64 n16, .int .i64 n17, .int .i64 n18]] : List Value) ++ fc2)).toArray h fun v2 h10 => ∃ r2 : Int, v2 = .int .i64 r2 ∧
  cond (!(decide (r2 < 0)))
  (slices_partitionCmpFunc_api_Point_b5 data dataL dataC a cmp i j h10 nx0 K)
  (slices_partitionCmpFunc_api_Point_b6 data dataL dataC a cmp i j h10  K))
  (slices_partitionCmpFunc_api_Point_b6 data dataL dataC a cmp i j h  K)) := by kernel_rfl
theorem slices_partitionCmpFunc_api_Point_b5_eq (data : Option Addr) (dataL : Nat) (dataC : Nat) (a : Int) (cmp : Value) (i : Int) (j : Int) (h : Hp) (nx0 : Int × Unit → Hp → Prop) (K : Value → Hp → Prop) : slices_partitionCmpFunc_api_Point_b5 data dataL dataC a cmp i j h nx0 K = (
  InR (j - 1) ∧
  nx0 (j - 1, ()) h) := by kernel_rfl
theorem slices_partitionCmpFunc_api_Point_b6_eq (data : Option Addr) (dataL : Nat) (dataC : Nat) (a : Int) (cmp : Value) (i : Int) (j : Int) (h : Hp)  (K : Value → Hp → Prop) : slices_partitionCmpFunc_api_Point_b6 data dataL dataC a cmp i j h  K = (
  cond (decide (j < i))
  ((0 ≤ a ∧ a < (dataL : Int)) ∧
  NN data fun a9 =>
  ∃ n19 : Int, ∃ n20 : Int, ∃ n21 : Int, cell h (a9.add (Int.toNat a * 3)) = some (.int .i64 n19) ∧
  cell h ((a9.add (Int.toNat a * 3)).add 1) = some (.int .i64 n20) ∧
  cell h ((a9.add (Int.toNat a * 3)).add 2) = some (.int .i64 n21) ∧
  (0 ≤ j ∧ j < (dataL : Int)) ∧
  NN data fun a10 =>
  ∃ n22 : Int, ∃ n23 : Int, ∃ n24 : Int, cell h (a10.add (Int.toNat j * 3)) = some (.int .i64 n22) ∧
  cell h ((a10.add (Int.toNat j * 3)).add 1) = some (.int .i64 n23) ∧
  cell h ((a10.add (Int.toNat j * 3)).add 2) = some (.int .i64 n24) ∧
  (0 ≤ j ∧ j < (dataL : Int)) ∧
  NN data fun a11 =>
  Wr h (a11.add (Int.toNat j * 3)) (.int .i64 n19) fun h11 =>
  Wr h11 ((a11.add (Int.toNat j * 3)).add 1) (.int .i64 n20) fun h12 =>
  Wr h12 ((a11.add (Int.toNat j * 3)).add 2) (.int .i64 n21) fun h13 =>
  (0 ≤ a ∧ a < (dataL : Int)) ∧
  NN data fun a12 =>
  Wr h13 (a12.add (Int.toNat a * 3)) (.int .i64 n22) fun h14 =>
  Wr h14 ((a12.add (Int.toNat a * 3)).add 1) (.int .i64 n23) fun h15 =>
  Wr h15 ((a12.add (Int.toNat a * 3)).add 2) (.int .i64 n24) fun h16 =>
  K (.tuple #[.int .i64 j, .bool true]) h16)
  ((0 ≤ j ∧ j < (dataL : Int)) ∧
  NN data fun a13 =>
  ∃ n25 : Int, ∃ n26 : Int, ∃ n27 : Int, cell h (a13.add (Int.toNat j * 3)) = some (.int .i64 n25) ∧
  cell h ((a13.add (Int.toNat j * 3)).add 1) = some (.int .i64 n26) ∧
  cell h ((a13.add (Int.toNat j * 3)).add 2) = some (.int .i64 n27) ∧
  (0 ≤ i ∧ i < (dataL : Int)) ∧
  NN data fun a14 =>
  ∃ n28 : Int, ∃ n29 : Int, ∃ n30 : Int, cell h (a14.add (Int.toNat i * 3)) = some (.int .i64 n28) ∧
  cell h ((a14.add (Int.toNat i * 3)).add 1) = some (.int .i64 n29) ∧
  cell h ((a14.add (Int.toNat i * 3)).add 2) = some (.int .i64 n30) ∧
  (0 ≤ i ∧ i < (dataL : Int)) ∧
  NN data fun a15 =>
  Wr h (a15.add (Int.toNat i * 3)) (.int .i64 n25) fun h17 =>
  Wr h17 ((a15.add (Int.toNat i * 3)).add 1) (.int .i64 n26) fun h18 =>
  Wr h18 ((a15.add (Int.toNat i * 3)).add 2) (.int .i64 n27) fun h19 =>
  (0 ≤ j ∧ j < (dataL : Int)) ∧
  NN data fun a16 =>
  Wr h19 (a16.add (Int.toNat j * 3)) (.int .i64 n28) fun h20 =>
  Wr h20 ((a16.add (Int.toNat j * 3)).add 1) (.int .i64 n29) fun h21 =>
  Wr h21 ((a16.add (Int.toNat j * 3)).add 2) (.int .i64 n30) fun h22 =>
  InR (i + 1) ∧
  InR (j - 1) ∧
  LoopVC ((i + 1, j - 1, ()) : Int × Int × Unit) h22 (fun (nx0 : Int × Int × Unit → Hp → Prop) (s3 : Int × Int × Unit) h23 => slices_partitionCmpFunc_api_Point_b7 s3.1 s3.2.1 data dataL dataC a cmp h23 nx0 K))) := by kernel_rfl
theorem slices_partitionCmpFunc_api_Point_b7_eq (i : Int) (j : Int) (data : Option Addr) (dataL : Nat) (dataC : Nat) (a : Int) (cmp : Value) (h : Hp) (nx0 : Int × Int × Unit → Hp → Prop) (K : Value → Hp → Prop) : slices_partitionCmpFunc_api_Point_b7 i j data dataL dataC a cmp h nx0 K = (
  LoopVC ((i, ()) : Int × Unit) h (fun (nx1 : Int × Unit → Hp → Prop) (s4 : Int × Unit) h24 => slices_partitionCmpFunc_api_Point_b8 s4.1 data dataL dataC a cmp j h24 nx0 nx1 K)) := by kernel_rfl
theorem slices_partitionCmpFunc_api_Point_b8_eq (i : Int) (data : Option Addr) (dataL : Nat) (dataC : Nat) (a : Int) (cmp : Value) (j : Int) (h : Hp) (nx0 : Int × Int × Unit → Hp → Prop) (nx1 : Int × Unit → Hp → Prop) (K : Value → Hp → Prop) : slices_partitionCmpFunc_api_Point_b8 i data dataL dataC a cmp j h nx0 nx1 K = (
  cond (decide (i ≤ j))
  ((0 ≤ i ∧ i < (dataL : Int)) ∧
  NN data fun a17 =>
  ∃ n31 : Int, ∃ n32 : Int, ∃ n33 : Int, cell h (a17.add (Int.toNat i * 3)) = some (.int .i64 n31) ∧
  cell h ((a17.add (Int.toNat i * 3)).add 1) = some (.int .i64 n32) ∧
  cell h ((a17.add (Int.toNat i * 3)).add 2) = some (.int .i64 n33) ∧
  (0 ≤ a ∧ a < (dataL : Int)) ∧
  NN data fun a18 =>
  ∃ n34 : Int, ∃ n35 : Int, ∃ n36 : Int, cell h (a18.add (Int.toNat a * 3)) = some (.int .i64 n34) ∧
  cell h ((a18.add (Int.toNat a * 3)).add 1) = some (.int .i64 n35) ∧
  cell h ((a18.add (Int.toNat a * 3)).add 2) = some (.int .i64 n36) ∧
  funV cmp fun fg3 fa3 fc3 => callX Tryz.prog F fg3 (fa3 ++ (([.agg #[.int .i64 n31, .int .i64 n32, .int .i64 n33], .agg #[.int .i64 n34, .int .i64 n35, .int .i64 n36]] : List Value) ++ fc3)).toArray h fun v3 h25 => ∃ r3 : Int, v3 = .int .i64 r3 ∧
  cond (decide (r3 < 0))
  (slices_partitionCmpFunc_api_Point_b9 data dataL dataC a cmp i j h25 nx0 nx1 K)
  (slices_partitionCmpFunc_api_Point_b10 data dataL dataC a cmp i j h25 nx0 K))
  (slices_partitionCmpFunc_api_Point_b10 data dataL dataC a cmp i j h nx0 K)) := by kernel_rfl
theorem slices_partitionCmpFunc_api_Point_b9_eq (data : Option Addr) (dataL : Nat) (dataC : Nat) (a : Int) (cmp : Value) (i : Int) (j : Int) (h : Hp) (nx0 : Int × Int × Unit → Hp → Prop) (nx1 : Int × Unit → Hp → Prop) (K : Value → Hp → Prop) : slices_partitionCmpFunc_api_Point_b9 data dataL dataC a cmp i j h nx0 nx1 K = (
  InR (i + 1) ∧
  nx1 (i + 1, ()) h) := by kernel_rfl
theorem slices_partitionCmpFunc_api_Point_b10_eq (data : Option Addr) (dataL : Nat) (dataC : Nat) (a : Int) (cmp : Value) (i : Int) (j : Int) (h : Hp) (nx0 : Int × Int × Unit → Hp → Prop) (K : Value → Hp → Prop) : slices_partitionCmpFunc_api_Point_b10 data dataL dataC a cmp i j h nx0 K = (
  LoopVC ((j, ()) : Int × Unit) h (fun (nx1 : Int × Unit → Hp → Prop) (s5 : Int × Unit) h26 => slices_partitionCmpFunc_api_Point_b11 s5.1 data dataL dataC a cmp i h26 nx0 nx1 K)) := by kernel_rfl
theorem slices_partitionCmpFunc_api_Point_b11_eq (j : Int) (data : Option Addr) (dataL : Nat) (dataC : Nat) (a : Int) (cmp : Value) (i : Int) (h : Hp) (nx0 : Int × Int × Unit → Hp → Prop) (nx1 : Int × Unit → Hp → Prop) (K : Value → Hp → Prop) : slices_partitionCmpFunc_api_Point_b11 j data dataL dataC a cmp i h nx0 nx1 K = (
  cond (decide (i ≤ j))
  ((0 ≤ j ∧ j < (dataL : Int)) ∧
  NN data fun a19 =>
  ∃ n37 : Int, ∃ n38 : Int, ∃ n39 : Int, cell h (a19.add (Int.toNat j * 3)) = some (.int .i64 n37) ∧
  cell h ((a19.add (Int.toNat j * 3)).add 1) = some (.int .i64 n38) ∧
  cell h ((a19.add (Int.toNat j * 3)).add 2) = some (.int .i64 n39) ∧
  (0 ≤ a ∧ a < (dataL : Int)) ∧
  NN data fun a20 =>
  ∃ n40 : Int, ∃ n41 : Int, ∃ n42 : Int, cell h (a20.add (Int.toNat a * 3)) = some (.int .i64 n40) ∧
  cell h ((a20.add (Int.toNat a * 3)).add 1) = some (.int .i64 n41) ∧
  cell h ((a20.add (Int.toNat a * 3)).add 2) = some (.int .i64 n42) ∧
  funV cmp fun fg4 fa4 fc4 => callX Tryz.prog F fg4 (fa4 ++ (([.agg #[.int .i64 n37, .int .i64 n38, .int .i64 n39], .agg #[.int .i64 n40, .int .i64 n41, .int .i64 n42]] : List Value) ++ fc4)).toArray h fun v4 h27 => ∃ r4 : Int, v4 = .int .i64 r4 ∧
  cond (!(decide (r4 < 0)))
  (slices_partitionCmpFunc_api_Point_b12 data dataL dataC a cmp i j h27 nx0 nx1 K)
  (slices_partitionCmpFunc_api_Point_b13 data dataL dataC a cmp i j h27 nx0 K))
  (slices_partitionCmpFunc_api_Point_b13 data dataL dataC a cmp i j h nx0 K)) := by kernel_rfl
theorem slices_partitionCmpFunc_api_Point_b12_eq (data : Option Addr) (dataL : Nat) (dataC : Nat) (a : Int) (cmp : Value) (i : Int) (j : Int) (h : Hp) (nx0 : Int × Int × Unit → Hp → Prop) (nx1 : Int × Unit → Hp → Prop) (K : Value → Hp → Prop) : slices_partitionCmpFunc_api_Point_b12 data dataL dataC a cmp i j h nx0 nx1 K = (
  InR (j - 1) ∧
  nx1 (j - 1, ()) h) := by kernel_rfl
theorem slices_partitionCmpFunc_api_Point_b13_eq (data : Option Addr) (dataL : Nat) (dataC : Nat) (a : Int) (cmp : Value) (i : Int) (j : Int) (h : Hp) (nx0 : Int × Int × Unit → Hp → Prop) (K : Value → Hp → Prop) : slices_partitionCmpFunc_api_Point_b13 data dataL dataC a cmp i j h nx0 K = (
  cond (decide (j < i))
  (slices_partitionCmpFunc_api_Point_b14 data dataL dataC a j h  K)
  ((0 ≤ j ∧ j < (dataL : Int)) ∧
  NN data fun a21 =>
  ∃ n43 : Int, ∃ n44 : Int, ∃ n45 : Int, cell h (a21.add (Int.toNat j * 3)) = some (.int .i64 n43) ∧
  cell h ((a21.add (Int.toNat j * 3)).add 1) = some (.int .i64 n44) ∧
  cell h ((a21.add (Int.toNat j * 3)).add 2) = some (.int .i64 n45) ∧
  (0 ≤ i ∧ i < (dataL : Int)) ∧
  NN data fun a22 =>
  ∃ n46 : Int, ∃ n47 : Int, ∃ n48 : Int, cell h (a22.add (Int.toNat i * 3)) = some (.int .i64 n46) ∧
  cell h ((a22.add (Int.toNat i * 3)).add 1) = some (.int .i64 n47) ∧
  cell h ((a22.add (Int.toNat i * 3)).add 2) = some (.int .i64 n48) ∧
  (0 ≤ i ∧ i < (dataL : Int)) ∧
  NN data fun a23 =>
  Wr h (a23.add (Int.toNat i * 3)) (.int .i64 n43) fun h28 =>
  Wr h28 ((a23.add (Int.toNat i * 3)).add 1) (.int .i64 n44) fun h29 =>
  Wr h29 ((a23.add (Int.toNat i * 3)).add 2) (.int .i64 n45) fun h30 =>
  (0 ≤ j ∧ j < (dataL : Int)) ∧
  NN data fun a24 =>
  Wr h30 (a24.add (Int.toNat j * 3)) (.int .i64 n46) fun h31 =>
  Wr h31 ((a24.add (Int.toNat j * 3)).add 1) (.int .i64 n47) fun h32 =>
  Wr h32 ((a24.add (Int.toNat j * 3)).add 2) (.int .i64 n48) fun h33 =>
  InR (i + 1) ∧
  InR (j - 1) ∧
  nx0 (i + 1, j - 1, ()) h33)) := by kernel_rfl
theorem slices_partitionCmpFunc_api_Point_b14_eq (data : Option Addr) (dataL : Nat) (dataC : Nat) (a : Int) (j : Int) (h : Hp)  (K : Value → Hp → Prop) : slices_partitionCmpFunc_api_Point_b14 data dataL dataC a j h  K = (
  (0 ≤ a ∧ a < (dataL : Int)) ∧
  NN data fun a25 =>
  ∃ n49 : Int, ∃ n50 : Int, ∃ n51 : Int, cell h (a25.add (Int.toNat a * 3)) = some (.int .i64 n49) ∧
  cell h ((a25.add (Int.toNat a * 3)).add 1) = some (.int .i64 n50) ∧
  cell h ((a25.add (Int.toNat a * 3)).add 2) = some (.int .i64 n51) ∧
  (0 ≤ j ∧ j < (dataL : Int)) ∧
  NN data fun a26 =>
  ∃ n52 : Int, ∃ n53 : Int, ∃ n54 : Int, cell h (a26.add (Int.toNat j * 3)) = some (.int .i64 n52) ∧
  cell h ((a26.add (Int.toNat j * 3)).add 1) = some (.int .i64 n53) ∧
  cell h ((a26.add (Int.toNat j * 3)).add 2) = some (.int .i64 n54) ∧
  (0 ≤ j ∧ j < (dataL : Int)) ∧
  NN data fun a27 =>
  Wr h (a27.add (Int.toNat j * 3)) (.int .i64 n49) fun h34 =>
  Wr h34 ((a27.add (Int.toNat j * 3)).add 1) (.int .i64 n50) fun h35 =>
  Wr h35 ((a27.add (Int.toNat j * 3)).add 2) (.int .i64 n51) fun h36 =>
  (0 ≤ a ∧ a < (dataL : Int)) ∧
  NN data fun a28 =>
  Wr h36 (a28.add (Int.toNat a * 3)) (.int .i64 n52) fun h37 =>
  Wr h37 ((a28.add (Int.toNat a * 3)).add 1) (.int .i64 n53) fun h38 =>
  Wr h38 ((a28.add (Int.toNat a * 3)).add 2) (.int .i64 n54) fun h39 =>
  K (.tuple #[.int .i64 j, .bool false]) h39) := by kernel_rfl
theorem slices_partitionCmpFunc_api_Point_call {data : Option Addr} {dataL : Nat} {dataC : Nat} {a : Int} {b : Int} {pivot : Int} {cmp : Value} {h : Hp} {K : Value → Hp → Prop} (hk : slices_partitionCmpFunc_api_Point_b0 data dataL dataC a b pivot cmp h K) : HCalls Tryz.prog 97 #[.slice data dataL dataC, .int .i64 a, .int .i64 b, .int .i64 pivot, cmp] h K :=
  calls_of_snd slices_partitionCmpFunc_api_Point_an Tryz.func97 (c := bodyOf Tryz.f97) rfl Tryz.ntmps97 (Nat.le_of_ble_eq_true rfl) (snd_7 F_ok F_mixed) hk

/-! ### math_bits_Len32 -/
/-! ### math_bits_Len64 -/
def math_bits_Len64_an : Ann := .node none (.leaf) (.node (some [0, 2]) (.leaf) (.node (some [0, 2]) (.leaf) (.node (some [0, 2]) (.leaf) (.leaf))))
def math_bits_Len64_K0  (K : Value → Hp → Prop) : Exit → Env → Hp → Prop := retK Tryz.prog Tryz.f99.results.toList K
def math_bits_Len64_b0 (x : Int) (h : Hp)  (K : Value → Hp → Prop) : Prop :=
  sx_4 Tryz.prog F 25 (cp [] (bodyOf Tryz.f99)) (ap [] math_bits_Len64_an) [(0, .int .u64 x)] h (math_bits_Len64_K0  K)
def math_bits_Len64_b1 (x : Int) (nv : Int) (h : Hp)  (K : Value → Hp → Prop) : Prop :=
  sx_3 Tryz.prog F 25 (cp [1, 1] (bodyOf Tryz.f99)) (ap [1, 1] math_bits_Len64_an) [(0, .int .u64 x), (2, .int .i64 nv)] h (math_bits_Len64_K0  K)
def math_bits_Len64_b2 (x : Int) (nv : Int) (h : Hp)  (K : Value → Hp → Prop) : Prop :=
  sx_2 Tryz.prog F 25 (cp [1, 1, 1] (bodyOf Tryz.f99)) (ap [1, 1, 1] math_bits_Len64_an) [(0, .int .u64 x), (2, .int .i64 nv)] h (math_bits_Len64_K0  K)
def math_bits_Len64_b3 (x : Int) (nv : Int) (h : Hp)  (K : Value → Hp → Prop) : Prop :=
  sx_1 Tryz.prog F 25 (cp [1, 1, 1, 1] (bodyOf Tryz.f99)) (ap [1, 1, 1, 1] math_bits_Len64_an) [(0, .int .u64 x), (2, .int .i64 nv)] h (math_bits_Len64_K0  K)
theorem math_bits_Len64_b0_eq (x : Int) (h : Hp)  (K : Value → Hp → Prop) : math_bits_Len64_b0 x h  K = (
  cond (decide ((4294967296 : Int) ≤ x))
  (∃ sr1 : Int, Sx.Shr .u64 x 32 sr1 ∧
  math_bits_Len64_b1 sr1 32 h  K)
  (math_bits_Len64_b1 x 0 h  K)) := by kernel_rfl
theorem math_bits_Len64_b1_eq (x : Int) (nv : Int) (h : Hp)  (K : Value → Hp → Prop) : math_bits_Len64_b1 x nv h  K = (
  cond (decide ((65536 : Int) ≤ x))
  (∃ sr2 : Int, Sx.Shr .u64 x 16 sr2 ∧
  InR (nv + 16) ∧
  math_bits_Len64_b2 sr2 (nv + 16) h  K)
  (math_bits_Len64_b2 x nv h  K)) := by kernel_rfl
theorem math_bits_Len64_b2_eq (x : Int) (nv : Int) (h : Hp)  (K : Value → Hp → Prop) : math_bits_Len64_b2 x nv h  K = (
  cond (decide ((256 : Int) ≤ x))
  (∃ sr3 : Int, Sx.Shr .u64 x 8 sr3 ∧
  InR (nv + 8) ∧
  math_bits_Len64_b3 sr3 (nv + 8) h  K)
  (math_bits_Len64_b3 x nv h  K)) := by kernel_rfl
theorem math_bits_Len64_b3_eq (x : Int) (nv : Int) (h : Hp)  (K : Value → Hp → Prop) : math_bits_Len64_b3 x nv h  K = (
  (0 ≤ IntKind.u8.wrap x ∧ IntKind.u8.wrap x < ((⟨#[0, 1, 2, 2, 3, 3, 3, 3, 4, 4, 4, 4, 4, 4, 4, 4, 5, 5, 5, 5, 5, 5, 5, 5, 5, 5, 5, 5, 5, 5, 5, 5, 6, 6, 6, 6, 6, 6, 6, 6, 6, 6, 6, 6, 6, 6, 6, 6, 6, 6, 6, 6, 6, 6, 6, 6, 6, 6, 6, 6, 6, 6, 6, 6, 7, 7, 7, 7, 7, 7, 7, 7, 7, 7, 7, 7, 7, 7, 7, 7, 7, 7, 7, 7, 7, 7, 7, 7, 7, 7, 7, 7, 7, 7, 7, 7, 7, 7, 7, 7, 7, 7, 7, 7, 7, 7, 7, 7, 7, 7, 7, 7, 7, 7, 7, 7, 7, 7, 7, 7, 7, 7, 7, 7, 7, 7, 7, 7, 8, 8, 8, 8, 8, 8, 8, 8, 8, 8, 8, 8, 8, 8, 8, 8, 8, 8, 8, 8, 8, 8, 8, 8, 8, 8, 8, 8, 8, 8, 8, 8, 8, 8, 8, 8, 8, 8, 8, 8, 8, 8, 8, 8, 8, 8, 8, 8, 8, 8, 8, 8, 8, 8, 8, 8, 8, 8, 8, 8, 8, 8, 8, 8, 8, 8, 8, 8, 8, 8, 8, 8, 8, 8, 8, 8, 8, 8, 8, 8, 8, 8, 8, 8, 8, 8, 8, 8, 8, 8, 8, 8, 8, 8, 8, 8, 8, 8, 8, 8, 8, 8, 8, 8, 8, 8, 8, 8, 8, 8, 8, 8, 8, 8, 8, 8, 8, 8, 8, 8, 8, 8, 8, 8, 8, 8, 8, 8]⟩ : ByteArray).size : Int)) ∧
  InR (((⟨#[0, 1, 2, 2, 3, 3, 3, 3, 4, 4, 4, 4, 4, 4, 4, 4, 5, 5, 5, 5, 5, 5, 5, 5, 5, 5, 5, 5, 5, 5, 5, 5, 6, 6, 6, 6, 6, 6, 6, 6, 6, 6, 6, 6, 6, 6, 6, 6, 6, 6, 6, 6, 6, 6, 6, 6, 6, 6, 6, 6, 6, 6, 6, 6, 7, 7, 7, 7, 7, 7, 7, 7, 7, 7, 7, 7, 7, 7, 7, 7, 7, 7, 7, 7, 7, 7, 7, 7, 7, 7, 7, 7, 7, 7, 7, 7, 7, 7, 7, 7, 7, 7, 7, 7, 7, 7, 7, 7, 7, 7, 7, 7, 7, 7, 7, 7, 7, 7, 7, 7, 7, 7, 7, 7, 7, 7, 7, 7, 8, 8, 8, 8, 8, 8, 8, 8, 8, 8, 8, 8, 8, 8, 8, 8, 8, 8, 8, 8, 8, 8, 8, 8, 8, 8, 8, 8, 8, 8, 8, 8, 8, 8, 8, 8, 8, 8, 8, 8, 8, 8, 8, 8, 8, 8, 8, 8, 8, 8, 8, 8, 8, 8, 8, 8, 8, 8, 8, 8, 8, 8, 8, 8, 8, 8, 8, 8, 8, 8, 8, 8, 8, 8, 8, 8, 8, 8, 8, 8, 8, 8, 8, 8, 8, 8, 8, 8, 8, 8, 8, 8, 8, 8, 8, 8, 8, 8, 8, 8, 8, 8, 8, 8, 8, 8, 8, 8, 8, 8, 8, 8, 8, 8, 8, 8, 8, 8, 8, 8, 8, 8, 8, 8, 8, 8, 8, 8]⟩ : ByteArray).data.toList.getD (Int.toNat (IntKind.u8.wrap x)) 0).toNat : Int) ∧
  InR (nv + (((⟨#[0, 1, 2, 2, 3, 3, 3, 3, 4, 4, 4, 4, 4, 4, 4, 4, 5, 5, 5, 5, 5, 5, 5, 5, 5, 5, 5, 5, 5, 5, 5, 5, 6, 6, 6, 6, 6, 6, 6, 6, 6, 6, 6, 6, 6, 6, 6, 6, 6, 6, 6, 6, 6, 6, 6, 6, 6, 6, 6, 6, 6, 6, 6, 6, 7, 7, 7, 7, 7, 7, 7, 7, 7, 7, 7, 7, 7, 7, 7, 7, 7, 7, 7, 7, 7, 7, 7, 7, 7, 7, 7, 7, 7, 7, 7, 7, 7, 7, 7, 7, 7, 7, 7, 7, 7, 7, 7, 7, 7, 7, 7, 7, 7, 7, 7, 7, 7, 7, 7, 7, 7, 7, 7, 7, 7, 7, 7, 7, 8, 8, 8, 8, 8, 8, 8, 8, 8, 8, 8, 8, 8, 8, 8, 8, 8, 8, 8, 8, 8, 8, 8, 8, 8, 8, 8, 8, 8, 8, 8, 8, 8, 8, 8, 8, 8, 8, 8, 8, 8, 8, 8, 8, 8, 8, 8, 8, 8, 8, 8, 8, 8, 8, 8, 8, 8, 8, 8, 8, 8, 8, 8, 8, 8, 8, 8, 8, 8, 8, 8, 8, 8, 8, 8, 8, 8, 8, 8, 8, 8, 8, 8, 8, 8, 8, 8, 8, 8, 8, 8, 8, 8, 8, 8, 8, 8, 8, 8, 8, 8, 8, 8, 8, 8, 8, 8, 8, 8, 8, 8, 8, 8, 8, 8, 8, 8, 8, 8, 8, 8, 8, 8, 8, 8, 8, 8, 8]⟩ : ByteArray).data.toList.getD (Int.toNat (IntKind.u8.wrap x)) 0).toNat : Int)) ∧
  K (.int .i64 (nv + (((⟨#[0, 1, 2, 2, 3, 3, 3, 3, 4, 4, 4, 4, 4, 4, 4, 4, 5, 5, 5, 5, 5, 5, 5, 5, 5, 5, 5, 5, 5, 5, 5, 5, 6, 6, 6, 6, 6, 6, 6, 6, 6, 6, 6, 6, 6, 6, 6, 6, 6, 6, 6, 6, 6, 6, 6, 6, 6, 6, 6, 6, 6, 6, 6, 6, 7, 7, 7, 7, 7, 7, 7, 7, 7, 7, 7, 7, 7, 7, 7, 7, 7, 7, 7, 7, 7, 7, 7, 7, 7, 7, 7, 7, 7, 7, 7, 7, 7, 7, 7, 7, 7, 7, 7, 7, 7, 7, 7, 7, 7, 7, 7, 7, 7, 7, 7, 7, 7, 7, 7, 7, 7, 7, 7, 7, 7, 7, 7, 7, 8, 8, 8, 8, 8, 8, 8, 8, 8, 8, 8, 8, 8, 8, 8, 8, 8, 8, 8, 8, 8, 8, 8, 8, 8, 8, 8, 8, 8, 8, 8, 8, 8, 8, 8, 8, 8, 8, 8, 8, 8, 8, 8, 8, 8, 8, 8, 8, 8, 8, 8, 8, 8, 8, 8, 8, 8, 8, 8, 8, 8, 8, 8, 8, 8, 8, 8, 8, 8, 8, 8, 8, 8, 8, 8, 8, 8, 8, 8, 8, 8, 8, 8, 8, 8, 8, 8, 8, 8, 8, 8, 8, 8, 8, 8, 8, 8, 8, 8, 8, 8, 8, 8, 8, 8, 8, 8, 8, 8, 8, 8, 8, 8, 8, 8, 8, 8, 8, 8, 8, 8, 8, 8, 8, 8, 8, 8, 8]⟩ : ByteArray).data.toList.getD (Int.toNat (IntKind.u8.wrap x)) 0).toNat : Int))) h) := by kernel_rfl
theorem math_bits_Len64_call {x : Int} {h : Hp} {K : Value → Hp → Prop} (hk : math_bits_Len64_b0 x h K) : HCalls Tryz.prog 99 #[.int .u64 x] h K :=
  calls_of_snd math_bits_Len64_an Tryz.func99 (c := bodyOf Tryz.f99) rfl Tryz.ntmps99 (Nat.le_of_ble_eq_true rfl) (snd_4 F_ok F_mixed) hk

/-! ### slices_insertionSortOrdered_int -/
/-! ### slices_heapSortOrdered_int -/
/-! ### slices_breakPatternsOrdered_int -/
/-! ### slices_choosePivotOrdered_int -/
/-! ### slices_reverseRangeOrdered_int -/
/-! ### slices_partialInsertionSortOrdered_int -/
/-! ### cmp_Less_int -/
def cmp_Less_int_an : Ann := .leaf
def cmp_Less_int_K0  (K : Value → Hp → Prop) : Exit → Env → Hp → Prop := retK Tryz.prog Tryz.f106.results.toList K
def cmp_Less_int_b0 (x : Int) (y : Int) (h : Hp)  (K : Value → Hp → Prop) : Prop :=
  sx_1 Tryz.prog F 17 (cp [] (bodyOf Tryz.f106)) (ap [] cmp_Less_int_an) [(0, .int .i64 x), (1, .int .i64 y)] h (cmp_Less_int_K0  K)
theorem cmp_Less_int_b0_eq (x : Int) (y : Int) (h : Hp)  (K : Value → Hp → Prop) : cmp_Less_int_b0 x y h  K = (
  HCalls Tryz.prog 86 #[.int .i64 x] h fun v1 h1 => ∃ r1 : Bool, v1 = .bool r1 ∧
  cond r1
  (HCalls Tryz.prog 86 #[.int .i64 y] h1 fun v2 h2 => ∃ r2 : Bool, v2 = .bool r2 ∧
  cond (!r2)
  (K (.bool true) h2)
  (K (.bool (decide (x < y))) h2))
  (K (.bool (decide (x < y))) h1)) := by kernel_rfl
theorem cmp_Less_int_call {x : Int} {y : Int} {h : Hp} {K : Value → Hp → Prop} (hk : cmp_Less_int_b0 x y h K) : HCalls Tryz.prog 106 #[.int .i64 x, .int .i64 y] h K :=
  calls_of_snd cmp_Less_int_an Tryz.func106 (c := bodyOf Tryz.f106) rfl Tryz.ntmps106 (Nat.le_of_ble_eq_true rfl) (snd_1 F_ok F_mixed) hk

end Go.Proofs.YtbfejfejahoblaaGreat
