/- Plain statements of what each block of code of this seat asks; printed by a program, checked by Lean. -/
import Derived.Test.YtfkimbdjgadelaaSxV0
set_option maxRecDepth 10000
namespace Go.Proofs.Ytfkimbdjgadelaa
open Go Go.Sx

/-! ### slices_partitionCmpFunc_2_int -/
def slices_partitionCmpFunc_2_int_an : Ann := .node none (.leaf) (.node none (.plan (.qu 0 (.qu 1 (.qu 2 (.qu 3 (.qu 4 (.qu 5 (.qu 6 (.qu 7 (.qu 8 (.qu 9 (.qu 10 (.qu 11 (.qu 12 (.wo 13 (.qu 14 (.wo 15 .fin .no)) .no))))))))))))))) (.node none (.leaf) (.node (some [0, 1, 4, 12, 13]) (.loop [0, 1, 4, 13] [(12, .int .i64)] (.node (some [0, 1, 4, 12, 13]) (.node none (.tail 13) (.leaf)) (.leaf))) (.node (some [0, 1, 4, 12, 13]) (.loop [0, 1, 4, 12] [(13, .int .i64)] (.node (some [0, 1, 4, 12, 13]) (.node none (.tail 13) (.leaf)) (.leaf))) (.node none (.node none (.leaf) (.node none (.node none (.plan (.qu 0 (.qu 1 (.qu 2 (.qu 3 (.qu 4 (.qu 5 (.qu 6 (.qu 7 (.qu 8 (.qu 9 (.qu 10 (.qu 11 (.qu 12 (.wo 13 (.qu 14 (.wo 15 .fin .no)) .no))))))))))))))) (.leaf)) (.leaf))) (.node none (.plan (.qu 0 (.qu 1 (.qu 2 (.qu 3 (.qu 4 (.qu 5 (.qu 6 (.qu 7 (.qu 8 (.qu 9 (.qu 10 (.qu 11 (.qu 12 (.wo 13 (.qu 14 (.wo 15 .fin .no)) .no))))))))))))))) (.node none (.leaf) (.node none (.leaf) (.node (some [0, 1, 13]) (.loop [0, 1, 4] [(12, .int .i64), (13, .int .i64)] (.node (some [0, 1, 4, 12, 13]) (.loop [0, 1, 4, 13] [(12, .int .i64)] (.node (some [0, 1, 4, 12, 13]) (.node none (.tail 13) (.leaf)) (.leaf))) (.node (some [0, 1, 4, 12, 13]) (.loop [0, 1, 4, 12] [(13, .int .i64)] (.node (some [0, 1, 4, 12, 13]) (.node none (.tail 13) (.leaf)) (.leaf))) (.node none (.leaf) (.node none (.plan (.qu 0 (.qu 1 (.qu 2 (.qu 3 (.qu 4 (.qu 5 (.qu 6 (.qu 7 (.qu 8 (.qu 9 (.qu 10 (.qu 11 (.qu 12 (.wo 13 (.qu 14 (.wo 15 .fin .no)) .no))))))))))))))) (.leaf)))))) (.node none (.plan (.qu 0 (.qu 1 (.qu 2 (.qu 3 (.qu 4 (.qu 5 (.qu 6 (.qu 7 (.qu 8 (.qu 9 (.qu 10 (.qu 11 (.qu 12 (.wo 13 (.qu 14 (.wo 15 .fin .no)) .no))))))))))))))) (.leaf)))))))))))
def slices_partitionCmpFunc_2_int_K0  (K : Value → Hp → Prop) : Exit → Env → Hp → Prop := retK Try.prog Try.f69.results.toList K
def slices_partitionCmpFunc_2_int_K1  (K : Value → Hp → Prop) : Exit → Env → Hp → Prop := thenE (fun env h => sx_6 Try.prog F 178 (cp [1, 1, 1, 1] (bodyOf Try.f69)) (ap [1, 1, 1, 1] slices_partitionCmpFunc_2_int_an) (rs [0, 1, 4, 12, 13] env) h (slices_partitionCmpFunc_2_int_K0  K)) (slices_partitionCmpFunc_2_int_K0  K)
def slices_partitionCmpFunc_2_int_K2  (K : Value → Hp → Prop) : Exit → Env → Hp → Prop := blockE 0 (slices_partitionCmpFunc_2_int_K1  K)
def slices_partitionCmpFunc_2_int_K3 (nx0 : Int × Unit → Hp → Prop) (K : Value → Hp → Prop) : Exit → Env → Hp → Prop := thenE (fun env h => getV [(12, .int .i64)] env fun s => nx0 s h) (slices_partitionCmpFunc_2_int_K2  K)
def slices_partitionCmpFunc_2_int_K4  (K : Value → Hp → Prop) : Exit → Env → Hp → Prop := thenE (fun env h => sx_5 Try.prog F 178 (cp [1, 1, 1, 1, 1] (bodyOf Try.f69)) (ap [1, 1, 1, 1, 1] slices_partitionCmpFunc_2_int_an) (rs [0, 1, 4, 12, 13] env) h (slices_partitionCmpFunc_2_int_K0  K)) (slices_partitionCmpFunc_2_int_K0  K)
def slices_partitionCmpFunc_2_int_K5  (K : Value → Hp → Prop) : Exit → Env → Hp → Prop := blockE 2 (slices_partitionCmpFunc_2_int_K4  K)
def slices_partitionCmpFunc_2_int_K6 (nx0 : Int × Unit → Hp → Prop) (K : Value → Hp → Prop) : Exit → Env → Hp → Prop := thenE (fun env h => getV [(13, .int .i64)] env fun s => nx0 s h) (slices_partitionCmpFunc_2_int_K5  K)
def slices_partitionCmpFunc_2_int_K7  (K : Value → Hp → Prop) : Exit → Env → Hp → Prop := thenE (fun env h => sx_4 Try.prog F 178 (cp [1, 1, 1, 1, 1, 1, 1, 1, 1, 1] (bodyOf Try.f69)) (ap [1, 1, 1, 1, 1, 1, 1, 1, 1, 1] slices_partitionCmpFunc_2_int_an) (rs [0, 1, 13] env) h (slices_partitionCmpFunc_2_int_K0  K)) (slices_partitionCmpFunc_2_int_K0  K)
def slices_partitionCmpFunc_2_int_K8  (K : Value → Hp → Prop) : Exit → Env → Hp → Prop := blockE 4 (slices_partitionCmpFunc_2_int_K7  K)
def slices_partitionCmpFunc_2_int_K9 (nx0 : Int × Int × Unit → Hp → Prop) (K : Value → Hp → Prop) : Exit → Env → Hp → Prop := thenE (fun env h => getV [(12, .int .i64), (13, .int .i64)] env fun s => nx0 s h) (slices_partitionCmpFunc_2_int_K8  K)
def slices_partitionCmpFunc_2_int_K10 (nx0 : Int × Int × Unit → Hp → Prop) (K : Value → Hp → Prop) : Exit → Env → Hp → Prop := blockE 5 (slices_partitionCmpFunc_2_int_K9 nx0 K)
def slices_partitionCmpFunc_2_int_K11 (nx0 : Int × Int × Unit → Hp → Prop) (K : Value → Hp → Prop) : Exit → Env → Hp → Prop := thenE (fun env h => sx_3 Try.prog F 178 (cp [1, 1, 1, 1, 1, 1, 1, 1, 1, 0, 2, 2, 2, 1] (bodyOf Try.f69)) (ap [1, 1, 1, 1, 1, 1, 1, 1, 1, 0, 2, 1] slices_partitionCmpFunc_2_int_an) (rs [0, 1, 4, 12, 13] env) h (slices_partitionCmpFunc_2_int_K10 nx0 K)) (slices_partitionCmpFunc_2_int_K10 nx0 K)
def slices_partitionCmpFunc_2_int_K12 (nx0 : Int × Int × Unit → Hp → Prop) (K : Value → Hp → Prop) : Exit → Env → Hp → Prop := blockE 6 (slices_partitionCmpFunc_2_int_K11 nx0 K)
def slices_partitionCmpFunc_2_int_K13 (nx0 : Int × Int × Unit → Hp → Prop) (nx1 : Int × Unit → Hp → Prop) (K : Value → Hp → Prop) : Exit → Env → Hp → Prop := thenE (fun env h => getV [(12, .int .i64)] env fun s => nx1 s h) (slices_partitionCmpFunc_2_int_K12 nx0 K)
def slices_partitionCmpFunc_2_int_K14 (nx0 : Int × Int × Unit → Hp → Prop) (K : Value → Hp → Prop) : Exit → Env → Hp → Prop := thenE (fun env h => sx_2 Try.prog F 178 (cp [1, 1, 1, 1, 1, 1, 1, 1, 1, 0, 2, 2, 2, 1, 1] (bodyOf Try.f69)) (ap [1, 1, 1, 1, 1, 1, 1, 1, 1, 0, 2, 1, 1] slices_partitionCmpFunc_2_int_an) (rs [0, 1, 4, 12, 13] env) h (slices_partitionCmpFunc_2_int_K10 nx0 K)) (slices_partitionCmpFunc_2_int_K10 nx0 K)
def slices_partitionCmpFunc_2_int_K15 (nx0 : Int × Int × Unit → Hp → Prop) (K : Value → Hp → Prop) : Exit → Env → Hp → Prop := blockE 8 (slices_partitionCmpFunc_2_int_K14 nx0 K)
def slices_partitionCmpFunc_2_int_K16 (nx0 : Int × Int × Unit → Hp → Prop) (nx1 : Int × Unit → Hp → Prop) (K : Value → Hp → Prop) : Exit → Env → Hp → Prop := thenE (fun env h => getV [(13, .int .i64)] env fun s => nx1 s h) (slices_partitionCmpFunc_2_int_K15 nx0 K)
def slices_partitionCmpFunc_2_int_b0 (data : Option Addr) (dataL : Nat) (dataC : Nat) (a : Int) (b : Int) (pivot : Int) (cmp : Value) (h : Hp)  (K : Value → Hp → Prop) : Prop :=
  sx_7 Try.prog F 178 (cp [] (bodyOf Try.f69)) (ap [] slices_partitionCmpFunc_2_int_an) [(0, .slice data dataL dataC), (1, .int .i64 a), (2, .int .i64 b), (3, .int .i64 pivot), (4, cmp)] h (slices_partitionCmpFunc_2_int_K0  K)
def slices_partitionCmpFunc_2_int_b1 (i : Int) (data : Option Addr) (dataL : Nat) (dataC : Nat) (a : Int) (cmp : Value) (j : Int) (h : Hp) (nx0 : Int × Unit → Hp → Prop) (K : Value → Hp → Prop) : Prop :=
  sx_6 Try.prog F 178 (cp [1, 1, 1, 0, 2, 2] (bodyOf Try.f69)) (ap [1, 1, 1, 0, 2] slices_partitionCmpFunc_2_int_an) [(12, .int .i64 i), (0, .slice data dataL dataC), (1, .int .i64 a), (4, cmp), (13, .int .i64 j)] h (slices_partitionCmpFunc_2_int_K3 nx0 K)
def slices_partitionCmpFunc_2_int_b2 (data : Option Addr) (dataL : Nat) (dataC : Nat) (a : Int) (cmp : Value) (i : Int) (j : Int) (h : Hp) (nx0 : Int × Unit → Hp → Prop) (K : Value → Hp → Prop) : Prop :=
  sx_5 Try.prog F 178 (cp [1, 1, 1, 0, 2, 2, 1] (bodyOf Try.f69)) (ap [1, 1, 1, 0, 2, 1] slices_partitionCmpFunc_2_int_an) [(0, .slice data dataL dataC), (1, .int .i64 a), (4, cmp), (12, .int .i64 i), (13, .int .i64 j)] h (slices_partitionCmpFunc_2_int_K3 nx0 K)
def slices_partitionCmpFunc_2_int_b3 (data : Option Addr) (dataL : Nat) (dataC : Nat) (a : Int) (cmp : Value) (i : Int) (j : Int) (h : Hp)  (K : Value → Hp → Prop) : Prop :=
  sx_6 Try.prog F 178 (cp [1, 1, 1, 1] (bodyOf Try.f69)) (ap [1, 1, 1, 1] slices_partitionCmpFunc_2_int_an) [(0, .slice data dataL dataC), (1, .int .i64 a), (4, cmp), (12, .int .i64 i), (13, .int .i64 j)] h (slices_partitionCmpFunc_2_int_K0  K)
def slices_partitionCmpFunc_2_int_b4 (j : Int) (data : Option Addr) (dataL : Nat) (dataC : Nat) (a : Int) (cmp : Value) (i : Int) (h : Hp) (nx0 : Int × Unit → Hp → Prop) (K : Value → Hp → Prop) : Prop :=
  sx_5 Try.prog F 178 (cp [1, 1, 1, 1, 0, 2, 2] (bodyOf Try.f69)) (ap [1, 1, 1, 1, 0, 2] slices_partitionCmpFunc_2_int_an) [(13, .int .i64 j), (0, .slice data dataL dataC), (1, .int .i64 a), (4, cmp), (12, .int .i64 i)] h (slices_partitionCmpFunc_2_int_K6 nx0 K)
def slices_partitionCmpFunc_2_int_b5 (data : Option Addr) (dataL : Nat) (dataC : Nat) (a : Int) (cmp : Value) (i : Int) (j : Int) (h : Hp) (nx0 : Int × Unit → Hp → Prop) (K : Value → Hp → Prop) : Prop :=
  sx_4 Try.prog F 178 (cp [1, 1, 1, 1, 0, 2, 2, 1] (bodyOf Try.f69)) (ap [1, 1, 1, 1, 0, 2, 1] slices_partitionCmpFunc_2_int_an) [(0, .slice data dataL dataC), (1, .int .i64 a), (4, cmp), (12, .int .i64 i), (13, .int .i64 j)] h (slices_partitionCmpFunc_2_int_K6 nx0 K)
def slices_partitionCmpFunc_2_int_b6 (data : Option Addr) (dataL : Nat) (dataC : Nat) (a : Int) (cmp : Value) (i : Int) (j : Int) (h : Hp)  (K : Value → Hp → Prop) : Prop :=
  sx_5 Try.prog F 178 (cp [1, 1, 1, 1, 1] (bodyOf Try.f69)) (ap [1, 1, 1, 1, 1] slices_partitionCmpFunc_2_int_an) [(0, .slice data dataL dataC), (1, .int .i64 a), (4, cmp), (12, .int .i64 i), (13, .int .i64 j)] h (slices_partitionCmpFunc_2_int_K0  K)
def slices_partitionCmpFunc_2_int_b7 (i : Int) (j : Int) (data : Option Addr) (dataL : Nat) (dataC : Nat) (a : Int) (cmp : Value) (h : Hp) (nx0 : Int × Int × Unit → Hp → Prop) (K : Value → Hp → Prop) : Prop :=
  sx_4 Try.prog F 178 (cp [1, 1, 1, 1, 1, 1, 1, 1, 1, 0, 2, 2] (bodyOf Try.f69)) (ap [1, 1, 1, 1, 1, 1, 1, 1, 1, 0, 2] slices_partitionCmpFunc_2_int_an) [(12, .int .i64 i), (13, .int .i64 j), (0, .slice data dataL dataC), (1, .int .i64 a), (4, cmp)] h (slices_partitionCmpFunc_2_int_K9 nx0 K)
def slices_partitionCmpFunc_2_int_b8 (i : Int) (data : Option Addr) (dataL : Nat) (dataC : Nat) (a : Int) (cmp : Value) (j : Int) (h : Hp) (nx0 : Int × Int × Unit → Hp → Prop) (nx1 : Int × Unit → Hp → Prop) (K : Value → Hp → Prop) : Prop :=
  sx_3 Try.prog F 178 (cp [1, 1, 1, 1, 1, 1, 1, 1, 1, 0, 2, 2, 2, 0, 2, 2] (bodyOf Try.f69)) (ap [1, 1, 1, 1, 1, 1, 1, 1, 1, 0, 2, 0, 2] slices_partitionCmpFunc_2_int_an) [(12, .int .i64 i), (0, .slice data dataL dataC), (1, .int .i64 a), (4, cmp), (13, .int .i64 j)] h (slices_partitionCmpFunc_2_int_K13 nx0 nx1 K)
def slices_partitionCmpFunc_2_int_b9 (data : Option Addr) (dataL : Nat) (dataC : Nat) (a : Int) (cmp : Value) (i : Int) (j : Int) (h : Hp) (nx0 : Int × Int × Unit → Hp → Prop) (nx1 : Int × Unit → Hp → Prop) (K : Value → Hp → Prop) : Prop :=
  sx_2 Try.prog F 178 (cp [1, 1, 1, 1, 1, 1, 1, 1, 1, 0, 2, 2, 2, 0, 2, 2, 1] (bodyOf Try.f69)) (ap [1, 1, 1, 1, 1, 1, 1, 1, 1, 0, 2, 0, 2, 1] slices_partitionCmpFunc_2_int_an) [(0, .slice data dataL dataC), (1, .int .i64 a), (4, cmp), (12, .int .i64 i), (13, .int .i64 j)] h (slices_partitionCmpFunc_2_int_K13 nx0 nx1 K)
def slices_partitionCmpFunc_2_int_b10 (data : Option Addr) (dataL : Nat) (dataC : Nat) (a : Int) (cmp : Value) (i : Int) (j : Int) (h : Hp) (nx0 : Int × Int × Unit → Hp → Prop) (K : Value → Hp → Prop) : Prop :=
  sx_3 Try.prog F 178 (cp [1, 1, 1, 1, 1, 1, 1, 1, 1, 0, 2, 2, 2, 1] (bodyOf Try.f69)) (ap [1, 1, 1, 1, 1, 1, 1, 1, 1, 0, 2, 1] slices_partitionCmpFunc_2_int_an) [(0, .slice data dataL dataC), (1, .int .i64 a), (4, cmp), (12, .int .i64 i), (13, .int .i64 j)] h (slices_partitionCmpFunc_2_int_K10 nx0 K)
def slices_partitionCmpFunc_2_int_b11 (j : Int) (data : Option Addr) (dataL : Nat) (dataC : Nat) (a : Int) (cmp : Value) (i : Int) (h : Hp) (nx0 : Int × Int × Unit → Hp → Prop) (nx1 : Int × Unit → Hp → Prop) (K : Value → Hp → Prop) : Prop :=
  sx_2 Try.prog F 178 (cp [1, 1, 1, 1, 1, 1, 1, 1, 1, 0, 2, 2, 2, 1, 0, 2, 2] (bodyOf Try.f69)) (ap [1, 1, 1, 1, 1, 1, 1, 1, 1, 0, 2, 1, 0, 2] slices_partitionCmpFunc_2_int_an) [(13, .int .i64 j), (0, .slice data dataL dataC), (1, .int .i64 a), (4, cmp), (12, .int .i64 i)] h (slices_partitionCmpFunc_2_int_K16 nx0 nx1 K)
def slices_partitionCmpFunc_2_int_b12 (data : Option Addr) (dataL : Nat) (dataC : Nat) (a : Int) (cmp : Value) (i : Int) (j : Int) (h : Hp) (nx0 : Int × Int × Unit → Hp → Prop) (nx1 : Int × Unit → Hp → Prop) (K : Value → Hp → Prop) : Prop :=
  sx_1 Try.prog F 178 (cp [1, 1, 1, 1, 1, 1, 1, 1, 1, 0, 2, 2, 2, 1, 0, 2, 2, 1] (bodyOf Try.f69)) (ap [1, 1, 1, 1, 1, 1, 1, 1, 1, 0, 2, 1, 0, 2, 1] slices_partitionCmpFunc_2_int_an) [(0, .slice data dataL dataC), (1, .int .i64 a), (4, cmp), (12, .int .i64 i), (13, .int .i64 j)] h (slices_partitionCmpFunc_2_int_K16 nx0 nx1 K)
def slices_partitionCmpFunc_2_int_b13 (data : Option Addr) (dataL : Nat) (dataC : Nat) (a : Int) (cmp : Value) (i : Int) (j : Int) (h : Hp) (nx0 : Int × Int × Unit → Hp → Prop) (K : Value → Hp → Prop) : Prop :=
  sx_2 Try.prog F 178 (cp [1, 1, 1, 1, 1, 1, 1, 1, 1, 0, 2, 2, 2, 1, 1] (bodyOf Try.f69)) (ap [1, 1, 1, 1, 1, 1, 1, 1, 1, 0, 2, 1, 1] slices_partitionCmpFunc_2_int_an) [(0, .slice data dataL dataC), (1, .int .i64 a), (4, cmp), (12, .int .i64 i), (13, .int .i64 j)] h (slices_partitionCmpFunc_2_int_K10 nx0 K)
def slices_partitionCmpFunc_2_int_b14 (data : Option Addr) (dataL : Nat) (dataC : Nat) (a : Int) (j : Int) (h : Hp)  (K : Value → Hp → Prop) : Prop :=
  sx_4 Try.prog F 178 (cp [1, 1, 1, 1, 1, 1, 1, 1, 1, 1] (bodyOf Try.f69)) (ap [1, 1, 1, 1, 1, 1, 1, 1, 1, 1] slices_partitionCmpFunc_2_int_an) [(0, .slice data dataL dataC), (1, .int .i64 a), (13, .int .i64 j)] h (slices_partitionCmpFunc_2_int_K0  K)
theorem slices_partitionCmpFunc_2_int_b0_eq (data : Option Addr) (dataL : Nat) (dataC : Nat) (a : Int) (b : Int) (pivot : Int) (cmp : Value) (h : Hp)  (K : Value → Hp → Prop) : slices_partitionCmpFunc_2_int_b0 data dataL dataC a b pivot cmp h  K = (
  (0 ≤ pivot ∧ pivot < (dataL : Int)) ∧
  NN data fun a1 =>
  ∃ n1 : Int, ∃ n2 : Int, cell h (a1.add (Int.toNat pivot * 2)) = some (.int .i64 n1) ∧
  cell h ((a1.add (Int.toNat pivot * 2)).add 1) = some (.int .i64 n2) ∧
  (0 ≤ a ∧ a < (dataL : Int)) ∧
  NN data fun a2 =>
  ∃ n3 : Int, ∃ n4 : Int, cell h (a2.add (Int.toNat a * 2)) = some (.int .i64 n3) ∧
  cell h ((a2.add (Int.toNat a * 2)).add 1) = some (.int .i64 n4) ∧
  (0 ≤ a ∧ a < (dataL : Int)) ∧
  NN data fun a3 =>
  Wr h (a3.add (Int.toNat a * 2)) (.int .i64 n1) fun h1 =>
  Wr h1 ((a3.add (Int.toNat a * 2)).add 1) (.int .i64 n2) fun h2 =>
  (0 ≤ pivot ∧ pivot < (dataL : Int)) ∧
  NN data fun a4 =>
  Wr h2 (a4.add (Int.toNat pivot * 2)) (.int .i64 n3) fun h3 =>
  Wr h3 ((a4.add (Int.toNat pivot * 2)).add 1) (.int .i64 n4) fun h4 =>
  InR (a + 1) ∧
  InR (b - 1) ∧
  LoopVC ((a + 1, ()) : Int × Unit) h4 (fun (nx0 : Int × Unit → Hp → Prop) (s1 : Int × Unit) h5 => slices_partitionCmpFunc_2_int_b1 s1.1 data dataL dataC a cmp (b - 1) h5 nx0 K)) := by kernel_rfl
theorem slices_partitionCmpFunc_2_int_b1_eq (i : Int) (data : Option Addr) (dataL : Nat) (dataC : Nat) (a : Int) (cmp : Value) (j : Int) (h : Hp) (nx0 : Int × Unit → Hp → Prop) (K : Value → Hp → Prop) : slices_partitionCmpFunc_2_int_b1 i data dataL dataC a cmp j h nx0 K = (
  cond (decide (i ≤ j))
  ((0 ≤ i ∧ i < (dataL : Int)) ∧
  NN data fun a5 =>
  ∃ n5 : Int, ∃ n6 : Int, cell h (a5.add (Int.toNat i * 2)) = some (.int .i64 n5) ∧
  cell h ((a5.add (Int.toNat i * 2)).add 1) = some (.int .i64 n6) ∧
  (0 ≤ a ∧ a < (dataL : Int)) ∧
  NN data fun a6 =>
  ∃ n7 : Int, ∃ n8 : Int, cell h (a6.add (Int.toNat a * 2)) = some (.int .i64 n7) ∧
  cell h ((a6.add (Int.toNat a * 2)).add 1) = some (.int .i64 n8) ∧
  funV cmp fun fg1 fa1 fc1 => callX Try.prog F fg1 (fa1 ++ (([.agg #[.int .i64 n5, .int .i64 n6], .agg #[.int .i64 n7, .int .i64 n8]] : List Value) ++ fc1)).toArray h fun v1 h6 => ∃ r1 : Int, v1 = .int .i64 r1 ∧
  cond (decide (r1 < 0))
  (slices_partitionCmpFunc_2_int_b2 data dataL dataC a cmp i j h6 nx0 K)
  (slices_partitionCmpFunc_2_int_b3 data dataL dataC a cmp i j h6  K))
  (slices_partitionCmpFunc_2_int_b3 data dataL dataC a cmp i j h  K)) := by kernel_rfl
theorem slices_partitionCmpFunc_2_int_b2_eq (data : Option Addr) (dataL : Nat) (dataC : Nat) (a : Int) (cmp : Value) (i : Int) (j : Int) (h : Hp) (nx0 : Int × Unit → Hp → Prop) (K : Value → Hp → Prop) : slices_partitionCmpFunc_2_int_b2 data dataL dataC a cmp i j h nx0 K = (
  InR (i + 1) ∧
  nx0 (i + 1, ()) h) := by kernel_rfl
theorem slices_partitionCmpFunc_2_int_b3_eq (data : Option Addr) (dataL : Nat) (dataC : Nat) (a : Int) (cmp : Value) (i : Int) (j : Int) (h : Hp)  (K : Value → Hp → Prop) : slices_partitionCmpFunc_2_int_b3 data dataL dataC a cmp i j h  K = (
  LoopVC ((j, ()) : Int × Unit) h (fun (nx0 : Int × Unit → Hp → Prop) (s2 : Int × Unit) h7 => slices_partitionCmpFunc_2_int_b4 s2.1 data dataL dataC a cmp i h7 nx0 K)) := by kernel_rfl
theorem slices_partitionCmpFunc_2_int_b4_eq (j : Int) (data : Option Addr) (dataL : Nat) (dataC : Nat) (a : Int) (cmp : Value) (i : Int) (h : Hp) (nx0 : Int × Unit → Hp → Prop) (K : Value → Hp → Prop) : slices_partitionCmpFunc_2_int_b4 j data dataL dataC a cmp i h nx0 K = (
  cond (decide (i ≤ j))
  ((0 ≤ j ∧ j < (dataL : Int)) ∧
  NN data fun a7 =>
  ∃ n9 : Int, ∃ n10 : Int, cell h (a7.add (Int.toNat j * 2)) = some (.int .i64 n9) ∧
  cell h ((a7.add (Int.toNat j * 2)).add 1) = some (.int .i64 n10) ∧
  (0 ≤ a ∧ a < (dataL : Int)) ∧
  NN data fun a8 =>
  ∃ n11 : Int, ∃ n12 : Int, cell h (a8.add (Int.toNat a * 2)) = some (.int .i64 n11) ∧
  cell h ((a8.add (Int.toNat a * 2)).add 1) = some (.int .i64 n12) ∧
  funV cmp fun fg2 fa2 fc2 => callX Try.prog F fg2 (fa2 ++ (([.agg #[.int .i64 n9, .int .i64 n10], .agg #[.int .i64 n11, .int .i64 n12]] : List Value) ++ fc2)).toArray h fun v2 h8 => ∃ r2 : Int, v2 = .int .i64 r2 ∧
  cond (!(decide (r2 < 0)))
  (slices_partitionCmpFunc_2_int_b5 data dataL dataC a cmp i j h8 nx0 K)
  (slices_partitionCmpFunc_2_int_b6 data dataL dataC a cmp i j h8  K))
  (slices_partitionCmpFunc_2_int_b6 data dataL dataC a cmp i j h  K)) := by kernel_rfl
theorem slices_partitionCmpFunc_2_int_b5_eq (data : Option Addr) (dataL : Nat) (dataC : Nat) (a : Int) (cmp : Value) (i : Int) (j : Int) (h : Hp) (nx0 : Int × Unit → Hp → Prop) (K : Value → Hp → Prop) : slices_partitionCmpFunc_2_int_b5 data dataL dataC a cmp i j h nx0 K = (
  InR (j - 1) ∧
  nx0 (j - 1, ()) h) := by kernel_rfl
theorem slices_partitionCmpFunc_2_int_b6_eq (data : Option Addr) (dataL : Nat) (dataC : Nat) (a : Int) (cmp : Value) (i : Int) (j : Int) (h : Hp)  (K : Value → Hp → Prop) : slices_partitionCmpFunc_2_int_b6 data dataL dataC a cmp i j h  K = (
  cond (decide (j < i))
  ((0 ≤ a ∧ a < (dataL : Int)) ∧
  NN data fun a9 =>
  ∃ n13 : Int, ∃ n14 : Int, cell h (a9.add (Int.toNat a * 2)) = some (.int .i64 n13) ∧
  cell h ((a9.add (Int.toNat a * 2)).add 1) = some (.int .i64 n14) ∧
  (0 ≤ j ∧ j < (dataL : Int)) ∧
  NN data fun a10 =>
  ∃ n15 : Int, ∃ n16 : Int, cell h (a10.add (Int.toNat j * 2)) = some (.int .i64 n15) ∧
  cell h ((a10.add (Int.toNat j * 2)).add 1) = some (.int .i64 n16) ∧
  (0 ≤ j ∧ j < (dataL : Int)) ∧
  NN data fun a11 =>
  Wr h (a11.add (Int.toNat j * 2)) (.int .i64 n13) fun h9 =>
  Wr h9 ((a11.add (Int.toNat j * 2)).add 1) (.int .i64 n14) fun h10 =>
  (0 ≤ a ∧ a < (dataL : Int)) ∧
  NN data fun a12 =>
  Wr h10 (a12.add (Int.toNat a * 2)) (.int .i64 n15) fun h11 =>
  Wr h11 ((a12.add (Int.toNat a * 2)).add 1) (.int .i64 n16) fun h12 =>
  K (.tuple #[.int .i64 j, .bool true]) h12)
  ((0 ≤ j ∧ j < (dataL : Int)) ∧
  NN data fun a13 =>
  ∃ n17 : Int, ∃ n18 : Int, cell h (a13.add (Int.toNat j * 2)) = some (.int .i64 n17) ∧
  cell h ((a13.add (Int.toNat j * 2)).add 1) = some (.int .i64 n18) ∧
  (0 ≤ i ∧ i < (dataL : Int)) ∧
  NN data fun a14 =>
  ∃ n19 : Int, ∃ n20 : Int, cell h (a14.add (Int.toNat i * 2)) = some (.int .i64 n19) ∧
  cell h ((a14.add (Int.toNat i * 2)).add 1) = some (.int .i64 n20) ∧
  (0 ≤ i ∧ i < (dataL : Int)) ∧
  NN data fun a15 =>
  Wr h (a15.add (Int.toNat i * 2)) (.int .i64 n17) fun h13 =>
  Wr h13 ((a15.add (Int.toNat i * 2)).add 1) (.int .i64 n18) fun h14 =>
  (0 ≤ j ∧ j < (dataL : Int)) ∧
  NN data fun a16 =>
  Wr h14 (a16.add (Int.toNat j * 2)) (.int .i64 n19) fun h15 =>
  Wr h15 ((a16.add (Int.toNat j * 2)).add 1) (.int .i64 n20) fun h16 =>
  InR (i + 1) ∧
  InR (j - 1) ∧
  LoopVC ((i + 1, j - 1, ()) : Int × Int × Unit) h16 (fun (nx0 : Int × Int × Unit → Hp → Prop) (s3 : Int × Int × Unit) h17 => slices_partitionCmpFunc_2_int_b7 s3.1 s3.2.1 data dataL dataC a cmp h17 nx0 K))) := by kernel_rfl
theorem slices_partitionCmpFunc_2_int_b7_eq (i : Int) (j : Int) (data : Option Addr) (dataL : Nat) (dataC : Nat) (a : Int) (cmp : Value) (h : Hp) (nx0 : Int × Int × Unit → Hp → Prop) (K : Value → Hp → Prop) : slices_partitionCmpFunc_2_int_b7 i j data dataL dataC a cmp h nx0 K = (
  LoopVC ((i, ()) : Int × Unit) h (fun (nx1 : Int × Unit → Hp → Prop) (s4 : Int × Unit) h18 => slices_partitionCmpFunc_2_int_b8 s4.1 data dataL dataC a cmp j h18 nx0 nx1 K)) := by kernel_rfl
theorem slices_partitionCmpFunc_2_int_b8_eq (i : Int) (data : Option Addr) (dataL : Nat) (dataC : Nat) (a : Int) (cmp : Value) (j : Int) (h : Hp) (nx0 : Int × Int × Unit → Hp → Prop) (nx1 : Int × Unit → Hp → Prop) (K : Value → Hp → Prop) : slices_partitionCmpFunc_2_int_b8 i data dataL dataC a cmp j h nx0 nx1 K = (
  cond (decide (i ≤ j))
  ((0 ≤ i ∧ i < (dataL : Int)) ∧
  NN data fun a17 =>
  ∃ n21 : Int, ∃ n22 : Int, cell h (a17.add (Int.toNat i * 2)) = some (.int .i64 n21) ∧
  cell h ((a17.add (Int.toNat i * 2)).add 1) = some (.int .i64 n22) ∧
  (0 ≤ a ∧ a < (dataL : Int)) ∧
  NN data fun a18 =>
  ∃ n23 : Int, ∃ n24 : Int, cell h (a18.add (Int.toNat a * 2)) = some (.int .i64 n23) ∧
  cell h ((a18.add (Int.toNat a * 2)).add 1) = some (.int .i64 n24) ∧
  funV cmp fun fg3 fa3 fc3 => callX Try.prog F fg3 (fa3 ++ (([.agg #[.int .i64 n21, .int .i64 n22], .agg #[.int .i64 n23, .int .i64 n24]] : List Value) ++ fc3)).toArray h fun v3 h19 => ∃ r3 : Int, v3 = .int .i64 r3 ∧
  cond (decide (r3 < 0))
  (slices_partitionCmpFunc_2_int_b9 data dataL dataC a cmp i j h19 nx0 nx1 K)
  (slices_partitionCmpFunc_2_int_b10 data dataL dataC a cmp i j h19 nx0 K))
  (slices_partitionCmpFunc_2_int_b10 data dataL dataC a cmp i j h nx0 K)) := by kernel_rfl
theorem slices_partitionCmpFunc_2_int_b9_eq (data : Option Addr) (dataL : Nat) (dataC : Nat) (a : Int) (cmp : Value) (i : Int) (j : Int) (h : Hp) (nx0 : Int × Int × Unit → Hp → Prop) (nx1 : Int × Unit → Hp → Prop) (K : Value → Hp → Prop) : slices_partitionCmpFunc_2_int_b9 data dataL dataC a cmp i j h nx0 nx1 K = (
  InR (i + 1) ∧
  nx1 (i + 1, ()) h) := by kernel_rfl
theorem slices_partitionCmpFunc_2_int_b10_eq (data : Option Addr) (dataL : Nat) (dataC : Nat) (a : Int) (cmp : Value) (i : Int) (j : Int) (h : Hp) (nx0 : Int × Int × Unit → Hp → Prop) (K : Value → Hp → Prop) : slices_partitionCmpFunc_2_int_b10 data dataL dataC a cmp i j h nx0 K = (
  LoopVC ((j, ()) : Int × Unit) h (fun (nx1 : Int × Unit → Hp → Prop) (s5 : Int × Unit) h20 => slices_partitionCmpFunc_2_int_b11 s5.1 data dataL dataC a cmp i h20 nx0 nx1 K)) := by kernel_rfl
theorem slices_partitionCmpFunc_2_int_b11_eq (j : Int) (data : Option Addr) (dataL : Nat) (dataC : Nat) (a : Int) (cmp : Value) (i : Int) (h : Hp) (nx0 : Int × Int × Unit → Hp → Prop) (nx1 : Int × Unit → Hp → Prop) (K : Value → Hp → Prop) : slices_partitionCmpFunc_2_int_b11 j data dataL dataC a cmp i h nx0 nx1 K = (
  cond (decide (i ≤ j))
  ((0 ≤ j ∧ j < (dataL : Int)) ∧
  NN data fun a19 =>
  ∃ n25 : Int, ∃ n26 : Int, cell h (a19.add (Int.toNat j * 2)) = some (.int .i64 n25) ∧
  cell h ((a19.add (Int.toNat j * 2)).add 1) = some (.int .i64 n26) ∧
  (0 ≤ a ∧ a < (dataL : Int)) ∧
  NN data fun a20 =>
  ∃ n27 : Int, ∃ n28 : Int, cell h (a20.add (Int.toNat a * 2)) = some (.int .i64 n27) ∧
  cell h ((a20.add (Int.toNat a * 2)).add 1) = some (.int .i64 n28) ∧
  funV cmp fun fg4 fa4 fc4 => callX Try.prog F fg4 (fa4 ++ (([.agg #[.int .i64 n25, .int .i64 n26], .agg #[.int .i64 n27, .int .i64 n28]] : List Value) ++ fc4)).toArray h fun v4 h21 => ∃ r4 : Int, v4 = .int .i64 r4 ∧
  cond (!(decide (r4 < 0)))
  (slices_partitionCmpFunc_2_int_b12 data dataL dataC a cmp i j h21 nx0 nx1 K)
  (slices_partitionCmpFunc_2_int_b13 data dataL dataC a cmp i j h21 nx0 K))
  (slices_partitionCmpFunc_2_int_b13 data dataL dataC a cmp i j h nx0 K)) := by kernel_rfl
theorem slices_partitionCmpFunc_2_int_b12_eq (data : Option Addr) (dataL : Nat) (dataC : Nat) (a : Int) (cmp : Value) (i : Int) (j : Int) (h : Hp) (nx0 : Int × Int × Unit → Hp → Prop) (nx1 : Int × Unit → Hp → Prop) (K : Value → Hp → Prop) : slices_partitionCmpFunc_2_int_b12 data dataL dataC a cmp i j h nx0 nx1 K = (
  InR (j - 1) ∧
  nx1 (j - 1, ()) h) := by kernel_rfl
theorem slices_partitionCmpFunc_2_int_b13_eq (data : Option Addr) (dataL : Nat) (dataC : Nat) (a : Int) (cmp : Value) (i : Int) (j : Int) (h : Hp) (nx0 : Int × Int × Unit → Hp → Prop) (K : Value → Hp → Prop) : slices_partitionCmpFunc_2_int_b13 data dataL dataC a cmp i j h nx0 K = (
  cond (decide (j < i))
  (slices_partitionCmpFunc_2_int_b14 data dataL dataC a j h  K)
  ((0 ≤ j ∧ j < (dataL : Int)) ∧
  NN data fun a21 =>
  ∃ n29 : Int, ∃ n30 : Int, cell h (a21.add (Int.toNat j * 2)) = some (.int .i64 n29) ∧
  cell h ((a21.add (Int.toNat j * 2)).add 1) = some (.int .i64 n30) ∧
  (0 ≤ i ∧ i < (dataL : Int)) ∧
  NN data fun a22 =>
  ∃ n31 : Int, ∃ n32 : Int, cell h (a22.add (Int.toNat i * 2)) = some (.int .i64 n31) ∧
  cell h ((a22.add (Int.toNat i * 2)).add 1) = some (.int .i64 n32) ∧
  (0 ≤ i ∧ i < (dataL : Int)) ∧
  NN data fun a23 =>
  Wr h (a23.add (Int.toNat i * 2)) (.int .i64 n29) fun h22 =>
  Wr h22 ((a23.add (Int.toNat i * 2)).add 1) (.int .i64 n30) fun h23 =>
  (0 ≤ j ∧ j < (dataL : Int)) ∧
  NN data fun a24 =>
  Wr h23 (a24.add (Int.toNat j * 2)) (.int .i64 n31) fun h24 =>
  Wr h24 ((a24.add (Int.toNat j * 2)).add 1) (.int .i64 n32) fun h25 =>
  InR (i + 1) ∧
  InR (j - 1) ∧
  nx0 (i + 1, j - 1, ()) h25)) := by kernel_rfl
theorem slices_partitionCmpFunc_2_int_b14_eq (data : Option Addr) (dataL : Nat) (dataC : Nat) (a : Int) (j : Int) (h : Hp)  (K : Value → Hp → Prop) : slices_partitionCmpFunc_2_int_b14 data dataL dataC a j h  K = (
  (0 ≤ a ∧ a < (dataL : Int)) ∧
  NN data fun a25 =>
  ∃ n33 : Int, ∃ n34 : Int, cell h (a25.add (Int.toNat a * 2)) = some (.int .i64 n33) ∧
  cell h ((a25.add (Int.toNat a * 2)).add 1) = some (.int .i64 n34) ∧
  (0 ≤ j ∧ j < (dataL : Int)) ∧
  NN data fun a26 =>
  ∃ n35 : Int, ∃ n36 : Int, cell h (a26.add (Int.toNat j * 2)) = some (.int .i64 n35) ∧
  cell h ((a26.add (Int.toNat j * 2)).add 1) = some (.int .i64 n36) ∧
  (0 ≤ j ∧ j < (dataL : Int)) ∧
  NN data fun a27 =>
  Wr h (a27.add (Int.toNat j * 2)) (.int .i64 n33) fun h26 =>
  Wr h26 ((a27.add (Int.toNat j * 2)).add 1) (.int .i64 n34) fun h27 =>
  (0 ≤ a ∧ a < (dataL : Int)) ∧
  NN data fun a28 =>
  Wr h27 (a28.add (Int.toNat a * 2)) (.int .i64 n35) fun h28 =>
  Wr h28 ((a28.add (Int.toNat a * 2)).add 1) (.int .i64 n36) fun h29 =>
  K (.tuple #[.int .i64 j, .bool false]) h29) := by kernel_rfl
theorem slices_partitionCmpFunc_2_int_call {data : Option Addr} {dataL : Nat} {dataC : Nat} {a : Int} {b : Int} {pivot : Int} {cmp : Value} {h : Hp} {K : Value → Hp → Prop} (hk : slices_partitionCmpFunc_2_int_b0 data dataL dataC a b pivot cmp h K) : HCalls Try.prog 69 #[.slice data dataL dataC, .int .i64 a, .int .i64 b, .int .i64 pivot, cmp] h K :=
  calls_of_snd slices_partitionCmpFunc_2_int_an Try.func69 (c := bodyOf Try.f69) rfl Try.ntmps69 (Nat.le_of_ble_eq_true rfl) (snd_7 F_ok F_mixed) hk

/-! ### math_bits_Len32 -/
/-! ### math_bits_Len64 -/
def math_bits_Len64_an : Ann := .node none (.leaf) (.node (some [0, 2]) (.leaf) (.node (some [0, 2]) (.leaf) (.node (some [0, 2]) (.leaf) (.leaf))))
def math_bits_Len64_K0  (K : Value → Hp → Prop) : Exit → Env → Hp → Prop := retK Try.prog Try.f71.results.toList K
def math_bits_Len64_b0 (x : Int) (h : Hp)  (K : Value → Hp → Prop) : Prop :=
  sx_4 Try.prog F 25 (cp [] (bodyOf Try.f71)) (ap [] math_bits_Len64_an) [(0, .int .u64 x)] h (math_bits_Len64_K0  K)
def math_bits_Len64_b1 (x : Int) (nv : Int) (h : Hp)  (K : Value → Hp → Prop) : Prop :=
  sx_3 Try.prog F 25 (cp [1, 1] (bodyOf Try.f71)) (ap [1, 1] math_bits_Len64_an) [(0, .int .u64 x), (2, .int .i64 nv)] h (math_bits_Len64_K0  K)
def math_bits_Len64_b2 (x : Int) (nv : Int) (h : Hp)  (K : Value → Hp → Prop) : Prop :=
  sx_2 Try.prog F 25 (cp [1, 1, 1] (bodyOf Try.f71)) (ap [1, 1, 1] math_bits_Len64_an) [(0, .int .u64 x), (2, .int .i64 nv)] h (math_bits_Len64_K0  K)
def math_bits_Len64_b3 (x : Int) (nv : Int) (h : Hp)  (K : Value → Hp → Prop) : Prop :=
  sx_1 Try.prog F 25 (cp [1, 1, 1, 1] (bodyOf Try.f71)) (ap [1, 1, 1, 1] math_bits_Len64_an) [(0, .int .u64 x), (2, .int .i64 nv)] h (math_bits_Len64_K0  K)
theorem math_bits_Len64_b0_eq (x : Int) (h : Hp)  (K : Value → Hp → Prop) : math_bits_Len64_b0 x h  K = (
  cond (decide ((4294967296 : Int) ≤ x))
  (∃ sr1 : Int, Sx.Shr .u64 x 32 sr1 ∧
  math_bits_Len64_b1 sr1 32 h  K)
  (math_bits_Len64_b1 x 0 h  K)) := by kernel_rfl
theorem math_bits_Len64_b1_eq (x : Int) (nv : Int) (h : Hp)  (K : Value → Hp → Prop) : math_bits_Len64_b1 x nv h  K = (
  cond (decide ((65536 : Int) ≤ x))
  (∃ sr2 : Int, Sx.Shr .u64 x 16 sr2 ∧
  InR (nv + 16) ∧
  math_bits_Len64_b2 sr2 (nv + 16) h  K)
  (math_bits_Len64_b2 x nv h  K)) := by kernel_rfl
theorem math_bits_Len64_b2_eq (x : Int) (nv : Int) (h : Hp)  (K : Value → Hp → Prop) : math_bits_Len64_b2 x nv h  K = (
  cond (decide ((256 : Int) ≤ x))
  (∃ sr3 : Int, Sx.Shr .u64 x 8 sr3 ∧
  InR (nv + 8) ∧
  math_bits_Len64_b3 sr3 (nv + 8) h  K)
  (math_bits_Len64_b3 x nv h  K)) := by kernel_rfl
theorem math_bits_Len64_b3_eq (x : Int) (nv : Int) (h : Hp)  (K : Value → Hp → Prop) : math_bits_Len64_b3 x nv h  K = (
  (0 ≤ IntKind.u8.wrap x ∧ IntKind.u8.wrap x < ((⟨#[0, 1, 2, 2, 3, 3, 3, 3, 4, 4, 4, 4, 4, 4, 4, 4, 5, 5, 5, 5, 5, 5, 5, 5, 5, 5, 5, 5, 5, 5, 5, 5, 6, 6, 6, 6, 6, 6, 6, 6, 6, 6, 6, 6, 6, 6, 6, 6, 6, 6, 6, 6, 6, 6, 6, 6, 6, 6, 6, 6, 6, 6, 6, 6, 7, 7, 7, 7, 7, 7, 7, 7, 7, 7, 7, 7, 7, 7, 7, 7, 7, 7, 7, 7, 7, 7, 7, 7, 7, 7, 7, 7, 7, 7, 7, 7, 7, 7, 7, 7, 7, 7, 7, 7, 7, 7, 7, 7, 7, 7, 7, 7, 7, 7, 7, 7, 7, 7, 7, 7, 7, 7, 7, 7, 7, 7, 7, 7, 8, 8, 8, 8, 8, 8, 8, 8, 8, 8, 8, 8, 8, 8, 8, 8, 8, 8, 8, 8, 8, 8, 8, 8, 8, 8, 8, 8, 8, 8, 8, 8, 8, 8, 8, 8, 8, 8, 8, 8, 8, 8, 8, 8, 8, 8, 8, 8, 8, 8, 8, 8, 8, 8, 8, 8, 8, 8, 8, 8, 8, 8, 8, 8, 8, 8, 8, 8, 8, 8, 8, 8, 8, 8, 8, 8, 8, 8, 8, 8, 8, 8, 8, 8, 8, 8, 8, 8, 8, 8, 8, 8, 8, 8, 8, 8, 8, 8, 8, 8, 8, 8, 8, 8, 8, 8, 8, 8, 8, 8, 8, 8, 8, 8, 8, 8, 8, 8, 8, 8, 8, 8, 8, 8, 8, 8, 8, 8]⟩ : ByteArray).size : Int)) ∧
  InR (((⟨#[0, 1, 2, 2, 3, 3, 3, 3, 4, 4, 4, 4, 4, 4, 4, 4, 5, 5, 5, 5, 5, 5, 5, 5, 5, 5, 5, 5, 5, 5, 5, 5, 6, 6, 6, 6, 6, 6, 6, 6, 6, 6, 6, 6, 6, 6, 6, 6, 6, 6, 6, 6, 6, 6, 6, 6, 6, 6, 6, 6, 6, 6, 6, 6, 7, 7, 7, 7, 7, 7, 7, 7, 7, 7, 7, 7, 7, 7, 7, 7, 7, 7, 7, 7, 7, 7, 7, 7, 7, 7, 7, 7, 7, 7, 7, 7, 7, 7, 7, 7, 7, 7, 7, 7, 7, 7, 7, 7, 7, 7, 7, 7, 7, 7, 7, 7, 7, 7, 7, 7, 7, 7, 7, 7, 7, 7, 7, 7, 8, 8, 8, 8, 8, 8, 8, 8, 8, 8, 8, 8, 8, 8, 8, 8, 8, 8, 8, 8, 8, 8, 8, 8, 8, 8, 8, 8, 8, 8, 8, 8, 8, 8, 8, 8, 8, 8, 8, 8, 8, 8, 8, 8, 8, 8, 8, 8, 8, 8, 8, 8, 8, 8, 8, 8, 8, 8, 8, 8, 8, 8, 8, 8, 8, 8, 8, 8, 8, 8, 8, 8, 8, 8, 8, 8, 8, 8, 8, 8, 8, 8, 8, 8, 8, 8, 8, 8, 8, 8, 8, 8, 8, 8, 8, 8, 8, 8, 8, 8, 8, 8, 8, 8, 8, 8, 8, 8, 8, 8, 8, 8, 8, 8, 8, 8, 8, 8, 8, 8, 8, 8, 8, 8, 8, 8, 8, 8]⟩ : ByteArray).data.toList.getD (Int.toNat (IntKind.u8.wrap x)) 0).toNat : Int) ∧
  InR (nv + (((⟨#[0, 1, 2, 2, 3, 3, 3, 3, 4, 4, 4, 4, 4, 4, 4, 4, 5, 5, 5, 5, 5, 5, 5, 5, 5, 5, 5, 5, 5, 5, 5, 5, 6, 6, 6, 6, 6, 6, 6, 6, 6, 6, 6, 6, 6, 6, 6, 6, 6, 6, 6, 6, 6, 6, 6, 6, 6, 6, 6, 6, 6, 6, 6, 6, 7, 7, 7, 7, 7, 7, 7, 7, 7, 7, 7, 7, 7, 7, 7, 7, 7, 7, 7, 7, 7, 7, 7, 7, 7, 7, 7, 7, 7, 7, 7, 7, 7, 7, 7, 7, 7, 7, 7, 7, 7, 7, 7, 7, 7, 7, 7, 7, 7, 7, 7, 7, 7, 7, 7, 7, 7, 7, 7, 7, 7, 7, 7, 7, 8, 8, 8, 8, 8, 8, 8, 8, 8, 8, 8, 8, 8, 8, 8, 8, 8, 8, 8, 8, 8, 8, 8, 8, 8, 8, 8, 8, 8, 8, 8, 8, 8, 8, 8, 8, 8, 8, 8, 8, 8, 8, 8, 8, 8, 8, 8, 8, 8, 8, 8, 8, 8, 8, 8, 8, 8, 8, 8, 8, 8, 8, 8, 8, 8, 8, 8, 8, 8, 8, 8, 8, 8, 8, 8, 8, 8, 8, 8, 8, 8, 8, 8, 8, 8, 8, 8, 8, 8, 8, 8, 8, 8, 8, 8, 8, 8, 8, 8, 8, 8, 8, 8, 8, 8, 8, 8, 8, 8, 8, 8, 8, 8, 8, 8, 8, 8, 8, 8, 8, 8, 8, 8, 8, 8, 8, 8, 8]⟩ : ByteArray).data.toList.getD (Int.toNat (IntKind.u8.wrap x)) 0).toNat : Int)) ∧
  K (.int .i64 (nv + (((⟨#[0, 1, 2, 2, 3, 3, 3, 3, 4, 4, 4, 4, 4, 4, 4, 4, 5, 5, 5, 5, 5, 5, 5, 5, 5, 5, 5, 5, 5, 5, 5, 5, 6, 6, 6, 6, 6, 6, 6, 6, 6, 6, 6, 6, 6, 6, 6, 6, 6, 6, 6, 6, 6, 6, 6, 6, 6, 6, 6, 6, 6, 6, 6, 6, 7, 7, 7, 7, 7, 7, 7, 7, 7, 7, 7, 7, 7, 7, 7, 7, 7, 7, 7, 7, 7, 7, 7, 7, 7, 7, 7, 7, 7, 7, 7, 7, 7, 7, 7, 7, 7, 7, 7, 7, 7, 7, 7, 7, 7, 7, 7, 7, 7, 7, 7, 7, 7, 7, 7, 7, 7, 7, 7, 7, 7, 7, 7, 7, 8, 8, 8, 8, 8, 8, 8, 8, 8, 8, 8, 8, 8, 8, 8, 8, 8, 8, 8, 8, 8, 8, 8, 8, 8, 8, 8, 8, 8, 8, 8, 8, 8, 8, 8, 8, 8, 8, 8, 8, 8, 8, 8, 8, 8, 8, 8, 8, 8, 8, 8, 8, 8, 8, 8, 8, 8, 8, 8, 8, 8, 8, 8, 8, 8, 8, 8, 8, 8, 8, 8, 8, 8, 8, 8, 8, 8, 8, 8, 8, 8, 8, 8, 8, 8, 8, 8, 8, 8, 8, 8, 8, 8, 8, 8, 8, 8, 8, 8, 8, 8, 8, 8, 8, 8, 8, 8, 8, 8, 8, 8, 8, 8, 8, 8, 8, 8, 8, 8, 8, 8, 8, 8, 8, 8, 8, 8, 8]⟩ : ByteArray).data.toList.getD (Int.toNat (IntKind.u8.wrap x)) 0).toNat : Int))) h) := by kernel_rfl
theorem math_bits_Len64_call {x : Int} {h : Hp} {K : Value → Hp → Prop} (hk : math_bits_Len64_b0 x h K) : HCalls Try.prog 71 #[.int .u64 x] h K :=
  calls_of_snd math_bits_Len64_an Try.func71 (c := bodyOf Try.f71) rfl Try.ntmps71 (Nat.le_of_ble_eq_true rfl) (snd_4 F_ok F_mixed) hk

/-! ### ones64 -/
def ones64_an : Ann := .leaf
def ones64_K0  (K : Value → Hp → Prop) : Exit → Env → Hp → Prop := retK Try.prog Try.f72.results.toList K
def ones64_b0 (x : Int) (h : Hp)  (K : Value → Hp → Prop) : Prop :=
  sx_1 Try.prog F 35 (cp [] (bodyOf Try.f72)) (ap [] ones64_an) [(0, .int .u64 x)] h (ones64_K0  K)
theorem ones64_b0_eq (x : Int) (h : Hp)  (K : Value → Hp → Prop) : ones64_b0 x h  K = (
  ∃ sr1 : Int, Sx.Shr .u64 x 1 sr1 ∧
  ∃ an1 : Int, Sx.And .u64 sr1 6148914691236517205 an1 ∧
  ∃ an2 : Int, Sx.And .u64 x 6148914691236517205 an2 ∧
  ∃ sr2 : Int, Sx.Shr .u64 (IntKind.u64.wrap (an1 + an2)) 2 sr2 ∧
  ∃ an3 : Int, Sx.And .u64 sr2 3689348814741910323 an3 ∧
  ∃ an4 : Int, Sx.And .u64 (IntKind.u64.wrap (an1 + an2)) 3689348814741910323 an4 ∧
  ∃ sr3 : Int, Sx.Shr .u64 (IntKind.u64.wrap (an3 + an4)) 4 sr3 ∧
  ∃ an5 : Int, Sx.And .u64 (IntKind.u64.wrap (sr3 + (IntKind.u64.wrap (an3 + an4)))) 1085102592571150095 an5 ∧
  ∃ sr4 : Int, Sx.Shr .u64 an5 8 sr4 ∧
  ∃ sr5 : Int, Sx.Shr .u64 (IntKind.u64.wrap (an5 + sr4)) 16 sr5 ∧
  ∃ sr6 : Int, Sx.Shr .u64 (IntKind.u64.wrap ((IntKind.u64.wrap (an5 + sr4)) + sr5)) 32 sr6 ∧
  InR (IntKind.u64.wrap ((IntKind.u64.wrap ((IntKind.u64.wrap (an5 + sr4)) + sr5)) + sr6)) ∧
  ∃ an6 : Int, Sx.And .i64 (IntKind.u64.wrap ((IntKind.u64.wrap ((IntKind.u64.wrap (an5 + sr4)) + sr5)) + sr6)) 127 an6 ∧
  K (.int .i64 an6) h) := by kernel_rfl
theorem ones64_call {x : Int} {h : Hp} {K : Value → Hp → Prop} (hk : ones64_b0 x h K) : HCalls Try.prog 72 #[.int .u64 x] h K :=
  calls_of_snd ones64_an Try.func72 (c := bodyOf Try.f72) rfl Try.ntmps72 (Nat.le_of_ble_eq_true rfl) (snd_1 F_ok F_mixed) hk

/-! ### slices_insertionSortCmpFunc_int -/
def slices_insertionSortCmpFunc_int_an : Ann := .node none (.leaf) (.loop [0, 1, 2, 3] [(8, .int .i64)] (.node none (.leaf) (.node (some [0, 1, 2, 3, 8]) (.node none (.leaf) (.loop [0, 1, 2, 3, 8] [(9, .int .i64)] (.node (some [0, 1, 2, 3, 8, 9]) (.node none (.tail 14) (.leaf)) (.node (some [0, 1, 2, 3, 8, 9]) (.plan (.qu 0 (.qu 1 (.qu 2 (.qu 3 (.qu 4 (.qu 5 (.qu 6 (.qu 7 (.qu 8 (.qu 9 (.qu 10 (.qu 11 (.qu 12 (.qu 13 (.qu 14 (.wo 15 (.qu 16 (.wo 17 .fin .no)) .no))))))))))))))))) (.leaf))))) (.leaf))))
def slices_insertionSortCmpFunc_int_K0  (K : Value → Hp → Prop) : Exit → Env → Hp → Prop := retK Try.prog Try.f73.results.toList K
def slices_insertionSortCmpFunc_int_K1  (K : Value → Hp → Prop) : Exit → Env → Hp → Prop := blockE 0 (slices_insertionSortCmpFunc_int_K0  K)
def slices_insertionSortCmpFunc_int_K2 (nx0 : Int × Unit → Hp → Prop) (K : Value → Hp → Prop) : Exit → Env → Hp → Prop := thenE (fun env h => getV [(8, .int .i64)] env fun s => nx0 s h) (slices_insertionSortCmpFunc_int_K1  K)
def slices_insertionSortCmpFunc_int_K3 (nx0 : Int × Unit → Hp → Prop) (K : Value → Hp → Prop) : Exit → Env → Hp → Prop := thenE (fun env h => sx_3 Try.prog F 53 (cp [1, 2, 2, 1, 1] (bodyOf Try.f73)) (ap [1, 2, 1, 1] slices_insertionSortCmpFunc_int_an) (rs [0, 1, 2, 3, 8] env) h (slices_insertionSortCmpFunc_int_K2 nx0 K)) (slices_insertionSortCmpFunc_int_K2 nx0 K)
def slices_insertionSortCmpFunc_int_K4 (nx0 : Int × Unit → Hp → Prop) (K : Value → Hp → Prop) : Exit → Env → Hp → Prop := blockE 1 (slices_insertionSortCmpFunc_int_K3 nx0 K)
def slices_insertionSortCmpFunc_int_K5 (nx0 : Int × Unit → Hp → Prop) (K : Value → Hp → Prop) : Exit → Env → Hp → Prop := blockE 2 (slices_insertionSortCmpFunc_int_K4 nx0 K)
def slices_insertionSortCmpFunc_int_K6 (nx0 : Int × Unit → Hp → Prop) (nx1 : Int × Unit → Hp → Prop) (K : Value → Hp → Prop) : Exit → Env → Hp → Prop := thenE (fun env h => getV [(9, .int .i64)] env fun s => nx1 s h) (slices_insertionSortCmpFunc_int_K5 nx0 K)
def slices_insertionSortCmpFunc_int_b0 (data : Option Addr) (dataL : Nat) (dataC : Nat) (a : Int) (b : Int) (cmp : Value) (h : Hp)  (K : Value → Hp → Prop) : Prop :=
  sx_5 Try.prog F 53 (cp [] (bodyOf Try.f73)) (ap [] slices_insertionSortCmpFunc_int_an) [(0, .slice data dataL dataC), (1, .int .i64 a), (2, .int .i64 b), (3, cmp)] h (slices_insertionSortCmpFunc_int_K0  K)
def slices_insertionSortCmpFunc_int_b1 (i : Int) (data : Option Addr) (dataL : Nat) (dataC : Nat) (a : Int) (b : Int) (cmp : Value) (h : Hp) (nx0 : Int × Unit → Hp → Prop) (K : Value → Hp → Prop) : Prop :=
  sx_4 Try.prog F 53 (cp [1, 2, 2] (bodyOf Try.f73)) (ap [1, 2] slices_insertionSortCmpFunc_int_an) [(8, .int .i64 i), (0, .slice data dataL dataC), (1, .int .i64 a), (2, .int .i64 b), (3, cmp)] h (slices_insertionSortCmpFunc_int_K2 nx0 K)
def slices_insertionSortCmpFunc_int_b2 (j : Int) (data : Option Addr) (dataL : Nat) (dataC : Nat) (a : Int) (b : Int) (cmp : Value) (i : Int) (h : Hp) (nx0 : Int × Unit → Hp → Prop) (nx1 : Int × Unit → Hp → Prop) (K : Value → Hp → Prop) : Prop :=
  sx_3 Try.prog F 53 (cp [1, 2, 2, 1, 0, 2, 1, 2, 2] (bodyOf Try.f73)) (ap [1, 2, 1, 0, 1, 2] slices_insertionSortCmpFunc_int_an) [(9, .int .i64 j), (0, .slice data dataL dataC), (1, .int .i64 a), (2, .int .i64 b), (3, cmp), (8, .int .i64 i)] h (slices_insertionSortCmpFunc_int_K6 nx0 nx1 K)
def slices_insertionSortCmpFunc_int_b3 (data : Option Addr) (dataL : Nat) (dataC : Nat) (a : Int) (b : Int) (cmp : Value) (i : Int) (j : Int) (h : Hp) (nx0 : Int × Unit → Hp → Prop) (nx1 : Int × Unit → Hp → Prop) (K : Value → Hp → Prop) : Prop :=
  sx_2 Try.prog F 53 (cp [1, 2, 2, 1, 0, 2, 1, 2, 2, 1] (bodyOf Try.f73)) (ap [1, 2, 1, 0, 1, 2, 1] slices_insertionSortCmpFunc_int_an) [(0, .slice data dataL dataC), (1, .int .i64 a), (2, .int .i64 b), (3, cmp), (8, .int .i64 i), (9, .int .i64 j)] h (slices_insertionSortCmpFunc_int_K6 nx0 nx1 K)
def slices_insertionSortCmpFunc_int_b4 (data : Option Addr) (dataL : Nat) (dataC : Nat) (a : Int) (b : Int) (cmp : Value) (i : Int) (h : Hp) (nx0 : Int × Unit → Hp → Prop) (K : Value → Hp → Prop) : Prop :=
  sx_3 Try.prog F 53 (cp [1, 2, 2, 1, 1] (bodyOf Try.f73)) (ap [1, 2, 1, 1] slices_insertionSortCmpFunc_int_an) [(0, .slice data dataL dataC), (1, .int .i64 a), (2, .int .i64 b), (3, cmp), (8, .int .i64 i)] h (slices_insertionSortCmpFunc_int_K2 nx0 K)
def slices_insertionSortCmpFunc_int_b5 (data : Option Addr) (dataL : Nat) (dataC : Nat) (a : Int) (b : Int) (cmp : Value) (i : Int) (j : Int) (h : Hp) (nx0 : Int × Unit → Hp → Prop) (nx1 : Int × Unit → Hp → Prop) (K : Value → Hp → Prop) : Prop :=
  sx_1 Try.prog F 53 (cp [1, 2, 2, 1, 0, 2, 1, 2, 2, 1, 1] (bodyOf Try.f73)) (ap [1, 2, 1, 0, 1, 2, 1, 1] slices_insertionSortCmpFunc_int_an) [(0, .slice data dataL dataC), (1, .int .i64 a), (2, .int .i64 b), (3, cmp), (8, .int .i64 i), (9, .int .i64 j)] h (slices_insertionSortCmpFunc_int_K6 nx0 nx1 K)
theorem slices_insertionSortCmpFunc_int_b0_eq (data : Option Addr) (dataL : Nat) (dataC : Nat) (a : Int) (b : Int) (cmp : Value) (h : Hp)  (K : Value → Hp → Prop) : slices_insertionSortCmpFunc_int_b0 data dataL dataC a b cmp h  K = (
  InR (a + 1) ∧
  LoopVC ((a + 1, ()) : Int × Unit) h (fun (nx0 : Int × Unit → Hp → Prop) (s1 : Int × Unit) h1 => slices_insertionSortCmpFunc_int_b1 s1.1 data dataL dataC a b cmp h1 nx0 K)) := by kernel_rfl
theorem slices_insertionSortCmpFunc_int_b1_eq (i : Int) (data : Option Addr) (dataL : Nat) (dataC : Nat) (a : Int) (b : Int) (cmp : Value) (h : Hp) (nx0 : Int × Unit → Hp → Prop) (K : Value → Hp → Prop) : slices_insertionSortCmpFunc_int_b1 i data dataL dataC a b cmp h nx0 K = (
  cond (decide (i < b))
  (LoopVC ((i, ()) : Int × Unit) h (fun (nx1 : Int × Unit → Hp → Prop) (s2 : Int × Unit) h2 => slices_insertionSortCmpFunc_int_b2 s2.1 data dataL dataC a b cmp i h2 nx0 nx1 K))
  (K (.tuple #[]) h)) := by kernel_rfl
theorem slices_insertionSortCmpFunc_int_b2_eq (j : Int) (data : Option Addr) (dataL : Nat) (dataC : Nat) (a : Int) (b : Int) (cmp : Value) (i : Int) (h : Hp) (nx0 : Int × Unit → Hp → Prop) (nx1 : Int × Unit → Hp → Prop) (K : Value → Hp → Prop) : slices_insertionSortCmpFunc_int_b2 j data dataL dataC a b cmp i h nx0 nx1 K = (
  cond (decide (a < j))
  ((0 ≤ j ∧ j < (dataL : Int)) ∧
  NN data fun a1 =>
  ∃ n1 : Int, cell h (a1.add (Int.toNat j * 1)) = some (.int .i64 n1) ∧
  InR (j - 1) ∧
  (0 ≤ j - 1 ∧ j - 1 < (dataL : Int)) ∧
  NN data fun a2 =>
  ∃ n2 : Int, cell h (a2.add (Int.toNat (j - 1) * 1)) = some (.int .i64 n2) ∧
  funV cmp fun fg1 fa1 fc1 => callX Try.prog F fg1 (fa1 ++ (([.int .i64 n1, .int .i64 n2] : List Value) ++ fc1)).toArray h fun v1 h3 => ∃ r1 : Int, v1 = .int .i64 r1 ∧
  cond (decide (r1 < 0))
  (slices_insertionSortCmpFunc_int_b3 data dataL dataC a b cmp i j h3 nx0 nx1 K)
  (slices_insertionSortCmpFunc_int_b4 data dataL dataC a b cmp i h3 nx0 K))
  (slices_insertionSortCmpFunc_int_b4 data dataL dataC a b cmp i h nx0 K)) := by kernel_rfl
theorem slices_insertionSortCmpFunc_int_b3_eq (data : Option Addr) (dataL : Nat) (dataC : Nat) (a : Int) (b : Int) (cmp : Value) (i : Int) (j : Int) (h : Hp) (nx0 : Int × Unit → Hp → Prop) (nx1 : Int × Unit → Hp → Prop) (K : Value → Hp → Prop) : slices_insertionSortCmpFunc_int_b3 data dataL dataC a b cmp i j h nx0 nx1 K = (
  InR (j - 1) ∧
  InR (j - 1) ∧
  (0 ≤ j - 1 ∧ j - 1 < (dataL : Int)) ∧
  NN data fun a3 =>
  ∃ n3 : Int, cell h (a3.add (Int.toNat (j - 1) * 1)) = some (.int .i64 n3) ∧
  (0 ≤ j ∧ j < (dataL : Int)) ∧
  NN data fun a4 =>
  ∃ n4 : Int, cell h (a4.add (Int.toNat j * 1)) = some (.int .i64 n4) ∧
  (0 ≤ j ∧ j < (dataL : Int)) ∧
  NN data fun a5 =>
  Wr h (a5.add (Int.toNat j * 1)) (.int .i64 n3) fun h4 =>
  (0 ≤ j - 1 ∧ j - 1 < (dataL : Int)) ∧
  NN data fun a6 =>
  Wr h4 (a6.add (Int.toNat (j - 1) * 1)) (.int .i64 n4) fun h5 =>
  slices_insertionSortCmpFunc_int_b5 data dataL dataC a b cmp i j h5 nx0 nx1 K) := by kernel_rfl
theorem slices_insertionSortCmpFunc_int_b4_eq (data : Option Addr) (dataL : Nat) (dataC : Nat) (a : Int) (b : Int) (cmp : Value) (i : Int) (h : Hp) (nx0 : Int × Unit → Hp → Prop) (K : Value → Hp → Prop) : slices_insertionSortCmpFunc_int_b4 data dataL dataC a b cmp i h nx0 K = (
  InR (i + 1) ∧
  nx0 (i + 1, ()) h) := by kernel_rfl
theorem slices_insertionSortCmpFunc_int_b5_eq (data : Option Addr) (dataL : Nat) (dataC : Nat) (a : Int) (b : Int) (cmp : Value) (i : Int) (j : Int) (h : Hp) (nx0 : Int × Unit → Hp → Prop) (nx1 : Int × Unit → Hp → Prop) (K : Value → Hp → Prop) : slices_insertionSortCmpFunc_int_b5 data dataL dataC a b cmp i j h nx0 nx1 K = (
  InR (j - 1) ∧
  nx1 (j - 1, ()) h) := by kernel_rfl
theorem slices_insertionSortCmpFunc_int_call {data : Option Addr} {dataL : Nat} {dataC : Nat} {a : Int} {b : Int} {cmp : Value} {h : Hp} {K : Value → Hp → Prop} (hk : slices_insertionSortCmpFunc_int_b0 data dataL dataC a b cmp h K) : HCalls Try.prog 73 #[.slice data dataL dataC, .int .i64 a, .int .i64 b, cmp] h K :=
  calls_of_snd slices_insertionSortCmpFunc_int_an Try.func73 (c := bodyOf Try.f73) rfl Try.ntmps73 (Nat.le_of_ble_eq_true rfl) (snd_5 F_ok F_mixed) hk

/-! ### slices_symMergeCmpFunc_int -/
def slices_symMergeCmpFunc_int_an : Ann := .node none (.node none (.leaf) (.node none (.node none (.leaf) (.node none (.leaf) (.node (some [0, 1, 10]) (.loop [0, 1, 4] [(10, .int .i64), (11, .int .i64)] (.node none (.leaf) (.node none (.leaf) (.node none (.tail 9) (.leaf))))) (.node none (.node none (.leaf) (.loop [0, 10] [(13, .int .i64)] (.node none (.leaf) (.node (some [0, 10, 13]) (.plan (.qu 0 (.qu 1 (.qu 2 (.qu 3 (.qu 4 (.qu 5 (.qu 6 (.qu 7 (.qu 8 (.qu 9 (.qu 10 (.qu 11 (.qu 12 (.qu 13 (.qu 14 (.wo 15 (.qu 16 (.wo 17 .fin .no)) .no))))))))))))))))) (.leaf))))) (.leaf))))) (.leaf))) (.node none (.node none (.leaf) (.node none (.node none (.leaf) (.node none (.leaf) (.node (some [0, 2, 14]) (.loop [0, 2, 4] [(14, .int .i64), (15, .int .i64)] (.node none (.leaf) (.node none (.leaf) (.node none (.tail 9) (.leaf))))) (.node none (.node none (.leaf) (.loop [0, 14] [(17, .int .i64)] (.node none (.leaf) (.node (some [0, 14, 17]) (.plan (.qu 0 (.qu 1 (.qu 2 (.qu 3 (.qu 4 (.qu 5 (.qu 6 (.qu 7 (.qu 8 (.qu 9 (.qu 10 (.qu 11 (.qu 12 (.qu 13 (.qu 14 (.wo 15 (.qu 16 (.wo 17 .fin .no)) .no))))))))))))))))) (.leaf))))) (.leaf))))) (.leaf))) (.node none (.leaf) (.node none (.leaf) (.node none (.leaf) (.node (some [0, 1, 2, 3, 4, 18, 19, 20, 21]) (.leaf) (.node none (.leaf) (.node (some [0, 1, 2, 3, 4, 18, 19, 20]) (.loop [0, 1, 2, 3, 4, 18, 19, 22] [(20, .int .i64), (21, .int .i64)] (.node none (.leaf) (.node none (.leaf) (.node none (.tail 11) (.leaf))))) (.node none (.leaf) (.node (some [0, 1, 3, 4, 18, 20, 24]) (.leaf) (.node (some [0, 3, 4, 18, 24]) (.leaf) (.leaf)))))))))))
def slices_symMergeCmpFunc_int_K0  (K : Value → Hp → Prop) : Exit → Env → Hp → Prop := retK Try.prog Try.f74.results.toList K
def slices_symMergeCmpFunc_int_K1  (K : Value → Hp → Prop) : Exit → Env → Hp → Prop := thenE (fun env h => sx0 Try.prog F 220 (sx_4 Try.prog F 220) (cp [1] (bodyOf Try.f74)) (ap [1] slices_symMergeCmpFunc_int_an) env h (slices_symMergeCmpFunc_int_K0  K)) (slices_symMergeCmpFunc_int_K0  K)
def slices_symMergeCmpFunc_int_K2  (K : Value → Hp → Prop) : Exit → Env → Hp → Prop := thenE (fun env h => sx_4 Try.prog F 220 (cp [0, 1, 0, 1, 1, 1] (bodyOf Try.f74)) (ap [0, 1, 0, 1, 1, 1] slices_symMergeCmpFunc_int_an) (rs [0, 1, 10] env) h (slices_symMergeCmpFunc_int_K1  K)) (slices_symMergeCmpFunc_int_K1  K)
def slices_symMergeCmpFunc_int_K3  (K : Value → Hp → Prop) : Exit → Env → Hp → Prop := blockE 0 (slices_symMergeCmpFunc_int_K2  K)
def slices_symMergeCmpFunc_int_K4 (nx0 : Int × Int × Unit → Hp → Prop) (K : Value → Hp → Prop) : Exit → Env → Hp → Prop := thenE (fun env h => getV [(10, .int .i64), (11, .int .i64)] env fun s => nx0 s h) (slices_symMergeCmpFunc_int_K3  K)
def slices_symMergeCmpFunc_int_K5  (K : Value → Hp → Prop) : Exit → Env → Hp → Prop := thenE (fun env h => sx0 Try.prog F 220 (sx_4 Try.prog F 220) (cp [1, 1] (bodyOf Try.f74)) (ap [1, 1] slices_symMergeCmpFunc_int_an) env h (slices_symMergeCmpFunc_int_K0  K)) (slices_symMergeCmpFunc_int_K0  K)
def slices_symMergeCmpFunc_int_K6  (K : Value → Hp → Prop) : Exit → Env → Hp → Prop := thenE (fun env h => sx_4 Try.prog F 220 (cp [1, 0, 1, 0, 1, 1, 1] (bodyOf Try.f74)) (ap [1, 0, 1, 0, 1, 1, 1] slices_symMergeCmpFunc_int_an) (rs [0, 2, 14] env) h (slices_symMergeCmpFunc_int_K5  K)) (slices_symMergeCmpFunc_int_K5  K)
def slices_symMergeCmpFunc_int_K7  (K : Value → Hp → Prop) : Exit → Env → Hp → Prop := blockE 4 (slices_symMergeCmpFunc_int_K6  K)
def slices_symMergeCmpFunc_int_K8 (nx0 : Int × Int × Unit → Hp → Prop) (K : Value → Hp → Prop) : Exit → Env → Hp → Prop := thenE (fun env h => getV [(14, .int .i64), (15, .int .i64)] env fun s => nx0 s h) (slices_symMergeCmpFunc_int_K7  K)
def slices_symMergeCmpFunc_int_K9  (K : Value → Hp → Prop) : Exit → Env → Hp → Prop := thenE (fun env h => sx_3 Try.prog F 220 (cp [1, 1, 1, 1, 1, 1, 1, 1] (bodyOf Try.f74)) (ap [1, 1, 1, 1, 1, 1, 1, 1] slices_symMergeCmpFunc_int_an) (rs [0, 1, 2, 3, 4, 18, 19, 20] env) h (slices_symMergeCmpFunc_int_K0  K)) (slices_symMergeCmpFunc_int_K0  K)
def slices_symMergeCmpFunc_int_K10  (K : Value → Hp → Prop) : Exit → Env → Hp → Prop := blockE 8 (slices_symMergeCmpFunc_int_K9  K)
def slices_symMergeCmpFunc_int_K11 (nx0 : Int × Int × Unit → Hp → Prop) (K : Value → Hp → Prop) : Exit → Env → Hp → Prop := thenE (fun env h => getV [(20, .int .i64), (21, .int .i64)] env fun s => nx0 s h) (slices_symMergeCmpFunc_int_K10  K)
def slices_symMergeCmpFunc_int_K12  (K : Value → Hp → Prop) : Exit → Env → Hp → Prop := thenE (fun env h => sx0 Try.prog F 220 (sx_3 Try.prog F 220) (cp [0, 1, 0, 1, 1, 1, 1] (bodyOf Try.f74)) (ap [0, 1, 0, 1, 1, 1, 1] slices_symMergeCmpFunc_int_an) env h (slices_symMergeCmpFunc_int_K1  K)) (slices_symMergeCmpFunc_int_K1  K)
def slices_symMergeCmpFunc_int_K13  (K : Value → Hp → Prop) : Exit → Env → Hp → Prop := blockE 2 (slices_symMergeCmpFunc_int_K12  K)
def slices_symMergeCmpFunc_int_K14 (nx0 : Int × Unit → Hp → Prop) (K : Value → Hp → Prop) : Exit → Env → Hp → Prop := thenE (fun env h => getV [(13, .int .i64)] env fun s => nx0 s h) (slices_symMergeCmpFunc_int_K13  K)
def slices_symMergeCmpFunc_int_K15  (K : Value → Hp → Prop) : Exit → Env → Hp → Prop := thenE (fun env h => sx0 Try.prog F 220 (sx_3 Try.prog F 220) (cp [1, 0, 1, 0, 1, 1, 1, 1] (bodyOf Try.f74)) (ap [1, 0, 1, 0, 1, 1, 1, 1] slices_symMergeCmpFunc_int_an) env h (slices_symMergeCmpFunc_int_K5  K)) (slices_symMergeCmpFunc_int_K5  K)
def slices_symMergeCmpFunc_int_K16  (K : Value → Hp → Prop) : Exit → Env → Hp → Prop := blockE 6 (slices_symMergeCmpFunc_int_K15  K)
def slices_symMergeCmpFunc_int_K17 (nx0 : Int × Unit → Hp → Prop) (K : Value → Hp → Prop) : Exit → Env → Hp → Prop := thenE (fun env h => getV [(17, .int .i64)] env fun s => nx0 s h) (slices_symMergeCmpFunc_int_K16  K)
def slices_symMergeCmpFunc_int_b0 (data : Option Addr) (dataL : Nat) (dataC : Nat) (a : Int) (m : Int) (b : Int) (cmp : Value) (h : Hp)  (K : Value → Hp → Prop) : Prop :=
  sx_5 Try.prog F 220 (cp [] (bodyOf Try.f74)) (ap [] slices_symMergeCmpFunc_int_an) [(0, .slice data dataL dataC), (1, .int .i64 a), (2, .int .i64 m), (3, .int .i64 b), (4, cmp)] h (slices_symMergeCmpFunc_int_K0  K)
def slices_symMergeCmpFunc_int_b1 (i : Int) (j : Int) (data : Option Addr) (dataL : Nat) (dataC : Nat) (a : Int) (cmp : Value) (h : Hp) (nx0 : Int × Int × Unit → Hp → Prop) (K : Value → Hp → Prop) : Prop :=
  sx_4 Try.prog F 220 (cp [0, 1, 0, 1, 1, 0, 2, 2] (bodyOf Try.f74)) (ap [0, 1, 0, 1, 1, 0, 2] slices_symMergeCmpFunc_int_an) [(10, .int .i64 i), (11, .int .i64 j), (0, .slice data dataL dataC), (1, .int .i64 a), (4, cmp)] h (slices_symMergeCmpFunc_int_K4 nx0 K)
def slices_symMergeCmpFunc_int_b2 (i : Int) (j : Int) (data : Option Addr) (dataL : Nat) (dataC : Nat) (m : Int) (cmp : Value) (h : Hp) (nx0 : Int × Int × Unit → Hp → Prop) (K : Value → Hp → Prop) : Prop :=
  sx_4 Try.prog F 220 (cp [1, 0, 1, 0, 1, 1, 0, 2, 2] (bodyOf Try.f74)) (ap [1, 0, 1, 0, 1, 1, 0, 2] slices_symMergeCmpFunc_int_an) [(14, .int .i64 i), (15, .int .i64 j), (0, .slice data dataL dataC), (2, .int .i64 m), (4, cmp)] h (slices_symMergeCmpFunc_int_K8 nx0 K)
def slices_symMergeCmpFunc_int_b3 (data : Option Addr) (dataL : Nat) (dataC : Nat) (a : Int) (m : Int) (b : Int) (cmp : Value) (mid : Int) (nv : Int) (start : Int) (r : Int) (h : Hp)  (K : Value → Hp → Prop) : Prop :=
  sx_4 Try.prog F 220 (cp [1, 1, 1, 1, 1, 1] (bodyOf Try.f74)) (ap [1, 1, 1, 1, 1, 1] slices_symMergeCmpFunc_int_an) [(0, .slice data dataL dataC), (1, .int .i64 a), (2, .int .i64 m), (3, .int .i64 b), (4, cmp), (18, .int .i64 mid), (19, .int .i64 nv), (20, .int .i64 start), (21, .int .i64 r)] h (slices_symMergeCmpFunc_int_K0  K)
def slices_symMergeCmpFunc_int_b4 (data : Option Addr) (dataL : Nat) (dataC : Nat) (a : Int) (i : Int) (h : Hp)  (K : Value → Hp → Prop) : Prop :=
  sx_4 Try.prog F 220 (cp [0, 1, 0, 1, 1, 1] (bodyOf Try.f74)) (ap [0, 1, 0, 1, 1, 1] slices_symMergeCmpFunc_int_an) [(0, .slice data dataL dataC), (1, .int .i64 a), (10, .int .i64 i)] h (slices_symMergeCmpFunc_int_K1  K)
def slices_symMergeCmpFunc_int_b5 (data : Option Addr) (dataL : Nat) (dataC : Nat) (m : Int) (i : Int) (h : Hp)  (K : Value → Hp → Prop) : Prop :=
  sx_4 Try.prog F 220 (cp [1, 0, 1, 0, 1, 1, 1] (bodyOf Try.f74)) (ap [1, 0, 1, 0, 1, 1, 1] slices_symMergeCmpFunc_int_an) [(0, .slice data dataL dataC), (2, .int .i64 m), (14, .int .i64 i)] h (slices_symMergeCmpFunc_int_K5  K)
def slices_symMergeCmpFunc_int_b6 (start : Int) (r : Int) (data : Option Addr) (dataL : Nat) (dataC : Nat) (a : Int) (m : Int) (b : Int) (cmp : Value) (mid : Int) (nv : Int) (p : Int) (h : Hp) (nx0 : Int × Int × Unit → Hp → Prop) (K : Value → Hp → Prop) : Prop :=
  sx_3 Try.prog F 220 (cp [1, 1, 1, 1, 1, 1, 1, 0, 2, 2] (bodyOf Try.f74)) (ap [1, 1, 1, 1, 1, 1, 1, 0, 2] slices_symMergeCmpFunc_int_an) [(20, .int .i64 start), (21, .int .i64 r), (0, .slice data dataL dataC), (1, .int .i64 a), (2, .int .i64 m), (3, .int .i64 b), (4, cmp), (18, .int .i64 mid), (19, .int .i64 nv), (22, .int .i64 p)] h (slices_symMergeCmpFunc_int_K11 nx0 K)
def slices_symMergeCmpFunc_int_b7 (k : Int) (data : Option Addr) (dataL : Nat) (dataC : Nat) (i : Int) (h : Hp) (nx0 : Int × Unit → Hp → Prop) (K : Value → Hp → Prop) : Prop :=
  sx_3 Try.prog F 220 (cp [0, 1, 0, 1, 1, 1, 0, 1, 2, 2] (bodyOf Try.f74)) (ap [0, 1, 0, 1, 1, 1, 0, 1, 2] slices_symMergeCmpFunc_int_an) [(13, .int .i64 k), (0, .slice data dataL dataC), (10, .int .i64 i)] h (slices_symMergeCmpFunc_int_K14 nx0 K)
def slices_symMergeCmpFunc_int_b8 (k : Int) (data : Option Addr) (dataL : Nat) (dataC : Nat) (i : Int) (h : Hp) (nx0 : Int × Unit → Hp → Prop) (K : Value → Hp → Prop) : Prop :=
  sx_3 Try.prog F 220 (cp [1, 0, 1, 0, 1, 1, 1, 0, 1, 2, 2] (bodyOf Try.f74)) (ap [1, 0, 1, 0, 1, 1, 1, 0, 1, 2] slices_symMergeCmpFunc_int_an) [(17, .int .i64 k), (0, .slice data dataL dataC), (14, .int .i64 i)] h (slices_symMergeCmpFunc_int_K17 nx0 K)
def slices_symMergeCmpFunc_int_b9 (data : Option Addr) (dataL : Nat) (dataC : Nat) (a : Int) (m : Int) (b : Int) (cmp : Value) (mid : Int) (nv : Int) (start : Int) (h : Hp)  (K : Value → Hp → Prop) : Prop :=
  sx_3 Try.prog F 220 (cp [1, 1, 1, 1, 1, 1, 1, 1] (bodyOf Try.f74)) (ap [1, 1, 1, 1, 1, 1, 1, 1] slices_symMergeCmpFunc_int_an) [(0, .slice data dataL dataC), (1, .int .i64 a), (2, .int .i64 m), (3, .int .i64 b), (4, cmp), (18, .int .i64 mid), (19, .int .i64 nv), (20, .int .i64 start)] h (slices_symMergeCmpFunc_int_K0  K)
def slices_symMergeCmpFunc_int_b10 (data : Option Addr) (dataL : Nat) (dataC : Nat) (i : Int) (k : Int) (h : Hp) (nx0 : Int × Unit → Hp → Prop) (K : Value → Hp → Prop) : Prop :=
  sx_2 Try.prog F 220 (cp [0, 1, 0, 1, 1, 1, 0, 1, 2, 2, 1, 1] (bodyOf Try.f74)) (ap [0, 1, 0, 1, 1, 1, 0, 1, 2, 1, 1] slices_symMergeCmpFunc_int_an) [(0, .slice data dataL dataC), (10, .int .i64 i), (13, .int .i64 k)] h (slices_symMergeCmpFunc_int_K14 nx0 K)
def slices_symMergeCmpFunc_int_b11 (data : Option Addr) (dataL : Nat) (dataC : Nat) (i : Int) (k : Int) (h : Hp) (nx0 : Int × Unit → Hp → Prop) (K : Value → Hp → Prop) : Prop :=
  sx_2 Try.prog F 220 (cp [1, 0, 1, 0, 1, 1, 1, 0, 1, 2, 2, 1, 1] (bodyOf Try.f74)) (ap [1, 0, 1, 0, 1, 1, 1, 0, 1, 2, 1, 1] slices_symMergeCmpFunc_int_an) [(0, .slice data dataL dataC), (14, .int .i64 i), (17, .int .i64 k)] h (slices_symMergeCmpFunc_int_K17 nx0 K)
def slices_symMergeCmpFunc_int_b12 (data : Option Addr) (dataL : Nat) (dataC : Nat) (a : Int) (b : Int) (cmp : Value) (mid : Int) (start : Int) (endv : Int) (h : Hp)  (K : Value → Hp → Prop) : Prop :=
  sx_2 Try.prog F 220 (cp [1, 1, 1, 1, 1, 1, 1, 1, 1, 1] (bodyOf Try.f74)) (ap [1, 1, 1, 1, 1, 1, 1, 1, 1, 1] slices_symMergeCmpFunc_int_an) [(0, .slice data dataL dataC), (1, .int .i64 a), (3, .int .i64 b), (4, cmp), (18, .int .i64 mid), (20, .int .i64 start), (24, .int .i64 endv)] h (slices_symMergeCmpFunc_int_K0  K)
def slices_symMergeCmpFunc_int_b13 (data : Option Addr) (dataL : Nat) (dataC : Nat) (b : Int) (cmp : Value) (mid : Int) (endv : Int) (h : Hp)  (K : Value → Hp → Prop) : Prop :=
  sx_1 Try.prog F 220 (cp [1, 1, 1, 1, 1, 1, 1, 1, 1, 1, 1] (bodyOf Try.f74)) (ap [1, 1, 1, 1, 1, 1, 1, 1, 1, 1, 1] slices_symMergeCmpFunc_int_an) [(0, .slice data dataL dataC), (3, .int .i64 b), (4, cmp), (18, .int .i64 mid), (24, .int .i64 endv)] h (slices_symMergeCmpFunc_int_K0  K)
theorem slices_symMergeCmpFunc_int_b0_eq (data : Option Addr) (dataL : Nat) (dataC : Nat) (a : Int) (m : Int) (b : Int) (cmp : Value) (h : Hp)  (K : Value → Hp → Prop) : slices_symMergeCmpFunc_int_b0 data dataL dataC a m b cmp h  K = (
  InR (m - a) ∧
  cond (decide ((m - a) = 1))
  (LoopVC ((m, b, ()) : Int × Int × Unit) h (fun (nx0 : Int × Int × Unit → Hp → Prop) (s1 : Int × Int × Unit) h1 => slices_symMergeCmpFunc_int_b1 s1.1 s1.2.1 data dataL dataC a cmp h1 nx0 K))
  (InR (b - m) ∧
  cond (decide ((b - m) = 1))
  (LoopVC ((a, m, ()) : Int × Int × Unit) h (fun (nx0 : Int × Int × Unit → Hp → Prop) (s2 : Int × Int × Unit) h2 => slices_symMergeCmpFunc_int_b2 s2.1 s2.2.1 data dataL dataC m cmp h2 nx0 K))
  (InR (a + b) ∧
  ∃ sr1 : Int, Sx.Shr .u64 (IntKind.u64.wrap (a + b)) 1 sr1 ∧
  InR sr1 ∧
  InR (sr1 + m) ∧
  cond (decide (sr1 < m))
  (InR ((sr1 + m) - b) ∧
  slices_symMergeCmpFunc_int_b3 data dataL dataC a m b cmp sr1 (sr1 + m) ((sr1 + m) - b) sr1 h  K)
  (slices_symMergeCmpFunc_int_b3 data dataL dataC a m b cmp sr1 (sr1 + m) a m h  K)))) := by kernel_rfl
theorem slices_symMergeCmpFunc_int_b1_eq (i : Int) (j : Int) (data : Option Addr) (dataL : Nat) (dataC : Nat) (a : Int) (cmp : Value) (h : Hp) (nx0 : Int × Int × Unit → Hp → Prop) (K : Value → Hp → Prop) : slices_symMergeCmpFunc_int_b1 i j data dataL dataC a cmp h nx0 K = (
  cond (decide (i < j))
  (InR (i + j) ∧
  ∃ sr2 : Int, Sx.Shr .u64 (IntKind.u64.wrap (i + j)) 1 sr2 ∧
  InR sr2 ∧
  (0 ≤ sr2 ∧ sr2 < (dataL : Int)) ∧
  NN data fun a1 =>
  ∃ n1 : Int, cell h (a1.add (Int.toNat sr2 * 1)) = some (.int .i64 n1) ∧
  (0 ≤ a ∧ a < (dataL : Int)) ∧
  NN data fun a2 =>
  ∃ n2 : Int, cell h (a2.add (Int.toNat a * 1)) = some (.int .i64 n2) ∧
  funV cmp fun fg1 fa1 fc1 => callX Try.prog F fg1 (fa1 ++ (([.int .i64 n1, .int .i64 n2] : List Value) ++ fc1)).toArray h fun v1 h3 => ∃ r1 : Int, v1 = .int .i64 r1 ∧
  cond (decide (r1 < 0))
  (InR (sr2 + 1) ∧
  nx0 (sr2 + 1, j, ()) h3)
  (nx0 (i, sr2, ()) h3))
  (slices_symMergeCmpFunc_int_b4 data dataL dataC a i h  K)) := by kernel_rfl
theorem slices_symMergeCmpFunc_int_b2_eq (i : Int) (j : Int) (data : Option Addr) (dataL : Nat) (dataC : Nat) (m : Int) (cmp : Value) (h : Hp) (nx0 : Int × Int × Unit → Hp → Prop) (K : Value → Hp → Prop) : slices_symMergeCmpFunc_int_b2 i j data dataL dataC m cmp h nx0 K = (
  cond (decide (i < j))
  (InR (i + j) ∧
  ∃ sr3 : Int, Sx.Shr .u64 (IntKind.u64.wrap (i + j)) 1 sr3 ∧
  InR sr3 ∧
  (0 ≤ m ∧ m < (dataL : Int)) ∧
  NN data fun a3 =>
  ∃ n3 : Int, cell h (a3.add (Int.toNat m * 1)) = some (.int .i64 n3) ∧
  (0 ≤ sr3 ∧ sr3 < (dataL : Int)) ∧
  NN data fun a4 =>
  ∃ n4 : Int, cell h (a4.add (Int.toNat sr3 * 1)) = some (.int .i64 n4) ∧
  funV cmp fun fg2 fa2 fc2 => callX Try.prog F fg2 (fa2 ++ (([.int .i64 n3, .int .i64 n4] : List Value) ++ fc2)).toArray h fun v2 h4 => ∃ r2 : Int, v2 = .int .i64 r2 ∧
  cond (!(decide (r2 < 0)))
  (InR (sr3 + 1) ∧
  nx0 (sr3 + 1, j, ()) h4)
  (nx0 (i, sr3, ()) h4))
  (slices_symMergeCmpFunc_int_b5 data dataL dataC m i h  K)) := by kernel_rfl
theorem slices_symMergeCmpFunc_int_b3_eq (data : Option Addr) (dataL : Nat) (dataC : Nat) (a : Int) (m : Int) (b : Int) (cmp : Value) (mid : Int) (nv : Int) (start : Int) (r : Int) (h : Hp)  (K : Value → Hp → Prop) : slices_symMergeCmpFunc_int_b3 data dataL dataC a m b cmp mid nv start r h  K = (
  InR (nv - 1) ∧
  LoopVC ((start, r, ()) : Int × Int × Unit) h (fun (nx0 : Int × Int × Unit → Hp → Prop) (s3 : Int × Int × Unit) h5 => slices_symMergeCmpFunc_int_b6 s3.1 s3.2.1 data dataL dataC a m b cmp mid nv (nv - 1) h5 nx0 K)) := by kernel_rfl
theorem slices_symMergeCmpFunc_int_b4_eq (data : Option Addr) (dataL : Nat) (dataC : Nat) (a : Int) (i : Int) (h : Hp)  (K : Value → Hp → Prop) : slices_symMergeCmpFunc_int_b4 data dataL dataC a i h  K = (
  LoopVC ((a, ()) : Int × Unit) h (fun (nx0 : Int × Unit → Hp → Prop) (s4 : Int × Unit) h6 => slices_symMergeCmpFunc_int_b7 s4.1 data dataL dataC i h6 nx0 K)) := by kernel_rfl
theorem slices_symMergeCmpFunc_int_b5_eq (data : Option Addr) (dataL : Nat) (dataC : Nat) (m : Int) (i : Int) (h : Hp)  (K : Value → Hp → Prop) : slices_symMergeCmpFunc_int_b5 data dataL dataC m i h  K = (
  LoopVC ((m, ()) : Int × Unit) h (fun (nx0 : Int × Unit → Hp → Prop) (s5 : Int × Unit) h7 => slices_symMergeCmpFunc_int_b8 s5.1 data dataL dataC i h7 nx0 K)) := by kernel_rfl
theorem slices_symMergeCmpFunc_int_b6_eq (start : Int) (r : Int) (data : Option Addr) (dataL : Nat) (dataC : Nat) (a : Int) (m : Int) (b : Int) (cmp : Value) (mid : Int) (nv : Int) (p : Int) (h : Hp) (nx0 : Int × Int × Unit → Hp → Prop) (K : Value → Hp → Prop) : slices_symMergeCmpFunc_int_b6 start r data dataL dataC a m b cmp mid nv p h nx0 K = (
  cond (decide (start < r))
  (InR (start + r) ∧
  ∃ sr4 : Int, Sx.Shr .u64 (IntKind.u64.wrap (start + r)) 1 sr4 ∧
  InR sr4 ∧
  InR (p - sr4) ∧
  (0 ≤ p - sr4 ∧ p - sr4 < (dataL : Int)) ∧
  NN data fun a5 =>
  ∃ n5 : Int, cell h (a5.add (Int.toNat (p - sr4) * 1)) = some (.int .i64 n5) ∧
  (0 ≤ sr4 ∧ sr4 < (dataL : Int)) ∧
  NN data fun a6 =>
  ∃ n6 : Int, cell h (a6.add (Int.toNat sr4 * 1)) = some (.int .i64 n6) ∧
  funV cmp fun fg3 fa3 fc3 => callX Try.prog F fg3 (fa3 ++ (([.int .i64 n5, .int .i64 n6] : List Value) ++ fc3)).toArray h fun v3 h8 => ∃ r3 : Int, v3 = .int .i64 r3 ∧
  cond (!(decide (r3 < 0)))
  (InR (sr4 + 1) ∧
  nx0 (sr4 + 1, r, ()) h8)
  (nx0 (start, sr4, ()) h8))
  (slices_symMergeCmpFunc_int_b9 data dataL dataC a m b cmp mid nv start h  K)) := by kernel_rfl
theorem slices_symMergeCmpFunc_int_b7_eq (k : Int) (data : Option Addr) (dataL : Nat) (dataC : Nat) (i : Int) (h : Hp) (nx0 : Int × Unit → Hp → Prop) (K : Value → Hp → Prop) : slices_symMergeCmpFunc_int_b7 k data dataL dataC i h nx0 K = (
  InR (i - 1) ∧
  cond (decide (k < (i - 1)))
  (InR (k + 1) ∧
  InR (k + 1) ∧
  (0 ≤ k + 1 ∧ k + 1 < (dataL : Int)) ∧
  NN data fun a7 =>
  ∃ n7 : Int, cell h (a7.add (Int.toNat (k + 1) * 1)) = some (.int .i64 n7) ∧
  (0 ≤ k ∧ k < (dataL : Int)) ∧
  NN data fun a8 =>
  ∃ n8 : Int, cell h (a8.add (Int.toNat k * 1)) = some (.int .i64 n8) ∧
  (0 ≤ k ∧ k < (dataL : Int)) ∧
  NN data fun a9 =>
  Wr h (a9.add (Int.toNat k * 1)) (.int .i64 n7) fun h9 =>
  (0 ≤ k + 1 ∧ k + 1 < (dataL : Int)) ∧
  NN data fun a10 =>
  Wr h9 (a10.add (Int.toNat (k + 1) * 1)) (.int .i64 n8) fun h10 =>
  slices_symMergeCmpFunc_int_b10 data dataL dataC i k h10 nx0 K)
  (K (.tuple #[]) h)) := by kernel_rfl
theorem slices_symMergeCmpFunc_int_b8_eq (k : Int) (data : Option Addr) (dataL : Nat) (dataC : Nat) (i : Int) (h : Hp) (nx0 : Int × Unit → Hp → Prop) (K : Value → Hp → Prop) : slices_symMergeCmpFunc_int_b8 k data dataL dataC i h nx0 K = (
  cond (decide (i < k))
  (InR (k - 1) ∧
  InR (k - 1) ∧
  (0 ≤ k - 1 ∧ k - 1 < (dataL : Int)) ∧
  NN data fun a11 =>
  ∃ n9 : Int, cell h (a11.add (Int.toNat (k - 1) * 1)) = some (.int .i64 n9) ∧
  (0 ≤ k ∧ k < (dataL : Int)) ∧
  NN data fun a12 =>
  ∃ n10 : Int, cell h (a12.add (Int.toNat k * 1)) = some (.int .i64 n10) ∧
  (0 ≤ k ∧ k < (dataL : Int)) ∧
  NN data fun a13 =>
  Wr h (a13.add (Int.toNat k * 1)) (.int .i64 n9) fun h11 =>
  (0 ≤ k - 1 ∧ k - 1 < (dataL : Int)) ∧
  NN data fun a14 =>
  Wr h11 (a14.add (Int.toNat (k - 1) * 1)) (.int .i64 n10) fun h12 =>
  slices_symMergeCmpFunc_int_b11 data dataL dataC i k h12 nx0 K)
  (K (.tuple #[]) h)) := by kernel_rfl
theorem slices_symMergeCmpFunc_int_b9_eq (data : Option Addr) (dataL : Nat) (dataC : Nat) (a : Int) (m : Int) (b : Int) (cmp : Value) (mid : Int) (nv : Int) (start : Int) (h : Hp)  (K : Value → Hp → Prop) : slices_symMergeCmpFunc_int_b9 data dataL dataC a m b cmp mid nv start h  K = (
  InR (nv - start) ∧
  cond (decide (start < m))
  (cond (decide (m < (nv - start)))
  (HCalls Try.prog 81 #[.slice data dataL dataC, .int .i64 start, .int .i64 m, .int .i64 (nv - start), cmp] h fun v4 h13 => v4 = .tuple #[] ∧
  slices_symMergeCmpFunc_int_b12 data dataL dataC a b cmp mid start (nv - start) h13  K)
  (slices_symMergeCmpFunc_int_b12 data dataL dataC a b cmp mid start (nv - start) h  K))
  (slices_symMergeCmpFunc_int_b12 data dataL dataC a b cmp mid start (nv - start) h  K)) := by kernel_rfl
theorem slices_symMergeCmpFunc_int_b10_eq (data : Option Addr) (dataL : Nat) (dataC : Nat) (i : Int) (k : Int) (h : Hp) (nx0 : Int × Unit → Hp → Prop) (K : Value → Hp → Prop) : slices_symMergeCmpFunc_int_b10 data dataL dataC i k h nx0 K = (
  InR (k + 1) ∧
  nx0 (k + 1, ()) h) := by kernel_rfl
theorem slices_symMergeCmpFunc_int_b11_eq (data : Option Addr) (dataL : Nat) (dataC : Nat) (i : Int) (k : Int) (h : Hp) (nx0 : Int × Unit → Hp → Prop) (K : Value → Hp → Prop) : slices_symMergeCmpFunc_int_b11 data dataL dataC i k h nx0 K = (
  InR (k - 1) ∧
  nx0 (k - 1, ()) h) := by kernel_rfl
theorem slices_symMergeCmpFunc_int_b12_eq (data : Option Addr) (dataL : Nat) (dataC : Nat) (a : Int) (b : Int) (cmp : Value) (mid : Int) (start : Int) (endv : Int) (h : Hp)  (K : Value → Hp → Prop) : slices_symMergeCmpFunc_int_b12 data dataL dataC a b cmp mid start endv h  K = (
  cond (decide (a < start))
  (cond (decide (start < mid))
  (HCalls Try.prog 74 #[.slice data dataL dataC, .int .i64 a, .int .i64 start, .int .i64 mid, cmp] h fun v5 h14 => v5 = .tuple #[] ∧
  slices_symMergeCmpFunc_int_b13 data dataL dataC b cmp mid endv h14  K)
  (slices_symMergeCmpFunc_int_b13 data dataL dataC b cmp mid endv h  K))
  (slices_symMergeCmpFunc_int_b13 data dataL dataC b cmp mid endv h  K)) := by kernel_rfl
theorem slices_symMergeCmpFunc_int_b13_eq (data : Option Addr) (dataL : Nat) (dataC : Nat) (b : Int) (cmp : Value) (mid : Int) (endv : Int) (h : Hp)  (K : Value → Hp → Prop) : slices_symMergeCmpFunc_int_b13 data dataL dataC b cmp mid endv h  K = (
  cond (decide (mid < endv))
  (cond (decide (endv < b))
  (HCalls Try.prog 74 #[.slice data dataL dataC, .int .i64 mid, .int .i64 endv, .int .i64 b, cmp] h fun v6 h15 => v6 = .tuple #[] ∧
  K (.tuple #[]) h15)
  (K (.tuple #[]) h))
  (K (.tuple #[]) h)) := by kernel_rfl
theorem slices_symMergeCmpFunc_int_call {data : Option Addr} {dataL : Nat} {dataC : Nat} {a : Int} {m : Int} {b : Int} {cmp : Value} {h : Hp} {K : Value → Hp → Prop} (hk : slices_symMergeCmpFunc_int_b0 data dataL dataC a m b cmp h K) : HCalls Try.prog 74 #[.slice data dataL dataC, .int .i64 a, .int .i64 m, .int .i64 b, cmp] h K :=
  calls_of_snd slices_symMergeCmpFunc_int_an Try.func74 (c := bodyOf Try.f74) rfl Try.ntmps74 (Nat.le_of_ble_eq_true rfl) (snd_5 F_ok F_mixed) hk

/-! ### rank -/
def rank_an : Ann := .leaf
def rank_K0  (K : Value → Hp → Prop) : Exit → Env → Hp → Prop := retK Try.prog Try.f75.results.toList K
def rank_b0 (v : Option Addr) (bit : Bool) (i : Int) (h : Hp)  (K : Value → Hp → Prop) : Prop :=
  sx_1 Try.prog F 16 (cp [] (bodyOf Try.f75)) (ap [] rank_an) [(0, .pointer v), (1, .bool bit), (2, .int .i64 i)] h (rank_K0  K)
theorem rank_b0_eq (v : Option Addr) (bit : Bool) (i : Int) (h : Hp)  (K : Value → Hp → Prop) : rank_b0 v bit i h  K = (
  HCalls Try.prog 82 #[.pointer v, .int .i64 i] h fun v1 h1 => ∃ r1 : Int, v1 = .int .i64 r1 ∧
  cond bit
  (K (.int .i64 r1) h1)
  (InR (i - r1) ∧
  K (.int .i64 (i - r1)) h1)) := by kernel_rfl
theorem rank_call {v : Option Addr} {bit : Bool} {i : Int} {h : Hp} {K : Value → Hp → Prop} (hk : rank_b0 v bit i h K) : HCalls Try.prog 75 #[.pointer v, .bool bit, .int .i64 i] h K :=
  calls_of_snd rank_an Try.func75 (c := bodyOf Try.f75) rfl Try.ntmps75 (Nat.le_of_ble_eq_true rfl) (snd_1 F_ok F_mixed) hk

/-! ### slices_siftDownCmpFunc_2_int -/
def slices_siftDownCmpFunc_2_int_an : Ann := .node none (.leaf) (.loop [0, 2, 3, 4] [(10, .int .i64)] (.node none (.leaf) (.node none (.leaf) (.node (some [0, 2, 3, 4, 10, 11]) (.node none (.tail 19) (.leaf)) (.node none (.node none (.tail 13) (.leaf)) (.node none (.plan (.qu 0 (.qu 1 (.qu 2 (.qu 3 (.qu 4 (.qu 5 (.qu 6 (.qu 7 (.qu 8 (.qu 9 (.qu 10 (.qu 11 (.qu 12 (.qu 13 (.qu 14 (.qu 15 (.qu 16 (.qu 17 (.qu 18 (.qu 19 (.qu 20 (.wo 21 (.qu 22 (.wo 23 .fin .no)) .no))))))))))))))))))))))) (.leaf)))))))
def slices_siftDownCmpFunc_2_int_K0  (K : Value → Hp → Prop) : Exit → Env → Hp → Prop := retK Try.prog Try.f76.results.toList K
def slices_siftDownCmpFunc_2_int_K1  (K : Value → Hp → Prop) : Exit → Env → Hp → Prop := blockE 0 (slices_siftDownCmpFunc_2_int_K0  K)
def slices_siftDownCmpFunc_2_int_K2 (nx0 : Int × Unit → Hp → Prop) (K : Value → Hp → Prop) : Exit → Env → Hp → Prop := thenE (fun env h => getV [(10, .int .i64)] env fun s => nx0 s h) (slices_siftDownCmpFunc_2_int_K1  K)
def slices_siftDownCmpFunc_2_int_K3 (nx0 : Int × Unit → Hp → Prop) (K : Value → Hp → Prop) : Exit → Env → Hp → Prop := blockE 1 (slices_siftDownCmpFunc_2_int_K2 nx0 K)
def slices_siftDownCmpFunc_2_int_b0 (data : Option Addr) (dataL : Nat) (dataC : Nat) (lo : Int) (hi : Int) (first : Int) (cmp : Value) (h : Hp)  (K : Value → Hp → Prop) : Prop :=
  sx_3 Try.prog F 82 (cp [] (bodyOf Try.f76)) (ap [] slices_siftDownCmpFunc_2_int_an) [(0, .slice data dataL dataC), (1, .int .i64 lo), (2, .int .i64 hi), (3, .int .i64 first), (4, cmp)] h (slices_siftDownCmpFunc_2_int_K0  K)
def slices_siftDownCmpFunc_2_int_b1 (root : Int) (data : Option Addr) (dataL : Nat) (dataC : Nat) (hi : Int) (first : Int) (cmp : Value) (h : Hp) (nx0 : Int × Unit → Hp → Prop) (K : Value → Hp → Prop) : Prop :=
  sx_2 Try.prog F 82 (cp [1, 2, 2] (bodyOf Try.f76)) (ap [1, 2] slices_siftDownCmpFunc_2_int_an) [(10, .int .i64 root), (0, .slice data dataL dataC), (2, .int .i64 hi), (3, .int .i64 first), (4, cmp)] h (slices_siftDownCmpFunc_2_int_K2 nx0 K)
def slices_siftDownCmpFunc_2_int_b2 (data : Option Addr) (dataL : Nat) (dataC : Nat) (hi : Int) (first : Int) (cmp : Value) (root : Int) (child : Int) (h : Hp) (nx0 : Int × Unit → Hp → Prop) (K : Value → Hp → Prop) : Prop :=
  sx_1 Try.prog F 82 (cp [1, 2, 2, 2, 1, 1, 1] (bodyOf Try.f76)) (ap [1, 2, 1, 1, 1] slices_siftDownCmpFunc_2_int_an) [(0, .slice data dataL dataC), (2, .int .i64 hi), (3, .int .i64 first), (4, cmp), (10, .int .i64 root), (11, .int .i64 child)] h (slices_siftDownCmpFunc_2_int_K3 nx0 K)
theorem slices_siftDownCmpFunc_2_int_b0_eq (data : Option Addr) (dataL : Nat) (dataC : Nat) (lo : Int) (hi : Int) (first : Int) (cmp : Value) (h : Hp)  (K : Value → Hp → Prop) : slices_siftDownCmpFunc_2_int_b0 data dataL dataC lo hi first cmp h  K = (
  LoopVC ((lo, ()) : Int × Unit) h (fun (nx0 : Int × Unit → Hp → Prop) (s1 : Int × Unit) h1 => slices_siftDownCmpFunc_2_int_b1 s1.1 data dataL dataC hi first cmp h1 nx0 K)) := by kernel_rfl
theorem slices_siftDownCmpFunc_2_int_b1_eq (root : Int) (data : Option Addr) (dataL : Nat) (dataC : Nat) (hi : Int) (first : Int) (cmp : Value) (h : Hp) (nx0 : Int × Unit → Hp → Prop) (K : Value → Hp → Prop) : slices_siftDownCmpFunc_2_int_b1 root data dataL dataC hi first cmp h nx0 K = (
  InR (2 * root) ∧
  InR ((2 * root) + 1) ∧
  cond (decide (hi ≤ ((2 * root) + 1)))
  (K (.tuple #[]) h)
  (InR (((2 * root) + 1) + 1) ∧
  cond (decide ((((2 * root) + 1) + 1) < hi))
  (InR (first + ((2 * root) + 1)) ∧
  (0 ≤ first + ((2 * root) + 1) ∧ first + ((2 * root) + 1) < (dataL : Int)) ∧
  NN data fun a1 =>
  ∃ n1 : Int, ∃ n2 : Int, cell h (a1.add (Int.toNat (first + ((2 * root) + 1)) * 2)) = some (.int .i64 n1) ∧
  cell h ((a1.add (Int.toNat (first + ((2 * root) + 1)) * 2)).add 1) = some (.int .i64 n2) ∧
  InR (first + ((2 * root) + 1)) ∧
  InR ((first + ((2 * root) + 1)) + 1) ∧
  (0 ≤ (first + ((2 * root) + 1)) + 1 ∧ (first + ((2 * root) + 1)) + 1 < (dataL : Int)) ∧
  NN data fun a2 =>
  ∃ n3 : Int, ∃ n4 : Int, cell h (a2.add (Int.toNat ((first + ((2 * root) + 1)) + 1) * 2)) = some (.int .i64 n3) ∧
  cell h ((a2.add (Int.toNat ((first + ((2 * root) + 1)) + 1) * 2)).add 1) = some (.int .i64 n4) ∧
  funV cmp fun fg1 fa1 fc1 => callX Try.prog F fg1 (fa1 ++ (([.agg #[.int .i64 n1, .int .i64 n2], .agg #[.int .i64 n3, .int .i64 n4]] : List Value) ++ fc1)).toArray h fun v1 h2 => ∃ r1 : Int, v1 = .int .i64 r1 ∧
  cond (decide (r1 < 0))
  (InR (((2 * root) + 1) + 1) ∧
  slices_siftDownCmpFunc_2_int_b2 data dataL dataC hi first cmp root (((2 * root) + 1) + 1) h2 nx0 K)
  (slices_siftDownCmpFunc_2_int_b2 data dataL dataC hi first cmp root ((2 * root) + 1) h2 nx0 K))
  (slices_siftDownCmpFunc_2_int_b2 data dataL dataC hi first cmp root ((2 * root) + 1) h nx0 K))) := by kernel_rfl
theorem slices_siftDownCmpFunc_2_int_b2_eq (data : Option Addr) (dataL : Nat) (dataC : Nat) (hi : Int) (first : Int) (cmp : Value) (root : Int) (child : Int) (h : Hp) (nx0 : Int × Unit → Hp → Prop) (K : Value → Hp → Prop) : slices_siftDownCmpFunc_2_int_b2 data dataL dataC hi first cmp root child h nx0 K = (
  InR (first + root) ∧
  (0 ≤ first + root ∧ first + root < (dataL : Int)) ∧
  NN data fun a3 =>
  ∃ n5 : Int, ∃ n6 : Int, cell h (a3.add (Int.toNat (first + root) * 2)) = some (.int .i64 n5) ∧
  cell h ((a3.add (Int.toNat (first + root) * 2)).add 1) = some (.int .i64 n6) ∧
  InR (first + child) ∧
  (0 ≤ first + child ∧ first + child < (dataL : Int)) ∧
  NN data fun a4 =>
  ∃ n7 : Int, ∃ n8 : Int, cell h (a4.add (Int.toNat (first + child) * 2)) = some (.int .i64 n7) ∧
  cell h ((a4.add (Int.toNat (first + child) * 2)).add 1) = some (.int .i64 n8) ∧
  funV cmp fun fg2 fa2 fc2 => callX Try.prog F fg2 (fa2 ++ (([.agg #[.int .i64 n5, .int .i64 n6], .agg #[.int .i64 n7, .int .i64 n8]] : List Value) ++ fc2)).toArray h fun v2 h3 => ∃ r2 : Int, v2 = .int .i64 r2 ∧
  cond (!(decide (r2 < 0)))
  (K (.tuple #[]) h3)
  (InR (first + root) ∧
  InR (first + child) ∧
  InR (first + child) ∧
  (0 ≤ first + child ∧ first + child < (dataL : Int)) ∧
  NN data fun a5 =>
  ∃ n9 : Int, ∃ n10 : Int, cell h3 (a5.add (Int.toNat (first + child) * 2)) = some (.int .i64 n9) ∧
  cell h3 ((a5.add (Int.toNat (first + child) * 2)).add 1) = some (.int .i64 n10) ∧
  InR (first + root) ∧
  (0 ≤ first + root ∧ first + root < (dataL : Int)) ∧
  NN data fun a6 =>
  ∃ n11 : Int, ∃ n12 : Int, cell h3 (a6.add (Int.toNat (first + root) * 2)) = some (.int .i64 n11) ∧
  cell h3 ((a6.add (Int.toNat (first + root) * 2)).add 1) = some (.int .i64 n12) ∧
  (0 ≤ first + root ∧ first + root < (dataL : Int)) ∧
  NN data fun a7 =>
  Wr h3 (a7.add (Int.toNat (first + root) * 2)) (.int .i64 n9) fun h4 =>
  Wr h4 ((a7.add (Int.toNat (first + root) * 2)).add 1) (.int .i64 n10) fun h5 =>
  (0 ≤ first + child ∧ first + child < (dataL : Int)) ∧
  NN data fun a8 =>
  Wr h5 (a8.add (Int.toNat (first + child) * 2)) (.int .i64 n11) fun h6 =>
  Wr h6 ((a8.add (Int.toNat (first + child) * 2)).add 1) (.int .i64 n12) fun h7 =>
  nx0 (child, ()) h7)) := by kernel_rfl
theorem slices_siftDownCmpFunc_2_int_call {data : Option Addr} {dataL : Nat} {dataC : Nat} {lo : Int} {hi : Int} {first : Int} {cmp : Value} {h : Hp} {K : Value → Hp → Prop} (hk : slices_siftDownCmpFunc_2_int_b0 data dataL dataC lo hi first cmp h K) : HCalls Try.prog 76 #[.slice data dataL dataC, .int .i64 lo, .int .i64 hi, .int .i64 first, cmp] h K :=
  calls_of_snd slices_siftDownCmpFunc_2_int_an Try.func76 (c := bodyOf Try.f76) rfl Try.ntmps76 (Nat.le_of_ble_eq_true rfl) (snd_3 F_ok F_mixed) hk

/-! ### slices_nextPowerOfTwo -/
def slices_nextPowerOfTwo_an : Ann := .leaf
def slices_nextPowerOfTwo_K0  (K : Value → Hp → Prop) : Exit → Env → Hp → Prop := retK Try.prog Try.f77.results.toList K
def slices_nextPowerOfTwo_b0 (length : Int) (h : Hp)  (K : Value → Hp → Prop) : Prop :=
  sx_1 Try.prog F 7 (cp [] (bodyOf Try.f77)) (ap [] slices_nextPowerOfTwo_an) [(0, .int .i64 length)] h (slices_nextPowerOfTwo_K0  K)
theorem slices_nextPowerOfTwo_b0_eq (length : Int) (h : Hp)  (K : Value → Hp → Prop) : slices_nextPowerOfTwo_b0 length h  K = (
  HCalls Try.prog 56 #[.int .u64 (IntKind.u64.wrap length)] h fun v1 h1 => ∃ r1 : Int, v1 = .int .i64 r1 ∧
  ∃ sl1 : Int, Sx.Shl .u64 1 r1 sl1 ∧
  K (.int .u64 sl1) h1) := by kernel_rfl
theorem slices_nextPowerOfTwo_call {length : Int} {h : Hp} {K : Value → Hp → Prop} (hk : slices_nextPowerOfTwo_b0 length h K) : HCalls Try.prog 77 #[.int .i64 length] h K :=
  calls_of_snd slices_nextPowerOfTwo_an Try.func77 (c := bodyOf Try.f77) rfl Try.ntmps77 (Nat.le_of_ble_eq_true rfl) (snd_1 F_ok F_mixed) hk

/-! ### slices_xorshift_Next -/
def slices_xorshift_Next_an : Ann := .node none (.leaf) (.node none (.tail 9) (.node none (.tail 9) (.node none (.tail 9) (.leaf))))
def slices_xorshift_Next_K0  (K : Value → Hp → Prop) : Exit → Env → Hp → Prop := retK Try.prog Try.f78.results.toList K
def slices_xorshift_Next_b0 (r : Option Addr) (h : Hp)  (K : Value → Hp → Prop) : Prop :=
  sx_1 Try.prog F 33 (cp [] (bodyOf Try.f78)) (ap [] slices_xorshift_Next_an) [(0, .pointer r)] h (slices_xorshift_Next_K0  K)
theorem slices_xorshift_Next_b0_eq (r : Option Addr) (h : Hp)  (K : Value → Hp → Prop) : slices_xorshift_Next_b0 r h  K = (
  NN r fun a1 =>
  ∃ n1 : Int, cell h a1 = some (.int .u64 n1) ∧
  NN r fun a2 =>
  ∃ n2 : Int, cell h a2 = some (.int .u64 n2) ∧
  ∃ sl1 : Int, Sx.Shl .u64 n2 13 sl1 ∧
  ∃ xo1 : Int, Sx.Xor .u64 n1 sl1 xo1 ∧
  NN r fun a3 =>
  Wr h a3 (.int .u64 xo1) fun h1 =>
  NN r fun a4 =>
  ∃ n3 : Int, cell h1 a4 = some (.int .u64 n3) ∧
  NN r fun a5 =>
  ∃ n4 : Int, cell h1 a5 = some (.int .u64 n4) ∧
  ∃ sr1 : Int, Sx.Shr .u64 n4 7 sr1 ∧
  ∃ xo2 : Int, Sx.Xor .u64 n3 sr1 xo2 ∧
  NN r fun a6 =>
  Wr h1 a6 (.int .u64 xo2) fun h2 =>
  NN r fun a7 =>
  ∃ n5 : Int, cell h2 a7 = some (.int .u64 n5) ∧
  NN r fun a8 =>
  ∃ n6 : Int, cell h2 a8 = some (.int .u64 n6) ∧
  ∃ sl2 : Int, Sx.Shl .u64 n6 17 sl2 ∧
  ∃ xo3 : Int, Sx.Xor .u64 n5 sl2 xo3 ∧
  NN r fun a9 =>
  Wr h2 a9 (.int .u64 xo3) fun h3 =>
  NN r fun a10 =>
  ∃ n7 : Int, cell h3 a10 = some (.int .u64 n7) ∧
  K (.int .u64 n7) h3) := by kernel_rfl
theorem slices_xorshift_Next_call {r : Option Addr} {h : Hp} {K : Value → Hp → Prop} (hk : slices_xorshift_Next_b0 r h K) : HCalls Try.prog 78 #[.pointer r] h K :=
  calls_of_snd slices_xorshift_Next_an Try.func78 (c := bodyOf Try.f78) rfl Try.ntmps78 (Nat.le_of_ble_eq_true rfl) (snd_1 F_ok F_mixed) hk

/-! ### slices_medianAdjacentCmpFunc_2_int -/
def slices_medianAdjacentCmpFunc_2_int_an : Ann := .leaf
def slices_medianAdjacentCmpFunc_2_int_K0  (K : Value → Hp → Prop) : Exit → Env → Hp → Prop := retK Try.prog Try.f79.results.toList K
def slices_medianAdjacentCmpFunc_2_int_b0 (data : Option Addr) (dataL : Nat) (dataC : Nat) (a : Int) (swaps : Option Addr) (cmp : Value) (h : Hp)  (K : Value → Hp → Prop) : Prop :=
  sx_1 Try.prog F 18 (cp [] (bodyOf Try.f79)) (ap [] slices_medianAdjacentCmpFunc_2_int_an) [(0, .slice data dataL dataC), (1, .int .i64 a), (2, .pointer swaps), (3, cmp)] h (slices_medianAdjacentCmpFunc_2_int_K0  K)
theorem slices_medianAdjacentCmpFunc_2_int_b0_eq (data : Option Addr) (dataL : Nat) (dataC : Nat) (a : Int) (swaps : Option Addr) (cmp : Value) (h : Hp)  (K : Value → Hp → Prop) : slices_medianAdjacentCmpFunc_2_int_b0 data dataL dataC a swaps cmp h  K = (
  InR (a - 1) ∧
  InR (a + 1) ∧
  HCalls Try.prog 80 #[.slice data dataL dataC, .int .i64 (a - 1), .int .i64 a, .int .i64 (a + 1), .pointer swaps, cmp] h fun v1 h1 => ∃ r1 : Int, v1 = .int .i64 r1 ∧
  K (.int .i64 r1) h1) := by kernel_rfl
theorem slices_medianAdjacentCmpFunc_2_int_call {data : Option Addr} {dataL : Nat} {dataC : Nat} {a : Int} {swaps : Option Addr} {cmp : Value} {h : Hp} {K : Value → Hp → Prop} (hk : slices_medianAdjacentCmpFunc_2_int_b0 data dataL dataC a swaps cmp h K) : HCalls Try.prog 79 #[.slice data dataL dataC, .int .i64 a, .pointer swaps, cmp] h K :=
  calls_of_snd slices_medianAdjacentCmpFunc_2_int_an Try.func79 (c := bodyOf Try.f79) rfl Try.ntmps79 (Nat.le_of_ble_eq_true rfl) (snd_1 F_ok F_mixed) hk

/-! ### slices_medianCmpFunc_2_int -/
def slices_medianCmpFunc_2_int_an : Ann := .leaf
def slices_medianCmpFunc_2_int_K0  (K : Value → Hp → Prop) : Exit → Env → Hp → Prop := retK Try.prog Try.f80.results.toList K
def slices_medianCmpFunc_2_int_b0 (data : Option Addr) (dataL : Nat) (dataC : Nat) (a : Int) (b : Int) (c : Int) (swaps : Option Addr) (cmp : Value) (h : Hp)  (K : Value → Hp → Prop) : Prop :=
  sx_1 Try.prog F 41 (cp [] (bodyOf Try.f80)) (ap [] slices_medianCmpFunc_2_int_an) [(0, .slice data dataL dataC), (1, .int .i64 a), (2, .int .i64 b), (3, .int .i64 c), (4, .pointer swaps), (5, cmp)] h (slices_medianCmpFunc_2_int_K0  K)
theorem slices_medianCmpFunc_2_int_b0_eq (data : Option Addr) (dataL : Nat) (dataC : Nat) (a : Int) (b : Int) (c : Int) (swaps : Option Addr) (cmp : Value) (h : Hp)  (K : Value → Hp → Prop) : slices_medianCmpFunc_2_int_b0 data dataL dataC a b c swaps cmp h  K = (
  HCalls Try.prog 83 #[.slice data dataL dataC, .int .i64 a, .int .i64 b, .pointer swaps, cmp] h fun v1 h1 => ∃ r1 : Int, ∃ r2 : Int, v1 = .tuple #[.int .i64 r1, .int .i64 r2] ∧
  HCalls Try.prog 83 #[.slice data dataL dataC, .int .i64 r2, .int .i64 c, .pointer swaps, cmp] h1 fun v2 h2 => ∃ r3 : Int, ∃ r4 : Int, v2 = .tuple #[.int .i64 r3, .int .i64 r4] ∧
  HCalls Try.prog 83 #[.slice data dataL dataC, .int .i64 r1, .int .i64 r3, .pointer swaps, cmp] h2 fun v3 h3 => ∃ r5 : Int, ∃ r6 : Int, v3 = .tuple #[.int .i64 r5, .int .i64 r6] ∧
  K (.int .i64 r6) h3) := by kernel_rfl
theorem slices_medianCmpFunc_2_int_call {data : Option Addr} {dataL : Nat} {dataC : Nat} {a : Int} {b : Int} {c : Int} {swaps : Option Addr} {cmp : Value} {h : Hp} {K : Value → Hp → Prop} (hk : slices_medianCmpFunc_2_int_b0 data dataL dataC a b c swaps cmp h K) : HCalls Try.prog 80 #[.slice data dataL dataC, .int .i64 a, .int .i64 b, .int .i64 c, .pointer swaps, cmp] h K :=
  calls_of_snd slices_medianCmpFunc_2_int_an Try.func80 (c := bodyOf Try.f80) rfl Try.ntmps80 (Nat.le_of_ble_eq_true rfl) (snd_1 F_ok F_mixed) hk

/-! ### slices_rotateCmpFunc_int -/
def slices_rotateCmpFunc_int_an : Ann := .node none (.leaf) (.node none (.leaf) (.node (some [0, 2, 4, 10]) (.loop [0, 2, 4] [(10, .int .i64), (11, .int .i64)] (.leaf)) (.leaf)))
def slices_rotateCmpFunc_int_K0  (K : Value → Hp → Prop) : Exit → Env → Hp → Prop := retK Try.prog Try.f81.results.toList K
def slices_rotateCmpFunc_int_K1  (K : Value → Hp → Prop) : Exit → Env → Hp → Prop := thenE (fun env h => sx_1 Try.prog F 58 (cp [1, 1, 1] (bodyOf Try.f81)) (ap [1, 1, 1] slices_rotateCmpFunc_int_an) (rs [0, 2, 4, 10] env) h (slices_rotateCmpFunc_int_K0  K)) (slices_rotateCmpFunc_int_K0  K)
def slices_rotateCmpFunc_int_K2  (K : Value → Hp → Prop) : Exit → Env → Hp → Prop := blockE 0 (slices_rotateCmpFunc_int_K1  K)
def slices_rotateCmpFunc_int_K3 (nx0 : Int × Int × Unit → Hp → Prop) (K : Value → Hp → Prop) : Exit → Env → Hp → Prop := thenE (fun env h => getV [(10, .int .i64), (11, .int .i64)] env fun s => nx0 s h) (slices_rotateCmpFunc_int_K2  K)
def slices_rotateCmpFunc_int_b0 (data : Option Addr) (dataL : Nat) (dataC : Nat) (a : Int) (m : Int) (b : Int) (cmp : Value) (h : Hp)  (K : Value → Hp → Prop) : Prop :=
  sx_2 Try.prog F 58 (cp [] (bodyOf Try.f81)) (ap [] slices_rotateCmpFunc_int_an) [(0, .slice data dataL dataC), (1, .int .i64 a), (2, .int .i64 m), (3, .int .i64 b), (4, cmp)] h (slices_rotateCmpFunc_int_K0  K)
def slices_rotateCmpFunc_int_b1 (i : Int) (j : Int) (data : Option Addr) (dataL : Nat) (dataC : Nat) (m : Int) (cmp : Value) (h : Hp) (nx0 : Int × Int × Unit → Hp → Prop) (K : Value → Hp → Prop) : Prop :=
  sx_1 Try.prog F 58 (cp [1, 1, 0, 2, 2] (bodyOf Try.f81)) (ap [1, 1, 0, 2] slices_rotateCmpFunc_int_an) [(10, .int .i64 i), (11, .int .i64 j), (0, .slice data dataL dataC), (2, .int .i64 m), (4, cmp)] h (slices_rotateCmpFunc_int_K3 nx0 K)
def slices_rotateCmpFunc_int_b2 (data : Option Addr) (dataL : Nat) (dataC : Nat) (m : Int) (cmp : Value) (i : Int) (h : Hp)  (K : Value → Hp → Prop) : Prop :=
  sx_1 Try.prog F 58 (cp [1, 1, 1] (bodyOf Try.f81)) (ap [1, 1, 1] slices_rotateCmpFunc_int_an) [(0, .slice data dataL dataC), (2, .int .i64 m), (4, cmp), (10, .int .i64 i)] h (slices_rotateCmpFunc_int_K0  K)
theorem slices_rotateCmpFunc_int_b0_eq (data : Option Addr) (dataL : Nat) (dataC : Nat) (a : Int) (m : Int) (b : Int) (cmp : Value) (h : Hp)  (K : Value → Hp → Prop) : slices_rotateCmpFunc_int_b0 data dataL dataC a m b cmp h  K = (
  InR (m - a) ∧
  InR (b - m) ∧
  LoopVC ((m - a, b - m, ()) : Int × Int × Unit) h (fun (nx0 : Int × Int × Unit → Hp → Prop) (s1 : Int × Int × Unit) h1 => slices_rotateCmpFunc_int_b1 s1.1 s1.2.1 data dataL dataC m cmp h1 nx0 K)) := by kernel_rfl
theorem slices_rotateCmpFunc_int_b1_eq (i : Int) (j : Int) (data : Option Addr) (dataL : Nat) (dataC : Nat) (m : Int) (cmp : Value) (h : Hp) (nx0 : Int × Int × Unit → Hp → Prop) (K : Value → Hp → Prop) : slices_rotateCmpFunc_int_b1 i j data dataL dataC m cmp h nx0 K = (
  cond (!decide (i = j))
  (cond (decide (j < i))
  (InR (m - i) ∧
  HCalls Try.prog 84 #[.slice data dataL dataC, .int .i64 (m - i), .int .i64 m, .int .i64 j, cmp] h fun v1 h2 => v1 = .tuple #[] ∧
  InR (i - j) ∧
  nx0 (i - j, j, ()) h2)
  (InR (m - i) ∧
  InR (m + j) ∧
  InR ((m + j) - i) ∧
  HCalls Try.prog 84 #[.slice data dataL dataC, .int .i64 (m - i), .int .i64 ((m + j) - i), .int .i64 i, cmp] h fun v2 h3 => v2 = .tuple #[] ∧
  InR (j - i) ∧
  nx0 (i, j - i, ()) h3))
  (slices_rotateCmpFunc_int_b2 data dataL dataC m cmp i h  K)) := by kernel_rfl
theorem slices_rotateCmpFunc_int_b2_eq (data : Option Addr) (dataL : Nat) (dataC : Nat) (m : Int) (cmp : Value) (i : Int) (h : Hp)  (K : Value → Hp → Prop) : slices_rotateCmpFunc_int_b2 data dataL dataC m cmp i h  K = (
  InR (m - i) ∧
  HCalls Try.prog 84 #[.slice data dataL dataC, .int .i64 (m - i), .int .i64 m, .int .i64 i, cmp] h fun v3 h4 => v3 = .tuple #[] ∧
  K (.tuple #[]) h4) := by kernel_rfl
theorem slices_rotateCmpFunc_int_call {data : Option Addr} {dataL : Nat} {dataC : Nat} {a : Int} {m : Int} {b : Int} {cmp : Value} {h : Hp} {K : Value → Hp → Prop} (hk : slices_rotateCmpFunc_int_b0 data dataL dataC a m b cmp h K) : HCalls Try.prog 81 #[.slice data dataL dataC, .int .i64 a, .int .i64 m, .int .i64 b, cmp] h K :=
  calls_of_snd slices_rotateCmpFunc_int_an Try.func81 (c := bodyOf Try.f81) rfl Try.ntmps81 (Nat.le_of_ble_eq_true rfl) (snd_2 F_ok F_mixed) hk

/-! ### ones -/
def ones_an : Ann := .node none (.leaf) (.node none (.leaf) (.node (some [5]) (.leaf) (.leaf)))
def ones_K0  (K : Value → Hp → Prop) : Exit → Env → Hp → Prop := retK Try.prog Try.f82.results.toList K
def ones_b0 (v : Option Addr) (i : Int) (h : Hp)  (K : Value → Hp → Prop) : Prop :=
  sx_2 Try.prog F 34 (cp [] (bodyOf Try.f82)) (ap [] ones_an) [(0, .pointer v), (1, .int .i64 i)] h (ones_K0  K)
def ones_b1 (nv : Int) (h : Hp)  (K : Value → Hp → Prop) : Prop :=
  sx_1 Try.prog F 34 (cp [1, 1, 1] (bodyOf Try.f82)) (ap [1, 1, 1] ones_an) [(5, .int .i64 nv)] h (ones_K0  K)
theorem ones_b0_eq (v : Option Addr) (i : Int) (h : Hp)  (K : Value → Hp → Prop) : ones_b0 v i h  K = (
  NN v fun a1 =>
  ∃ (a2 : Option Addr) (L1 C1 : Nat), cell h (a1.add 2) = some (.slice a2 L1 C1) ∧
  ∃ q1 : Int, Sx.Quo .i64 i 64 q1 ∧
  (0 ≤ q1 ∧ q1 < (L1 : Int)) ∧
  NN a2 fun a3 =>
  ∃ n1 : Int, cell h (a3.add (Int.toNat q1 * 1)) = some (.int .i64 n1) ∧
  ∃ r1 : Int, Sx.Rem i 64 r1 ∧
  cond (decide ((0 : Int) < r1))
  (NN v fun a4 =>
  ∃ (a5 : Option Addr) (L2 C2 : Nat), cell h (a4.add 1) = some (.slice a5 L2 C2) ∧
  ∃ q2 : Int, Sx.Quo .i64 i 64 q2 ∧
  (0 ≤ q2 ∧ q2 < (L2 : Int)) ∧
  NN a5 fun a6 =>
  ∃ n2 : Int, cell h (a6.add (Int.toNat q2 * 1)) = some (.int .u64 n2) ∧
  ∃ r2 : Int, Sx.Rem i 64 r2 ∧
  ∃ sl1 : Int, Sx.Shl .u64 1 r2 sl1 ∧
  ∃ an1 : Int, Sx.And .u64 n2 (IntKind.u64.wrap (sl1 - 1)) an1 ∧
  ∃ r3 : Int, HCalls Try.prog 72 #[.int .u64 an1] h (fun v1 h1 => v1 = .int .i64 r3 ∧ h1 = h) ∧
  InR (n1 + r3) ∧
  ones_b1 (n1 + r3) h  K)
  (ones_b1 n1 h  K)) := by kernel_rfl
theorem ones_b1_eq (nv : Int) (h : Hp)  (K : Value → Hp → Prop) : ones_b1 nv h  K = (
  K (.int .i64 nv) h) := by kernel_rfl
theorem ones_call {v : Option Addr} {i : Int} {h : Hp} {K : Value → Hp → Prop} (hk : ones_b0 v i h K) : HCalls Try.prog 82 #[.pointer v, .int .i64 i] h K :=
  calls_of_snd ones_an Try.func82 (c := bodyOf Try.f82) rfl Try.ntmps82 (Nat.le_of_ble_eq_true rfl) (snd_2 F_ok F_mixed) hk

/-! ### slices_order2CmpFunc_2_int -/
def slices_order2CmpFunc_2_int_an : Ann := .node none (.leaf) (.node none (.node none (.tail 9) (.leaf)) (.leaf))
def slices_order2CmpFunc_2_int_K0  (K : Value → Hp → Prop) : Exit → Env → Hp → Prop := retK Try.prog Try.f83.results.toList K
def slices_order2CmpFunc_2_int_b0 (data : Option Addr) (dataL : Nat) (dataC : Nat) (a : Int) (b : Int) (swaps : Option Addr) (cmp : Value) (h : Hp)  (K : Value → Hp → Prop) : Prop :=
  sx_1 Try.prog F 32 (cp [] (bodyOf Try.f83)) (ap [] slices_order2CmpFunc_2_int_an) [(0, .slice data dataL dataC), (1, .int .i64 a), (2, .int .i64 b), (3, .pointer swaps), (4, cmp)] h (slices_order2CmpFunc_2_int_K0  K)
theorem slices_order2CmpFunc_2_int_b0_eq (data : Option Addr) (dataL : Nat) (dataC : Nat) (a : Int) (b : Int) (swaps : Option Addr) (cmp : Value) (h : Hp)  (K : Value → Hp → Prop) : slices_order2CmpFunc_2_int_b0 data dataL dataC a b swaps cmp h  K = (
  (0 ≤ b ∧ b < (dataL : Int)) ∧
  NN data fun a1 =>
  ∃ n1 : Int, ∃ n2 : Int, cell h (a1.add (Int.toNat b * 2)) = some (.int .i64 n1) ∧
  cell h ((a1.add (Int.toNat b * 2)).add 1) = some (.int .i64 n2) ∧
  (0 ≤ a ∧ a < (dataL : Int)) ∧
  NN data fun a2 =>
  ∃ n3 : Int, ∃ n4 : Int, cell h (a2.add (Int.toNat a * 2)) = some (.int .i64 n3) ∧
  cell h ((a2.add (Int.toNat a * 2)).add 1) = some (.int .i64 n4) ∧
  funV cmp fun fg1 fa1 fc1 => callX Try.prog F fg1 (fa1 ++ (([.agg #[.int .i64 n1, .int .i64 n2], .agg #[.int .i64 n3, .int .i64 n4]] : List Value) ++ fc1)).toArray h fun v1 h1 => ∃ r1 : Int, v1 = .int .i64 r1 ∧
  cond (decide (r1 < 0))
  (NN swaps fun a3 =>
  ∃ n5 : Int, cell h1 a3 = some (.int .i64 n5) ∧
  InR (n5 + 1) ∧
  NN swaps fun a4 =>
  Wr h1 a4 (.int .i64 (n5 + 1)) fun h2 =>
  K (.tuple #[.int .i64 b, .int .i64 a]) h2)
  (K (.tuple #[.int .i64 a, .int .i64 b]) h1)) := by kernel_rfl
theorem slices_order2CmpFunc_2_int_call {data : Option Addr} {dataL : Nat} {dataC : Nat} {a : Int} {b : Int} {swaps : Option Addr} {cmp : Value} {h : Hp} {K : Value → Hp → Prop} (hk : slices_order2CmpFunc_2_int_b0 data dataL dataC a b swaps cmp h K) : HCalls Try.prog 83 #[.slice data dataL dataC, .int .i64 a, .int .i64 b, .pointer swaps, cmp] h K :=
  calls_of_snd slices_order2CmpFunc_2_int_an Try.func83 (c := bodyOf Try.f83) rfl Try.ntmps83 (Nat.le_of_ble_eq_true rfl) (snd_1 F_ok F_mixed) hk

/-! ### slices_swapRangeCmpFunc_int -/
def slices_swapRangeCmpFunc_int_an : Ann := .node none (.leaf) (.loop [0, 1, 2, 3] [(10, .int .i64)] (.node none (.leaf) (.node (some [0, 1, 2, 3, 10]) (.plan (.qu 0 (.qu 1 (.qu 2 (.qu 3 (.qu 4 (.qu 5 (.qu 6 (.qu 7 (.qu 8 (.qu 9 (.qu 10 (.qu 11 (.qu 12 (.qu 13 (.qu 14 (.qu 15 (.qu 16 (.qu 17 (.qu 18 (.qu 19 (.qu 20 (.wo 21 (.qu 22 (.wo 23 .fin .no)) .no))))))))))))))))))))))) (.leaf))))
def slices_swapRangeCmpFunc_int_K0  (K : Value → Hp → Prop) : Exit → Env → Hp → Prop := retK Try.prog Try.f84.results.toList K
def slices_swapRangeCmpFunc_int_K1  (K : Value → Hp → Prop) : Exit → Env → Hp → Prop := blockE 0 (slices_swapRangeCmpFunc_int_K0  K)
def slices_swapRangeCmpFunc_int_K2 (nx0 : Int × Unit → Hp → Prop) (K : Value → Hp → Prop) : Exit → Env → Hp → Prop := thenE (fun env h => getV [(10, .int .i64)] env fun s => nx0 s h) (slices_swapRangeCmpFunc_int_K1  K)
def slices_swapRangeCmpFunc_int_b0 (data : Option Addr) (dataL : Nat) (dataC : Nat) (a : Int) (b : Int) (nv : Int) (cmp : Value) (h : Hp)  (K : Value → Hp → Prop) : Prop :=
  sx_3 Try.prog F 38 (cp [] (bodyOf Try.f84)) (ap [] slices_swapRangeCmpFunc_int_an) [(0, .slice data dataL dataC), (1, .int .i64 a), (2, .int .i64 b), (3, .int .i64 nv), (4, cmp)] h (slices_swapRangeCmpFunc_int_K0  K)
def slices_swapRangeCmpFunc_int_b1 (i : Int) (data : Option Addr) (dataL : Nat) (dataC : Nat) (a : Int) (b : Int) (nv : Int) (h : Hp) (nx0 : Int × Unit → Hp → Prop) (K : Value → Hp → Prop) : Prop :=
  sx_2 Try.prog F 38 (cp [1, 2, 2] (bodyOf Try.f84)) (ap [1, 2] slices_swapRangeCmpFunc_int_an) [(10, .int .i64 i), (0, .slice data dataL dataC), (1, .int .i64 a), (2, .int .i64 b), (3, .int .i64 nv)] h (slices_swapRangeCmpFunc_int_K2 nx0 K)
def slices_swapRangeCmpFunc_int_b2 (data : Option Addr) (dataL : Nat) (dataC : Nat) (a : Int) (b : Int) (nv : Int) (i : Int) (h : Hp) (nx0 : Int × Unit → Hp → Prop) (K : Value → Hp → Prop) : Prop :=
  sx_1 Try.prog F 38 (cp [1, 2, 2, 1, 1] (bodyOf Try.f84)) (ap [1, 2, 1, 1] slices_swapRangeCmpFunc_int_an) [(0, .slice data dataL dataC), (1, .int .i64 a), (2, .int .i64 b), (3, .int .i64 nv), (10, .int .i64 i)] h (slices_swapRangeCmpFunc_int_K2 nx0 K)
theorem slices_swapRangeCmpFunc_int_b0_eq (data : Option Addr) (dataL : Nat) (dataC : Nat) (a : Int) (b : Int) (nv : Int) (cmp : Value) (h : Hp)  (K : Value → Hp → Prop) : slices_swapRangeCmpFunc_int_b0 data dataL dataC a b nv cmp h  K = (
  LoopVC ((0, ()) : Int × Unit) h (fun (nx0 : Int × Unit → Hp → Prop) (s1 : Int × Unit) h1 => slices_swapRangeCmpFunc_int_b1 s1.1 data dataL dataC a b nv h1 nx0 K)) := by kernel_rfl
theorem slices_swapRangeCmpFunc_int_b1_eq (i : Int) (data : Option Addr) (dataL : Nat) (dataC : Nat) (a : Int) (b : Int) (nv : Int) (h : Hp) (nx0 : Int × Unit → Hp → Prop) (K : Value → Hp → Prop) : slices_swapRangeCmpFunc_int_b1 i data dataL dataC a b nv h nx0 K = (
  cond (decide (i < nv))
  (InR (a + i) ∧
  InR (b + i) ∧
  InR (b + i) ∧
  (0 ≤ b + i ∧ b + i < (dataL : Int)) ∧
  NN data fun a1 =>
  ∃ n1 : Int, cell h (a1.add (Int.toNat (b + i) * 1)) = some (.int .i64 n1) ∧
  InR (a + i) ∧
  (0 ≤ a + i ∧ a + i < (dataL : Int)) ∧
  NN data fun a2 =>
  ∃ n2 : Int, cell h (a2.add (Int.toNat (a + i) * 1)) = some (.int .i64 n2) ∧
  (0 ≤ a + i ∧ a + i < (dataL : Int)) ∧
  NN data fun a3 =>
  Wr h (a3.add (Int.toNat (a + i) * 1)) (.int .i64 n1) fun h2 =>
  (0 ≤ b + i ∧ b + i < (dataL : Int)) ∧
  NN data fun a4 =>
  Wr h2 (a4.add (Int.toNat (b + i) * 1)) (.int .i64 n2) fun h3 =>
  slices_swapRangeCmpFunc_int_b2 data dataL dataC a b nv i h3 nx0 K)
  (K (.tuple #[]) h)) := by kernel_rfl
theorem slices_swapRangeCmpFunc_int_b2_eq (data : Option Addr) (dataL : Nat) (dataC : Nat) (a : Int) (b : Int) (nv : Int) (i : Int) (h : Hp) (nx0 : Int × Unit → Hp → Prop) (K : Value → Hp → Prop) : slices_swapRangeCmpFunc_int_b2 data dataL dataC a b nv i h nx0 K = (
  InR (i + 1) ∧
  nx0 (i + 1, ()) h) := by kernel_rfl
theorem slices_swapRangeCmpFunc_int_call {data : Option Addr} {dataL : Nat} {dataC : Nat} {a : Int} {b : Int} {nv : Int} {cmp : Value} {h : Hp} {K : Value → Hp → Prop} (hk : slices_swapRangeCmpFunc_int_b0 data dataL dataC a b nv cmp h K) : HCalls Try.prog 84 #[.slice data dataL dataC, .int .i64 a, .int .i64 b, .int .i64 nv, cmp] h K :=
  calls_of_snd slices_swapRangeCmpFunc_int_an Try.func84 (c := bodyOf Try.f84) rfl Try.ntmps84 (Nat.le_of_ble_eq_true rfl) (snd_3 F_ok F_mixed) hk


end Go.Proofs.Ytfkimbdjgadelaa
