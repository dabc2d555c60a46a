/- Plain statements of what each block of code of this seat asks; printed by a program, checked by Lean. -/
import Derived.Test.YtbfejfejahoblaaSxV0
set_option maxRecDepth 10000
namespace Go.Proofs.Ytbfejfejahoblaa
open Go Go.Sx

/-! ### slices_insertionSortCmpFunc_api_Point -/
def slices_insertionSortCmpFunc_api_Point_an : Ann := .node none (.leaf) (.loop [0, 1, 2, 3] [(8, .int .i64)] (.node none (.leaf) (.node (some [0, 1, 2, 3, 8]) (.node none (.leaf) (.loop [0, 1, 2, 3, 8] [(9, .int .i64)] (.node (some [0, 1, 2, 3, 8, 9]) (.node none (.tail 14) (.leaf)) (.node (some [0, 1, 2, 3, 8, 9]) (.plan (.qu 0 (.qu 1 (.qu 2 (.qu 3 (.qu 4 (.qu 5 (.qu 6 (.qu 7 (.qu 8 (.qu 9 (.qu 10 (.qu 11 (.qu 12 (.qu 13 (.qu 14 (.wo 15 (.qu 16 (.wo 17 .fin .no)) .no))))))))))))))))) (.leaf))))) (.leaf))))
def slices_insertionSortCmpFunc_api_Point_K0  (K : Value → Hp → Prop) : Exit → Env → Hp → Prop := retK Try.prog Try.f66.results.toList K
def slices_insertionSortCmpFunc_api_Point_K1  (K : Value → Hp → Prop) : Exit → Env → Hp → Prop := blockE 0 (slices_insertionSortCmpFunc_api_Point_K0  K)
def slices_insertionSortCmpFunc_api_Point_K2 (nx0 : Int × Unit → Hp → Prop) (K : Value → Hp → Prop) : Exit → Env → Hp → Prop := thenE (fun env h => getV [(8, .int .i64)] env fun s => nx0 s h) (slices_insertionSortCmpFunc_api_Point_K1  K)
def slices_insertionSortCmpFunc_api_Point_K3 (nx0 : Int × Unit → Hp → Prop) (K : Value → Hp → Prop) : Exit → Env → Hp → Prop := thenE (fun env h => sx_3 Try.prog F 53 (cp [1, 2, 2, 1, 1] (bodyOf Try.f66)) (ap [1, 2, 1, 1] slices_insertionSortCmpFunc_api_Point_an) (rs [0, 1, 2, 3, 8] env) h (slices_insertionSortCmpFunc_api_Point_K2 nx0 K)) (slices_insertionSortCmpFunc_api_Point_K2 nx0 K)
def slices_insertionSortCmpFunc_api_Point_K4 (nx0 : Int × Unit → Hp → Prop) (K : Value → Hp → Prop) : Exit → Env → Hp → Prop := blockE 1 (slices_insertionSortCmpFunc_api_Point_K3 nx0 K)
def slices_insertionSortCmpFunc_api_Point_K5 (nx0 : Int × Unit → Hp → Prop) (K : Value → Hp → Prop) : Exit → Env → Hp → Prop := blockE 2 (slices_insertionSortCmpFunc_api_Point_K4 nx0 K)
def slices_insertionSortCmpFunc_api_Point_K6 (nx0 : Int × Unit → Hp → Prop) (nx1 : Int × Unit → Hp → Prop) (K : Value → Hp → Prop) : Exit → Env → Hp → Prop := thenE (fun env h => getV [(9, .int .i64)] env fun s => nx1 s h) (slices_insertionSortCmpFunc_api_Point_K5 nx0 K)
def slices_insertionSortCmpFunc_api_Point_b0 (data : Option Addr) (dataL : Nat) (dataC : Nat) (a : Int) (b : Int) (cmp : Value) (h : Hp)  (K : Value → Hp → Prop) : Prop :=
  sx_5 Try.prog F 53 (cp [] (bodyOf Try.f66)) (ap [] slices_insertionSortCmpFunc_api_Point_an) [(0, .slice data dataL dataC), (1, .int .i64 a), (2, .int .i64 b), (3, cmp)] h (slices_insertionSortCmpFunc_api_Point_K0  K)
def slices_insertionSortCmpFunc_api_Point_b1 (i : Int) (data : Option Addr) (dataL : Nat) (dataC : Nat) (a : Int) (b : Int) (cmp : Value) (h : Hp) (nx0 : Int × Unit → Hp → Prop) (K : Value → Hp → Prop) : Prop :=
  sx_4 Try.prog F 53 (cp [1, 2, 2] (bodyOf Try.f66)) (ap [1, 2] slices_insertionSortCmpFunc_api_Point_an) [(8, .int .i64 i), (0, .slice data dataL dataC), (1, .int .i64 a), (2, .int .i64 b), (3, cmp)] h (slices_insertionSortCmpFunc_api_Point_K2 nx0 K)
def slices_insertionSortCmpFunc_api_Point_b2 (j : Int) (data : Option Addr) (dataL : Nat) (dataC : Nat) (a : Int) (b : Int) (cmp : Value) (i : Int) (h : Hp) (nx0 : Int × Unit → Hp → Prop) (nx1 : Int × Unit → Hp → Prop) (K : Value → Hp → Prop) : Prop :=
  sx_3 Try.prog F 53 (cp [1, 2, 2, 1, 0, 2, 1, 2, 2] (bodyOf Try.f66)) (ap [1, 2, 1, 0, 1, 2] slices_insertionSortCmpFunc_api_Point_an) [(9, .int .i64 j), (0, .slice data dataL dataC), (1, .int .i64 a), (2, .int .i64 b), (3, cmp), (8, .int .i64 i)] h (slices_insertionSortCmpFunc_api_Point_K6 nx0 nx1 K)
def slices_insertionSortCmpFunc_api_Point_b3 (data : Option Addr) (dataL : Nat) (dataC : Nat) (a : Int) (b : Int) (cmp : Value) (i : Int) (j : Int) (h : Hp) (nx0 : Int × Unit → Hp → Prop) (nx1 : Int × Unit → Hp → Prop) (K : Value → Hp → Prop) : Prop :=
  sx_2 Try.prog F 53 (cp [1, 2, 2, 1, 0, 2, 1, 2, 2, 1] (bodyOf Try.f66)) (ap [1, 2, 1, 0, 1, 2, 1] slices_insertionSortCmpFunc_api_Point_an) [(0, .slice data dataL dataC), (1, .int .i64 a), (2, .int .i64 b), (3, cmp), (8, .int .i64 i), (9, .int .i64 j)] h (slices_insertionSortCmpFunc_api_Point_K6 nx0 nx1 K)
def slices_insertionSortCmpFunc_api_Point_b4 (data : Option Addr) (dataL : Nat) (dataC : Nat) (a : Int) (b : Int) (cmp : Value) (i : Int) (h : Hp) (nx0 : Int × Unit → Hp → Prop) (K : Value → Hp → Prop) : Prop :=
  sx_3 Try.prog F 53 (cp [1, 2, 2, 1, 1] (bodyOf Try.f66)) (ap [1, 2, 1, 1] slices_insertionSortCmpFunc_api_Point_an) [(0, .slice data dataL dataC), (1, .int .i64 a), (2, .int .i64 b), (3, cmp), (8, .int .i64 i)] h (slices_insertionSortCmpFunc_api_Point_K2 nx0 K)
def slices_insertionSortCmpFunc_api_Point_b5 (data : Option Addr) (dataL : Nat) (dataC : Nat) (a : Int) (b : Int) (cmp : Value) (i : Int) (j : Int) (h : Hp) (nx0 : Int × Unit → Hp → Prop) (nx1 : Int × Unit → Hp → Prop) (K : Value → Hp → Prop) : Prop :=
  sx_1 Try.prog F 53 (cp [1, 2, 2, 1, 0, 2, 1, 2, 2, 1, 1] (bodyOf Try.f66)) (ap [1, 2, 1, 0, 1, 2, 1, 1] slices_insertionSortCmpFunc_api_Point_an) [(0, .slice data dataL dataC), (1, .int .i64 a), (2, .int .i64 b), (3, cmp), (8, .int .i64 i), (9, .int .i64 j)] h (slices_insertionSortCmpFunc_api_Point_K6 nx0 nx1 K)
theorem slices_insertionSortCmpFunc_api_Point_b0_eq (data : Option Addr) (dataL : Nat) (dataC : Nat) (a : Int) (b : Int) (cmp : Value) (h : Hp)  (K : Value → Hp → Prop) : slices_insertionSortCmpFunc_api_Point_b0 data dataL dataC a b cmp h  K = (
  InR (a + 1) ∧
  LoopVC ((a + 1, ()) : Int × Unit) h (fun (nx0 : Int × Unit → Hp → Prop) (s1 : Int × Unit) h1 => slices_insertionSortCmpFunc_api_Point_b1 s1.1 data dataL dataC a b cmp h1 nx0 K)) := by kernel_rfl
theorem slices_insertionSortCmpFunc_api_Point_b1_eq (i : Int) (data : Option Addr) (dataL : Nat) (dataC : Nat) (a : Int) (b : Int) (cmp : Value) (h : Hp) (nx0 : Int × Unit → Hp → Prop) (K : Value → Hp → Prop) : slices_insertionSortCmpFunc_api_Point_b1 i data dataL dataC a b cmp h nx0 K = (
  cond (decide (i < b))
  (LoopVC ((i, ()) : Int × Unit) h (fun (nx1 : Int × Unit → Hp → Prop) (s2 : Int × Unit) h2 => slices_insertionSortCmpFunc_api_Point_b2 s2.1 data dataL dataC a b cmp i h2 nx0 nx1 K))
  (K (.tuple #[]) h)) := by kernel_rfl
theorem slices_insertionSortCmpFunc_api_Point_b2_eq (j : Int) (data : Option Addr) (dataL : Nat) (dataC : Nat) (a : Int) (b : Int) (cmp : Value) (i : Int) (h : Hp) (nx0 : Int × Unit → Hp → Prop) (nx1 : Int × Unit → Hp → Prop) (K : Value → Hp → Prop) : slices_insertionSortCmpFunc_api_Point_b2 j data dataL dataC a b cmp i h nx0 nx1 K = (
  cond (decide (a < j))
  ((0 ≤ j ∧ j < (dataL : Int)) ∧
  NN data fun a1 =>
  ∃ n1 : Int, ∃ n2 : Int, ∃ n3 : Int, cell h (a1.add (Int.toNat j * 3)) = some (.int .i64 n1) ∧
  cell h ((a1.add (Int.toNat j * 3)).add 1) = some (.int .i64 n2) ∧
  cell h ((a1.add (Int.toNat j * 3)).add 2) = some (.int .i64 n3) ∧
  InR (j - 1) ∧
  (0 ≤ j - 1 ∧ j - 1 < (dataL : Int)) ∧
  NN data fun a2 =>
  ∃ n4 : Int, ∃ n5 : Int, ∃ n6 : Int, cell h (a2.add (Int.toNat (j - 1) * 3)) = some (.int .i64 n4) ∧
  cell h ((a2.add (Int.toNat (j - 1) * 3)).add 1) = some (.int .i64 n5) ∧
  cell h ((a2.add (Int.toNat (j - 1) * 3)).add 2) = some (.int .i64 n6) ∧
  funV cmp fun fg1 fa1 fc1 => callX Try.prog F fg1 (fa1 ++ (([.agg #[.int .i64 n1, .int .i64 n2, .int .i64 n3], .agg #[.int .i64 n4, .int .i64 n5, .int .i64 n6]] : List Value) ++ fc1)).toArray h fun v1 h3 => ∃ r1 : Int, v1 = .int .i64 r1 ∧
  cond (decide (r1 < 0))
  (slices_insertionSortCmpFunc_api_Point_b3 data dataL dataC a b cmp i j h3 nx0 nx1 K)
  (slices_insertionSortCmpFunc_api_Point_b4 data dataL dataC a b cmp i h3 nx0 K))
  (slices_insertionSortCmpFunc_api_Point_b4 data dataL dataC a b cmp i h nx0 K)) := by kernel_rfl
theorem slices_insertionSortCmpFunc_api_Point_b3_eq (data : Option Addr) (dataL : Nat) (dataC : Nat) (a : Int) (b : Int) (cmp : Value) (i : Int) (j : Int) (h : Hp) (nx0 : Int × Unit → Hp → Prop) (nx1 : Int × Unit → Hp → Prop) (K : Value → Hp → Prop) : slices_insertionSortCmpFunc_api_Point_b3 data dataL dataC a b cmp i j h nx0 nx1 K = (
  InR (j - 1) ∧
  InR (j - 1) ∧
  (0 ≤ j - 1 ∧ j - 1 < (dataL : Int)) ∧
  NN data fun a3 =>
  ∃ n7 : Int, ∃ n8 : Int, ∃ n9 : Int, cell h (a3.add (Int.toNat (j - 1) * 3)) = some (.int .i64 n7) ∧
  cell h ((a3.add (Int.toNat (j - 1) * 3)).add 1) = some (.int .i64 n8) ∧
  cell h ((a3.add (Int.toNat (j - 1) * 3)).add 2) = some (.int .i64 n9) ∧
  (0 ≤ j ∧ j < (dataL : Int)) ∧
  NN data fun a4 =>
  ∃ n10 : Int, ∃ n11 : Int, ∃ n12 : Int, cell h (a4.add (Int.toNat j * 3)) = some (.int .i64 n10) ∧
  cell h ((a4.add (Int.toNat j * 3)).add 1) = some (.int .i64 n11) ∧
  cell h ((a4.add (Int.toNat j * 3)).add 2) = some (.int .i64 n12) ∧
  (0 ≤ j ∧ j < (dataL : Int)) ∧
  NN data fun a5 =>
  Wr h (a5.add (Int.toNat j * 3)) (.int .i64 n7) fun h4 =>
  Wr h4 ((a5.add (Int.toNat j * 3)).add 1) (.int .i64 n8) fun h5 =>
  Wr h5 ((a5.add (Int.toNat j * 3)).add 2) (.int .i64 n9) fun h6 =>
  (0 ≤ j - 1 ∧ j - 1 < (dataL : Int)) ∧
  NN data fun a6 =>
  Wr h6 (a6.add (Int.toNat (j - 1) * 3)) (.int .i64 n10) fun h7 =>
  Wr h7 ((a6.add (Int.toNat (j - 1) * 3)).add 1) (.int .i64 n11) fun h8 =>
  Wr h8 ((a6.add (Int.toNat (j - 1) * 3)).add 2) (.int .i64 n12) fun h9 =>
  slices_insertionSortCmpFunc_api_Point_b5 data dataL dataC a b cmp i j h9 nx0 nx1 K) := by kernel_rfl
theorem slices_insertionSortCmpFunc_api_Point_b4_eq (data : Option Addr) (dataL : Nat) (dataC : Nat) (a : Int) (b : Int) (cmp : Value) (i : Int) (h : Hp) (nx0 : Int × Unit → Hp → Prop) (K : Value → Hp → Prop) : slices_insertionSortCmpFunc_api_Point_b4 data dataL dataC a b cmp i h nx0 K = (
  InR (i + 1) ∧
  nx0 (i + 1, ()) h) := by kernel_rfl
theorem slices_insertionSortCmpFunc_api_Point_b5_eq (data : Option Addr) (dataL : Nat) (dataC : Nat) (a : Int) (b : Int) (cmp : Value) (i : Int) (j : Int) (h : Hp) (nx0 : Int × Unit → Hp → Prop) (nx1 : Int × Unit → Hp → Prop) (K : Value → Hp → Prop) : slices_insertionSortCmpFunc_api_Point_b5 data dataL dataC a b cmp i j h nx0 nx1 K = (
  InR (j - 1) ∧
  nx1 (j - 1, ()) h) := by kernel_rfl
theorem slices_insertionSortCmpFunc_api_Point_call {data : Option Addr} {dataL : Nat} {dataC : Nat} {a : Int} {b : Int} {cmp : Value} {h : Hp} {K : Value → Hp → Prop} (hk : slices_insertionSortCmpFunc_api_Point_b0 data dataL dataC a b cmp h K) : HCalls Try.prog 66 #[.slice data dataL dataC, .int .i64 a, .int .i64 b, cmp] h K :=
  calls_of_snd slices_insertionSortCmpFunc_api_Point_an Try.func66 (c := bodyOf Try.f66) rfl Try.ntmps66 (Nat.le_of_ble_eq_true rfl) (snd_5 F_ok F_mixed) hk

/-! ### slices_heapSortCmpFunc_api_Point -/
def slices_heapSortCmpFunc_api_Point_an : Ann := .node none (.leaf) (.node none (.leaf) (.node none (.leaf) (.node (some [0, 3, 8, 9, 10]) (.node none (.leaf) (.loop [0, 3, 8, 9, 10] [(11, .int .i64)] (.node none (.leaf) (.node (some [0, 3, 8, 9, 10, 11]) (.leaf) (.leaf))))) (.node none (.leaf) (.loop [0, 3, 8, 9] [(12, .int .i64)] (.node none (.leaf) (.node (some [0, 3, 8, 9, 12]) (.node none (.plan (.qu 0 (.qu 1 (.qu 2 (.qu 3 (.qu 4 (.qu 5 (.qu 6 (.qu 7 (.qu 8 (.qu 9 (.qu 10 (.qu 11 (.qu 12 (.qu 13 (.qu 14 (.qu 15 (.qu 16 (.wo 17 (.qu 18 (.wo 19 .fin .no)) .no))))))))))))))))))) (.leaf)) (.leaf))))))))
def slices_heapSortCmpFunc_api_Point_K0  (K : Value → Hp → Prop) : Exit → Env → Hp → Prop := retK Try.prog Try.f67.results.toList K
def slices_heapSortCmpFunc_api_Point_K1  (K : Value → Hp → Prop) : Exit → Env → Hp → Prop := thenE (fun env h => sx_3 Try.prog F 60 (cp [1, 1, 1, 1] (bodyOf Try.f67)) (ap [1, 1, 1, 1] slices_heapSortCmpFunc_api_Point_an) (rs [0, 3, 8, 9, 10] env) h (slices_heapSortCmpFunc_api_Point_K0  K)) (slices_heapSortCmpFunc_api_Point_K0  K)
def slices_heapSortCmpFunc_api_Point_K2  (K : Value → Hp → Prop) : Exit → Env → Hp → Prop := blockE 0 (slices_heapSortCmpFunc_api_Point_K1  K)
def slices_heapSortCmpFunc_api_Point_K3 (nx0 : Int × Unit → Hp → Prop) (K : Value → Hp → Prop) : Exit → Env → Hp → Prop := thenE (fun env h => getV [(11, .int .i64)] env fun s => nx0 s h) (slices_heapSortCmpFunc_api_Point_K2  K)
def slices_heapSortCmpFunc_api_Point_K4  (K : Value → Hp → Prop) : Exit → Env → Hp → Prop := blockE 2 (slices_heapSortCmpFunc_api_Point_K0  K)
def slices_heapSortCmpFunc_api_Point_K5 (nx0 : Int × Unit → Hp → Prop) (K : Value → Hp → Prop) : Exit → Env → Hp → Prop := thenE (fun env h => getV [(12, .int .i64)] env fun s => nx0 s h) (slices_heapSortCmpFunc_api_Point_K4  K)
def slices_heapSortCmpFunc_api_Point_b0 (data : Option Addr) (dataL : Nat) (dataC : Nat) (a : Int) (b : Int) (cmp : Value) (h : Hp)  (K : Value → Hp → Prop) : Prop :=
  sx_4 Try.prog F 60 (cp [] (bodyOf Try.f67)) (ap [] slices_heapSortCmpFunc_api_Point_an) [(0, .slice data dataL dataC), (1, .int .i64 a), (2, .int .i64 b), (3, cmp)] h (slices_heapSortCmpFunc_api_Point_K0  K)
def slices_heapSortCmpFunc_api_Point_b1 (i : Int) (data : Option Addr) (dataL : Nat) (dataC : Nat) (cmp : Value) (first : Int) (lo : Int) (hi : Int) (h : Hp) (nx0 : Int × Unit → Hp → Prop) (K : Value → Hp → Prop) : Prop :=
  sx_3 Try.prog F 60 (cp [1, 1, 1, 0, 1, 2, 2] (bodyOf Try.f67)) (ap [1, 1, 1, 0, 1, 2] slices_heapSortCmpFunc_api_Point_an) [(11, .int .i64 i), (0, .slice data dataL dataC), (3, cmp), (8, .int .i64 first), (9, .int .i64 lo), (10, .int .i64 hi)] h (slices_heapSortCmpFunc_api_Point_K3 nx0 K)
def slices_heapSortCmpFunc_api_Point_b2 (data : Option Addr) (dataL : Nat) (dataC : Nat) (cmp : Value) (first : Int) (lo : Int) (hi : Int) (i : Int) (h : Hp) (nx0 : Int × Unit → Hp → Prop) (K : Value → Hp → Prop) : Prop :=
  sx_2 Try.prog F 60 (cp [1, 1, 1, 0, 1, 2, 2, 1, 1] (bodyOf Try.f67)) (ap [1, 1, 1, 0, 1, 2, 1, 1] slices_heapSortCmpFunc_api_Point_an) [(0, .slice data dataL dataC), (3, cmp), (8, .int .i64 first), (9, .int .i64 lo), (10, .int .i64 hi), (11, .int .i64 i)] h (slices_heapSortCmpFunc_api_Point_K3 nx0 K)
def slices_heapSortCmpFunc_api_Point_b3 (data : Option Addr) (dataL : Nat) (dataC : Nat) (cmp : Value) (first : Int) (lo : Int) (hi : Int) (h : Hp)  (K : Value → Hp → Prop) : Prop :=
  sx_3 Try.prog F 60 (cp [1, 1, 1, 1] (bodyOf Try.f67)) (ap [1, 1, 1, 1] slices_heapSortCmpFunc_api_Point_an) [(0, .slice data dataL dataC), (3, cmp), (8, .int .i64 first), (9, .int .i64 lo), (10, .int .i64 hi)] h (slices_heapSortCmpFunc_api_Point_K0  K)
def slices_heapSortCmpFunc_api_Point_b4 (i : Int) (data : Option Addr) (dataL : Nat) (dataC : Nat) (cmp : Value) (first : Int) (lo : Int) (h : Hp) (nx0 : Int × Unit → Hp → Prop) (K : Value → Hp → Prop) : Prop :=
  sx_2 Try.prog F 60 (cp [1, 1, 1, 1, 1, 2, 2] (bodyOf Try.f67)) (ap [1, 1, 1, 1, 1, 2] slices_heapSortCmpFunc_api_Point_an) [(12, .int .i64 i), (0, .slice data dataL dataC), (3, cmp), (8, .int .i64 first), (9, .int .i64 lo)] h (slices_heapSortCmpFunc_api_Point_K5 nx0 K)
def slices_heapSortCmpFunc_api_Point_b5 (data : Option Addr) (dataL : Nat) (dataC : Nat) (cmp : Value) (first : Int) (lo : Int) (i : Int) (h : Hp) (nx0 : Int × Unit → Hp → Prop) (K : Value → Hp → Prop) : Prop :=
  sx_1 Try.prog F 60 (cp [1, 1, 1, 1, 1, 2, 2, 1, 1] (bodyOf Try.f67)) (ap [1, 1, 1, 1, 1, 2, 1, 1] slices_heapSortCmpFunc_api_Point_an) [(0, .slice data dataL dataC), (3, cmp), (8, .int .i64 first), (9, .int .i64 lo), (12, .int .i64 i)] h (slices_heapSortCmpFunc_api_Point_K5 nx0 K)
theorem slices_heapSortCmpFunc_api_Point_b0_eq (data : Option Addr) (dataL : Nat) (dataC : Nat) (a : Int) (b : Int) (cmp : Value) (h : Hp)  (K : Value → Hp → Prop) : slices_heapSortCmpFunc_api_Point_b0 data dataL dataC a b cmp h  K = (
  InR (b - a) ∧
  InR ((b - a) - 1) ∧
  ∃ q1 : Int, Sx.Quo .i64 ((b - a) - 1) 2 q1 ∧
  LoopVC ((q1, ()) : Int × Unit) h (fun (nx0 : Int × Unit → Hp → Prop) (s1 : Int × Unit) h1 => slices_heapSortCmpFunc_api_Point_b1 s1.1 data dataL dataC cmp a 0 (b - a) h1 nx0 K)) := by kernel_rfl
theorem slices_heapSortCmpFunc_api_Point_b1_eq (i : Int) (data : Option Addr) (dataL : Nat) (dataC : Nat) (cmp : Value) (first : Int) (lo : Int) (hi : Int) (h : Hp) (nx0 : Int × Unit → Hp → Prop) (K : Value → Hp → Prop) : slices_heapSortCmpFunc_api_Point_b1 i data dataL dataC cmp first lo hi h nx0 K = (
  cond (decide ((0 : Int) ≤ i))
  (HCalls Try.prog 86 #[.slice data dataL dataC, .int .i64 i, .int .i64 hi, .int .i64 first, cmp] h fun v1 h2 => v1 = .tuple #[] ∧
  slices_heapSortCmpFunc_api_Point_b2 data dataL dataC cmp first lo hi i h2 nx0 K)
  (slices_heapSortCmpFunc_api_Point_b3 data dataL dataC cmp first lo hi h  K)) := by kernel_rfl
theorem slices_heapSortCmpFunc_api_Point_b2_eq (data : Option Addr) (dataL : Nat) (dataC : Nat) (cmp : Value) (first : Int) (lo : Int) (hi : Int) (i : Int) (h : Hp) (nx0 : Int × Unit → Hp → Prop) (K : Value → Hp → Prop) : slices_heapSortCmpFunc_api_Point_b2 data dataL dataC cmp first lo hi i h nx0 K = (
  InR (i - 1) ∧
  nx0 (i - 1, ()) h) := by kernel_rfl
theorem slices_heapSortCmpFunc_api_Point_b3_eq (data : Option Addr) (dataL : Nat) (dataC : Nat) (cmp : Value) (first : Int) (lo : Int) (hi : Int) (h : Hp)  (K : Value → Hp → Prop) : slices_heapSortCmpFunc_api_Point_b3 data dataL dataC cmp first lo hi h  K = (
  InR (hi - 1) ∧
  LoopVC ((hi - 1, ()) : Int × Unit) h (fun (nx0 : Int × Unit → Hp → Prop) (s2 : Int × Unit) h3 => slices_heapSortCmpFunc_api_Point_b4 s2.1 data dataL dataC cmp first lo h3 nx0 K)) := by kernel_rfl
theorem slices_heapSortCmpFunc_api_Point_b4_eq (i : Int) (data : Option Addr) (dataL : Nat) (dataC : Nat) (cmp : Value) (first : Int) (lo : Int) (h : Hp) (nx0 : Int × Unit → Hp → Prop) (K : Value → Hp → Prop) : slices_heapSortCmpFunc_api_Point_b4 i data dataL dataC cmp first lo h nx0 K = (
  cond (decide ((0 : Int) ≤ i))
  (InR (first + i) ∧
  InR (first + i) ∧
  (0 ≤ first + i ∧ first + i < (dataL : Int)) ∧
  NN data fun a1 =>
  ∃ n1 : Int, ∃ n2 : Int, ∃ n3 : Int, cell h (a1.add (Int.toNat (first + i) * 3)) = some (.int .i64 n1) ∧
  cell h ((a1.add (Int.toNat (first + i) * 3)).add 1) = some (.int .i64 n2) ∧
  cell h ((a1.add (Int.toNat (first + i) * 3)).add 2) = some (.int .i64 n3) ∧
  (0 ≤ first ∧ first < (dataL : Int)) ∧
  NN data fun a2 =>
  ∃ n4 : Int, ∃ n5 : Int, ∃ n6 : Int, cell h (a2.add (Int.toNat first * 3)) = some (.int .i64 n4) ∧
  cell h ((a2.add (Int.toNat first * 3)).add 1) = some (.int .i64 n5) ∧
  cell h ((a2.add (Int.toNat first * 3)).add 2) = some (.int .i64 n6) ∧
  (0 ≤ first ∧ first < (dataL : Int)) ∧
  NN data fun a3 =>
  Wr h (a3.add (Int.toNat first * 3)) (.int .i64 n1) fun h4 =>
  Wr h4 ((a3.add (Int.toNat first * 3)).add 1) (.int .i64 n2) fun h5 =>
  Wr h5 ((a3.add (Int.toNat first * 3)).add 2) (.int .i64 n3) fun h6 =>
  (0 ≤ first + i ∧ first + i < (dataL : Int)) ∧
  NN data fun a4 =>
  Wr h6 (a4.add (Int.toNat (first + i) * 3)) (.int .i64 n4) fun h7 =>
  Wr h7 ((a4.add (Int.toNat (first + i) * 3)).add 1) (.int .i64 n5) fun h8 =>
  Wr h8 ((a4.add (Int.toNat (first + i) * 3)).add 2) (.int .i64 n6) fun h9 =>
  HCalls Try.prog 86 #[.slice data dataL dataC, .int .i64 lo, .int .i64 i, .int .i64 first, cmp] h9 fun v2 h10 => v2 = .tuple #[] ∧
  slices_heapSortCmpFunc_api_Point_b5 data dataL dataC cmp first lo i h10 nx0 K)
  (K (.tuple #[]) h)) := by kernel_rfl
theorem slices_heapSortCmpFunc_api_Point_b5_eq (data : Option Addr) (dataL : Nat) (dataC : Nat) (cmp : Value) (first : Int) (lo : Int) (i : Int) (h : Hp) (nx0 : Int × Unit → Hp → Prop) (K : Value → Hp → Prop) : slices_heapSortCmpFunc_api_Point_b5 data dataL dataC cmp first lo i h nx0 K = (
  InR (i - 1) ∧
  nx0 (i - 1, ()) h) := by kernel_rfl
theorem slices_heapSortCmpFunc_api_Point_call {data : Option Addr} {dataL : Nat} {dataC : Nat} {a : Int} {b : Int} {cmp : Value} {h : Hp} {K : Value → Hp → Prop} (hk : slices_heapSortCmpFunc_api_Point_b0 data dataL dataC a b cmp h K) : HCalls Try.prog 67 #[.slice data dataL dataC, .int .i64 a, .int .i64 b, cmp] h K :=
  calls_of_snd slices_heapSortCmpFunc_api_Point_an Try.func67 (c := bodyOf Try.f67) rfl Try.ntmps67 (Nat.le_of_ble_eq_true rfl) (snd_4 F_ok F_mixed) hk

/-! ### slices_breakPatternsCmpFunc_api_Point -/
def slices_breakPatternsCmpFunc_api_Point_an : Ann := .node none (.leaf) (.node none (.leaf) (.node none (.node none (.leaf) (.node none (.leaf) (.node none (.leaf) (.loop [0, 1, 8, 9, 10] [(11, .int .i64)] (.node none (.leaf) (.node (some [0, 1, 8, 9, 10, 11]) (.node none (.leaf) (.node (some [0, 1, 8, 9, 10, 11, 12]) (.leaf) (.plan (.qu 0 (.qu 1 (.qu 2 (.qu 3 (.qu 4 (.qu 5 (.qu 6 (.qu 7 (.qu 8 (.qu 9 (.qu 10 (.qu 11 (.qu 12 (.qu 13 (.qu 14 (.qu 15 (.qu 16 (.wo 17 (.qu 18 (.wo 19 .fin .no)) .no))))))))))))))))))))) (.leaf))))))) (.leaf)))
def slices_breakPatternsCmpFunc_api_Point_K0  (K : Value → Hp → Prop) : Exit → Env → Hp → Prop := retK Try.prog Try.f68.results.toList K
def slices_breakPatternsCmpFunc_api_Point_K1  (K : Value → Hp → Prop) : Exit → Env → Hp → Prop := blockE 0 (slices_breakPatternsCmpFunc_api_Point_K0  K)
def slices_breakPatternsCmpFunc_api_Point_K2 (nx0 : Int × Unit → Hp → Prop) (K : Value → Hp → Prop) : Exit → Env → Hp → Prop := thenE (fun env h => getV [(11, .int .i64)] env fun s => nx0 s h) (slices_breakPatternsCmpFunc_api_Point_K1  K)
def slices_breakPatternsCmpFunc_api_Point_K3 (nx0 : Int × Unit → Hp → Prop) (K : Value → Hp → Prop) : Exit → Env → Hp → Prop := thenE (fun env h => sx_1 Try.prog F 67 (cp [1, 1, 0, 1, 1, 1, 2, 2, 1, 1] (bodyOf Try.f68)) (ap [1, 1, 0, 1, 1, 1, 2, 1, 1] slices_breakPatternsCmpFunc_api_Point_an) (rs [0, 1, 8, 9, 10, 11] env) h (slices_breakPatternsCmpFunc_api_Point_K2 nx0 K)) (slices_breakPatternsCmpFunc_api_Point_K2 nx0 K)
def slices_breakPatternsCmpFunc_api_Point_K4 (nx0 : Int × Unit → Hp → Prop) (K : Value → Hp → Prop) : Exit → Env → Hp → Prop := blockE 1 (slices_breakPatternsCmpFunc_api_Point_K3 nx0 K)
def slices_breakPatternsCmpFunc_api_Point_b0 (data : Option Addr) (dataL : Nat) (dataC : Nat) (a : Int) (b : Int) (cmp : Value) (h : Hp)  (K : Value → Hp → Prop) : Prop :=
  sx_3 Try.prog F 67 (cp [] (bodyOf Try.f68)) (ap [] slices_breakPatternsCmpFunc_api_Point_an) [(0, .slice data dataL dataC), (1, .int .i64 a), (2, .int .i64 b), (3, cmp)] h (slices_breakPatternsCmpFunc_api_Point_K0  K)
def slices_breakPatternsCmpFunc_api_Point_b1 (idx : Int) (data : Option Addr) (dataL : Nat) (dataC : Nat) (a : Int) (length : Int) (random : Option Addr) (modulus : Int) (h : Hp) (nx0 : Int × Unit → Hp → Prop) (K : Value → Hp → Prop) : Prop :=
  sx_2 Try.prog F 67 (cp [1, 1, 0, 1, 1, 1, 2, 2] (bodyOf Try.f68)) (ap [1, 1, 0, 1, 1, 1, 2] slices_breakPatternsCmpFunc_api_Point_an) [(11, .int .i64 idx), (0, .slice data dataL dataC), (1, .int .i64 a), (8, .int .i64 length), (9, .pointer random), (10, .int .u64 modulus)] h (slices_breakPatternsCmpFunc_api_Point_K2 nx0 K)
def slices_breakPatternsCmpFunc_api_Point_b2 (data : Option Addr) (dataL : Nat) (dataC : Nat) (a : Int) (length : Int) (random : Option Addr) (modulus : Int) (idx : Int) (other : Int) (h : Hp) (nx0 : Int × Unit → Hp → Prop) (K : Value → Hp → Prop) : Prop :=
  sx_1 Try.prog F 67 (cp [1, 1, 0, 1, 1, 1, 2, 2, 1, 0, 2, 1, 1] (bodyOf Try.f68)) (ap [1, 1, 0, 1, 1, 1, 2, 1, 0, 1, 1] slices_breakPatternsCmpFunc_api_Point_an) [(0, .slice data dataL dataC), (1, .int .i64 a), (8, .int .i64 length), (9, .pointer random), (10, .int .u64 modulus), (11, .int .i64 idx), (12, .int .i64 other)] h (slices_breakPatternsCmpFunc_api_Point_K4 nx0 K)
def slices_breakPatternsCmpFunc_api_Point_b3 (data : Option Addr) (dataL : Nat) (dataC : Nat) (a : Int) (length : Int) (random : Option Addr) (modulus : Int) (idx : Int) (h : Hp) (nx0 : Int × Unit → Hp → Prop) (K : Value → Hp → Prop) : Prop :=
  sx_1 Try.prog F 67 (cp [1, 1, 0, 1, 1, 1, 2, 2, 1, 1] (bodyOf Try.f68)) (ap [1, 1, 0, 1, 1, 1, 2, 1, 1] slices_breakPatternsCmpFunc_api_Point_an) [(0, .slice data dataL dataC), (1, .int .i64 a), (8, .int .i64 length), (9, .pointer random), (10, .int .u64 modulus), (11, .int .i64 idx)] h (slices_breakPatternsCmpFunc_api_Point_K2 nx0 K)
theorem slices_breakPatternsCmpFunc_api_Point_b0_eq (data : Option Addr) (dataL : Nat) (dataC : Nat) (a : Int) (b : Int) (cmp : Value) (h : Hp)  (K : Value → Hp → Prop) : slices_breakPatternsCmpFunc_api_Point_b0 data dataL dataC a b cmp h  K = (
  InR (b - a) ∧
  cond (decide ((8 : Int) ≤ (b - a)))
  (New h (.cells #[.int .u64 0] 118) fun b1 h1 =>
  Wr h1 ⟨b1, 0, none⟩ (.int .u64 (IntKind.u64.wrap (b - a))) fun h2 =>
  HCalls Try.prog 80 #[.int .i64 (b - a)] h2 fun v1 h3 => ∃ r1 : Int, v1 = .int .u64 r1 ∧
  ∃ q1 : Int, Sx.Quo .i64 (b - a) 4 q1 ∧
  InR (q1 * 2) ∧
  InR (a + (q1 * 2)) ∧
  InR ((a + (q1 * 2)) - 1) ∧
  LoopVC (((a + (q1 * 2)) - 1, ()) : Int × Unit) h3 (fun (nx0 : Int × Unit → Hp → Prop) (s1 : Int × Unit) h4 => slices_breakPatternsCmpFunc_api_Point_b1 s1.1 data dataL dataC a (b - a) (some ⟨b1, 0, none⟩) r1 h4 nx0 K))
  (K (.tuple #[]) h)) := by kernel_rfl
theorem slices_breakPatternsCmpFunc_api_Point_b1_eq (idx : Int) (data : Option Addr) (dataL : Nat) (dataC : Nat) (a : Int) (length : Int) (random : Option Addr) (modulus : Int) (h : Hp) (nx0 : Int × Unit → Hp → Prop) (K : Value → Hp → Prop) : slices_breakPatternsCmpFunc_api_Point_b1 idx data dataL dataC a length random modulus h nx0 K = (
  ∃ q2 : Int, Sx.Quo .i64 length 4 q2 ∧
  InR (q2 * 2) ∧
  InR (a + (q2 * 2)) ∧
  InR ((a + (q2 * 2)) + 1) ∧
  cond (decide (idx ≤ ((a + (q2 * 2)) + 1)))
  (HCalls Try.prog 81 #[.pointer random] h fun v2 h5 => ∃ r2 : Int, v2 = .int .u64 r2 ∧
  ∃ an1 : Int, Sx.And .u64 r2 (IntKind.u64.wrap (modulus - 1)) an1 ∧
  InR an1 ∧
  cond (decide (length ≤ an1))
  (InR (an1 - length) ∧
  slices_breakPatternsCmpFunc_api_Point_b2 data dataL dataC a length random modulus idx (an1 - length) h5 nx0 K)
  (slices_breakPatternsCmpFunc_api_Point_b2 data dataL dataC a length random modulus idx an1 h5 nx0 K))
  (K (.tuple #[]) h)) := by kernel_rfl
theorem slices_breakPatternsCmpFunc_api_Point_b2_eq (data : Option Addr) (dataL : Nat) (dataC : Nat) (a : Int) (length : Int) (random : Option Addr) (modulus : Int) (idx : Int) (other : Int) (h : Hp) (nx0 : Int × Unit → Hp → Prop) (K : Value → Hp → Prop) : slices_breakPatternsCmpFunc_api_Point_b2 data dataL dataC a length random modulus idx other h nx0 K = (
  InR (a + other) ∧
  InR (a + other) ∧
  (0 ≤ a + other ∧ a + other < (dataL : Int)) ∧
  NN data fun a1 =>
  ∃ n1 : Int, ∃ n2 : Int, ∃ n3 : Int, cell h (a1.add (Int.toNat (a + other) * 3)) = some (.int .i64 n1) ∧
  cell h ((a1.add (Int.toNat (a + other) * 3)).add 1) = some (.int .i64 n2) ∧
  cell h ((a1.add (Int.toNat (a + other) * 3)).add 2) = some (.int .i64 n3) ∧
  (0 ≤ idx ∧ idx < (dataL : Int)) ∧
  NN data fun a2 =>
  ∃ n4 : Int, ∃ n5 : Int, ∃ n6 : Int, cell h (a2.add (Int.toNat idx * 3)) = some (.int .i64 n4) ∧
  cell h ((a2.add (Int.toNat idx * 3)).add 1) = some (.int .i64 n5) ∧
  cell h ((a2.add (Int.toNat idx * 3)).add 2) = some (.int .i64 n6) ∧
  (0 ≤ idx ∧ idx < (dataL : Int)) ∧
  NN data fun a3 =>
  Wr h (a3.add (Int.toNat idx * 3)) (.int .i64 n1) fun h6 =>
  Wr h6 ((a3.add (Int.toNat idx * 3)).add 1) (.int .i64 n2) fun h7 =>
  Wr h7 ((a3.add (Int.toNat idx * 3)).add 2) (.int .i64 n3) fun h8 =>
  (0 ≤ a + other ∧ a + other < (dataL : Int)) ∧
  NN data fun a4 =>
  Wr h8 (a4.add (Int.toNat (a + other) * 3)) (.int .i64 n4) fun h9 =>
  Wr h9 ((a4.add (Int.toNat (a + other) * 3)).add 1) (.int .i64 n5) fun h10 =>
  Wr h10 ((a4.add (Int.toNat (a + other) * 3)).add 2) (.int .i64 n6) fun h11 =>
  slices_breakPatternsCmpFunc_api_Point_b3 data dataL dataC a length random modulus idx h11 nx0 K) := by kernel_rfl
theorem slices_breakPatternsCmpFunc_api_Point_b3_eq (data : Option Addr) (dataL : Nat) (dataC : Nat) (a : Int) (length : Int) (random : Option Addr) (modulus : Int) (idx : Int) (h : Hp) (nx0 : Int × Unit → Hp → Prop) (K : Value → Hp → Prop) : slices_breakPatternsCmpFunc_api_Point_b3 data dataL dataC a length random modulus idx h nx0 K = (
  InR (idx + 1) ∧
  nx0 (idx + 1, ()) h) := by kernel_rfl
theorem slices_breakPatternsCmpFunc_api_Point_call {data : Option Addr} {dataL : Nat} {dataC : Nat} {a : Int} {b : Int} {cmp : Value} {h : Hp} {K : Value → Hp → Prop} (hk : slices_breakPatternsCmpFunc_api_Point_b0 data dataL dataC a b cmp h K) : HCalls Try.prog 68 #[.slice data dataL dataC, .int .i64 a, .int .i64 b, cmp] h K :=
  calls_of_snd slices_breakPatternsCmpFunc_api_Point_an Try.func68 (c := bodyOf Try.f68) rfl Try.ntmps68 (Nat.le_of_ble_eq_true rfl) (snd_3 F_ok F_mixed) hk

/-! ### slices_choosePivotCmpFunc_api_Point -/
def slices_choosePivotCmpFunc_api_Point_an : Ann := .node none (.leaf) (.node none (.leaf) (.node none (.leaf) (.node none (.leaf) (.node none (.leaf) (.node none (.leaf) (.node (some [11, 13]) (.node none (.leaf) (.node none (.node (some [0, 3, 11, 12, 13, 14]) (.leaf) (.leaf)) (.leaf))) (.leaf)))))))
def slices_choosePivotCmpFunc_api_Point_K0  (K : Value → Hp → Prop) : Exit → Env → Hp → Prop := retK Try.prog Try.f69.results.toList K
def slices_choosePivotCmpFunc_api_Point_K1  (K : Value → Hp → Prop) : Exit → Env → Hp → Prop := thenE (fun env h => sx_1 Try.prog F 63 (cp [1, 1, 1, 1, 1, 1, 1] (bodyOf Try.f69)) (ap [1, 1, 1, 1, 1, 1, 1] slices_choosePivotCmpFunc_api_Point_an) (rs [11, 13] env) h (slices_choosePivotCmpFunc_api_Point_K0  K)) (slices_choosePivotCmpFunc_api_Point_K0  K)
def slices_choosePivotCmpFunc_api_Point_b0 (data : Option Addr) (dataL : Nat) (dataC : Nat) (a : Int) (b : Int) (cmp : Value) (h : Hp)  (K : Value → Hp → Prop) : Prop :=
  sx_2 Try.prog F 63 (cp [] (bodyOf Try.f69)) (ap [] slices_choosePivotCmpFunc_api_Point_an) [(0, .slice data dataL dataC), (1, .int .i64 a), (2, .int .i64 b), (3, cmp)] h (slices_choosePivotCmpFunc_api_Point_K0  K)
def slices_choosePivotCmpFunc_api_Point_b1 (data : Option Addr) (dataL : Nat) (dataC : Nat) (cmp : Value) (swaps : Option Addr) (i : Int) (j : Int) (k : Int) (h : Hp)  (K : Value → Hp → Prop) : Prop :=
  sx_1 Try.prog F 63 (cp [1, 1, 1, 1, 1, 1, 0, 1, 0, 1] (bodyOf Try.f69)) (ap [1, 1, 1, 1, 1, 1, 0, 1, 0, 1] slices_choosePivotCmpFunc_api_Point_an) [(0, .slice data dataL dataC), (3, cmp), (11, .pointer swaps), (12, .int .i64 i), (13, .int .i64 j), (14, .int .i64 k)] h (slices_choosePivotCmpFunc_api_Point_K1  K)
def slices_choosePivotCmpFunc_api_Point_b2 (swaps : Option Addr) (j : Int) (h : Hp)  (K : Value → Hp → Prop) : Prop :=
  sx_1 Try.prog F 63 (cp [1, 1, 1, 1, 1, 1, 1] (bodyOf Try.f69)) (ap [1, 1, 1, 1, 1, 1, 1] slices_choosePivotCmpFunc_api_Point_an) [(11, .pointer swaps), (13, .int .i64 j)] h (slices_choosePivotCmpFunc_api_Point_K0  K)
theorem slices_choosePivotCmpFunc_api_Point_b0_eq (data : Option Addr) (dataL : Nat) (dataC : Nat) (a : Int) (b : Int) (cmp : Value) (h : Hp)  (K : Value → Hp → Prop) : slices_choosePivotCmpFunc_api_Point_b0 data dataL dataC a b cmp h  K = (
  InR (b - a) ∧
  New h (.cells #[.int .i64 0] 3) fun b1 h1 =>
  ∃ q1 : Int, Sx.Quo .i64 (b - a) 4 q1 ∧
  InR (q1 * 1) ∧
  InR (a + (q1 * 1)) ∧
  ∃ q2 : Int, Sx.Quo .i64 (b - a) 4 q2 ∧
  InR (q2 * 2) ∧
  InR (a + (q2 * 2)) ∧
  ∃ q3 : Int, Sx.Quo .i64 (b - a) 4 q3 ∧
  InR (q3 * 3) ∧
  InR (a + (q3 * 3)) ∧
  cond (decide ((8 : Int) ≤ (b - a)))
  (cond (decide ((50 : Int) ≤ (b - a)))
  (HCalls Try.prog 87 #[.slice data dataL dataC, .int .i64 (a + (q1 * 1)), .pointer (some ⟨b1, 0, none⟩), cmp] h1 fun v1 h2 => ∃ r1 : Int, v1 = .int .i64 r1 ∧
  HCalls Try.prog 87 #[.slice data dataL dataC, .int .i64 (a + (q2 * 2)), .pointer (some ⟨b1, 0, none⟩), cmp] h2 fun v2 h3 => ∃ r2 : Int, v2 = .int .i64 r2 ∧
  HCalls Try.prog 87 #[.slice data dataL dataC, .int .i64 (a + (q3 * 3)), .pointer (some ⟨b1, 0, none⟩), cmp] h3 fun v3 h4 => ∃ r3 : Int, v3 = .int .i64 r3 ∧
  slices_choosePivotCmpFunc_api_Point_b1 data dataL dataC cmp (some ⟨b1, 0, none⟩) r1 r2 r3 h4  K)
  (slices_choosePivotCmpFunc_api_Point_b1 data dataL dataC cmp (some ⟨b1, 0, none⟩) (a + (q1 * 1)) (a + (q2 * 2)) (a + (q3 * 3)) h1  K))
  (slices_choosePivotCmpFunc_api_Point_b2 (some ⟨b1, 0, none⟩) (a + (q2 * 2)) h1  K)) := by kernel_rfl
theorem slices_choosePivotCmpFunc_api_Point_b1_eq (data : Option Addr) (dataL : Nat) (dataC : Nat) (cmp : Value) (swaps : Option Addr) (i : Int) (j : Int) (k : Int) (h : Hp)  (K : Value → Hp → Prop) : slices_choosePivotCmpFunc_api_Point_b1 data dataL dataC cmp swaps i j k h  K = (
  HCalls Try.prog 88 #[.slice data dataL dataC, .int .i64 i, .int .i64 j, .int .i64 k, .pointer swaps, cmp] h fun v4 h5 => ∃ r4 : Int, v4 = .int .i64 r4 ∧
  slices_choosePivotCmpFunc_api_Point_b2 swaps r4 h5  K) := by kernel_rfl
theorem slices_choosePivotCmpFunc_api_Point_b2_eq (swaps : Option Addr) (j : Int) (h : Hp)  (K : Value → Hp → Prop) : slices_choosePivotCmpFunc_api_Point_b2 swaps j h  K = (
  NN swaps fun a1 =>
  ∃ n1 : Int, cell h a1 = some (.int .i64 n1) ∧
  cond (decide (n1 = 0))
  (K (.tuple #[.int .i64 j, .int .i64 1]) h)
  (cond (decide (n1 = 12))
  (K (.tuple #[.int .i64 j, .int .i64 2]) h)
  (K (.tuple #[.int .i64 j, .int .i64 0]) h))) := by kernel_rfl
theorem slices_choosePivotCmpFunc_api_Point_call {data : Option Addr} {dataL : Nat} {dataC : Nat} {a : Int} {b : Int} {cmp : Value} {h : Hp} {K : Value → Hp → Prop} (hk : slices_choosePivotCmpFunc_api_Point_b0 data dataL dataC a b cmp h K) : HCalls Try.prog 69 #[.slice data dataL dataC, .int .i64 a, .int .i64 b, cmp] h K :=
  calls_of_snd slices_choosePivotCmpFunc_api_Point_an Try.func69 (c := bodyOf Try.f69) rfl Try.ntmps69 (Nat.le_of_ble_eq_true rfl) (snd_2 F_ok F_mixed) hk

/-! ### slices_reverseRangeCmpFunc_api_Point -/
def slices_reverseRangeCmpFunc_api_Point_an : Ann := .node none (.leaf) (.node none (.leaf) (.loop [0] [(8, .int .i64), (9, .int .i64)] (.node none (.leaf) (.node none (.plan (.qu 0 (.qu 1 (.qu 2 (.qu 3 (.qu 4 (.qu 5 (.qu 6 (.qu 7 (.qu 8 (.qu 9 (.qu 10 (.qu 11 (.qu 12 (.wo 13 (.qu 14 (.wo 15 .fin .no)) .no))))))))))))))) (.leaf)))))
def slices_reverseRangeCmpFunc_api_Point_K0  (K : Value → Hp → Prop) : Exit → Env → Hp → Prop := retK Try.prog Try.f70.results.toList K
def slices_reverseRangeCmpFunc_api_Point_K1  (K : Value → Hp → Prop) : Exit → Env → Hp → Prop := blockE 0 (slices_reverseRangeCmpFunc_api_Point_K0  K)
def slices_reverseRangeCmpFunc_api_Point_K2 (nx0 : Int × Int × Unit → Hp → Prop) (K : Value → Hp → Prop) : Exit → Env → Hp → Prop := thenE (fun env h => getV [(8, .int .i64), (9, .int .i64)] env fun s => nx0 s h) (slices_reverseRangeCmpFunc_api_Point_K1  K)
def slices_reverseRangeCmpFunc_api_Point_b0 (data : Option Addr) (dataL : Nat) (dataC : Nat) (a : Int) (b : Int) (cmp : Value) (h : Hp)  (K : Value → Hp → Prop) : Prop :=
  sx_2 Try.prog F 34 (cp [] (bodyOf Try.f70)) (ap [] slices_reverseRangeCmpFunc_api_Point_an) [(0, .slice data dataL dataC), (1, .int .i64 a), (2, .int .i64 b), (3, cmp)] h (slices_reverseRangeCmpFunc_api_Point_K0  K)
def slices_reverseRangeCmpFunc_api_Point_b1 (i : Int) (j : Int) (data : Option Addr) (dataL : Nat) (dataC : Nat) (h : Hp) (nx0 : Int × Int × Unit → Hp → Prop) (K : Value → Hp → Prop) : Prop :=
  sx_1 Try.prog F 34 (cp [1, 1, 2, 2] (bodyOf Try.f70)) (ap [1, 1, 2] slices_reverseRangeCmpFunc_api_Point_an) [(8, .int .i64 i), (9, .int .i64 j), (0, .slice data dataL dataC)] h (slices_reverseRangeCmpFunc_api_Point_K2 nx0 K)
theorem slices_reverseRangeCmpFunc_api_Point_b0_eq (data : Option Addr) (dataL : Nat) (dataC : Nat) (a : Int) (b : Int) (cmp : Value) (h : Hp)  (K : Value → Hp → Prop) : slices_reverseRangeCmpFunc_api_Point_b0 data dataL dataC a b cmp h  K = (
  InR (b - 1) ∧
  LoopVC ((a, b - 1, ()) : Int × Int × Unit) h (fun (nx0 : Int × Int × Unit → Hp → Prop) (s1 : Int × Int × Unit) h1 => slices_reverseRangeCmpFunc_api_Point_b1 s1.1 s1.2.1 data dataL dataC h1 nx0 K)) := by kernel_rfl
theorem slices_reverseRangeCmpFunc_api_Point_b1_eq (i : Int) (j : Int) (data : Option Addr) (dataL : Nat) (dataC : Nat) (h : Hp) (nx0 : Int × Int × Unit → Hp → Prop) (K : Value → Hp → Prop) : slices_reverseRangeCmpFunc_api_Point_b1 i j data dataL dataC h nx0 K = (
  cond (decide (i < j))
  ((0 ≤ j ∧ j < (dataL : Int)) ∧
  NN data fun a1 =>
  ∃ n1 : Int, ∃ n2 : Int, ∃ n3 : Int, cell h (a1.add (Int.toNat j * 3)) = some (.int .i64 n1) ∧
  cell h ((a1.add (Int.toNat j * 3)).add 1) = some (.int .i64 n2) ∧
  cell h ((a1.add (Int.toNat j * 3)).add 2) = some (.int .i64 n3) ∧
  (0 ≤ i ∧ i < (dataL : Int)) ∧
  NN data fun a2 =>
  ∃ n4 : Int, ∃ n5 : Int, ∃ n6 : Int, cell h (a2.add (Int.toNat i * 3)) = some (.int .i64 n4) ∧
  cell h ((a2.add (Int.toNat i * 3)).add 1) = some (.int .i64 n5) ∧
  cell h ((a2.add (Int.toNat i * 3)).add 2) = some (.int .i64 n6) ∧
  (0 ≤ i ∧ i < (dataL : Int)) ∧
  NN data fun a3 =>
  Wr h (a3.add (Int.toNat i * 3)) (.int .i64 n1) fun h2 =>
  Wr h2 ((a3.add (Int.toNat i * 3)).add 1) (.int .i64 n2) fun h3 =>
  Wr h3 ((a3.add (Int.toNat i * 3)).add 2) (.int .i64 n3) fun h4 =>
  (0 ≤ j ∧ j < (dataL : Int)) ∧
  NN data fun a4 =>
  Wr h4 (a4.add (Int.toNat j * 3)) (.int .i64 n4) fun h5 =>
  Wr h5 ((a4.add (Int.toNat j * 3)).add 1) (.int .i64 n5) fun h6 =>
  Wr h6 ((a4.add (Int.toNat j * 3)).add 2) (.int .i64 n6) fun h7 =>
  InR (i + 1) ∧
  InR (j - 1) ∧
  nx0 (i + 1, j - 1, ()) h7)
  (K (.tuple #[]) h)) := by kernel_rfl
theorem slices_reverseRangeCmpFunc_api_Point_call {data : Option Addr} {dataL : Nat} {dataC : Nat} {a : Int} {b : Int} {cmp : Value} {h : Hp} {K : Value → Hp → Prop} (hk : slices_reverseRangeCmpFunc_api_Point_b0 data dataL dataC a b cmp h K) : HCalls Try.prog 70 #[.slice data dataL dataC, .int .i64 a, .int .i64 b, cmp] h K :=
  calls_of_snd slices_reverseRangeCmpFunc_api_Point_an Try.func70 (c := bodyOf Try.f70) rfl Try.ntmps70 (Nat.le_of_ble_eq_true rfl) (snd_2 F_ok F_mixed) hk

/-! ### slices_partialInsertionSortCmpFunc_api_Point -/
def slices_partialInsertionSortCmpFunc_api_Point_an : Ann := .node none (.leaf) (.node none (.leaf) (.node (some []) (.node none (.leaf) (.loop [0, 1, 2, 3] [(9, .int .i64), (10, .int .i64)] (.node none (.leaf) (.node (some [0, 1, 2, 3, 9, 10]) (.node (some [0, 1, 2, 3, 9, 10]) (.loop [0, 1, 2, 3, 10] [(9, .int .i64)] (.node (some [0, 1, 2, 3, 9, 10]) (.node none (.tail 14) (.leaf)) (.leaf))) (.node none (.leaf) (.node none (.leaf) (.node none (.plan (.qu 0 (.qu 1 (.qu 2 (.qu 3 (.qu 4 (.qu 5 (.qu 6 (.qu 7 (.qu 8 (.qu 9 (.qu 10 (.qu 11 (.qu 12 (.qu 13 (.qu 14 (.wo 15 (.qu 16 (.wo 17 .fin .no)) .no))))))))))))))))) (.node (some [0, 1, 2, 3, 9, 10]) (.node none (.leaf) (.node none (.node none (.leaf) (.loop [0, 1, 2, 3, 9, 10] [(11, .int .i64)] (.node none (.leaf) (.node (some [0, 1, 2, 3, 9, 10, 11]) (.node none (.node none (.tail 10) (.leaf)) (.plan (.qu 0 (.qu 1 (.qu 2 (.qu 3 (.qu 4 (.qu 5 (.qu 6 (.qu 7 (.qu 8 (.qu 9 (.qu 10 (.qu 11 (.qu 12 (.qu 13 (.qu 14 (.wo 15 (.qu 16 (.wo 17 .fin .no)) .no)))))))))))))))))) (.leaf))))) (.leaf))) (.node none (.leaf) (.node none (.node none (.leaf) (.loop [0, 1, 2, 3, 9, 10] [(12, .int .i64)] (.node none (.leaf) (.node (some [0, 1, 2, 3, 9, 10, 12]) (.node none (.node none (.tail 10) (.leaf)) (.plan (.qu 0 (.qu 1 (.qu 2 (.qu 3 (.qu 4 (.qu 5 (.qu 6 (.qu 7 (.qu 8 (.qu 9 (.qu 10 (.qu 11 (.qu 12 (.qu 13 (.qu 14 (.wo 15 (.qu 16 (.wo 17 .fin .no)) .no)))))))))))))))))) (.leaf))))) (.leaf)))))))) (.leaf))))) (.leaf)))
def slices_partialInsertionSortCmpFunc_api_Point_K0  (K : Value → Hp → Prop) : Exit → Env → Hp → Prop := retK Try.prog Try.f71.results.toList K
def slices_partialInsertionSortCmpFunc_api_Point_K1  (K : Value → Hp → Prop) : Exit → Env → Hp → Prop := thenE (fun env h => sx_5 Try.prog F 141 (cp [1, 1, 1] (bodyOf Try.f71)) (ap [1, 1, 1] slices_partialInsertionSortCmpFunc_api_Point_an) (rs [] env) h (slices_partialInsertionSortCmpFunc_api_Point_K0  K)) (slices_partialInsertionSortCmpFunc_api_Point_K0  K)
def slices_partialInsertionSortCmpFunc_api_Point_K2  (K : Value → Hp → Prop) : Exit → Env → Hp → Prop := blockE 0 (slices_partialInsertionSortCmpFunc_api_Point_K1  K)
def slices_partialInsertionSortCmpFunc_api_Point_K3 (nx0 : Int × Int × Unit → Hp → Prop) (K : Value → Hp → Prop) : Exit → Env → Hp → Prop := thenE (fun env h => getV [(9, .int .i64), (10, .int .i64)] env fun s => nx0 s h) (slices_partialInsertionSortCmpFunc_api_Point_K2  K)
def slices_partialInsertionSortCmpFunc_api_Point_K4 (nx0 : Int × Int × Unit → Hp → Prop) (K : Value → Hp → Prop) : Exit → Env → Hp → Prop := thenE (fun env h => sx_4 Try.prog F 141 (cp [1, 1, 0, 1, 2, 2, 1, 1] (bodyOf Try.f71)) (ap [1, 1, 0, 1, 2, 1, 1] slices_partialInsertionSortCmpFunc_api_Point_an) (rs [0, 1, 2, 3, 9, 10] env) h (slices_partialInsertionSortCmpFunc_api_Point_K3 nx0 K)) (slices_partialInsertionSortCmpFunc_api_Point_K3 nx0 K)
def slices_partialInsertionSortCmpFunc_api_Point_K5 (nx0 : Int × Int × Unit → Hp → Prop) (K : Value → Hp → Prop) : Exit → Env → Hp → Prop := blockE 1 (slices_partialInsertionSortCmpFunc_api_Point_K4 nx0 K)
def slices_partialInsertionSortCmpFunc_api_Point_K6 (nx0 : Int × Int × Unit → Hp → Prop) (K : Value → Hp → Prop) : Exit → Env → Hp → Prop := thenE (fun env h => sx_4 Try.prog F 141 (cp [1, 1, 0, 1, 2, 2, 1, 0, 2, 1] (bodyOf Try.f71)) (ap [1, 1, 0, 1, 2, 1, 0, 1] slices_partialInsertionSortCmpFunc_api_Point_an) (rs [0, 1, 2, 3, 9, 10] env) h (slices_partialInsertionSortCmpFunc_api_Point_K5 nx0 K)) (slices_partialInsertionSortCmpFunc_api_Point_K5 nx0 K)
def slices_partialInsertionSortCmpFunc_api_Point_K7 (nx0 : Int × Int × Unit → Hp → Prop) (K : Value → Hp → Prop) : Exit → Env → Hp → Prop := blockE 2 (slices_partialInsertionSortCmpFunc_api_Point_K6 nx0 K)
def slices_partialInsertionSortCmpFunc_api_Point_K8 (nx0 : Int × Int × Unit → Hp → Prop) (nx1 : Int × Unit → Hp → Prop) (K : Value → Hp → Prop) : Exit → Env → Hp → Prop := thenE (fun env h => getV [(9, .int .i64)] env fun s => nx1 s h) (slices_partialInsertionSortCmpFunc_api_Point_K7 nx0 K)
def slices_partialInsertionSortCmpFunc_api_Point_K9 (nx0 : Int × Int × Unit → Hp → Prop) (K : Value → Hp → Prop) : Exit → Env → Hp → Prop := thenE (fun env h => sx_3 Try.prog F 141 (cp [1, 1, 0, 1, 2, 2, 1, 0, 2, 1, 1, 1, 1, 1] (bodyOf Try.f71)) (ap [1, 1, 0, 1, 2, 1, 0, 1, 1, 1, 1, 1] slices_partialInsertionSortCmpFunc_api_Point_an) (rs [0, 1, 2, 3, 9, 10] env) h (slices_partialInsertionSortCmpFunc_api_Point_K5 nx0 K)) (slices_partialInsertionSortCmpFunc_api_Point_K5 nx0 K)
def slices_partialInsertionSortCmpFunc_api_Point_K10 (nx0 : Int × Int × Unit → Hp → Prop) (K : Value → Hp → Prop) : Exit → Env → Hp → Prop := blockE 4 (slices_partialInsertionSortCmpFunc_api_Point_K9 nx0 K)
def slices_partialInsertionSortCmpFunc_api_Point_K11 (nx0 : Int × Int × Unit → Hp → Prop) (nx1 : Int × Unit → Hp → Prop) (K : Value → Hp → Prop) : Exit → Env → Hp → Prop := thenE (fun env h => getV [(11, .int .i64)] env fun s => nx1 s h) (slices_partialInsertionSortCmpFunc_api_Point_K10 nx0 K)
def slices_partialInsertionSortCmpFunc_api_Point_K12 (nx0 : Int × Int × Unit → Hp → Prop) (K : Value → Hp → Prop) : Exit → Env → Hp → Prop := blockE 6 (slices_partialInsertionSortCmpFunc_api_Point_K5 nx0 K)
def slices_partialInsertionSortCmpFunc_api_Point_K13 (nx0 : Int × Int × Unit → Hp → Prop) (nx1 : Int × Unit → Hp → Prop) (K : Value → Hp → Prop) : Exit → Env → Hp → Prop := thenE (fun env h => getV [(12, .int .i64)] env fun s => nx1 s h) (slices_partialInsertionSortCmpFunc_api_Point_K12 nx0 K)
def slices_partialInsertionSortCmpFunc_api_Point_b0 (data : Option Addr) (dataL : Nat) (dataC : Nat) (a : Int) (b : Int) (cmp : Value) (h : Hp)  (K : Value → Hp → Prop) : Prop :=
  sx_6 Try.prog F 141 (cp [] (bodyOf Try.f71)) (ap [] slices_partialInsertionSortCmpFunc_api_Point_an) [(0, .slice data dataL dataC), (1, .int .i64 a), (2, .int .i64 b), (3, cmp)] h (slices_partialInsertionSortCmpFunc_api_Point_K0  K)
def slices_partialInsertionSortCmpFunc_api_Point_b1 (i : Int) (j : Int) (data : Option Addr) (dataL : Nat) (dataC : Nat) (a : Int) (b : Int) (cmp : Value) (h : Hp) (nx0 : Int × Int × Unit → Hp → Prop) (K : Value → Hp → Prop) : Prop :=
  sx_5 Try.prog F 141 (cp [1, 1, 0, 1, 2, 2] (bodyOf Try.f71)) (ap [1, 1, 0, 1, 2] slices_partialInsertionSortCmpFunc_api_Point_an) [(9, .int .i64 i), (10, .int .i64 j), (0, .slice data dataL dataC), (1, .int .i64 a), (2, .int .i64 b), (3, cmp)] h (slices_partialInsertionSortCmpFunc_api_Point_K3 nx0 K)
def slices_partialInsertionSortCmpFunc_api_Point_b2 (i : Int) (data : Option Addr) (dataL : Nat) (dataC : Nat) (a : Int) (b : Int) (cmp : Value) (j : Int) (h : Hp) (nx0 : Int × Int × Unit → Hp → Prop) (nx1 : Int × Unit → Hp → Prop) (K : Value → Hp → Prop) : Prop :=
  sx_4 Try.prog F 141 (cp [1, 1, 0, 1, 2, 2, 1, 0, 2, 0, 2, 2] (bodyOf Try.f71)) (ap [1, 1, 0, 1, 2, 1, 0, 0, 2] slices_partialInsertionSortCmpFunc_api_Point_an) [(9, .int .i64 i), (0, .slice data dataL dataC), (1, .int .i64 a), (2, .int .i64 b), (3, cmp), (10, .int .i64 j)] h (slices_partialInsertionSortCmpFunc_api_Point_K8 nx0 nx1 K)
def slices_partialInsertionSortCmpFunc_api_Point_b3  (h : Hp)  (K : Value → Hp → Prop) : Prop :=
  sx_5 Try.prog F 141 (cp [1, 1, 1] (bodyOf Try.f71)) (ap [1, 1, 1] slices_partialInsertionSortCmpFunc_api_Point_an) [] h (slices_partialInsertionSortCmpFunc_api_Point_K0  K)
def slices_partialInsertionSortCmpFunc_api_Point_b4 (data : Option Addr) (dataL : Nat) (dataC : Nat) (a : Int) (b : Int) (cmp : Value) (i : Int) (j : Int) (h : Hp) (nx0 : Int × Int × Unit → Hp → Prop) (nx1 : Int × Unit → Hp → Prop) (K : Value → Hp → Prop) : Prop :=
  sx_3 Try.prog F 141 (cp [1, 1, 0, 1, 2, 2, 1, 0, 2, 0, 2, 2, 1] (bodyOf Try.f71)) (ap [1, 1, 0, 1, 2, 1, 0, 0, 2, 1] slices_partialInsertionSortCmpFunc_api_Point_an) [(0, .slice data dataL dataC), (1, .int .i64 a), (2, .int .i64 b), (3, cmp), (9, .int .i64 i), (10, .int .i64 j)] h (slices_partialInsertionSortCmpFunc_api_Point_K8 nx0 nx1 K)
def slices_partialInsertionSortCmpFunc_api_Point_b5 (data : Option Addr) (dataL : Nat) (dataC : Nat) (a : Int) (b : Int) (cmp : Value) (i : Int) (j : Int) (h : Hp) (nx0 : Int × Int × Unit → Hp → Prop) (K : Value → Hp → Prop) : Prop :=
  sx_4 Try.prog F 141 (cp [1, 1, 0, 1, 2, 2, 1, 0, 2, 1] (bodyOf Try.f71)) (ap [1, 1, 0, 1, 2, 1, 0, 1] slices_partialInsertionSortCmpFunc_api_Point_an) [(0, .slice data dataL dataC), (1, .int .i64 a), (2, .int .i64 b), (3, cmp), (9, .int .i64 i), (10, .int .i64 j)] h (slices_partialInsertionSortCmpFunc_api_Point_K5 nx0 K)
def slices_partialInsertionSortCmpFunc_api_Point_b6 (j : Int) (data : Option Addr) (dataL : Nat) (dataC : Nat) (a : Int) (b : Int) (cmp : Value) (i : Int) (j_10 : Int) (h : Hp) (nx0 : Int × Int × Unit → Hp → Prop) (nx1 : Int × Unit → Hp → Prop) (K : Value → Hp → Prop) : Prop :=
  sx_3 Try.prog F 141 (cp [1, 1, 0, 1, 2, 2, 1, 0, 2, 1, 1, 1, 1, 0, 1, 0, 1, 2, 2] (bodyOf Try.f71)) (ap [1, 1, 0, 1, 2, 1, 0, 1, 1, 1, 1, 0, 1, 0, 1, 2] slices_partialInsertionSortCmpFunc_api_Point_an) [(11, .int .i64 j), (0, .slice data dataL dataC), (1, .int .i64 a), (2, .int .i64 b), (3, cmp), (9, .int .i64 i), (10, .int .i64 j_10)] h (slices_partialInsertionSortCmpFunc_api_Point_K11 nx0 nx1 K)
def slices_partialInsertionSortCmpFunc_api_Point_b7 (data : Option Addr) (dataL : Nat) (dataC : Nat) (a : Int) (b : Int) (cmp : Value) (i : Int) (j : Int) (h : Hp) (nx0 : Int × Int × Unit → Hp → Prop) (K : Value → Hp → Prop) : Prop :=
  sx_3 Try.prog F 141 (cp [1, 1, 0, 1, 2, 2, 1, 0, 2, 1, 1, 1, 1, 1] (bodyOf Try.f71)) (ap [1, 1, 0, 1, 2, 1, 0, 1, 1, 1, 1, 1] slices_partialInsertionSortCmpFunc_api_Point_an) [(0, .slice data dataL dataC), (1, .int .i64 a), (2, .int .i64 b), (3, cmp), (9, .int .i64 i), (10, .int .i64 j)] h (slices_partialInsertionSortCmpFunc_api_Point_K5 nx0 K)
def slices_partialInsertionSortCmpFunc_api_Point_b8 (data : Option Addr) (dataL : Nat) (dataC : Nat) (a : Int) (b : Int) (cmp : Value) (i : Int) (j : Int) (j_11 : Int) (h : Hp) (nx0 : Int × Int × Unit → Hp → Prop) (nx1 : Int × Unit → Hp → Prop) (K : Value → Hp → Prop) : Prop :=
  sx_2 Try.prog F 141 (cp [1, 1, 0, 1, 2, 2, 1, 0, 2, 1, 1, 1, 1, 0, 1, 0, 1, 2, 2, 1, 1] (bodyOf Try.f71)) (ap [1, 1, 0, 1, 2, 1, 0, 1, 1, 1, 1, 0, 1, 0, 1, 2, 1, 1] slices_partialInsertionSortCmpFunc_api_Point_an) [(0, .slice data dataL dataC), (1, .int .i64 a), (2, .int .i64 b), (3, cmp), (9, .int .i64 i), (10, .int .i64 j), (11, .int .i64 j_11)] h (slices_partialInsertionSortCmpFunc_api_Point_K11 nx0 nx1 K)
def slices_partialInsertionSortCmpFunc_api_Point_b9 (j : Int) (data : Option Addr) (dataL : Nat) (dataC : Nat) (a : Int) (b : Int) (cmp : Value) (i : Int) (j_10 : Int) (h : Hp) (nx0 : Int × Int × Unit → Hp → Prop) (nx1 : Int × Unit → Hp → Prop) (K : Value → Hp → Prop) : Prop :=
  sx_2 Try.prog F 141 (cp [1, 1, 0, 1, 2, 2, 1, 0, 2, 1, 1, 1, 1, 1, 1, 0, 1, 2, 2] (bodyOf Try.f71)) (ap [1, 1, 0, 1, 2, 1, 0, 1, 1, 1, 1, 1, 1, 0, 1, 2] slices_partialInsertionSortCmpFunc_api_Point_an) [(12, .int .i64 j), (0, .slice data dataL dataC), (1, .int .i64 a), (2, .int .i64 b), (3, cmp), (9, .int .i64 i), (10, .int .i64 j_10)] h (slices_partialInsertionSortCmpFunc_api_Point_K13 nx0 nx1 K)
def slices_partialInsertionSortCmpFunc_api_Point_b10 (data : Option Addr) (dataL : Nat) (dataC : Nat) (a : Int) (b : Int) (cmp : Value) (i : Int) (j : Int) (h : Hp) (nx0 : Int × Int × Unit → Hp → Prop) (K : Value → Hp → Prop) : Prop :=
  sx_4 Try.prog F 141 (cp [1, 1, 0, 1, 2, 2, 1, 1] (bodyOf Try.f71)) (ap [1, 1, 0, 1, 2, 1, 1] slices_partialInsertionSortCmpFunc_api_Point_an) [(0, .slice data dataL dataC), (1, .int .i64 a), (2, .int .i64 b), (3, cmp), (9, .int .i64 i), (10, .int .i64 j)] h (slices_partialInsertionSortCmpFunc_api_Point_K3 nx0 K)
def slices_partialInsertionSortCmpFunc_api_Point_b11 (data : Option Addr) (dataL : Nat) (dataC : Nat) (a : Int) (b : Int) (cmp : Value) (i : Int) (j : Int) (j_12 : Int) (h : Hp) (nx0 : Int × Int × Unit → Hp → Prop) (nx1 : Int × Unit → Hp → Prop) (K : Value → Hp → Prop) : Prop :=
  sx_1 Try.prog F 141 (cp [1, 1, 0, 1, 2, 2, 1, 0, 2, 1, 1, 1, 1, 1, 1, 0, 1, 2, 2, 1, 1] (bodyOf Try.f71)) (ap [1, 1, 0, 1, 2, 1, 0, 1, 1, 1, 1, 1, 1, 0, 1, 2, 1, 1] slices_partialInsertionSortCmpFunc_api_Point_an) [(0, .slice data dataL dataC), (1, .int .i64 a), (2, .int .i64 b), (3, cmp), (9, .int .i64 i), (10, .int .i64 j), (12, .int .i64 j_12)] h (slices_partialInsertionSortCmpFunc_api_Point_K13 nx0 nx1 K)
theorem slices_partialInsertionSortCmpFunc_api_Point_b0_eq (data : Option Addr) (dataL : Nat) (dataC : Nat) (a : Int) (b : Int) (cmp : Value) (h : Hp)  (K : Value → Hp → Prop) : slices_partialInsertionSortCmpFunc_api_Point_b0 data dataL dataC a b cmp h  K = (
  InR (a + 1) ∧
  LoopVC ((a + 1, 0, ()) : Int × Int × Unit) h (fun (nx0 : Int × Int × Unit → Hp → Prop) (s1 : Int × Int × Unit) h1 => slices_partialInsertionSortCmpFunc_api_Point_b1 s1.1 s1.2.1 data dataL dataC a b cmp h1 nx0 K)) := by kernel_rfl
theorem slices_partialInsertionSortCmpFunc_api_Point_b1_eq (i : Int) (j : Int) (data : Option Addr) (dataL : Nat) (dataC : Nat) (a : Int) (b : Int) (cmp : Value) (h : Hp) (nx0 : Int × Int × Unit → Hp → Prop) (K : Value → Hp → Prop) : slices_partialInsertionSortCmpFunc_api_Point_b1 i j data dataL dataC a b cmp h nx0 K = (
  cond (decide (j < 5))
  (LoopVC ((i, ()) : Int × Unit) h (fun (nx1 : Int × Unit → Hp → Prop) (s2 : Int × Unit) h2 => slices_partialInsertionSortCmpFunc_api_Point_b2 s2.1 data dataL dataC a b cmp j h2 nx0 nx1 K))
  (slices_partialInsertionSortCmpFunc_api_Point_b3  h  K)) := by kernel_rfl
theorem slices_partialInsertionSortCmpFunc_api_Point_b2_eq (i : Int) (data : Option Addr) (dataL : Nat) (dataC : Nat) (a : Int) (b : Int) (cmp : Value) (j : Int) (h : Hp) (nx0 : Int × Int × Unit → Hp → Prop) (nx1 : Int × Unit → Hp → Prop) (K : Value → Hp → Prop) : slices_partialInsertionSortCmpFunc_api_Point_b2 i data dataL dataC a b cmp j h nx0 nx1 K = (
  cond (decide (i < b))
  ((0 ≤ i ∧ i < (dataL : Int)) ∧
  NN data fun a1 =>
  ∃ n1 : Int, ∃ n2 : Int, ∃ n3 : Int, cell h (a1.add (Int.toNat i * 3)) = some (.int .i64 n1) ∧
  cell h ((a1.add (Int.toNat i * 3)).add 1) = some (.int .i64 n2) ∧
  cell h ((a1.add (Int.toNat i * 3)).add 2) = some (.int .i64 n3) ∧
  InR (i - 1) ∧
  (0 ≤ i - 1 ∧ i - 1 < (dataL : Int)) ∧
  NN data fun a2 =>
  ∃ n4 : Int, ∃ n5 : Int, ∃ n6 : Int, cell h (a2.add (Int.toNat (i - 1) * 3)) = some (.int .i64 n4) ∧
  cell h ((a2.add (Int.toNat (i - 1) * 3)).add 1) = some (.int .i64 n5) ∧
  cell h ((a2.add (Int.toNat (i - 1) * 3)).add 2) = some (.int .i64 n6) ∧
  funV cmp fun fg1 fa1 fc1 => callX Try.prog F fg1 (fa1 ++ (([.agg #[.int .i64 n1, .int .i64 n2, .int .i64 n3], .agg #[.int .i64 n4, .int .i64 n5, .int .i64 n6]] : List Value) ++ fc1)).toArray h fun v1 h3 => ∃ r1 : Int, v1 = .int .i64 r1 ∧
  cond (!(decide (r1 < 0)))
  (slices_partialInsertionSortCmpFunc_api_Point_b4 data dataL dataC a b cmp i j h3 nx0 nx1 K)
  (slices_partialInsertionSortCmpFunc_api_Point_b5 data dataL dataC a b cmp i j h3 nx0 K))
  (slices_partialInsertionSortCmpFunc_api_Point_b5 data dataL dataC a b cmp i j h nx0 K)) := by kernel_rfl
theorem slices_partialInsertionSortCmpFunc_api_Point_b3_eq  (h : Hp)  (K : Value → Hp → Prop) : slices_partialInsertionSortCmpFunc_api_Point_b3  h  K = (
  K (.bool false) h) := by kernel_rfl
theorem slices_partialInsertionSortCmpFunc_api_Point_b4_eq (data : Option Addr) (dataL : Nat) (dataC : Nat) (a : Int) (b : Int) (cmp : Value) (i : Int) (j : Int) (h : Hp) (nx0 : Int × Int × Unit → Hp → Prop) (nx1 : Int × Unit → Hp → Prop) (K : Value → Hp → Prop) : slices_partialInsertionSortCmpFunc_api_Point_b4 data dataL dataC a b cmp i j h nx0 nx1 K = (
  InR (i + 1) ∧
  nx1 (i + 1, ()) h) := by kernel_rfl
theorem slices_partialInsertionSortCmpFunc_api_Point_b5_eq (data : Option Addr) (dataL : Nat) (dataC : Nat) (a : Int) (b : Int) (cmp : Value) (i : Int) (j : Int) (h : Hp) (nx0 : Int × Int × Unit → Hp → Prop) (K : Value → Hp → Prop) : slices_partialInsertionSortCmpFunc_api_Point_b5 data dataL dataC a b cmp i j h nx0 K = (
  cond (decide (i = b))
  (K (.bool true) h)
  (InR (b - a) ∧
  cond (decide ((b - a) < 50))
  (K (.bool false) h)
  (InR (i - 1) ∧
  InR (i - 1) ∧
  (0 ≤ i - 1 ∧ i - 1 < (dataL : Int)) ∧
  NN data fun a3 =>
  ∃ n7 : Int, ∃ n8 : Int, ∃ n9 : Int, cell h (a3.add (Int.toNat (i - 1) * 3)) = some (.int .i64 n7) ∧
  cell h ((a3.add (Int.toNat (i - 1) * 3)).add 1) = some (.int .i64 n8) ∧
  cell h ((a3.add (Int.toNat (i - 1) * 3)).add 2) = some (.int .i64 n9) ∧
  (0 ≤ i ∧ i < (dataL : Int)) ∧
  NN data fun a4 =>
  ∃ n10 : Int, ∃ n11 : Int, ∃ n12 : Int, cell h (a4.add (Int.toNat i * 3)) = some (.int .i64 n10) ∧
  cell h ((a4.add (Int.toNat i * 3)).add 1) = some (.int .i64 n11) ∧
  cell h ((a4.add (Int.toNat i * 3)).add 2) = some (.int .i64 n12) ∧
  (0 ≤ i ∧ i < (dataL : Int)) ∧
  NN data fun a5 =>
  Wr h (a5.add (Int.toNat i * 3)) (.int .i64 n7) fun h4 =>
  Wr h4 ((a5.add (Int.toNat i * 3)).add 1) (.int .i64 n8) fun h5 =>
  Wr h5 ((a5.add (Int.toNat i * 3)).add 2) (.int .i64 n9) fun h6 =>
  (0 ≤ i - 1 ∧ i - 1 < (dataL : Int)) ∧
  NN data fun a6 =>
  Wr h6 (a6.add (Int.toNat (i - 1) * 3)) (.int .i64 n10) fun h7 =>
  Wr h7 ((a6.add (Int.toNat (i - 1) * 3)).add 1) (.int .i64 n11) fun h8 =>
  Wr h8 ((a6.add (Int.toNat (i - 1) * 3)).add 2) (.int .i64 n12) fun h9 =>
  InR (i - a) ∧
  cond (decide ((2 : Int) ≤ (i - a)))
  (InR (i - 1) ∧
  LoopVC ((i - 1, ()) : Int × Unit) h9 (fun (nx1 : Int × Unit → Hp → Prop) (s3 : Int × Unit) h10 => slices_partialInsertionSortCmpFunc_api_Point_b6 s3.1 data dataL dataC a b cmp i j h10 nx0 nx1 K))
  (slices_partialInsertionSortCmpFunc_api_Point_b7 data dataL dataC a b cmp i j h9 nx0 K)))) := by kernel_rfl
theorem slices_partialInsertionSortCmpFunc_api_Point_b6_eq (j : Int) (data : Option Addr) (dataL : Nat) (dataC : Nat) (a : Int) (b : Int) (cmp : Value) (i : Int) (j_10 : Int) (h : Hp) (nx0 : Int × Int × Unit → Hp → Prop) (nx1 : Int × Unit → Hp → Prop) (K : Value → Hp → Prop) : slices_partialInsertionSortCmpFunc_api_Point_b6 j data dataL dataC a b cmp i j_10 h nx0 nx1 K = (
  cond (decide ((1 : Int) ≤ j))
  ((0 ≤ j ∧ j < (dataL : Int)) ∧
  NN data fun a7 =>
  ∃ n13 : Int, ∃ n14 : Int, ∃ n15 : Int, cell h (a7.add (Int.toNat j * 3)) = some (.int .i64 n13) ∧
  cell h ((a7.add (Int.toNat j * 3)).add 1) = some (.int .i64 n14) ∧
  cell h ((a7.add (Int.toNat j * 3)).add 2) = some (.int .i64 n15) ∧
  InR (j - 1) ∧
  (0 ≤ j - 1 ∧ j - 1 < (dataL : Int)) ∧
  NN data fun a8 =>
  ∃ n16 : Int, ∃ n17 : Int, ∃ n18 : Int, cell h (a8.add (Int.toNat (j - 1) * 3)) = some (.int .i64 n16) ∧
  cell h ((a8.add (Int.toNat (j - 1) * 3)).add 1) = some (.int .i64 n17) ∧
  cell h ((a8.add (Int.toNat (j - 1) * 3)).add 2) = some (.int .i64 n18) ∧
  funV cmp fun fg2 fa2 fc2 => callX Try.prog F fg2 (fa2 ++ (([.agg #[.int .i64 n13, .int .i64 n14, .int .i64 n15], .agg #[.int .i64 n16, .int .i64 n17, .int .i64 n18]] : List Value) ++ fc2)).toArray h fun v2 h11 => ∃ r2 : Int, v2 = .int .i64 r2 ∧
  cond (!(decide (r2 < 0)))
  (slices_partialInsertionSortCmpFunc_api_Point_b7 data dataL dataC a b cmp i j_10 h11 nx0 K)
  (InR (j - 1) ∧
  InR (j - 1) ∧
  (0 ≤ j - 1 ∧ j - 1 < (dataL : Int)) ∧
  NN data fun a9 =>
  ∃ n19 : Int, ∃ n20 : Int, ∃ n21 : Int, cell h11 (a9.add (Int.toNat (j - 1) * 3)) = some (.int .i64 n19) ∧
  cell h11 ((a9.add (Int.toNat (j - 1) * 3)).add 1) = some (.int .i64 n20) ∧
  cell h11 ((a9.add (Int.toNat (j - 1) * 3)).add 2) = some (.int .i64 n21) ∧
  (0 ≤ j ∧ j < (dataL : Int)) ∧
  NN data fun a10 =>
  ∃ n22 : Int, ∃ n23 : Int, ∃ n24 : Int, cell h11 (a10.add (Int.toNat j * 3)) = some (.int .i64 n22) ∧
  cell h11 ((a10.add (Int.toNat j * 3)).add 1) = some (.int .i64 n23) ∧
  cell h11 ((a10.add (Int.toNat j * 3)).add 2) = some (.int .i64 n24) ∧
  (0 ≤ j ∧ j < (dataL : Int)) ∧
  NN data fun a11 =>
  Wr h11 (a11.add (Int.toNat j * 3)) (.int .i64 n19) fun h12 =>
  Wr h12 ((a11.add (Int.toNat j * 3)).add 1) (.int .i64 n20) fun h13 =>
  Wr h13 ((a11.add (Int.toNat j * 3)).add 2) (.int .i64 n21) fun h14 =>
  (0 ≤ j - 1 ∧ j - 1 < (dataL : Int)) ∧
  NN data fun a12 =>
  Wr h14 (a12.add (Int.toNat (j - 1) * 3)) (.int .i64 n22) fun h15 =>
  Wr h15 ((a12.add (Int.toNat (j - 1) * 3)).add 1) (.int .i64 n23) fun h16 =>
  Wr h16 ((a12.add (Int.toNat (j - 1) * 3)).add 2) (.int .i64 n24) fun h17 =>
  slices_partialInsertionSortCmpFunc_api_Point_b8 data dataL dataC a b cmp i j_10 j h17 nx0 nx1 K))
  (slices_partialInsertionSortCmpFunc_api_Point_b7 data dataL dataC a b cmp i j_10 h nx0 K)) := by kernel_rfl
theorem slices_partialInsertionSortCmpFunc_api_Point_b7_eq (data : Option Addr) (dataL : Nat) (dataC : Nat) (a : Int) (b : Int) (cmp : Value) (i : Int) (j : Int) (h : Hp) (nx0 : Int × Int × Unit → Hp → Prop) (K : Value → Hp → Prop) : slices_partialInsertionSortCmpFunc_api_Point_b7 data dataL dataC a b cmp i j h nx0 K = (
  InR (b - i) ∧
  cond (decide ((2 : Int) ≤ (b - i)))
  (InR (i + 1) ∧
  LoopVC ((i + 1, ()) : Int × Unit) h (fun (nx1 : Int × Unit → Hp → Prop) (s4 : Int × Unit) h18 => slices_partialInsertionSortCmpFunc_api_Point_b9 s4.1 data dataL dataC a b cmp i j h18 nx0 nx1 K))
  (slices_partialInsertionSortCmpFunc_api_Point_b10 data dataL dataC a b cmp i j h nx0 K)) := by kernel_rfl
theorem slices_partialInsertionSortCmpFunc_api_Point_b8_eq (data : Option Addr) (dataL : Nat) (dataC : Nat) (a : Int) (b : Int) (cmp : Value) (i : Int) (j : Int) (j_11 : Int) (h : Hp) (nx0 : Int × Int × Unit → Hp → Prop) (nx1 : Int × Unit → Hp → Prop) (K : Value → Hp → Prop) : slices_partialInsertionSortCmpFunc_api_Point_b8 data dataL dataC a b cmp i j j_11 h nx0 nx1 K = (
  InR (j_11 - 1) ∧
  nx1 (j_11 - 1, ()) h) := by kernel_rfl
theorem slices_partialInsertionSortCmpFunc_api_Point_b9_eq (j : Int) (data : Option Addr) (dataL : Nat) (dataC : Nat) (a : Int) (b : Int) (cmp : Value) (i : Int) (j_10 : Int) (h : Hp) (nx0 : Int × Int × Unit → Hp → Prop) (nx1 : Int × Unit → Hp → Prop) (K : Value → Hp → Prop) : slices_partialInsertionSortCmpFunc_api_Point_b9 j data dataL dataC a b cmp i j_10 h nx0 nx1 K = (
  cond (decide (j < b))
  ((0 ≤ j ∧ j < (dataL : Int)) ∧
  NN data fun a13 =>
  ∃ n25 : Int, ∃ n26 : Int, ∃ n27 : Int, cell h (a13.add (Int.toNat j * 3)) = some (.int .i64 n25) ∧
  cell h ((a13.add (Int.toNat j * 3)).add 1) = some (.int .i64 n26) ∧
  cell h ((a13.add (Int.toNat j * 3)).add 2) = some (.int .i64 n27) ∧
  InR (j - 1) ∧
  (0 ≤ j - 1 ∧ j - 1 < (dataL : Int)) ∧
  NN data fun a14 =>
  ∃ n28 : Int, ∃ n29 : Int, ∃ n30 : Int, cell h (a14.add (Int.toNat (j - 1) * 3)) = some (.int .i64 n28) ∧
  cell h ((a14.add (Int.toNat (j - 1) * 3)).add 1) = some (.int .i64 n29) ∧
  cell h ((a14.add (Int.toNat (j - 1) * 3)).add 2) = some (.int .i64 n30) ∧
  funV cmp fun fg3 fa3 fc3 => callX Try.prog F fg3 (fa3 ++ (([.agg #[.int .i64 n25, .int .i64 n26, .int .i64 n27], .agg #[.int .i64 n28, .int .i64 n29, .int .i64 n30]] : List Value) ++ fc3)).toArray h fun v3 h19 => ∃ r3 : Int, v3 = .int .i64 r3 ∧
  cond (!(decide (r3 < 0)))
  (slices_partialInsertionSortCmpFunc_api_Point_b10 data dataL dataC a b cmp i j_10 h19 nx0 K)
  (InR (j - 1) ∧
  InR (j - 1) ∧
  (0 ≤ j - 1 ∧ j - 1 < (dataL : Int)) ∧
  NN data fun a15 =>
  ∃ n31 : Int, ∃ n32 : Int, ∃ n33 : Int, cell h19 (a15.add (Int.toNat (j - 1) * 3)) = some (.int .i64 n31) ∧
  cell h19 ((a15.add (Int.toNat (j - 1) * 3)).add 1) = some (.int .i64 n32) ∧
  cell h19 ((a15.add (Int.toNat (j - 1) * 3)).add 2) = some (.int .i64 n33) ∧
  (0 ≤ j ∧ j < (dataL : Int)) ∧
  NN data fun a16 =>
  ∃ n34 : Int, ∃ n35 : Int, ∃ n36 : Int, cell h19 (a16.add (Int.toNat j * 3)) = some (.int .i64 n34) ∧
  cell h19 ((a16.add (Int.toNat j * 3)).add 1) = some (.int .i64 n35) ∧
  cell h19 ((a16.add (Int.toNat j * 3)).add 2) = some (.int .i64 n36) ∧
  (0 ≤ j ∧ j < (dataL : Int)) ∧
  NN data fun a17 =>
  Wr h19 (a17.add (Int.toNat j * 3)) (.int .i64 n31) fun h20 =>
  Wr h20 ((a17.add (Int.toNat j * 3)).add 1) (.int .i64 n32) fun h21 =>
  Wr h21 ((a17.add (Int.toNat j * 3)).add 2) (.int .i64 n33) fun h22 =>
  (0 ≤ j - 1 ∧ j - 1 < (dataL : Int)) ∧
  NN data fun a18 =>
  Wr h22 (a18.add (Int.toNat (j - 1) * 3)) (.int .i64 n34) fun h23 =>
  Wr h23 ((a18.add (Int.toNat (j - 1) * 3)).add 1) (.int .i64 n35) fun h24 =>
  Wr h24 ((a18.add (Int.toNat (j - 1) * 3)).add 2) (.int .i64 n36) fun h25 =>
  slices_partialInsertionSortCmpFunc_api_Point_b11 data dataL dataC a b cmp i j_10 j h25 nx0 nx1 K))
  (slices_partialInsertionSortCmpFunc_api_Point_b10 data dataL dataC a b cmp i j_10 h nx0 K)) := by kernel_rfl
theorem slices_partialInsertionSortCmpFunc_api_Point_b10_eq (data : Option Addr) (dataL : Nat) (dataC : Nat) (a : Int) (b : Int) (cmp : Value) (i : Int) (j : Int) (h : Hp) (nx0 : Int × Int × Unit → Hp → Prop) (K : Value → Hp → Prop) : slices_partialInsertionSortCmpFunc_api_Point_b10 data dataL dataC a b cmp i j h nx0 K = (
  InR (j + 1) ∧
  nx0 (i, j + 1, ()) h) := by kernel_rfl
theorem slices_partialInsertionSortCmpFunc_api_Point_b11_eq (data : Option Addr) (dataL : Nat) (dataC : Nat) (a : Int) (b : Int) (cmp : Value) (i : Int) (j : Int) (j_12 : Int) (h : Hp) (nx0 : Int × Int × Unit → Hp → Prop) (nx1 : Int × Unit → Hp → Prop) (K : Value → Hp → Prop) : slices_partialInsertionSortCmpFunc_api_Point_b11 data dataL dataC a b cmp i j j_12 h nx0 nx1 K = (
  InR (j_12 + 1) ∧
  nx1 (j_12 + 1, ()) h) := by kernel_rfl
theorem slices_partialInsertionSortCmpFunc_api_Point_call {data : Option Addr} {dataL : Nat} {dataC : Nat} {a : Int} {b : Int} {cmp : Value} {h : Hp} {K : Value → Hp → Prop} (hk : slices_partialInsertionSortCmpFunc_api_Point_b0 data dataL dataC a b cmp h K) : HCalls Try.prog 71 #[.slice data dataL dataC, .int .i64 a, .int .i64 b, cmp] h K :=
  calls_of_snd slices_partialInsertionSortCmpFunc_api_Point_an Try.func71 (c := bodyOf Try.f71) rfl Try.ntmps71 (Nat.le_of_ble_eq_true rfl) (snd_6 F_ok F_mixed) hk

/-! ### slices_partitionEqualCmpFunc_api_Point -/
def slices_partitionEqualCmpFunc_api_Point_an : Ann := .node none (.leaf) (.node none (.plan (.qu 0 (.qu 1 (.qu 2 (.qu 3 (.qu 4 (.qu 5 (.qu 6 (.qu 7 (.qu 8 (.qu 9 (.qu 10 (.qu 11 (.qu 12 (.wo 13 (.qu 14 (.wo 15 .fin .no)) .no))))))))))))))) (.node none (.leaf) (.node (some [11]) (.loop [0, 1, 4] [(11, .int .i64), (12, .int .i64)] (.node (some [0, 1, 4, 11, 12]) (.loop [0, 1, 4, 12] [(11, .int .i64)] (.node (some [0, 1, 4, 11, 12]) (.node none (.tail 13) (.leaf)) (.leaf))) (.node (some [0, 1, 4, 11, 12]) (.loop [0, 1, 4, 11] [(12, .int .i64)] (.node (some [0, 1, 4, 11, 12]) (.node none (.tail 13) (.leaf)) (.leaf))) (.node none (.leaf) (.node none (.plan (.qu 0 (.qu 1 (.qu 2 (.qu 3 (.qu 4 (.qu 5 (.qu 6 (.qu 7 (.qu 8 (.qu 9 (.qu 10 (.qu 11 (.qu 12 (.wo 13 (.qu 14 (.wo 15 .fin .no)) .no))))))))))))))) (.leaf)))))) (.leaf))))
def slices_partitionEqualCmpFunc_api_Point_K0  (K : Value → Hp → Prop) : Exit → Env → Hp → Prop := retK Try.prog Try.f72.results.toList K
def slices_partitionEqualCmpFunc_api_Point_K1  (K : Value → Hp → Prop) : Exit → Env → Hp → Prop := thenE (fun env h => sx_4 Try.prog F 90 (cp [1, 1, 1, 1] (bodyOf Try.f72)) (ap [1, 1, 1, 1] slices_partitionEqualCmpFunc_api_Point_an) (rs [11] env) h (slices_partitionEqualCmpFunc_api_Point_K0  K)) (slices_partitionEqualCmpFunc_api_Point_K0  K)
def slices_partitionEqualCmpFunc_api_Point_K2  (K : Value → Hp → Prop) : Exit → Env → Hp → Prop := blockE 0 (slices_partitionEqualCmpFunc_api_Point_K1  K)
def slices_partitionEqualCmpFunc_api_Point_K3 (nx0 : Int × Int × Unit → Hp → Prop) (K : Value → Hp → Prop) : Exit → Env → Hp → Prop := thenE (fun env h => getV [(11, .int .i64), (12, .int .i64)] env fun s => nx0 s h) (slices_partitionEqualCmpFunc_api_Point_K2  K)
def slices_partitionEqualCmpFunc_api_Point_K4 (nx0 : Int × Int × Unit → Hp → Prop) (K : Value → Hp → Prop) : Exit → Env → Hp → Prop := blockE 1 (slices_partitionEqualCmpFunc_api_Point_K3 nx0 K)
def slices_partitionEqualCmpFunc_api_Point_K5 (nx0 : Int × Int × Unit → Hp → Prop) (K : Value → Hp → Prop) : Exit → Env → Hp → Prop := thenE (fun env h => sx_3 Try.prog F 90 (cp [1, 1, 1, 0, 2, 2, 2, 1] (bodyOf Try.f72)) (ap [1, 1, 1, 0, 2, 1] slices_partitionEqualCmpFunc_api_Point_an) (rs [0, 1, 4, 11, 12] env) h (slices_partitionEqualCmpFunc_api_Point_K4 nx0 K)) (slices_partitionEqualCmpFunc_api_Point_K4 nx0 K)
def slices_partitionEqualCmpFunc_api_Point_K6 (nx0 : Int × Int × Unit → Hp → Prop) (K : Value → Hp → Prop) : Exit → Env → Hp → Prop := blockE 2 (slices_partitionEqualCmpFunc_api_Point_K5 nx0 K)
def slices_partitionEqualCmpFunc_api_Point_K7 (nx0 : Int × Int × Unit → Hp → Prop) (nx1 : Int × Unit → Hp → Prop) (K : Value → Hp → Prop) : Exit → Env → Hp → Prop := thenE (fun env h => getV [(11, .int .i64)] env fun s => nx1 s h) (slices_partitionEqualCmpFunc_api_Point_K6 nx0 K)
def slices_partitionEqualCmpFunc_api_Point_K8 (nx0 : Int × Int × Unit → Hp → Prop) (K : Value → Hp → Prop) : Exit → Env → Hp → Prop := thenE (fun env h => sx_2 Try.prog F 90 (cp [1, 1, 1, 0, 2, 2, 2, 1, 1] (bodyOf Try.f72)) (ap [1, 1, 1, 0, 2, 1, 1] slices_partitionEqualCmpFunc_api_Point_an) (rs [0, 1, 4, 11, 12] env) h (slices_partitionEqualCmpFunc_api_Point_K4 nx0 K)) (slices_partitionEqualCmpFunc_api_Point_K4 nx0 K)
def slices_partitionEqualCmpFunc_api_Point_K9 (nx0 : Int × Int × Unit → Hp → Prop) (K : Value → Hp → Prop) : Exit → Env → Hp → Prop := blockE 4 (slices_partitionEqualCmpFunc_api_Point_K8 nx0 K)
def slices_partitionEqualCmpFunc_api_Point_K10 (nx0 : Int × Int × Unit → Hp → Prop) (nx1 : Int × Unit → Hp → Prop) (K : Value → Hp → Prop) : Exit → Env → Hp → Prop := thenE (fun env h => getV [(12, .int .i64)] env fun s => nx1 s h) (slices_partitionEqualCmpFunc_api_Point_K9 nx0 K)
def slices_partitionEqualCmpFunc_api_Point_b0 (data : Option Addr) (dataL : Nat) (dataC : Nat) (a : Int) (b : Int) (pivot : Int) (cmp : Value) (h : Hp)  (K : Value → Hp → Prop) : Prop :=
  sx_5 Try.prog F 90 (cp [] (bodyOf Try.f72)) (ap [] slices_partitionEqualCmpFunc_api_Point_an) [(0, .slice data dataL dataC), (1, .int .i64 a), (2, .int .i64 b), (3, .int .i64 pivot), (4, cmp)] h (slices_partitionEqualCmpFunc_api_Point_K0  K)
def slices_partitionEqualCmpFunc_api_Point_b1 (i : Int) (j : Int) (data : Option Addr) (dataL : Nat) (dataC : Nat) (a : Int) (cmp : Value) (h : Hp) (nx0 : Int × Int × Unit → Hp → Prop) (K : Value → Hp → Prop) : Prop :=
  sx_4 Try.prog F 90 (cp [1, 1, 1, 0, 2, 2] (bodyOf Try.f72)) (ap [1, 1, 1, 0, 2] slices_partitionEqualCmpFunc_api_Point_an) [(11, .int .i64 i), (12, .int .i64 j), (0, .slice data dataL dataC), (1, .int .i64 a), (4, cmp)] h (slices_partitionEqualCmpFunc_api_Point_K3 nx0 K)
def slices_partitionEqualCmpFunc_api_Point_b2 (i : Int) (data : Option Addr) (dataL : Nat) (dataC : Nat) (a : Int) (cmp : Value) (j : Int) (h : Hp) (nx0 : Int × Int × Unit → Hp → Prop) (nx1 : Int × Unit → Hp → Prop) (K : Value → Hp → Prop) : Prop :=
  sx_3 Try.prog F 90 (cp [1, 1, 1, 0, 2, 2, 2, 0, 2, 2] (bodyOf Try.f72)) (ap [1, 1, 1, 0, 2, 0, 2] slices_partitionEqualCmpFunc_api_Point_an) [(11, .int .i64 i), (0, .slice data dataL dataC), (1, .int .i64 a), (4, cmp), (12, .int .i64 j)] h (slices_partitionEqualCmpFunc_api_Point_K7 nx0 nx1 K)
def slices_partitionEqualCmpFunc_api_Point_b3 (data : Option Addr) (dataL : Nat) (dataC : Nat) (a : Int) (cmp : Value) (i : Int) (j : Int) (h : Hp) (nx0 : Int × Int × Unit → Hp → Prop) (nx1 : Int × Unit → Hp → Prop) (K : Value → Hp → Prop) : Prop :=
  sx_2 Try.prog F 90 (cp [1, 1, 1, 0, 2, 2, 2, 0, 2, 2, 1] (bodyOf Try.f72)) (ap [1, 1, 1, 0, 2, 0, 2, 1] slices_partitionEqualCmpFunc_api_Point_an) [(0, .slice data dataL dataC), (1, .int .i64 a), (4, cmp), (11, .int .i64 i), (12, .int .i64 j)] h (slices_partitionEqualCmpFunc_api_Point_K7 nx0 nx1 K)
def slices_partitionEqualCmpFunc_api_Point_b4 (data : Option Addr) (dataL : Nat) (dataC : Nat) (a : Int) (cmp : Value) (i : Int) (j : Int) (h : Hp) (nx0 : Int × Int × Unit → Hp → Prop) (K : Value → Hp → Prop) : Prop :=
  sx_3 Try.prog F 90 (cp [1, 1, 1, 0, 2, 2, 2, 1] (bodyOf Try.f72)) (ap [1, 1, 1, 0, 2, 1] slices_partitionEqualCmpFunc_api_Point_an) [(0, .slice data dataL dataC), (1, .int .i64 a), (4, cmp), (11, .int .i64 i), (12, .int .i64 j)] h (slices_partitionEqualCmpFunc_api_Point_K4 nx0 K)
def slices_partitionEqualCmpFunc_api_Point_b5 (j : Int) (data : Option Addr) (dataL : Nat) (dataC : Nat) (a : Int) (cmp : Value) (i : Int) (h : Hp) (nx0 : Int × Int × Unit → Hp → Prop) (nx1 : Int × Unit → Hp → Prop) (K : Value → Hp → Prop) : Prop :=
  sx_2 Try.prog F 90 (cp [1, 1, 1, 0, 2, 2, 2, 1, 0, 2, 2] (bodyOf Try.f72)) (ap [1, 1, 1, 0, 2, 1, 0, 2] slices_partitionEqualCmpFunc_api_Point_an) [(12, .int .i64 j), (0, .slice data dataL dataC), (1, .int .i64 a), (4, cmp), (11, .int .i64 i)] h (slices_partitionEqualCmpFunc_api_Point_K10 nx0 nx1 K)
def slices_partitionEqualCmpFunc_api_Point_b6 (data : Option Addr) (dataL : Nat) (dataC : Nat) (a : Int) (cmp : Value) (i : Int) (j : Int) (h : Hp) (nx0 : Int × Int × Unit → Hp → Prop) (nx1 : Int × Unit → Hp → Prop) (K : Value → Hp → Prop) : Prop :=
  sx_1 Try.prog F 90 (cp [1, 1, 1, 0, 2, 2, 2, 1, 0, 2, 2, 1] (bodyOf Try.f72)) (ap [1, 1, 1, 0, 2, 1, 0, 2, 1] slices_partitionEqualCmpFunc_api_Point_an) [(0, .slice data dataL dataC), (1, .int .i64 a), (4, cmp), (11, .int .i64 i), (12, .int .i64 j)] h (slices_partitionEqualCmpFunc_api_Point_K10 nx0 nx1 K)
def slices_partitionEqualCmpFunc_api_Point_b7 (data : Option Addr) (dataL : Nat) (dataC : Nat) (a : Int) (cmp : Value) (i : Int) (j : Int) (h : Hp) (nx0 : Int × Int × Unit → Hp → Prop) (K : Value → Hp → Prop) : Prop :=
  sx_2 Try.prog F 90 (cp [1, 1, 1, 0, 2, 2, 2, 1, 1] (bodyOf Try.f72)) (ap [1, 1, 1, 0, 2, 1, 1] slices_partitionEqualCmpFunc_api_Point_an) [(0, .slice data dataL dataC), (1, .int .i64 a), (4, cmp), (11, .int .i64 i), (12, .int .i64 j)] h (slices_partitionEqualCmpFunc_api_Point_K4 nx0 K)
def slices_partitionEqualCmpFunc_api_Point_b8 (i : Int) (h : Hp)  (K : Value → Hp → Prop) : Prop :=
  sx_4 Try.prog F 90 (cp [1, 1, 1, 1] (bodyOf Try.f72)) (ap [1, 1, 1, 1] slices_partitionEqualCmpFunc_api_Point_an) [(11, .int .i64 i)] h (slices_partitionEqualCmpFunc_api_Point_K0  K)
theorem slices_partitionEqualCmpFunc_api_Point_b0_eq (data : Option Addr) (dataL : Nat) (dataC : Nat) (a : Int) (b : Int) (pivot : Int) (cmp : Value) (h : Hp)  (K : Value → Hp → Prop) : slices_partitionEqualCmpFunc_api_Point_b0 data dataL dataC a b pivot cmp h  K = (
  (0 ≤ pivot ∧ pivot < (dataL : Int)) ∧
  NN data fun a1 =>
  ∃ n1 : Int, ∃ n2 : Int, ∃ n3 : Int, cell h (a1.add (Int.toNat pivot * 3)) = some (.int .i64 n1) ∧
  cell h ((a1.add (Int.toNat pivot * 3)).add 1) = some (.int .i64 n2) ∧
  cell h ((a1.add (Int.toNat pivot * 3)).add 2) = some (.int .i64 n3) ∧
  (0 ≤ a ∧ a < (dataL : Int)) ∧
  NN data fun a2 =>
  ∃ n4 : Int, ∃ n5 : Int, ∃ n6 : Int, cell h (a2.add (Int.toNat a * 3)) = some (.int .i64 n4) ∧
  cell h ((a2.add (Int.toNat a * 3)).add 1) = some (.int .i64 n5) ∧
  cell h ((a2.add (Int.toNat a * 3)).add 2) = some (.int .i64 n6) ∧
  (0 ≤ a ∧ a < (dataL : Int)) ∧
  NN data fun a3 =>
  Wr h (a3.add (Int.toNat a * 3)) (.int .i64 n1) fun h1 =>
  Wr h1 ((a3.add (Int.toNat a * 3)).add 1) (.int .i64 n2) fun h2 =>
  Wr h2 ((a3.add (Int.toNat a * 3)).add 2) (.int .i64 n3) fun h3 =>
  (0 ≤ pivot ∧ pivot < (dataL : Int)) ∧
  NN data fun a4 =>
  Wr h3 (a4.add (Int.toNat pivot * 3)) (.int .i64 n4) fun h4 =>
  Wr h4 ((a4.add (Int.toNat pivot * 3)).add 1) (.int .i64 n5) fun h5 =>
  Wr h5 ((a4.add (Int.toNat pivot * 3)).add 2) (.int .i64 n6) fun h6 =>
  InR (a + 1) ∧
  InR (b - 1) ∧
  LoopVC ((a + 1, b - 1, ()) : Int × Int × Unit) h6 (fun (nx0 : Int × Int × Unit → Hp → Prop) (s1 : Int × Int × Unit) h7 => slices_partitionEqualCmpFunc_api_Point_b1 s1.1 s1.2.1 data dataL dataC a cmp h7 nx0 K)) := by kernel_rfl
theorem slices_partitionEqualCmpFunc_api_Point_b1_eq (i : Int) (j : Int) (data : Option Addr) (dataL : Nat) (dataC : Nat) (a : Int) (cmp : Value) (h : Hp) (nx0 : Int × Int × Unit → Hp → Prop) (K : Value → Hp → Prop) : slices_partitionEqualCmpFunc_api_Point_b1 i j data dataL dataC a cmp h nx0 K = (
  LoopVC ((i, ()) : Int × Unit) h (fun (nx1 : Int × Unit → Hp → Prop) (s2 : Int × Unit) h8 => slices_partitionEqualCmpFunc_api_Point_b2 s2.1 data dataL dataC a cmp j h8 nx0 nx1 K)) := by kernel_rfl
theorem slices_partitionEqualCmpFunc_api_Point_b2_eq (i : Int) (data : Option Addr) (dataL : Nat) (dataC : Nat) (a : Int) (cmp : Value) (j : Int) (h : Hp) (nx0 : Int × Int × Unit → Hp → Prop) (nx1 : Int × Unit → Hp → Prop) (K : Value → Hp → Prop) : slices_partitionEqualCmpFunc_api_Point_b2 i data dataL dataC a cmp j h nx0 nx1 K = (
  cond (decide (i ≤ j))
  ((0 ≤ a ∧ a < (dataL : Int)) ∧
  NN data fun a5 =>
  ∃ n7 : Int, ∃ n8 : Int, ∃ n9 : Int, cell h (a5.add (Int.toNat a * 3)) = some (.int .i64 n7) ∧
  cell h ((a5.add (Int.toNat a * 3)).add 1) = some (.int .i64 n8) ∧
  cell h ((a5.add (Int.toNat a * 3)).add 2) = some (.int .i64 n9) ∧
  (0 ≤ i ∧ i < (dataL : Int)) ∧
  NN data fun a6 =>
  ∃ n10 : Int, ∃ n11 : Int, ∃ n12 : Int, cell h (a6.add (Int.toNat i * 3)) = some (.int .i64 n10) ∧
  cell h ((a6.add (Int.toNat i * 3)).add 1) = some (.int .i64 n11) ∧
  cell h ((a6.add (Int.toNat i * 3)).add 2) = some (.int .i64 n12) ∧
  funV cmp fun fg1 fa1 fc1 => callX Try.prog F fg1 (fa1 ++ (([.agg #[.int .i64 n7, .int .i64 n8, .int .i64 n9], .agg #[.int .i64 n10, .int .i64 n11, .int .i64 n12]] : List Value) ++ fc1)).toArray h fun v1 h9 => ∃ r1 : Int, v1 = .int .i64 r1 ∧
  cond (!(decide (r1 < 0)))
  (slices_partitionEqualCmpFunc_api_Point_b3 data dataL dataC a cmp i j h9 nx0 nx1 K)
  (slices_partitionEqualCmpFunc_api_Point_b4 data dataL dataC a cmp i j h9 nx0 K))
  (slices_partitionEqualCmpFunc_api_Point_b4 data dataL dataC a cmp i j h nx0 K)) := by kernel_rfl
theorem slices_partitionEqualCmpFunc_api_Point_b3_eq (data : Option Addr) (dataL : Nat) (dataC : Nat) (a : Int) (cmp : Value) (i : Int) (j : Int) (h : Hp) (nx0 : Int × Int × Unit → Hp → Prop) (nx1 : Int × Unit → Hp → Prop) (K : Value → Hp → Prop) : slices_partitionEqualCmpFunc_api_Point_b3 data dataL dataC a cmp i j h nx0 nx1 K = (
  InR (i + 1) ∧
  nx1 (i + 1, ()) h) := by kernel_rfl
theorem slices_partitionEqualCmpFunc_api_Point_b4_eq (data : Option Addr) (dataL : Nat) (dataC : Nat) (a : Int) (cmp : Value) (i : Int) (j : Int) (h : Hp) (nx0 : Int × Int × Unit → Hp → Prop) (K : Value → Hp → Prop) : slices_partitionEqualCmpFunc_api_Point_b4 data dataL dataC a cmp i j h nx0 K = (
  LoopVC ((j, ()) : Int × Unit) h (fun (nx1 : Int × Unit → Hp → Prop) (s3 : Int × Unit) h10 => slices_partitionEqualCmpFunc_api_Point_b5 s3.1 data dataL dataC a cmp i h10 nx0 nx1 K)) := by kernel_rfl
theorem slices_partitionEqualCmpFunc_api_Point_b5_eq (j : Int) (data : Option Addr) (dataL : Nat) (dataC : Nat) (a : Int) (cmp : Value) (i : Int) (h : Hp) (nx0 : Int × Int × Unit → Hp → Prop) (nx1 : Int × Unit → Hp → Prop) (K : Value → Hp → Prop) : slices_partitionEqualCmpFunc_api_Point_b5 j data dataL dataC a cmp i h nx0 nx1 K = (
  cond (decide (i ≤ j))
  ((0 ≤ a ∧ a < (dataL : Int)) ∧
  NN data fun a7 =>
  ∃ n13 : Int, ∃ n14 : Int, ∃ n15 : Int, cell h (a7.add (Int.toNat a * 3)) = some (.int .i64 n13) ∧
  cell h ((a7.add (Int.toNat a * 3)).add 1) = some (.int .i64 n14) ∧
  cell h ((a7.add (Int.toNat a * 3)).add 2) = some (.int .i64 n15) ∧
  (0 ≤ j ∧ j < (dataL : Int)) ∧
  NN data fun a8 =>
  ∃ n16 : Int, ∃ n17 : Int, ∃ n18 : Int, cell h (a8.add (Int.toNat j * 3)) = some (.int .i64 n16) ∧
  cell h ((a8.add (Int.toNat j * 3)).add 1) = some (.int .i64 n17) ∧
  cell h ((a8.add (Int.toNat j * 3)).add 2) = some (.int .i64 n18) ∧
  funV cmp fun fg2 fa2 fc2 => callX Try.prog F fg2 (fa2 ++ (([.agg #[.int .i64 n13, .int .i64 n14, .int .i64 n15], .agg #[.int .i64 n16, .int .i64 n17, .int .i64 n18]] : List Value) ++ fc2)).toArray h fun v2 h11 => ∃ r2 : Int, v2 = .int .i64 r2 ∧
  cond (decide (r2 < 0))
  (slices_partitionEqualCmpFunc_api_Point_b6 data dataL dataC a cmp i j h11 nx0 nx1 K)
  (slices_partitionEqualCmpFunc_api_Point_b7 data dataL dataC a cmp i j h11 nx0 K))
  (slices_partitionEqualCmpFunc_api_Point_b7 data dataL dataC a cmp i j h nx0 K)) := by kernel_rfl
theorem slices_partitionEqualCmpFunc_api_Point_b6_eq (data : Option Addr) (dataL : Nat) (dataC : Nat) (a : Int) (cmp : Value) (i : Int) (j : Int) (h : Hp) (nx0 : Int × Int × Unit → Hp → Prop) (nx1 : Int × Unit → Hp → Prop) (K : Value → Hp → Prop) : slices_partitionEqualCmpFunc_api_Point_b6 data dataL dataC a cmp i j h nx0 nx1 K = (
  InR (j - 1) ∧
  nx1 (j - 1, ()) h) := by kernel_rfl
theorem slices_partitionEqualCmpFunc_api_Point_b7_eq (data : Option Addr) (dataL : Nat) (dataC : Nat) (a : Int) (cmp : Value) (i : Int) (j : Int) (h : Hp) (nx0 : Int × Int × Unit → Hp → Prop) (K : Value → Hp → Prop) : slices_partitionEqualCmpFunc_api_Point_b7 data dataL dataC a cmp i j h nx0 K = (
  cond (decide (j < i))
  (slices_partitionEqualCmpFunc_api_Point_b8 i h  K)
  ((0 ≤ j ∧ j < (dataL : Int)) ∧
  NN data fun a9 =>
  ∃ n19 : Int, ∃ n20 : Int, ∃ n21 : Int, cell h (a9.add (Int.toNat j * 3)) = some (.int .i64 n19) ∧
  cell h ((a9.add (Int.toNat j * 3)).add 1) = some (.int .i64 n20) ∧
  cell h ((a9.add (Int.toNat j * 3)).add 2) = some (.int .i64 n21) ∧
  (0 ≤ i ∧ i < (dataL : Int)) ∧
  NN data fun a10 =>
  ∃ n22 : Int, ∃ n23 : Int, ∃ n24 : Int, cell h (a10.add (Int.toNat i * 3)) = some (.int .i64 n22) ∧
  cell h ((a10.add (Int.toNat i * 3)).add 1) = some (.int .i64 n23) ∧
  cell h ((a10.add (Int.toNat i * 3)).add 2) = some (.int .i64 n24) ∧
  (0 ≤ i ∧ i < (dataL : Int)) ∧
  NN data fun a11 =>
  Wr h (a11.add (Int.toNat i * 3)) (.int .i64 n19) fun h12 =>
  Wr h12 ((a11.add (Int.toNat i * 3)).add 1) (.int .i64 n20) fun h13 =>
  Wr h13 ((a11.add (Int.toNat i * 3)).add 2) (.int .i64 n21) fun h14 =>
  (0 ≤ j ∧ j < (dataL : Int)) ∧
  NN data fun a12 =>
  Wr h14 (a12.add (Int.toNat j * 3)) (.int .i64 n22) fun h15 =>
  Wr h15 ((a12.add (Int.toNat j * 3)).add 1) (.int .i64 n23) fun h16 =>
  Wr h16 ((a12.add (Int.toNat j * 3)).add 2) (.int .i64 n24) fun h17 =>
  InR (i + 1) ∧
  InR (j - 1) ∧
  nx0 (i + 1, j - 1, ()) h17)) := by kernel_rfl
theorem slices_partitionEqualCmpFunc_api_Point_b8_eq (i : Int) (h : Hp)  (K : Value → Hp → Prop) : slices_partitionEqualCmpFunc_api_Point_b8 i h  K = (
  K (.int .i64 i) h) := by kernel_rfl
theorem slices_partitionEqualCmpFunc_api_Point_call {data : Option Addr} {dataL : Nat} {dataC : Nat} {a : Int} {b : Int} {pivot : Int} {cmp : Value} {h : Hp} {K : Value → Hp → Prop} (hk : slices_partitionEqualCmpFunc_api_Point_b0 data dataL dataC a b pivot cmp h K) : HCalls Try.prog 72 #[.slice data dataL dataC, .int .i64 a, .int .i64 b, .int .i64 pivot, cmp] h K :=
  calls_of_snd slices_partitionEqualCmpFunc_api_Point_an Try.func72 (c := bodyOf Try.f72) rfl Try.ntmps72 (Nat.le_of_ble_eq_true rfl) (snd_5 F_ok F_mixed) hk

/-! ### slices_partitionCmpFunc_api_Point -/
def slices_partitionCmpFunc_api_Point_an : Ann := .node none (.leaf) (.node none (.plan (.qu 0 (.qu 1 (.qu 2 (.qu 3 (.qu 4 (.qu 5 (.qu 6 (.qu 7 (.qu 8 (.qu 9 (.qu 10 (.qu 11 (.qu 12 (.wo 13 (.qu 14 (.wo 15 .fin .no)) .no))))))))))))))) (.node none (.leaf) (.node (some [0, 1, 4, 12, 13]) (.loop [0, 1, 4, 13] [(12, .int .i64)] (.node (some [0, 1, 4, 12, 13]) (.node none (.tail 13) (.leaf)) (.leaf))) (.node (some [0, 1, 4, 12, 13]) (.loop [0, 1, 4, 12] [(13, .int .i64)] (.node (some [0, 1, 4, 12, 13]) (.node none (.tail 13) (.leaf)) (.leaf))) (.node none (.node none (.leaf) (.node none (.node none (.plan (.qu 0 (.qu 1 (.qu 2 (.qu 3 (.qu 4 (.qu 5 (.qu 6 (.qu 7 (.qu 8 (.qu 9 (.qu 10 (.qu 11 (.qu 12 (.wo 13 (.qu 14 (.wo 15 .fin .no)) .no))))))))))))))) (.leaf)) (.leaf))) (.node none (.plan (.qu 0 (.qu 1 (.qu 2 (.qu 3 (.qu 4 (.qu 5 (.qu 6 (.qu 7 (.qu 8 (.qu 9 (.qu 10 (.qu 11 (.qu 12 (.wo 13 (.qu 14 (.wo 15 .fin .no)) .no))))))))))))))) (.node none (.leaf) (.node none (.leaf) (.node (some [0, 1, 13]) (.loop [0, 1, 4] [(12, .int .i64), (13, .int .i64)] (.node (some [0, 1, 4, 12, 13]) (.loop [0, 1, 4, 13] [(12, .int .i64)] (.node (some [0, 1, 4, 12, 13]) (.node none (.tail 13) (.leaf)) (.leaf))) (.node (some [0, 1, 4, 12, 13]) (.loop [0, 1, 4, 12] [(13, .int .i64)] (.node (some [0, 1, 4, 12, 13]) (.node none (.tail 13) (.leaf)) (.leaf))) (.node none (.leaf) (.node none (.plan (.qu 0 (.qu 1 (.qu 2 (.qu 3 (.qu 4 (.qu 5 (.qu 6 (.qu 7 (.qu 8 (.qu 9 (.qu 10 (.qu 11 (.qu 12 (.wo 13 (.qu 14 (.wo 15 .fin .no)) .no))))))))))))))) (.leaf)))))) (.node none (.plan (.qu 0 (.qu 1 (.qu 2 (.qu 3 (.qu 4 (.qu 5 (.qu 6 (.qu 7 (.qu 8 (.qu 9 (.qu 10 (.qu 11 (.qu 12 (.wo 13 (.qu 14 (.wo 15 .fin .no)) .no))))))))))))))) (.leaf)))))))))))
def slices_partitionCmpFunc_api_Point_K0  (K : Value → Hp → Prop) : Exit → Env → Hp → Prop := retK Try.prog Try.f73.results.toList K
def slices_partitionCmpFunc_api_Point_K1  (K : Value → Hp → Prop) : Exit → Env → Hp → Prop := thenE (fun env h => sx_6 Try.prog F 178 (cp [1, 1, 1, 1] (bodyOf Try.f73)) (ap [1, 1, 1, 1] slices_partitionCmpFunc_api_Point_an) (rs [0, 1, 4, 12, 13] env) h (slices_partitionCmpFunc_api_Point_K0  K)) (slices_partitionCmpFunc_api_Point_K0  K)
def slices_partitionCmpFunc_api_Point_K2  (K : Value → Hp → Prop) : Exit → Env → Hp → Prop := blockE 0 (slices_partitionCmpFunc_api_Point_K1  K)
def slices_partitionCmpFunc_api_Point_K3 (nx0 : Int × Unit → Hp → Prop) (K : Value → Hp → Prop) : Exit → Env → Hp → Prop := thenE (fun env h => getV [(12, .int .i64)] env fun s => nx0 s h) (slices_partitionCmpFunc_api_Point_K2  K)
def slices_partitionCmpFunc_api_Point_K4  (K : Value → Hp → Prop) : Exit → Env → Hp → Prop := thenE (fun env h => sx_5 Try.prog F 178 (cp [1, 1, 1, 1, 1] (bodyOf Try.f73)) (ap [1, 1, 1, 1, 1] slices_partitionCmpFunc_api_Point_an) (rs [0, 1, 4, 12, 13] env) h (slices_partitionCmpFunc_api_Point_K0  K)) (slices_partitionCmpFunc_api_Point_K0  K)
def slices_partitionCmpFunc_api_Point_K5  (K : Value → Hp → Prop) : Exit → Env → Hp → Prop := blockE 2 (slices_partitionCmpFunc_api_Point_K4  K)
def slices_partitionCmpFunc_api_Point_K6 (nx0 : Int × Unit → Hp → Prop) (K : Value → Hp → Prop) : Exit → Env → Hp → Prop := thenE (fun env h => getV [(13, .int .i64)] env fun s => nx0 s h) (slices_partitionCmpFunc_api_Point_K5  K)
def slices_partitionCmpFunc_api_Point_K7  (K : Value → Hp → Prop) : Exit → Env → Hp → Prop := thenE (fun env h => sx_4 Try.prog F 178 (cp [1, 1, 1, 1, 1, 1, 1, 1, 1, 1] (bodyOf Try.f73)) (ap [1, 1, 1, 1, 1, 1, 1, 1, 1, 1] slices_partitionCmpFunc_api_Point_an) (rs [0, 1, 13] env) h (slices_partitionCmpFunc_api_Point_K0  K)) (slices_partitionCmpFunc_api_Point_K0  K)
def slices_partitionCmpFunc_api_Point_K8  (K : Value → Hp → Prop) : Exit → Env → Hp → Prop := blockE 4 (slices_partitionCmpFunc_api_Point_K7  K)
def slices_partitionCmpFunc_api_Point_K9 (nx0 : Int × Int × Unit → Hp → Prop) (K : Value → Hp → Prop) : Exit → Env → Hp → Prop := thenE (fun env h => getV [(12, .int .i64), (13, .int .i64)] env fun s => nx0 s h) (slices_partitionCmpFunc_api_Point_K8  K)
def slices_partitionCmpFunc_api_Point_K10 (nx0 : Int × Int × Unit → Hp → Prop) (K : Value → Hp → Prop) : Exit → Env → Hp → Prop := blockE 5 (slices_partitionCmpFunc_api_Point_K9 nx0 K)
def slices_partitionCmpFunc_api_Point_K11 (nx0 : Int × Int × Unit → Hp → Prop) (K : Value → Hp → Prop) : Exit → Env → Hp → Prop := thenE (fun env h => sx_3 Try.prog F 178 (cp [1, 1, 1, 1, 1, 1, 1, 1, 1, 0, 2, 2, 2, 1] (bodyOf Try.f73)) (ap [1, 1, 1, 1, 1, 1, 1, 1, 1, 0, 2, 1] slices_partitionCmpFunc_api_Point_an) (rs [0, 1, 4, 12, 13] env) h (slices_partitionCmpFunc_api_Point_K10 nx0 K)) (slices_partitionCmpFunc_api_Point_K10 nx0 K)
def slices_partitionCmpFunc_api_Point_K12 (nx0 : Int × Int × Unit → Hp → Prop) (K : Value → Hp → Prop) : Exit → Env → Hp → Prop := blockE 6 (slices_partitionCmpFunc_api_Point_K11 nx0 K)
def slices_partitionCmpFunc_api_Point_K13 (nx0 : Int × Int × Unit → Hp → Prop) (nx1 : Int × Unit → Hp → Prop) (K : Value → Hp → Prop) : Exit → Env → Hp → Prop := thenE (fun env h => getV [(12, .int .i64)] env fun s => nx1 s h) (slices_partitionCmpFunc_api_Point_K12 nx0 K)
def slices_partitionCmpFunc_api_Point_K14 (nx0 : Int × Int × Unit → Hp → Prop) (K : Value → Hp → Prop) : Exit → Env → Hp → Prop := thenE (fun env h => sx_2 Try.prog F 178 (cp [1, 1, 1, 1, 1, 1, 1, 1, 1, 0, 2, 2, 2, 1, 1] (bodyOf Try.f73)) (ap [1, 1, 1, 1, 1, 1, 1, 1, 1, 0, 2, 1, 1] slices_partitionCmpFunc_api_Point_an) (rs [0, 1, 4, 12, 13] env) h (slices_partitionCmpFunc_api_Point_K10 nx0 K)) (slices_partitionCmpFunc_api_Point_K10 nx0 K)
def slices_partitionCmpFunc_api_Point_K15 (nx0 : Int × Int × Unit → Hp → Prop) (K : Value → Hp → Prop) : Exit → Env → Hp → Prop := blockE 8 (slices_partitionCmpFunc_api_Point_K14 nx0 K)
def slices_partitionCmpFunc_api_Point_K16 (nx0 : Int × Int × Unit → Hp → Prop) (nx1 : Int × Unit → Hp → Prop) (K : Value → Hp → Prop) : Exit → Env → Hp → Prop := thenE (fun env h => getV [(13, .int .i64)] env fun s => nx1 s h) (slices_partitionCmpFunc_api_Point_K15 nx0 K)
def slices_partitionCmpFunc_api_Point_b0 (data : Option Addr) (dataL : Nat) (dataC : Nat) (a : Int) (b : Int) (pivot : Int) (cmp : Value) (h : Hp)  (K : Value → Hp → Prop) : Prop :=
  sx_7 Try.prog F 178 (cp [] (bodyOf Try.f73)) (ap [] slices_partitionCmpFunc_api_Point_an) [(0, .slice data dataL dataC), (1, .int .i64 a), (2, .int .i64 b), (3, .int .i64 pivot), (4, cmp)] h (slices_partitionCmpFunc_api_Point_K0  K)
def slices_partitionCmpFunc_api_Point_b1 (i : Int) (data : Option Addr) (dataL : Nat) (dataC : Nat) (a : Int) (cmp : Value) (j : Int) (h : Hp) (nx0 : Int × Unit → Hp → Prop) (K : Value → Hp → Prop) : Prop :=
  sx_6 Try.prog F 178 (cp [1, 1, 1, 0, 2, 2] (bodyOf Try.f73)) (ap [1, 1, 1, 0, 2] slices_partitionCmpFunc_api_Point_an) [(12, .int .i64 i), (0, .slice data dataL dataC), (1, .int .i64 a), (4, cmp), (13, .int .i64 j)] h (slices_partitionCmpFunc_api_Point_K3 nx0 K)
def slices_partitionCmpFunc_api_Point_b2 (data : Option Addr) (dataL : Nat) (dataC : Nat) (a : Int) (cmp : Value) (i : Int) (j : Int) (h : Hp) (nx0 : Int × Unit → Hp → Prop) (K : Value → Hp → Prop) : Prop :=
  sx_5 Try.prog F 178 (cp [1, 1, 1, 0, 2, 2, 1] (bodyOf Try.f73)) (ap [1, 1, 1, 0, 2, 1] slices_partitionCmpFunc_api_Point_an) [(0, .slice data dataL dataC), (1, .int .i64 a), (4, cmp), (12, .int .i64 i), (13, .int .i64 j)] h (slices_partitionCmpFunc_api_Point_K3 nx0 K)
def slices_partitionCmpFunc_api_Point_b3 (data : Option Addr) (dataL : Nat) (dataC : Nat) (a : Int) (cmp : Value) (i : Int) (j : Int) (h : Hp)  (K : Value → Hp → Prop) : Prop :=
  sx_6 Try.prog F 178 (cp [1, 1, 1, 1] (bodyOf Try.f73)) (ap [1, 1, 1, 1] slices_partitionCmpFunc_api_Point_an) [(0, .slice data dataL dataC), (1, .int .i64 a), (4, cmp), (12, .int .i64 i), (13, .int .i64 j)] h (slices_partitionCmpFunc_api_Point_K0  K)
def slices_partitionCmpFunc_api_Point_b4 (j : Int) (data : Option Addr) (dataL : Nat) (dataC : Nat) (a : Int) (cmp : Value) (i : Int) (h : Hp) (nx0 : Int × Unit → Hp → Prop) (K : Value → Hp → Prop) : Prop :=
  sx_5 Try.prog F 178 (cp [1, 1, 1, 1, 0, 2, 2] (bodyOf Try.f73)) (ap [1, 1, 1, 1, 0, 2] slices_partitionCmpFunc_api_Point_an) [(13, .int .i64 j), (0, .slice data dataL dataC), (1, .int .i64 a), (4, cmp), (12, .int .i64 i)] h (slices_partitionCmpFunc_api_Point_K6 nx0 K)
def slices_partitionCmpFunc_api_Point_b5 (data : Option Addr) (dataL : Nat) (dataC : Nat) (a : Int) (cmp : Value) (i : Int) (j : Int) (h : Hp) (nx0 : Int × Unit → Hp → Prop) (K : Value → Hp → Prop) : Prop :=
  sx_4 Try.prog F 178 (cp [1, 1, 1, 1, 0, 2, 2, 1] (bodyOf Try.f73)) (ap [1, 1, 1, 1, 0, 2, 1] slices_partitionCmpFunc_api_Point_an) [(0, .slice data dataL dataC), (1, .int .i64 a), (4, cmp), (12, .int .i64 i), (13, .int .i64 j)] h (slices_partitionCmpFunc_api_Point_K6 nx0 K)
def slices_partitionCmpFunc_api_Point_b6 (data : Option Addr) (dataL : Nat) (dataC : Nat) (a : Int) (cmp : Value) (i : Int) (j : Int) (h : Hp)  (K : Value → Hp → Prop) : Prop :=
  sx_5 Try.prog F 178 (cp [1, 1, 1, 1, 1] (bodyOf Try.f73)) (ap [1, 1, 1, 1, 1] slices_partitionCmpFunc_api_Point_an) [(0, .slice data dataL dataC), (1, .int .i64 a), (4, cmp), (12, .int .i64 i), (13, .int .i64 j)] h (slices_partitionCmpFunc_api_Point_K0  K)
def slices_partitionCmpFunc_api_Point_b7 (i : Int) (j : Int) (data : Option Addr) (dataL : Nat) (dataC : Nat) (a : Int) (cmp : Value) (h : Hp) (nx0 : Int × Int × Unit → Hp → Prop) (K : Value → Hp → Prop) : Prop :=
  sx_4 Try.prog F 178 (cp [1, 1, 1, 1, 1, 1, 1, 1, 1, 0, 2, 2] (bodyOf Try.f73)) (ap [1, 1, 1, 1, 1, 1, 1, 1, 1, 0, 2] slices_partitionCmpFunc_api_Point_an) [(12, .int .i64 i), (13, .int .i64 j), (0, .slice data dataL dataC), (1, .int .i64 a), (4, cmp)] h (slices_partitionCmpFunc_api_Point_K9 nx0 K)
def slices_partitionCmpFunc_api_Point_b8 (i : Int) (data : Option Addr) (dataL : Nat) (dataC : Nat) (a : Int) (cmp : Value) (j : Int) (h : Hp) (nx0 : Int × Int × Unit → Hp → Prop) (nx1 : Int × Unit → Hp → Prop) (K : Value → Hp → Prop) : Prop :=
  sx_3 Try.prog F 178 (cp [1, 1, 1, 1, 1, 1, 1, 1, 1, 0, 2, 2, 2, 0, 2, 2] (bodyOf Try.f73)) (ap [1, 1, 1, 1, 1, 1, 1, 1, 1, 0, 2, 0, 2] slices_partitionCmpFunc_api_Point_an) [(12, .int .i64 i), (0, .slice data dataL dataC), (1, .int .i64 a), (4, cmp), (13, .int .i64 j)] h (slices_partitionCmpFunc_api_Point_K13 nx0 nx1 K)
def slices_partitionCmpFunc_api_Point_b9 (data : Option Addr) (dataL : Nat) (dataC : Nat) (a : Int) (cmp : Value) (i : Int) (j : Int) (h : Hp) (nx0 : Int × Int × Unit → Hp → Prop) (nx1 : Int × Unit → Hp → Prop) (K : Value → Hp → Prop) : Prop :=
  sx_2 Try.prog F 178 (cp [1, 1, 1, 1, 1, 1, 1, 1, 1, 0, 2, 2, 2, 0, 2, 2, 1] (bodyOf Try.f73)) (ap [1, 1, 1, 1, 1, 1, 1, 1, 1, 0, 2, 0, 2, 1] slices_partitionCmpFunc_api_Point_an) [(0, .slice data dataL dataC), (1, .int .i64 a), (4, cmp), (12, .int .i64 i), (13, .int .i64 j)] h (slices_partitionCmpFunc_api_Point_K13 nx0 nx1 K)
def slices_partitionCmpFunc_api_Point_b10 (data : Option Addr) (dataL : Nat) (dataC : Nat) (a : Int) (cmp : Value) (i : Int) (j : Int) (h : Hp) (nx0 : Int × Int × Unit → Hp → Prop) (K : Value → Hp → Prop) : Prop :=
  sx_3 Try.prog F 178 (cp [1, 1, 1, 1, 1, 1, 1, 1, 1, 0, 2, 2, 2, 1] (bodyOf Try.f73)) (ap [1, 1, 1, 1, 1, 1, 1, 1, 1, 0, 2, 1] slices_partitionCmpFunc_api_Point_an) [(0, .slice data dataL dataC), (1, .int .i64 a), (4, cmp), (12, .int .i64 i), (13, .int .i64 j)] h (slices_partitionCmpFunc_api_Point_K10 nx0 K)
def slices_partitionCmpFunc_api_Point_b11 (j : Int) (data : Option Addr) (dataL : Nat) (dataC : Nat) (a : Int) (cmp : Value) (i : Int) (h : Hp) (nx0 : Int × Int × Unit → Hp → Prop) (nx1 : Int × Unit → Hp → Prop) (K : Value → Hp → Prop) : Prop :=
  sx_2 Try.prog F 178 (cp [1, 1, 1, 1, 1, 1, 1, 1, 1, 0, 2, 2, 2, 1, 0, 2, 2] (bodyOf Try.f73)) (ap [1, 1, 1, 1, 1, 1, 1, 1, 1, 0, 2, 1, 0, 2] slices_partitionCmpFunc_api_Point_an) [(13, .int .i64 j), (0, .slice data dataL dataC), (1, .int .i64 a), (4, cmp), (12, .int .i64 i)] h (slices_partitionCmpFunc_api_Point_K16 nx0 nx1 K)
def slices_partitionCmpFunc_api_Point_b12 (data : Option Addr) (dataL : Nat) (dataC : Nat) (a : Int) (cmp : Value) (i : Int) (j : Int) (h : Hp) (nx0 : Int × Int × Unit → Hp → Prop) (nx1 : Int × Unit → Hp → Prop) (K : Value → Hp → Prop) : Prop :=
  sx_1 Try.prog F 178 (cp [1, 1, 1, 1, 1, 1, 1, 1, 1, 0, 2, 2, 2, 1, 0, 2, 2, 1] (bodyOf Try.f73)) (ap [1, 1, 1, 1, 1, 1, 1, 1, 1, 0, 2, 1, 0, 2, 1] slices_partitionCmpFunc_api_Point_an) [(0, .slice data dataL dataC), (1, .int .i64 a), (4, cmp), (12, .int .i64 i), (13, .int .i64 j)] h (slices_partitionCmpFunc_api_Point_K16 nx0 nx1 K)
def slices_partitionCmpFunc_api_Point_b13 (data : Option Addr) (dataL : Nat) (dataC : Nat) (a : Int) (cmp : Value) (i : Int) (j : Int) (h : Hp) (nx0 : Int × Int × Unit → Hp → Prop) (K : Value → Hp → Prop) : Prop :=
  sx_2 Try.prog F 178 (cp [1, 1, 1, 1, 1, 1, 1, 1, 1, 0, 2, 2, 2, 1, 1] (bodyOf Try.f73)) (ap [1, 1, 1, 1, 1, 1, 1, 1, 1, 0, 2, 1, 1] slices_partitionCmpFunc_api_Point_an) [(0, .slice data dataL dataC), (1, .int .i64 a), (4, cmp), (12, .int .i64 i), (13, .int .i64 j)] h (slices_partitionCmpFunc_api_Point_K10 nx0 K)
def slices_partitionCmpFunc_api_Point_b14 (data : Option Addr) (dataL : Nat) (dataC : Nat) (a : Int) (j : Int) (h : Hp)  (K : Value → Hp → Prop) : Prop :=
  sx_4 Try.prog F 178 (cp [1, 1, 1, 1, 1, 1, 1, 1, 1, 1] (bodyOf Try.f73)) (ap [1, 1, 1, 1, 1, 1, 1, 1, 1, 1] slices_partitionCmpFunc_api_Point_an) [(0, .slice data dataL dataC), (1, .int .i64 a), (13, .int .i64 j)] h (slices_partitionCmpFunc_api_Point_K0  K)
theorem slices_partitionCmpFunc_api_Point_b0_eq (data : Option Addr) (dataL : Nat) (dataC : Nat) (a : Int) (b : Int) (pivot : Int) (cmp : Value) (h : Hp)  (K : Value → Hp → Prop) : slices_partitionCmpFunc_api_Point_b0 data dataL dataC a b pivot cmp h  K = (
  (0 ≤ pivot ∧ pivot < (dataL : Int)) ∧
  NN data fun a1 =>
  ∃ n1 : Int, ∃ n2 : Int, ∃ n3 : Int, cell h (a1.add (Int.toNat pivot * 3)) = some (.int .i64 n1) ∧
  cell h ((a1.add (Int.toNat pivot * 3)).add 1) = some (.int .i64 n2) ∧
  cell h ((a1.add (Int.toNat pivot * 3)).add 2) = some (.int .i64 n3) ∧
  (0 ≤ a ∧ a < (dataL : Int)) ∧
  NN data fun a2 =>
  ∃ n4 : Int, ∃ n5 : Int, ∃ n6 : Int, cell h (a2.add (Int.toNat a * 3)) = some (.int .i64 n4) ∧
  cell h ((a2.add (Int.toNat a * 3)).add 1) = some (.int .i64 n5) ∧
  cell h ((a2.add (Int.toNat a * 3)).add 2) = some (.int .i64 n6) ∧
  (0 ≤ a ∧ a < (dataL : Int)) ∧
  NN data fun a3 =>
  Wr h (a3.add (Int.toNat a * 3)) (.int .i64 n1) fun h1 =>
  Wr h1 ((a3.add (Int.toNat a * 3)).add 1) (.int .i64 n2) fun h2 =>
  Wr h2 ((a3.add (Int.toNat a * 3)).add 2) (.int .i64 n3) fun h3 =>
  (0 ≤ pivot ∧ pivot < (dataL : Int)) ∧
  NN data fun a4 =>
  Wr h3 (a4.add (Int.toNat pivot * 3)) (.int .i64 n4) fun h4 =>
  Wr h4 ((a4.add (Int.toNat pivot * 3)).add 1) (.int .i64 n5) fun h5 =>
  Wr h5 ((a4.add (Int.toNat pivot * 3)).add 2) (.int .i64 n6) fun h6 =>
  InR (a + 1) ∧
  InR (b - 1) ∧
  LoopVC ((a + 1, ()) : Int × Unit) h6 (fun (nx0 : Int × Unit → Hp → Prop) (s1 : Int × Unit) h7 => slices_partitionCmpFunc_api_Point_b1 s1.1 data dataL dataC a cmp (b - 1) h7 nx0 K)) := by kernel_rfl
theorem slices_partitionCmpFunc_api_Point_b1_eq (i : Int) (data : Option Addr) (dataL : Nat) (dataC : Nat) (a : Int) (cmp : Value) (j : Int) (h : Hp) (nx0 : Int × Unit → Hp → Prop) (K : Value → Hp → Prop) : slices_partitionCmpFunc_api_Point_b1 i data dataL dataC a cmp j h nx0 K = (
  cond (decide (i ≤ j))
  ((0 ≤ i ∧ i < (dataL : Int)) ∧
  NN data fun a5 =>
  ∃ n7 : Int, ∃ n8 : Int, ∃ n9 : Int, cell h (a5.add (Int.toNat i * 3)) = some (.int .i64 n7) ∧
  cell h ((a5.add (Int.toNat i * 3)).add 1) = some (.int .i64 n8) ∧
  cell h ((a5.add (Int.toNat i * 3)).add 2) = some (.int .i64 n9) ∧
  (0 ≤ a ∧ a < (dataL : Int)) ∧
  NN data fun a6 =>
  ∃ n10 : Int, ∃ n11 : Int, ∃ n12 : Int, cell h (a6.add (Int.toNat a * 3)) = some (.int .i64 n10) ∧
  cell h ((a6.add (Int.toNat a * 3)).add 1) = some (.int .i64 n11) ∧
  cell h ((a6.add (Int.toNat a * 3)).add 2) = some (.int .i64 n12) ∧
  funV cmp fun fg1 fa1 fc1 => callX Try.prog F fg1 (fa1 ++ (([.agg #[.int .i64 n7, .int .i64 n8, .int .i64 n9], .agg #[.int .i64 n10, .int .i64 n11, .int .i64 n12]] : List Value) ++ fc1)).toArray h fun v1 h8 => ∃ r1 : Int, v1 = .int .i64 r1 ∧
  cond (decide (r1 < 0))
  (slices_partitionCmpFunc_api_Point_b2 data dataL dataC a cmp i j h8 nx0 K)
  (slices_partitionCmpFunc_api_Point_b3 data dataL dataC a cmp i j h8  K))
  (slices_partitionCmpFunc_api_Point_b3 data dataL dataC a cmp i j h  K)) := by kernel_rfl
theorem slices_partitionCmpFunc_api_Point_b2_eq (data : Option Addr) (dataL : Nat) (dataC : Nat) (a : Int) (cmp : Value) (i : Int) (j : Int) (h : Hp) (nx0 : Int × Unit → Hp → Prop) (K : Value → Hp → Prop) : slices_partitionCmpFunc_api_Point_b2 data dataL dataC a cmp i j h nx0 K = (
  InR (i + 1) ∧
  nx0 (i + 1, ()) h) := by kernel_rfl
theorem slices_partitionCmpFunc_api_Point_b3_eq (data : Option Addr) (dataL : Nat) (dataC : Nat) (a : Int) (cmp : Value) (i : Int) (j : Int) (h : Hp)  (K : Value → Hp → Prop) : slices_partitionCmpFunc_api_Point_b3 data dataL dataC a cmp i j h  K = (
  LoopVC ((j, ()) : Int × Unit) h (fun (nx0 : Int × Unit → Hp → Prop) (s2 : Int × Unit) h9 => slices_partitionCmpFunc_api_Point_b4 s2.1 data dataL dataC a cmp i h9 nx0 K)) := by kernel_rfl
theorem slices_partitionCmpFunc_api_Point_b4_eq (j : Int) (data : Option Addr) (dataL : Nat) (dataC : Nat) (a : Int) (cmp : Value) (i : Int) (h : Hp) (nx0 : Int × Unit → Hp → Prop) (K : Value → Hp → Prop) : slices_partitionCmpFunc_api_Point_b4 j data dataL dataC a cmp i h nx0 K = (
  cond (decide (i ≤ j))
  ((0 ≤ j ∧ j < (dataL : Int)) ∧
  NN data fun a7 =>
  ∃ n13 : Int, ∃ n14 : Int, ∃ n15 : Int, cell h (a7.add (Int.toNat j * 3)) = some (.int .i64 n13) ∧
  cell h ((a7.add (Int.toNat j * 3)).add 1) = some (.int .i64 n14) ∧
  cell h ((a7.add (Int.toNat j * 3)).add 2) = some (.int .i64 n15) ∧
  (0 ≤ a ∧ a < (dataL : Int)) ∧
  NN data fun a8 =>
  ∃ n16 : Int, ∃ n17 : Int, ∃ n18 : Int, cell h (a8.add (Int.toNat a * 3)) = some (.int .i64 n16) ∧
  cell h ((a8.add (Int.toNat a * 3)).add 1) = some (.int .i64 n17) ∧
  cell h ((a8.add (Int.toNat a * 3)).add 2) = some (.int .i64 n18) ∧
  funV cmp fun fg2 fa2 fc2 => callX Try.prog F fg2 (fa2 ++ (([.agg #[.int .i64 n13, .int .i64 n14, .int .i64 n15], .agg #[.int .i64 n16, .int .i64 n17, .int .i64 n18]] : List Value) ++ fc2)).toArray h fun v2 h10 => ∃ r2 : Int, v2 = .int .i64 r2 ∧
  cond (!(decide (r2 < 0)))
  (slices_partitionCmpFunc_api_Point_b5 data dataL dataC a cmp i j h10 nx0 K)
  (slices_partitionCmpFunc_api_Point_b6 data dataL dataC a cmp i j h10  K))
  (slices_partitionCmpFunc_api_Point_b6 data dataL dataC a cmp i j h  K)) := by kernel_rfl
theorem slices_partitionCmpFunc_api_Point_b5_eq (data : Option Addr) (dataL : Nat) (dataC : Nat) (a : Int) (cmp : Value) (i : Int) (j : Int) (h : Hp) (nx0 : Int × Unit → Hp → Prop) (K : Value → Hp → Prop) : slices_partitionCmpFunc_api_Point_b5 data dataL dataC a cmp i j h nx0 K = (
  InR (j - 1) ∧
  nx0 (j - 1, ()) h) := by kernel_rfl
theorem slices_partitionCmpFunc_api_Point_b6_eq (data : Option Addr) (dataL : Nat) (dataC : Nat) (a : Int) (cmp : Value) (i : Int) (j : Int) (h : Hp)  (K : Value → Hp → Prop) : slices_partitionCmpFunc_api_Point_b6 data dataL dataC a cmp i j h  K = (
  cond (decide (j < i))
  ((0 ≤ a ∧ a < (dataL : Int)) ∧
  NN data fun a9 =>
  ∃ n19 : Int, ∃ n20 : Int, ∃ n21 : Int, cell h (a9.add (Int.toNat a * 3)) = some (.int .i64 n19) ∧
  cell h ((a9.add (Int.toNat a * 3)).add 1) = some (.int .i64 n20) ∧
  cell h ((a9.add (Int.toNat a * 3)).add 2) = some (.int .i64 n21) ∧
  (0 ≤ j ∧ j < (dataL : Int)) ∧
  NN data fun a10 =>
  ∃ n22 : Int, ∃ n23 : Int, ∃ n24 : Int, cell h (a10.add (Int.toNat j * 3)) = some (.int .i64 n22) ∧
  cell h ((a10.add (Int.toNat j * 3)).add 1) = some (.int .i64 n23) ∧
  cell h ((a10.add (Int.toNat j * 3)).add 2) = some (.int .i64 n24) ∧
  (0 ≤ j ∧ j < (dataL : Int)) ∧
  NN data fun a11 =>
  Wr h (a11.add (Int.toNat j * 3)) (.int .i64 n19) fun h11 =>
  Wr h11 ((a11.add (Int.toNat j * 3)).add 1) (.int .i64 n20) fun h12 =>
  Wr h12 ((a11.add (Int.toNat j * 3)).add 2) (.int .i64 n21) fun h13 =>
  (0 ≤ a ∧ a < (dataL : Int)) ∧
  NN data fun a12 =>
  Wr h13 (a12.add (Int.toNat a * 3)) (.int .i64 n22) fun h14 =>
  Wr h14 ((a12.add (Int.toNat a * 3)).add 1) (.int .i64 n23) fun h15 =>
  Wr h15 ((a12.add (Int.toNat a * 3)).add 2) (.int .i64 n24) fun h16 =>
  K (.tuple #[.int .i64 j, .bool true]) h16)
  ((0 ≤ j ∧ j < (dataL : Int)) ∧
  NN data fun a13 =>
  ∃ n25 : Int, ∃ n26 : Int, ∃ n27 : Int, cell h (a13.add (Int.toNat j * 3)) = some (.int .i64 n25) ∧
  cell h ((a13.add (Int.toNat j * 3)).add 1) = some (.int .i64 n26) ∧
  cell h ((a13.add (Int.toNat j * 3)).add 2) = some (.int .i64 n27) ∧
  (0 ≤ i ∧ i < (dataL : Int)) ∧
  NN data fun a14 =>
  ∃ n28 : Int, ∃ n29 : Int, ∃ n30 : Int, cell h (a14.add (Int.toNat i * 3)) = some (.int .i64 n28) ∧
  cell h ((a14.add (Int.toNat i * 3)).add 1) = some (.int .i64 n29) ∧
  cell h ((a14.add (Int.toNat i * 3)).add 2) = some (.int .i64 n30) ∧
  (0 ≤ i ∧ i < (dataL : Int)) ∧
  NN data fun a15 =>
  Wr h (a15.add (Int.toNat i * 3)) (.int .i64 n25) fun h17 =>
  Wr h17 ((a15.add (Int.toNat i * 3)).add 1) (.int .i64 n26) fun h18 =>
  Wr h18 ((a15.add (Int.toNat i * 3)).add 2) (.int .i64 n27) fun h19 =>
  (0 ≤ j ∧ j < (dataL : Int)) ∧
  NN data fun a16 =>
  Wr h19 (a16.add (Int.toNat j * 3)) (.int .i64 n28) fun h20 =>
  Wr h20 ((a16.add (Int.toNat j * 3)).add 1) (.int .i64 n29) fun h21 =>
  Wr h21 ((a16.add (Int.toNat j * 3)).add 2) (.int .i64 n30) fun h22 =>
  InR (i + 1) ∧
  InR (j - 1) ∧
  LoopVC ((i + 1, j - 1, ()) : Int × Int × Unit) h22 (fun (nx0 : Int × Int × Unit → Hp → Prop) (s3 : Int × Int × Unit) h23 => slices_partitionCmpFunc_api_Point_b7 s3.1 s3.2.1 data dataL dataC a cmp h23 nx0 K))) := by kernel_rfl
theorem slices_partitionCmpFunc_api_Point_b7_eq (i : Int) (j : Int) (data : Option Addr) (dataL : Nat) (dataC : Nat) (a : Int) (cmp : Value) (h : Hp) (nx0 : Int × Int × Unit → Hp → Prop) (K : Value → Hp → Prop) : slices_partitionCmpFunc_api_Point_b7 i j data dataL dataC a cmp h nx0 K = (
  LoopVC ((i, ()) : Int × Unit) h (fun (nx1 : Int × Unit → Hp → Prop) (s4 : Int × Unit) h24 => slices_partitionCmpFunc_api_Point_b8 s4.1 data dataL dataC a cmp j h24 nx0 nx1 K)) := by kernel_rfl
theorem slices_partitionCmpFunc_api_Point_b8_eq (i : Int) (data : Option Addr) (dataL : Nat) (dataC : Nat) (a : Int) (cmp : Value) (j : Int) (h : Hp) (nx0 : Int × Int × Unit → Hp → Prop) (nx1 : Int × Unit → Hp → Prop) (K : Value → Hp → Prop) : slices_partitionCmpFunc_api_Point_b8 i data dataL dataC a cmp j h nx0 nx1 K = (
  cond (decide (i ≤ j))
  ((0 ≤ i ∧ i < (dataL : Int)) ∧
  NN data fun a17 =>
  ∃ n31 : Int, ∃ n32 : Int, ∃ n33 : Int, cell h (a17.add (Int.toNat i * 3)) = some (.int .i64 n31) ∧
  cell h ((a17.add (Int.toNat i * 3)).add 1) = some (.int .i64 n32) ∧
  cell h ((a17.add (Int.toNat i * 3)).add 2) = some (.int .i64 n33) ∧
  (0 ≤ a ∧ a < (dataL : Int)) ∧
  NN data fun a18 =>
  ∃ n34 : Int, ∃ n35 : Int, ∃ n36 : Int, cell h (a18.add (Int.toNat a * 3)) = some (.int .i64 n34) ∧
  cell h ((a18.add (Int.toNat a * 3)).add 1) = some (.int .i64 n35) ∧
  cell h ((a18.add (Int.toNat a * 3)).add 2) = some (.int .i64 n36) ∧
  funV cmp fun fg3 fa3 fc3 => callX Try.prog F fg3 (fa3 ++ (([.agg #[.int .i64 n31, .int .i64 n32, .int .i64 n33], .agg #[.int .i64 n34, .int .i64 n35, .int .i64 n36]] : List Value) ++ fc3)).toArray h fun v3 h25 => ∃ r3 : Int, v3 = .int .i64 r3 ∧
  cond (decide (r3 < 0))
  (slices_partitionCmpFunc_api_Point_b9 data dataL dataC a cmp i j h25 nx0 nx1 K)
  (slices_partitionCmpFunc_api_Point_b10 data dataL dataC a cmp i j h25 nx0 K))
  (slices_partitionCmpFunc_api_Point_b10 data dataL dataC a cmp i j h nx0 K)) := by kernel_rfl
theorem slices_partitionCmpFunc_api_Point_b9_eq (data : Option Addr) (dataL : Nat) (dataC : Nat) (a : Int) (cmp : Value) (i : Int) (j : Int) (h : Hp) (nx0 : Int × Int × Unit → Hp → Prop) (nx1 : Int × Unit → Hp → Prop) (K : Value → Hp → Prop) : slices_partitionCmpFunc_api_Point_b9 data dataL dataC a cmp i j h nx0 nx1 K = (
  InR (i + 1) ∧
  nx1 (i + 1, ()) h) := by kernel_rfl
theorem slices_partitionCmpFunc_api_Point_b10_eq (data : Option Addr) (dataL : Nat) (dataC : Nat) (a : Int) (cmp : Value) (i : Int) (j : Int) (h : Hp) (nx0 : Int × Int × Unit → Hp → Prop) (K : Value → Hp → Prop) : slices_partitionCmpFunc_api_Point_b10 data dataL dataC a cmp i j h nx0 K = (
  LoopVC ((j, ()) : Int × Unit) h (fun (nx1 : Int × Unit → Hp → Prop) (s5 : Int × Unit) h26 => slices_partitionCmpFunc_api_Point_b11 s5.1 data dataL dataC a cmp i h26 nx0 nx1 K)) := by kernel_rfl
theorem slices_partitionCmpFunc_api_Point_b11_eq (j : Int) (data : Option Addr) (dataL : Nat) (dataC : Nat) (a : Int) (cmp : Value) (i : Int) (h : Hp) (nx0 : Int × Int × Unit → Hp → Prop) (nx1 : Int × Unit → Hp → Prop) (K : Value → Hp → Prop) : slices_partitionCmpFunc_api_Point_b11 j data dataL dataC a cmp i h nx0 nx1 K = (
  cond (decide (i ≤ j))
  ((0 ≤ j ∧ j < (dataL : Int)) ∧
  NN data fun a19 =>
  ∃ n37 : Int, ∃ n38 : Int, ∃ n39 : Int, cell h (a19.add (Int.toNat j * 3)) = some (.int .i64 n37) ∧
  cell h ((a19.add (Int.toNat j * 3)).add 1) = some (.int .i64 n38) ∧
  cell h ((a19.add (Int.toNat j * 3)).add 2) = some (.int .i64 n39) ∧
  (0 ≤ a ∧ a < (dataL : Int)) ∧
  NN data fun a20 =>
  ∃ n40 : Int, ∃ n41 : Int, ∃ n42 : Int, cell h (a20.add (Int.toNat a * 3)) = some (.int .i64 n40) ∧
  cell h ((a20.add (Int.toNat a * 3)).add 1) = some (.int .i64 n41) ∧
  cell h ((a20.add (Int.toNat a * 3)).add 2) = some (.int .i64 n42) ∧
  funV cmp fun fg4 fa4 fc4 => callX Try.prog F fg4 (fa4 ++ (([.agg #[.int .i64 n37, .int .i64 n38, .int .i64 n39], .agg #[.int .i64 n40, .int .i64 n41, .int .i64 n42]] : List Value) ++ fc4)).toArray h fun v4 h27 => ∃ r4 : Int, v4 = .int .i64 r4 ∧
  cond (!(decide (r4 < 0)))
  (slices_partitionCmpFunc_api_Point_b12 data dataL dataC a cmp i j h27 nx0 nx1 K)
  (slices_partitionCmpFunc_api_Point_b13 data dataL dataC a cmp i j h27 nx0 K))
  (slices_partitionCmpFunc_api_Point_b13 data dataL dataC a cmp i j h nx0 K)) := by kernel_rfl
theorem slices_partitionCmpFunc_api_Point_b12_eq (data : Option Addr) (dataL : Nat) (dataC : Nat) (a : Int) (cmp : Value) (i : Int) (j : Int) (h : Hp) (nx0 : Int × Int × Unit → Hp → Prop) (nx1 : Int × Unit → Hp → Prop) (K : Value → Hp → Prop) : slices_partitionCmpFunc_api_Point_b12 data dataL dataC a cmp i j h nx0 nx1 K = (
  InR (j - 1) ∧
  nx1 (j - 1, ()) h) := by kernel_rfl
theorem slices_partitionCmpFunc_api_Point_b13_eq (data : Option Addr) (dataL : Nat) (dataC : Nat) (a : Int) (cmp : Value) (i : Int) (j : Int) (h : Hp) (nx0 : Int × Int × Unit → Hp → Prop) (K : Value → Hp → Prop) : slices_partitionCmpFunc_api_Point_b13 data dataL dataC a cmp i j h nx0 K = (
  cond (decide (j < i))
  (slices_partitionCmpFunc_api_Point_b14 data dataL dataC a j h  K)
  ((0 ≤ j ∧ j < (dataL : Int)) ∧
  NN data fun a21 =>
  ∃ n43 : Int, ∃ n44 : Int, ∃ n45 : Int, cell h (a21.add (Int.toNat j * 3)) = some (.int .i64 n43) ∧
  cell h ((a21.add (Int.toNat j * 3)).add 1) = some (.int .i64 n44) ∧
  cell h ((a21.add (Int.toNat j * 3)).add 2) = some (.int .i64 n45) ∧
  (0 ≤ i ∧ i < (dataL : Int)) ∧
  NN data fun a22 =>
  ∃ n46 : Int, ∃ n47 : Int, ∃ n48 : Int, cell h (a22.add (Int.toNat i * 3)) = some (.int .i64 n46) ∧
  cell h ((a22.add (Int.toNat i * 3)).add 1) = some (.int .i64 n47) ∧
  cell h ((a22.add (Int.toNat i * 3)).add 2) = some (.int .i64 n48) ∧
  (0 ≤ i ∧ i < (dataL : Int)) ∧
  NN data fun a23 =>
  Wr h (a23.add (Int.toNat i * 3)) (.int .i64 n43) fun h28 =>
  Wr h28 ((a23.add (Int.toNat i * 3)).add 1) (.int .i64 n44) fun h29 =>
  Wr h29 ((a23.add (Int.toNat i * 3)).add 2) (.int .i64 n45) fun h30 =>
  (0 ≤ j ∧ j < (dataL : Int)) ∧
  NN data fun a24 =>
  Wr h30 (a24.add (Int.toNat j * 3)) (.int .i64 n46) fun h31 =>
  Wr h31 ((a24.add (Int.toNat j * 3)).add 1) (.int .i64 n47) fun h32 =>
  Wr h32 ((a24.add (Int.toNat j * 3)).add 2) (.int .i64 n48) fun h33 =>
  InR (i + 1) ∧
  InR (j - 1) ∧
  nx0 (i + 1, j - 1, ()) h33)) := by kernel_rfl
theorem slices_partitionCmpFunc_api_Point_b14_eq (data : Option Addr) (dataL : Nat) (dataC : Nat) (a : Int) (j : Int) (h : Hp)  (K : Value → Hp → Prop) : slices_partitionCmpFunc_api_Point_b14 data dataL dataC a j h  K = (
  (0 ≤ a ∧ a < (dataL : Int)) ∧
  NN data fun a25 =>
  ∃ n49 : Int, ∃ n50 : Int, ∃ n51 : Int, cell h (a25.add (Int.toNat a * 3)) = some (.int .i64 n49) ∧
  cell h ((a25.add (Int.toNat a * 3)).add 1) = some (.int .i64 n50) ∧
  cell h ((a25.add (Int.toNat a * 3)).add 2) = some (.int .i64 n51) ∧
  (0 ≤ j ∧ j < (dataL : Int)) ∧
  NN data fun a26 =>
  ∃ n52 : Int, ∃ n53 : Int, ∃ n54 : Int, cell h (a26.add (Int.toNat j * 3)) = some (.int .i64 n52) ∧
  cell h ((a26.add (Int.toNat j * 3)).add 1) = some (.int .i64 n53) ∧
  cell h ((a26.add (Int.toNat j * 3)).add 2) = some (.int .i64 n54) ∧
  (0 ≤ j ∧ j < (dataL : Int)) ∧
  NN data fun a27 =>
  Wr h (a27.add (Int.toNat j * 3)) (.int .i64 n49) fun h34 =>
  Wr h34 ((a27.add (Int.toNat j * 3)).add 1) (.int .i64 n50) fun h35 =>
  Wr h35 ((a27.add (Int.toNat j * 3)).add 2) (.int .i64 n51) fun h36 =>
  (0 ≤ a ∧ a < (dataL : Int)) ∧
  NN data fun a28 =>
  Wr h36 (a28.add (Int.toNat a * 3)) (.int .i64 n52) fun h37 =>
  Wr h37 ((a28.add (Int.toNat a * 3)).add 1) (.int .i64 n53) fun h38 =>
  Wr h38 ((a28.add (Int.toNat a * 3)).add 2) (.int .i64 n54) fun h39 =>
  K (.tuple #[.int .i64 j, .bool false]) h39) := by kernel_rfl
theorem slices_partitionCmpFunc_api_Point_call {data : Option Addr} {dataL : Nat} {dataC : Nat} {a : Int} {b : Int} {pivot : Int} {cmp : Value} {h : Hp} {K : Value → Hp → Prop} (hk : slices_partitionCmpFunc_api_Point_b0 data dataL dataC a b pivot cmp h K) : HCalls Try.prog 73 #[.slice data dataL dataC, .int .i64 a, .int .i64 b, .int .i64 pivot, cmp] h K :=
  calls_of_snd slices_partitionCmpFunc_api_Point_an Try.func73 (c := bodyOf Try.f73) rfl Try.ntmps73 (Nat.le_of_ble_eq_true rfl) (snd_7 F_ok F_mixed) hk

/-! ### cmp_isNaN_int -/
def cmp_isNaN_int_an : Ann := .leaf
def cmp_isNaN_int_K0  (K : Value → Hp → Prop) : Exit → Env → Hp → Prop := retK Try.prog Try.f74.results.toList K
def cmp_isNaN_int_b0 (x : Int) (h : Hp)  (K : Value → Hp → Prop) : Prop :=
  sx_1 Try.prog F 6 (cp [] (bodyOf Try.f74)) (ap [] cmp_isNaN_int_an) [(0, .int .i64 x)] h (cmp_isNaN_int_K0  K)
theorem cmp_isNaN_int_b0_eq (x : Int) (h : Hp)  (K : Value → Hp → Prop) : cmp_isNaN_int_b0 x h  K = (
  K (.bool (!decide (x = x))) h) := by kernel_rfl
theorem cmp_isNaN_int_call {x : Int} {h : Hp} {K : Value → Hp → Prop} (hk : cmp_isNaN_int_b0 x h K) : HCalls Try.prog 74 #[.int .i64 x] h K :=
  calls_of_snd cmp_isNaN_int_an Try.func74 (c := bodyOf Try.f74) rfl Try.ntmps74 (Nat.le_of_ble_eq_true rfl) (snd_1 F_ok F_mixed) hk

/-! ### slices_BinarySearchFunc_Sapi_Point_api_Point_int -/
def slices_BinarySearchFunc_Sapi_Point_api_Point_int_an : Ann := .node none (.leaf) (.node none (.leaf) (.node none (.leaf) (.node (some [0, 1, 2, 8, 9]) (.loop [0, 1, 2, 8] [(9, .int .i64), (10, .int .i64)] (.leaf)) (.leaf))))
def slices_BinarySearchFunc_Sapi_Point_api_Point_int_K0  (K : Value → Hp → Prop) : Exit → Env → Hp → Prop := retK Try.prog Try.f75.results.toList K
def slices_BinarySearchFunc_Sapi_Point_api_Point_int_K1  (K : Value → Hp → Prop) : Exit → Env → Hp → Prop := thenE (fun env h => sx_1 Try.prog F 49 (cp [1, 1, 1, 1] (bodyOf Try.f75)) (ap [1, 1, 1, 1] slices_BinarySearchFunc_Sapi_Point_api_Point_int_an) (rs [0, 1, 2, 8, 9] env) h (slices_BinarySearchFunc_Sapi_Point_api_Point_int_K0  K)) (slices_BinarySearchFunc_Sapi_Point_api_Point_int_K0  K)
def slices_BinarySearchFunc_Sapi_Point_api_Point_int_K2  (K : Value → Hp → Prop) : Exit → Env → Hp → Prop := blockE 0 (slices_BinarySearchFunc_Sapi_Point_api_Point_int_K1  K)
def slices_BinarySearchFunc_Sapi_Point_api_Point_int_K3 (nx0 : Int × Int × Unit → Hp → Prop) (K : Value → Hp → Prop) : Exit → Env → Hp → Prop := thenE (fun env h => getV [(9, .int .i64), (10, .int .i64)] env fun s => nx0 s h) (slices_BinarySearchFunc_Sapi_Point_api_Point_int_K2  K)
def slices_BinarySearchFunc_Sapi_Point_api_Point_int_b0 (x : Option Addr) (xL : Nat) (xC : Nat) (target : Int) (cmp : Value) (h : Hp)  (K : Value → Hp → Prop) : Prop :=
  sx_2 Try.prog F 49 (cp [] (bodyOf Try.f75)) (ap [] slices_BinarySearchFunc_Sapi_Point_api_Point_int_an) [(0, .slice x xL xC), (1, .int .i64 target), (2, cmp)] h (slices_BinarySearchFunc_Sapi_Point_api_Point_int_K0  K)
def slices_BinarySearchFunc_Sapi_Point_api_Point_int_b1 (i : Int) (j : Int) (x : Option Addr) (xL : Nat) (xC : Nat) (target : Int) (cmp : Value) (nv : Int) (h : Hp) (nx0 : Int × Int × Unit → Hp → Prop) (K : Value → Hp → Prop) : Prop :=
  sx_1 Try.prog F 49 (cp [1, 1, 1, 0, 2, 2] (bodyOf Try.f75)) (ap [1, 1, 1, 0, 2] slices_BinarySearchFunc_Sapi_Point_api_Point_int_an) [(9, .int .i64 i), (10, .int .i64 j), (0, .slice x xL xC), (1, .int .i64 target), (2, cmp), (8, .int .i64 nv)] h (slices_BinarySearchFunc_Sapi_Point_api_Point_int_K3 nx0 K)
def slices_BinarySearchFunc_Sapi_Point_api_Point_int_b2 (x : Option Addr) (xL : Nat) (xC : Nat) (target : Int) (cmp : Value) (nv : Int) (i : Int) (h : Hp)  (K : Value → Hp → Prop) : Prop :=
  sx_1 Try.prog F 49 (cp [1, 1, 1, 1] (bodyOf Try.f75)) (ap [1, 1, 1, 1] slices_BinarySearchFunc_Sapi_Point_api_Point_int_an) [(0, .slice x xL xC), (1, .int .i64 target), (2, cmp), (8, .int .i64 nv), (9, .int .i64 i)] h (slices_BinarySearchFunc_Sapi_Point_api_Point_int_K0  K)
theorem slices_BinarySearchFunc_Sapi_Point_api_Point_int_b0_eq (x : Option Addr) (xL : Nat) (xC : Nat) (target : Int) (cmp : Value) (h : Hp)  (K : Value → Hp → Prop) : slices_BinarySearchFunc_Sapi_Point_api_Point_int_b0 x xL xC target cmp h  K = (
  LoopVC ((0, (xL : Int), ()) : Int × Int × Unit) h (fun (nx0 : Int × Int × Unit → Hp → Prop) (s1 : Int × Int × Unit) h1 => slices_BinarySearchFunc_Sapi_Point_api_Point_int_b1 s1.1 s1.2.1 x xL xC target cmp (xL : Int) h1 nx0 K)) := by kernel_rfl
theorem slices_BinarySearchFunc_Sapi_Point_api_Point_int_b1_eq (i : Int) (j : Int) (x : Option Addr) (xL : Nat) (xC : Nat) (target : Int) (cmp : Value) (nv : Int) (h : Hp) (nx0 : Int × Int × Unit → Hp → Prop) (K : Value → Hp → Prop) : slices_BinarySearchFunc_Sapi_Point_api_Point_int_b1 i j x xL xC target cmp nv h nx0 K = (
  cond (decide (i < j))
  (InR (i + j) ∧
  ∃ sr1 : Int, Sx.Shr .u64 (IntKind.u64.wrap (i + j)) 1 sr1 ∧
  InR sr1 ∧
  (0 ≤ sr1 ∧ sr1 < (xL : Int)) ∧
  NN x fun a1 =>
  ∃ n1 : Int, ∃ n2 : Int, ∃ n3 : Int, cell h (a1.add (Int.toNat sr1 * 3)) = some (.int .i64 n1) ∧
  cell h ((a1.add (Int.toNat sr1 * 3)).add 1) = some (.int .i64 n2) ∧
  cell h ((a1.add (Int.toNat sr1 * 3)).add 2) = some (.int .i64 n3) ∧
  funV cmp fun fg1 fa1 fc1 => callX Try.prog F fg1 (fa1 ++ (([.agg #[.int .i64 n1, .int .i64 n2, .int .i64 n3], .int .i64 target] : List Value) ++ fc1)).toArray h fun v1 h2 => ∃ r1 : Int, v1 = .int .i64 r1 ∧
  cond (decide (r1 < 0))
  (InR (sr1 + 1) ∧
  nx0 (sr1 + 1, j, ()) h2)
  (nx0 (i, sr1, ()) h2))
  (slices_BinarySearchFunc_Sapi_Point_api_Point_int_b2 x xL xC target cmp nv i h  K)) := by kernel_rfl
theorem slices_BinarySearchFunc_Sapi_Point_api_Point_int_b2_eq (x : Option Addr) (xL : Nat) (xC : Nat) (target : Int) (cmp : Value) (nv : Int) (i : Int) (h : Hp)  (K : Value → Hp → Prop) : slices_BinarySearchFunc_Sapi_Point_api_Point_int_b2 x xL xC target cmp nv i h  K = (
  cond (decide (i < nv))
  ((0 ≤ i ∧ i < (xL : Int)) ∧
  NN x fun a2 =>
  ∃ n4 : Int, ∃ n5 : Int, ∃ n6 : Int, cell h (a2.add (Int.toNat i * 3)) = some (.int .i64 n4) ∧
  cell h ((a2.add (Int.toNat i * 3)).add 1) = some (.int .i64 n5) ∧
  cell h ((a2.add (Int.toNat i * 3)).add 2) = some (.int .i64 n6) ∧
  funV cmp fun fg2 fa2 fc2 => callX Try.prog F fg2 (fa2 ++ (([.agg #[.int .i64 n4, .int .i64 n5, .int .i64 n6], .int .i64 target] : List Value) ++ fc2)).toArray h fun v2 h3 => ∃ r2 : Int, v2 = .int .i64 r2 ∧
  K (.tuple #[.int .i64 i, .bool (decide (r2 = 0))]) h3)
  (K (.tuple #[.int .i64 i, .bool false]) h)) := by kernel_rfl
theorem slices_BinarySearchFunc_Sapi_Point_api_Point_int_call {x : Option Addr} {xL : Nat} {xC : Nat} {target : Int} {cmp : Value} {h : Hp} {K : Value → Hp → Prop} (hk : slices_BinarySearchFunc_Sapi_Point_api_Point_int_b0 x xL xC target cmp h K) : HCalls Try.prog 75 #[.slice x xL xC, .int .i64 target, cmp] h K :=
  calls_of_snd slices_BinarySearchFunc_Sapi_Point_api_Point_int_an Try.func75 (c := bodyOf Try.f75) rfl Try.ntmps75 (Nat.le_of_ble_eq_true rfl) (snd_2 F_ok F_mixed) hk

/-! ### rangetree_part_rectangle_c1 -/
def rangetree_part_rectangle_c1_an : Ann := .leaf
def rangetree_part_rectangle_c1_K0  (K : Value → Hp → Prop) : Exit → Env → Hp → Prop := retK Try.prog Try.f76.results.toList K
def rangetree_part_rectangle_c1_b0 (p_0 : Int) (p_1 : Int) (p_2 : Int) (x : Int) (h : Hp)  (K : Value → Hp → Prop) : Prop :=
  sx_1 Try.prog F 9 (cp [] (bodyOf Try.f76)) (ap [] rangetree_part_rectangle_c1_an) [(0, .agg #[.int .i64 p_0, .int .i64 p_1, .int .i64 p_2]), (1, .int .i64 x)] h (rangetree_part_rectangle_c1_K0  K)
theorem rangetree_part_rectangle_c1_b0_eq (p_0 : Int) (p_1 : Int) (p_2 : Int) (x : Int) (h : Hp)  (K : Value → Hp → Prop) : rangetree_part_rectangle_c1_b0 p_0 p_1 p_2 x h  K = (
  New h (.cells #[.int .i64 p_0, .int .i64 p_1, .int .i64 p_2] 33) fun b1 h1 =>
  ∃ n1 : Int, cell h1 ⟨b1, 0, none⟩ = some (.int .i64 n1) ∧
  HCalls Try.prog 48 #[.int .i64 n1, .int .i64 x] h1 fun v1 h2 => ∃ r1 : Int, v1 = .int .i64 r1 ∧
  K (.int .i64 r1) h2) := by kernel_rfl
theorem rangetree_part_rectangle_c1_call {p_0 : Int} {p_1 : Int} {p_2 : Int} {x : Int} {h : Hp} {K : Value → Hp → Prop} (hk : rangetree_part_rectangle_c1_b0 p_0 p_1 p_2 x h K) : HCalls Try.prog 76 #[.agg #[.int .i64 p_0, .int .i64 p_1, .int .i64 p_2], .int .i64 x] h K :=
  calls_of_snd rangetree_part_rectangle_c1_an Try.func76 (c := bodyOf Try.f76) rfl Try.ntmps76 (Nat.le_of_ble_eq_true rfl) (snd_1 F_ok F_mixed) hk

/-! ### rangetree_part_rectangle_c2 -/
def rangetree_part_rectangle_c2_an : Ann := .leaf
def rangetree_part_rectangle_c2_K0  (K : Value → Hp → Prop) : Exit → Env → Hp → Prop := retK Try.prog Try.f77.results.toList K
def rangetree_part_rectangle_c2_b0 (p_0 : Int) (p_1 : Int) (p_2 : Int) (x : Int) (h : Hp)  (K : Value → Hp → Prop) : Prop :=
  sx_1 Try.prog F 9 (cp [] (bodyOf Try.f77)) (ap [] rangetree_part_rectangle_c2_an) [(0, .agg #[.int .i64 p_0, .int .i64 p_1, .int .i64 p_2]), (1, .int .i64 x)] h (rangetree_part_rectangle_c2_K0  K)
theorem rangetree_part_rectangle_c2_b0_eq (p_0 : Int) (p_1 : Int) (p_2 : Int) (x : Int) (h : Hp)  (K : Value → Hp → Prop) : rangetree_part_rectangle_c2_b0 p_0 p_1 p_2 x h  K = (
  New h (.cells #[.int .i64 p_0, .int .i64 p_1, .int .i64 p_2] 33) fun b1 h1 =>
  ∃ n1 : Int, cell h1 ⟨b1, 0, none⟩ = some (.int .i64 n1) ∧
  cond (decide (n1 ≤ x))
  (K (.int .i64 (-1)) h1)
  (K (.int .i64 1) h1)) := by kernel_rfl
theorem rangetree_part_rectangle_c2_call {p_0 : Int} {p_1 : Int} {p_2 : Int} {x : Int} {h : Hp} {K : Value → Hp → Prop} (hk : rangetree_part_rectangle_c2_b0 p_0 p_1 p_2 x h K) : HCalls Try.prog 77 #[.agg #[.int .i64 p_0, .int .i64 p_1, .int .i64 p_2], .int .i64 x] h K :=
  calls_of_snd rangetree_part_rectangle_c2_an Try.func77 (c := bodyOf Try.f77) rfl Try.ntmps77 (Nat.le_of_ble_eq_true rfl) (snd_1 F_ok F_mixed) hk

end Go.Proofs.Ytbfejfejahoblaa
