/- Plain statements of what each block of code of this seat asks; printed by a program, checked by Lean. -/
import Derived.Test.YtipmcfpjdebpdaaSxV0
set_option maxRecDepth 10000
namespace Go.Proofs.Ytipmcfpjdebpdaa
open Go Go.Sx

/-! ### slices_choosePivotCmpFunc_int -/
def slices_choosePivotCmpFunc_int_an : Ann := .node none (.leaf) (.node none (.leaf) (.node none (.leaf) (.node none (.leaf) (.node none (.leaf) (.node none (.leaf) (.node (some [11, 13]) (.node none (.leaf) (.node none (.node (some [0, 3, 11, 12, 13, 14]) (.leaf) (.leaf)) (.leaf))) (.leaf)))))))
def slices_choosePivotCmpFunc_int_K0  (K : Value → Hp → Prop) : Exit → Env → Hp → Prop := retK Try.prog Try.f81.results.toList K
def slices_choosePivotCmpFunc_int_K1  (K : Value → Hp → Prop) : Exit → Env → Hp → Prop := thenE (fun env h => sx_1 Try.prog F 63 (cp [1, 1, 1, 1, 1, 1, 1] (bodyOf Try.f81)) (ap [1, 1, 1, 1, 1, 1, 1] slices_choosePivotCmpFunc_int_an) (rs [11, 13] env) h (slices_choosePivotCmpFunc_int_K0  K)) (slices_choosePivotCmpFunc_int_K0  K)
def slices_choosePivotCmpFunc_int_b0 (data : Option Addr) (dataL : Nat) (dataC : Nat) (a : Int) (b : Int) (cmp : Value) (h : Hp)  (K : Value → Hp → Prop) : Prop :=
  sx_2 Try.prog F 63 (cp [] (bodyOf Try.f81)) (ap [] slices_choosePivotCmpFunc_int_an) [(0, .slice data dataL dataC), (1, .int .i64 a), (2, .int .i64 b), (3, cmp)] h (slices_choosePivotCmpFunc_int_K0  K)
def slices_choosePivotCmpFunc_int_b1 (data : Option Addr) (dataL : Nat) (dataC : Nat) (cmp : Value) (swaps : Option Addr) (i : Int) (j : Int) (k : Int) (h : Hp)  (K : Value → Hp → Prop) : Prop :=
  sx_1 Try.prog F 63 (cp [1, 1, 1, 1, 1, 1, 0, 1, 0, 1] (bodyOf Try.f81)) (ap [1, 1, 1, 1, 1, 1, 0, 1, 0, 1] slices_choosePivotCmpFunc_int_an) [(0, .slice data dataL dataC), (3, cmp), (11, .pointer swaps), (12, .int .i64 i), (13, .int .i64 j), (14, .int .i64 k)] h (slices_choosePivotCmpFunc_int_K1  K)
def slices_choosePivotCmpFunc_int_b2 (swaps : Option Addr) (j : Int) (h : Hp)  (K : Value → Hp → Prop) : Prop :=
  sx_1 Try.prog F 63 (cp [1, 1, 1, 1, 1, 1, 1] (bodyOf Try.f81)) (ap [1, 1, 1, 1, 1, 1, 1] slices_choosePivotCmpFunc_int_an) [(11, .pointer swaps), (13, .int .i64 j)] h (slices_choosePivotCmpFunc_int_K0  K)
theorem slices_choosePivotCmpFunc_int_b0_eq (data : Option Addr) (dataL : Nat) (dataC : Nat) (a : Int) (b : Int) (cmp : Value) (h : Hp)  (K : Value → Hp → Prop) : slices_choosePivotCmpFunc_int_b0 data dataL dataC a b cmp h  K = (
  InR (b - a) ∧
  New h (.cells #[.int .i64 0] 3) fun b1 h1 =>
  ∃ q1 : Int, Sx.Quo .i64 (b - a) 4 q1 ∧
  InR (q1 * 1) ∧
  InR (a + (q1 * 1)) ∧
  ∃ q2 : Int, Sx.Quo .i64 (b - a) 4 q2 ∧
  InR (q2 * 2) ∧
  InR (a + (q2 * 2)) ∧
  ∃ q3 : Int, Sx.Quo .i64 (b - a) 4 q3 ∧
  InR (q3 * 3) ∧
  InR (a + (q3 * 3)) ∧
  cond (decide ((8 : Int) ≤ (b - a)))
  (cond (decide ((50 : Int) ≤ (b - a)))
  (HCalls Try.prog 95 #[.slice data dataL dataC, .int .i64 (a + (q1 * 1)), .pointer (some ⟨b1, 0, none⟩), cmp] h1 fun v1 h2 => ∃ r1 : Int, v1 = .int .i64 r1 ∧
  HCalls Try.prog 95 #[.slice data dataL dataC, .int .i64 (a + (q2 * 2)), .pointer (some ⟨b1, 0, none⟩), cmp] h2 fun v2 h3 => ∃ r2 : Int, v2 = .int .i64 r2 ∧
  HCalls Try.prog 95 #[.slice data dataL dataC, .int .i64 (a + (q3 * 3)), .pointer (some ⟨b1, 0, none⟩), cmp] h3 fun v3 h4 => ∃ r3 : Int, v3 = .int .i64 r3 ∧
  slices_choosePivotCmpFunc_int_b1 data dataL dataC cmp (some ⟨b1, 0, none⟩) r1 r2 r3 h4  K)
  (slices_choosePivotCmpFunc_int_b1 data dataL dataC cmp (some ⟨b1, 0, none⟩) (a + (q1 * 1)) (a + (q2 * 2)) (a + (q3 * 3)) h1  K))
  (slices_choosePivotCmpFunc_int_b2 (some ⟨b1, 0, none⟩) (a + (q2 * 2)) h1  K)) := by kernel_rfl
theorem slices_choosePivotCmpFunc_int_b1_eq (data : Option Addr) (dataL : Nat) (dataC : Nat) (cmp : Value) (swaps : Option Addr) (i : Int) (j : Int) (k : Int) (h : Hp)  (K : Value → Hp → Prop) : slices_choosePivotCmpFunc_int_b1 data dataL dataC cmp swaps i j k h  K = (
  HCalls Try.prog 96 #[.slice data dataL dataC, .int .i64 i, .int .i64 j, .int .i64 k, .pointer swaps, cmp] h fun v4 h5 => ∃ r4 : Int, v4 = .int .i64 r4 ∧
  slices_choosePivotCmpFunc_int_b2 swaps r4 h5  K) := by kernel_rfl
theorem slices_choosePivotCmpFunc_int_b2_eq (swaps : Option Addr) (j : Int) (h : Hp)  (K : Value → Hp → Prop) : slices_choosePivotCmpFunc_int_b2 swaps j h  K = (
  NN swaps fun a1 =>
  ∃ n1 : Int, cell h a1 = some (.int .i64 n1) ∧
  cond (decide (n1 = 0))
  (K (.tuple #[.int .i64 j, .int .i64 1]) h)
  (cond (decide (n1 = 12))
  (K (.tuple #[.int .i64 j, .int .i64 2]) h)
  (K (.tuple #[.int .i64 j, .int .i64 0]) h))) := by kernel_rfl
theorem slices_choosePivotCmpFunc_int_call {data : Option Addr} {dataL : Nat} {dataC : Nat} {a : Int} {b : Int} {cmp : Value} {h : Hp} {K : Value → Hp → Prop} (hk : slices_choosePivotCmpFunc_int_b0 data dataL dataC a b cmp h K) : HCalls Try.prog 81 #[.slice data dataL dataC, .int .i64 a, .int .i64 b, cmp] h K :=
  calls_of_snd slices_choosePivotCmpFunc_int_an Try.func81 (c := bodyOf Try.f81) rfl Try.ntmps81 (Nat.le_of_ble_eq_true rfl) (snd_2 F_ok F_mixed) hk

/-! ### slices_reverseRangeCmpFunc_int -/
def slices_reverseRangeCmpFunc_int_an : Ann := .node none (.leaf) (.node none (.leaf) (.loop [0] [(8, .int .i64), (9, .int .i64)] (.node none (.leaf) (.node none (.plan (.qu 0 (.qu 1 (.qu 2 (.qu 3 (.qu 4 (.qu 5 (.qu 6 (.qu 7 (.qu 8 (.qu 9 (.qu 10 (.qu 11 (.qu 12 (.wo 13 (.qu 14 (.wo 15 .fin .no)) .no))))))))))))))) (.leaf)))))
def slices_reverseRangeCmpFunc_int_K0  (K : Value → Hp → Prop) : Exit → Env → Hp → Prop := retK Try.prog Try.f82.results.toList K
def slices_reverseRangeCmpFunc_int_K1  (K : Value → Hp → Prop) : Exit → Env → Hp → Prop := blockE 0 (slices_reverseRangeCmpFunc_int_K0  K)
def slices_reverseRangeCmpFunc_int_K2 (nx0 : Int × Int × Unit → Hp → Prop) (K : Value → Hp → Prop) : Exit → Env → Hp → Prop := thenE (fun env h => getV [(8, .int .i64), (9, .int .i64)] env fun s => nx0 s h) (slices_reverseRangeCmpFunc_int_K1  K)
def slices_reverseRangeCmpFunc_int_b0 (data : Option Addr) (dataL : Nat) (dataC : Nat) (a : Int) (b : Int) (cmp : Value) (h : Hp)  (K : Value → Hp → Prop) : Prop :=
  sx_2 Try.prog F 34 (cp [] (bodyOf Try.f82)) (ap [] slices_reverseRangeCmpFunc_int_an) [(0, .slice data dataL dataC), (1, .int .i64 a), (2, .int .i64 b), (3, cmp)] h (slices_reverseRangeCmpFunc_int_K0  K)
def slices_reverseRangeCmpFunc_int_b1 (i : Int) (j : Int) (data : Option Addr) (dataL : Nat) (dataC : Nat) (h : Hp) (nx0 : Int × Int × Unit → Hp → Prop) (K : Value → Hp → Prop) : Prop :=
  sx_1 Try.prog F 34 (cp [1, 1, 2, 2] (bodyOf Try.f82)) (ap [1, 1, 2] slices_reverseRangeCmpFunc_int_an) [(8, .int .i64 i), (9, .int .i64 j), (0, .slice data dataL dataC)] h (slices_reverseRangeCmpFunc_int_K2 nx0 K)
theorem slices_reverseRangeCmpFunc_int_b0_eq (data : Option Addr) (dataL : Nat) (dataC : Nat) (a : Int) (b : Int) (cmp : Value) (h : Hp)  (K : Value → Hp → Prop) : slices_reverseRangeCmpFunc_int_b0 data dataL dataC a b cmp h  K = (
  InR (b - 1) ∧
  LoopVC ((a, b - 1, ()) : Int × Int × Unit) h (fun (nx0 : Int × Int × Unit → Hp → Prop) (s1 : Int × Int × Unit) h1 => slices_reverseRangeCmpFunc_int_b1 s1.1 s1.2.1 data dataL dataC h1 nx0 K)) := by kernel_rfl
theorem slices_reverseRangeCmpFunc_int_b1_eq (i : Int) (j : Int) (data : Option Addr) (dataL : Nat) (dataC : Nat) (h : Hp) (nx0 : Int × Int × Unit → Hp → Prop) (K : Value → Hp → Prop) : slices_reverseRangeCmpFunc_int_b1 i j data dataL dataC h nx0 K = (
  cond (decide (i < j))
  ((0 ≤ j ∧ j < (dataL : Int)) ∧
  NN data fun a1 =>
  ∃ n1 : Int, cell h (a1.add (Int.toNat j * 1)) = some (.int .i64 n1) ∧
  (0 ≤ i ∧ i < (dataL : Int)) ∧
  NN data fun a2 =>
  ∃ n2 : Int, cell h (a2.add (Int.toNat i * 1)) = some (.int .i64 n2) ∧
  (0 ≤ i ∧ i < (dataL : Int)) ∧
  NN data fun a3 =>
  Wr h (a3.add (Int.toNat i * 1)) (.int .i64 n1) fun h2 =>
  (0 ≤ j ∧ j < (dataL : Int)) ∧
  NN data fun a4 =>
  Wr h2 (a4.add (Int.toNat j * 1)) (.int .i64 n2) fun h3 =>
  InR (i + 1) ∧
  InR (j - 1) ∧
  nx0 (i + 1, j - 1, ()) h3)
  (K (.tuple #[]) h)) := by kernel_rfl
theorem slices_reverseRangeCmpFunc_int_call {data : Option Addr} {dataL : Nat} {dataC : Nat} {a : Int} {b : Int} {cmp : Value} {h : Hp} {K : Value → Hp → Prop} (hk : slices_reverseRangeCmpFunc_int_b0 data dataL dataC a b cmp h K) : HCalls Try.prog 82 #[.slice data dataL dataC, .int .i64 a, .int .i64 b, cmp] h K :=
  calls_of_snd slices_reverseRangeCmpFunc_int_an Try.func82 (c := bodyOf Try.f82) rfl Try.ntmps82 (Nat.le_of_ble_eq_true rfl) (snd_2 F_ok F_mixed) hk

/-! ### slices_partialInsertionSortCmpFunc_int -/
def slices_partialInsertionSortCmpFunc_int_an : Ann := .node none (.leaf) (.node none (.leaf) (.node (some []) (.node none (.leaf) (.loop [0, 1, 2, 3] [(9, .int .i64), (10, .int .i64)] (.node none (.leaf) (.node (some [0, 1, 2, 3, 9, 10]) (.node (some [0, 1, 2, 3, 9, 10]) (.loop [0, 1, 2, 3, 10] [(9, .int .i64)] (.node (some [0, 1, 2, 3, 9, 10]) (.node none (.tail 14) (.leaf)) (.leaf))) (.node none (.leaf) (.node none (.leaf) (.node none (.plan (.qu 0 (.qu 1 (.qu 2 (.qu 3 (.qu 4 (.qu 5 (.qu 6 (.qu 7 (.qu 8 (.qu 9 (.qu 10 (.qu 11 (.qu 12 (.qu 13 (.qu 14 (.wo 15 (.qu 16 (.wo 17 .fin .no)) .no))))))))))))))))) (.node (some [0, 1, 2, 3, 9, 10]) (.node none (.leaf) (.node none (.node none (.leaf) (.loop [0, 1, 2, 3, 9, 10] [(11, .int .i64)] (.node none (.leaf) (.node (some [0, 1, 2, 3, 9, 10, 11]) (.node none (.node none (.tail 10) (.leaf)) (.plan (.qu 0 (.qu 1 (.qu 2 (.qu 3 (.qu 4 (.qu 5 (.qu 6 (.qu 7 (.qu 8 (.qu 9 (.qu 10 (.qu 11 (.qu 12 (.qu 13 (.qu 14 (.wo 15 (.qu 16 (.wo 17 .fin .no)) .no)))))))))))))))))) (.leaf))))) (.leaf))) (.node none (.leaf) (.node none (.node none (.leaf) (.loop [0, 1, 2, 3, 9, 10] [(12, .int .i64)] (.node none (.leaf) (.node (some [0, 1, 2, 3, 9, 10, 12]) (.node none (.node none (.tail 10) (.leaf)) (.plan (.qu 0 (.qu 1 (.qu 2 (.qu 3 (.qu 4 (.qu 5 (.qu 6 (.qu 7 (.qu 8 (.qu 9 (.qu 10 (.qu 11 (.qu 12 (.qu 13 (.qu 14 (.wo 15 (.qu 16 (.wo 17 .fin .no)) .no)))))))))))))))))) (.leaf))))) (.leaf)))))))) (.leaf))))) (.leaf)))
def slices_partialInsertionSortCmpFunc_int_K0  (K : Value → Hp → Prop) : Exit → Env → Hp → Prop := retK Try.prog Try.f83.results.toList K
def slices_partialInsertionSortCmpFunc_int_K1  (K : Value → Hp → Prop) : Exit → Env → Hp → Prop := thenE (fun env h => sx_5 Try.prog F 141 (cp [1, 1, 1] (bodyOf Try.f83)) (ap [1, 1, 1] slices_partialInsertionSortCmpFunc_int_an) (rs [] env) h (slices_partialInsertionSortCmpFunc_int_K0  K)) (slices_partialInsertionSortCmpFunc_int_K0  K)
def slices_partialInsertionSortCmpFunc_int_K2  (K : Value → Hp → Prop) : Exit → Env → Hp → Prop := blockE 0 (slices_partialInsertionSortCmpFunc_int_K1  K)
def slices_partialInsertionSortCmpFunc_int_K3 (nx0 : Int × Int × Unit → Hp → Prop) (K : Value → Hp → Prop) : Exit → Env → Hp → Prop := thenE (fun env h => getV [(9, .int .i64), (10, .int .i64)] env fun s => nx0 s h) (slices_partialInsertionSortCmpFunc_int_K2  K)
def slices_partialInsertionSortCmpFunc_int_K4 (nx0 : Int × Int × Unit → Hp → Prop) (K : Value → Hp → Prop) : Exit → Env → Hp → Prop := thenE (fun env h => sx_4 Try.prog F 141 (cp [1, 1, 0, 1, 2, 2, 1, 1] (bodyOf Try.f83)) (ap [1, 1, 0, 1, 2, 1, 1] slices_partialInsertionSortCmpFunc_int_an) (rs [0, 1, 2, 3, 9, 10] env) h (slices_partialInsertionSortCmpFunc_int_K3 nx0 K)) (slices_partialInsertionSortCmpFunc_int_K3 nx0 K)
def slices_partialInsertionSortCmpFunc_int_K5 (nx0 : Int × Int × Unit → Hp → Prop) (K : Value → Hp → Prop) : Exit → Env → Hp → Prop := blockE 1 (slices_partialInsertionSortCmpFunc_int_K4 nx0 K)
def slices_partialInsertionSortCmpFunc_int_K6 (nx0 : Int × Int × Unit → Hp → Prop) (K : Value → Hp → Prop) : Exit → Env → Hp → Prop := thenE (fun env h => sx_4 Try.prog F 141 (cp [1, 1, 0, 1, 2, 2, 1, 0, 2, 1] (bodyOf Try.f83)) (ap [1, 1, 0, 1, 2, 1, 0, 1] slices_partialInsertionSortCmpFunc_int_an) (rs [0, 1, 2, 3, 9, 10] env) h (slices_partialInsertionSortCmpFunc_int_K5 nx0 K)) (slices_partialInsertionSortCmpFunc_int_K5 nx0 K)
def slices_partialInsertionSortCmpFunc_int_K7 (nx0 : Int × Int × Unit → Hp → Prop) (K : Value → Hp → Prop) : Exit → Env → Hp → Prop := blockE 2 (slices_partialInsertionSortCmpFunc_int_K6 nx0 K)
def slices_partialInsertionSortCmpFunc_int_K8 (nx0 : Int × Int × Unit → Hp → Prop) (nx1 : Int × Unit → Hp → Prop) (K : Value → Hp → Prop) : Exit → Env → Hp → Prop := thenE (fun env h => getV [(9, .int .i64)] env fun s => nx1 s h) (slices_partialInsertionSortCmpFunc_int_K7 nx0 K)
def slices_partialInsertionSortCmpFunc_int_K9 (nx0 : Int × Int × Unit → Hp → Prop) (K : Value → Hp → Prop) : Exit → Env → Hp → Prop := thenE (fun env h => sx_3 Try.prog F 141 (cp [1, 1, 0, 1, 2, 2, 1, 0, 2, 1, 1, 1, 1, 1] (bodyOf Try.f83)) (ap [1, 1, 0, 1, 2, 1, 0, 1, 1, 1, 1, 1] slices_partialInsertionSortCmpFunc_int_an) (rs [0, 1, 2, 3, 9, 10] env) h (slices_partialInsertionSortCmpFunc_int_K5 nx0 K)) (slices_partialInsertionSortCmpFunc_int_K5 nx0 K)
def slices_partialInsertionSortCmpFunc_int_K10 (nx0 : Int × Int × Unit → Hp → Prop) (K : Value → Hp → Prop) : Exit → Env → Hp → Prop := blockE 4 (slices_partialInsertionSortCmpFunc_int_K9 nx0 K)
def slices_partialInsertionSortCmpFunc_int_K11 (nx0 : Int × Int × Unit → Hp → Prop) (nx1 : Int × Unit → Hp → Prop) (K : Value → Hp → Prop) : Exit → Env → Hp → Prop := thenE (fun env h => getV [(11, .int .i64)] env fun s => nx1 s h) (slices_partialInsertionSortCmpFunc_int_K10 nx0 K)
def slices_partialInsertionSortCmpFunc_int_K12 (nx0 : Int × Int × Unit → Hp → Prop) (K : Value → Hp → Prop) : Exit → Env → Hp → Prop := blockE 6 (slices_partialInsertionSortCmpFunc_int_K5 nx0 K)
def slices_partialInsertionSortCmpFunc_int_K13 (nx0 : Int × Int × Unit → Hp → Prop) (nx1 : Int × Unit → Hp → Prop) (K : Value → Hp → Prop) : Exit → Env → Hp → Prop := thenE (fun env h => getV [(12, .int .i64)] env fun s => nx1 s h) (slices_partialInsertionSortCmpFunc_int_K12 nx0 K)
def slices_partialInsertionSortCmpFunc_int_b0 (data : Option Addr) (dataL : Nat) (dataC : Nat) (a : Int) (b : Int) (cmp : Value) (h : Hp)  (K : Value → Hp → Prop) : Prop :=
  sx_6 Try.prog F 141 (cp [] (bodyOf Try.f83)) (ap [] slices_partialInsertionSortCmpFunc_int_an) [(0, .slice data dataL dataC), (1, .int .i64 a), (2, .int .i64 b), (3, cmp)] h (slices_partialInsertionSortCmpFunc_int_K0  K)
def slices_partialInsertionSortCmpFunc_int_b1 (i : Int) (j : Int) (data : Option Addr) (dataL : Nat) (dataC : Nat) (a : Int) (b : Int) (cmp : Value) (h : Hp) (nx0 : Int × Int × Unit → Hp → Prop) (K : Value → Hp → Prop) : Prop :=
  sx_5 Try.prog F 141 (cp [1, 1, 0, 1, 2, 2] (bodyOf Try.f83)) (ap [1, 1, 0, 1, 2] slices_partialInsertionSortCmpFunc_int_an) [(9, .int .i64 i), (10, .int .i64 j), (0, .slice data dataL dataC), (1, .int .i64 a), (2, .int .i64 b), (3, cmp)] h (slices_partialInsertionSortCmpFunc_int_K3 nx0 K)
def slices_partialInsertionSortCmpFunc_int_b2 (i : Int) (data : Option Addr) (dataL : Nat) (dataC : Nat) (a : Int) (b : Int) (cmp : Value) (j : Int) (h : Hp) (nx0 : Int × Int × Unit → Hp → Prop) (nx1 : Int × Unit → Hp → Prop) (K : Value → Hp → Prop) : Prop :=
  sx_4 Try.prog F 141 (cp [1, 1, 0, 1, 2, 2, 1, 0, 2, 0, 2, 2] (bodyOf Try.f83)) (ap [1, 1, 0, 1, 2, 1, 0, 0, 2] slices_partialInsertionSortCmpFunc_int_an) [(9, .int .i64 i), (0, .slice data dataL dataC), (1, .int .i64 a), (2, .int .i64 b), (3, cmp), (10, .int .i64 j)] h (slices_partialInsertionSortCmpFunc_int_K8 nx0 nx1 K)
def slices_partialInsertionSortCmpFunc_int_b3  (h : Hp)  (K : Value → Hp → Prop) : Prop :=
  sx_5 Try.prog F 141 (cp [1, 1, 1] (bodyOf Try.f83)) (ap [1, 1, 1] slices_partialInsertionSortCmpFunc_int_an) [] h (slices_partialInsertionSortCmpFunc_int_K0  K)
def slices_partialInsertionSortCmpFunc_int_b4 (data : Option Addr) (dataL : Nat) (dataC : Nat) (a : Int) (b : Int) (cmp : Value) (i : Int) (j : Int) (h : Hp) (nx0 : Int × Int × Unit → Hp → Prop) (nx1 : Int × Unit → Hp → Prop) (K : Value → Hp → Prop) : Prop :=
  sx_3 Try.prog F 141 (cp [1, 1, 0, 1, 2, 2, 1, 0, 2, 0, 2, 2, 1] (bodyOf Try.f83)) (ap [1, 1, 0, 1, 2, 1, 0, 0, 2, 1] slices_partialInsertionSortCmpFunc_int_an) [(0, .slice data dataL dataC), (1, .int .i64 a), (2, .int .i64 b), (3, cmp), (9, .int .i64 i), (10, .int .i64 j)] h (slices_partialInsertionSortCmpFunc_int_K8 nx0 nx1 K)
def slices_partialInsertionSortCmpFunc_int_b5 (data : Option Addr) (dataL : Nat) (dataC : Nat) (a : Int) (b : Int) (cmp : Value) (i : Int) (j : Int) (h : Hp) (nx0 : Int × Int × Unit → Hp → Prop) (K : Value → Hp → Prop) : Prop :=
  sx_4 Try.prog F 141 (cp [1, 1, 0, 1, 2, 2, 1, 0, 2, 1] (bodyOf Try.f83)) (ap [1, 1, 0, 1, 2, 1, 0, 1] slices_partialInsertionSortCmpFunc_int_an) [(0, .slice data dataL dataC), (1, .int .i64 a), (2, .int .i64 b), (3, cmp), (9, .int .i64 i), (10, .int .i64 j)] h (slices_partialInsertionSortCmpFunc_int_K5 nx0 K)
def slices_partialInsertionSortCmpFunc_int_b6 (j : Int) (data : Option Addr) (dataL : Nat) (dataC : Nat) (a : Int) (b : Int) (cmp : Value) (i : Int) (j_10 : Int) (h : Hp) (nx0 : Int × Int × Unit → Hp → Prop) (nx1 : Int × Unit → Hp → Prop) (K : Value → Hp → Prop) : Prop :=
  sx_3 Try.prog F 141 (cp [1, 1, 0, 1, 2, 2, 1, 0, 2, 1, 1, 1, 1, 0, 1, 0, 1, 2, 2] (bodyOf Try.f83)) (ap [1, 1, 0, 1, 2, 1, 0, 1, 1, 1, 1, 0, 1, 0, 1, 2] slices_partialInsertionSortCmpFunc_int_an) [(11, .int .i64 j), (0, .slice data dataL dataC), (1, .int .i64 a), (2, .int .i64 b), (3, cmp), (9, .int .i64 i), (10, .int .i64 j_10)] h (slices_partialInsertionSortCmpFunc_int_K11 nx0 nx1 K)
def slices_partialInsertionSortCmpFunc_int_b7 (data : Option Addr) (dataL : Nat) (dataC : Nat) (a : Int) (b : Int) (cmp : Value) (i : Int) (j : Int) (h : Hp) (nx0 : Int × Int × Unit → Hp → Prop) (K : Value → Hp → Prop) : Prop :=
  sx_3 Try.prog F 141 (cp [1, 1, 0, 1, 2, 2, 1, 0, 2, 1, 1, 1, 1, 1] (bodyOf Try.f83)) (ap [1, 1, 0, 1, 2, 1, 0, 1, 1, 1, 1, 1] slices_partialInsertionSortCmpFunc_int_an) [(0, .slice data dataL dataC), (1, .int .i64 a), (2, .int .i64 b), (3, cmp), (9, .int .i64 i), (10, .int .i64 j)] h (slices_partialInsertionSortCmpFunc_int_K5 nx0 K)
def slices_partialInsertionSortCmpFunc_int_b8 (data : Option Addr) (dataL : Nat) (dataC : Nat) (a : Int) (b : Int) (cmp : Value) (i : Int) (j : Int) (j_11 : Int) (h : Hp) (nx0 : Int × Int × Unit → Hp → Prop) (nx1 : Int × Unit → Hp → Prop) (K : Value → Hp → Prop) : Prop :=
  sx_2 Try.prog F 141 (cp [1, 1, 0, 1, 2, 2, 1, 0, 2, 1, 1, 1, 1, 0, 1, 0, 1, 2, 2, 1, 1] (bodyOf Try.f83)) (ap [1, 1, 0, 1, 2, 1, 0, 1, 1, 1, 1, 0, 1, 0, 1, 2, 1, 1] slices_partialInsertionSortCmpFunc_int_an) [(0, .slice data dataL dataC), (1, .int .i64 a), (2, .int .i64 b), (3, cmp), (9, .int .i64 i), (10, .int .i64 j), (11, .int .i64 j_11)] h (slices_partialInsertionSortCmpFunc_int_K11 nx0 nx1 K)
def slices_partialInsertionSortCmpFunc_int_b9 (j : Int) (data : Option Addr) (dataL : Nat) (dataC : Nat) (a : Int) (b : Int) (cmp : Value) (i : Int) (j_10 : Int) (h : Hp) (nx0 : Int × Int × Unit → Hp → Prop) (nx1 : Int × Unit → Hp → Prop) (K : Value → Hp → Prop) : Prop :=
  sx_2 Try.prog F 141 (cp [1, 1, 0, 1, 2, 2, 1, 0, 2, 1, 1, 1, 1, 1, 1, 0, 1, 2, 2] (bodyOf Try.f83)) (ap [1, 1, 0, 1, 2, 1, 0, 1, 1, 1, 1, 1, 1, 0, 1, 2] slices_partialInsertionSortCmpFunc_int_an) [(12, .int .i64 j), (0, .slice data dataL dataC), (1, .int .i64 a), (2, .int .i64 b), (3, cmp), (9, .int .i64 i), (10, .int .i64 j_10)] h (slices_partialInsertionSortCmpFunc_int_K13 nx0 nx1 K)
def slices_partialInsertionSortCmpFunc_int_b10 (data : Option Addr) (dataL : Nat) (dataC : Nat) (a : Int) (b : Int) (cmp : Value) (i : Int) (j : Int) (h : Hp) (nx0 : Int × Int × Unit → Hp → Prop) (K : Value → Hp → Prop) : Prop :=
  sx_4 Try.prog F 141 (cp [1, 1, 0, 1, 2, 2, 1, 1] (bodyOf Try.f83)) (ap [1, 1, 0, 1, 2, 1, 1] slices_partialInsertionSortCmpFunc_int_an) [(0, .slice data dataL dataC), (1, .int .i64 a), (2, .int .i64 b), (3, cmp), (9, .int .i64 i), (10, .int .i64 j)] h (slices_partialInsertionSortCmpFunc_int_K3 nx0 K)
def slices_partialInsertionSortCmpFunc_int_b11 (data : Option Addr) (dataL : Nat) (dataC : Nat) (a : Int) (b : Int) (cmp : Value) (i : Int) (j : Int) (j_12 : Int) (h : Hp) (nx0 : Int × Int × Unit → Hp → Prop) (nx1 : Int × Unit → Hp → Prop) (K : Value → Hp → Prop) : Prop :=
  sx_1 Try.prog F 141 (cp [1, 1, 0, 1, 2, 2, 1, 0, 2, 1, 1, 1, 1, 1, 1, 0, 1, 2, 2, 1, 1] (bodyOf Try.f83)) (ap [1, 1, 0, 1, 2, 1, 0, 1, 1, 1, 1, 1, 1, 0, 1, 2, 1, 1] slices_partialInsertionSortCmpFunc_int_an) [(0, .slice data dataL dataC), (1, .int .i64 a), (2, .int .i64 b), (3, cmp), (9, .int .i64 i), (10, .int .i64 j), (12, .int .i64 j_12)] h (slices_partialInsertionSortCmpFunc_int_K13 nx0 nx1 K)
theorem slices_partialInsertionSortCmpFunc_int_b0_eq (data : Option Addr) (dataL : Nat) (dataC : Nat) (a : Int) (b : Int) (cmp : Value) (h : Hp)  (K : Value → Hp → Prop) : slices_partialInsertionSortCmpFunc_int_b0 data dataL dataC a b cmp h  K = (
  InR (a + 1) ∧
  LoopVC ((a + 1, 0, ()) : Int × Int × Unit) h (fun (nx0 : Int × Int × Unit → Hp → Prop) (s1 : Int × Int × Unit) h1 => slices_partialInsertionSortCmpFunc_int_b1 s1.1 s1.2.1 data dataL dataC a b cmp h1 nx0 K)) := by kernel_rfl
theorem slices_partialInsertionSortCmpFunc_int_b1_eq (i : Int) (j : Int) (data : Option Addr) (dataL : Nat) (dataC : Nat) (a : Int) (b : Int) (cmp : Value) (h : Hp) (nx0 : Int × Int × Unit → Hp → Prop) (K : Value → Hp → Prop) : slices_partialInsertionSortCmpFunc_int_b1 i j data dataL dataC a b cmp h nx0 K = (
  cond (decide (j < 5))
  (LoopVC ((i, ()) : Int × Unit) h (fun (nx1 : Int × Unit → Hp → Prop) (s2 : Int × Unit) h2 => slices_partialInsertionSortCmpFunc_int_b2 s2.1 data dataL dataC a b cmp j h2 nx0 nx1 K))
  (slices_partialInsertionSortCmpFunc_int_b3  h  K)) := by kernel_rfl
theorem slices_partialInsertionSortCmpFunc_int_b2_eq (i : Int) (data : Option Addr) (dataL : Nat) (dataC : Nat) (a : Int) (b : Int) (cmp : Value) (j : Int) (h : Hp) (nx0 : Int × Int × Unit → Hp → Prop) (nx1 : Int × Unit → Hp → Prop) (K : Value → Hp → Prop) : slices_partialInsertionSortCmpFunc_int_b2 i data dataL dataC a b cmp j h nx0 nx1 K = (
  cond (decide (i < b))
  ((0 ≤ i ∧ i < (dataL : Int)) ∧
  NN data fun a1 =>
  ∃ n1 : Int, cell h (a1.add (Int.toNat i * 1)) = some (.int .i64 n1) ∧
  InR (i - 1) ∧
  (0 ≤ i - 1 ∧ i - 1 < (dataL : Int)) ∧
  NN data fun a2 =>
  ∃ n2 : Int, cell h (a2.add (Int.toNat (i - 1) * 1)) = some (.int .i64 n2) ∧
  funV cmp fun fg1 fa1 fc1 => callX Try.prog F fg1 (fa1 ++ (([.int .i64 n1, .int .i64 n2] : List Value) ++ fc1)).toArray h fun v1 h3 => ∃ r1 : Int, v1 = .int .i64 r1 ∧
  cond (!(decide (r1 < 0)))
  (slices_partialInsertionSortCmpFunc_int_b4 data dataL dataC a b cmp i j h3 nx0 nx1 K)
  (slices_partialInsertionSortCmpFunc_int_b5 data dataL dataC a b cmp i j h3 nx0 K))
  (slices_partialInsertionSortCmpFunc_int_b5 data dataL dataC a b cmp i j h nx0 K)) := by kernel_rfl
theorem slices_partialInsertionSortCmpFunc_int_b3_eq  (h : Hp)  (K : Value → Hp → Prop) : slices_partialInsertionSortCmpFunc_int_b3  h  K = (
  K (.bool false) h) := by kernel_rfl
theorem slices_partialInsertionSortCmpFunc_int_b4_eq (data : Option Addr) (dataL : Nat) (dataC : Nat) (a : Int) (b : Int) (cmp : Value) (i : Int) (j : Int) (h : Hp) (nx0 : Int × Int × Unit → Hp → Prop) (nx1 : Int × Unit → Hp → Prop) (K : Value → Hp → Prop) : slices_partialInsertionSortCmpFunc_int_b4 data dataL dataC a b cmp i j h nx0 nx1 K = (
  InR (i + 1) ∧
  nx1 (i + 1, ()) h) := by kernel_rfl
theorem slices_partialInsertionSortCmpFunc_int_b5_eq (data : Option Addr) (dataL : Nat) (dataC : Nat) (a : Int) (b : Int) (cmp : Value) (i : Int) (j : Int) (h : Hp) (nx0 : Int × Int × Unit → Hp → Prop) (K : Value → Hp → Prop) : slices_partialInsertionSortCmpFunc_int_b5 data dataL dataC a b cmp i j h nx0 K = (
  cond (decide (i = b))
  (K (.bool true) h)
  (InR (b - a) ∧
  cond (decide ((b - a) < 50))
  (K (.bool false) h)
  (InR (i - 1) ∧
  InR (i - 1) ∧
  (0 ≤ i - 1 ∧ i - 1 < (dataL : Int)) ∧
  NN data fun a3 =>
  ∃ n3 : Int, cell h (a3.add (Int.toNat (i - 1) * 1)) = some (.int .i64 n3) ∧
  (0 ≤ i ∧ i < (dataL : Int)) ∧
  NN data fun a4 =>
  ∃ n4 : Int, cell h (a4.add (Int.toNat i * 1)) = some (.int .i64 n4) ∧
  (0 ≤ i ∧ i < (dataL : Int)) ∧
  NN data fun a5 =>
  Wr h (a5.add (Int.toNat i * 1)) (.int .i64 n3) fun h4 =>
  (0 ≤ i - 1 ∧ i - 1 < (dataL : Int)) ∧
  NN data fun a6 =>
  Wr h4 (a6.add (Int.toNat (i - 1) * 1)) (.int .i64 n4) fun h5 =>
  InR (i - a) ∧
  cond (decide ((2 : Int) ≤ (i - a)))
  (InR (i - 1) ∧
  LoopVC ((i - 1, ()) : Int × Unit) h5 (fun (nx1 : Int × Unit → Hp → Prop) (s3 : Int × Unit) h6 => slices_partialInsertionSortCmpFunc_int_b6 s3.1 data dataL dataC a b cmp i j h6 nx0 nx1 K))
  (slices_partialInsertionSortCmpFunc_int_b7 data dataL dataC a b cmp i j h5 nx0 K)))) := by kernel_rfl
theorem slices_partialInsertionSortCmpFunc_int_b6_eq (j : Int) (data : Option Addr) (dataL : Nat) (dataC : Nat) (a : Int) (b : Int) (cmp : Value) (i : Int) (j_10 : Int) (h : Hp) (nx0 : Int × Int × Unit → Hp → Prop) (nx1 : Int × Unit → Hp → Prop) (K : Value → Hp → Prop) : slices_partialInsertionSortCmpFunc_int_b6 j data dataL dataC a b cmp i j_10 h nx0 nx1 K = (
  cond (decide ((1 : Int) ≤ j))
  ((0 ≤ j ∧ j < (dataL : Int)) ∧
  NN data fun a7 =>
  ∃ n5 : Int, cell h (a7.add (Int.toNat j * 1)) = some (.int .i64 n5) ∧
  InR (j - 1) ∧
  (0 ≤ j - 1 ∧ j - 1 < (dataL : Int)) ∧
  NN data fun a8 =>
  ∃ n6 : Int, cell h (a8.add (Int.toNat (j - 1) * 1)) = some (.int .i64 n6) ∧
  funV cmp fun fg2 fa2 fc2 => callX Try.prog F fg2 (fa2 ++ (([.int .i64 n5, .int .i64 n6] : List Value) ++ fc2)).toArray h fun v2 h7 => ∃ r2 : Int, v2 = .int .i64 r2 ∧
  cond (!(decide (r2 < 0)))
  (slices_partialInsertionSortCmpFunc_int_b7 data dataL dataC a b cmp i j_10 h7 nx0 K)
  (InR (j - 1) ∧
  InR (j - 1) ∧
  (0 ≤ j - 1 ∧ j - 1 < (dataL : Int)) ∧
  NN data fun a9 =>
  ∃ n7 : Int, cell h7 (a9.add (Int.toNat (j - 1) * 1)) = some (.int .i64 n7) ∧
  (0 ≤ j ∧ j < (dataL : Int)) ∧
  NN data fun a10 =>
  ∃ n8 : Int, cell h7 (a10.add (Int.toNat j * 1)) = some (.int .i64 n8) ∧
  (0 ≤ j ∧ j < (dataL : Int)) ∧
  NN data fun a11 =>
  Wr h7 (a11.add (Int.toNat j * 1)) (.int .i64 n7) fun h8 =>
  (0 ≤ j - 1 ∧ j - 1 < (dataL : Int)) ∧
  NN data fun a12 =>
  Wr h8 (a12.add (Int.toNat (j - 1) * 1)) (.int .i64 n8) fun h9 =>
  slices_partialInsertionSortCmpFunc_int_b8 data dataL dataC a b cmp i j_10 j h9 nx0 nx1 K))
  (slices_partialInsertionSortCmpFunc_int_b7 data dataL dataC a b cmp i j_10 h nx0 K)) := by kernel_rfl
theorem slices_partialInsertionSortCmpFunc_int_b7_eq (data : Option Addr) (dataL : Nat) (dataC : Nat) (a : Int) (b : Int) (cmp : Value) (i : Int) (j : Int) (h : Hp) (nx0 : Int × Int × Unit → Hp → Prop) (K : Value → Hp → Prop) : slices_partialInsertionSortCmpFunc_int_b7 data dataL dataC a b cmp i j h nx0 K = (
  InR (b - i) ∧
  cond (decide ((2 : Int) ≤ (b - i)))
  (InR (i + 1) ∧
  LoopVC ((i + 1, ()) : Int × Unit) h (fun (nx1 : Int × Unit → Hp → Prop) (s4 : Int × Unit) h10 => slices_partialInsertionSortCmpFunc_int_b9 s4.1 data dataL dataC a b cmp i j h10 nx0 nx1 K))
  (slices_partialInsertionSortCmpFunc_int_b10 data dataL dataC a b cmp i j h nx0 K)) := by kernel_rfl
theorem slices_partialInsertionSortCmpFunc_int_b8_eq (data : Option Addr) (dataL : Nat) (dataC : Nat) (a : Int) (b : Int) (cmp : Value) (i : Int) (j : Int) (j_11 : Int) (h : Hp) (nx0 : Int × Int × Unit → Hp → Prop) (nx1 : Int × Unit → Hp → Prop) (K : Value → Hp → Prop) : slices_partialInsertionSortCmpFunc_int_b8 data dataL dataC a b cmp i j j_11 h nx0 nx1 K = (
  InR (j_11 - 1) ∧
  nx1 (j_11 - 1, ()) h) := by kernel_rfl
theorem slices_partialInsertionSortCmpFunc_int_b9_eq (j : Int) (data : Option Addr) (dataL : Nat) (dataC : Nat) (a : Int) (b : Int) (cmp : Value) (i : Int) (j_10 : Int) (h : Hp) (nx0 : Int × Int × Unit → Hp → Prop) (nx1 : Int × Unit → Hp → Prop) (K : Value → Hp → Prop) : slices_partialInsertionSortCmpFunc_int_b9 j data dataL dataC a b cmp i j_10 h nx0 nx1 K = (
  cond (decide (j < b))
  ((0 ≤ j ∧ j < (dataL : Int)) ∧
  NN data fun a13 =>
  ∃ n9 : Int, cell h (a13.add (Int.toNat j * 1)) = some (.int .i64 n9) ∧
  InR (j - 1) ∧
  (0 ≤ j - 1 ∧ j - 1 < (dataL : Int)) ∧
  NN data fun a14 =>
  ∃ n10 : Int, cell h (a14.add (Int.toNat (j - 1) * 1)) = some (.int .i64 n10) ∧
  funV cmp fun fg3 fa3 fc3 => callX Try.prog F fg3 (fa3 ++ (([.int .i64 n9, .int .i64 n10] : List Value) ++ fc3)).toArray h fun v3 h11 => ∃ r3 : Int, v3 = .int .i64 r3 ∧
  cond (!(decide (r3 < 0)))
  (slices_partialInsertionSortCmpFunc_int_b10 data dataL dataC a b cmp i j_10 h11 nx0 K)
  (InR (j - 1) ∧
  InR (j - 1) ∧
  (0 ≤ j - 1 ∧ j - 1 < (dataL : Int)) ∧
  NN data fun a15 =>
  ∃ n11 : Int, cell h11 (a15.add (Int.toNat (j - 1) * 1)) = some (.int .i64 n11) ∧
  (0 ≤ j ∧ j < (dataL : Int)) ∧
  NN data fun a16 =>
  ∃ n12 : Int, cell h11 (a16.add (Int.toNat j * 1)) = some (.int .i64 n12) ∧
  (0 ≤ j ∧ j < (dataL : Int)) ∧
  NN data fun a17 =>
  Wr h11 (a17.add (Int.toNat j * 1)) (.int .i64 n11) fun h12 =>
  (0 ≤ j - 1 ∧ j - 1 < (dataL : Int)) ∧
  NN data fun a18 =>
  Wr h12 (a18.add (Int.toNat (j - 1) * 1)) (.int .i64 n12) fun h13 =>
  slices_partialInsertionSortCmpFunc_int_b11 data dataL dataC a b cmp i j_10 j h13 nx0 nx1 K))
  (slices_partialInsertionSortCmpFunc_int_b10 data dataL dataC a b cmp i j_10 h nx0 K)) := by kernel_rfl
theorem slices_partialInsertionSortCmpFunc_int_b10_eq (data : Option Addr) (dataL : Nat) (dataC : Nat) (a : Int) (b : Int) (cmp : Value) (i : Int) (j : Int) (h : Hp) (nx0 : Int × Int × Unit → Hp → Prop) (K : Value → Hp → Prop) : slices_partialInsertionSortCmpFunc_int_b10 data dataL dataC a b cmp i j h nx0 K = (
  InR (j + 1) ∧
  nx0 (i, j + 1, ()) h) := by kernel_rfl
theorem slices_partialInsertionSortCmpFunc_int_b11_eq (data : Option Addr) (dataL : Nat) (dataC : Nat) (a : Int) (b : Int) (cmp : Value) (i : Int) (j : Int) (j_12 : Int) (h : Hp) (nx0 : Int × Int × Unit → Hp → Prop) (nx1 : Int × Unit → Hp → Prop) (K : Value → Hp → Prop) : slices_partialInsertionSortCmpFunc_int_b11 data dataL dataC a b cmp i j j_12 h nx0 nx1 K = (
  InR (j_12 + 1) ∧
  nx1 (j_12 + 1, ()) h) := by kernel_rfl
theorem slices_partialInsertionSortCmpFunc_int_call {data : Option Addr} {dataL : Nat} {dataC : Nat} {a : Int} {b : Int} {cmp : Value} {h : Hp} {K : Value → Hp → Prop} (hk : slices_partialInsertionSortCmpFunc_int_b0 data dataL dataC a b cmp h K) : HCalls Try.prog 83 #[.slice data dataL dataC, .int .i64 a, .int .i64 b, cmp] h K :=
  calls_of_snd slices_partialInsertionSortCmpFunc_int_an Try.func83 (c := bodyOf Try.f83) rfl Try.ntmps83 (Nat.le_of_ble_eq_true rfl) (snd_6 F_ok F_mixed) hk

/-! ### slices_partitionEqualCmpFunc_int -/
def slices_partitionEqualCmpFunc_int_an : Ann := .node none (.leaf) (.node none (.plan (.qu 0 (.qu 1 (.qu 2 (.qu 3 (.qu 4 (.qu 5 (.qu 6 (.qu 7 (.qu 8 (.qu 9 (.qu 10 (.qu 11 (.qu 12 (.wo 13 (.qu 14 (.wo 15 .fin .no)) .no))))))))))))))) (.node none (.leaf) (.node (some [11]) (.loop [0, 1, 4] [(11, .int .i64), (12, .int .i64)] (.node (some [0, 1, 4, 11, 12]) (.loop [0, 1, 4, 12] [(11, .int .i64)] (.node (some [0, 1, 4, 11, 12]) (.node none (.tail 13) (.leaf)) (.leaf))) (.node (some [0, 1, 4, 11, 12]) (.loop [0, 1, 4, 11] [(12, .int .i64)] (.node (some [0, 1, 4, 11, 12]) (.node none (.tail 13) (.leaf)) (.leaf))) (.node none (.leaf) (.node none (.plan (.qu 0 (.qu 1 (.qu 2 (.qu 3 (.qu 4 (.qu 5 (.qu 6 (.qu 7 (.qu 8 (.qu 9 (.qu 10 (.qu 11 (.qu 12 (.wo 13 (.qu 14 (.wo 15 .fin .no)) .no))))))))))))))) (.leaf)))))) (.leaf))))
def slices_partitionEqualCmpFunc_int_K0  (K : Value → Hp → Prop) : Exit → Env → Hp → Prop := retK Try.prog Try.f84.results.toList K
def slices_partitionEqualCmpFunc_int_K1  (K : Value → Hp → Prop) : Exit → Env → Hp → Prop := thenE (fun env h => sx_4 Try.prog F 90 (cp [1, 1, 1, 1] (bodyOf Try.f84)) (ap [1, 1, 1, 1] slices_partitionEqualCmpFunc_int_an) (rs [11] env) h (slices_partitionEqualCmpFunc_int_K0  K)) (slices_partitionEqualCmpFunc_int_K0  K)
def slices_partitionEqualCmpFunc_int_K2  (K : Value → Hp → Prop) : Exit → Env → Hp → Prop := blockE 0 (slices_partitionEqualCmpFunc_int_K1  K)
def slices_partitionEqualCmpFunc_int_K3 (nx0 : Int × Int × Unit → Hp → Prop) (K : Value → Hp → Prop) : Exit → Env → Hp → Prop := thenE (fun env h => getV [(11, .int .i64), (12, .int .i64)] env fun s => nx0 s h) (slices_partitionEqualCmpFunc_int_K2  K)
def slices_partitionEqualCmpFunc_int_K4 (nx0 : Int × Int × Unit → Hp → Prop) (K : Value → Hp → Prop) : Exit → Env → Hp → Prop := blockE 1 (slices_partitionEqualCmpFunc_int_K3 nx0 K)
def slices_partitionEqualCmpFunc_int_K5 (nx0 : Int × Int × Unit → Hp → Prop) (K : Value → Hp → Prop) : Exit → Env → Hp → Prop := thenE (fun env h => sx_3 Try.prog F 90 (cp [1, 1, 1, 0, 2, 2, 2, 1] (bodyOf Try.f84)) (ap [1, 1, 1, 0, 2, 1] slices_partitionEqualCmpFunc_int_an) (rs [0, 1, 4, 11, 12] env) h (slices_partitionEqualCmpFunc_int_K4 nx0 K)) (slices_partitionEqualCmpFunc_int_K4 nx0 K)
def slices_partitionEqualCmpFunc_int_K6 (nx0 : Int × Int × Unit → Hp → Prop) (K : Value → Hp → Prop) : Exit → Env → Hp → Prop := blockE 2 (slices_partitionEqualCmpFunc_int_K5 nx0 K)
def slices_partitionEqualCmpFunc_int_K7 (nx0 : Int × Int × Unit → Hp → Prop) (nx1 : Int × Unit → Hp → Prop) (K : Value → Hp → Prop) : Exit → Env → Hp → Prop := thenE (fun env h => getV [(11, .int .i64)] env fun s => nx1 s h) (slices_partitionEqualCmpFunc_int_K6 nx0 K)
def slices_partitionEqualCmpFunc_int_K8 (nx0 : Int × Int × Unit → Hp → Prop) (K : Value → Hp → Prop) : Exit → Env → Hp → Prop := thenE (fun env h => sx_2 Try.prog F 90 (cp [1, 1, 1, 0, 2, 2, 2, 1, 1] (bodyOf Try.f84)) (ap [1, 1, 1, 0, 2, 1, 1] slices_partitionEqualCmpFunc_int_an) (rs [0, 1, 4, 11, 12] env) h (slices_partitionEqualCmpFunc_int_K4 nx0 K)) (slices_partitionEqualCmpFunc_int_K4 nx0 K)
def slices_partitionEqualCmpFunc_int_K9 (nx0 : Int × Int × Unit → Hp → Prop) (K : Value → Hp → Prop) : Exit → Env → Hp → Prop := blockE 4 (slices_partitionEqualCmpFunc_int_K8 nx0 K)
def slices_partitionEqualCmpFunc_int_K10 (nx0 : Int × Int × Unit → Hp → Prop) (nx1 : Int × Unit → Hp → Prop) (K : Value → Hp → Prop) : Exit → Env → Hp → Prop := thenE (fun env h => getV [(12, .int .i64)] env fun s => nx1 s h) (slices_partitionEqualCmpFunc_int_K9 nx0 K)
def slices_partitionEqualCmpFunc_int_b0 (data : Option Addr) (dataL : Nat) (dataC : Nat) (a : Int) (b : Int) (pivot : Int) (cmp : Value) (h : Hp)  (K : Value → Hp → Prop) : Prop :=
  sx_5 Try.prog F 90 (cp [] (bodyOf Try.f84)) (ap [] slices_partitionEqualCmpFunc_int_an) [(0, .slice data dataL dataC), (1, .int .i64 a), (2, .int .i64 b), (3, .int .i64 pivot), (4, cmp)] h (slices_partitionEqualCmpFunc_int_K0  K)
def slices_partitionEqualCmpFunc_int_b1 (i : Int) (j : Int) (data : Option Addr) (dataL : Nat) (dataC : Nat) (a : Int) (cmp : Value) (h : Hp) (nx0 : Int × Int × Unit → Hp → Prop) (K : Value → Hp → Prop) : Prop :=
  sx_4 Try.prog F 90 (cp [1, 1, 1, 0, 2, 2] (bodyOf Try.f84)) (ap [1, 1, 1, 0, 2] slices_partitionEqualCmpFunc_int_an) [(11, .int .i64 i), (12, .int .i64 j), (0, .slice data dataL dataC), (1, .int .i64 a), (4, cmp)] h (slices_partitionEqualCmpFunc_int_K3 nx0 K)
def slices_partitionEqualCmpFunc_int_b2 (i : Int) (data : Option Addr) (dataL : Nat) (dataC : Nat) (a : Int) (cmp : Value) (j : Int) (h : Hp) (nx0 : Int × Int × Unit → Hp → Prop) (nx1 : Int × Unit → Hp → Prop) (K : Value → Hp → Prop) : Prop :=
  sx_3 Try.prog F 90 (cp [1, 1, 1, 0, 2, 2, 2, 0, 2, 2] (bodyOf Try.f84)) (ap [1, 1, 1, 0, 2, 0, 2] slices_partitionEqualCmpFunc_int_an) [(11, .int .i64 i), (0, .slice data dataL dataC), (1, .int .i64 a), (4, cmp), (12, .int .i64 j)] h (slices_partitionEqualCmpFunc_int_K7 nx0 nx1 K)
def slices_partitionEqualCmpFunc_int_b3 (data : Option Addr) (dataL : Nat) (dataC : Nat) (a : Int) (cmp : Value) (i : Int) (j : Int) (h : Hp) (nx0 : Int × Int × Unit → Hp → Prop) (nx1 : Int × Unit → Hp → Prop) (K : Value → Hp → Prop) : Prop :=
  sx_2 Try.prog F 90 (cp [1, 1, 1, 0, 2, 2, 2, 0, 2, 2, 1] (bodyOf Try.f84)) (ap [1, 1, 1, 0, 2, 0, 2, 1] slices_partitionEqualCmpFunc_int_an) [(0, .slice data dataL dataC), (1, .int .i64 a), (4, cmp), (11, .int .i64 i), (12, .int .i64 j)] h (slices_partitionEqualCmpFunc_int_K7 nx0 nx1 K)
def slices_partitionEqualCmpFunc_int_b4 (data : Option Addr) (dataL : Nat) (dataC : Nat) (a : Int) (cmp : Value) (i : Int) (j : Int) (h : Hp) (nx0 : Int × Int × Unit → Hp → Prop) (K : Value → Hp → Prop) : Prop :=
  sx_3 Try.prog F 90 (cp [1, 1, 1, 0, 2, 2, 2, 1] (bodyOf Try.f84)) (ap [1, 1, 1, 0, 2, 1] slices_partitionEqualCmpFunc_int_an) [(0, .slice data dataL dataC), (1, .int .i64 a), (4, cmp), (11, .int .i64 i), (12, .int .i64 j)] h (slices_partitionEqualCmpFunc_int_K4 nx0 K)
def slices_partitionEqualCmpFunc_int_b5 (j : Int) (data : Option Addr) (dataL : Nat) (dataC : Nat) (a : Int) (cmp : Value) (i : Int) (h : Hp) (nx0 : Int × Int × Unit → Hp → Prop) (nx1 : Int × Unit → Hp → Prop) (K : Value → Hp → Prop) : Prop :=
  sx_2 Try.prog F 90 (cp [1, 1, 1, 0, 2, 2, 2, 1, 0, 2, 2] (bodyOf Try.f84)) (ap [1, 1, 1, 0, 2, 1, 0, 2] slices_partitionEqualCmpFunc_int_an) [(12, .int .i64 j), (0, .slice data dataL dataC), (1, .int .i64 a), (4, cmp), (11, .int .i64 i)] h (slices_partitionEqualCmpFunc_int_K10 nx0 nx1 K)
def slices_partitionEqualCmpFunc_int_b6 (data : Option Addr) (dataL : Nat) (dataC : Nat) (a : Int) (cmp : Value) (i : Int) (j : Int) (h : Hp) (nx0 : Int × Int × Unit → Hp → Prop) (nx1 : Int × Unit → Hp → Prop) (K : Value → Hp → Prop) : Prop :=
  sx_1 Try.prog F 90 (cp [1, 1, 1, 0, 2, 2, 2, 1, 0, 2, 2, 1] (bodyOf Try.f84)) (ap [1, 1, 1, 0, 2, 1, 0, 2, 1] slices_partitionEqualCmpFunc_int_an) [(0, .slice data dataL dataC), (1, .int .i64 a), (4, cmp), (11, .int .i64 i), (12, .int .i64 j)] h (slices_partitionEqualCmpFunc_int_K10 nx0 nx1 K)
def slices_partitionEqualCmpFunc_int_b7 (data : Option Addr) (dataL : Nat) (dataC : Nat) (a : Int) (cmp : Value) (i : Int) (j : Int) (h : Hp) (nx0 : Int × Int × Unit → Hp → Prop) (K : Value → Hp → Prop) : Prop :=
  sx_2 Try.prog F 90 (cp [1, 1, 1, 0, 2, 2, 2, 1, 1] (bodyOf Try.f84)) (ap [1, 1, 1, 0, 2, 1, 1] slices_partitionEqualCmpFunc_int_an) [(0, .slice data dataL dataC), (1, .int .i64 a), (4, cmp), (11, .int .i64 i), (12, .int .i64 j)] h (slices_partitionEqualCmpFunc_int_K4 nx0 K)
def slices_partitionEqualCmpFunc_int_b8 (i : Int) (h : Hp)  (K : Value → Hp → Prop) : Prop :=
  sx_4 Try.prog F 90 (cp [1, 1, 1, 1] (bodyOf Try.f84)) (ap [1, 1, 1, 1] slices_partitionEqualCmpFunc_int_an) [(11, .int .i64 i)] h (slices_partitionEqualCmpFunc_int_K0  K)
theorem slices_partitionEqualCmpFunc_int_b0_eq (data : Option Addr) (dataL : Nat) (dataC : Nat) (a : Int) (b : Int) (pivot : Int) (cmp : Value) (h : Hp)  (K : Value → Hp → Prop) : slices_partitionEqualCmpFunc_int_b0 data dataL dataC a b pivot cmp h  K = (
  (0 ≤ pivot ∧ pivot < (dataL : Int)) ∧
  NN data fun a1 =>
  ∃ n1 : Int, cell h (a1.add (Int.toNat pivot * 1)) = some (.int .i64 n1) ∧
  (0 ≤ a ∧ a < (dataL : Int)) ∧
  NN data fun a2 =>
  ∃ n2 : Int, cell h (a2.add (Int.toNat a * 1)) = some (.int .i64 n2) ∧
  (0 ≤ a ∧ a < (dataL : Int)) ∧
  NN data fun a3 =>
  Wr h (a3.add (Int.toNat a * 1)) (.int .i64 n1) fun h1 =>
  (0 ≤ pivot ∧ pivot < (dataL : Int)) ∧
  NN data fun a4 =>
  Wr h1 (a4.add (Int.toNat pivot * 1)) (.int .i64 n2) fun h2 =>
  InR (a + 1) ∧
  InR (b - 1) ∧
  LoopVC ((a + 1, b - 1, ()) : Int × Int × Unit) h2 (fun (nx0 : Int × Int × Unit → Hp → Prop) (s1 : Int × Int × Unit) h3 => slices_partitionEqualCmpFunc_int_b1 s1.1 s1.2.1 data dataL dataC a cmp h3 nx0 K)) := by kernel_rfl
theorem slices_partitionEqualCmpFunc_int_b1_eq (i : Int) (j : Int) (data : Option Addr) (dataL : Nat) (dataC : Nat) (a : Int) (cmp : Value) (h : Hp) (nx0 : Int × Int × Unit → Hp → Prop) (K : Value → Hp → Prop) : slices_partitionEqualCmpFunc_int_b1 i j data dataL dataC a cmp h nx0 K = (
  LoopVC ((i, ()) : Int × Unit) h (fun (nx1 : Int × Unit → Hp → Prop) (s2 : Int × Unit) h4 => slices_partitionEqualCmpFunc_int_b2 s2.1 data dataL dataC a cmp j h4 nx0 nx1 K)) := by kernel_rfl
theorem slices_partitionEqualCmpFunc_int_b2_eq (i : Int) (data : Option Addr) (dataL : Nat) (dataC : Nat) (a : Int) (cmp : Value) (j : Int) (h : Hp) (nx0 : Int × Int × Unit → Hp → Prop) (nx1 : Int × Unit → Hp → Prop) (K : Value → Hp → Prop) : slices_partitionEqualCmpFunc_int_b2 i data dataL dataC a cmp j h nx0 nx1 K = (
  cond (decide (i ≤ j))
  ((0 ≤ a ∧ a < (dataL : Int)) ∧
  NN data fun a5 =>
  ∃ n3 : Int, cell h (a5.add (Int.toNat a * 1)) = some (.int .i64 n3) ∧
  (0 ≤ i ∧ i < (dataL : Int)) ∧
  NN data fun a6 =>
  ∃ n4 : Int, cell h (a6.add (Int.toNat i * 1)) = some (.int .i64 n4) ∧
  funV cmp fun fg1 fa1 fc1 => callX Try.prog F fg1 (fa1 ++ (([.int .i64 n3, .int .i64 n4] : List Value) ++ fc1)).toArray h fun v1 h5 => ∃ r1 : Int, v1 = .int .i64 r1 ∧
  cond (!(decide (r1 < 0)))
  (slices_partitionEqualCmpFunc_int_b3 data dataL dataC a cmp i j h5 nx0 nx1 K)
  (slices_partitionEqualCmpFunc_int_b4 data dataL dataC a cmp i j h5 nx0 K))
  (slices_partitionEqualCmpFunc_int_b4 data dataL dataC a cmp i j h nx0 K)) := by kernel_rfl
theorem slices_partitionEqualCmpFunc_int_b3_eq (data : Option Addr) (dataL : Nat) (dataC : Nat) (a : Int) (cmp : Value) (i : Int) (j : Int) (h : Hp) (nx0 : Int × Int × Unit → Hp → Prop) (nx1 : Int × Unit → Hp → Prop) (K : Value → Hp → Prop) : slices_partitionEqualCmpFunc_int_b3 data dataL dataC a cmp i j h nx0 nx1 K = (
  InR (i + 1) ∧
  nx1 (i + 1, ()) h) := by kernel_rfl
theorem slices_partitionEqualCmpFunc_int_b4_eq (data : Option Addr) (dataL : Nat) (dataC : Nat) (a : Int) (cmp : Value) (i : Int) (j : Int) (h : Hp) (nx0 : Int × Int × Unit → Hp → Prop) (K : Value → Hp → Prop) : slices_partitionEqualCmpFunc_int_b4 data dataL dataC a cmp i j h nx0 K = (
  LoopVC ((j, ()) : Int × Unit) h (fun (nx1 : Int × Unit → Hp → Prop) (s3 : Int × Unit) h6 => slices_partitionEqualCmpFunc_int_b5 s3.1 data dataL dataC a cmp i h6 nx0 nx1 K)) := by kernel_rfl
theorem slices_partitionEqualCmpFunc_int_b5_eq (j : Int) (data : Option Addr) (dataL : Nat) (dataC : Nat) (a : Int) (cmp : Value) (i : Int) (h : Hp) (nx0 : Int × Int × Unit → Hp → Prop) (nx1 : Int × Unit → Hp → Prop) (K : Value → Hp → Prop) : slices_partitionEqualCmpFunc_int_b5 j data dataL dataC a cmp i h nx0 nx1 K = (
  cond (decide (i ≤ j))
  ((0 ≤ a ∧ a < (dataL : Int)) ∧
  NN data fun a7 =>
  ∃ n5 : Int, cell h (a7.add (Int.toNat a * 1)) = some (.int .i64 n5) ∧
  (0 ≤ j ∧ j < (dataL : Int)) ∧
  NN data fun a8 =>
  ∃ n6 : Int, cell h (a8.add (Int.toNat j * 1)) = some (.int .i64 n6) ∧
  funV cmp fun fg2 fa2 fc2 => callX Try.prog F fg2 (fa2 ++ (([.int .i64 n5, .int .i64 n6] : List Value) ++ fc2)).toArray h fun v2 h7 => ∃ r2 : Int, v2 = .int .i64 r2 ∧
  cond (decide (r2 < 0))
  (slices_partitionEqualCmpFunc_int_b6 data dataL dataC a cmp i j h7 nx0 nx1 K)
  (slices_partitionEqualCmpFunc_int_b7 data dataL dataC a cmp i j h7 nx0 K))
  (slices_partitionEqualCmpFunc_int_b7 data dataL dataC a cmp i j h nx0 K)) := by kernel_rfl
theorem slices_partitionEqualCmpFunc_int_b6_eq (data : Option Addr) (dataL : Nat) (dataC : Nat) (a : Int) (cmp : Value) (i : Int) (j : Int) (h : Hp) (nx0 : Int × Int × Unit → Hp → Prop) (nx1 : Int × Unit → Hp → Prop) (K : Value → Hp → Prop) : slices_partitionEqualCmpFunc_int_b6 data dataL dataC a cmp i j h nx0 nx1 K = (
  InR (j - 1) ∧
  nx1 (j - 1, ()) h) := by kernel_rfl
theorem slices_partitionEqualCmpFunc_int_b7_eq (data : Option Addr) (dataL : Nat) (dataC : Nat) (a : Int) (cmp : Value) (i : Int) (j : Int) (h : Hp) (nx0 : Int × Int × Unit → Hp → Prop) (K : Value → Hp → Prop) : slices_partitionEqualCmpFunc_int_b7 data dataL dataC a cmp i j h nx0 K = (
  cond (decide (j < i))
  (slices_partitionEqualCmpFunc_int_b8 i h  K)
  ((0 ≤ j ∧ j < (dataL : Int)) ∧
  NN data fun a9 =>
  ∃ n7 : Int, cell h (a9.add (Int.toNat j * 1)) = some (.int .i64 n7) ∧
  (0 ≤ i ∧ i < (dataL : Int)) ∧
  NN data fun a10 =>
  ∃ n8 : Int, cell h (a10.add (Int.toNat i * 1)) = some (.int .i64 n8) ∧
  (0 ≤ i ∧ i < (dataL : Int)) ∧
  NN data fun a11 =>
  Wr h (a11.add (Int.toNat i * 1)) (.int .i64 n7) fun h8 =>
  (0 ≤ j ∧ j < (dataL : Int)) ∧
  NN data fun a12 =>
  Wr h8 (a12.add (Int.toNat j * 1)) (.int .i64 n8) fun h9 =>
  InR (i + 1) ∧
  InR (j - 1) ∧
  nx0 (i + 1, j - 1, ()) h9)) := by kernel_rfl
theorem slices_partitionEqualCmpFunc_int_b8_eq (i : Int) (h : Hp)  (K : Value → Hp → Prop) : slices_partitionEqualCmpFunc_int_b8 i h  K = (
  K (.int .i64 i) h) := by kernel_rfl
theorem slices_partitionEqualCmpFunc_int_call {data : Option Addr} {dataL : Nat} {dataC : Nat} {a : Int} {b : Int} {pivot : Int} {cmp : Value} {h : Hp} {K : Value → Hp → Prop} (hk : slices_partitionEqualCmpFunc_int_b0 data dataL dataC a b pivot cmp h K) : HCalls Try.prog 84 #[.slice data dataL dataC, .int .i64 a, .int .i64 b, .int .i64 pivot, cmp] h K :=
  calls_of_snd slices_partitionEqualCmpFunc_int_an Try.func84 (c := bodyOf Try.f84) rfl Try.ntmps84 (Nat.le_of_ble_eq_true rfl) (snd_5 F_ok F_mixed) hk

/-! ### slices_partitionCmpFunc_int -/
def slices_partitionCmpFunc_int_an : Ann := .node none (.leaf) (.node none (.plan (.qu 0 (.qu 1 (.qu 2 (.qu 3 (.qu 4 (.qu 5 (.qu 6 (.qu 7 (.qu 8 (.qu 9 (.qu 10 (.qu 11 (.qu 12 (.wo 13 (.qu 14 (.wo 15 .fin .no)) .no))))))))))))))) (.node none (.leaf) (.node (some [0, 1, 4, 12, 13]) (.loop [0, 1, 4, 13] [(12, .int .i64)] (.node (some [0, 1, 4, 12, 13]) (.node none (.tail 13) (.leaf)) (.leaf))) (.node (some [0, 1, 4, 12, 13]) (.loop [0, 1, 4, 12] [(13, .int .i64)] (.node (some [0, 1, 4, 12, 13]) (.node none (.tail 13) (.leaf)) (.leaf))) (.node none (.node none (.leaf) (.node none (.node none (.plan (.qu 0 (.qu 1 (.qu 2 (.qu 3 (.qu 4 (.qu 5 (.qu 6 (.qu 7 (.qu 8 (.qu 9 (.qu 10 (.qu 11 (.qu 12 (.wo 13 (.qu 14 (.wo 15 .fin .no)) .no))))))))))))))) (.leaf)) (.leaf))) (.node none (.plan (.qu 0 (.qu 1 (.qu 2 (.qu 3 (.qu 4 (.qu 5 (.qu 6 (.qu 7 (.qu 8 (.qu 9 (.qu 10 (.qu 11 (.qu 12 (.wo 13 (.qu 14 (.wo 15 .fin .no)) .no))))))))))))))) (.node none (.leaf) (.node none (.leaf) (.node (some [0, 1, 13]) (.loop [0, 1, 4] [(12, .int .i64), (13, .int .i64)] (.node (some [0, 1, 4, 12, 13]) (.loop [0, 1, 4, 13] [(12, .int .i64)] (.node (some [0, 1, 4, 12, 13]) (.node none (.tail 13) (.leaf)) (.leaf))) (.node (some [0, 1, 4, 12, 13]) (.loop [0, 1, 4, 12] [(13, .int .i64)] (.node (some [0, 1, 4, 12, 13]) (.node none (.tail 13) (.leaf)) (.leaf))) (.node none (.leaf) (.node none (.plan (.qu 0 (.qu 1 (.qu 2 (.qu 3 (.qu 4 (.qu 5 (.qu 6 (.qu 7 (.qu 8 (.qu 9 (.qu 10 (.qu 11 (.qu 12 (.wo 13 (.qu 14 (.wo 15 .fin .no)) .no))))))))))))))) (.leaf)))))) (.node none (.plan (.qu 0 (.qu 1 (.qu 2 (.qu 3 (.qu 4 (.qu 5 (.qu 6 (.qu 7 (.qu 8 (.qu 9 (.qu 10 (.qu 11 (.qu 12 (.wo 13 (.qu 14 (.wo 15 .fin .no)) .no))))))))))))))) (.leaf)))))))))))
def slices_partitionCmpFunc_int_K0  (K : Value → Hp → Prop) : Exit → Env → Hp → Prop := retK Try.prog Try.f85.results.toList K
def slices_partitionCmpFunc_int_K1  (K : Value → Hp → Prop) : Exit → Env → Hp → Prop := thenE (fun env h => sx_6 Try.prog F 178 (cp [1, 1, 1, 1] (bodyOf Try.f85)) (ap [1, 1, 1, 1] slices_partitionCmpFunc_int_an) (rs [0, 1, 4, 12, 13] env) h (slices_partitionCmpFunc_int_K0  K)) (slices_partitionCmpFunc_int_K0  K)
def slices_partitionCmpFunc_int_K2  (K : Value → Hp → Prop) : Exit → Env → Hp → Prop := blockE 0 (slices_partitionCmpFunc_int_K1  K)
def slices_partitionCmpFunc_int_K3 (nx0 : Int × Unit → Hp → Prop) (K : Value → Hp → Prop) : Exit → Env → Hp → Prop := thenE (fun env h => getV [(12, .int .i64)] env fun s => nx0 s h) (slices_partitionCmpFunc_int_K2  K)
def slices_partitionCmpFunc_int_K4  (K : Value → Hp → Prop) : Exit → Env → Hp → Prop := thenE (fun env h => sx_5 Try.prog F 178 (cp [1, 1, 1, 1, 1] (bodyOf Try.f85)) (ap [1, 1, 1, 1, 1] slices_partitionCmpFunc_int_an) (rs [0, 1, 4, 12, 13] env) h (slices_partitionCmpFunc_int_K0  K)) (slices_partitionCmpFunc_int_K0  K)
def slices_partitionCmpFunc_int_K5  (K : Value → Hp → Prop) : Exit → Env → Hp → Prop := blockE 2 (slices_partitionCmpFunc_int_K4  K)
def slices_partitionCmpFunc_int_K6 (nx0 : Int × Unit → Hp → Prop) (K : Value → Hp → Prop) : Exit → Env → Hp → Prop := thenE (fun env h => getV [(13, .int .i64)] env fun s => nx0 s h) (slices_partitionCmpFunc_int_K5  K)
def slices_partitionCmpFunc_int_K7  (K : Value → Hp → Prop) : Exit → Env → Hp → Prop := thenE (fun env h => sx_4 Try.prog F 178 (cp [1, 1, 1, 1, 1, 1, 1, 1, 1, 1] (bodyOf Try.f85)) (ap [1, 1, 1, 1, 1, 1, 1, 1, 1, 1] slices_partitionCmpFunc_int_an) (rs [0, 1, 13] env) h (slices_partitionCmpFunc_int_K0  K)) (slices_partitionCmpFunc_int_K0  K)
def slices_partitionCmpFunc_int_K8  (K : Value → Hp → Prop) : Exit → Env → Hp → Prop := blockE 4 (slices_partitionCmpFunc_int_K7  K)
def slices_partitionCmpFunc_int_K9 (nx0 : Int × Int × Unit → Hp → Prop) (K : Value → Hp → Prop) : Exit → Env → Hp → Prop := thenE (fun env h => getV [(12, .int .i64), (13, .int .i64)] env fun s => nx0 s h) (slices_partitionCmpFunc_int_K8  K)
def slices_partitionCmpFunc_int_K10 (nx0 : Int × Int × Unit → Hp → Prop) (K : Value → Hp → Prop) : Exit → Env → Hp → Prop := blockE 5 (slices_partitionCmpFunc_int_K9 nx0 K)
def slices_partitionCmpFunc_int_K11 (nx0 : Int × Int × Unit → Hp → Prop) (K : Value → Hp → Prop) : Exit → Env → Hp → Prop := thenE (fun env h => sx_3 Try.prog F 178 (cp [1, 1, 1, 1, 1, 1, 1, 1, 1, 0, 2, 2, 2, 1] (bodyOf Try.f85)) (ap [1, 1, 1, 1, 1, 1, 1, 1, 1, 0, 2, 1] slices_partitionCmpFunc_int_an) (rs [0, 1, 4, 12, 13] env) h (slices_partitionCmpFunc_int_K10 nx0 K)) (slices_partitionCmpFunc_int_K10 nx0 K)
def slices_partitionCmpFunc_int_K12 (nx0 : Int × Int × Unit → Hp → Prop) (K : Value → Hp → Prop) : Exit → Env → Hp → Prop := blockE 6 (slices_partitionCmpFunc_int_K11 nx0 K)
def slices_partitionCmpFunc_int_K13 (nx0 : Int × Int × Unit → Hp → Prop) (nx1 : Int × Unit → Hp → Prop) (K : Value → Hp → Prop) : Exit → Env → Hp → Prop := thenE (fun env h => getV [(12, .int .i64)] env fun s => nx1 s h) (slices_partitionCmpFunc_int_K12 nx0 K)
def slices_partitionCmpFunc_int_K14 (nx0 : Int × Int × Unit → Hp → Prop) (K : Value → Hp → Prop) : Exit → Env → Hp → Prop := thenE (fun env h => sx_2 Try.prog F 178 (cp [1, 1, 1, 1, 1, 1, 1, 1, 1, 0, 2, 2, 2, 1, 1] (bodyOf Try.f85)) (ap [1, 1, 1, 1, 1, 1, 1, 1, 1, 0, 2, 1, 1] slices_partitionCmpFunc_int_an) (rs [0, 1, 4, 12, 13] env) h (slices_partitionCmpFunc_int_K10 nx0 K)) (slices_partitionCmpFunc_int_K10 nx0 K)
def slices_partitionCmpFunc_int_K15 (nx0 : Int × Int × Unit → Hp → Prop) (K : Value → Hp → Prop) : Exit → Env → Hp → Prop := blockE 8 (slices_partitionCmpFunc_int_K14 nx0 K)
def slices_partitionCmpFunc_int_K16 (nx0 : Int × Int × Unit → Hp → Prop) (nx1 : Int × Unit → Hp → Prop) (K : Value → Hp → Prop) : Exit → Env → Hp → Prop := thenE (fun env h => getV [(13, .int .i64)] env fun s => nx1 s h) (slices_partitionCmpFunc_int_K15 nx0 K)
def slices_partitionCmpFunc_int_b0 (data : Option Addr) (dataL : Nat) (dataC : Nat) (a : Int) (b : Int) (pivot : Int) (cmp : Value) (h : Hp)  (K : Value → Hp → Prop) : Prop :=
  sx_7 Try.prog F 178 (cp [] (bodyOf Try.f85)) (ap [] slices_partitionCmpFunc_int_an) [(0, .slice data dataL dataC), (1, .int .i64 a), (2, .int .i64 b), (3, .int .i64 pivot), (4, cmp)] h (slices_partitionCmpFunc_int_K0  K)
def slices_partitionCmpFunc_int_b1 (i : Int) (data : Option Addr) (dataL : Nat) (dataC : Nat) (a : Int) (cmp : Value) (j : Int) (h : Hp) (nx0 : Int × Unit → Hp → Prop) (K : Value → Hp → Prop) : Prop :=
  sx_6 Try.prog F 178 (cp [1, 1, 1, 0, 2, 2] (bodyOf Try.f85)) (ap [1, 1, 1, 0, 2] slices_partitionCmpFunc_int_an) [(12, .int .i64 i), (0, .slice data dataL dataC), (1, .int .i64 a), (4, cmp), (13, .int .i64 j)] h (slices_partitionCmpFunc_int_K3 nx0 K)
def slices_partitionCmpFunc_int_b2 (data : Option Addr) (dataL : Nat) (dataC : Nat) (a : Int) (cmp : Value) (i : Int) (j : Int) (h : Hp) (nx0 : Int × Unit → Hp → Prop) (K : Value → Hp → Prop) : Prop :=
  sx_5 Try.prog F 178 (cp [1, 1, 1, 0, 2, 2, 1] (bodyOf Try.f85)) (ap [1, 1, 1, 0, 2, 1] slices_partitionCmpFunc_int_an) [(0, .slice data dataL dataC), (1, .int .i64 a), (4, cmp), (12, .int .i64 i), (13, .int .i64 j)] h (slices_partitionCmpFunc_int_K3 nx0 K)
def slices_partitionCmpFunc_int_b3 (data : Option Addr) (dataL : Nat) (dataC : Nat) (a : Int) (cmp : Value) (i : Int) (j : Int) (h : Hp)  (K : Value → Hp → Prop) : Prop :=
  sx_6 Try.prog F 178 (cp [1, 1, 1, 1] (bodyOf Try.f85)) (ap [1, 1, 1, 1] slices_partitionCmpFunc_int_an) [(0, .slice data dataL dataC), (1, .int .i64 a), (4, cmp), (12, .int .i64 i), (13, .int .i64 j)] h (slices_partitionCmpFunc_int_K0  K)
def slices_partitionCmpFunc_int_b4 (j : Int) (data : Option Addr) (dataL : Nat) (dataC : Nat) (a : Int) (cmp : Value) (i : Int) (h : Hp) (nx0 : Int × Unit → Hp → Prop) (K : Value → Hp → Prop) : Prop :=
  sx_5 Try.prog F 178 (cp [1, 1, 1, 1, 0, 2, 2] (bodyOf Try.f85)) (ap [1, 1, 1, 1, 0, 2] slices_partitionCmpFunc_int_an) [(13, .int .i64 j), (0, .slice data dataL dataC), (1, .int .i64 a), (4, cmp), (12, .int .i64 i)] h (slices_partitionCmpFunc_int_K6 nx0 K)
def slices_partitionCmpFunc_int_b5 (data : Option Addr) (dataL : Nat) (dataC : Nat) (a : Int) (cmp : Value) (i : Int) (j : Int) (h : Hp) (nx0 : Int × Unit → Hp → Prop) (K : Value → Hp → Prop) : Prop :=
  sx_4 Try.prog F 178 (cp [1, 1, 1, 1, 0, 2, 2, 1] (bodyOf Try.f85)) (ap [1, 1, 1, 1, 0, 2, 1] slices_partitionCmpFunc_int_an) [(0, .slice data dataL dataC), (1, .int .i64 a), (4, cmp), (12, .int .i64 i), (13, .int .i64 j)] h (slices_partitionCmpFunc_int_K6 nx0 K)
def slices_partitionCmpFunc_int_b6 (data : Option Addr) (dataL : Nat) (dataC : Nat) (a : Int) (cmp : Value) (i : Int) (j : Int) (h : Hp)  (K : Value → Hp → Prop) : Prop :=
  sx_5 Try.prog F 178 (cp [1, 1, 1, 1, 1] (bodyOf Try.f85)) (ap [1, 1, 1, 1, 1] slices_partitionCmpFunc_int_an) [(0, .slice data dataL dataC), (1, .int .i64 a), (4, cmp), (12, .int .i64 i), (13, .int .i64 j)] h (slices_partitionCmpFunc_int_K0  K)
def slices_partitionCmpFunc_int_b7 (i : Int) (j : Int) (data : Option Addr) (dataL : Nat) (dataC : Nat) (a : Int) (cmp : Value) (h : Hp) (nx0 : Int × Int × Unit → Hp → Prop) (K : Value → Hp → Prop) : Prop :=
  sx_4 Try.prog F 178 (cp [1, 1, 1, 1, 1, 1, 1, 1, 1, 0, 2, 2] (bodyOf Try.f85)) (ap [1, 1, 1, 1, 1, 1, 1, 1, 1, 0, 2] slices_partitionCmpFunc_int_an) [(12, .int .i64 i), (13, .int .i64 j), (0, .slice data dataL dataC), (1, .int .i64 a), (4, cmp)] h (slices_partitionCmpFunc_int_K9 nx0 K)
def slices_partitionCmpFunc_int_b8 (i : Int) (data : Option Addr) (dataL : Nat) (dataC : Nat) (a : Int) (cmp : Value) (j : Int) (h : Hp) (nx0 : Int × Int × Unit → Hp → Prop) (nx1 : Int × Unit → Hp → Prop) (K : Value → Hp → Prop) : Prop :=
  sx_3 Try.prog F 178 (cp [1, 1, 1, 1, 1, 1, 1, 1, 1, 0, 2, 2, 2, 0, 2, 2] (bodyOf Try.f85)) (ap [1, 1, 1, 1, 1, 1, 1, 1, 1, 0, 2, 0, 2] slices_partitionCmpFunc_int_an) [(12, .int .i64 i), (0, .slice data dataL dataC), (1, .int .i64 a), (4, cmp), (13, .int .i64 j)] h (slices_partitionCmpFunc_int_K13 nx0 nx1 K)
def slices_partitionCmpFunc_int_b9 (data : Option Addr) (dataL : Nat) (dataC : Nat) (a : Int) (cmp : Value) (i : Int) (j : Int) (h : Hp) (nx0 : Int × Int × Unit → Hp → Prop) (nx1 : Int × Unit → Hp → Prop) (K : Value → Hp → Prop) : Prop :=
  sx_2 Try.prog F 178 (cp [1, 1, 1, 1, 1, 1, 1, 1, 1, 0, 2, 2, 2, 0, 2, 2, 1] (bodyOf Try.f85)) (ap [1, 1, 1, 1, 1, 1, 1, 1, 1, 0, 2, 0, 2, 1] slices_partitionCmpFunc_int_an) [(0, .slice data dataL dataC), (1, .int .i64 a), (4, cmp), (12, .int .i64 i), (13, .int .i64 j)] h (slices_partitionCmpFunc_int_K13 nx0 nx1 K)
def slices_partitionCmpFunc_int_b10 (data : Option Addr) (dataL : Nat) (dataC : Nat) (a : Int) (cmp : Value) (i : Int) (j : Int) (h : Hp) (nx0 : Int × Int × Unit → Hp → Prop) (K : Value → Hp → Prop) : Prop :=
  sx_3 Try.prog F 178 (cp [1, 1, 1, 1, 1, 1, 1, 1, 1, 0, 2, 2, 2, 1] (bodyOf Try.f85)) (ap [1, 1, 1, 1, 1, 1, 1, 1, 1, 0, 2, 1] slices_partitionCmpFunc_int_an) [(0, .slice data dataL dataC), (1, .int .i64 a), (4, cmp), (12, .int .i64 i), (13, .int .i64 j)] h (slices_partitionCmpFunc_int_K10 nx0 K)
def slices_partitionCmpFunc_int_b11 (j : Int) (data : Option Addr) (dataL : Nat) (dataC : Nat) (a : Int) (cmp : Value) (i : Int) (h : Hp) (nx0 : Int × Int × Unit → Hp → Prop) (nx1 : Int × Unit → Hp → Prop) (K : Value → Hp → Prop) : Prop :=
  sx_2 Try.prog F 178 (cp [1, 1, 1, 1, 1, 1, 1, 1, 1, 0, 2, 2, 2, 1, 0, 2, 2] (bodyOf Try.f85)) (ap [1, 1, 1, 1, 1, 1, 1, 1, 1, 0, 2, 1, 0, 2] slices_partitionCmpFunc_int_an) [(13, .int .i64 j), (0, .slice data dataL dataC), (1, .int .i64 a), (4, cmp), (12, .int .i64 i)] h (slices_partitionCmpFunc_int_K16 nx0 nx1 K)
def slices_partitionCmpFunc_int_b12 (data : Option Addr) (dataL : Nat) (dataC : Nat) (a : Int) (cmp : Value) (i : Int) (j : Int) (h : Hp) (nx0 : Int × Int × Unit → Hp → Prop) (nx1 : Int × Unit → Hp → Prop) (K : Value → Hp → Prop) : Prop :=
  sx_1 Try.prog F 178 (cp [1, 1, 1, 1, 1, 1, 1, 1, 1, 0, 2, 2, 2, 1, 0, 2, 2, 1] (bodyOf Try.f85)) (ap [1, 1, 1, 1, 1, 1, 1, 1, 1, 0, 2, 1, 0, 2, 1] slices_partitionCmpFunc_int_an) [(0, .slice data dataL dataC), (1, .int .i64 a), (4, cmp), (12, .int .i64 i), (13, .int .i64 j)] h (slices_partitionCmpFunc_int_K16 nx0 nx1 K)
def slices_partitionCmpFunc_int_b13 (data : Option Addr) (dataL : Nat) (dataC : Nat) (a : Int) (cmp : Value) (i : Int) (j : Int) (h : Hp) (nx0 : Int × Int × Unit → Hp → Prop) (K : Value → Hp → Prop) : Prop :=
  sx_2 Try.prog F 178 (cp [1, 1, 1, 1, 1, 1, 1, 1, 1, 0, 2, 2, 2, 1, 1] (bodyOf Try.f85)) (ap [1, 1, 1, 1, 1, 1, 1, 1, 1, 0, 2, 1, 1] slices_partitionCmpFunc_int_an) [(0, .slice data dataL dataC), (1, .int .i64 a), (4, cmp), (12, .int .i64 i), (13, .int .i64 j)] h (slices_partitionCmpFunc_int_K10 nx0 K)
def slices_partitionCmpFunc_int_b14 (data : Option Addr) (dataL : Nat) (dataC : Nat) (a : Int) (j : Int) (h : Hp)  (K : Value → Hp → Prop) : Prop :=
  sx_4 Try.prog F 178 (cp [1, 1, 1, 1, 1, 1, 1, 1, 1, 1] (bodyOf Try.f85)) (ap [1, 1, 1, 1, 1, 1, 1, 1, 1, 1] slices_partitionCmpFunc_int_an) [(0, .slice data dataL dataC), (1, .int .i64 a), (13, .int .i64 j)] h (slices_partitionCmpFunc_int_K0  K)
theorem slices_partitionCmpFunc_int_b0_eq (data : Option Addr) (dataL : Nat) (dataC : Nat) (a : Int) (b : Int) (pivot : Int) (cmp : Value) (h : Hp)  (K : Value → Hp → Prop) : slices_partitionCmpFunc_int_b0 data dataL dataC a b pivot cmp h  K = (
  (0 ≤ pivot ∧ pivot < (dataL : Int)) ∧
  NN data fun a1 =>
  ∃ n1 : Int, cell h (a1.add (Int.toNat pivot * 1)) = some (.int .i64 n1) ∧
  (0 ≤ a ∧ a < (dataL : Int)) ∧
  NN data fun a2 =>
  ∃ n2 : Int, cell h (a2.add (Int.toNat a * 1)) = some (.int .i64 n2) ∧
  (0 ≤ a ∧ a < (dataL : Int)) ∧
  NN data fun a3 =>
  Wr h (a3.add (Int.toNat a * 1)) (.int .i64 n1) fun h1 =>
  (0 ≤ pivot ∧ pivot < (dataL : Int)) ∧
  NN data fun a4 =>
  Wr h1 (a4.add (Int.toNat pivot * 1)) (.int .i64 n2) fun h2 =>
  InR (a + 1) ∧
  InR (b - 1) ∧
  LoopVC ((a + 1, ()) : Int × Unit) h2 (fun (nx0 : Int × Unit → Hp → Prop) (s1 : Int × Unit) h3 => slices_partitionCmpFunc_int_b1 s1.1 data dataL dataC a cmp (b - 1) h3 nx0 K)) := by kernel_rfl
theorem slices_partitionCmpFunc_int_b1_eq (i : Int) (data : Option Addr) (dataL : Nat) (dataC : Nat) (a : Int) (cmp : Value) (j : Int) (h : Hp) (nx0 : Int × Unit → Hp → Prop) (K : Value → Hp → Prop) : slices_partitionCmpFunc_int_b1 i data dataL dataC a cmp j h nx0 K = (
  cond (decide (i ≤ j))
  ((0 ≤ i ∧ i < (dataL : Int)) ∧
  NN data fun a5 =>
  ∃ n3 : Int, cell h (a5.add (Int.toNat i * 1)) = some (.int .i64 n3) ∧
  (0 ≤ a ∧ a < (dataL : Int)) ∧
  NN data fun a6 =>
  ∃ n4 : Int, cell h (a6.add (Int.toNat a * 1)) = some (.int .i64 n4) ∧
  funV cmp fun fg1 fa1 fc1 => callX Try.prog F fg1 (fa1 ++ (([.int .i64 n3, .int .i64 n4] : List Value) ++ fc1)).toArray h fun v1 h4 => ∃ r1 : Int, v1 = .int .i64 r1 ∧
  cond (decide (r1 < 0))
  (slices_partitionCmpFunc_int_b2 data dataL dataC a cmp i j h4 nx0 K)
  (slices_partitionCmpFunc_int_b3 data dataL dataC a cmp i j h4  K))
  (slices_partitionCmpFunc_int_b3 data dataL dataC a cmp i j h  K)) := by kernel_rfl
theorem slices_partitionCmpFunc_int_b2_eq (data : Option Addr) (dataL : Nat) (dataC : Nat) (a : Int) (cmp : Value) (i : Int) (j : Int) (h : Hp) (nx0 : Int × Unit → Hp → Prop) (K : Value → Hp → Prop) : slices_partitionCmpFunc_int_b2 data dataL dataC a cmp i j h nx0 K = (
  InR (i + 1) ∧
  nx0 (i + 1, ()) h) := by kernel_rfl
theorem slices_partitionCmpFunc_int_b3_eq (data : Option Addr) (dataL : Nat) (dataC : Nat) (a : Int) (cmp : Value) (i : Int) (j : Int) (h : Hp)  (K : Value → Hp → Prop) : slices_partitionCmpFunc_int_b3 data dataL dataC a cmp i j h  K = (
  LoopVC ((j, ()) : Int × Unit) h (fun (nx0 : Int × Unit → Hp → Prop) (s2 : Int × Unit) h5 => slices_partitionCmpFunc_int_b4 s2.1 data dataL dataC a cmp i h5 nx0 K)) := by kernel_rfl
theorem slices_partitionCmpFunc_int_b4_eq (j : Int) (data : Option Addr) (dataL : Nat) (dataC : Nat) (a : Int) (cmp : Value) (i : Int) (h : Hp) (nx0 : Int × Unit → Hp → Prop) (K : Value → Hp → Prop) : slices_partitionCmpFunc_int_b4 j data dataL dataC a cmp i h nx0 K = (
  cond (decide (i ≤ j))
  ((0 ≤ j ∧ j < (dataL : Int)) ∧
  NN data fun a7 =>
  ∃ n5 : Int, cell h (a7.add (Int.toNat j * 1)) = some (.int .i64 n5) ∧
  (0 ≤ a ∧ a < (dataL : Int)) ∧
  NN data fun a8 =>
  ∃ n6 : Int, cell h (a8.add (Int.toNat a * 1)) = some (.int .i64 n6) ∧
  funV cmp fun fg2 fa2 fc2 => callX Try.prog F fg2 (fa2 ++ (([.int .i64 n5, .int .i64 n6] : List Value) ++ fc2)).toArray h fun v2 h6 => ∃ r2 : Int, v2 = .int .i64 r2 ∧
  cond (!(decide (r2 < 0)))
  (slices_partitionCmpFunc_int_b5 data dataL dataC a cmp i j h6 nx0 K)
  (slices_partitionCmpFunc_int_b6 data dataL dataC a cmp i j h6  K))
  (slices_partitionCmpFunc_int_b6 data dataL dataC a cmp i j h  K)) := by kernel_rfl
theorem slices_partitionCmpFunc_int_b5_eq (data : Option Addr) (dataL : Nat) (dataC : Nat) (a : Int) (cmp : Value) (i : Int) (j : Int) (h : Hp) (nx0 : Int × Unit → Hp → Prop) (K : Value → Hp → Prop) : slices_partitionCmpFunc_int_b5 data dataL dataC a cmp i j h nx0 K = (
  InR (j - 1) ∧
  nx0 (j - 1, ()) h) := by kernel_rfl
theorem slices_partitionCmpFunc_int_b6_eq (data : Option Addr) (dataL : Nat) (dataC : Nat) (a : Int) (cmp : Value) (i : Int) (j : Int) (h : Hp)  (K : Value → Hp → Prop) : slices_partitionCmpFunc_int_b6 data dataL dataC a cmp i j h  K = (
  cond (decide (j < i))
  ((0 ≤ a ∧ a < (dataL : Int)) ∧
  NN data fun a9 =>
  ∃ n7 : Int, cell h (a9.add (Int.toNat a * 1)) = some (.int .i64 n7) ∧
  (0 ≤ j ∧ j < (dataL : Int)) ∧
  NN data fun a10 =>
  ∃ n8 : Int, cell h (a10.add (Int.toNat j * 1)) = some (.int .i64 n8) ∧
  (0 ≤ j ∧ j < (dataL : Int)) ∧
  NN data fun a11 =>
  Wr h (a11.add (Int.toNat j * 1)) (.int .i64 n7) fun h7 =>
  (0 ≤ a ∧ a < (dataL : Int)) ∧
  NN data fun a12 =>
  Wr h7 (a12.add (Int.toNat a * 1)) (.int .i64 n8) fun h8 =>
  K (.tuple #[.int .i64 j, .bool true]) h8)
  ((0 ≤ j ∧ j < (dataL : Int)) ∧
  NN data fun a13 =>
  ∃ n9 : Int, cell h (a13.add (Int.toNat j * 1)) = some (.int .i64 n9) ∧
  (0 ≤ i ∧ i < (dataL : Int)) ∧
  NN data fun a14 =>
  ∃ n10 : Int, cell h (a14.add (Int.toNat i * 1)) = some (.int .i64 n10) ∧
  (0 ≤ i ∧ i < (dataL : Int)) ∧
  NN data fun a15 =>
  Wr h (a15.add (Int.toNat i * 1)) (.int .i64 n9) fun h9 =>
  (0 ≤ j ∧ j < (dataL : Int)) ∧
  NN data fun a16 =>
  Wr h9 (a16.add (Int.toNat j * 1)) (.int .i64 n10) fun h10 =>
  InR (i + 1) ∧
  InR (j - 1) ∧
  LoopVC ((i + 1, j - 1, ()) : Int × Int × Unit) h10 (fun (nx0 : Int × Int × Unit → Hp → Prop) (s3 : Int × Int × Unit) h11 => slices_partitionCmpFunc_int_b7 s3.1 s3.2.1 data dataL dataC a cmp h11 nx0 K))) := by kernel_rfl
theorem slices_partitionCmpFunc_int_b7_eq (i : Int) (j : Int) (data : Option Addr) (dataL : Nat) (dataC : Nat) (a : Int) (cmp : Value) (h : Hp) (nx0 : Int × Int × Unit → Hp → Prop) (K : Value → Hp → Prop) : slices_partitionCmpFunc_int_b7 i j data dataL dataC a cmp h nx0 K = (
  LoopVC ((i, ()) : Int × Unit) h (fun (nx1 : Int × Unit → Hp → Prop) (s4 : Int × Unit) h12 => slices_partitionCmpFunc_int_b8 s4.1 data dataL dataC a cmp j h12 nx0 nx1 K)) := by kernel_rfl
theorem slices_partitionCmpFunc_int_b8_eq (i : Int) (data : Option Addr) (dataL : Nat) (dataC : Nat) (a : Int) (cmp : Value) (j : Int) (h : Hp) (nx0 : Int × Int × Unit → Hp → Prop) (nx1 : Int × Unit → Hp → Prop) (K : Value → Hp → Prop) : slices_partitionCmpFunc_int_b8 i data dataL dataC a cmp j h nx0 nx1 K = (
  cond (decide (i ≤ j))
  ((0 ≤ i ∧ i < (dataL : Int)) ∧
  NN data fun a17 =>
  ∃ n11 : Int, cell h (a17.add (Int.toNat i * 1)) = some (.int .i64 n11) ∧
  (0 ≤ a ∧ a < (dataL : Int)) ∧
  NN data fun a18 =>
  ∃ n12 : Int, cell h (a18.add (Int.toNat a * 1)) = some (.int .i64 n12) ∧
  funV cmp fun fg3 fa3 fc3 => callX Try.prog F fg3 (fa3 ++ (([.int .i64 n11, .int .i64 n12] : List Value) ++ fc3)).toArray h fun v3 h13 => ∃ r3 : Int, v3 = .int .i64 r3 ∧
  cond (decide (r3 < 0))
  (slices_partitionCmpFunc_int_b9 data dataL dataC a cmp i j h13 nx0 nx1 K)
  (slices_partitionCmpFunc_int_b10 data dataL dataC a cmp i j h13 nx0 K))
  (slices_partitionCmpFunc_int_b10 data dataL dataC a cmp i j h nx0 K)) := by kernel_rfl
theorem slices_partitionCmpFunc_int_b9_eq (data : Option Addr) (dataL : Nat) (dataC : Nat) (a : Int) (cmp : Value) (i : Int) (j : Int) (h : Hp) (nx0 : Int × Int × Unit → Hp → Prop) (nx1 : Int × Unit → Hp → Prop) (K : Value → Hp → Prop) : slices_partitionCmpFunc_int_b9 data dataL dataC a cmp i j h nx0 nx1 K = (
  InR (i + 1) ∧
  nx1 (i + 1, ()) h) := by kernel_rfl
theorem slices_partitionCmpFunc_int_b10_eq (data : Option Addr) (dataL : Nat) (dataC : Nat) (a : Int) (cmp : Value) (i : Int) (j : Int) (h : Hp) (nx0 : Int × Int × Unit → Hp → Prop) (K : Value → Hp → Prop) : slices_partitionCmpFunc_int_b10 data dataL dataC a cmp i j h nx0 K = (
  LoopVC ((j, ()) : Int × Unit) h (fun (nx1 : Int × Unit → Hp → Prop) (s5 : Int × Unit) h14 => slices_partitionCmpFunc_int_b11 s5.1 data dataL dataC a cmp i h14 nx0 nx1 K)) := by kernel_rfl
theorem slices_partitionCmpFunc_int_b11_eq (j : Int) (data : Option Addr) (dataL : Nat) (dataC : Nat) (a : Int) (cmp : Value) (i : Int) (h : Hp) (nx0 : Int × Int × Unit → Hp → Prop) (nx1 : Int × Unit → Hp → Prop) (K : Value → Hp → Prop) : slices_partitionCmpFunc_int_b11 j data dataL dataC a cmp i h nx0 nx1 K = (
  cond (decide (i ≤ j))
  ((0 ≤ j ∧ j < (dataL : Int)) ∧
  NN data fun a19 =>
  ∃ n13 : Int, cell h (a19.add (Int.toNat j * 1)) = some (.int .i64 n13) ∧
  (0 ≤ a ∧ a < (dataL : Int)) ∧
  NN data fun a20 =>
  ∃ n14 : Int, cell h (a20.add (Int.toNat a * 1)) = some (.int .i64 n14) ∧
  funV cmp fun fg4 fa4 fc4 => callX Try.prog F fg4 (fa4 ++ (([.int .i64 n13, .int .i64 n14] : List Value) ++ fc4)).toArray h fun v4 h15 => ∃ r4 : Int, v4 = .int .i64 r4 ∧
  cond (!(decide (r4 < 0)))
  (slices_partitionCmpFunc_int_b12 data dataL dataC a cmp i j h15 nx0 nx1 K)
  (slices_partitionCmpFunc_int_b13 data dataL dataC a cmp i j h15 nx0 K))
  (slices_partitionCmpFunc_int_b13 data dataL dataC a cmp i j h nx0 K)) := by kernel_rfl
theorem slices_partitionCmpFunc_int_b12_eq (data : Option Addr) (dataL : Nat) (dataC : Nat) (a : Int) (cmp : Value) (i : Int) (j : Int) (h : Hp) (nx0 : Int × Int × Unit → Hp → Prop) (nx1 : Int × Unit → Hp → Prop) (K : Value → Hp → Prop) : slices_partitionCmpFunc_int_b12 data dataL dataC a cmp i j h nx0 nx1 K = (
  InR (j - 1) ∧
  nx1 (j - 1, ()) h) := by kernel_rfl
theorem slices_partitionCmpFunc_int_b13_eq (data : Option Addr) (dataL : Nat) (dataC : Nat) (a : Int) (cmp : Value) (i : Int) (j : Int) (h : Hp) (nx0 : Int × Int × Unit → Hp → Prop) (K : Value → Hp → Prop) : slices_partitionCmpFunc_int_b13 data dataL dataC a cmp i j h nx0 K = (
  cond (decide (j < i))
  (slices_partitionCmpFunc_int_b14 data dataL dataC a j h  K)
  ((0 ≤ j ∧ j < (dataL : Int)) ∧
  NN data fun a21 =>
  ∃ n15 : Int, cell h (a21.add (Int.toNat j * 1)) = some (.int .i64 n15) ∧
  (0 ≤ i ∧ i < (dataL : Int)) ∧
  NN data fun a22 =>
  ∃ n16 : Int, cell h (a22.add (Int.toNat i * 1)) = some (.int .i64 n16) ∧
  (0 ≤ i ∧ i < (dataL : Int)) ∧
  NN data fun a23 =>
  Wr h (a23.add (Int.toNat i * 1)) (.int .i64 n15) fun h16 =>
  (0 ≤ j ∧ j < (dataL : Int)) ∧
  NN data fun a24 =>
  Wr h16 (a24.add (Int.toNat j * 1)) (.int .i64 n16) fun h17 =>
  InR (i + 1) ∧
  InR (j - 1) ∧
  nx0 (i + 1, j - 1, ()) h17)) := by kernel_rfl
theorem slices_partitionCmpFunc_int_b14_eq (data : Option Addr) (dataL : Nat) (dataC : Nat) (a : Int) (j : Int) (h : Hp)  (K : Value → Hp → Prop) : slices_partitionCmpFunc_int_b14 data dataL dataC a j h  K = (
  (0 ≤ a ∧ a < (dataL : Int)) ∧
  NN data fun a25 =>
  ∃ n17 : Int, cell h (a25.add (Int.toNat a * 1)) = some (.int .i64 n17) ∧
  (0 ≤ j ∧ j < (dataL : Int)) ∧
  NN data fun a26 =>
  ∃ n18 : Int, cell h (a26.add (Int.toNat j * 1)) = some (.int .i64 n18) ∧
  (0 ≤ j ∧ j < (dataL : Int)) ∧
  NN data fun a27 =>
  Wr h (a27.add (Int.toNat j * 1)) (.int .i64 n17) fun h18 =>
  (0 ≤ a ∧ a < (dataL : Int)) ∧
  NN data fun a28 =>
  Wr h18 (a28.add (Int.toNat a * 1)) (.int .i64 n18) fun h19 =>
  K (.tuple #[.int .i64 j, .bool false]) h19) := by kernel_rfl
theorem slices_partitionCmpFunc_int_call {data : Option Addr} {dataL : Nat} {dataC : Nat} {a : Int} {b : Int} {pivot : Int} {cmp : Value} {h : Hp} {K : Value → Hp → Prop} (hk : slices_partitionCmpFunc_int_b0 data dataL dataC a b pivot cmp h K) : HCalls Try.prog 85 #[.slice data dataL dataC, .int .i64 a, .int .i64 b, .int .i64 pivot, cmp] h K :=
  calls_of_snd slices_partitionCmpFunc_int_an Try.func85 (c := bodyOf Try.f85) rfl Try.ntmps85 (Nat.le_of_ble_eq_true rfl) (snd_7 F_ok F_mixed) hk

/-! ### ones64 -/
def ones64_an : Ann := .leaf
def ones64_K0  (K : Value → Hp → Prop) : Exit → Env → Hp → Prop := retK Try.prog Try.f86.results.toList K
def ones64_b0 (x : Int) (h : Hp)  (K : Value → Hp → Prop) : Prop :=
  sx_1 Try.prog F 35 (cp [] (bodyOf Try.f86)) (ap [] ones64_an) [(0, .int .u64 x)] h (ones64_K0  K)
theorem ones64_b0_eq (x : Int) (h : Hp)  (K : Value → Hp → Prop) : ones64_b0 x h  K = (
  ∃ sr1 : Int, Sx.Shr .u64 x 1 sr1 ∧
  ∃ an1 : Int, Sx.And .u64 sr1 6148914691236517205 an1 ∧
  ∃ an2 : Int, Sx.And .u64 x 6148914691236517205 an2 ∧
  ∃ sr2 : Int, Sx.Shr .u64 (IntKind.u64.wrap (an1 + an2)) 2 sr2 ∧
  ∃ an3 : Int, Sx.And .u64 sr2 3689348814741910323 an3 ∧
  ∃ an4 : Int, Sx.And .u64 (IntKind.u64.wrap (an1 + an2)) 3689348814741910323 an4 ∧
  ∃ sr3 : Int, Sx.Shr .u64 (IntKind.u64.wrap (an3 + an4)) 4 sr3 ∧
  ∃ an5 : Int, Sx.And .u64 (IntKind.u64.wrap (sr3 + (IntKind.u64.wrap (an3 + an4)))) 1085102592571150095 an5 ∧
  ∃ sr4 : Int, Sx.Shr .u64 an5 8 sr4 ∧
  ∃ sr5 : Int, Sx.Shr .u64 (IntKind.u64.wrap (an5 + sr4)) 16 sr5 ∧
  ∃ sr6 : Int, Sx.Shr .u64 (IntKind.u64.wrap ((IntKind.u64.wrap (an5 + sr4)) + sr5)) 32 sr6 ∧
  InR (IntKind.u64.wrap ((IntKind.u64.wrap ((IntKind.u64.wrap (an5 + sr4)) + sr5)) + sr6)) ∧
  ∃ an6 : Int, Sx.And .i64 (IntKind.u64.wrap ((IntKind.u64.wrap ((IntKind.u64.wrap (an5 + sr4)) + sr5)) + sr6)) 127 an6 ∧
  K (.int .i64 an6) h) := by kernel_rfl
theorem ones64_call {x : Int} {h : Hp} {K : Value → Hp → Prop} (hk : ones64_b0 x h K) : HCalls Try.prog 86 #[.int .u64 x] h K :=
  calls_of_snd ones64_an Try.func86 (c := bodyOf Try.f86) rfl Try.ntmps86 (Nat.le_of_ble_eq_true rfl) (snd_1 F_ok F_mixed) hk

/-! ### slices_symMergeCmpFunc_int -/
def slices_symMergeCmpFunc_int_an : Ann := .node none (.node none (.leaf) (.node none (.node none (.leaf) (.node none (.leaf) (.node (some [0, 1, 10]) (.loop [0, 1, 4] [(10, .int .i64), (11, .int .i64)] (.node none (.leaf) (.node none (.leaf) (.node none (.tail 9) (.leaf))))) (.node none (.node none (.leaf) (.loop [0, 10] [(13, .int .i64)] (.node none (.leaf) (.node (some [0, 10, 13]) (.plan (.qu 0 (.qu 1 (.qu 2 (.qu 3 (.qu 4 (.qu 5 (.qu 6 (.qu 7 (.qu 8 (.qu 9 (.qu 10 (.qu 11 (.qu 12 (.qu 13 (.qu 14 (.wo 15 (.qu 16 (.wo 17 .fin .no)) .no))))))))))))))))) (.leaf))))) (.leaf))))) (.leaf))) (.node none (.node none (.leaf) (.node none (.node none (.leaf) (.node none (.leaf) (.node (some [0, 2, 14]) (.loop [0, 2, 4] [(14, .int .i64), (15, .int .i64)] (.node none (.leaf) (.node none (.leaf) (.node none (.tail 9) (.leaf))))) (.node none (.node none (.leaf) (.loop [0, 14] [(17, .int .i64)] (.node none (.leaf) (.node (some [0, 14, 17]) (.plan (.qu 0 (.qu 1 (.qu 2 (.qu 3 (.qu 4 (.qu 5 (.qu 6 (.qu 7 (.qu 8 (.qu 9 (.qu 10 (.qu 11 (.qu 12 (.qu 13 (.qu 14 (.wo 15 (.qu 16 (.wo 17 .fin .no)) .no))))))))))))))))) (.leaf))))) (.leaf))))) (.leaf))) (.node none (.leaf) (.node none (.leaf) (.node none (.leaf) (.node (some [0, 1, 2, 3, 4, 18, 19, 20, 21]) (.leaf) (.node none (.leaf) (.node (some [0, 1, 2, 3, 4, 18, 19, 20]) (.loop [0, 1, 2, 3, 4, 18, 19, 22] [(20, .int .i64), (21, .int .i64)] (.node none (.leaf) (.node none (.leaf) (.node none (.tail 11) (.leaf))))) (.node none (.leaf) (.node (some [0, 1, 3, 4, 18, 20, 24]) (.leaf) (.node (some [0, 3, 4, 18, 24]) (.leaf) (.leaf)))))))))))
def slices_symMergeCmpFunc_int_K0  (K : Value → Hp → Prop) : Exit → Env → Hp → Prop := retK Try.prog Try.f87.results.toList K
def slices_symMergeCmpFunc_int_K1  (K : Value → Hp → Prop) : Exit → Env → Hp → Prop := thenE (fun env h => sx0 Try.prog F 220 (sx_4 Try.prog F 220) (cp [1] (bodyOf Try.f87)) (ap [1] slices_symMergeCmpFunc_int_an) env h (slices_symMergeCmpFunc_int_K0  K)) (slices_symMergeCmpFunc_int_K0  K)
def slices_symMergeCmpFunc_int_K2  (K : Value → Hp → Prop) : Exit → Env → Hp → Prop := thenE (fun env h => sx_4 Try.prog F 220 (cp [0, 1, 0, 1, 1, 1] (bodyOf Try.f87)) (ap [0, 1, 0, 1, 1, 1] slices_symMergeCmpFunc_int_an) (rs [0, 1, 10] env) h (slices_symMergeCmpFunc_int_K1  K)) (slices_symMergeCmpFunc_int_K1  K)
def slices_symMergeCmpFunc_int_K3  (K : Value → Hp → Prop) : Exit → Env → Hp → Prop := blockE 0 (slices_symMergeCmpFunc_int_K2  K)
def slices_symMergeCmpFunc_int_K4 (nx0 : Int × Int × Unit → Hp → Prop) (K : Value → Hp → Prop) : Exit → Env → Hp → Prop := thenE (fun env h => getV [(10, .int .i64), (11, .int .i64)] env fun s => nx0 s h) (slices_symMergeCmpFunc_int_K3  K)
def slices_symMergeCmpFunc_int_K5  (K : Value → Hp → Prop) : Exit → Env → Hp → Prop := thenE (fun env h => sx0 Try.prog F 220 (sx_4 Try.prog F 220) (cp [1, 1] (bodyOf Try.f87)) (ap [1, 1] slices_symMergeCmpFunc_int_an) env h (slices_symMergeCmpFunc_int_K0  K)) (slices_symMergeCmpFunc_int_K0  K)
def slices_symMergeCmpFunc_int_K6  (K : Value → Hp → Prop) : Exit → Env → Hp → Prop := thenE (fun env h => sx_4 Try.prog F 220 (cp [1, 0, 1, 0, 1, 1, 1] (bodyOf Try.f87)) (ap [1, 0, 1, 0, 1, 1, 1] slices_symMergeCmpFunc_int_an) (rs [0, 2, 14] env) h (slices_symMergeCmpFunc_int_K5  K)) (slices_symMergeCmpFunc_int_K5  K)
def slices_symMergeCmpFunc_int_K7  (K : Value → Hp → Prop) : Exit → Env → Hp → Prop := blockE 4 (slices_symMergeCmpFunc_int_K6  K)
def slices_symMergeCmpFunc_int_K8 (nx0 : Int × Int × Unit → Hp → Prop) (K : Value → Hp → Prop) : Exit → Env → Hp → Prop := thenE (fun env h => getV [(14, .int .i64), (15, .int .i64)] env fun s => nx0 s h) (slices_symMergeCmpFunc_int_K7  K)
def slices_symMergeCmpFunc_int_K9  (K : Value → Hp → Prop) : Exit → Env → Hp → Prop := thenE (fun env h => sx_3 Try.prog F 220 (cp [1, 1, 1, 1, 1, 1, 1, 1] (bodyOf Try.f87)) (ap [1, 1, 1, 1, 1, 1, 1, 1] slices_symMergeCmpFunc_int_an) (rs [0, 1, 2, 3, 4, 18, 19, 20] env) h (slices_symMergeCmpFunc_int_K0  K)) (slices_symMergeCmpFunc_int_K0  K)
def slices_symMergeCmpFunc_int_K10  (K : Value → Hp → Prop) : Exit → Env → Hp → Prop := blockE 8 (slices_symMergeCmpFunc_int_K9  K)
def slices_symMergeCmpFunc_int_K11 (nx0 : Int × Int × Unit → Hp → Prop) (K : Value → Hp → Prop) : Exit → Env → Hp → Prop := thenE (fun env h => getV [(20, .int .i64), (21, .int .i64)] env fun s => nx0 s h) (slices_symMergeCmpFunc_int_K10  K)
def slices_symMergeCmpFunc_int_K12  (K : Value → Hp → Prop) : Exit → Env → Hp → Prop := thenE (fun env h => sx0 Try.prog F 220 (sx_3 Try.prog F 220) (cp [0, 1, 0, 1, 1, 1, 1] (bodyOf Try.f87)) (ap [0, 1, 0, 1, 1, 1, 1] slices_symMergeCmpFunc_int_an) env h (slices_symMergeCmpFunc_int_K1  K)) (slices_symMergeCmpFunc_int_K1  K)
def slices_symMergeCmpFunc_int_K13  (K : Value → Hp → Prop) : Exit → Env → Hp → Prop := blockE 2 (slices_symMergeCmpFunc_int_K12  K)
def slices_symMergeCmpFunc_int_K14 (nx0 : Int × Unit → Hp → Prop) (K : Value → Hp → Prop) : Exit → Env → Hp → Prop := thenE (fun env h => getV [(13, .int .i64)] env fun s => nx0 s h) (slices_symMergeCmpFunc_int_K13  K)
def slices_symMergeCmpFunc_int_K15  (K : Value → Hp → Prop) : Exit → Env → Hp → Prop := thenE (fun env h => sx0 Try.prog F 220 (sx_3 Try.prog F 220) (cp [1, 0, 1, 0, 1, 1, 1, 1] (bodyOf Try.f87)) (ap [1, 0, 1, 0, 1, 1, 1, 1] slices_symMergeCmpFunc_int_an) env h (slices_symMergeCmpFunc_int_K5  K)) (slices_symMergeCmpFunc_int_K5  K)
def slices_symMergeCmpFunc_int_K16  (K : Value → Hp → Prop) : Exit → Env → Hp → Prop := blockE 6 (slices_symMergeCmpFunc_int_K15  K)
def slices_symMergeCmpFunc_int_K17 (nx0 : Int × Unit → Hp → Prop) (K : Value → Hp → Prop) : Exit → Env → Hp → Prop := thenE (fun env h => getV [(17, .int .i64)] env fun s => nx0 s h) (slices_symMergeCmpFunc_int_K16  K)
def slices_symMergeCmpFunc_int_b0 (data : Option Addr) (dataL : Nat) (dataC : Nat) (a : Int) (m : Int) (b : Int) (cmp : Value) (h : Hp)  (K : Value → Hp → Prop) : Prop :=
  sx_5 Try.prog F 220 (cp [] (bodyOf Try.f87)) (ap [] slices_symMergeCmpFunc_int_an) [(0, .slice data dataL dataC), (1, .int .i64 a), (2, .int .i64 m), (3, .int .i64 b), (4, cmp)] h (slices_symMergeCmpFunc_int_K0  K)
def slices_symMergeCmpFunc_int_b1 (i : Int) (j : Int) (data : Option Addr) (dataL : Nat) (dataC : Nat) (a : Int) (cmp : Value) (h : Hp) (nx0 : Int × Int × Unit → Hp → Prop) (K : Value → Hp → Prop) : Prop :=
  sx_4 Try.prog F 220 (cp [0, 1, 0, 1, 1, 0, 2, 2] (bodyOf Try.f87)) (ap [0, 1, 0, 1, 1, 0, 2] slices_symMergeCmpFunc_int_an) [(10, .int .i64 i), (11, .int .i64 j), (0, .slice data dataL dataC), (1, .int .i64 a), (4, cmp)] h (slices_symMergeCmpFunc_int_K4 nx0 K)
def slices_symMergeCmpFunc_int_b2 (i : Int) (j : Int) (data : Option Addr) (dataL : Nat) (dataC : Nat) (m : Int) (cmp : Value) (h : Hp) (nx0 : Int × Int × Unit → Hp → Prop) (K : Value → Hp → Prop) : Prop :=
  sx_4 Try.prog F 220 (cp [1, 0, 1, 0, 1, 1, 0, 2, 2] (bodyOf Try.f87)) (ap [1, 0, 1, 0, 1, 1, 0, 2] slices_symMergeCmpFunc_int_an) [(14, .int .i64 i), (15, .int .i64 j), (0, .slice data dataL dataC), (2, .int .i64 m), (4, cmp)] h (slices_symMergeCmpFunc_int_K8 nx0 K)
def slices_symMergeCmpFunc_int_b3 (data : Option Addr) (dataL : Nat) (dataC : Nat) (a : Int) (m : Int) (b : Int) (cmp : Value) (mid : Int) (nv : Int) (start : Int) (r : Int) (h : Hp)  (K : Value → Hp → Prop) : Prop :=
  sx_4 Try.prog F 220 (cp [1, 1, 1, 1, 1, 1] (bodyOf Try.f87)) (ap [1, 1, 1, 1, 1, 1] slices_symMergeCmpFunc_int_an) [(0, .slice data dataL dataC), (1, .int .i64 a), (2, .int .i64 m), (3, .int .i64 b), (4, cmp), (18, .int .i64 mid), (19, .int .i64 nv), (20, .int .i64 start), (21, .int .i64 r)] h (slices_symMergeCmpFunc_int_K0  K)
def slices_symMergeCmpFunc_int_b4 (data : Option Addr) (dataL : Nat) (dataC : Nat) (a : Int) (i : Int) (h : Hp)  (K : Value → Hp → Prop) : Prop :=
  sx_4 Try.prog F 220 (cp [0, 1, 0, 1, 1, 1] (bodyOf Try.f87)) (ap [0, 1, 0, 1, 1, 1] slices_symMergeCmpFunc_int_an) [(0, .slice data dataL dataC), (1, .int .i64 a), (10, .int .i64 i)] h (slices_symMergeCmpFunc_int_K1  K)
def slices_symMergeCmpFunc_int_b5 (data : Option Addr) (dataL : Nat) (dataC : Nat) (m : Int) (i : Int) (h : Hp)  (K : Value → Hp → Prop) : Prop :=
  sx_4 Try.prog F 220 (cp [1, 0, 1, 0, 1, 1, 1] (bodyOf Try.f87)) (ap [1, 0, 1, 0, 1, 1, 1] slices_symMergeCmpFunc_int_an) [(0, .slice data dataL dataC), (2, .int .i64 m), (14, .int .i64 i)] h (slices_symMergeCmpFunc_int_K5  K)
def slices_symMergeCmpFunc_int_b6 (start : Int) (r : Int) (data : Option Addr) (dataL : Nat) (dataC : Nat) (a : Int) (m : Int) (b : Int) (cmp : Value) (mid : Int) (nv : Int) (p : Int) (h : Hp) (nx0 : Int × Int × Unit → Hp → Prop) (K : Value → Hp → Prop) : Prop :=
  sx_3 Try.prog F 220 (cp [1, 1, 1, 1, 1, 1, 1, 0, 2, 2] (bodyOf Try.f87)) (ap [1, 1, 1, 1, 1, 1, 1, 0, 2] slices_symMergeCmpFunc_int_an) [(20, .int .i64 start), (21, .int .i64 r), (0, .slice data dataL dataC), (1, .int .i64 a), (2, .int .i64 m), (3, .int .i64 b), (4, cmp), (18, .int .i64 mid), (19, .int .i64 nv), (22, .int .i64 p)] h (slices_symMergeCmpFunc_int_K11 nx0 K)
def slices_symMergeCmpFunc_int_b7 (k : Int) (data : Option Addr) (dataL : Nat) (dataC : Nat) (i : Int) (h : Hp) (nx0 : Int × Unit → Hp → Prop) (K : Value → Hp → Prop) : Prop :=
  sx_3 Try.prog F 220 (cp [0, 1, 0, 1, 1, 1, 0, 1, 2, 2] (bodyOf Try.f87)) (ap [0, 1, 0, 1, 1, 1, 0, 1, 2] slices_symMergeCmpFunc_int_an) [(13, .int .i64 k), (0, .slice data dataL dataC), (10, .int .i64 i)] h (slices_symMergeCmpFunc_int_K14 nx0 K)
def slices_symMergeCmpFunc_int_b8 (k : Int) (data : Option Addr) (dataL : Nat) (dataC : Nat) (i : Int) (h : Hp) (nx0 : Int × Unit → Hp → Prop) (K : Value → Hp → Prop) : Prop :=
  sx_3 Try.prog F 220 (cp [1, 0, 1, 0, 1, 1, 1, 0, 1, 2, 2] (bodyOf Try.f87)) (ap [1, 0, 1, 0, 1, 1, 1, 0, 1, 2] slices_symMergeCmpFunc_int_an) [(17, .int .i64 k), (0, .slice data dataL dataC), (14, .int .i64 i)] h (slices_symMergeCmpFunc_int_K17 nx0 K)
def slices_symMergeCmpFunc_int_b9 (data : Option Addr) (dataL : Nat) (dataC : Nat) (a : Int) (m : Int) (b : Int) (cmp : Value) (mid : Int) (nv : Int) (start : Int) (h : Hp)  (K : Value → Hp → Prop) : Prop :=
  sx_3 Try.prog F 220 (cp [1, 1, 1, 1, 1, 1, 1, 1] (bodyOf Try.f87)) (ap [1, 1, 1, 1, 1, 1, 1, 1] slices_symMergeCmpFunc_int_an) [(0, .slice data dataL dataC), (1, .int .i64 a), (2, .int .i64 m), (3, .int .i64 b), (4, cmp), (18, .int .i64 mid), (19, .int .i64 nv), (20, .int .i64 start)] h (slices_symMergeCmpFunc_int_K0  K)
def slices_symMergeCmpFunc_int_b10 (data : Option Addr) (dataL : Nat) (dataC : Nat) (i : Int) (k : Int) (h : Hp) (nx0 : Int × Unit → Hp → Prop) (K : Value → Hp → Prop) : Prop :=
  sx_2 Try.prog F 220 (cp [0, 1, 0, 1, 1, 1, 0, 1, 2, 2, 1, 1] (bodyOf Try.f87)) (ap [0, 1, 0, 1, 1, 1, 0, 1, 2, 1, 1] slices_symMergeCmpFunc_int_an) [(0, .slice data dataL dataC), (10, .int .i64 i), (13, .int .i64 k)] h (slices_symMergeCmpFunc_int_K14 nx0 K)
def slices_symMergeCmpFunc_int_b11 (data : Option Addr) (dataL : Nat) (dataC : Nat) (i : Int) (k : Int) (h : Hp) (nx0 : Int × Unit → Hp → Prop) (K : Value → Hp → Prop) : Prop :=
  sx_2 Try.prog F 220 (cp [1, 0, 1, 0, 1, 1, 1, 0, 1, 2, 2, 1, 1] (bodyOf Try.f87)) (ap [1, 0, 1, 0, 1, 1, 1, 0, 1, 2, 1, 1] slices_symMergeCmpFunc_int_an) [(0, .slice data dataL dataC), (14, .int .i64 i), (17, .int .i64 k)] h (slices_symMergeCmpFunc_int_K17 nx0 K)
def slices_symMergeCmpFunc_int_b12 (data : Option Addr) (dataL : Nat) (dataC : Nat) (a : Int) (b : Int) (cmp : Value) (mid : Int) (start : Int) (endv : Int) (h : Hp)  (K : Value → Hp → Prop) : Prop :=
  sx_2 Try.prog F 220 (cp [1, 1, 1, 1, 1, 1, 1, 1, 1, 1] (bodyOf Try.f87)) (ap [1, 1, 1, 1, 1, 1, 1, 1, 1, 1] slices_symMergeCmpFunc_int_an) [(0, .slice data dataL dataC), (1, .int .i64 a), (3, .int .i64 b), (4, cmp), (18, .int .i64 mid), (20, .int .i64 start), (24, .int .i64 endv)] h (slices_symMergeCmpFunc_int_K0  K)
def slices_symMergeCmpFunc_int_b13 (data : Option Addr) (dataL : Nat) (dataC : Nat) (b : Int) (cmp : Value) (mid : Int) (endv : Int) (h : Hp)  (K : Value → Hp → Prop) : Prop :=
  sx_1 Try.prog F 220 (cp [1, 1, 1, 1, 1, 1, 1, 1, 1, 1, 1] (bodyOf Try.f87)) (ap [1, 1, 1, 1, 1, 1, 1, 1, 1, 1, 1] slices_symMergeCmpFunc_int_an) [(0, .slice data dataL dataC), (3, .int .i64 b), (4, cmp), (18, .int .i64 mid), (24, .int .i64 endv)] h (slices_symMergeCmpFunc_int_K0  K)
theorem slices_symMergeCmpFunc_int_b0_eq (data : Option Addr) (dataL : Nat) (dataC : Nat) (a : Int) (m : Int) (b : Int) (cmp : Value) (h : Hp)  (K : Value → Hp → Prop) : slices_symMergeCmpFunc_int_b0 data dataL dataC a m b cmp h  K = (
  InR (m - a) ∧
  cond (decide ((m - a) = 1))
  (LoopVC ((m, b, ()) : Int × Int × Unit) h (fun (nx0 : Int × Int × Unit → Hp → Prop) (s1 : Int × Int × Unit) h1 => slices_symMergeCmpFunc_int_b1 s1.1 s1.2.1 data dataL dataC a cmp h1 nx0 K))
  (InR (b - m) ∧
  cond (decide ((b - m) = 1))
  (LoopVC ((a, m, ()) : Int × Int × Unit) h (fun (nx0 : Int × Int × Unit → Hp → Prop) (s2 : Int × Int × Unit) h2 => slices_symMergeCmpFunc_int_b2 s2.1 s2.2.1 data dataL dataC m cmp h2 nx0 K))
  (InR (a + b) ∧
  ∃ sr1 : Int, Sx.Shr .u64 (IntKind.u64.wrap (a + b)) 1 sr1 ∧
  InR sr1 ∧
  InR (sr1 + m) ∧
  cond (decide (sr1 < m))
  (InR ((sr1 + m) - b) ∧
  slices_symMergeCmpFunc_int_b3 data dataL dataC a m b cmp sr1 (sr1 + m) ((sr1 + m) - b) sr1 h  K)
  (slices_symMergeCmpFunc_int_b3 data dataL dataC a m b cmp sr1 (sr1 + m) a m h  K)))) := by kernel_rfl
theorem slices_symMergeCmpFunc_int_b1_eq (i : Int) (j : Int) (data : Option Addr) (dataL : Nat) (dataC : Nat) (a : Int) (cmp : Value) (h : Hp) (nx0 : Int × Int × Unit → Hp → Prop) (K : Value → Hp → Prop) : slices_symMergeCmpFunc_int_b1 i j data dataL dataC a cmp h nx0 K = (
  cond (decide (i < j))
  (InR (i + j) ∧
  ∃ sr2 : Int, Sx.Shr .u64 (IntKind.u64.wrap (i + j)) 1 sr2 ∧
  InR sr2 ∧
  (0 ≤ sr2 ∧ sr2 < (dataL : Int)) ∧
  NN data fun a1 =>
  ∃ n1 : Int, cell h (a1.add (Int.toNat sr2 * 1)) = some (.int .i64 n1) ∧
  (0 ≤ a ∧ a < (dataL : Int)) ∧
  NN data fun a2 =>
  ∃ n2 : Int, cell h (a2.add (Int.toNat a * 1)) = some (.int .i64 n2) ∧
  funV cmp fun fg1 fa1 fc1 => callX Try.prog F fg1 (fa1 ++ (([.int .i64 n1, .int .i64 n2] : List Value) ++ fc1)).toArray h fun v1 h3 => ∃ r1 : Int, v1 = .int .i64 r1 ∧
  cond (decide (r1 < 0))
  (InR (sr2 + 1) ∧
  nx0 (sr2 + 1, j, ()) h3)
  (nx0 (i, sr2, ()) h3))
  (slices_symMergeCmpFunc_int_b4 data dataL dataC a i h  K)) := by kernel_rfl
theorem slices_symMergeCmpFunc_int_b2_eq (i : Int) (j : Int) (data : Option Addr) (dataL : Nat) (dataC : Nat) (m : Int) (cmp : Value) (h : Hp) (nx0 : Int × Int × Unit → Hp → Prop) (K : Value → Hp → Prop) : slices_symMergeCmpFunc_int_b2 i j data dataL dataC m cmp h nx0 K = (
  cond (decide (i < j))
  (InR (i + j) ∧
  ∃ sr3 : Int, Sx.Shr .u64 (IntKind.u64.wrap (i + j)) 1 sr3 ∧
  InR sr3 ∧
  (0 ≤ m ∧ m < (dataL : Int)) ∧
  NN data fun a3 =>
  ∃ n3 : Int, cell h (a3.add (Int.toNat m * 1)) = some (.int .i64 n3) ∧
  (0 ≤ sr3 ∧ sr3 < (dataL : Int)) ∧
  NN data fun a4 =>
  ∃ n4 : Int, cell h (a4.add (Int.toNat sr3 * 1)) = some (.int .i64 n4) ∧
  funV cmp fun fg2 fa2 fc2 => callX Try.prog F fg2 (fa2 ++ (([.int .i64 n3, .int .i64 n4] : List Value) ++ fc2)).toArray h fun v2 h4 => ∃ r2 : Int, v2 = .int .i64 r2 ∧
  cond (!(decide (r2 < 0)))
  (InR (sr3 + 1) ∧
  nx0 (sr3 + 1, j, ()) h4)
  (nx0 (i, sr3, ()) h4))
  (slices_symMergeCmpFunc_int_b5 data dataL dataC m i h  K)) := by kernel_rfl
theorem slices_symMergeCmpFunc_int_b3_eq (data : Option Addr) (dataL : Nat) (dataC : Nat) (a : Int) (m : Int) (b : Int) (cmp : Value) (mid : Int) (nv : Int) (start : Int) (r : Int) (h : Hp)  (K : Value → Hp → Prop) : slices_symMergeCmpFunc_int_b3 data dataL dataC a m b cmp mid nv start r h  K = (
  InR (nv - 1) ∧
  LoopVC ((start, r, ()) : Int × Int × Unit) h (fun (nx0 : Int × Int × Unit → Hp → Prop) (s3 : Int × Int × Unit) h5 => slices_symMergeCmpFunc_int_b6 s3.1 s3.2.1 data dataL dataC a m b cmp mid nv (nv - 1) h5 nx0 K)) := by kernel_rfl
theorem slices_symMergeCmpFunc_int_b4_eq (data : Option Addr) (dataL : Nat) (dataC : Nat) (a : Int) (i : Int) (h : Hp)  (K : Value → Hp → Prop) : slices_symMergeCmpFunc_int_b4 data dataL dataC a i h  K = (
  LoopVC ((a, ()) : Int × Unit) h (fun (nx0 : Int × Unit → Hp → Prop) (s4 : Int × Unit) h6 => slices_symMergeCmpFunc_int_b7 s4.1 data dataL dataC i h6 nx0 K)) := by kernel_rfl
theorem slices_symMergeCmpFunc_int_b5_eq (data : Option Addr) (dataL : Nat) (dataC : Nat) (m : Int) (i : Int) (h : Hp)  (K : Value → Hp → Prop) : slices_symMergeCmpFunc_int_b5 data dataL dataC m i h  K = (
  LoopVC ((m, ()) : Int × Unit) h (fun (nx0 : Int × Unit → Hp → Prop) (s5 : Int × Unit) h7 => slices_symMergeCmpFunc_int_b8 s5.1 data dataL dataC i h7 nx0 K)) := by kernel_rfl
theorem slices_symMergeCmpFunc_int_b6_eq (start : Int) (r : Int) (data : Option Addr) (dataL : Nat) (dataC : Nat) (a : Int) (m : Int) (b : Int) (cmp : Value) (mid : Int) (nv : Int) (p : Int) (h : Hp) (nx0 : Int × Int × Unit → Hp → Prop) (K : Value → Hp → Prop) : slices_symMergeCmpFunc_int_b6 start r data dataL dataC a m b cmp mid nv p h nx0 K = (
  cond (decide (start < r))
  (InR (start + r) ∧
  ∃ sr4 : Int, Sx.Shr .u64 (IntKind.u64.wrap (start + r)) 1 sr4 ∧
  InR sr4 ∧
  InR (p - sr4) ∧
  (0 ≤ p - sr4 ∧ p - sr4 < (dataL : Int)) ∧
  NN data fun a5 =>
  ∃ n5 : Int, cell h (a5.add (Int.toNat (p - sr4) * 1)) = some (.int .i64 n5) ∧
  (0 ≤ sr4 ∧ sr4 < (dataL : Int)) ∧
  NN data fun a6 =>
  ∃ n6 : Int, cell h (a6.add (Int.toNat sr4 * 1)) = some (.int .i64 n6) ∧
  funV cmp fun fg3 fa3 fc3 => callX Try.prog F fg3 (fa3 ++ (([.int .i64 n5, .int .i64 n6] : List Value) ++ fc3)).toArray h fun v3 h8 => ∃ r3 : Int, v3 = .int .i64 r3 ∧
  cond (!(decide (r3 < 0)))
  (InR (sr4 + 1) ∧
  nx0 (sr4 + 1, r, ()) h8)
  (nx0 (start, sr4, ()) h8))
  (slices_symMergeCmpFunc_int_b9 data dataL dataC a m b cmp mid nv start h  K)) := by kernel_rfl
theorem slices_symMergeCmpFunc_int_b7_eq (k : Int) (data : Option Addr) (dataL : Nat) (dataC : Nat) (i : Int) (h : Hp) (nx0 : Int × Unit → Hp → Prop) (K : Value → Hp → Prop) : slices_symMergeCmpFunc_int_b7 k data dataL dataC i h nx0 K = (
  InR (i - 1) ∧
  cond (decide (k < (i - 1)))
  (InR (k + 1) ∧
  InR (k + 1) ∧
  (0 ≤ k + 1 ∧ k + 1 < (dataL : Int)) ∧
  NN data fun a7 =>
  ∃ n7 : Int, cell h (a7.add (Int.toNat (k + 1) * 1)) = some (.int .i64 n7) ∧
  (0 ≤ k ∧ k < (dataL : Int)) ∧
  NN data fun a8 =>
  ∃ n8 : Int, cell h (a8.add (Int.toNat k * 1)) = some (.int .i64 n8) ∧
  (0 ≤ k ∧ k < (dataL : Int)) ∧
  NN data fun a9 =>
  Wr h (a9.add (Int.toNat k * 1)) (.int .i64 n7) fun h9 =>
  (0 ≤ k + 1 ∧ k + 1 < (dataL : Int)) ∧
  NN data fun a10 =>
  Wr h9 (a10.add (Int.toNat (k + 1) * 1)) (.int .i64 n8) fun h10 =>
  slices_symMergeCmpFunc_int_b10 data dataL dataC i k h10 nx0 K)
  (K (.tuple #[]) h)) := by kernel_rfl
theorem slices_symMergeCmpFunc_int_b8_eq (k : Int) (data : Option Addr) (dataL : Nat) (dataC : Nat) (i : Int) (h : Hp) (nx0 : Int × Unit → Hp → Prop) (K : Value → Hp → Prop) : slices_symMergeCmpFunc_int_b8 k data dataL dataC i h nx0 K = (
  cond (decide (i < k))
  (InR (k - 1) ∧
  InR (k - 1) ∧
  (0 ≤ k - 1 ∧ k - 1 < (dataL : Int)) ∧
  NN data fun a11 =>
  ∃ n9 : Int, cell h (a11.add (Int.toNat (k - 1) * 1)) = some (.int .i64 n9) ∧
  (0 ≤ k ∧ k < (dataL : Int)) ∧
  NN data fun a12 =>
  ∃ n10 : Int, cell h (a12.add (Int.toNat k * 1)) = some (.int .i64 n10) ∧
  (0 ≤ k ∧ k < (dataL : Int)) ∧
  NN data fun a13 =>
  Wr h (a13.add (Int.toNat k * 1)) (.int .i64 n9) fun h11 =>
  (0 ≤ k - 1 ∧ k - 1 < (dataL : Int)) ∧
  NN data fun a14 =>
  Wr h11 (a14.add (Int.toNat (k - 1) * 1)) (.int .i64 n10) fun h12 =>
  slices_symMergeCmpFunc_int_b11 data dataL dataC i k h12 nx0 K)
  (K (.tuple #[]) h)) := by kernel_rfl
theorem slices_symMergeCmpFunc_int_b9_eq (data : Option Addr) (dataL : Nat) (dataC : Nat) (a : Int) (m : Int) (b : Int) (cmp : Value) (mid : Int) (nv : Int) (start : Int) (h : Hp)  (K : Value → Hp → Prop) : slices_symMergeCmpFunc_int_b9 data dataL dataC a m b cmp mid nv start h  K = (
  InR (nv - start) ∧
  cond (decide (start < m))
  (cond (decide (m < (nv - start)))
  (HCalls Try.prog 97 #[.slice data dataL dataC, .int .i64 start, .int .i64 m, .int .i64 (nv - start), cmp] h fun v4 h13 => v4 = .tuple #[] ∧
  slices_symMergeCmpFunc_int_b12 data dataL dataC a b cmp mid start (nv - start) h13  K)
  (slices_symMergeCmpFunc_int_b12 data dataL dataC a b cmp mid start (nv - start) h  K))
  (slices_symMergeCmpFunc_int_b12 data dataL dataC a b cmp mid start (nv - start) h  K)) := by kernel_rfl
theorem slices_symMergeCmpFunc_int_b10_eq (data : Option Addr) (dataL : Nat) (dataC : Nat) (i : Int) (k : Int) (h : Hp) (nx0 : Int × Unit → Hp → Prop) (K : Value → Hp → Prop) : slices_symMergeCmpFunc_int_b10 data dataL dataC i k h nx0 K = (
  InR (k + 1) ∧
  nx0 (k + 1, ()) h) := by kernel_rfl
theorem slices_symMergeCmpFunc_int_b11_eq (data : Option Addr) (dataL : Nat) (dataC : Nat) (i : Int) (k : Int) (h : Hp) (nx0 : Int × Unit → Hp → Prop) (K : Value → Hp → Prop) : slices_symMergeCmpFunc_int_b11 data dataL dataC i k h nx0 K = (
  InR (k - 1) ∧
  nx0 (k - 1, ()) h) := by kernel_rfl
theorem slices_symMergeCmpFunc_int_b12_eq (data : Option Addr) (dataL : Nat) (dataC : Nat) (a : Int) (b : Int) (cmp : Value) (mid : Int) (start : Int) (endv : Int) (h : Hp)  (K : Value → Hp → Prop) : slices_symMergeCmpFunc_int_b12 data dataL dataC a b cmp mid start endv h  K = (
  cond (decide (a < start))
  (cond (decide (start < mid))
  (HCalls Try.prog 87 #[.slice data dataL dataC, .int .i64 a, .int .i64 start, .int .i64 mid, cmp] h fun v5 h14 => v5 = .tuple #[] ∧
  slices_symMergeCmpFunc_int_b13 data dataL dataC b cmp mid endv h14  K)
  (slices_symMergeCmpFunc_int_b13 data dataL dataC b cmp mid endv h  K))
  (slices_symMergeCmpFunc_int_b13 data dataL dataC b cmp mid endv h  K)) := by kernel_rfl
theorem slices_symMergeCmpFunc_int_b13_eq (data : Option Addr) (dataL : Nat) (dataC : Nat) (b : Int) (cmp : Value) (mid : Int) (endv : Int) (h : Hp)  (K : Value → Hp → Prop) : slices_symMergeCmpFunc_int_b13 data dataL dataC b cmp mid endv h  K = (
  cond (decide (mid < endv))
  (cond (decide (endv < b))
  (HCalls Try.prog 87 #[.slice data dataL dataC, .int .i64 mid, .int .i64 endv, .int .i64 b, cmp] h fun v6 h15 => v6 = .tuple #[] ∧
  K (.tuple #[]) h15)
  (K (.tuple #[]) h))
  (K (.tuple #[]) h)) := by kernel_rfl
theorem slices_symMergeCmpFunc_int_call {data : Option Addr} {dataL : Nat} {dataC : Nat} {a : Int} {m : Int} {b : Int} {cmp : Value} {h : Hp} {K : Value → Hp → Prop} (hk : slices_symMergeCmpFunc_int_b0 data dataL dataC a m b cmp h K) : HCalls Try.prog 87 #[.slice data dataL dataC, .int .i64 a, .int .i64 m, .int .i64 b, cmp] h K :=
  calls_of_snd slices_symMergeCmpFunc_int_an Try.func87 (c := bodyOf Try.f87) rfl Try.ntmps87 (Nat.le_of_ble_eq_true rfl) (snd_5 F_ok F_mixed) hk

/-! ### wavelet_Tree_leaf -/
def wavelet_Tree_leaf_an : Ann := .node none (.leaf) (.node none (.leaf) (.node (some [8, 9]) (.loop [0, 1, 8, 9] [] (.leaf)) (.leaf)))
def wavelet_Tree_leaf_K0  (K : Value → Hp → Prop) : Exit → Env → Hp → Prop := retK Try.prog Try.f88.results.toList K
def wavelet_Tree_leaf_K1  (K : Value → Hp → Prop) : Exit → Env → Hp → Prop := thenE (fun env h => sx_1 Try.prog F 43 (cp [1, 1, 1] (bodyOf Try.f88)) (ap [1, 1, 1] wavelet_Tree_leaf_an) (rs [8, 9] env) h (wavelet_Tree_leaf_K0  K)) (wavelet_Tree_leaf_K0  K)
def wavelet_Tree_leaf_K2  (K : Value → Hp → Prop) : Exit → Env → Hp → Prop := blockE 0 (wavelet_Tree_leaf_K1  K)
def wavelet_Tree_leaf_K3 (nx0 : Unit → Hp → Prop) (K : Value → Hp → Prop) : Exit → Env → Hp → Prop := thenE (fun env h => getV [] env fun s => nx0 s h) (wavelet_Tree_leaf_K2  K)
def wavelet_Tree_leaf_b0 (t : Option Addr) (v : Int) (fromv : Int) (to : Int) (h : Hp)  (K : Value → Hp → Prop) : Prop :=
  sx_2 Try.prog F 43 (cp [] (bodyOf Try.f88)) (ap [] wavelet_Tree_leaf_an) [(0, .pointer t), (1, .int .i64 v), (2, .int .i64 fromv), (3, .int .i64 to)] h (wavelet_Tree_leaf_K0  K)
def wavelet_Tree_leaf_b1 (t : Option Addr) (v : Int) (t8 : Option Addr) (x : Option Addr) (h : Hp) (nx0 : Unit → Hp → Prop) (K : Value → Hp → Prop) : Prop :=
  sx_1 Try.prog F 43 (cp [1, 1, 0, 2, 2] (bodyOf Try.f88)) (ap [1, 1, 0, 2] wavelet_Tree_leaf_an) [(0, .pointer t), (1, .int .i64 v), (8, .pointer t8), (9, .pointer x)] h (wavelet_Tree_leaf_K3 nx0 K)
def wavelet_Tree_leaf_b2 (t8 : Option Addr) (x : Option Addr) (h : Hp)  (K : Value → Hp → Prop) : Prop :=
  sx_1 Try.prog F 43 (cp [1, 1, 1] (bodyOf Try.f88)) (ap [1, 1, 1] wavelet_Tree_leaf_an) [(8, .pointer t8), (9, .pointer x)] h (wavelet_Tree_leaf_K0  K)
theorem wavelet_Tree_leaf_b0_eq (t : Option Addr) (v : Int) (fromv : Int) (to : Int) (h : Hp)  (K : Value → Hp → Prop) : wavelet_Tree_leaf_b0 t v fromv to h  K = (
  New h (.cells #[.int .i64 0, .int .i64 0, .int .i64 0, .int .i64 0, .int .i64 0, .int .i64 0] 116) fun b1 h1 =>
  HCalls Try.prog 98 #[.pointer t, .int .i64 fromv, .int .i64 to] h1 fun v1 h2 => ∃ r1 : Int, ∃ r2 : Int, ∃ r3 : Int, ∃ r4 : Int, ∃ r5 : Int, ∃ r6 : Int, v1 = .agg #[.int .i64 r1, .int .i64 r2, .int .i64 r3, .int .i64 r4, .int .i64 r5, .int .i64 r6] ∧
  New h2 (.cells #[.int .i64 0, .int .i64 0, .int .i64 0, .int .i64 0, .int .i64 0, .int .i64 0] 116) fun b2 h3 =>
  Wr h3 ⟨b2, 0, none⟩ (.int .i64 r1) fun h4 =>
  Wr h4 ((⟨b2, 0, none⟩ : Addr).add 1) (.int .i64 r2) fun h5 =>
  Wr h5 ((⟨b2, 0, none⟩ : Addr).add 2) (.int .i64 r3) fun h6 =>
  Wr h6 ((⟨b2, 0, none⟩ : Addr).add 3) (.int .i64 r4) fun h7 =>
  Wr h7 ((⟨b2, 0, none⟩ : Addr).add 4) (.int .i64 r5) fun h8 =>
  Wr h8 ((⟨b2, 0, none⟩ : Addr).add 5) (.int .i64 r6) fun h9 =>
  LoopVC (() : Unit) h9 (fun (nx0 : Unit → Hp → Prop) (_ : Unit) h10 => wavelet_Tree_leaf_b1 t v (some ⟨b1, 0, none⟩) (some ⟨b2, 0, none⟩) h10 nx0 K)) := by kernel_rfl
theorem wavelet_Tree_leaf_b1_eq (t : Option Addr) (v : Int) (t8 : Option Addr) (x : Option Addr) (h : Hp) (nx0 : Unit → Hp → Prop) (K : Value → Hp → Prop) : wavelet_Tree_leaf_b1 t v t8 x h nx0 K = (
  NN x fun a1 =>
  ∃ n1 : Int, cell h a1 = some (.int .i64 n1) ∧
  NN t fun a2 =>
  ∃ n2 : Int, cell h (a2.add 2) = some (.int .i64 n2) ∧
  cond (decide (n1 < n2))
  (NN x fun a3 =>
  ∃ n3 : Int, ∃ n4 : Int, ∃ n5 : Int, ∃ n6 : Int, ∃ n7 : Int, ∃ n8 : Int, cell h a3 = some (.int .i64 n3) ∧
  cell h (a3.add 1) = some (.int .i64 n4) ∧
  cell h (a3.add 2) = some (.int .i64 n5) ∧
  cell h (a3.add 3) = some (.int .i64 n6) ∧
  cell h (a3.add 4) = some (.int .i64 n7) ∧
  cell h (a3.add 5) = some (.int .i64 n8) ∧
  HCalls Try.prog 99 #[.pointer t, .agg #[.int .i64 n3, .int .i64 n4, .int .i64 n5, .int .i64 n6, .int .i64 n7, .int .i64 n8]] h fun v2 h11 => ∃ r7 : Int, ∃ r8 : Int, ∃ r9 : Int, ∃ r10 : Int, ∃ r11 : Int, ∃ r12 : Int, ∃ r13 : Int, ∃ r14 : Int, ∃ r15 : Int, ∃ r16 : Int, ∃ r17 : Int, ∃ r18 : Int, v2 = .tuple #[.agg #[.int .i64 r7, .int .i64 r8, .int .i64 r9, .int .i64 r10, .int .i64 r11, .int .i64 r12], .agg #[.int .i64 r13, .int .i64 r14, .int .i64 r15, .int .i64 r16, .int .i64 r17, .int .i64 r18]] ∧
  New h11 (.cells #[.int .i64 0, .int .i64 0, .int .i64 0, .int .i64 0, .int .i64 0, .int .i64 0] 116) fun b3 h12 =>
  New h12 (.cells #[.int .i64 0, .int .i64 0, .int .i64 0, .int .i64 0, .int .i64 0, .int .i64 0] 116) fun b4 h13 =>
  Wr h13 ⟨b3, 0, none⟩ (.int .i64 r7) fun h14 =>
  Wr h14 ((⟨b3, 0, none⟩ : Addr).add 1) (.int .i64 r8) fun h15 =>
  Wr h15 ((⟨b3, 0, none⟩ : Addr).add 2) (.int .i64 r9) fun h16 =>
  Wr h16 ((⟨b3, 0, none⟩ : Addr).add 3) (.int .i64 r10) fun h17 =>
  Wr h17 ((⟨b3, 0, none⟩ : Addr).add 4) (.int .i64 r11) fun h18 =>
  Wr h18 ((⟨b3, 0, none⟩ : Addr).add 5) (.int .i64 r12) fun h19 =>
  Wr h19 ⟨b4, 0, none⟩ (.int .i64 r13) fun h20 =>
  Wr h20 ((⟨b4, 0, none⟩ : Addr).add 1) (.int .i64 r14) fun h21 =>
  Wr h21 ((⟨b4, 0, none⟩ : Addr).add 2) (.int .i64 r15) fun h22 =>
  Wr h22 ((⟨b4, 0, none⟩ : Addr).add 3) (.int .i64 r16) fun h23 =>
  Wr h23 ((⟨b4, 0, none⟩ : Addr).add 4) (.int .i64 r17) fun h24 =>
  Wr h24 ((⟨b4, 0, none⟩ : Addr).add 5) (.int .i64 r18) fun h25 =>
  ∃ n9 : Int, ∃ n10 : Int, ∃ n11 : Int, ∃ n12 : Int, ∃ n13 : Int, ∃ n14 : Int, cell h25 ⟨b3, 0, none⟩ = some (.int .i64 n9) ∧
  cell h25 ((⟨b3, 0, none⟩ : Addr).add 1) = some (.int .i64 n10) ∧
  cell h25 ((⟨b3, 0, none⟩ : Addr).add 2) = some (.int .i64 n11) ∧
  cell h25 ((⟨b3, 0, none⟩ : Addr).add 3) = some (.int .i64 n12) ∧
  cell h25 ((⟨b3, 0, none⟩ : Addr).add 4) = some (.int .i64 n13) ∧
  cell h25 ((⟨b3, 0, none⟩ : Addr).add 5) = some (.int .i64 n14) ∧
  NN x fun a4 =>
  Wr h25 a4 (.int .i64 n9) fun h26 =>
  Wr h26 (a4.add 1) (.int .i64 n10) fun h27 =>
  Wr h27 (a4.add 2) (.int .i64 n11) fun h28 =>
  Wr h28 (a4.add 3) (.int .i64 n12) fun h29 =>
  Wr h29 (a4.add 4) (.int .i64 n13) fun h30 =>
  Wr h30 (a4.add 5) (.int .i64 n14) fun h31 =>
  NN t fun a5 =>
  ∃ n15 : Int, cell h31 (a5.add 2) = some (.int .i64 n15) ∧
  ∃ n16 : Int, cell h31 ⟨b3, 0, none⟩ = some (.int .i64 n16) ∧
  InR (n15 - n16) ∧
  ∃ sr1 : Int, Sx.Shr .i64 v (n15 - n16) sr1 ∧
  ∃ an1 : Int, Sx.And .i64 sr1 1 an1 ∧
  cond (decide (an1 = 1))
  (∃ n17 : Int, ∃ n18 : Int, ∃ n19 : Int, ∃ n20 : Int, ∃ n21 : Int, ∃ n22 : Int, cell h31 ⟨b4, 0, none⟩ = some (.int .i64 n17) ∧
  cell h31 ((⟨b4, 0, none⟩ : Addr).add 1) = some (.int .i64 n18) ∧
  cell h31 ((⟨b4, 0, none⟩ : Addr).add 2) = some (.int .i64 n19) ∧
  cell h31 ((⟨b4, 0, none⟩ : Addr).add 3) = some (.int .i64 n20) ∧
  cell h31 ((⟨b4, 0, none⟩ : Addr).add 4) = some (.int .i64 n21) ∧
  cell h31 ((⟨b4, 0, none⟩ : Addr).add 5) = some (.int .i64 n22) ∧
  NN x fun a6 =>
  Wr h31 a6 (.int .i64 n17) fun h32 =>
  Wr h32 (a6.add 1) (.int .i64 n18) fun h33 =>
  Wr h33 (a6.add 2) (.int .i64 n19) fun h34 =>
  Wr h34 (a6.add 3) (.int .i64 n20) fun h35 =>
  Wr h35 (a6.add 4) (.int .i64 n21) fun h36 =>
  Wr h36 (a6.add 5) (.int .i64 n22) fun h37 =>
  nx0 () h37)
  (nx0 () h31))
  (wavelet_Tree_leaf_b2 t8 x h  K)) := by kernel_rfl
theorem wavelet_Tree_leaf_b2_eq (t8 : Option Addr) (x : Option Addr) (h : Hp)  (K : Value → Hp → Prop) : wavelet_Tree_leaf_b2 t8 x h  K = (
  NN x fun a7 =>
  ∃ n23 : Int, ∃ n24 : Int, ∃ n25 : Int, ∃ n26 : Int, ∃ n27 : Int, ∃ n28 : Int, cell h a7 = some (.int .i64 n23) ∧
  cell h (a7.add 1) = some (.int .i64 n24) ∧
  cell h (a7.add 2) = some (.int .i64 n25) ∧
  cell h (a7.add 3) = some (.int .i64 n26) ∧
  cell h (a7.add 4) = some (.int .i64 n27) ∧
  cell h (a7.add 5) = some (.int .i64 n28) ∧
  NN t8 fun a8 =>
  Wr h a8 (.int .i64 n23) fun h38 =>
  Wr h38 (a8.add 1) (.int .i64 n24) fun h39 =>
  Wr h39 (a8.add 2) (.int .i64 n25) fun h40 =>
  Wr h40 (a8.add 3) (.int .i64 n26) fun h41 =>
  Wr h41 (a8.add 4) (.int .i64 n27) fun h42 =>
  Wr h42 (a8.add 5) (.int .i64 n28) fun h43 =>
  NN t8 fun a9 =>
  ∃ r19 : Int, ∃ r20 : Int, ∃ r21 : Int, ∃ r22 : Int, ∃ r23 : Int, ∃ r24 : Int, cell h43 a9 = some (.int .i64 r19) ∧
  cell h43 (a9.add 1) = some (.int .i64 r20) ∧
  cell h43 (a9.add 2) = some (.int .i64 r21) ∧
  cell h43 (a9.add 3) = some (.int .i64 r22) ∧
  cell h43 (a9.add 4) = some (.int .i64 r23) ∧
  cell h43 (a9.add 5) = some (.int .i64 r24) ∧
  K (.agg #[.int .i64 r19, .int .i64 r20, .int .i64 r21, .int .i64 r22, .int .i64 r23, .int .i64 r24]) h43) := by kernel_rfl
theorem wavelet_Tree_leaf_call {t : Option Addr} {v : Int} {fromv : Int} {to : Int} {h : Hp} {K : Value → Hp → Prop} (hk : wavelet_Tree_leaf_b0 t v fromv to h K) : HCalls Try.prog 88 #[.pointer t, .int .i64 v, .int .i64 fromv, .int .i64 to] h K :=
  calls_of_snd wavelet_Tree_leaf_an Try.func88 (c := bodyOf Try.f88) rfl Try.ntmps88 (Nat.le_of_ble_eq_true rfl) (snd_2 F_ok F_mixed) hk

/-! ### slices_siftDownOrdered_int -/
def slices_siftDownOrdered_int_an : Ann := .node none (.leaf) (.loop [0, 2, 3] [(8, .int .i64)] (.node none (.leaf) (.node none (.leaf) (.node (some [0, 2, 3, 8, 9]) (.leaf) (.node none (.leaf) (.node none (.plan (.qu 0 (.qu 1 (.qu 2 (.qu 3 (.qu 4 (.qu 5 (.qu 6 (.qu 7 (.qu 8 (.qu 9 (.qu 10 (.qu 11 (.qu 12 (.qu 13 (.qu 14 (.qu 15 (.qu 16 (.qu 17 (.qu 18 (.qu 19 (.qu 20 (.wo 21 (.qu 22 (.wo 23 .fin .no)) .no))))))))))))))))))))))) (.leaf)))))))
def slices_siftDownOrdered_int_K0  (K : Value → Hp → Prop) : Exit → Env → Hp → Prop := retK Try.prog Try.f89.results.toList K
def slices_siftDownOrdered_int_K1  (K : Value → Hp → Prop) : Exit → Env → Hp → Prop := blockE 0 (slices_siftDownOrdered_int_K0  K)
def slices_siftDownOrdered_int_K2 (nx0 : Int × Unit → Hp → Prop) (K : Value → Hp → Prop) : Exit → Env → Hp → Prop := thenE (fun env h => getV [(8, .int .i64)] env fun s => nx0 s h) (slices_siftDownOrdered_int_K1  K)
def slices_siftDownOrdered_int_K3 (nx0 : Int × Unit → Hp → Prop) (K : Value → Hp → Prop) : Exit → Env → Hp → Prop := blockE 1 (slices_siftDownOrdered_int_K2 nx0 K)
def slices_siftDownOrdered_int_b0 (data : Option Addr) (dataL : Nat) (dataC : Nat) (lo : Int) (hi : Int) (first : Int) (h : Hp)  (K : Value → Hp → Prop) : Prop :=
  sx_3 Try.prog F 76 (cp [] (bodyOf Try.f89)) (ap [] slices_siftDownOrdered_int_an) [(0, .slice data dataL dataC), (1, .int .i64 lo), (2, .int .i64 hi), (3, .int .i64 first)] h (slices_siftDownOrdered_int_K0  K)
def slices_siftDownOrdered_int_b1 (root : Int) (data : Option Addr) (dataL : Nat) (dataC : Nat) (hi : Int) (first : Int) (h : Hp) (nx0 : Int × Unit → Hp → Prop) (K : Value → Hp → Prop) : Prop :=
  sx_2 Try.prog F 76 (cp [1, 2, 2] (bodyOf Try.f89)) (ap [1, 2] slices_siftDownOrdered_int_an) [(8, .int .i64 root), (0, .slice data dataL dataC), (2, .int .i64 hi), (3, .int .i64 first)] h (slices_siftDownOrdered_int_K2 nx0 K)
def slices_siftDownOrdered_int_b2 (data : Option Addr) (dataL : Nat) (dataC : Nat) (hi : Int) (first : Int) (root : Int) (child : Int) (h : Hp) (nx0 : Int × Unit → Hp → Prop) (K : Value → Hp → Prop) : Prop :=
  sx_1 Try.prog F 76 (cp [1, 2, 2, 2, 1, 1, 1] (bodyOf Try.f89)) (ap [1, 2, 1, 1, 1] slices_siftDownOrdered_int_an) [(0, .slice data dataL dataC), (2, .int .i64 hi), (3, .int .i64 first), (8, .int .i64 root), (9, .int .i64 child)] h (slices_siftDownOrdered_int_K3 nx0 K)
theorem slices_siftDownOrdered_int_b0_eq (data : Option Addr) (dataL : Nat) (dataC : Nat) (lo : Int) (hi : Int) (first : Int) (h : Hp)  (K : Value → Hp → Prop) : slices_siftDownOrdered_int_b0 data dataL dataC lo hi first h  K = (
  LoopVC ((lo, ()) : Int × Unit) h (fun (nx0 : Int × Unit → Hp → Prop) (s1 : Int × Unit) h1 => slices_siftDownOrdered_int_b1 s1.1 data dataL dataC hi first h1 nx0 K)) := by kernel_rfl
theorem slices_siftDownOrdered_int_b1_eq (root : Int) (data : Option Addr) (dataL : Nat) (dataC : Nat) (hi : Int) (first : Int) (h : Hp) (nx0 : Int × Unit → Hp → Prop) (K : Value → Hp → Prop) : slices_siftDownOrdered_int_b1 root data dataL dataC hi first h nx0 K = (
  InR (2 * root) ∧
  InR ((2 * root) + 1) ∧
  cond (decide (hi ≤ ((2 * root) + 1)))
  (K (.tuple #[]) h)
  (InR (((2 * root) + 1) + 1) ∧
  cond (decide ((((2 * root) + 1) + 1) < hi))
  (InR (first + ((2 * root) + 1)) ∧
  (0 ≤ first + ((2 * root) + 1) ∧ first + ((2 * root) + 1) < (dataL : Int)) ∧
  NN data fun a1 =>
  ∃ n1 : Int, cell h (a1.add (Int.toNat (first + ((2 * root) + 1)) * 1)) = some (.int .i64 n1) ∧
  InR (first + ((2 * root) + 1)) ∧
  InR ((first + ((2 * root) + 1)) + 1) ∧
  (0 ≤ (first + ((2 * root) + 1)) + 1 ∧ (first + ((2 * root) + 1)) + 1 < (dataL : Int)) ∧
  NN data fun a2 =>
  ∃ n2 : Int, cell h (a2.add (Int.toNat ((first + ((2 * root) + 1)) + 1) * 1)) = some (.int .i64 n2) ∧
  ∃ r1 : Bool, HCalls Try.prog 73 #[.int .i64 n1, .int .i64 n2] h (fun v1 h2 => v1 = .bool r1 ∧ h2 = h) ∧
  cond r1
  (InR (((2 * root) + 1) + 1) ∧
  slices_siftDownOrdered_int_b2 data dataL dataC hi first root (((2 * root) + 1) + 1) h nx0 K)
  (slices_siftDownOrdered_int_b2 data dataL dataC hi first root ((2 * root) + 1) h nx0 K))
  (slices_siftDownOrdered_int_b2 data dataL dataC hi first root ((2 * root) + 1) h nx0 K))) := by kernel_rfl
theorem slices_siftDownOrdered_int_b2_eq (data : Option Addr) (dataL : Nat) (dataC : Nat) (hi : Int) (first : Int) (root : Int) (child : Int) (h : Hp) (nx0 : Int × Unit → Hp → Prop) (K : Value → Hp → Prop) : slices_siftDownOrdered_int_b2 data dataL dataC hi first root child h nx0 K = (
  InR (first + root) ∧
  (0 ≤ first + root ∧ first + root < (dataL : Int)) ∧
  NN data fun a3 =>
  ∃ n3 : Int, cell h (a3.add (Int.toNat (first + root) * 1)) = some (.int .i64 n3) ∧
  InR (first + child) ∧
  (0 ≤ first + child ∧ first + child < (dataL : Int)) ∧
  NN data fun a4 =>
  ∃ n4 : Int, cell h (a4.add (Int.toNat (first + child) * 1)) = some (.int .i64 n4) ∧
  ∃ r2 : Bool, HCalls Try.prog 73 #[.int .i64 n3, .int .i64 n4] h (fun v2 h3 => v2 = .bool r2 ∧ h3 = h) ∧
  cond (!r2)
  (K (.tuple #[]) h)
  (InR (first + root) ∧
  InR (first + child) ∧
  InR (first + child) ∧
  (0 ≤ first + child ∧ first + child < (dataL : Int)) ∧
  NN data fun a5 =>
  ∃ n5 : Int, cell h (a5.add (Int.toNat (first + child) * 1)) = some (.int .i64 n5) ∧
  InR (first + root) ∧
  (0 ≤ first + root ∧ first + root < (dataL : Int)) ∧
  NN data fun a6 =>
  ∃ n6 : Int, cell h (a6.add (Int.toNat (first + root) * 1)) = some (.int .i64 n6) ∧
  (0 ≤ first + root ∧ first + root < (dataL : Int)) ∧
  NN data fun a7 =>
  Wr h (a7.add (Int.toNat (first + root) * 1)) (.int .i64 n5) fun h4 =>
  (0 ≤ first + child ∧ first + child < (dataL : Int)) ∧
  NN data fun a8 =>
  Wr h4 (a8.add (Int.toNat (first + child) * 1)) (.int .i64 n6) fun h5 =>
  nx0 (child, ()) h5)) := by kernel_rfl
theorem slices_siftDownOrdered_int_call {data : Option Addr} {dataL : Nat} {dataC : Nat} {lo : Int} {hi : Int} {first : Int} {h : Hp} {K : Value → Hp → Prop} (hk : slices_siftDownOrdered_int_b0 data dataL dataC lo hi first h K) : HCalls Try.prog 89 #[.slice data dataL dataC, .int .i64 lo, .int .i64 hi, .int .i64 first] h K :=
  calls_of_snd slices_siftDownOrdered_int_an Try.func89 (c := bodyOf Try.f89) rfl Try.ntmps89 (Nat.le_of_ble_eq_true rfl) (snd_3 F_ok F_mixed) hk

/-! ### slices_nextPowerOfTwo -/
def slices_nextPowerOfTwo_an : Ann := .leaf
def slices_nextPowerOfTwo_K0  (K : Value → Hp → Prop) : Exit → Env → Hp → Prop := retK Try.prog Try.f90.results.toList K
def slices_nextPowerOfTwo_b0 (length : Int) (h : Hp)  (K : Value → Hp → Prop) : Prop :=
  sx_1 Try.prog F 7 (cp [] (bodyOf Try.f90)) (ap [] slices_nextPowerOfTwo_an) [(0, .int .i64 length)] h (slices_nextPowerOfTwo_K0  K)
theorem slices_nextPowerOfTwo_b0_eq (length : Int) (h : Hp)  (K : Value → Hp → Prop) : slices_nextPowerOfTwo_b0 length h  K = (
  HCalls Try.prog 60 #[.int .u64 (IntKind.u64.wrap length)] h fun v1 h1 => ∃ r1 : Int, v1 = .int .i64 r1 ∧
  ∃ sl1 : Int, Sx.Shl .u64 1 r1 sl1 ∧
  K (.int .u64 sl1) h1) := by kernel_rfl
theorem slices_nextPowerOfTwo_call {length : Int} {h : Hp} {K : Value → Hp → Prop} (hk : slices_nextPowerOfTwo_b0 length h K) : HCalls Try.prog 90 #[.int .i64 length] h K :=
  calls_of_snd slices_nextPowerOfTwo_an Try.func90 (c := bodyOf Try.f90) rfl Try.ntmps90 (Nat.le_of_ble_eq_true rfl) (snd_1 F_ok F_mixed) hk

/-! ### slices_xorshift_Next -/
def slices_xorshift_Next_an : Ann := .node none (.leaf) (.node none (.tail 9) (.node none (.tail 9) (.node none (.tail 9) (.leaf))))
def slices_xorshift_Next_K0  (K : Value → Hp → Prop) : Exit → Env → Hp → Prop := retK Try.prog Try.f91.results.toList K
def slices_xorshift_Next_b0 (r : Option Addr) (h : Hp)  (K : Value → Hp → Prop) : Prop :=
  sx_1 Try.prog F 33 (cp [] (bodyOf Try.f91)) (ap [] slices_xorshift_Next_an) [(0, .pointer r)] h (slices_xorshift_Next_K0  K)
theorem slices_xorshift_Next_b0_eq (r : Option Addr) (h : Hp)  (K : Value → Hp → Prop) : slices_xorshift_Next_b0 r h  K = (
  NN r fun a1 =>
  ∃ n1 : Int, cell h a1 = some (.int .u64 n1) ∧
  NN r fun a2 =>
  ∃ n2 : Int, cell h a2 = some (.int .u64 n2) ∧
  ∃ sl1 : Int, Sx.Shl .u64 n2 13 sl1 ∧
  ∃ xo1 : Int, Sx.Xor .u64 n1 sl1 xo1 ∧
  NN r fun a3 =>
  Wr h a3 (.int .u64 xo1) fun h1 =>
  NN r fun a4 =>
  ∃ n3 : Int, cell h1 a4 = some (.int .u64 n3) ∧
  NN r fun a5 =>
  ∃ n4 : Int, cell h1 a5 = some (.int .u64 n4) ∧
  ∃ sr1 : Int, Sx.Shr .u64 n4 7 sr1 ∧
  ∃ xo2 : Int, Sx.Xor .u64 n3 sr1 xo2 ∧
  NN r fun a6 =>
  Wr h1 a6 (.int .u64 xo2) fun h2 =>
  NN r fun a7 =>
  ∃ n5 : Int, cell h2 a7 = some (.int .u64 n5) ∧
  NN r fun a8 =>
  ∃ n6 : Int, cell h2 a8 = some (.int .u64 n6) ∧
  ∃ sl2 : Int, Sx.Shl .u64 n6 17 sl2 ∧
  ∃ xo3 : Int, Sx.Xor .u64 n5 sl2 xo3 ∧
  NN r fun a9 =>
  Wr h2 a9 (.int .u64 xo3) fun h3 =>
  NN r fun a10 =>
  ∃ n7 : Int, cell h3 a10 = some (.int .u64 n7) ∧
  K (.int .u64 n7) h3) := by kernel_rfl
theorem slices_xorshift_Next_call {r : Option Addr} {h : Hp} {K : Value → Hp → Prop} (hk : slices_xorshift_Next_b0 r h K) : HCalls Try.prog 91 #[.pointer r] h K :=
  calls_of_snd slices_xorshift_Next_an Try.func91 (c := bodyOf Try.f91) rfl Try.ntmps91 (Nat.le_of_ble_eq_true rfl) (snd_1 F_ok F_mixed) hk

/-! ### slices_medianAdjacentOrdered_int -/
def slices_medianAdjacentOrdered_int_an : Ann := .leaf
def slices_medianAdjacentOrdered_int_K0  (K : Value → Hp → Prop) : Exit → Env → Hp → Prop := retK Try.prog Try.f92.results.toList K
def slices_medianAdjacentOrdered_int_b0 (data : Option Addr) (dataL : Nat) (dataC : Nat) (a : Int) (swaps : Option Addr) (h : Hp)  (K : Value → Hp → Prop) : Prop :=
  sx_1 Try.prog F 15 (cp [] (bodyOf Try.f92)) (ap [] slices_medianAdjacentOrdered_int_an) [(0, .slice data dataL dataC), (1, .int .i64 a), (2, .pointer swaps)] h (slices_medianAdjacentOrdered_int_K0  K)
theorem slices_medianAdjacentOrdered_int_b0_eq (data : Option Addr) (dataL : Nat) (dataC : Nat) (a : Int) (swaps : Option Addr) (h : Hp)  (K : Value → Hp → Prop) : slices_medianAdjacentOrdered_int_b0 data dataL dataC a swaps h  K = (
  InR (a - 1) ∧
  InR (a + 1) ∧
  HCalls Try.prog 93 #[.slice data dataL dataC, .int .i64 (a - 1), .int .i64 a, .int .i64 (a + 1), .pointer swaps] h fun v1 h1 => ∃ r1 : Int, v1 = .int .i64 r1 ∧
  K (.int .i64 r1) h1) := by kernel_rfl
theorem slices_medianAdjacentOrdered_int_call {data : Option Addr} {dataL : Nat} {dataC : Nat} {a : Int} {swaps : Option Addr} {h : Hp} {K : Value → Hp → Prop} (hk : slices_medianAdjacentOrdered_int_b0 data dataL dataC a swaps h K) : HCalls Try.prog 92 #[.slice data dataL dataC, .int .i64 a, .pointer swaps] h K :=
  calls_of_snd slices_medianAdjacentOrdered_int_an Try.func92 (c := bodyOf Try.f92) rfl Try.ntmps92 (Nat.le_of_ble_eq_true rfl) (snd_1 F_ok F_mixed) hk

/-! ### slices_medianOrdered_int -/
def slices_medianOrdered_int_an : Ann := .leaf
def slices_medianOrdered_int_K0  (K : Value → Hp → Prop) : Exit → Env → Hp → Prop := retK Try.prog Try.f93.results.toList K
def slices_medianOrdered_int_b0 (data : Option Addr) (dataL : Nat) (dataC : Nat) (a : Int) (b : Int) (c : Int) (swaps : Option Addr) (h : Hp)  (K : Value → Hp → Prop) : Prop :=
  sx_1 Try.prog F 36 (cp [] (bodyOf Try.f93)) (ap [] slices_medianOrdered_int_an) [(0, .slice data dataL dataC), (1, .int .i64 a), (2, .int .i64 b), (3, .int .i64 c), (4, .pointer swaps)] h (slices_medianOrdered_int_K0  K)
theorem slices_medianOrdered_int_b0_eq (data : Option Addr) (dataL : Nat) (dataC : Nat) (a : Int) (b : Int) (c : Int) (swaps : Option Addr) (h : Hp)  (K : Value → Hp → Prop) : slices_medianOrdered_int_b0 data dataL dataC a b c swaps h  K = (
  HCalls Try.prog 100 #[.slice data dataL dataC, .int .i64 a, .int .i64 b, .pointer swaps] h fun v1 h1 => ∃ r1 : Int, ∃ r2 : Int, v1 = .tuple #[.int .i64 r1, .int .i64 r2] ∧
  HCalls Try.prog 100 #[.slice data dataL dataC, .int .i64 r2, .int .i64 c, .pointer swaps] h1 fun v2 h2 => ∃ r3 : Int, ∃ r4 : Int, v2 = .tuple #[.int .i64 r3, .int .i64 r4] ∧
  HCalls Try.prog 100 #[.slice data dataL dataC, .int .i64 r1, .int .i64 r3, .pointer swaps] h2 fun v3 h3 => ∃ r5 : Int, ∃ r6 : Int, v3 = .tuple #[.int .i64 r5, .int .i64 r6] ∧
  K (.int .i64 r6) h3) := by kernel_rfl
theorem slices_medianOrdered_int_call {data : Option Addr} {dataL : Nat} {dataC : Nat} {a : Int} {b : Int} {c : Int} {swaps : Option Addr} {h : Hp} {K : Value → Hp → Prop} (hk : slices_medianOrdered_int_b0 data dataL dataC a b c swaps h K) : HCalls Try.prog 93 #[.slice data dataL dataC, .int .i64 a, .int .i64 b, .int .i64 c, .pointer swaps] h K :=
  calls_of_snd slices_medianOrdered_int_an Try.func93 (c := bodyOf Try.f93) rfl Try.ntmps93 (Nat.le_of_ble_eq_true rfl) (snd_1 F_ok F_mixed) hk

end Go.Proofs.Ytipmcfpjdebpdaa
