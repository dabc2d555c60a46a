/- Plain statements of what each block of code of this seat asks; printed by a program, checked by Lean. -/
import Derived.Test.YtipmcfpjdebpdaaSxV0
set_option maxRecDepth 10000
namespace Go.Proofs.Ytipmcfpjdebpdaa
open Go Go.Sx

/-! ### slices_siftDownCmpFunc_int -/
def slices_siftDownCmpFunc_int_an : Ann := .node none (.leaf) (.loop [0, 2, 3, 4] [(10, .int .i64)] (.node none (.leaf) (.node none (.leaf) (.node (some [0, 2, 3, 4, 10, 11]) (.node none (.tail 19) (.leaf)) (.node none (.node none (.tail 13) (.leaf)) (.node none (.plan (.qu 0 (.qu 1 (.qu 2 (.qu 3 (.qu 4 (.qu 5 (.qu 6 (.qu 7 (.qu 8 (.qu 9 (.qu 10 (.qu 11 (.qu 12 (.qu 13 (.qu 14 (.qu 15 (.qu 16 (.qu 17 (.qu 18 (.qu 19 (.qu 20 (.wo 21 (.qu 22 (.wo 23 .fin .no)) .no))))))))))))))))))))))) (.leaf)))))))
def slices_siftDownCmpFunc_int_K0  (K : Value → Hp → Prop) : Exit → Env → Hp → Prop := retK Try.prog Try.f94.results.toList K
def slices_siftDownCmpFunc_int_K1  (K : Value → Hp → Prop) : Exit → Env → Hp → Prop := blockE 0 (slices_siftDownCmpFunc_int_K0  K)
def slices_siftDownCmpFunc_int_K2 (nx0 : Int × Unit → Hp → Prop) (K : Value → Hp → Prop) : Exit → Env → Hp → Prop := thenE (fun env h => getV [(10, .int .i64)] env fun s => nx0 s h) (slices_siftDownCmpFunc_int_K1  K)
def slices_siftDownCmpFunc_int_K3 (nx0 : Int × Unit → Hp → Prop) (K : Value → Hp → Prop) : Exit → Env → Hp → Prop := blockE 1 (slices_siftDownCmpFunc_int_K2 nx0 K)
def slices_siftDownCmpFunc_int_b0 (data : Option Addr) (dataL : Nat) (dataC : Nat) (lo : Int) (hi : Int) (first : Int) (cmp : Value) (h : Hp)  (K : Value → Hp → Prop) : Prop :=
  sx_3 Try.prog F 82 (cp [] (bodyOf Try.f94)) (ap [] slices_siftDownCmpFunc_int_an) [(0, .slice data dataL dataC), (1, .int .i64 lo), (2, .int .i64 hi), (3, .int .i64 first), (4, cmp)] h (slices_siftDownCmpFunc_int_K0  K)
def slices_siftDownCmpFunc_int_b1 (root : Int) (data : Option Addr) (dataL : Nat) (dataC : Nat) (hi : Int) (first : Int) (cmp : Value) (h : Hp) (nx0 : Int × Unit → Hp → Prop) (K : Value → Hp → Prop) : Prop :=
  sx_2 Try.prog F 82 (cp [1, 2, 2] (bodyOf Try.f94)) (ap [1, 2] slices_siftDownCmpFunc_int_an) [(10, .int .i64 root), (0, .slice data dataL dataC), (2, .int .i64 hi), (3, .int .i64 first), (4, cmp)] h (slices_siftDownCmpFunc_int_K2 nx0 K)
def slices_siftDownCmpFunc_int_b2 (data : Option Addr) (dataL : Nat) (dataC : Nat) (hi : Int) (first : Int) (cmp : Value) (root : Int) (child : Int) (h : Hp) (nx0 : Int × Unit → Hp → Prop) (K : Value → Hp → Prop) : Prop :=
  sx_1 Try.prog F 82 (cp [1, 2, 2, 2, 1, 1, 1] (bodyOf Try.f94)) (ap [1, 2, 1, 1, 1] slices_siftDownCmpFunc_int_an) [(0, .slice data dataL dataC), (2, .int .i64 hi), (3, .int .i64 first), (4, cmp), (10, .int .i64 root), (11, .int .i64 child)] h (slices_siftDownCmpFunc_int_K3 nx0 K)
theorem slices_siftDownCmpFunc_int_b0_eq (data : Option Addr) (dataL : Nat) (dataC : Nat) (lo : Int) (hi : Int) (first : Int) (cmp : Value) (h : Hp)  (K : Value → Hp → Prop) : slices_siftDownCmpFunc_int_b0 data dataL dataC lo hi first cmp h  K = (
  LoopVC ((lo, ()) : Int × Unit) h (fun (nx0 : Int × Unit → Hp → Prop) (s1 : Int × Unit) h1 => slices_siftDownCmpFunc_int_b1 s1.1 data dataL dataC hi first cmp h1 nx0 K)) := by kernel_rfl
theorem slices_siftDownCmpFunc_int_b1_eq (root : Int) (data : Option Addr) (dataL : Nat) (dataC : Nat) (hi : Int) (first : Int) (cmp : Value) (h : Hp) (nx0 : Int × Unit → Hp → Prop) (K : Value → Hp → Prop) : slices_siftDownCmpFunc_int_b1 root data dataL dataC hi first cmp h nx0 K = (
  InR (2 * root) ∧
  InR ((2 * root) + 1) ∧
  cond (decide (hi ≤ ((2 * root) + 1)))
  (K (.tuple #[]) h)
  (InR (((2 * root) + 1) + 1) ∧
  cond (decide ((((2 * root) + 1) + 1) < hi))
  (InR (first + ((2 * root) + 1)) ∧
  (0 ≤ first + ((2 * root) + 1) ∧ first + ((2 * root) + 1) < (dataL : Int)) ∧
  NN data fun a1 =>
  ∃ n1 : Int, cell h (a1.add (Int.toNat (first + ((2 * root) + 1)) * 1)) = some (.int .i64 n1) ∧
  InR (first + ((2 * root) + 1)) ∧
  InR ((first + ((2 * root) + 1)) + 1) ∧
  (0 ≤ (first + ((2 * root) + 1)) + 1 ∧ (first + ((2 * root) + 1)) + 1 < (dataL : Int)) ∧
  NN data fun a2 =>
  ∃ n2 : Int, cell h (a2.add (Int.toNat ((first + ((2 * root) + 1)) + 1) * 1)) = some (.int .i64 n2) ∧
  funV cmp fun fg1 fa1 fc1 => callX Try.prog F fg1 (fa1 ++ (([.int .i64 n1, .int .i64 n2] : List Value) ++ fc1)).toArray h fun v1 h2 => ∃ r1 : Int, v1 = .int .i64 r1 ∧
  cond (decide (r1 < 0))
  (InR (((2 * root) + 1) + 1) ∧
  slices_siftDownCmpFunc_int_b2 data dataL dataC hi first cmp root (((2 * root) + 1) + 1) h2 nx0 K)
  (slices_siftDownCmpFunc_int_b2 data dataL dataC hi first cmp root ((2 * root) + 1) h2 nx0 K))
  (slices_siftDownCmpFunc_int_b2 data dataL dataC hi first cmp root ((2 * root) + 1) h nx0 K))) := by kernel_rfl
theorem slices_siftDownCmpFunc_int_b2_eq (data : Option Addr) (dataL : Nat) (dataC : Nat) (hi : Int) (first : Int) (cmp : Value) (root : Int) (child : Int) (h : Hp) (nx0 : Int × Unit → Hp → Prop) (K : Value → Hp → Prop) : slices_siftDownCmpFunc_int_b2 data dataL dataC hi first cmp root child h nx0 K = (
  InR (first + root) ∧
  (0 ≤ first + root ∧ first + root < (dataL : Int)) ∧
  NN data fun a3 =>
  ∃ n3 : Int, cell h (a3.add (Int.toNat (first + root) * 1)) = some (.int .i64 n3) ∧
  InR (first + child) ∧
  (0 ≤ first + child ∧ first + child < (dataL : Int)) ∧
  NN data fun a4 =>
  ∃ n4 : Int, cell h (a4.add (Int.toNat (first + child) * 1)) = some (.int .i64 n4) ∧
  funV cmp fun fg2 fa2 fc2 => callX Try.prog F fg2 (fa2 ++ (([.int .i64 n3, .int .i64 n4] : List Value) ++ fc2)).toArray h fun v2 h3 => ∃ r2 : Int, v2 = .int .i64 r2 ∧
  cond (!(decide (r2 < 0)))
  (K (.tuple #[]) h3)
  (InR (first + root) ∧
  InR (first + child) ∧
  InR (first + child) ∧
  (0 ≤ first + child ∧ first + child < (dataL : Int)) ∧
  NN data fun a5 =>
  ∃ n5 : Int, cell h3 (a5.add (Int.toNat (first + child) * 1)) = some (.int .i64 n5) ∧
  InR (first + root) ∧
  (0 ≤ first + root ∧ first + root < (dataL : Int)) ∧
  NN data fun a6 =>
  ∃ n6 : Int, cell h3 (a6.add (Int.toNat (first + root) * 1)) = some (.int .i64 n6) ∧
  (0 ≤ first + root ∧ first + root < (dataL : Int)) ∧
  NN data fun a7 =>
  Wr h3 (a7.add (Int.toNat (first + root) * 1)) (.int .i64 n5) fun h4 =>
  (0 ≤ first + child ∧ first + child < (dataL : Int)) ∧
  NN data fun a8 =>
  Wr h4 (a8.add (Int.toNat (first + child) * 1)) (.int .i64 n6) fun h5 =>
  nx0 (child, ()) h5)) := by kernel_rfl
theorem slices_siftDownCmpFunc_int_call {data : Option Addr} {dataL : Nat} {dataC : Nat} {lo : Int} {hi : Int} {first : Int} {cmp : Value} {h : Hp} {K : Value → Hp → Prop} (hk : slices_siftDownCmpFunc_int_b0 data dataL dataC lo hi first cmp h K) : HCalls Try.prog 94 #[.slice data dataL dataC, .int .i64 lo, .int .i64 hi, .int .i64 first, cmp] h K :=
  calls_of_snd slices_siftDownCmpFunc_int_an Try.func94 (c := bodyOf Try.f94) rfl Try.ntmps94 (Nat.le_of_ble_eq_true rfl) (snd_3 F_ok F_mixed) hk

/-! ### slices_medianAdjacentCmpFunc_int -/
def slices_medianAdjacentCmpFunc_int_an : Ann := .leaf
def slices_medianAdjacentCmpFunc_int_K0  (K : Value → Hp → Prop) : Exit → Env → Hp → Prop := retK Try.prog Try.f95.results.toList K
def slices_medianAdjacentCmpFunc_int_b0 (data : Option Addr) (dataL : Nat) (dataC : Nat) (a : Int) (swaps : Option Addr) (cmp : Value) (h : Hp)  (K : Value → Hp → Prop) : Prop :=
  sx_1 Try.prog F 18 (cp [] (bodyOf Try.f95)) (ap [] slices_medianAdjacentCmpFunc_int_an) [(0, .slice data dataL dataC), (1, .int .i64 a), (2, .pointer swaps), (3, cmp)] h (slices_medianAdjacentCmpFunc_int_K0  K)
theorem slices_medianAdjacentCmpFunc_int_b0_eq (data : Option Addr) (dataL : Nat) (dataC : Nat) (a : Int) (swaps : Option Addr) (cmp : Value) (h : Hp)  (K : Value → Hp → Prop) : slices_medianAdjacentCmpFunc_int_b0 data dataL dataC a swaps cmp h  K = (
  InR (a - 1) ∧
  InR (a + 1) ∧
  HCalls Try.prog 96 #[.slice data dataL dataC, .int .i64 (a - 1), .int .i64 a, .int .i64 (a + 1), .pointer swaps, cmp] h fun v1 h1 => ∃ r1 : Int, v1 = .int .i64 r1 ∧
  K (.int .i64 r1) h1) := by kernel_rfl
theorem slices_medianAdjacentCmpFunc_int_call {data : Option Addr} {dataL : Nat} {dataC : Nat} {a : Int} {swaps : Option Addr} {cmp : Value} {h : Hp} {K : Value → Hp → Prop} (hk : slices_medianAdjacentCmpFunc_int_b0 data dataL dataC a swaps cmp h K) : HCalls Try.prog 95 #[.slice data dataL dataC, .int .i64 a, .pointer swaps, cmp] h K :=
  calls_of_snd slices_medianAdjacentCmpFunc_int_an Try.func95 (c := bodyOf Try.f95) rfl Try.ntmps95 (Nat.le_of_ble_eq_true rfl) (snd_1 F_ok F_mixed) hk

/-! ### slices_medianCmpFunc_int -/
def slices_medianCmpFunc_int_an : Ann := .leaf
def slices_medianCmpFunc_int_K0  (K : Value → Hp → Prop) : Exit → Env → Hp → Prop := retK Try.prog Try.f96.results.toList K
def slices_medianCmpFunc_int_b0 (data : Option Addr) (dataL : Nat) (dataC : Nat) (a : Int) (b : Int) (c : Int) (swaps : Option Addr) (cmp : Value) (h : Hp)  (K : Value → Hp → Prop) : Prop :=
  sx_1 Try.prog F 41 (cp [] (bodyOf Try.f96)) (ap [] slices_medianCmpFunc_int_an) [(0, .slice data dataL dataC), (1, .int .i64 a), (2, .int .i64 b), (3, .int .i64 c), (4, .pointer swaps), (5, cmp)] h (slices_medianCmpFunc_int_K0  K)
theorem slices_medianCmpFunc_int_b0_eq (data : Option Addr) (dataL : Nat) (dataC : Nat) (a : Int) (b : Int) (c : Int) (swaps : Option Addr) (cmp : Value) (h : Hp)  (K : Value → Hp → Prop) : slices_medianCmpFunc_int_b0 data dataL dataC a b c swaps cmp h  K = (
  HCalls Try.prog 101 #[.slice data dataL dataC, .int .i64 a, .int .i64 b, .pointer swaps, cmp] h fun v1 h1 => ∃ r1 : Int, ∃ r2 : Int, v1 = .tuple #[.int .i64 r1, .int .i64 r2] ∧
  HCalls Try.prog 101 #[.slice data dataL dataC, .int .i64 r2, .int .i64 c, .pointer swaps, cmp] h1 fun v2 h2 => ∃ r3 : Int, ∃ r4 : Int, v2 = .tuple #[.int .i64 r3, .int .i64 r4] ∧
  HCalls Try.prog 101 #[.slice data dataL dataC, .int .i64 r1, .int .i64 r3, .pointer swaps, cmp] h2 fun v3 h3 => ∃ r5 : Int, ∃ r6 : Int, v3 = .tuple #[.int .i64 r5, .int .i64 r6] ∧
  K (.int .i64 r6) h3) := by kernel_rfl
theorem slices_medianCmpFunc_int_call {data : Option Addr} {dataL : Nat} {dataC : Nat} {a : Int} {b : Int} {c : Int} {swaps : Option Addr} {cmp : Value} {h : Hp} {K : Value → Hp → Prop} (hk : slices_medianCmpFunc_int_b0 data dataL dataC a b c swaps cmp h K) : HCalls Try.prog 96 #[.slice data dataL dataC, .int .i64 a, .int .i64 b, .int .i64 c, .pointer swaps, cmp] h K :=
  calls_of_snd slices_medianCmpFunc_int_an Try.func96 (c := bodyOf Try.f96) rfl Try.ntmps96 (Nat.le_of_ble_eq_true rfl) (snd_1 F_ok F_mixed) hk

/-! ### slices_rotateCmpFunc_int -/
def slices_rotateCmpFunc_int_an : Ann := .node none (.leaf) (.node none (.leaf) (.node (some [0, 2, 4, 10]) (.loop [0, 2, 4] [(10, .int .i64), (11, .int .i64)] (.leaf)) (.leaf)))
def slices_rotateCmpFunc_int_K0  (K : Value → Hp → Prop) : Exit → Env → Hp → Prop := retK Try.prog Try.f97.results.toList K
def slices_rotateCmpFunc_int_K1  (K : Value → Hp → Prop) : Exit → Env → Hp → Prop := thenE (fun env h => sx_1 Try.prog F 58 (cp [1, 1, 1] (bodyOf Try.f97)) (ap [1, 1, 1] slices_rotateCmpFunc_int_an) (rs [0, 2, 4, 10] env) h (slices_rotateCmpFunc_int_K0  K)) (slices_rotateCmpFunc_int_K0  K)
def slices_rotateCmpFunc_int_K2  (K : Value → Hp → Prop) : Exit → Env → Hp → Prop := blockE 0 (slices_rotateCmpFunc_int_K1  K)
def slices_rotateCmpFunc_int_K3 (nx0 : Int × Int × Unit → Hp → Prop) (K : Value → Hp → Prop) : Exit → Env → Hp → Prop := thenE (fun env h => getV [(10, .int .i64), (11, .int .i64)] env fun s => nx0 s h) (slices_rotateCmpFunc_int_K2  K)
def slices_rotateCmpFunc_int_b0 (data : Option Addr) (dataL : Nat) (dataC : Nat) (a : Int) (m : Int) (b : Int) (cmp : Value) (h : Hp)  (K : Value → Hp → Prop) : Prop :=
  sx_2 Try.prog F 58 (cp [] (bodyOf Try.f97)) (ap [] slices_rotateCmpFunc_int_an) [(0, .slice data dataL dataC), (1, .int .i64 a), (2, .int .i64 m), (3, .int .i64 b), (4, cmp)] h (slices_rotateCmpFunc_int_K0  K)
def slices_rotateCmpFunc_int_b1 (i : Int) (j : Int) (data : Option Addr) (dataL : Nat) (dataC : Nat) (m : Int) (cmp : Value) (h : Hp) (nx0 : Int × Int × Unit → Hp → Prop) (K : Value → Hp → Prop) : Prop :=
  sx_1 Try.prog F 58 (cp [1, 1, 0, 2, 2] (bodyOf Try.f97)) (ap [1, 1, 0, 2] slices_rotateCmpFunc_int_an) [(10, .int .i64 i), (11, .int .i64 j), (0, .slice data dataL dataC), (2, .int .i64 m), (4, cmp)] h (slices_rotateCmpFunc_int_K3 nx0 K)
def slices_rotateCmpFunc_int_b2 (data : Option Addr) (dataL : Nat) (dataC : Nat) (m : Int) (cmp : Value) (i : Int) (h : Hp)  (K : Value → Hp → Prop) : Prop :=
  sx_1 Try.prog F 58 (cp [1, 1, 1] (bodyOf Try.f97)) (ap [1, 1, 1] slices_rotateCmpFunc_int_an) [(0, .slice data dataL dataC), (2, .int .i64 m), (4, cmp), (10, .int .i64 i)] h (slices_rotateCmpFunc_int_K0  K)
theorem slices_rotateCmpFunc_int_b0_eq (data : Option Addr) (dataL : Nat) (dataC : Nat) (a : Int) (m : Int) (b : Int) (cmp : Value) (h : Hp)  (K : Value → Hp → Prop) : slices_rotateCmpFunc_int_b0 data dataL dataC a m b cmp h  K = (
  InR (m - a) ∧
  InR (b - m) ∧
  LoopVC ((m - a, b - m, ()) : Int × Int × Unit) h (fun (nx0 : Int × Int × Unit → Hp → Prop) (s1 : Int × Int × Unit) h1 => slices_rotateCmpFunc_int_b1 s1.1 s1.2.1 data dataL dataC m cmp h1 nx0 K)) := by kernel_rfl
theorem slices_rotateCmpFunc_int_b1_eq (i : Int) (j : Int) (data : Option Addr) (dataL : Nat) (dataC : Nat) (m : Int) (cmp : Value) (h : Hp) (nx0 : Int × Int × Unit → Hp → Prop) (K : Value → Hp → Prop) : slices_rotateCmpFunc_int_b1 i j data dataL dataC m cmp h nx0 K = (
  cond (!decide (i = j))
  (cond (decide (j < i))
  (InR (m - i) ∧
  HCalls Try.prog 102 #[.slice data dataL dataC, .int .i64 (m - i), .int .i64 m, .int .i64 j, cmp] h fun v1 h2 => v1 = .tuple #[] ∧
  InR (i - j) ∧
  nx0 (i - j, j, ()) h2)
  (InR (m - i) ∧
  InR (m + j) ∧
  InR ((m + j) - i) ∧
  HCalls Try.prog 102 #[.slice data dataL dataC, .int .i64 (m - i), .int .i64 ((m + j) - i), .int .i64 i, cmp] h fun v2 h3 => v2 = .tuple #[] ∧
  InR (j - i) ∧
  nx0 (i, j - i, ()) h3))
  (slices_rotateCmpFunc_int_b2 data dataL dataC m cmp i h  K)) := by kernel_rfl
theorem slices_rotateCmpFunc_int_b2_eq (data : Option Addr) (dataL : Nat) (dataC : Nat) (m : Int) (cmp : Value) (i : Int) (h : Hp)  (K : Value → Hp → Prop) : slices_rotateCmpFunc_int_b2 data dataL dataC m cmp i h  K = (
  InR (m - i) ∧
  HCalls Try.prog 102 #[.slice data dataL dataC, .int .i64 (m - i), .int .i64 m, .int .i64 i, cmp] h fun v3 h4 => v3 = .tuple #[] ∧
  K (.tuple #[]) h4) := by kernel_rfl
theorem slices_rotateCmpFunc_int_call {data : Option Addr} {dataL : Nat} {dataC : Nat} {a : Int} {m : Int} {b : Int} {cmp : Value} {h : Hp} {K : Value → Hp → Prop} (hk : slices_rotateCmpFunc_int_b0 data dataL dataC a m b cmp h K) : HCalls Try.prog 97 #[.slice data dataL dataC, .int .i64 a, .int .i64 m, .int .i64 b, cmp] h K :=
  calls_of_snd slices_rotateCmpFunc_int_an Try.func97 (c := bodyOf Try.f97) rfl Try.ntmps97 (Nat.le_of_ble_eq_true rfl) (snd_2 F_ok F_mixed) hk

/-! ### wavelet_Tree_root -/
def wavelet_Tree_root_an : Ann := .leaf
def wavelet_Tree_root_K0  (K : Value → Hp → Prop) : Exit → Env → Hp → Prop := retK Try.prog Try.f98.results.toList K
def wavelet_Tree_root_b0 (t : Option Addr) (fromv : Int) (to : Int) (h : Hp)  (K : Value → Hp → Prop) : Prop :=
  sx_1 Try.prog F 14 (cp [] (bodyOf Try.f98)) (ap [] wavelet_Tree_root_an) [(0, .pointer t), (1, .int .i64 fromv), (2, .int .i64 to)] h (wavelet_Tree_root_K0  K)
theorem wavelet_Tree_root_b0_eq (t : Option Addr) (fromv : Int) (to : Int) (h : Hp)  (K : Value → Hp → Prop) : wavelet_Tree_root_b0 t fromv to h  K = (
  New h (.cells #[.int .i64 0, .int .i64 0, .int .i64 0, .int .i64 0, .int .i64 0, .int .i64 0] 116) fun b1 h1 =>
  NN t fun a1 =>
  ∃ n1 : Int, cell h1 a1 = some (.int .i64 n1) ∧
  Wr h1 ⟨b1, 0, none⟩ (.int .i64 0) fun h2 =>
  Wr h2 ((⟨b1, 0, none⟩ : Addr).add 1) (.int .i64 0) fun h3 =>
  Wr h3 ((⟨b1, 0, none⟩ : Addr).add 2) (.int .i64 n1) fun h4 =>
  Wr h4 ((⟨b1, 0, none⟩ : Addr).add 3) (.int .i64 fromv) fun h5 =>
  Wr h5 ((⟨b1, 0, none⟩ : Addr).add 4) (.int .i64 to) fun h6 =>
  Wr h6 ((⟨b1, 0, none⟩ : Addr).add 5) (.int .i64 0) fun h7 =>
  ∃ r1 : Int, ∃ r2 : Int, ∃ r3 : Int, ∃ r4 : Int, ∃ r5 : Int, ∃ r6 : Int, cell h7 ⟨b1, 0, none⟩ = some (.int .i64 r1) ∧
  cell h7 ((⟨b1, 0, none⟩ : Addr).add 1) = some (.int .i64 r2) ∧
  cell h7 ((⟨b1, 0, none⟩ : Addr).add 2) = some (.int .i64 r3) ∧
  cell h7 ((⟨b1, 0, none⟩ : Addr).add 3) = some (.int .i64 r4) ∧
  cell h7 ((⟨b1, 0, none⟩ : Addr).add 4) = some (.int .i64 r5) ∧
  cell h7 ((⟨b1, 0, none⟩ : Addr).add 5) = some (.int .i64 r6) ∧
  K (.agg #[.int .i64 r1, .int .i64 r2, .int .i64 r3, .int .i64 r4, .int .i64 r5, .int .i64 r6]) h7) := by kernel_rfl
theorem wavelet_Tree_root_call {t : Option Addr} {fromv : Int} {to : Int} {h : Hp} {K : Value → Hp → Prop} (hk : wavelet_Tree_root_b0 t fromv to h K) : HCalls Try.prog 98 #[.pointer t, .int .i64 fromv, .int .i64 to] h K :=
  calls_of_snd wavelet_Tree_root_an Try.func98 (c := bodyOf Try.f98) rfl Try.ntmps98 (Nat.le_of_ble_eq_true rfl) (snd_1 F_ok F_mixed) hk

/-! ### wavelet_Tree_children -/
def wavelet_Tree_children_an : Ann := .node none (.leaf) (.node none (.leaf) (.node none (.leaf) (.node none (.plan (.qu 0 (.qu 1 (.qu 2 (.qu 3 (.qu 4 (.wo 5 (.qu 6 (.wo 7 .fin .no)) .no))))))) (.node none (.leaf) (.node (some [3, 4, 5, 7, 8, 10]) (.plan (.qu 0 (.qu 1 (.qu 2 (.qu 3 (.qu 4 (.qu 5 (.qu 6 (.qu 7 (.qu 8 (.qu 9 (.qu 10 (.qu 13 (.qu 14 (.qu 15 (.qu 16 (.qu 17 (.qu 20 (.qu 21 (.qu 22 (.wo 11 (.qu 12 (.wo 18 (.qu 19 (.qu 23 (.wo 24 (.wo 25 .fin .no) .no))) (.wo 24 (.wo 18 (.qu 19 (.qu 23 (.wo 25 .fin .no))) .no) .no))) (.wo 24 (.wo 11 (.qu 12 (.wo 18 (.qu 19 (.qu 23 (.wo 25 .fin .no))) .no)) .no) .no)))))))))))))))))))))) (.node (some [4, 5, 10, 11]) (.plan (.qu 0 (.qu 1 (.qu 2 (.qu 3 (.qu 4 (.qu 5 (.qu 6 (.qu 7 (.qu 8 (.qu 9 (.qu 12 (.qu 13 (.qu 14 (.qu 15 (.qu 18 (.qu 19 (.qu 20 (.qu 21 (.wo 10 (.qu 11 (.wo 16 (.qu 17 (.qu 22 (.wo 23 (.wo 24 .fin .no) .no))) (.wo 23 (.wo 16 (.qu 17 (.qu 22 (.wo 24 .fin .no))) .no) .no))) (.wo 23 (.wo 10 (.qu 11 (.wo 16 (.qu 17 (.qu 22 (.wo 24 .fin .no))) .no)) .no) .no))))))))))))))))))))) (.node none (.plan (.qu 0 (.qu 1 (.wo 2 (.wo 3 .fin .no) .no)))) (.leaf))))))))
def wavelet_Tree_children_K0  (K : Value → Hp → Prop) : Exit → Env → Hp → Prop := retK Try.prog Try.f99.results.toList K
def wavelet_Tree_children_b0 (t : Option Addr) (x_0 : Int) (x_1 : Int) (x_2 : Int) (x_3 : Int) (x_4 : Int) (x_5 : Int) (h : Hp)  (K : Value → Hp → Prop) : Prop :=
  sx_3 Try.prog F 76 (cp [] (bodyOf Try.f99)) (ap [] wavelet_Tree_children_an) [(0, .pointer t), (1, .agg #[.int .i64 x_0, .int .i64 x_1, .int .i64 x_2, .int .i64 x_3, .int .i64 x_4, .int .i64 x_5])] h (wavelet_Tree_children_K0  K)
def wavelet_Tree_children_b1 (x : Option Addr) (t4 : Option Addr) (t5 : Option Addr) (ones : Option Addr) (middle : Int) (left : Option Addr) (h : Hp)  (K : Value → Hp → Prop) : Prop :=
  sx_2 Try.prog F 76 (cp [1, 1, 1, 1, 1, 1] (bodyOf Try.f99)) (ap [1, 1, 1, 1, 1, 1] wavelet_Tree_children_an) [(3, .pointer x), (4, .pointer t4), (5, .pointer t5), (7, .pointer ones), (8, .int .i64 middle), (10, .pointer left)] h (wavelet_Tree_children_K0  K)
def wavelet_Tree_children_b2 (t4 : Option Addr) (t5 : Option Addr) (left : Option Addr) (right : Option Addr) (h : Hp)  (K : Value → Hp → Prop) : Prop :=
  sx_1 Try.prog F 76 (cp [1, 1, 1, 1, 1, 1, 1] (bodyOf Try.f99)) (ap [1, 1, 1, 1, 1, 1, 1] wavelet_Tree_children_an) [(4, .pointer t4), (5, .pointer t5), (10, .pointer left), (11, .pointer right)] h (wavelet_Tree_children_K0  K)
theorem wavelet_Tree_children_b0_eq (t : Option Addr) (x_0 : Int) (x_1 : Int) (x_2 : Int) (x_3 : Int) (x_4 : Int) (x_5 : Int) (h : Hp)  (K : Value → Hp → Prop) : wavelet_Tree_children_b0 t x_0 x_1 x_2 x_3 x_4 x_5 h  K = (
  New h (.cells #[.pointer t] 61) fun b1 h1 =>
  New h1 (.cells #[.int .i64 x_0, .int .i64 x_1, .int .i64 x_2, .int .i64 x_3, .int .i64 x_4, .int .i64 x_5] 116) fun b2 h2 =>
  New h2 (.cells #[.int .i64 0, .int .i64 0, .int .i64 0, .int .i64 0, .int .i64 0, .int .i64 0] 116) fun b3 h3 =>
  New h3 (.cells #[.int .i64 0, .int .i64 0, .int .i64 0, .int .i64 0, .int .i64 0, .int .i64 0] 116) fun b4 h4 =>
  ∃ p1 : Option Addr, cell h4 ⟨b1, 0, none⟩ = some (.pointer p1) ∧
  ∃ n1 : Int, cell h4 ⟨b2, 0, none⟩ = some (.int .i64 n1) ∧
  ∃ n2 : Int, cell h4 ((⟨b2, 0, none⟩ : Addr).add 1) = some (.int .i64 n2) ∧
  HCalls Try.prog 103 #[.pointer p1, .int .i64 n1, .int .i64 n2] h4 fun v1 h5 => ∃ r1 : Int, v1 = .int .i64 r1 ∧
  New h5 (.cells #[.int .i64 0] 3) fun b5 h6 =>
  Wr h6 ⟨b5, 0, none⟩ (.int .i64 r1) fun h7 =>
  New h7 (.cells #[.nilFunc] 75) fun b6 h8 =>
  Wr h8 ⟨b6, 0, none⟩ (.func (.func 104) #[] #[.pointer (some ⟨b1, 0, none⟩), .pointer (some ⟨b2, 0, none⟩), .pointer (some ⟨b5, 0, none⟩)]) fun h9 =>
  ∃ n3 : Int, cell h9 ((⟨b2, 0, none⟩ : Addr).add 2) = some (.int .i64 n3) ∧
  ∃ v2 : Value, cell h9 ⟨b6, 0, none⟩ = some (v2) ∧
  ∃ n4 : Int, cell h9 ((⟨b2, 0, none⟩ : Addr).add 2) = some (.int .i64 n4) ∧
  funV v2 fun fg1 fa1 fc1 => callX Try.prog F fg1 (fa1 ++ (([.int .i64 n4] : List Value) ++ fc1)).toArray h9 fun v3 h10 => ∃ r2 : Int, v3 = .int .i64 r2 ∧
  (∃ n5 : Int, cell h10 ((⟨b2, 0, none⟩ : Addr).add 2) = some (.int .i64 n5) ∧
  (.int .i64 n5 : Value) = .int .i64 n3) ∧
  InR (n3 - r2) ∧
  ∃ n6 : Int, cell h10 ⟨b2, 0, none⟩ = some (.int .i64 n6) ∧
  InR (n6 + 1) ∧
  ∃ n7 : Int, cell h10 ((⟨b2, 0, none⟩ : Addr).add 1) = some (.int .i64 n7) ∧
  ∃ n8 : Int, cell h10 ((⟨b2, 0, none⟩ : Addr).add 1) = some (.int .i64 n8) ∧
  ∃ n9 : Int, cell h10 ((⟨b2, 0, none⟩ : Addr).add 3) = some (.int .i64 n9) ∧
  ∃ n10 : Int, cell h10 ((⟨b2, 0, none⟩ : Addr).add 1) = some (.int .i64 n10) ∧
  ∃ n11 : Int, cell h10 ((⟨b2, 0, none⟩ : Addr).add 4) = some (.int .i64 n11) ∧
  ∃ n12 : Int, cell h10 ((⟨b2, 0, none⟩ : Addr).add 5) = some (.int .i64 n12) ∧
  InR (2 * n12) ∧
  (HCalls Try.prog 105 #[.int .i64 n9, .pointer (some ⟨b2, 0, none⟩), .pointer (some ⟨b6, 0, none⟩)] h10 fun v4 h11 => ∃ r3 : Int, v4 = .int .i64 r3 ∧
  (∃ n13 : Int, cell h11 ((⟨b2, 0, none⟩ : Addr).add 5) = some (.int .i64 n13) ∧
  (.int .i64 n13 : Value) = .int .i64 n12) ∧
  (∃ n14 : Int, cell h11 ((⟨b2, 0, none⟩ : Addr).add 4) = some (.int .i64 n14) ∧
  (.int .i64 n14 : Value) = .int .i64 n11) ∧
  (∃ n15 : Int, cell h11 ((⟨b2, 0, none⟩ : Addr).add 1) = some (.int .i64 n15) ∧
  (.int .i64 n15 : Value) = .int .i64 n10) ∧
  (∃ n16 : Int, cell h11 ((⟨b2, 0, none⟩ : Addr).add 1) = some (.int .i64 n16) ∧
  (.int .i64 n16 : Value) = .int .i64 n8) ∧
  (∃ n17 : Int, cell h11 ((⟨b2, 0, none⟩ : Addr).add 1) = some (.int .i64 n17) ∧
  (.int .i64 n17 : Value) = .int .i64 n7) ∧
  (∃ n18 : Int, cell h11 ⟨b2, 0, none⟩ = some (.int .i64 n18) ∧
  (.int .i64 n18 : Value) = .int .i64 n6) ∧
  InR (n8 + r3) ∧
  (HCalls Try.prog 105 #[.int .i64 n11, .pointer (some ⟨b2, 0, none⟩), .pointer (some ⟨b6, 0, none⟩)] h11 fun v5 h12 => ∃ r4 : Int, v5 = .int .i64 r4 ∧
  (∃ n19 : Int, cell h12 ((⟨b2, 0, none⟩ : Addr).add 5) = some (.int .i64 n19) ∧
  (.int .i64 n19 : Value) = .int .i64 n12) ∧
  (∃ n20 : Int, cell h12 ((⟨b2, 0, none⟩ : Addr).add 1) = some (.int .i64 n20) ∧
  (.int .i64 n20 : Value) = .int .i64 n10) ∧
  (∃ n21 : Int, cell h12 ((⟨b2, 0, none⟩ : Addr).add 1) = some (.int .i64 n21) ∧
  (.int .i64 n21 : Value) = .int .i64 n8) ∧
  (∃ n22 : Int, cell h12 ((⟨b2, 0, none⟩ : Addr).add 1) = some (.int .i64 n22) ∧
  (.int .i64 n22 : Value) = .int .i64 n7) ∧
  (∃ n23 : Int, cell h12 ⟨b2, 0, none⟩ = some (.int .i64 n23) ∧
  (.int .i64 n23 : Value) = .int .i64 n6) ∧
  InR (n10 + r4) ∧
  New h12 (.cells #[.int .i64 0, .int .i64 0, .int .i64 0, .int .i64 0, .int .i64 0, .int .i64 0] 116) fun b7 h13 =>
  ((.agg #[.int .i64 (n6 + 1), .int .i64 n7, .int .i64 (n3 - r2), .int .i64 (n8 + r3), .int .i64 (n10 + r4), .int .i64 (2 * n12)] : Value) = .agg #[.int .i64 (n6 + 1), .int .i64 n7, .int .i64 (n3 - r2), .int .i64 (n8 + r3), .int .i64 (n10 + r4), .int .i64 (2 * n12)]) ∧
  (∃ n24 : Int, cell h13 ((⟨b2, 0, none⟩ : Addr).add 5) = some (.int .i64 n24) ∧
  (.int .i64 n24 : Value) = .int .i64 n12) ∧
  (∃ n25 : Int, cell h13 ((⟨b2, 0, none⟩ : Addr).add 1) = some (.int .i64 n25) ∧
  (.int .i64 n25 : Value) = .int .i64 n10) ∧
  (∃ n26 : Int, cell h13 ((⟨b2, 0, none⟩ : Addr).add 1) = some (.int .i64 n26) ∧
  (.int .i64 n26 : Value) = .int .i64 n8) ∧
  (∃ n27 : Int, cell h13 ((⟨b2, 0, none⟩ : Addr).add 1) = some (.int .i64 n27) ∧
  (.int .i64 n27 : Value) = .int .i64 n7) ∧
  (∃ n28 : Int, cell h13 ⟨b2, 0, none⟩ = some (.int .i64 n28) ∧
  (.int .i64 n28 : Value) = .int .i64 n6) ∧
  Wr h13 ⟨b7, 0, none⟩ (.int .i64 (n6 + 1)) fun h14 =>
  Wr h14 ((⟨b7, 0, none⟩ : Addr).add 1) (.int .i64 n7) fun h15 =>
  Wr h15 ((⟨b7, 0, none⟩ : Addr).add 2) (.int .i64 (n3 - r2)) fun h16 =>
  Wr h16 ((⟨b7, 0, none⟩ : Addr).add 3) (.int .i64 (n8 + r3)) fun h17 =>
  Wr h17 ((⟨b7, 0, none⟩ : Addr).add 4) (.int .i64 (n10 + r4)) fun h18 =>
  Wr h18 ((⟨b7, 0, none⟩ : Addr).add 5) (.int .i64 (2 * n12)) fun h19 =>
  wavelet_Tree_children_b1 (some ⟨b2, 0, none⟩) (some ⟨b3, 0, none⟩) (some ⟨b4, 0, none⟩) (some ⟨b6, 0, none⟩) (n3 - r2) (some ⟨b7, 0, none⟩) h19  K) ∧
  (New h11 (.cells #[.int .i64 0, .int .i64 0, .int .i64 0, .int .i64 0, .int .i64 0, .int .i64 0] 116) fun b8 h20 =>
  (∃ n29 : Int, cell h20 ((⟨b2, 0, none⟩ : Addr).add 5) = some (.int .i64 n29) ∧
  (.int .i64 n29 : Value) = .int .i64 n12) ∧
  (∃ n30 : Int, cell h20 ((⟨b2, 0, none⟩ : Addr).add 4) = some (.int .i64 n30) ∧
  (.int .i64 n30 : Value) = .int .i64 n11) ∧
  (∃ n31 : Int, cell h20 ((⟨b2, 0, none⟩ : Addr).add 1) = some (.int .i64 n31) ∧
  (.int .i64 n31 : Value) = .int .i64 n10) ∧
  (∃ n32 : Int, cell h20 ((⟨b2, 0, none⟩ : Addr).add 1) = some (.int .i64 n32) ∧
  (.int .i64 n32 : Value) = .int .i64 n8) ∧
  (∃ n33 : Int, cell h20 ((⟨b2, 0, none⟩ : Addr).add 1) = some (.int .i64 n33) ∧
  (.int .i64 n33 : Value) = .int .i64 n7) ∧
  (∃ n34 : Int, cell h20 ⟨b2, 0, none⟩ = some (.int .i64 n34) ∧
  (.int .i64 n34 : Value) = .int .i64 n6) ∧
  HCalls Try.prog 105 #[.int .i64 n11, .pointer (some ⟨b2, 0, none⟩), .pointer (some ⟨b6, 0, none⟩)] h20 fun v6 h21 => ∃ r5 : Int, v6 = .int .i64 r5 ∧
  (∃ n35 : Int, cell h21 ((⟨b2, 0, none⟩ : Addr).add 5) = some (.int .i64 n35) ∧
  (.int .i64 n35 : Value) = .int .i64 n12) ∧
  (∃ n36 : Int, cell h21 ((⟨b2, 0, none⟩ : Addr).add 1) = some (.int .i64 n36) ∧
  (.int .i64 n36 : Value) = .int .i64 n10) ∧
  (∃ n37 : Int, cell h21 ((⟨b2, 0, none⟩ : Addr).add 1) = some (.int .i64 n37) ∧
  (.int .i64 n37 : Value) = .int .i64 n8) ∧
  (∃ n38 : Int, cell h21 ((⟨b2, 0, none⟩ : Addr).add 1) = some (.int .i64 n38) ∧
  (.int .i64 n38 : Value) = .int .i64 n7) ∧
  (∃ n39 : Int, cell h21 ⟨b2, 0, none⟩ = some (.int .i64 n39) ∧
  (.int .i64 n39 : Value) = .int .i64 n6) ∧
  InR (n10 + r5) ∧
  Wr h21 ⟨b8, 0, none⟩ (.int .i64 (n6 + 1)) fun h22 =>
  Wr h22 ((⟨b8, 0, none⟩ : Addr).add 1) (.int .i64 n7) fun h23 =>
  Wr h23 ((⟨b8, 0, none⟩ : Addr).add 2) (.int .i64 (n3 - r2)) fun h24 =>
  Wr h24 ((⟨b8, 0, none⟩ : Addr).add 3) (.int .i64 (n8 + r3)) fun h25 =>
  Wr h25 ((⟨b8, 0, none⟩ : Addr).add 4) (.int .i64 (n10 + r5)) fun h26 =>
  Wr h26 ((⟨b8, 0, none⟩ : Addr).add 5) (.int .i64 (2 * n12)) fun h27 =>
  wavelet_Tree_children_b1 (some ⟨b2, 0, none⟩) (some ⟨b3, 0, none⟩) (some ⟨b4, 0, none⟩) (some ⟨b6, 0, none⟩) (n3 - r2) (some ⟨b8, 0, none⟩) h27  K)) ∧
  (New h10 (.cells #[.int .i64 0, .int .i64 0, .int .i64 0, .int .i64 0, .int .i64 0, .int .i64 0] 116) fun b9 h28 =>
  (∃ n40 : Int, cell h28 ((⟨b2, 0, none⟩ : Addr).add 5) = some (.int .i64 n40) ∧
  (.int .i64 n40 : Value) = .int .i64 n12) ∧
  (∃ n41 : Int, cell h28 ((⟨b2, 0, none⟩ : Addr).add 4) = some (.int .i64 n41) ∧
  (.int .i64 n41 : Value) = .int .i64 n11) ∧
  (∃ n42 : Int, cell h28 ((⟨b2, 0, none⟩ : Addr).add 1) = some (.int .i64 n42) ∧
  (.int .i64 n42 : Value) = .int .i64 n10) ∧
  (∃ n43 : Int, cell h28 ((⟨b2, 0, none⟩ : Addr).add 3) = some (.int .i64 n43) ∧
  (.int .i64 n43 : Value) = .int .i64 n9) ∧
  (∃ n44 : Int, cell h28 ((⟨b2, 0, none⟩ : Addr).add 1) = some (.int .i64 n44) ∧
  (.int .i64 n44 : Value) = .int .i64 n8) ∧
  (∃ n45 : Int, cell h28 ((⟨b2, 0, none⟩ : Addr).add 1) = some (.int .i64 n45) ∧
  (.int .i64 n45 : Value) = .int .i64 n7) ∧
  (∃ n46 : Int, cell h28 ⟨b2, 0, none⟩ = some (.int .i64 n46) ∧
  (.int .i64 n46 : Value) = .int .i64 n6) ∧
  HCalls Try.prog 105 #[.int .i64 n9, .pointer (some ⟨b2, 0, none⟩), .pointer (some ⟨b6, 0, none⟩)] h28 fun v7 h29 => ∃ r6 : Int, v7 = .int .i64 r6 ∧
  (∃ n47 : Int, cell h29 ((⟨b2, 0, none⟩ : Addr).add 5) = some (.int .i64 n47) ∧
  (.int .i64 n47 : Value) = .int .i64 n12) ∧
  (∃ n48 : Int, cell h29 ((⟨b2, 0, none⟩ : Addr).add 4) = some (.int .i64 n48) ∧
  (.int .i64 n48 : Value) = .int .i64 n11) ∧
  (∃ n49 : Int, cell h29 ((⟨b2, 0, none⟩ : Addr).add 1) = some (.int .i64 n49) ∧
  (.int .i64 n49 : Value) = .int .i64 n10) ∧
  (∃ n50 : Int, cell h29 ((⟨b2, 0, none⟩ : Addr).add 1) = some (.int .i64 n50) ∧
  (.int .i64 n50 : Value) = .int .i64 n8) ∧
  (∃ n51 : Int, cell h29 ((⟨b2, 0, none⟩ : Addr).add 1) = some (.int .i64 n51) ∧
  (.int .i64 n51 : Value) = .int .i64 n7) ∧
  (∃ n52 : Int, cell h29 ⟨b2, 0, none⟩ = some (.int .i64 n52) ∧
  (.int .i64 n52 : Value) = .int .i64 n6) ∧
  InR (n8 + r6) ∧
  HCalls Try.prog 105 #[.int .i64 n11, .pointer (some ⟨b2, 0, none⟩), .pointer (some ⟨b6, 0, none⟩)] h29 fun v8 h30 => ∃ r7 : Int, v8 = .int .i64 r7 ∧
  (∃ n53 : Int, cell h30 ((⟨b2, 0, none⟩ : Addr).add 5) = some (.int .i64 n53) ∧
  (.int .i64 n53 : Value) = .int .i64 n12) ∧
  (∃ n54 : Int, cell h30 ((⟨b2, 0, none⟩ : Addr).add 1) = some (.int .i64 n54) ∧
  (.int .i64 n54 : Value) = .int .i64 n10) ∧
  (∃ n55 : Int, cell h30 ((⟨b2, 0, none⟩ : Addr).add 1) = some (.int .i64 n55) ∧
  (.int .i64 n55 : Value) = .int .i64 n8) ∧
  (∃ n56 : Int, cell h30 ((⟨b2, 0, none⟩ : Addr).add 1) = some (.int .i64 n56) ∧
  (.int .i64 n56 : Value) = .int .i64 n7) ∧
  (∃ n57 : Int, cell h30 ⟨b2, 0, none⟩ = some (.int .i64 n57) ∧
  (.int .i64 n57 : Value) = .int .i64 n6) ∧
  InR (n10 + r7) ∧
  Wr h30 ⟨b9, 0, none⟩ (.int .i64 (n6 + 1)) fun h31 =>
  Wr h31 ((⟨b9, 0, none⟩ : Addr).add 1) (.int .i64 n7) fun h32 =>
  Wr h32 ((⟨b9, 0, none⟩ : Addr).add 2) (.int .i64 (n3 - r2)) fun h33 =>
  Wr h33 ((⟨b9, 0, none⟩ : Addr).add 3) (.int .i64 (n8 + r6)) fun h34 =>
  Wr h34 ((⟨b9, 0, none⟩ : Addr).add 4) (.int .i64 (n10 + r7)) fun h35 =>
  Wr h35 ((⟨b9, 0, none⟩ : Addr).add 5) (.int .i64 (2 * n12)) fun h36 =>
  wavelet_Tree_children_b1 (some ⟨b2, 0, none⟩) (some ⟨b3, 0, none⟩) (some ⟨b4, 0, none⟩) (some ⟨b6, 0, none⟩) (n3 - r2) (some ⟨b9, 0, none⟩) h36  K)) := by kernel_rfl
theorem wavelet_Tree_children_b1_eq (x : Option Addr) (t4 : Option Addr) (t5 : Option Addr) (ones : Option Addr) (middle : Int) (left : Option Addr) (h : Hp)  (K : Value → Hp → Prop) : wavelet_Tree_children_b1 x t4 t5 ones middle left h  K = (
  NN x fun a1 =>
  ∃ n58 : Int, cell h a1 = some (.int .i64 n58) ∧
  InR (n58 + 1) ∧
  NN x fun a2 =>
  ∃ n59 : Int, cell h (a2.add 2) = some (.int .i64 n59) ∧
  NN ones fun a3 =>
  ∃ v9 : Value, cell h a3 = some (v9) ∧
  NN x fun a4 =>
  ∃ n60 : Int, cell h (a4.add 3) = some (.int .i64 n60) ∧
  NN ones fun a5 =>
  ∃ v10 : Value, cell h a5 = some (v10) ∧
  NN x fun a6 =>
  ∃ n61 : Int, cell h (a6.add 4) = some (.int .i64 n61) ∧
  NN x fun a7 =>
  ∃ n62 : Int, cell h (a7.add 5) = some (.int .i64 n62) ∧
  InR (2 * n62) ∧
  InR ((2 * n62) + 1) ∧
  (funV v9 fun fg2 fa2 fc2 => callX Try.prog F fg2 (fa2 ++ (([.int .i64 n60] : List Value) ++ fc2)).toArray h fun v11 h37 => ∃ r8 : Int, v11 = .int .i64 r8 ∧
  (∃ n63 : Int, cell h37 (a7.add 5) = some (.int .i64 n63) ∧
  (.int .i64 n63 : Value) = .int .i64 n62) ∧
  (∃ n64 : Int, cell h37 (a6.add 4) = some (.int .i64 n64) ∧
  (.int .i64 n64 : Value) = .int .i64 n61) ∧
  (NN ones fun a8 =>
  ∃ v12 : Value, cell h37 a8 = some (v12) ∧
  (v12 : Value) = v10) ∧
  (∃ n65 : Int, cell h37 (a2.add 2) = some (.int .i64 n65) ∧
  (.int .i64 n65 : Value) = .int .i64 n59) ∧
  (∃ n66 : Int, cell h37 a1 = some (.int .i64 n66) ∧
  (.int .i64 n66 : Value) = .int .i64 n58) ∧
  InR (middle + r8) ∧
  (funV v10 fun fg3 fa3 fc3 => callX Try.prog F fg3 (fa3 ++ (([.int .i64 n61] : List Value) ++ fc3)).toArray h37 fun v13 h38 => ∃ r9 : Int, v13 = .int .i64 r9 ∧
  (∃ n67 : Int, cell h38 (a7.add 5) = some (.int .i64 n67) ∧
  (.int .i64 n67 : Value) = .int .i64 n62) ∧
  (∃ n68 : Int, cell h38 (a2.add 2) = some (.int .i64 n68) ∧
  (.int .i64 n68 : Value) = .int .i64 n59) ∧
  (∃ n69 : Int, cell h38 a1 = some (.int .i64 n69) ∧
  (.int .i64 n69 : Value) = .int .i64 n58) ∧
  InR (middle + r9) ∧
  New h38 (.cells #[.int .i64 0, .int .i64 0, .int .i64 0, .int .i64 0, .int .i64 0, .int .i64 0] 116) fun b10 h39 =>
  ((.agg #[.int .i64 (n58 + 1), .int .i64 middle, .int .i64 n59, .int .i64 (middle + r8), .int .i64 (middle + r9), .int .i64 ((2 * n62) + 1)] : Value) = .agg #[.int .i64 (n58 + 1), .int .i64 middle, .int .i64 n59, .int .i64 (middle + r8), .int .i64 (middle + r9), .int .i64 ((2 * n62) + 1)]) ∧
  (∃ n70 : Int, cell h39 (a7.add 5) = some (.int .i64 n70) ∧
  (.int .i64 n70 : Value) = .int .i64 n62) ∧
  (∃ n71 : Int, cell h39 (a2.add 2) = some (.int .i64 n71) ∧
  (.int .i64 n71 : Value) = .int .i64 n59) ∧
  (∃ n72 : Int, cell h39 a1 = some (.int .i64 n72) ∧
  (.int .i64 n72 : Value) = .int .i64 n58) ∧
  Wr h39 ⟨b10, 0, none⟩ (.int .i64 (n58 + 1)) fun h40 =>
  Wr h40 ((⟨b10, 0, none⟩ : Addr).add 1) (.int .i64 middle) fun h41 =>
  Wr h41 ((⟨b10, 0, none⟩ : Addr).add 2) (.int .i64 n59) fun h42 =>
  Wr h42 ((⟨b10, 0, none⟩ : Addr).add 3) (.int .i64 (middle + r8)) fun h43 =>
  Wr h43 ((⟨b10, 0, none⟩ : Addr).add 4) (.int .i64 (middle + r9)) fun h44 =>
  Wr h44 ((⟨b10, 0, none⟩ : Addr).add 5) (.int .i64 ((2 * n62) + 1)) fun h45 =>
  wavelet_Tree_children_b2 t4 t5 left (some ⟨b10, 0, none⟩) h45  K) ∧
  (New h37 (.cells #[.int .i64 0, .int .i64 0, .int .i64 0, .int .i64 0, .int .i64 0, .int .i64 0] 116) fun b11 h46 =>
  (∃ n73 : Int, cell h46 (a7.add 5) = some (.int .i64 n73) ∧
  (.int .i64 n73 : Value) = .int .i64 n62) ∧
  (∃ n74 : Int, cell h46 (a6.add 4) = some (.int .i64 n74) ∧
  (.int .i64 n74 : Value) = .int .i64 n61) ∧
  (NN ones fun a9 =>
  ∃ v14 : Value, cell h46 a9 = some (v14) ∧
  (v14 : Value) = v10) ∧
  (∃ n75 : Int, cell h46 (a2.add 2) = some (.int .i64 n75) ∧
  (.int .i64 n75 : Value) = .int .i64 n59) ∧
  (∃ n76 : Int, cell h46 a1 = some (.int .i64 n76) ∧
  (.int .i64 n76 : Value) = .int .i64 n58) ∧
  funV v10 fun fg4 fa4 fc4 => callX Try.prog F fg4 (fa4 ++ (([.int .i64 n61] : List Value) ++ fc4)).toArray h46 fun v15 h47 => ∃ r10 : Int, v15 = .int .i64 r10 ∧
  (∃ n77 : Int, cell h47 (a7.add 5) = some (.int .i64 n77) ∧
  (.int .i64 n77 : Value) = .int .i64 n62) ∧
  (∃ n78 : Int, cell h47 (a2.add 2) = some (.int .i64 n78) ∧
  (.int .i64 n78 : Value) = .int .i64 n59) ∧
  (∃ n79 : Int, cell h47 a1 = some (.int .i64 n79) ∧
  (.int .i64 n79 : Value) = .int .i64 n58) ∧
  InR (middle + r10) ∧
  Wr h47 ⟨b11, 0, none⟩ (.int .i64 (n58 + 1)) fun h48 =>
  Wr h48 ((⟨b11, 0, none⟩ : Addr).add 1) (.int .i64 middle) fun h49 =>
  Wr h49 ((⟨b11, 0, none⟩ : Addr).add 2) (.int .i64 n59) fun h50 =>
  Wr h50 ((⟨b11, 0, none⟩ : Addr).add 3) (.int .i64 (middle + r8)) fun h51 =>
  Wr h51 ((⟨b11, 0, none⟩ : Addr).add 4) (.int .i64 (middle + r10)) fun h52 =>
  Wr h52 ((⟨b11, 0, none⟩ : Addr).add 5) (.int .i64 ((2 * n62) + 1)) fun h53 =>
  wavelet_Tree_children_b2 t4 t5 left (some ⟨b11, 0, none⟩) h53  K)) ∧
  (New h (.cells #[.int .i64 0, .int .i64 0, .int .i64 0, .int .i64 0, .int .i64 0, .int .i64 0] 116) fun b12 h54 =>
  (∃ n80 : Int, cell h54 (a7.add 5) = some (.int .i64 n80) ∧
  (.int .i64 n80 : Value) = .int .i64 n62) ∧
  (∃ n81 : Int, cell h54 (a6.add 4) = some (.int .i64 n81) ∧
  (.int .i64 n81 : Value) = .int .i64 n61) ∧
  (NN ones fun a10 =>
  ∃ v16 : Value, cell h54 a10 = some (v16) ∧
  (v16 : Value) = v10) ∧
  (∃ n82 : Int, cell h54 (a4.add 3) = some (.int .i64 n82) ∧
  (.int .i64 n82 : Value) = .int .i64 n60) ∧
  (NN ones fun a11 =>
  ∃ v17 : Value, cell h54 a11 = some (v17) ∧
  (v17 : Value) = v9) ∧
  (∃ n83 : Int, cell h54 (a2.add 2) = some (.int .i64 n83) ∧
  (.int .i64 n83 : Value) = .int .i64 n59) ∧
  (∃ n84 : Int, cell h54 a1 = some (.int .i64 n84) ∧
  (.int .i64 n84 : Value) = .int .i64 n58) ∧
  funV v9 fun fg5 fa5 fc5 => callX Try.prog F fg5 (fa5 ++ (([.int .i64 n60] : List Value) ++ fc5)).toArray h54 fun v18 h55 => ∃ r11 : Int, v18 = .int .i64 r11 ∧
  (∃ n85 : Int, cell h55 (a7.add 5) = some (.int .i64 n85) ∧
  (.int .i64 n85 : Value) = .int .i64 n62) ∧
  (∃ n86 : Int, cell h55 (a6.add 4) = some (.int .i64 n86) ∧
  (.int .i64 n86 : Value) = .int .i64 n61) ∧
  (NN ones fun a12 =>
  ∃ v19 : Value, cell h55 a12 = some (v19) ∧
  (v19 : Value) = v10) ∧
  (∃ n87 : Int, cell h55 (a2.add 2) = some (.int .i64 n87) ∧
  (.int .i64 n87 : Value) = .int .i64 n59) ∧
  (∃ n88 : Int, cell h55 a1 = some (.int .i64 n88) ∧
  (.int .i64 n88 : Value) = .int .i64 n58) ∧
  InR (middle + r11) ∧
  funV v10 fun fg6 fa6 fc6 => callX Try.prog F fg6 (fa6 ++ (([.int .i64 n61] : List Value) ++ fc6)).toArray h55 fun v20 h56 => ∃ r12 : Int, v20 = .int .i64 r12 ∧
  (∃ n89 : Int, cell h56 (a7.add 5) = some (.int .i64 n89) ∧
  (.int .i64 n89 : Value) = .int .i64 n62) ∧
  (∃ n90 : Int, cell h56 (a2.add 2) = some (.int .i64 n90) ∧
  (.int .i64 n90 : Value) = .int .i64 n59) ∧
  (∃ n91 : Int, cell h56 a1 = some (.int .i64 n91) ∧
  (.int .i64 n91 : Value) = .int .i64 n58) ∧
  InR (middle + r12) ∧
  Wr h56 ⟨b12, 0, none⟩ (.int .i64 (n58 + 1)) fun h57 =>
  Wr h57 ((⟨b12, 0, none⟩ : Addr).add 1) (.int .i64 middle) fun h58 =>
  Wr h58 ((⟨b12, 0, none⟩ : Addr).add 2) (.int .i64 n59) fun h59 =>
  Wr h59 ((⟨b12, 0, none⟩ : Addr).add 3) (.int .i64 (middle + r11)) fun h60 =>
  Wr h60 ((⟨b12, 0, none⟩ : Addr).add 4) (.int .i64 (middle + r12)) fun h61 =>
  Wr h61 ((⟨b12, 0, none⟩ : Addr).add 5) (.int .i64 ((2 * n62) + 1)) fun h62 =>
  wavelet_Tree_children_b2 t4 t5 left (some ⟨b12, 0, none⟩) h62  K)) := by kernel_rfl
theorem wavelet_Tree_children_b2_eq (t4 : Option Addr) (t5 : Option Addr) (left : Option Addr) (right : Option Addr) (h : Hp)  (K : Value → Hp → Prop) : wavelet_Tree_children_b2 t4 t5 left right h  K = (
  NN left fun a13 =>
  ∃ n92 : Int, ∃ n93 : Int, ∃ n94 : Int, ∃ n95 : Int, ∃ n96 : Int, ∃ n97 : Int, cell h a13 = some (.int .i64 n92) ∧
  cell h (a13.add 1) = some (.int .i64 n93) ∧
  cell h (a13.add 2) = some (.int .i64 n94) ∧
  cell h (a13.add 3) = some (.int .i64 n95) ∧
  cell h (a13.add 4) = some (.int .i64 n96) ∧
  cell h (a13.add 5) = some (.int .i64 n97) ∧
  NN right fun a14 =>
  ∃ n98 : Int, ∃ n99 : Int, ∃ n100 : Int, ∃ n101 : Int, ∃ n102 : Int, ∃ n103 : Int, cell h a14 = some (.int .i64 n98) ∧
  cell h (a14.add 1) = some (.int .i64 n99) ∧
  cell h (a14.add 2) = some (.int .i64 n100) ∧
  cell h (a14.add 3) = some (.int .i64 n101) ∧
  cell h (a14.add 4) = some (.int .i64 n102) ∧
  cell h (a14.add 5) = some (.int .i64 n103) ∧
  NN t4 fun a15 =>
  Wr h a15 (.int .i64 n92) fun h63 =>
  Wr h63 (a15.add 1) (.int .i64 n93) fun h64 =>
  Wr h64 (a15.add 2) (.int .i64 n94) fun h65 =>
  Wr h65 (a15.add 3) (.int .i64 n95) fun h66 =>
  Wr h66 (a15.add 4) (.int .i64 n96) fun h67 =>
  Wr h67 (a15.add 5) (.int .i64 n97) fun h68 =>
  (NN right fun a16 =>
  ∃ n104 : Int, ∃ n105 : Int, ∃ n106 : Int, ∃ n107 : Int, ∃ n108 : Int, ∃ n109 : Int, cell h68 a16 = some (.int .i64 n104) ∧
  cell h68 (a16.add 1) = some (.int .i64 n105) ∧
  cell h68 (a16.add 2) = some (.int .i64 n106) ∧
  cell h68 (a16.add 3) = some (.int .i64 n107) ∧
  cell h68 (a16.add 4) = some (.int .i64 n108) ∧
  cell h68 (a16.add 5) = some (.int .i64 n109) ∧
  (.agg #[.int .i64 n104, .int .i64 n105, .int .i64 n106, .int .i64 n107, .int .i64 n108, .int .i64 n109] : Value) = .agg #[.int .i64 n98, .int .i64 n99, .int .i64 n100, .int .i64 n101, .int .i64 n102, .int .i64 n103]) ∧
  NN t5 fun a17 =>
  Wr h68 a17 (.int .i64 n98) fun h69 =>
  Wr h69 (a17.add 1) (.int .i64 n99) fun h70 =>
  Wr h70 (a17.add 2) (.int .i64 n100) fun h71 =>
  Wr h71 (a17.add 3) (.int .i64 n101) fun h72 =>
  Wr h72 (a17.add 4) (.int .i64 n102) fun h73 =>
  Wr h73 (a17.add 5) (.int .i64 n103) fun h74 =>
  NN t4 fun a18 =>
  ∃ r13 : Int, ∃ r14 : Int, ∃ r15 : Int, ∃ r16 : Int, ∃ r17 : Int, ∃ r18 : Int, cell h74 a18 = some (.int .i64 r13) ∧
  cell h74 (a18.add 1) = some (.int .i64 r14) ∧
  cell h74 (a18.add 2) = some (.int .i64 r15) ∧
  cell h74 (a18.add 3) = some (.int .i64 r16) ∧
  cell h74 (a18.add 4) = some (.int .i64 r17) ∧
  cell h74 (a18.add 5) = some (.int .i64 r18) ∧
  NN t5 fun a19 =>
  ∃ r19 : Int, ∃ r20 : Int, ∃ r21 : Int, ∃ r22 : Int, ∃ r23 : Int, ∃ r24 : Int, cell h74 a19 = some (.int .i64 r19) ∧
  cell h74 (a19.add 1) = some (.int .i64 r20) ∧
  cell h74 (a19.add 2) = some (.int .i64 r21) ∧
  cell h74 (a19.add 3) = some (.int .i64 r22) ∧
  cell h74 (a19.add 4) = some (.int .i64 r23) ∧
  cell h74 (a19.add 5) = some (.int .i64 r24) ∧
  K (.tuple #[.agg #[.int .i64 r13, .int .i64 r14, .int .i64 r15, .int .i64 r16, .int .i64 r17, .int .i64 r18], .agg #[.int .i64 r19, .int .i64 r20, .int .i64 r21, .int .i64 r22, .int .i64 r23, .int .i64 r24]]) h74) := by kernel_rfl
theorem wavelet_Tree_children_call {t : Option Addr} {x_0 : Int} {x_1 : Int} {x_2 : Int} {x_3 : Int} {x_4 : Int} {x_5 : Int} {h : Hp} {K : Value → Hp → Prop} (hk : wavelet_Tree_children_b0 t x_0 x_1 x_2 x_3 x_4 x_5 h K) : HCalls Try.prog 99 #[.pointer t, .agg #[.int .i64 x_0, .int .i64 x_1, .int .i64 x_2, .int .i64 x_3, .int .i64 x_4, .int .i64 x_5]] h K :=
  calls_of_snd wavelet_Tree_children_an Try.func99 (c := bodyOf Try.f99) rfl Try.ntmps99 (Nat.le_of_ble_eq_true rfl) (snd_3 F_ok F_mixed) hk

/-! ### slices_order2Ordered_int -/
def slices_order2Ordered_int_an : Ann := .leaf
def slices_order2Ordered_int_K0  (K : Value → Hp → Prop) : Exit → Env → Hp → Prop := retK Try.prog Try.f100.results.toList K
def slices_order2Ordered_int_b0 (data : Option Addr) (dataL : Nat) (dataC : Nat) (a : Int) (b : Int) (swaps : Option Addr) (h : Hp)  (K : Value → Hp → Prop) : Prop :=
  sx_1 Try.prog F 28 (cp [] (bodyOf Try.f100)) (ap [] slices_order2Ordered_int_an) [(0, .slice data dataL dataC), (1, .int .i64 a), (2, .int .i64 b), (3, .pointer swaps)] h (slices_order2Ordered_int_K0  K)
theorem slices_order2Ordered_int_b0_eq (data : Option Addr) (dataL : Nat) (dataC : Nat) (a : Int) (b : Int) (swaps : Option Addr) (h : Hp)  (K : Value → Hp → Prop) : slices_order2Ordered_int_b0 data dataL dataC a b swaps h  K = (
  (0 ≤ b ∧ b < (dataL : Int)) ∧
  NN data fun a1 =>
  ∃ n1 : Int, cell h (a1.add (Int.toNat b * 1)) = some (.int .i64 n1) ∧
  (0 ≤ a ∧ a < (dataL : Int)) ∧
  NN data fun a2 =>
  ∃ n2 : Int, cell h (a2.add (Int.toNat a * 1)) = some (.int .i64 n2) ∧
  ∃ r1 : Bool, HCalls Try.prog 73 #[.int .i64 n1, .int .i64 n2] h (fun v1 h1 => v1 = .bool r1 ∧ h1 = h) ∧
  cond r1
  (NN swaps fun a3 =>
  ∃ n3 : Int, cell h a3 = some (.int .i64 n3) ∧
  InR (n3 + 1) ∧
  NN swaps fun a4 =>
  Wr h a4 (.int .i64 (n3 + 1)) fun h2 =>
  K (.tuple #[.int .i64 b, .int .i64 a]) h2)
  (K (.tuple #[.int .i64 a, .int .i64 b]) h)) := by kernel_rfl
theorem slices_order2Ordered_int_call {data : Option Addr} {dataL : Nat} {dataC : Nat} {a : Int} {b : Int} {swaps : Option Addr} {h : Hp} {K : Value → Hp → Prop} (hk : slices_order2Ordered_int_b0 data dataL dataC a b swaps h K) : HCalls Try.prog 100 #[.slice data dataL dataC, .int .i64 a, .int .i64 b, .pointer swaps] h K :=
  calls_of_snd slices_order2Ordered_int_an Try.func100 (c := bodyOf Try.f100) rfl Try.ntmps100 (Nat.le_of_ble_eq_true rfl) (snd_1 F_ok F_mixed) hk

/-! ### slices_order2CmpFunc_int -/
def slices_order2CmpFunc_int_an : Ann := .node none (.leaf) (.node none (.node none (.tail 9) (.leaf)) (.leaf))
def slices_order2CmpFunc_int_K0  (K : Value → Hp → Prop) : Exit → Env → Hp → Prop := retK Try.prog Try.f101.results.toList K
def slices_order2CmpFunc_int_b0 (data : Option Addr) (dataL : Nat) (dataC : Nat) (a : Int) (b : Int) (swaps : Option Addr) (cmp : Value) (h : Hp)  (K : Value → Hp → Prop) : Prop :=
  sx_1 Try.prog F 32 (cp [] (bodyOf Try.f101)) (ap [] slices_order2CmpFunc_int_an) [(0, .slice data dataL dataC), (1, .int .i64 a), (2, .int .i64 b), (3, .pointer swaps), (4, cmp)] h (slices_order2CmpFunc_int_K0  K)
theorem slices_order2CmpFunc_int_b0_eq (data : Option Addr) (dataL : Nat) (dataC : Nat) (a : Int) (b : Int) (swaps : Option Addr) (cmp : Value) (h : Hp)  (K : Value → Hp → Prop) : slices_order2CmpFunc_int_b0 data dataL dataC a b swaps cmp h  K = (
  (0 ≤ b ∧ b < (dataL : Int)) ∧
  NN data fun a1 =>
  ∃ n1 : Int, cell h (a1.add (Int.toNat b * 1)) = some (.int .i64 n1) ∧
  (0 ≤ a ∧ a < (dataL : Int)) ∧
  NN data fun a2 =>
  ∃ n2 : Int, cell h (a2.add (Int.toNat a * 1)) = some (.int .i64 n2) ∧
  funV cmp fun fg1 fa1 fc1 => callX Try.prog F fg1 (fa1 ++ (([.int .i64 n1, .int .i64 n2] : List Value) ++ fc1)).toArray h fun v1 h1 => ∃ r1 : Int, v1 = .int .i64 r1 ∧
  cond (decide (r1 < 0))
  (NN swaps fun a3 =>
  ∃ n3 : Int, cell h1 a3 = some (.int .i64 n3) ∧
  InR (n3 + 1) ∧
  NN swaps fun a4 =>
  Wr h1 a4 (.int .i64 (n3 + 1)) fun h2 =>
  K (.tuple #[.int .i64 b, .int .i64 a]) h2)
  (K (.tuple #[.int .i64 a, .int .i64 b]) h1)) := by kernel_rfl
theorem slices_order2CmpFunc_int_call {data : Option Addr} {dataL : Nat} {dataC : Nat} {a : Int} {b : Int} {swaps : Option Addr} {cmp : Value} {h : Hp} {K : Value → Hp → Prop} (hk : slices_order2CmpFunc_int_b0 data dataL dataC a b swaps cmp h K) : HCalls Try.prog 101 #[.slice data dataL dataC, .int .i64 a, .int .i64 b, .pointer swaps, cmp] h K :=
  calls_of_snd slices_order2CmpFunc_int_an Try.func101 (c := bodyOf Try.f101) rfl Try.ntmps101 (Nat.le_of_ble_eq_true rfl) (snd_1 F_ok F_mixed) hk

/-! ### slices_swapRangeCmpFunc_int -/
def slices_swapRangeCmpFunc_int_an : Ann := .node none (.leaf) (.loop [0, 1, 2, 3] [(10, .int .i64)] (.node none (.leaf) (.node (some [0, 1, 2, 3, 10]) (.plan (.qu 0 (.qu 1 (.qu 2 (.qu 3 (.qu 4 (.qu 5 (.qu 6 (.qu 7 (.qu 8 (.qu 9 (.qu 10 (.qu 11 (.qu 12 (.qu 13 (.qu 14 (.qu 15 (.qu 16 (.qu 17 (.qu 18 (.qu 19 (.qu 20 (.wo 21 (.qu 22 (.wo 23 .fin .no)) .no))))))))))))))))))))))) (.leaf))))
def slices_swapRangeCmpFunc_int_K0  (K : Value → Hp → Prop) : Exit → Env → Hp → Prop := retK Try.prog Try.f102.results.toList K
def slices_swapRangeCmpFunc_int_K1  (K : Value → Hp → Prop) : Exit → Env → Hp → Prop := blockE 0 (slices_swapRangeCmpFunc_int_K0  K)
def slices_swapRangeCmpFunc_int_K2 (nx0 : Int × Unit → Hp → Prop) (K : Value → Hp → Prop) : Exit → Env → Hp → Prop := thenE (fun env h => getV [(10, .int .i64)] env fun s => nx0 s h) (slices_swapRangeCmpFunc_int_K1  K)
def slices_swapRangeCmpFunc_int_b0 (data : Option Addr) (dataL : Nat) (dataC : Nat) (a : Int) (b : Int) (nv : Int) (cmp : Value) (h : Hp)  (K : Value → Hp → Prop) : Prop :=
  sx_3 Try.prog F 38 (cp [] (bodyOf Try.f102)) (ap [] slices_swapRangeCmpFunc_int_an) [(0, .slice data dataL dataC), (1, .int .i64 a), (2, .int .i64 b), (3, .int .i64 nv), (4, cmp)] h (slices_swapRangeCmpFunc_int_K0  K)
def slices_swapRangeCmpFunc_int_b1 (i : Int) (data : Option Addr) (dataL : Nat) (dataC : Nat) (a : Int) (b : Int) (nv : Int) (h : Hp) (nx0 : Int × Unit → Hp → Prop) (K : Value → Hp → Prop) : Prop :=
  sx_2 Try.prog F 38 (cp [1, 2, 2] (bodyOf Try.f102)) (ap [1, 2] slices_swapRangeCmpFunc_int_an) [(10, .int .i64 i), (0, .slice data dataL dataC), (1, .int .i64 a), (2, .int .i64 b), (3, .int .i64 nv)] h (slices_swapRangeCmpFunc_int_K2 nx0 K)
def slices_swapRangeCmpFunc_int_b2 (data : Option Addr) (dataL : Nat) (dataC : Nat) (a : Int) (b : Int) (nv : Int) (i : Int) (h : Hp) (nx0 : Int × Unit → Hp → Prop) (K : Value → Hp → Prop) : Prop :=
  sx_1 Try.prog F 38 (cp [1, 2, 2, 1, 1] (bodyOf Try.f102)) (ap [1, 2, 1, 1] slices_swapRangeCmpFunc_int_an) [(0, .slice data dataL dataC), (1, .int .i64 a), (2, .int .i64 b), (3, .int .i64 nv), (10, .int .i64 i)] h (slices_swapRangeCmpFunc_int_K2 nx0 K)
theorem slices_swapRangeCmpFunc_int_b0_eq (data : Option Addr) (dataL : Nat) (dataC : Nat) (a : Int) (b : Int) (nv : Int) (cmp : Value) (h : Hp)  (K : Value → Hp → Prop) : slices_swapRangeCmpFunc_int_b0 data dataL dataC a b nv cmp h  K = (
  LoopVC ((0, ()) : Int × Unit) h (fun (nx0 : Int × Unit → Hp → Prop) (s1 : Int × Unit) h1 => slices_swapRangeCmpFunc_int_b1 s1.1 data dataL dataC a b nv h1 nx0 K)) := by kernel_rfl
theorem slices_swapRangeCmpFunc_int_b1_eq (i : Int) (data : Option Addr) (dataL : Nat) (dataC : Nat) (a : Int) (b : Int) (nv : Int) (h : Hp) (nx0 : Int × Unit → Hp → Prop) (K : Value → Hp → Prop) : slices_swapRangeCmpFunc_int_b1 i data dataL dataC a b nv h nx0 K = (
  cond (decide (i < nv))
  (InR (a + i) ∧
  InR (b + i) ∧
  InR (b + i) ∧
  (0 ≤ b + i ∧ b + i < (dataL : Int)) ∧
  NN data fun a1 =>
  ∃ n1 : Int, cell h (a1.add (Int.toNat (b + i) * 1)) = some (.int .i64 n1) ∧
  InR (a + i) ∧
  (0 ≤ a + i ∧ a + i < (dataL : Int)) ∧
  NN data fun a2 =>
  ∃ n2 : Int, cell h (a2.add (Int.toNat (a + i) * 1)) = some (.int .i64 n2) ∧
  (0 ≤ a + i ∧ a + i < (dataL : Int)) ∧
  NN data fun a3 =>
  Wr h (a3.add (Int.toNat (a + i) * 1)) (.int .i64 n1) fun h2 =>
  (0 ≤ b + i ∧ b + i < (dataL : Int)) ∧
  NN data fun a4 =>
  Wr h2 (a4.add (Int.toNat (b + i) * 1)) (.int .i64 n2) fun h3 =>
  slices_swapRangeCmpFunc_int_b2 data dataL dataC a b nv i h3 nx0 K)
  (K (.tuple #[]) h)) := by kernel_rfl
theorem slices_swapRangeCmpFunc_int_b2_eq (data : Option Addr) (dataL : Nat) (dataC : Nat) (a : Int) (b : Int) (nv : Int) (i : Int) (h : Hp) (nx0 : Int × Unit → Hp → Prop) (K : Value → Hp → Prop) : slices_swapRangeCmpFunc_int_b2 data dataL dataC a b nv i h nx0 K = (
  InR (i + 1) ∧
  nx0 (i + 1, ()) h) := by kernel_rfl
theorem slices_swapRangeCmpFunc_int_call {data : Option Addr} {dataL : Nat} {dataC : Nat} {a : Int} {b : Int} {nv : Int} {cmp : Value} {h : Hp} {K : Value → Hp → Prop} (hk : slices_swapRangeCmpFunc_int_b0 data dataL dataC a b nv cmp h K) : HCalls Try.prog 102 #[.slice data dataL dataC, .int .i64 a, .int .i64 b, .int .i64 nv, cmp] h K :=
  calls_of_snd slices_swapRangeCmpFunc_int_an Try.func102 (c := bodyOf Try.f102) rfl Try.ntmps102 (Nat.le_of_ble_eq_true rfl) (snd_3 F_ok F_mixed) hk

/-! ### wavelet_Tree_count -/
def wavelet_Tree_count_an : Ann := .leaf
def wavelet_Tree_count_K0  (K : Value → Hp → Prop) : Exit → Env → Hp → Prop := retK Try.prog Try.f103.results.toList K
def wavelet_Tree_count_b0 (t : Option Addr) (depth : Int) (i : Int) (h : Hp)  (K : Value → Hp → Prop) : Prop :=
  sx_1 Try.prog F 22 (cp [] (bodyOf Try.f103)) (ap [] wavelet_Tree_count_an) [(0, .pointer t), (1, .int .i64 depth), (2, .int .i64 i)] h (wavelet_Tree_count_K0  K)
theorem wavelet_Tree_count_b0_eq (t : Option Addr) (depth : Int) (i : Int) (h : Hp)  (K : Value → Hp → Prop) : wavelet_Tree_count_b0 t depth i h  K = (
  NN t fun a1 =>
  ∃ (a2 : Option Addr) (L1 C1 : Nat), cell h (a1.add 3) = some (.slice a2 L1 C1) ∧
  (0 ≤ depth ∧ depth < (L1 : Int)) ∧
  NN a2 fun a3 =>
  ∃ p1 : Option Addr, cell h (a3.add (Int.toNat depth * 1)) = some (.pointer p1) ∧
  HCalls Try.prog 106 #[.pointer p1, .bool true, .int .i64 i] h fun v1 h1 => ∃ r1 : Int, ∃ r2 : Int, v1 = .tuple #[.int .i64 r1, .int .i64 r2] ∧
  K (.int .i64 r1) h1) := by kernel_rfl
theorem wavelet_Tree_count_call {t : Option Addr} {depth : Int} {i : Int} {h : Hp} {K : Value → Hp → Prop} (hk : wavelet_Tree_count_b0 t depth i h K) : HCalls Try.prog 103 #[.pointer t, .int .i64 depth, .int .i64 i] h K :=
  calls_of_snd wavelet_Tree_count_an Try.func103 (c := bodyOf Try.f103) rfl Try.ntmps103 (Nat.le_of_ble_eq_true rfl) (snd_1 F_ok F_mixed) hk

/-! ### wavelet_Tree_children_c1 -/
def wavelet_Tree_children_c1_an : Ann := .leaf
def wavelet_Tree_children_c1_K0  (K : Value → Hp → Prop) : Exit → Env → Hp → Prop := retK Try.prog Try.f104.results.toList K
def wavelet_Tree_children_c1_b0 (i : Int) (t1 : Option Addr) (t2 : Option Addr) (t3 : Option Addr) (h : Hp)  (K : Value → Hp → Prop) : Prop :=
  sx_1 Try.prog F 13 (cp [] (bodyOf Try.f104)) (ap [] wavelet_Tree_children_c1_an) [(0, .int .i64 i), (1, .pointer t1), (2, .pointer t2), (3, .pointer t3)] h (wavelet_Tree_children_c1_K0  K)
theorem wavelet_Tree_children_c1_b0_eq (i : Int) (t1 : Option Addr) (t2 : Option Addr) (t3 : Option Addr) (h : Hp)  (K : Value → Hp → Prop) : wavelet_Tree_children_c1_b0 i t1 t2 t3 h  K = (
  NN t1 fun a1 =>
  ∃ p1 : Option Addr, cell h a1 = some (.pointer p1) ∧
  NN t2 fun a2 =>
  ∃ n1 : Int, cell h a2 = some (.int .i64 n1) ∧
  ∃ r1 : Int, HCalls Try.prog 103 #[.pointer p1, .int .i64 n1, .int .i64 i] h (fun v1 h1 => v1 = .int .i64 r1 ∧ h1 = h) ∧
  NN t3 fun a3 =>
  ∃ n2 : Int, cell h a3 = some (.int .i64 n2) ∧
  InR (r1 - n2) ∧
  K (.int .i64 (r1 - n2)) h) := by kernel_rfl
theorem wavelet_Tree_children_c1_call {i : Int} {t1 : Option Addr} {t2 : Option Addr} {t3 : Option Addr} {h : Hp} {K : Value → Hp → Prop} (hk : wavelet_Tree_children_c1_b0 i t1 t2 t3 h K) : HCalls Try.prog 104 #[.int .i64 i, .pointer t1, .pointer t2, .pointer t3] h K :=
  calls_of_snd wavelet_Tree_children_c1_an Try.func104 (c := bodyOf Try.f104) rfl Try.ntmps104 (Nat.le_of_ble_eq_true rfl) (snd_1 F_ok F_mixed) hk

/-! ### wavelet_Tree_children_c2 -/
def wavelet_Tree_children_c2_an : Ann := .node none (.leaf) (.node none (.plan (.qu 0 (.qu 1 (.qu 2 (.qu 3 (.qu 4 (.qu 5 (.wo 6 (.qu 7 (.wo 8 .fin .no)) .no)))))))) (.leaf))
def wavelet_Tree_children_c2_K0  (K : Value → Hp → Prop) : Exit → Env → Hp → Prop := retK Try.prog Try.f105.results.toList K
def wavelet_Tree_children_c2_b0 (i : Int) (t1 : Option Addr) (t2 : Option Addr) (h : Hp)  (K : Value → Hp → Prop) : Prop :=
  sx_1 Try.prog F 13 (cp [] (bodyOf Try.f105)) (ap [] wavelet_Tree_children_c2_an) [(0, .int .i64 i), (1, .pointer t1), (2, .pointer t2)] h (wavelet_Tree_children_c2_K0  K)
theorem wavelet_Tree_children_c2_b0_eq (i : Int) (t1 : Option Addr) (t2 : Option Addr) (h : Hp)  (K : Value → Hp → Prop) : wavelet_Tree_children_c2_b0 i t1 t2 h  K = (
  NN t1 fun a1 =>
  ∃ n1 : Int, cell h (a1.add 1) = some (.int .i64 n1) ∧
  InR (i - n1) ∧
  NN t2 fun a2 =>
  ∃ v1 : Value, cell h a2 = some (v1) ∧
  funV v1 fun fg1 fa1 fc1 => callX Try.prog F fg1 (fa1 ++ (([.int .i64 i] : List Value) ++ fc1)).toArray h fun v2 h1 => ∃ r1 : Int, v2 = .int .i64 r1 ∧
  (∃ n2 : Int, cell h1 (a1.add 1) = some (.int .i64 n2) ∧
  (.int .i64 n2 : Value) = .int .i64 n1) ∧
  InR ((i - n1) - r1) ∧
  K (.int .i64 ((i - n1) - r1)) h1) := by kernel_rfl
theorem wavelet_Tree_children_c2_call {i : Int} {t1 : Option Addr} {t2 : Option Addr} {h : Hp} {K : Value → Hp → Prop} (hk : wavelet_Tree_children_c2_b0 i t1 t2 h K) : HCalls Try.prog 105 #[.int .i64 i, .pointer t1, .pointer t2] h K :=
  calls_of_snd wavelet_Tree_children_c2_an Try.func105 (c := bodyOf Try.f105) rfl Try.ntmps105 (Nat.le_of_ble_eq_true rfl) (snd_1 F_ok F_mixed) hk

/-! ### Rank -/
def Rank_an : Ann := .node none (.leaf) (.node (some [0, 1, 2]) (.leaf) (.leaf))
def Rank_K0  (K : Value → Hp → Prop) : Exit → Env → Hp → Prop := retK Try.prog Try.f106.results.toList K
def Rank_b0 (v : Option Addr) (bit : Bool) (i : Int) (h : Hp)  (K : Value → Hp → Prop) : Prop :=
  sx_2 Try.prog F 26 (cp [] (bodyOf Try.f106)) (ap [] Rank_an) [(0, .pointer v), (1, .bool bit), (2, .int .i64 i)] h (Rank_K0  K)
def Rank_b1 (v : Option Addr) (bit : Bool) (i : Int) (h : Hp)  (K : Value → Hp → Prop) : Prop :=
  sx_1 Try.prog F 26 (cp [1, 1] (bodyOf Try.f106)) (ap [1, 1] Rank_an) [(0, .pointer v), (1, .bool bit), (2, .int .i64 i)] h (Rank_K0  K)
theorem Rank_b0_eq (v : Option Addr) (bit : Bool) (i : Int) (h : Hp)  (K : Value → Hp → Prop) : Rank_b0 v bit i h  K = (
  cond v.isNone
  (K (.tuple #[.int .i64 0, .int .i64 1]) h)
  (cond (decide (i < 0))
  (K (.tuple #[.int .i64 0, .int .i64 2]) h)
  (NN v fun a1 =>
  ∃ n1 : Int, cell h a1 = some (.int .i64 n1) ∧
  cond (decide (n1 < i))
  (K (.tuple #[.int .i64 0, .int .i64 2]) h)
  (Rank_b1 v bit i h  K)))) := by kernel_rfl
theorem Rank_b1_eq (v : Option Addr) (bit : Bool) (i : Int) (h : Hp)  (K : Value → Hp → Prop) : Rank_b1 v bit i h  K = (
  HCalls Try.prog 107 #[.pointer v, .bool bit, .int .i64 i] h fun v1 h1 => ∃ r1 : Int, v1 = .int .i64 r1 ∧
  K (.tuple #[.int .i64 r1, .int .i64 0]) h1) := by kernel_rfl
theorem Rank_call {v : Option Addr} {bit : Bool} {i : Int} {h : Hp} {K : Value → Hp → Prop} (hk : Rank_b0 v bit i h K) : HCalls Try.prog 106 #[.pointer v, .bool bit, .int .i64 i] h K :=
  calls_of_snd Rank_an Try.func106 (c := bodyOf Try.f106) rfl Try.ntmps106 (Nat.le_of_ble_eq_true rfl) (snd_2 F_ok F_mixed) hk

/-! ### rank -/
def rank_an : Ann := .leaf
def rank_K0  (K : Value → Hp → Prop) : Exit → Env → Hp → Prop := retK Try.prog Try.f107.results.toList K
def rank_b0 (v : Option Addr) (bit : Bool) (i : Int) (h : Hp)  (K : Value → Hp → Prop) : Prop :=
  sx_1 Try.prog F 16 (cp [] (bodyOf Try.f107)) (ap [] rank_an) [(0, .pointer v), (1, .bool bit), (2, .int .i64 i)] h (rank_K0  K)
theorem rank_b0_eq (v : Option Addr) (bit : Bool) (i : Int) (h : Hp)  (K : Value → Hp → Prop) : rank_b0 v bit i h  K = (
  HCalls Try.prog 108 #[.pointer v, .int .i64 i] h fun v1 h1 => ∃ r1 : Int, v1 = .int .i64 r1 ∧
  cond bit
  (K (.int .i64 r1) h1)
  (InR (i - r1) ∧
  K (.int .i64 (i - r1)) h1)) := by kernel_rfl
theorem rank_call {v : Option Addr} {bit : Bool} {i : Int} {h : Hp} {K : Value → Hp → Prop} (hk : rank_b0 v bit i h K) : HCalls Try.prog 107 #[.pointer v, .bool bit, .int .i64 i] h K :=
  calls_of_snd rank_an Try.func107 (c := bodyOf Try.f107) rfl Try.ntmps107 (Nat.le_of_ble_eq_true rfl) (snd_1 F_ok F_mixed) hk

/-! ### ones -/
def ones_an : Ann := .node none (.leaf) (.node none (.leaf) (.node (some [5]) (.leaf) (.leaf)))
def ones_K0  (K : Value → Hp → Prop) : Exit → Env → Hp → Prop := retK Try.prog Try.f108.results.toList K
def ones_b0 (v : Option Addr) (i : Int) (h : Hp)  (K : Value → Hp → Prop) : Prop :=
  sx_2 Try.prog F 34 (cp [] (bodyOf Try.f108)) (ap [] ones_an) [(0, .pointer v), (1, .int .i64 i)] h (ones_K0  K)
def ones_b1 (nv : Int) (h : Hp)  (K : Value → Hp → Prop) : Prop :=
  sx_1 Try.prog F 34 (cp [1, 1, 1] (bodyOf Try.f108)) (ap [1, 1, 1] ones_an) [(5, .int .i64 nv)] h (ones_K0  K)
theorem ones_b0_eq (v : Option Addr) (i : Int) (h : Hp)  (K : Value → Hp → Prop) : ones_b0 v i h  K = (
  NN v fun a1 =>
  ∃ (a2 : Option Addr) (L1 C1 : Nat), cell h (a1.add 2) = some (.slice a2 L1 C1) ∧
  ∃ q1 : Int, Sx.Quo .i64 i 64 q1 ∧
  (0 ≤ q1 ∧ q1 < (L1 : Int)) ∧
  NN a2 fun a3 =>
  ∃ n1 : Int, cell h (a3.add (Int.toNat q1 * 1)) = some (.int .i64 n1) ∧
  ∃ r1 : Int, Sx.Rem i 64 r1 ∧
  cond (decide ((0 : Int) < r1))
  (NN v fun a4 =>
  ∃ (a5 : Option Addr) (L2 C2 : Nat), cell h (a4.add 1) = some (.slice a5 L2 C2) ∧
  ∃ q2 : Int, Sx.Quo .i64 i 64 q2 ∧
  (0 ≤ q2 ∧ q2 < (L2 : Int)) ∧
  NN a5 fun a6 =>
  ∃ n2 : Int, cell h (a6.add (Int.toNat q2 * 1)) = some (.int .u64 n2) ∧
  ∃ r2 : Int, Sx.Rem i 64 r2 ∧
  ∃ sl1 : Int, Sx.Shl .u64 1 r2 sl1 ∧
  ∃ an1 : Int, Sx.And .u64 n2 (IntKind.u64.wrap (sl1 - 1)) an1 ∧
  ∃ r3 : Int, HCalls Try.prog 86 #[.int .u64 an1] h (fun v1 h1 => v1 = .int .i64 r3 ∧ h1 = h) ∧
  InR (n1 + r3) ∧
  ones_b1 (n1 + r3) h  K)
  (ones_b1 n1 h  K)) := by kernel_rfl
theorem ones_b1_eq (nv : Int) (h : Hp)  (K : Value → Hp → Prop) : ones_b1 nv h  K = (
  K (.int .i64 nv) h) := by kernel_rfl
theorem ones_call {v : Option Addr} {i : Int} {h : Hp} {K : Value → Hp → Prop} (hk : ones_b0 v i h K) : HCalls Try.prog 108 #[.pointer v, .int .i64 i] h K :=
  calls_of_snd ones_an Try.func108 (c := bodyOf Try.f108) rfl Try.ntmps108 (Nat.le_of_ble_eq_true rfl) (snd_2 F_ok F_mixed) hk

end Go.Proofs.Ytipmcfpjdebpdaa
