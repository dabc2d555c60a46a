/- Plain statements of what each block of code of this seat asks; printed by a program, checked by Lean. -/
import Derived.Test.YtbfejfejahoblaaSxV0
set_option maxRecDepth 10000
namespace Go.Proofs.Ytbfejfejahoblaa
open Go Go.Sx

/-! ### rangetree_layer_ask -/
def rangetree_layer_ask_an : Ann := .node none (.leaf) (.node none (.leaf) (.node (some [0, 1, 2, 3, 4, 5]) (.leaf) (.leaf)))
def rangetree_layer_ask_K0  (K : Value → Hp → Prop) : Exit → Env → Hp → Prop := retK Try.prog Try.f78.results.toList K
def rangetree_layer_ask_b0 (nv : Option Addr) (size : Int) (fromv : Int) (to : Int) (y1 : Int) (y2 : Int) (h : Hp)  (K : Value → Hp → Prop) : Prop :=
  sx_2 Try.prog F 115 (cp [] (bodyOf Try.f78)) (ap [] rangetree_layer_ask_an) [(0, .pointer nv), (1, .int .i64 size), (2, .int .i64 fromv), (3, .int .i64 to), (4, .int .i64 y1), (5, .int .i64 y2)] h (rangetree_layer_ask_K0  K)
def rangetree_layer_ask_b1 (nv : Option Addr) (size : Int) (fromv : Int) (to : Int) (y1 : Int) (y2 : Int) (h : Hp)  (K : Value → Hp → Prop) : Prop :=
  sx_1 Try.prog F 115 (cp [1, 1, 1] (bodyOf Try.f78)) (ap [1, 1, 1] rangetree_layer_ask_an) [(0, .pointer nv), (1, .int .i64 size), (2, .int .i64 fromv), (3, .int .i64 to), (4, .int .i64 y1), (5, .int .i64 y2)] h (rangetree_layer_ask_K0  K)
theorem rangetree_layer_ask_b0_eq (nv : Option Addr) (size : Int) (fromv : Int) (to : Int) (y1 : Int) (y2 : Int) (h : Hp)  (K : Value → Hp → Prop) : rangetree_layer_ask_b0 nv size fromv to y1 y2 h  K = (
  cond (decide (to ≤ fromv))
  (K (.tuple #[.int .i64 0, .int .i64 0]) h)
  (cond (decide (fromv ≤ 0))
  (cond (decide (size ≤ to))
  (NN nv fun a1 =>
  ∃ (a2 : Option Addr) (L1 C1 : Nat), cell h a1 = some (.slice a2 L1 C1) ∧
  HCalls Try.prog 89 #[.slice a2 L1 C1, .int .i64 y1] h fun v1 h1 => ∃ r1 : Int, ∃ r2 : Bool, v1 = .tuple #[.int .i64 r1, .bool r2] ∧
  NN nv fun a3 =>
  ∃ (a4 : Option Addr) (L2 C2 : Nat), cell h1 a3 = some (.slice a4 L2 C2) ∧
  HCalls Try.prog 90 #[.slice a4 L2 C2, .int .i64 y2, .func (.func 91) #[] #[]] h1 fun v2 h2 => ∃ r3 : Int, ∃ r4 : Bool, v2 = .tuple #[.int .i64 r3, .bool r4] ∧
  cond (decide (r3 ≤ r1))
  (K (.tuple #[.int .i64 0, .int .i64 0]) h2)
  (InR (r3 - r1) ∧
  NN nv fun a5 =>
  ∃ (a6 : Option Addr) (L3 C3 : Nat), cell h2 (a5.add 1) = some (.slice a6 L3 C3) ∧
  (0 ≤ r3 ∧ r3 < (L3 : Int)) ∧
  NN a6 fun a7 =>
  ∃ n1 : Int, cell h2 (a7.add (Int.toNat r3 * 1)) = some (.int .i64 n1) ∧
  NN nv fun a8 =>
  ∃ (a9 : Option Addr) (L4 C4 : Nat), cell h2 (a8.add 1) = some (.slice a9 L4 C4) ∧
  (0 ≤ r1 ∧ r1 < (L4 : Int)) ∧
  NN a9 fun a10 =>
  ∃ n2 : Int, cell h2 (a10.add (Int.toNat r1 * 1)) = some (.int .i64 n2) ∧
  InR (n1 - n2) ∧
  K (.tuple #[.int .i64 (r3 - r1), .int .i64 (n1 - n2)]) h2))
  (rangetree_layer_ask_b1 nv size fromv to y1 y2 h  K))
  (rangetree_layer_ask_b1 nv size fromv to y1 y2 h  K))) := by kernel_rfl
theorem rangetree_layer_ask_b1_eq (nv : Option Addr) (size : Int) (fromv : Int) (to : Int) (y1 : Int) (y2 : Int) (h : Hp)  (K : Value → Hp → Prop) : rangetree_layer_ask_b1 nv size fromv to y1 y2 h  K = (
  ∃ q1 : Int, Sx.Quo .i64 size 2 q1 ∧
  NN nv fun a11 =>
  ∃ p1 : Option Addr, cell h (a11.add 2) = some (.pointer p1) ∧
  HCalls Try.prog 78 #[.pointer p1, .int .i64 q1, .int .i64 fromv, .int .i64 (if q1 < to then q1 else to), .int .i64 y1, .int .i64 y2] h fun v3 h3 => ∃ r5 : Int, ∃ r6 : Int, v3 = .tuple #[.int .i64 r5, .int .i64 r6] ∧
  NN nv fun a12 =>
  ∃ p2 : Option Addr, cell h3 (a12.add 3) = some (.pointer p2) ∧
  InR (size - q1) ∧
  InR (fromv - q1) ∧
  InR (to - q1) ∧
  HCalls Try.prog 78 #[.pointer p2, .int .i64 (size - q1), .int .i64 (if 0 < fromv - q1 then fromv - q1 else 0), .int .i64 (to - q1), .int .i64 y1, .int .i64 y2] h3 fun v4 h4 => ∃ r7 : Int, ∃ r8 : Int, v4 = .tuple #[.int .i64 r7, .int .i64 r8] ∧
  InR (r5 + r7) ∧
  InR (r6 + r8) ∧
  K (.tuple #[.int .i64 (r5 + r7), .int .i64 (r6 + r8)]) h4) := by kernel_rfl
theorem rangetree_layer_ask_call {nv : Option Addr} {size : Int} {fromv : Int} {to : Int} {y1 : Int} {y2 : Int} {h : Hp} {K : Value → Hp → Prop} (hk : rangetree_layer_ask_b0 nv size fromv to y1 y2 h K) : HCalls Try.prog 78 #[.pointer nv, .int .i64 size, .int .i64 fromv, .int .i64 to, .int .i64 y1, .int .i64 y2] h K :=
  calls_of_snd rangetree_layer_ask_an Try.func78 (c := bodyOf Try.f78) rfl Try.ntmps78 (Nat.le_of_ble_eq_true rfl) (snd_2 F_ok F_mixed) hk

/-! ### slices_siftDownOrdered_int -/
def slices_siftDownOrdered_int_an : Ann := .node none (.leaf) (.loop [0, 2, 3] [(8, .int .i64)] (.node none (.leaf) (.node none (.leaf) (.node (some [0, 2, 3, 8, 9]) (.leaf) (.node none (.leaf) (.node none (.plan (.qu 0 (.qu 1 (.qu 2 (.qu 3 (.qu 4 (.qu 5 (.qu 6 (.qu 7 (.qu 8 (.qu 9 (.qu 10 (.qu 11 (.qu 12 (.qu 13 (.qu 14 (.qu 15 (.qu 16 (.qu 17 (.qu 18 (.qu 19 (.qu 20 (.wo 21 (.qu 22 (.wo 23 .fin .no)) .no))))))))))))))))))))))) (.leaf)))))))
def slices_siftDownOrdered_int_K0  (K : Value → Hp → Prop) : Exit → Env → Hp → Prop := retK Try.prog Try.f79.results.toList K
def slices_siftDownOrdered_int_K1  (K : Value → Hp → Prop) : Exit → Env → Hp → Prop := blockE 0 (slices_siftDownOrdered_int_K0  K)
def slices_siftDownOrdered_int_K2 (nx0 : Int × Unit → Hp → Prop) (K : Value → Hp → Prop) : Exit → Env → Hp → Prop := thenE (fun env h => getV [(8, .int .i64)] env fun s => nx0 s h) (slices_siftDownOrdered_int_K1  K)
def slices_siftDownOrdered_int_K3 (nx0 : Int × Unit → Hp → Prop) (K : Value → Hp → Prop) : Exit → Env → Hp → Prop := blockE 1 (slices_siftDownOrdered_int_K2 nx0 K)
def slices_siftDownOrdered_int_b0 (data : Option Addr) (dataL : Nat) (dataC : Nat) (lo : Int) (hi : Int) (first : Int) (h : Hp)  (K : Value → Hp → Prop) : Prop :=
  sx_3 Try.prog F 76 (cp [] (bodyOf Try.f79)) (ap [] slices_siftDownOrdered_int_an) [(0, .slice data dataL dataC), (1, .int .i64 lo), (2, .int .i64 hi), (3, .int .i64 first)] h (slices_siftDownOrdered_int_K0  K)
def slices_siftDownOrdered_int_b1 (root : Int) (data : Option Addr) (dataL : Nat) (dataC : Nat) (hi : Int) (first : Int) (h : Hp) (nx0 : Int × Unit → Hp → Prop) (K : Value → Hp → Prop) : Prop :=
  sx_2 Try.prog F 76 (cp [1, 2, 2] (bodyOf Try.f79)) (ap [1, 2] slices_siftDownOrdered_int_an) [(8, .int .i64 root), (0, .slice data dataL dataC), (2, .int .i64 hi), (3, .int .i64 first)] h (slices_siftDownOrdered_int_K2 nx0 K)
def slices_siftDownOrdered_int_b2 (data : Option Addr) (dataL : Nat) (dataC : Nat) (hi : Int) (first : Int) (root : Int) (child : Int) (h : Hp) (nx0 : Int × Unit → Hp → Prop) (K : Value → Hp → Prop) : Prop :=
  sx_1 Try.prog F 76 (cp [1, 2, 2, 2, 1, 1, 1] (bodyOf Try.f79)) (ap [1, 2, 1, 1, 1] slices_siftDownOrdered_int_an) [(0, .slice data dataL dataC), (2, .int .i64 hi), (3, .int .i64 first), (8, .int .i64 root), (9, .int .i64 child)] h (slices_siftDownOrdered_int_K3 nx0 K)
theorem slices_siftDownOrdered_int_b0_eq (data : Option Addr) (dataL : Nat) (dataC : Nat) (lo : Int) (hi : Int) (first : Int) (h : Hp)  (K : Value → Hp → Prop) : slices_siftDownOrdered_int_b0 data dataL dataC lo hi first h  K = (
  LoopVC ((lo, ()) : Int × Unit) h (fun (nx0 : Int × Unit → Hp → Prop) (s1 : Int × Unit) h1 => slices_siftDownOrdered_int_b1 s1.1 data dataL dataC hi first h1 nx0 K)) := by kernel_rfl
theorem slices_siftDownOrdered_int_b1_eq (root : Int) (data : Option Addr) (dataL : Nat) (dataC : Nat) (hi : Int) (first : Int) (h : Hp) (nx0 : Int × Unit → Hp → Prop) (K : Value → Hp → Prop) : slices_siftDownOrdered_int_b1 root data dataL dataC hi first h nx0 K = (
  InR (2 * root) ∧
  InR ((2 * root) + 1) ∧
  cond (decide (hi ≤ ((2 * root) + 1)))
  (K (.tuple #[]) h)
  (InR (((2 * root) + 1) + 1) ∧
  cond (decide ((((2 * root) + 1) + 1) < hi))
  (InR (first + ((2 * root) + 1)) ∧
  (0 ≤ first + ((2 * root) + 1) ∧ first + ((2 * root) + 1) < (dataL : Int)) ∧
  NN data fun a1 =>
  ∃ n1 : Int, cell h (a1.add (Int.toNat (first + ((2 * root) + 1)) * 1)) = some (.int .i64 n1) ∧
  InR (first + ((2 * root) + 1)) ∧
  InR ((first + ((2 * root) + 1)) + 1) ∧
  (0 ≤ (first + ((2 * root) + 1)) + 1 ∧ (first + ((2 * root) + 1)) + 1 < (dataL : Int)) ∧
  NN data fun a2 =>
  ∃ n2 : Int, cell h (a2.add (Int.toNat ((first + ((2 * root) + 1)) + 1) * 1)) = some (.int .i64 n2) ∧
  ∃ r1 : Bool, HCalls Try.prog 58 #[.int .i64 n1, .int .i64 n2] h (fun v1 h2 => v1 = .bool r1 ∧ h2 = h) ∧
  cond r1
  (InR (((2 * root) + 1) + 1) ∧
  slices_siftDownOrdered_int_b2 data dataL dataC hi first root (((2 * root) + 1) + 1) h nx0 K)
  (slices_siftDownOrdered_int_b2 data dataL dataC hi first root ((2 * root) + 1) h nx0 K))
  (slices_siftDownOrdered_int_b2 data dataL dataC hi first root ((2 * root) + 1) h nx0 K))) := by kernel_rfl
theorem slices_siftDownOrdered_int_b2_eq (data : Option Addr) (dataL : Nat) (dataC : Nat) (hi : Int) (first : Int) (root : Int) (child : Int) (h : Hp) (nx0 : Int × Unit → Hp → Prop) (K : Value → Hp → Prop) : slices_siftDownOrdered_int_b2 data dataL dataC hi first root child h nx0 K = (
  InR (first + root) ∧
  (0 ≤ first + root ∧ first + root < (dataL : Int)) ∧
  NN data fun a3 =>
  ∃ n3 : Int, cell h (a3.add (Int.toNat (first + root) * 1)) = some (.int .i64 n3) ∧
  InR (first + child) ∧
  (0 ≤ first + child ∧ first + child < (dataL : Int)) ∧
  NN data fun a4 =>
  ∃ n4 : Int, cell h (a4.add (Int.toNat (first + child) * 1)) = some (.int .i64 n4) ∧
  ∃ r2 : Bool, HCalls Try.prog 58 #[.int .i64 n3, .int .i64 n4] h (fun v2 h3 => v2 = .bool r2 ∧ h3 = h) ∧
  cond (!r2)
  (K (.tuple #[]) h)
  (InR (first + root) ∧
  InR (first + child) ∧
  InR (first + child) ∧
  (0 ≤ first + child ∧ first + child < (dataL : Int)) ∧
  NN data fun a5 =>
  ∃ n5 : Int, cell h (a5.add (Int.toNat (first + child) * 1)) = some (.int .i64 n5) ∧
  InR (first + root) ∧
  (0 ≤ first + root ∧ first + root < (dataL : Int)) ∧
  NN data fun a6 =>
  ∃ n6 : Int, cell h (a6.add (Int.toNat (first + root) * 1)) = some (.int .i64 n6) ∧
  (0 ≤ first + root ∧ first + root < (dataL : Int)) ∧
  NN data fun a7 =>
  Wr h (a7.add (Int.toNat (first + root) * 1)) (.int .i64 n5) fun h4 =>
  (0 ≤ first + child ∧ first + child < (dataL : Int)) ∧
  NN data fun a8 =>
  Wr h4 (a8.add (Int.toNat (first + child) * 1)) (.int .i64 n6) fun h5 =>
  nx0 (child, ()) h5)) := by kernel_rfl
theorem slices_siftDownOrdered_int_call {data : Option Addr} {dataL : Nat} {dataC : Nat} {lo : Int} {hi : Int} {first : Int} {h : Hp} {K : Value → Hp → Prop} (hk : slices_siftDownOrdered_int_b0 data dataL dataC lo hi first h K) : HCalls Try.prog 79 #[.slice data dataL dataC, .int .i64 lo, .int .i64 hi, .int .i64 first] h K :=
  calls_of_snd slices_siftDownOrdered_int_an Try.func79 (c := bodyOf Try.f79) rfl Try.ntmps79 (Nat.le_of_ble_eq_true rfl) (snd_3 F_ok F_mixed) hk

/-! ### slices_nextPowerOfTwo -/
def slices_nextPowerOfTwo_an : Ann := .leaf
def slices_nextPowerOfTwo_K0  (K : Value → Hp → Prop) : Exit → Env → Hp → Prop := retK Try.prog Try.f80.results.toList K
def slices_nextPowerOfTwo_b0 (length : Int) (h : Hp)  (K : Value → Hp → Prop) : Prop :=
  sx_1 Try.prog F 7 (cp [] (bodyOf Try.f80)) (ap [] slices_nextPowerOfTwo_an) [(0, .int .i64 length)] h (slices_nextPowerOfTwo_K0  K)
theorem slices_nextPowerOfTwo_b0_eq (length : Int) (h : Hp)  (K : Value → Hp → Prop) : slices_nextPowerOfTwo_b0 length h  K = (
  HCalls Try.prog 43 #[.int .u64 (IntKind.u64.wrap length)] h fun v1 h1 => ∃ r1 : Int, v1 = .int .i64 r1 ∧
  ∃ sl1 : Int, Sx.Shl .u64 1 r1 sl1 ∧
  K (.int .u64 sl1) h1) := by kernel_rfl
theorem slices_nextPowerOfTwo_call {length : Int} {h : Hp} {K : Value → Hp → Prop} (hk : slices_nextPowerOfTwo_b0 length h K) : HCalls Try.prog 80 #[.int .i64 length] h K :=
  calls_of_snd slices_nextPowerOfTwo_an Try.func80 (c := bodyOf Try.f80) rfl Try.ntmps80 (Nat.le_of_ble_eq_true rfl) (snd_1 F_ok F_mixed) hk

/-! ### slices_xorshift_Next -/
def slices_xorshift_Next_an : Ann := .node none (.leaf) (.node none (.tail 9) (.node none (.tail 9) (.node none (.tail 9) (.leaf))))
def slices_xorshift_Next_K0  (K : Value → Hp → Prop) : Exit → Env → Hp → Prop := retK Try.prog Try.f81.results.toList K
def slices_xorshift_Next_b0 (r : Option Addr) (h : Hp)  (K : Value → Hp → Prop) : Prop :=
  sx_1 Try.prog F 33 (cp [] (bodyOf Try.f81)) (ap [] slices_xorshift_Next_an) [(0, .pointer r)] h (slices_xorshift_Next_K0  K)
theorem slices_xorshift_Next_b0_eq (r : Option Addr) (h : Hp)  (K : Value → Hp → Prop) : slices_xorshift_Next_b0 r h  K = (
  NN r fun a1 =>
  ∃ n1 : Int, cell h a1 = some (.int .u64 n1) ∧
  NN r fun a2 =>
  ∃ n2 : Int, cell h a2 = some (.int .u64 n2) ∧
  ∃ sl1 : Int, Sx.Shl .u64 n2 13 sl1 ∧
  ∃ xo1 : Int, Sx.Xor .u64 n1 sl1 xo1 ∧
  NN r fun a3 =>
  Wr h a3 (.int .u64 xo1) fun h1 =>
  NN r fun a4 =>
  ∃ n3 : Int, cell h1 a4 = some (.int .u64 n3) ∧
  NN r fun a5 =>
  ∃ n4 : Int, cell h1 a5 = some (.int .u64 n4) ∧
  ∃ sr1 : Int, Sx.Shr .u64 n4 7 sr1 ∧
  ∃ xo2 : Int, Sx.Xor .u64 n3 sr1 xo2 ∧
  NN r fun a6 =>
  Wr h1 a6 (.int .u64 xo2) fun h2 =>
  NN r fun a7 =>
  ∃ n5 : Int, cell h2 a7 = some (.int .u64 n5) ∧
  NN r fun a8 =>
  ∃ n6 : Int, cell h2 a8 = some (.int .u64 n6) ∧
  ∃ sl2 : Int, Sx.Shl .u64 n6 17 sl2 ∧
  ∃ xo3 : Int, Sx.Xor .u64 n5 sl2 xo3 ∧
  NN r fun a9 =>
  Wr h2 a9 (.int .u64 xo3) fun h3 =>
  NN r fun a10 =>
  ∃ n7 : Int, cell h3 a10 = some (.int .u64 n7) ∧
  K (.int .u64 n7) h3) := by kernel_rfl
theorem slices_xorshift_Next_call {r : Option Addr} {h : Hp} {K : Value → Hp → Prop} (hk : slices_xorshift_Next_b0 r h K) : HCalls Try.prog 81 #[.pointer r] h K :=
  calls_of_snd slices_xorshift_Next_an Try.func81 (c := bodyOf Try.f81) rfl Try.ntmps81 (Nat.le_of_ble_eq_true rfl) (snd_1 F_ok F_mixed) hk

/-! ### slices_medianAdjacentOrdered_int -/
def slices_medianAdjacentOrdered_int_an : Ann := .leaf
def slices_medianAdjacentOrdered_int_K0  (K : Value → Hp → Prop) : Exit → Env → Hp → Prop := retK Try.prog Try.f82.results.toList K
def slices_medianAdjacentOrdered_int_b0 (data : Option Addr) (dataL : Nat) (dataC : Nat) (a : Int) (swaps : Option Addr) (h : Hp)  (K : Value → Hp → Prop) : Prop :=
  sx_1 Try.prog F 15 (cp [] (bodyOf Try.f82)) (ap [] slices_medianAdjacentOrdered_int_an) [(0, .slice data dataL dataC), (1, .int .i64 a), (2, .pointer swaps)] h (slices_medianAdjacentOrdered_int_K0  K)
theorem slices_medianAdjacentOrdered_int_b0_eq (data : Option Addr) (dataL : Nat) (dataC : Nat) (a : Int) (swaps : Option Addr) (h : Hp)  (K : Value → Hp → Prop) : slices_medianAdjacentOrdered_int_b0 data dataL dataC a swaps h  K = (
  InR (a - 1) ∧
  InR (a + 1) ∧
  HCalls Try.prog 83 #[.slice data dataL dataC, .int .i64 (a - 1), .int .i64 a, .int .i64 (a + 1), .pointer swaps] h fun v1 h1 => ∃ r1 : Int, v1 = .int .i64 r1 ∧
  K (.int .i64 r1) h1) := by kernel_rfl
theorem slices_medianAdjacentOrdered_int_call {data : Option Addr} {dataL : Nat} {dataC : Nat} {a : Int} {swaps : Option Addr} {h : Hp} {K : Value → Hp → Prop} (hk : slices_medianAdjacentOrdered_int_b0 data dataL dataC a swaps h K) : HCalls Try.prog 82 #[.slice data dataL dataC, .int .i64 a, .pointer swaps] h K :=
  calls_of_snd slices_medianAdjacentOrdered_int_an Try.func82 (c := bodyOf Try.f82) rfl Try.ntmps82 (Nat.le_of_ble_eq_true rfl) (snd_1 F_ok F_mixed) hk

/-! ### slices_medianOrdered_int -/
def slices_medianOrdered_int_an : Ann := .leaf
def slices_medianOrdered_int_K0  (K : Value → Hp → Prop) : Exit → Env → Hp → Prop := retK Try.prog Try.f83.results.toList K
def slices_medianOrdered_int_b0 (data : Option Addr) (dataL : Nat) (dataC : Nat) (a : Int) (b : Int) (c : Int) (swaps : Option Addr) (h : Hp)  (K : Value → Hp → Prop) : Prop :=
  sx_1 Try.prog F 36 (cp [] (bodyOf Try.f83)) (ap [] slices_medianOrdered_int_an) [(0, .slice data dataL dataC), (1, .int .i64 a), (2, .int .i64 b), (3, .int .i64 c), (4, .pointer swaps)] h (slices_medianOrdered_int_K0  K)
theorem slices_medianOrdered_int_b0_eq (data : Option Addr) (dataL : Nat) (dataC : Nat) (a : Int) (b : Int) (c : Int) (swaps : Option Addr) (h : Hp)  (K : Value → Hp → Prop) : slices_medianOrdered_int_b0 data dataL dataC a b c swaps h  K = (
  HCalls Try.prog 92 #[.slice data dataL dataC, .int .i64 a, .int .i64 b, .pointer swaps] h fun v1 h1 => ∃ r1 : Int, ∃ r2 : Int, v1 = .tuple #[.int .i64 r1, .int .i64 r2] ∧
  HCalls Try.prog 92 #[.slice data dataL dataC, .int .i64 r2, .int .i64 c, .pointer swaps] h1 fun v2 h2 => ∃ r3 : Int, ∃ r4 : Int, v2 = .tuple #[.int .i64 r3, .int .i64 r4] ∧
  HCalls Try.prog 92 #[.slice data dataL dataC, .int .i64 r1, .int .i64 r3, .pointer swaps] h2 fun v3 h3 => ∃ r5 : Int, ∃ r6 : Int, v3 = .tuple #[.int .i64 r5, .int .i64 r6] ∧
  K (.int .i64 r6) h3) := by kernel_rfl
theorem slices_medianOrdered_int_call {data : Option Addr} {dataL : Nat} {dataC : Nat} {a : Int} {b : Int} {c : Int} {swaps : Option Addr} {h : Hp} {K : Value → Hp → Prop} (hk : slices_medianOrdered_int_b0 data dataL dataC a b c swaps h K) : HCalls Try.prog 83 #[.slice data dataL dataC, .int .i64 a, .int .i64 b, .int .i64 c, .pointer swaps] h K :=
  calls_of_snd slices_medianOrdered_int_an Try.func83 (c := bodyOf Try.f83) rfl Try.ntmps83 (Nat.le_of_ble_eq_true rfl) (snd_1 F_ok F_mixed) hk

/-! ### slices_stableCmpFunc_api_Point -/
def slices_stableCmpFunc_api_Point_an : Ann := .node none (.leaf) (.node none (.leaf) (.node (some [0, 1, 2, 6, 7]) (.loop [0, 1, 2, 6] [(7, .int .i64), (8, .int .i64)] (.leaf)) (.node none (.leaf) (.loop [0, 1, 2] [(6, .int .i64)] (.node none (.leaf) (.node none (.leaf) (.node (some [0, 1, 2, 6, 7]) (.loop [0, 1, 2, 6] [(7, .int .i64), (8, .int .i64)] (.leaf)) (.node (some [0, 1, 2, 6]) (.leaf) (.leaf)))))))))
def slices_stableCmpFunc_api_Point_K0  (K : Value → Hp → Prop) : Exit → Env → Hp → Prop := retK Try.prog Try.f84.results.toList K
def slices_stableCmpFunc_api_Point_K1  (K : Value → Hp → Prop) : Exit → Env → Hp → Prop := thenE (fun env h => sx_4 Try.prog F 63 (cp [1, 1, 1] (bodyOf Try.f84)) (ap [1, 1, 1] slices_stableCmpFunc_api_Point_an) (rs [0, 1, 2, 6, 7] env) h (slices_stableCmpFunc_api_Point_K0  K)) (slices_stableCmpFunc_api_Point_K0  K)
def slices_stableCmpFunc_api_Point_K2  (K : Value → Hp → Prop) : Exit → Env → Hp → Prop := blockE 0 (slices_stableCmpFunc_api_Point_K1  K)
def slices_stableCmpFunc_api_Point_K3 (nx0 : Int × Int × Unit → Hp → Prop) (K : Value → Hp → Prop) : Exit → Env → Hp → Prop := thenE (fun env h => getV [(7, .int .i64), (8, .int .i64)] env fun s => nx0 s h) (slices_stableCmpFunc_api_Point_K2  K)
def slices_stableCmpFunc_api_Point_K4  (K : Value → Hp → Prop) : Exit → Env → Hp → Prop := blockE 2 (slices_stableCmpFunc_api_Point_K0  K)
def slices_stableCmpFunc_api_Point_K5 (nx0 : Int × Unit → Hp → Prop) (K : Value → Hp → Prop) : Exit → Env → Hp → Prop := thenE (fun env h => getV [(6, .int .i64)] env fun s => nx0 s h) (slices_stableCmpFunc_api_Point_K4  K)
def slices_stableCmpFunc_api_Point_K6 (nx0 : Int × Unit → Hp → Prop) (K : Value → Hp → Prop) : Exit → Env → Hp → Prop := blockE 3 (slices_stableCmpFunc_api_Point_K5 nx0 K)
def slices_stableCmpFunc_api_Point_K7 (nx0 : Int × Unit → Hp → Prop) (K : Value → Hp → Prop) : Exit → Env → Hp → Prop := thenE (fun env h => sx_2 Try.prog F 63 (cp [1, 1, 1, 1, 2, 2, 1, 2, 1, 1] (bodyOf Try.f84)) (ap [1, 1, 1, 1, 2, 1, 1, 1] slices_stableCmpFunc_api_Point_an) (rs [0, 1, 2, 6, 7] env) h (slices_stableCmpFunc_api_Point_K6 nx0 K)) (slices_stableCmpFunc_api_Point_K6 nx0 K)
def slices_stableCmpFunc_api_Point_K8 (nx0 : Int × Unit → Hp → Prop) (K : Value → Hp → Prop) : Exit → Env → Hp → Prop := blockE 4 (slices_stableCmpFunc_api_Point_K7 nx0 K)
def slices_stableCmpFunc_api_Point_K9 (nx0 : Int × Unit → Hp → Prop) (nx1 : Int × Int × Unit → Hp → Prop) (K : Value → Hp → Prop) : Exit → Env → Hp → Prop := thenE (fun env h => getV [(7, .int .i64), (8, .int .i64)] env fun s => nx1 s h) (slices_stableCmpFunc_api_Point_K8 nx0 K)
def slices_stableCmpFunc_api_Point_b0 (data : Option Addr) (dataL : Nat) (dataC : Nat) (nv : Int) (cmp : Value) (h : Hp)  (K : Value → Hp → Prop) : Prop :=
  sx_5 Try.prog F 63 (cp [] (bodyOf Try.f84)) (ap [] slices_stableCmpFunc_api_Point_an) [(0, .slice data dataL dataC), (1, .int .i64 nv), (2, cmp)] h (slices_stableCmpFunc_api_Point_K0  K)
def slices_stableCmpFunc_api_Point_b1 (a : Int) (b : Int) (data : Option Addr) (dataL : Nat) (dataC : Nat) (nv : Int) (cmp : Value) (blockSize : Int) (h : Hp) (nx0 : Int × Int × Unit → Hp → Prop) (K : Value → Hp → Prop) : Prop :=
  sx_4 Try.prog F 63 (cp [1, 1, 0, 2, 2] (bodyOf Try.f84)) (ap [1, 1, 0, 2] slices_stableCmpFunc_api_Point_an) [(7, .int .i64 a), (8, .int .i64 b), (0, .slice data dataL dataC), (1, .int .i64 nv), (2, cmp), (6, .int .i64 blockSize)] h (slices_stableCmpFunc_api_Point_K3 nx0 K)
def slices_stableCmpFunc_api_Point_b2 (data : Option Addr) (dataL : Nat) (dataC : Nat) (nv : Int) (cmp : Value) (blockSize : Int) (a : Int) (h : Hp)  (K : Value → Hp → Prop) : Prop :=
  sx_4 Try.prog F 63 (cp [1, 1, 1] (bodyOf Try.f84)) (ap [1, 1, 1] slices_stableCmpFunc_api_Point_an) [(0, .slice data dataL dataC), (1, .int .i64 nv), (2, cmp), (6, .int .i64 blockSize), (7, .int .i64 a)] h (slices_stableCmpFunc_api_Point_K0  K)
def slices_stableCmpFunc_api_Point_b3 (blockSize : Int) (data : Option Addr) (dataL : Nat) (dataC : Nat) (nv : Int) (cmp : Value) (h : Hp) (nx0 : Int × Unit → Hp → Prop) (K : Value → Hp → Prop) : Prop :=
  sx_3 Try.prog F 63 (cp [1, 1, 1, 1, 2, 2] (bodyOf Try.f84)) (ap [1, 1, 1, 1, 2] slices_stableCmpFunc_api_Point_an) [(6, .int .i64 blockSize), (0, .slice data dataL dataC), (1, .int .i64 nv), (2, cmp)] h (slices_stableCmpFunc_api_Point_K5 nx0 K)
def slices_stableCmpFunc_api_Point_b4 (a : Int) (b : Int) (data : Option Addr) (dataL : Nat) (dataC : Nat) (nv : Int) (cmp : Value) (blockSize : Int) (h : Hp) (nx0 : Int × Unit → Hp → Prop) (nx1 : Int × Int × Unit → Hp → Prop) (K : Value → Hp → Prop) : Prop :=
  sx_2 Try.prog F 63 (cp [1, 1, 1, 1, 2, 2, 1, 2, 1, 0, 2, 2] (bodyOf Try.f84)) (ap [1, 1, 1, 1, 2, 1, 1, 0, 2] slices_stableCmpFunc_api_Point_an) [(7, .int .i64 a), (8, .int .i64 b), (0, .slice data dataL dataC), (1, .int .i64 nv), (2, cmp), (6, .int .i64 blockSize)] h (slices_stableCmpFunc_api_Point_K9 nx0 nx1 K)
def slices_stableCmpFunc_api_Point_b5 (data : Option Addr) (dataL : Nat) (dataC : Nat) (nv : Int) (cmp : Value) (blockSize : Int) (a : Int) (h : Hp) (nx0 : Int × Unit → Hp → Prop) (K : Value → Hp → Prop) : Prop :=
  sx_2 Try.prog F 63 (cp [1, 1, 1, 1, 2, 2, 1, 2, 1, 1] (bodyOf Try.f84)) (ap [1, 1, 1, 1, 2, 1, 1, 1] slices_stableCmpFunc_api_Point_an) [(0, .slice data dataL dataC), (1, .int .i64 nv), (2, cmp), (6, .int .i64 blockSize), (7, .int .i64 a)] h (slices_stableCmpFunc_api_Point_K6 nx0 K)
def slices_stableCmpFunc_api_Point_b6 (data : Option Addr) (dataL : Nat) (dataC : Nat) (nv : Int) (cmp : Value) (blockSize : Int) (h : Hp) (nx0 : Int × Unit → Hp → Prop) (K : Value → Hp → Prop) : Prop :=
  sx_1 Try.prog F 63 (cp [1, 1, 1, 1, 2, 2, 1, 2, 1, 1, 1] (bodyOf Try.f84)) (ap [1, 1, 1, 1, 2, 1, 1, 1, 1] slices_stableCmpFunc_api_Point_an) [(0, .slice data dataL dataC), (1, .int .i64 nv), (2, cmp), (6, .int .i64 blockSize)] h (slices_stableCmpFunc_api_Point_K6 nx0 K)
theorem slices_stableCmpFunc_api_Point_b0_eq (data : Option Addr) (dataL : Nat) (dataC : Nat) (nv : Int) (cmp : Value) (h : Hp)  (K : Value → Hp → Prop) : slices_stableCmpFunc_api_Point_b0 data dataL dataC nv cmp h  K = (
  LoopVC ((0, 20, ()) : Int × Int × Unit) h (fun (nx0 : Int × Int × Unit → Hp → Prop) (s1 : Int × Int × Unit) h1 => slices_stableCmpFunc_api_Point_b1 s1.1 s1.2.1 data dataL dataC nv cmp 20 h1 nx0 K)) := by kernel_rfl
theorem slices_stableCmpFunc_api_Point_b1_eq (a : Int) (b : Int) (data : Option Addr) (dataL : Nat) (dataC : Nat) (nv : Int) (cmp : Value) (blockSize : Int) (h : Hp) (nx0 : Int × Int × Unit → Hp → Prop) (K : Value → Hp → Prop) : slices_stableCmpFunc_api_Point_b1 a b data dataL dataC nv cmp blockSize h nx0 K = (
  cond (decide (b ≤ nv))
  (HCalls Try.prog 66 #[.slice data dataL dataC, .int .i64 a, .int .i64 b, cmp] h fun v1 h2 => v1 = .tuple #[] ∧
  InR (b + blockSize) ∧
  nx0 (b, b + blockSize, ()) h2)
  (slices_stableCmpFunc_api_Point_b2 data dataL dataC nv cmp blockSize a h  K)) := by kernel_rfl
theorem slices_stableCmpFunc_api_Point_b2_eq (data : Option Addr) (dataL : Nat) (dataC : Nat) (nv : Int) (cmp : Value) (blockSize : Int) (a : Int) (h : Hp)  (K : Value → Hp → Prop) : slices_stableCmpFunc_api_Point_b2 data dataL dataC nv cmp blockSize a h  K = (
  HCalls Try.prog 66 #[.slice data dataL dataC, .int .i64 a, .int .i64 nv, cmp] h fun v2 h3 => v2 = .tuple #[] ∧
  LoopVC ((blockSize, ()) : Int × Unit) h3 (fun (nx0 : Int × Unit → Hp → Prop) (s2 : Int × Unit) h4 => slices_stableCmpFunc_api_Point_b3 s2.1 data dataL dataC nv cmp h4 nx0 K)) := by kernel_rfl
theorem slices_stableCmpFunc_api_Point_b3_eq (blockSize : Int) (data : Option Addr) (dataL : Nat) (dataC : Nat) (nv : Int) (cmp : Value) (h : Hp) (nx0 : Int × Unit → Hp → Prop) (K : Value → Hp → Prop) : slices_stableCmpFunc_api_Point_b3 blockSize data dataL dataC nv cmp h nx0 K = (
  cond (decide (blockSize < nv))
  (InR (2 * blockSize) ∧
  LoopVC ((0, 2 * blockSize, ()) : Int × Int × Unit) h (fun (nx1 : Int × Int × Unit → Hp → Prop) (s3 : Int × Int × Unit) h5 => slices_stableCmpFunc_api_Point_b4 s3.1 s3.2.1 data dataL dataC nv cmp blockSize h5 nx0 nx1 K))
  (K (.tuple #[]) h)) := by kernel_rfl
theorem slices_stableCmpFunc_api_Point_b4_eq (a : Int) (b : Int) (data : Option Addr) (dataL : Nat) (dataC : Nat) (nv : Int) (cmp : Value) (blockSize : Int) (h : Hp) (nx0 : Int × Unit → Hp → Prop) (nx1 : Int × Int × Unit → Hp → Prop) (K : Value → Hp → Prop) : slices_stableCmpFunc_api_Point_b4 a b data dataL dataC nv cmp blockSize h nx0 nx1 K = (
  cond (decide (b ≤ nv))
  (InR (a + blockSize) ∧
  HCalls Try.prog 93 #[.slice data dataL dataC, .int .i64 a, .int .i64 (a + blockSize), .int .i64 b, cmp] h fun v3 h6 => v3 = .tuple #[] ∧
  InR (2 * blockSize) ∧
  InR (b + (2 * blockSize)) ∧
  nx1 (b, b + (2 * blockSize), ()) h6)
  (slices_stableCmpFunc_api_Point_b5 data dataL dataC nv cmp blockSize a h nx0 K)) := by kernel_rfl
theorem slices_stableCmpFunc_api_Point_b5_eq (data : Option Addr) (dataL : Nat) (dataC : Nat) (nv : Int) (cmp : Value) (blockSize : Int) (a : Int) (h : Hp) (nx0 : Int × Unit → Hp → Prop) (K : Value → Hp → Prop) : slices_stableCmpFunc_api_Point_b5 data dataL dataC nv cmp blockSize a h nx0 K = (
  InR (a + blockSize) ∧
  cond (decide ((a + blockSize) < nv))
  (HCalls Try.prog 93 #[.slice data dataL dataC, .int .i64 a, .int .i64 (a + blockSize), .int .i64 nv, cmp] h fun v4 h7 => v4 = .tuple #[] ∧
  slices_stableCmpFunc_api_Point_b6 data dataL dataC nv cmp blockSize h7 nx0 K)
  (slices_stableCmpFunc_api_Point_b6 data dataL dataC nv cmp blockSize h nx0 K)) := by kernel_rfl
theorem slices_stableCmpFunc_api_Point_b6_eq (data : Option Addr) (dataL : Nat) (dataC : Nat) (nv : Int) (cmp : Value) (blockSize : Int) (h : Hp) (nx0 : Int × Unit → Hp → Prop) (K : Value → Hp → Prop) : slices_stableCmpFunc_api_Point_b6 data dataL dataC nv cmp blockSize h nx0 K = (
  InR (blockSize * 2) ∧
  nx0 (blockSize * 2, ()) h) := by kernel_rfl
theorem slices_stableCmpFunc_api_Point_call {data : Option Addr} {dataL : Nat} {dataC : Nat} {nv : Int} {cmp : Value} {h : Hp} {K : Value → Hp → Prop} (hk : slices_stableCmpFunc_api_Point_b0 data dataL dataC nv cmp h K) : HCalls Try.prog 84 #[.slice data dataL dataC, .int .i64 nv, cmp] h K :=
  calls_of_snd slices_stableCmpFunc_api_Point_an Try.func84 (c := bodyOf Try.f84) rfl Try.ntmps84 (Nat.le_of_ble_eq_true rfl) (snd_5 F_ok F_mixed) hk

/-! ### rangetree_build_c1 -/
def rangetree_build_c1_an : Ann := .leaf
def rangetree_build_c1_K0  (K : Value → Hp → Prop) : Exit → Env → Hp → Prop := retK Try.prog Try.f85.results.toList K
def rangetree_build_c1_b0 (a_0 : Int) (a_1 : Int) (a_2 : Int) (b_0 : Int) (b_1 : Int) (b_2 : Int) (h : Hp)  (K : Value → Hp → Prop) : Prop :=
  sx_1 Try.prog F 10 (cp [] (bodyOf Try.f85)) (ap [] rangetree_build_c1_an) [(0, .agg #[.int .i64 a_0, .int .i64 a_1, .int .i64 a_2]), (1, .agg #[.int .i64 b_0, .int .i64 b_1, .int .i64 b_2])] h (rangetree_build_c1_K0  K)
theorem rangetree_build_c1_b0_eq (a_0 : Int) (a_1 : Int) (a_2 : Int) (b_0 : Int) (b_1 : Int) (b_2 : Int) (h : Hp)  (K : Value → Hp → Prop) : rangetree_build_c1_b0 a_0 a_1 a_2 b_0 b_1 b_2 h  K = (
  New h (.cells #[.int .i64 a_0, .int .i64 a_1, .int .i64 a_2] 33) fun b1 h1 =>
  New h1 (.cells #[.int .i64 b_0, .int .i64 b_1, .int .i64 b_2] 33) fun b2 h2 =>
  ∃ n1 : Int, cell h2 ((⟨b1, 0, none⟩ : Addr).add 1) = some (.int .i64 n1) ∧
  ∃ n2 : Int, cell h2 ((⟨b2, 0, none⟩ : Addr).add 1) = some (.int .i64 n2) ∧
  HCalls Try.prog 48 #[.int .i64 n1, .int .i64 n2] h2 fun v1 h3 => ∃ r1 : Int, v1 = .int .i64 r1 ∧
  K (.int .i64 r1) h3) := by kernel_rfl
theorem rangetree_build_c1_call {a_0 : Int} {a_1 : Int} {a_2 : Int} {b_0 : Int} {b_1 : Int} {b_2 : Int} {h : Hp} {K : Value → Hp → Prop} (hk : rangetree_build_c1_b0 a_0 a_1 a_2 b_0 b_1 b_2 h K) : HCalls Try.prog 85 #[.agg #[.int .i64 a_0, .int .i64 a_1, .int .i64 a_2], .agg #[.int .i64 b_0, .int .i64 b_1, .int .i64 b_2]] h K :=
  calls_of_snd rangetree_build_c1_an Try.func85 (c := bodyOf Try.f85) rfl Try.ntmps85 (Nat.le_of_ble_eq_true rfl) (snd_1 F_ok F_mixed) hk

/-! ### slices_siftDownCmpFunc_api_Point -/
def slices_siftDownCmpFunc_api_Point_an : Ann := .node none (.leaf) (.loop [0, 2, 3, 4] [(10, .int .i64)] (.node none (.leaf) (.node none (.leaf) (.node (some [0, 2, 3, 4, 10, 11]) (.node none (.tail 19) (.leaf)) (.node none (.node none (.tail 13) (.leaf)) (.node none (.plan (.qu 0 (.qu 1 (.qu 2 (.qu 3 (.qu 4 (.qu 5 (.qu 6 (.qu 7 (.qu 8 (.qu 9 (.qu 10 (.qu 11 (.qu 12 (.qu 13 (.qu 14 (.qu 15 (.qu 16 (.qu 17 (.qu 18 (.qu 19 (.qu 20 (.wo 21 (.qu 22 (.wo 23 .fin .no)) .no))))))))))))))))))))))) (.leaf)))))))
def slices_siftDownCmpFunc_api_Point_K0  (K : Value → Hp → Prop) : Exit → Env → Hp → Prop := retK Try.prog Try.f86.results.toList K
def slices_siftDownCmpFunc_api_Point_K1  (K : Value → Hp → Prop) : Exit → Env → Hp → Prop := blockE 0 (slices_siftDownCmpFunc_api_Point_K0  K)
def slices_siftDownCmpFunc_api_Point_K2 (nx0 : Int × Unit → Hp → Prop) (K : Value → Hp → Prop) : Exit → Env → Hp → Prop := thenE (fun env h => getV [(10, .int .i64)] env fun s => nx0 s h) (slices_siftDownCmpFunc_api_Point_K1  K)
def slices_siftDownCmpFunc_api_Point_K3 (nx0 : Int × Unit → Hp → Prop) (K : Value → Hp → Prop) : Exit → Env → Hp → Prop := blockE 1 (slices_siftDownCmpFunc_api_Point_K2 nx0 K)
def slices_siftDownCmpFunc_api_Point_b0 (data : Option Addr) (dataL : Nat) (dataC : Nat) (lo : Int) (hi : Int) (first : Int) (cmp : Value) (h : Hp)  (K : Value → Hp → Prop) : Prop :=
  sx_3 Try.prog F 82 (cp [] (bodyOf Try.f86)) (ap [] slices_siftDownCmpFunc_api_Point_an) [(0, .slice data dataL dataC), (1, .int .i64 lo), (2, .int .i64 hi), (3, .int .i64 first), (4, cmp)] h (slices_siftDownCmpFunc_api_Point_K0  K)
def slices_siftDownCmpFunc_api_Point_b1 (root : Int) (data : Option Addr) (dataL : Nat) (dataC : Nat) (hi : Int) (first : Int) (cmp : Value) (h : Hp) (nx0 : Int × Unit → Hp → Prop) (K : Value → Hp → Prop) : Prop :=
  sx_2 Try.prog F 82 (cp [1, 2, 2] (bodyOf Try.f86)) (ap [1, 2] slices_siftDownCmpFunc_api_Point_an) [(10, .int .i64 root), (0, .slice data dataL dataC), (2, .int .i64 hi), (3, .int .i64 first), (4, cmp)] h (slices_siftDownCmpFunc_api_Point_K2 nx0 K)
def slices_siftDownCmpFunc_api_Point_b2 (data : Option Addr) (dataL : Nat) (dataC : Nat) (hi : Int) (first : Int) (cmp : Value) (root : Int) (child : Int) (h : Hp) (nx0 : Int × Unit → Hp → Prop) (K : Value → Hp → Prop) : Prop :=
  sx_1 Try.prog F 82 (cp [1, 2, 2, 2, 1, 1, 1] (bodyOf Try.f86)) (ap [1, 2, 1, 1, 1] slices_siftDownCmpFunc_api_Point_an) [(0, .slice data dataL dataC), (2, .int .i64 hi), (3, .int .i64 first), (4, cmp), (10, .int .i64 root), (11, .int .i64 child)] h (slices_siftDownCmpFunc_api_Point_K3 nx0 K)
theorem slices_siftDownCmpFunc_api_Point_b0_eq (data : Option Addr) (dataL : Nat) (dataC : Nat) (lo : Int) (hi : Int) (first : Int) (cmp : Value) (h : Hp)  (K : Value → Hp → Prop) : slices_siftDownCmpFunc_api_Point_b0 data dataL dataC lo hi first cmp h  K = (
  LoopVC ((lo, ()) : Int × Unit) h (fun (nx0 : Int × Unit → Hp → Prop) (s1 : Int × Unit) h1 => slices_siftDownCmpFunc_api_Point_b1 s1.1 data dataL dataC hi first cmp h1 nx0 K)) := by kernel_rfl
theorem slices_siftDownCmpFunc_api_Point_b1_eq (root : Int) (data : Option Addr) (dataL : Nat) (dataC : Nat) (hi : Int) (first : Int) (cmp : Value) (h : Hp) (nx0 : Int × Unit → Hp → Prop) (K : Value → Hp → Prop) : slices_siftDownCmpFunc_api_Point_b1 root data dataL dataC hi first cmp h nx0 K = (
  InR (2 * root) ∧
  InR ((2 * root) + 1) ∧
  cond (decide (hi ≤ ((2 * root) + 1)))
  (K (.tuple #[]) h)
  (InR (((2 * root) + 1) + 1) ∧
  cond (decide ((((2 * root) + 1) + 1) < hi))
  (InR (first + ((2 * root) + 1)) ∧
  (0 ≤ first + ((2 * root) + 1) ∧ first + ((2 * root) + 1) < (dataL : Int)) ∧
  NN data fun a1 =>
  ∃ n1 : Int, ∃ n2 : Int, ∃ n3 : Int, cell h (a1.add (Int.toNat (first + ((2 * root) + 1)) * 3)) = some (.int .i64 n1) ∧
  cell h ((a1.add (Int.toNat (first + ((2 * root) + 1)) * 3)).add 1) = some (.int .i64 n2) ∧
  cell h ((a1.add (Int.toNat (first + ((2 * root) + 1)) * 3)).add 2) = some (.int .i64 n3) ∧
  InR (first + ((2 * root) + 1)) ∧
  InR ((first + ((2 * root) + 1)) + 1) ∧
  (0 ≤ (first + ((2 * root) + 1)) + 1 ∧ (first + ((2 * root) + 1)) + 1 < (dataL : Int)) ∧
  NN data fun a2 =>
  ∃ n4 : Int, ∃ n5 : Int, ∃ n6 : Int, cell h (a2.add (Int.toNat ((first + ((2 * root) + 1)) + 1) * 3)) = some (.int .i64 n4) ∧
  cell h ((a2.add (Int.toNat ((first + ((2 * root) + 1)) + 1) * 3)).add 1) = some (.int .i64 n5) ∧
  cell h ((a2.add (Int.toNat ((first + ((2 * root) + 1)) + 1) * 3)).add 2) = some (.int .i64 n6) ∧
  funV cmp fun fg1 fa1 fc1 => callX Try.prog F fg1 (fa1 ++ (([.agg #[.int .i64 n1, .int .i64 n2, .int .i64 n3], .agg #[.int .i64 n4, .int .i64 n5, .int .i64 n6]] : List Value) ++ fc1)).toArray h fun v1 h2 => ∃ r1 : Int, v1 = .int .i64 r1 ∧
  cond (decide (r1 < 0))
  (InR (((2 * root) + 1) + 1) ∧
  slices_siftDownCmpFunc_api_Point_b2 data dataL dataC hi first cmp root (((2 * root) + 1) + 1) h2 nx0 K)
  (slices_siftDownCmpFunc_api_Point_b2 data dataL dataC hi first cmp root ((2 * root) + 1) h2 nx0 K))
  (slices_siftDownCmpFunc_api_Point_b2 data dataL dataC hi first cmp root ((2 * root) + 1) h nx0 K))) := by kernel_rfl
theorem slices_siftDownCmpFunc_api_Point_b2_eq (data : Option Addr) (dataL : Nat) (dataC : Nat) (hi : Int) (first : Int) (cmp : Value) (root : Int) (child : Int) (h : Hp) (nx0 : Int × Unit → Hp → Prop) (K : Value → Hp → Prop) : slices_siftDownCmpFunc_api_Point_b2 data dataL dataC hi first cmp root child h nx0 K = (
  InR (first + root) ∧
  (0 ≤ first + root ∧ first + root < (dataL : Int)) ∧
  NN data fun a3 =>
  ∃ n7 : Int, ∃ n8 : Int, ∃ n9 : Int, cell h (a3.add (Int.toNat (first + root) * 3)) = some (.int .i64 n7) ∧
  cell h ((a3.add (Int.toNat (first + root) * 3)).add 1) = some (.int .i64 n8) ∧
  cell h ((a3.add (Int.toNat (first + root) * 3)).add 2) = some (.int .i64 n9) ∧
  InR (first + child) ∧
  (0 ≤ first + child ∧ first + child < (dataL : Int)) ∧
  NN data fun a4 =>
  ∃ n10 : Int, ∃ n11 : Int, ∃ n12 : Int, cell h (a4.add (Int.toNat (first + child) * 3)) = some (.int .i64 n10) ∧
  cell h ((a4.add (Int.toNat (first + child) * 3)).add 1) = some (.int .i64 n11) ∧
  cell h ((a4.add (Int.toNat (first + child) * 3)).add 2) = some (.int .i64 n12) ∧
  funV cmp fun fg2 fa2 fc2 => callX Try.prog F fg2 (fa2 ++ (([.agg #[.int .i64 n7, .int .i64 n8, .int .i64 n9], .agg #[.int .i64 n10, .int .i64 n11, .int .i64 n12]] : List Value) ++ fc2)).toArray h fun v2 h3 => ∃ r2 : Int, v2 = .int .i64 r2 ∧
  cond (!(decide (r2 < 0)))
  (K (.tuple #[]) h3)
  (InR (first + root) ∧
  InR (first + child) ∧
  InR (first + child) ∧
  (0 ≤ first + child ∧ first + child < (dataL : Int)) ∧
  NN data fun a5 =>
  ∃ n13 : Int, ∃ n14 : Int, ∃ n15 : Int, cell h3 (a5.add (Int.toNat (first + child) * 3)) = some (.int .i64 n13) ∧
  cell h3 ((a5.add (Int.toNat (first + child) * 3)).add 1) = some (.int .i64 n14) ∧
  cell h3 ((a5.add (Int.toNat (first + child) * 3)).add 2) = some (.int .i64 n15) ∧
  InR (first + root) ∧
  (0 ≤ first + root ∧ first + root < (dataL : Int)) ∧
  NN data fun a6 =>
  ∃ n16 : Int, ∃ n17 : Int, ∃ n18 : Int, cell h3 (a6.add (Int.toNat (first + root) * 3)) = some (.int .i64 n16) ∧
  cell h3 ((a6.add (Int.toNat (first + root) * 3)).add 1) = some (.int .i64 n17) ∧
  cell h3 ((a6.add (Int.toNat (first + root) * 3)).add 2) = some (.int .i64 n18) ∧
  (0 ≤ first + root ∧ first + root < (dataL : Int)) ∧
  NN data fun a7 =>
  Wr h3 (a7.add (Int.toNat (first + root) * 3)) (.int .i64 n13) fun h4 =>
  Wr h4 ((a7.add (Int.toNat (first + root) * 3)).add 1) (.int .i64 n14) fun h5 =>
  Wr h5 ((a7.add (Int.toNat (first + root) * 3)).add 2) (.int .i64 n15) fun h6 =>
  (0 ≤ first + child ∧ first + child < (dataL : Int)) ∧
  NN data fun a8 =>
  Wr h6 (a8.add (Int.toNat (first + child) * 3)) (.int .i64 n16) fun h7 =>
  Wr h7 ((a8.add (Int.toNat (first + child) * 3)).add 1) (.int .i64 n17) fun h8 =>
  Wr h8 ((a8.add (Int.toNat (first + child) * 3)).add 2) (.int .i64 n18) fun h9 =>
  nx0 (child, ()) h9)) := by kernel_rfl
theorem slices_siftDownCmpFunc_api_Point_call {data : Option Addr} {dataL : Nat} {dataC : Nat} {lo : Int} {hi : Int} {first : Int} {cmp : Value} {h : Hp} {K : Value → Hp → Prop} (hk : slices_siftDownCmpFunc_api_Point_b0 data dataL dataC lo hi first cmp h K) : HCalls Try.prog 86 #[.slice data dataL dataC, .int .i64 lo, .int .i64 hi, .int .i64 first, cmp] h K :=
  calls_of_snd slices_siftDownCmpFunc_api_Point_an Try.func86 (c := bodyOf Try.f86) rfl Try.ntmps86 (Nat.le_of_ble_eq_true rfl) (snd_3 F_ok F_mixed) hk

/-! ### slices_medianAdjacentCmpFunc_api_Point -/
def slices_medianAdjacentCmpFunc_api_Point_an : Ann := .leaf
def slices_medianAdjacentCmpFunc_api_Point_K0  (K : Value → Hp → Prop) : Exit → Env → Hp → Prop := retK Try.prog Try.f87.results.toList K
def slices_medianAdjacentCmpFunc_api_Point_b0 (data : Option Addr) (dataL : Nat) (dataC : Nat) (a : Int) (swaps : Option Addr) (cmp : Value) (h : Hp)  (K : Value → Hp → Prop) : Prop :=
  sx_1 Try.prog F 18 (cp [] (bodyOf Try.f87)) (ap [] slices_medianAdjacentCmpFunc_api_Point_an) [(0, .slice data dataL dataC), (1, .int .i64 a), (2, .pointer swaps), (3, cmp)] h (slices_medianAdjacentCmpFunc_api_Point_K0  K)
theorem slices_medianAdjacentCmpFunc_api_Point_b0_eq (data : Option Addr) (dataL : Nat) (dataC : Nat) (a : Int) (swaps : Option Addr) (cmp : Value) (h : Hp)  (K : Value → Hp → Prop) : slices_medianAdjacentCmpFunc_api_Point_b0 data dataL dataC a swaps cmp h  K = (
  InR (a - 1) ∧
  InR (a + 1) ∧
  HCalls Try.prog 88 #[.slice data dataL dataC, .int .i64 (a - 1), .int .i64 a, .int .i64 (a + 1), .pointer swaps, cmp] h fun v1 h1 => ∃ r1 : Int, v1 = .int .i64 r1 ∧
  K (.int .i64 r1) h1) := by kernel_rfl
theorem slices_medianAdjacentCmpFunc_api_Point_call {data : Option Addr} {dataL : Nat} {dataC : Nat} {a : Int} {swaps : Option Addr} {cmp : Value} {h : Hp} {K : Value → Hp → Prop} (hk : slices_medianAdjacentCmpFunc_api_Point_b0 data dataL dataC a swaps cmp h K) : HCalls Try.prog 87 #[.slice data dataL dataC, .int .i64 a, .pointer swaps, cmp] h K :=
  calls_of_snd slices_medianAdjacentCmpFunc_api_Point_an Try.func87 (c := bodyOf Try.f87) rfl Try.ntmps87 (Nat.le_of_ble_eq_true rfl) (snd_1 F_ok F_mixed) hk

/-! ### slices_medianCmpFunc_api_Point -/
def slices_medianCmpFunc_api_Point_an : Ann := .leaf
def slices_medianCmpFunc_api_Point_K0  (K : Value → Hp → Prop) : Exit → Env → Hp → Prop := retK Try.prog Try.f88.results.toList K
def slices_medianCmpFunc_api_Point_b0 (data : Option Addr) (dataL : Nat) (dataC : Nat) (a : Int) (b : Int) (c : Int) (swaps : Option Addr) (cmp : Value) (h : Hp)  (K : Value → Hp → Prop) : Prop :=
  sx_1 Try.prog F 41 (cp [] (bodyOf Try.f88)) (ap [] slices_medianCmpFunc_api_Point_an) [(0, .slice data dataL dataC), (1, .int .i64 a), (2, .int .i64 b), (3, .int .i64 c), (4, .pointer swaps), (5, cmp)] h (slices_medianCmpFunc_api_Point_K0  K)
theorem slices_medianCmpFunc_api_Point_b0_eq (data : Option Addr) (dataL : Nat) (dataC : Nat) (a : Int) (b : Int) (c : Int) (swaps : Option Addr) (cmp : Value) (h : Hp)  (K : Value → Hp → Prop) : slices_medianCmpFunc_api_Point_b0 data dataL dataC a b c swaps cmp h  K = (
  HCalls Try.prog 94 #[.slice data dataL dataC, .int .i64 a, .int .i64 b, .pointer swaps, cmp] h fun v1 h1 => ∃ r1 : Int, ∃ r2 : Int, v1 = .tuple #[.int .i64 r1, .int .i64 r2] ∧
  HCalls Try.prog 94 #[.slice data dataL dataC, .int .i64 r2, .int .i64 c, .pointer swaps, cmp] h1 fun v2 h2 => ∃ r3 : Int, ∃ r4 : Int, v2 = .tuple #[.int .i64 r3, .int .i64 r4] ∧
  HCalls Try.prog 94 #[.slice data dataL dataC, .int .i64 r1, .int .i64 r3, .pointer swaps, cmp] h2 fun v3 h3 => ∃ r5 : Int, ∃ r6 : Int, v3 = .tuple #[.int .i64 r5, .int .i64 r6] ∧
  K (.int .i64 r6) h3) := by kernel_rfl
theorem slices_medianCmpFunc_api_Point_call {data : Option Addr} {dataL : Nat} {dataC : Nat} {a : Int} {b : Int} {c : Int} {swaps : Option Addr} {cmp : Value} {h : Hp} {K : Value → Hp → Prop} (hk : slices_medianCmpFunc_api_Point_b0 data dataL dataC a b c swaps cmp h K) : HCalls Try.prog 88 #[.slice data dataL dataC, .int .i64 a, .int .i64 b, .int .i64 c, .pointer swaps, cmp] h K :=
  calls_of_snd slices_medianCmpFunc_api_Point_an Try.func88 (c := bodyOf Try.f88) rfl Try.ntmps88 (Nat.le_of_ble_eq_true rfl) (snd_1 F_ok F_mixed) hk

/-! ### slices_BinarySearch_Sint_int -/
def slices_BinarySearch_Sint_int_an : Ann := .node none (.leaf) (.node none (.leaf) (.node none (.leaf) (.node (some [0, 1, 6, 7]) (.loop [0, 1, 6] [(7, .int .i64), (8, .int .i64)] (.leaf)) (.leaf))))
def slices_BinarySearch_Sint_int_K0  (K : Value → Hp → Prop) : Exit → Env → Hp → Prop := retK Try.prog Try.f89.results.toList K
def slices_BinarySearch_Sint_int_K1  (K : Value → Hp → Prop) : Exit → Env → Hp → Prop := thenE (fun env h => sx_1 Try.prog F 54 (cp [1, 1, 1, 1] (bodyOf Try.f89)) (ap [1, 1, 1, 1] slices_BinarySearch_Sint_int_an) (rs [0, 1, 6, 7] env) h (slices_BinarySearch_Sint_int_K0  K)) (slices_BinarySearch_Sint_int_K0  K)
def slices_BinarySearch_Sint_int_K2  (K : Value → Hp → Prop) : Exit → Env → Hp → Prop := blockE 0 (slices_BinarySearch_Sint_int_K1  K)
def slices_BinarySearch_Sint_int_K3 (nx0 : Int × Int × Unit → Hp → Prop) (K : Value → Hp → Prop) : Exit → Env → Hp → Prop := thenE (fun env h => getV [(7, .int .i64), (8, .int .i64)] env fun s => nx0 s h) (slices_BinarySearch_Sint_int_K2  K)
def slices_BinarySearch_Sint_int_b0 (x : Option Addr) (xL : Nat) (xC : Nat) (target : Int) (h : Hp)  (K : Value → Hp → Prop) : Prop :=
  sx_2 Try.prog F 54 (cp [] (bodyOf Try.f89)) (ap [] slices_BinarySearch_Sint_int_an) [(0, .slice x xL xC), (1, .int .i64 target)] h (slices_BinarySearch_Sint_int_K0  K)
def slices_BinarySearch_Sint_int_b1 (i : Int) (j : Int) (x : Option Addr) (xL : Nat) (xC : Nat) (target : Int) (nv : Int) (h : Hp) (nx0 : Int × Int × Unit → Hp → Prop) (K : Value → Hp → Prop) : Prop :=
  sx_1 Try.prog F 54 (cp [1, 1, 1, 0, 2, 2] (bodyOf Try.f89)) (ap [1, 1, 1, 0, 2] slices_BinarySearch_Sint_int_an) [(7, .int .i64 i), (8, .int .i64 j), (0, .slice x xL xC), (1, .int .i64 target), (6, .int .i64 nv)] h (slices_BinarySearch_Sint_int_K3 nx0 K)
def slices_BinarySearch_Sint_int_b2 (x : Option Addr) (xL : Nat) (xC : Nat) (target : Int) (nv : Int) (i : Int) (h : Hp)  (K : Value → Hp → Prop) : Prop :=
  sx_1 Try.prog F 54 (cp [1, 1, 1, 1] (bodyOf Try.f89)) (ap [1, 1, 1, 1] slices_BinarySearch_Sint_int_an) [(0, .slice x xL xC), (1, .int .i64 target), (6, .int .i64 nv), (7, .int .i64 i)] h (slices_BinarySearch_Sint_int_K0  K)
theorem slices_BinarySearch_Sint_int_b0_eq (x : Option Addr) (xL : Nat) (xC : Nat) (target : Int) (h : Hp)  (K : Value → Hp → Prop) : slices_BinarySearch_Sint_int_b0 x xL xC target h  K = (
  LoopVC ((0, (xL : Int), ()) : Int × Int × Unit) h (fun (nx0 : Int × Int × Unit → Hp → Prop) (s1 : Int × Int × Unit) h1 => slices_BinarySearch_Sint_int_b1 s1.1 s1.2.1 x xL xC target (xL : Int) h1 nx0 K)) := by kernel_rfl
theorem slices_BinarySearch_Sint_int_b1_eq (i : Int) (j : Int) (x : Option Addr) (xL : Nat) (xC : Nat) (target : Int) (nv : Int) (h : Hp) (nx0 : Int × Int × Unit → Hp → Prop) (K : Value → Hp → Prop) : slices_BinarySearch_Sint_int_b1 i j x xL xC target nv h nx0 K = (
  cond (decide (i < j))
  (InR (i + j) ∧
  ∃ sr1 : Int, Sx.Shr .u64 (IntKind.u64.wrap (i + j)) 1 sr1 ∧
  InR sr1 ∧
  (0 ≤ sr1 ∧ sr1 < (xL : Int)) ∧
  NN x fun a1 =>
  ∃ n1 : Int, cell h (a1.add (Int.toNat sr1 * 1)) = some (.int .i64 n1) ∧
  HCalls Try.prog 58 #[.int .i64 n1, .int .i64 target] h fun v1 h2 => ∃ r1 : Bool, v1 = .bool r1 ∧
  cond r1
  (InR (sr1 + 1) ∧
  nx0 (sr1 + 1, j, ()) h2)
  (nx0 (i, sr1, ()) h2))
  (slices_BinarySearch_Sint_int_b2 x xL xC target nv i h  K)) := by kernel_rfl
theorem slices_BinarySearch_Sint_int_b2_eq (x : Option Addr) (xL : Nat) (xC : Nat) (target : Int) (nv : Int) (i : Int) (h : Hp)  (K : Value → Hp → Prop) : slices_BinarySearch_Sint_int_b2 x xL xC target nv i h  K = (
  cond (decide (i < nv))
  ((0 ≤ i ∧ i < (xL : Int)) ∧
  NN x fun a2 =>
  ∃ n2 : Int, cell h (a2.add (Int.toNat i * 1)) = some (.int .i64 n2) ∧
  cond (decide (n2 = target))
  (K (.tuple #[.int .i64 i, .bool true]) h)
  ((0 ≤ i ∧ i < (xL : Int)) ∧
  NN x fun a3 =>
  ∃ n3 : Int, cell h (a3.add (Int.toNat i * 1)) = some (.int .i64 n3) ∧
  HCalls Try.prog 95 #[.int .i64 n3] h fun v2 h3 => ∃ r2 : Bool, v2 = .bool r2 ∧
  cond r2
  (HCalls Try.prog 95 #[.int .i64 target] h3 fun v3 h4 => ∃ r3 : Bool, v3 = .bool r3 ∧
  K (.tuple #[.int .i64 i, .bool r3]) h4)
  (K (.tuple #[.int .i64 i, .bool false]) h3)))
  (K (.tuple #[.int .i64 i, .bool false]) h)) := by kernel_rfl
theorem slices_BinarySearch_Sint_int_call {x : Option Addr} {xL : Nat} {xC : Nat} {target : Int} {h : Hp} {K : Value → Hp → Prop} (hk : slices_BinarySearch_Sint_int_b0 x xL xC target h K) : HCalls Try.prog 89 #[.slice x xL xC, .int .i64 target] h K :=
  calls_of_snd slices_BinarySearch_Sint_int_an Try.func89 (c := bodyOf Try.f89) rfl Try.ntmps89 (Nat.le_of_ble_eq_true rfl) (snd_2 F_ok F_mixed) hk

/-! ### slices_BinarySearchFunc_Sint_int_int -/
def slices_BinarySearchFunc_Sint_int_int_an : Ann := .node none (.leaf) (.node none (.leaf) (.node none (.leaf) (.node (some [0, 1, 2, 8, 9]) (.loop [0, 1, 2, 8] [(9, .int .i64), (10, .int .i64)] (.leaf)) (.leaf))))
def slices_BinarySearchFunc_Sint_int_int_K0  (K : Value → Hp → Prop) : Exit → Env → Hp → Prop := retK Try.prog Try.f90.results.toList K
def slices_BinarySearchFunc_Sint_int_int_K1  (K : Value → Hp → Prop) : Exit → Env → Hp → Prop := thenE (fun env h => sx_1 Try.prog F 49 (cp [1, 1, 1, 1] (bodyOf Try.f90)) (ap [1, 1, 1, 1] slices_BinarySearchFunc_Sint_int_int_an) (rs [0, 1, 2, 8, 9] env) h (slices_BinarySearchFunc_Sint_int_int_K0  K)) (slices_BinarySearchFunc_Sint_int_int_K0  K)
def slices_BinarySearchFunc_Sint_int_int_K2  (K : Value → Hp → Prop) : Exit → Env → Hp → Prop := blockE 0 (slices_BinarySearchFunc_Sint_int_int_K1  K)
def slices_BinarySearchFunc_Sint_int_int_K3 (nx0 : Int × Int × Unit → Hp → Prop) (K : Value → Hp → Prop) : Exit → Env → Hp → Prop := thenE (fun env h => getV [(9, .int .i64), (10, .int .i64)] env fun s => nx0 s h) (slices_BinarySearchFunc_Sint_int_int_K2  K)
def slices_BinarySearchFunc_Sint_int_int_b0 (x : Option Addr) (xL : Nat) (xC : Nat) (target : Int) (cmp : Value) (h : Hp)  (K : Value → Hp → Prop) : Prop :=
  sx_2 Try.prog F 49 (cp [] (bodyOf Try.f90)) (ap [] slices_BinarySearchFunc_Sint_int_int_an) [(0, .slice x xL xC), (1, .int .i64 target), (2, cmp)] h (slices_BinarySearchFunc_Sint_int_int_K0  K)
def slices_BinarySearchFunc_Sint_int_int_b1 (i : Int) (j : Int) (x : Option Addr) (xL : Nat) (xC : Nat) (target : Int) (cmp : Value) (nv : Int) (h : Hp) (nx0 : Int × Int × Unit → Hp → Prop) (K : Value → Hp → Prop) : Prop :=
  sx_1 Try.prog F 49 (cp [1, 1, 1, 0, 2, 2] (bodyOf Try.f90)) (ap [1, 1, 1, 0, 2] slices_BinarySearchFunc_Sint_int_int_an) [(9, .int .i64 i), (10, .int .i64 j), (0, .slice x xL xC), (1, .int .i64 target), (2, cmp), (8, .int .i64 nv)] h (slices_BinarySearchFunc_Sint_int_int_K3 nx0 K)
def slices_BinarySearchFunc_Sint_int_int_b2 (x : Option Addr) (xL : Nat) (xC : Nat) (target : Int) (cmp : Value) (nv : Int) (i : Int) (h : Hp)  (K : Value → Hp → Prop) : Prop :=
  sx_1 Try.prog F 49 (cp [1, 1, 1, 1] (bodyOf Try.f90)) (ap [1, 1, 1, 1] slices_BinarySearchFunc_Sint_int_int_an) [(0, .slice x xL xC), (1, .int .i64 target), (2, cmp), (8, .int .i64 nv), (9, .int .i64 i)] h (slices_BinarySearchFunc_Sint_int_int_K0  K)
theorem slices_BinarySearchFunc_Sint_int_int_b0_eq (x : Option Addr) (xL : Nat) (xC : Nat) (target : Int) (cmp : Value) (h : Hp)  (K : Value → Hp → Prop) : slices_BinarySearchFunc_Sint_int_int_b0 x xL xC target cmp h  K = (
  LoopVC ((0, (xL : Int), ()) : Int × Int × Unit) h (fun (nx0 : Int × Int × Unit → Hp → Prop) (s1 : Int × Int × Unit) h1 => slices_BinarySearchFunc_Sint_int_int_b1 s1.1 s1.2.1 x xL xC target cmp (xL : Int) h1 nx0 K)) := by kernel_rfl
theorem slices_BinarySearchFunc_Sint_int_int_b1_eq (i : Int) (j : Int) (x : Option Addr) (xL : Nat) (xC : Nat) (target : Int) (cmp : Value) (nv : Int) (h : Hp) (nx0 : Int × Int × Unit → Hp → Prop) (K : Value → Hp → Prop) : slices_BinarySearchFunc_Sint_int_int_b1 i j x xL xC target cmp nv h nx0 K = (
  cond (decide (i < j))
  (InR (i + j) ∧
  ∃ sr1 : Int, Sx.Shr .u64 (IntKind.u64.wrap (i + j)) 1 sr1 ∧
  InR sr1 ∧
  (0 ≤ sr1 ∧ sr1 < (xL : Int)) ∧
  NN x fun a1 =>
  ∃ n1 : Int, cell h (a1.add (Int.toNat sr1 * 1)) = some (.int .i64 n1) ∧
  funV cmp fun fg1 fa1 fc1 => callX Try.prog F fg1 (fa1 ++ (([.int .i64 n1, .int .i64 target] : List Value) ++ fc1)).toArray h fun v1 h2 => ∃ r1 : Int, v1 = .int .i64 r1 ∧
  cond (decide (r1 < 0))
  (InR (sr1 + 1) ∧
  nx0 (sr1 + 1, j, ()) h2)
  (nx0 (i, sr1, ()) h2))
  (slices_BinarySearchFunc_Sint_int_int_b2 x xL xC target cmp nv i h  K)) := by kernel_rfl
theorem slices_BinarySearchFunc_Sint_int_int_b2_eq (x : Option Addr) (xL : Nat) (xC : Nat) (target : Int) (cmp : Value) (nv : Int) (i : Int) (h : Hp)  (K : Value → Hp → Prop) : slices_BinarySearchFunc_Sint_int_int_b2 x xL xC target cmp nv i h  K = (
  cond (decide (i < nv))
  ((0 ≤ i ∧ i < (xL : Int)) ∧
  NN x fun a2 =>
  ∃ n2 : Int, cell h (a2.add (Int.toNat i * 1)) = some (.int .i64 n2) ∧
  funV cmp fun fg2 fa2 fc2 => callX Try.prog F fg2 (fa2 ++ (([.int .i64 n2, .int .i64 target] : List Value) ++ fc2)).toArray h fun v2 h3 => ∃ r2 : Int, v2 = .int .i64 r2 ∧
  K (.tuple #[.int .i64 i, .bool (decide (r2 = 0))]) h3)
  (K (.tuple #[.int .i64 i, .bool false]) h)) := by kernel_rfl
theorem slices_BinarySearchFunc_Sint_int_int_call {x : Option Addr} {xL : Nat} {xC : Nat} {target : Int} {cmp : Value} {h : Hp} {K : Value → Hp → Prop} (hk : slices_BinarySearchFunc_Sint_int_int_b0 x xL xC target cmp h K) : HCalls Try.prog 90 #[.slice x xL xC, .int .i64 target, cmp] h K :=
  calls_of_snd slices_BinarySearchFunc_Sint_int_int_an Try.func90 (c := bodyOf Try.f90) rfl Try.ntmps90 (Nat.le_of_ble_eq_true rfl) (snd_2 F_ok F_mixed) hk

/-! ### rangetree_layer_ask_c1 -/
def rangetree_layer_ask_c1_an : Ann := .leaf
def rangetree_layer_ask_c1_K0  (K : Value → Hp → Prop) : Exit → Env → Hp → Prop := retK Try.prog Try.f91.results.toList K
def rangetree_layer_ask_c1_b0 (y : Int) (t : Int) (h : Hp)  (K : Value → Hp → Prop) : Prop :=
  sx_1 Try.prog F 8 (cp [] (bodyOf Try.f91)) (ap [] rangetree_layer_ask_c1_an) [(0, .int .i64 y), (1, .int .i64 t)] h (rangetree_layer_ask_c1_K0  K)
theorem rangetree_layer_ask_c1_b0_eq (y : Int) (t : Int) (h : Hp)  (K : Value → Hp → Prop) : rangetree_layer_ask_c1_b0 y t h  K = (
  cond (decide (y ≤ t))
  (K (.int .i64 (-1)) h)
  (K (.int .i64 1) h)) := by kernel_rfl
theorem rangetree_layer_ask_c1_call {y : Int} {t : Int} {h : Hp} {K : Value → Hp → Prop} (hk : rangetree_layer_ask_c1_b0 y t h K) : HCalls Try.prog 91 #[.int .i64 y, .int .i64 t] h K :=
  calls_of_snd rangetree_layer_ask_c1_an Try.func91 (c := bodyOf Try.f91) rfl Try.ntmps91 (Nat.le_of_ble_eq_true rfl) (snd_1 F_ok F_mixed) hk

/-! ### slices_order2Ordered_int -/
def slices_order2Ordered_int_an : Ann := .leaf
def slices_order2Ordered_int_K0  (K : Value → Hp → Prop) : Exit → Env → Hp → Prop := retK Try.prog Try.f92.results.toList K
def slices_order2Ordered_int_b0 (data : Option Addr) (dataL : Nat) (dataC : Nat) (a : Int) (b : Int) (swaps : Option Addr) (h : Hp)  (K : Value → Hp → Prop) : Prop :=
  sx_1 Try.prog F 28 (cp [] (bodyOf Try.f92)) (ap [] slices_order2Ordered_int_an) [(0, .slice data dataL dataC), (1, .int .i64 a), (2, .int .i64 b), (3, .pointer swaps)] h (slices_order2Ordered_int_K0  K)
theorem slices_order2Ordered_int_b0_eq (data : Option Addr) (dataL : Nat) (dataC : Nat) (a : Int) (b : Int) (swaps : Option Addr) (h : Hp)  (K : Value → Hp → Prop) : slices_order2Ordered_int_b0 data dataL dataC a b swaps h  K = (
  (0 ≤ b ∧ b < (dataL : Int)) ∧
  NN data fun a1 =>
  ∃ n1 : Int, cell h (a1.add (Int.toNat b * 1)) = some (.int .i64 n1) ∧
  (0 ≤ a ∧ a < (dataL : Int)) ∧
  NN data fun a2 =>
  ∃ n2 : Int, cell h (a2.add (Int.toNat a * 1)) = some (.int .i64 n2) ∧
  ∃ r1 : Bool, HCalls Try.prog 58 #[.int .i64 n1, .int .i64 n2] h (fun v1 h1 => v1 = .bool r1 ∧ h1 = h) ∧
  cond r1
  (NN swaps fun a3 =>
  ∃ n3 : Int, cell h a3 = some (.int .i64 n3) ∧
  InR (n3 + 1) ∧
  NN swaps fun a4 =>
  Wr h a4 (.int .i64 (n3 + 1)) fun h2 =>
  K (.tuple #[.int .i64 b, .int .i64 a]) h2)
  (K (.tuple #[.int .i64 a, .int .i64 b]) h)) := by kernel_rfl
theorem slices_order2Ordered_int_call {data : Option Addr} {dataL : Nat} {dataC : Nat} {a : Int} {b : Int} {swaps : Option Addr} {h : Hp} {K : Value → Hp → Prop} (hk : slices_order2Ordered_int_b0 data dataL dataC a b swaps h K) : HCalls Try.prog 92 #[.slice data dataL dataC, .int .i64 a, .int .i64 b, .pointer swaps] h K :=
  calls_of_snd slices_order2Ordered_int_an Try.func92 (c := bodyOf Try.f92) rfl Try.ntmps92 (Nat.le_of_ble_eq_true rfl) (snd_1 F_ok F_mixed) hk

/-! ### slices_symMergeCmpFunc_api_Point -/
def slices_symMergeCmpFunc_api_Point_an : Ann := .node none (.node none (.leaf) (.node none (.node none (.leaf) (.node none (.leaf) (.node (some [0, 1, 10]) (.loop [0, 1, 4] [(10, .int .i64), (11, .int .i64)] (.node none (.leaf) (.node none (.leaf) (.node none (.tail 9) (.leaf))))) (.node none (.node none (.leaf) (.loop [0, 10] [(13, .int .i64)] (.node none (.leaf) (.node (some [0, 10, 13]) (.plan (.qu 0 (.qu 1 (.qu 2 (.qu 3 (.qu 4 (.qu 5 (.qu 6 (.qu 7 (.qu 8 (.qu 9 (.qu 10 (.qu 11 (.qu 12 (.qu 13 (.qu 14 (.wo 15 (.qu 16 (.wo 17 .fin .no)) .no))))))))))))))))) (.leaf))))) (.leaf))))) (.leaf))) (.node none (.node none (.leaf) (.node none (.node none (.leaf) (.node none (.leaf) (.node (some [0, 2, 14]) (.loop [0, 2, 4] [(14, .int .i64), (15, .int .i64)] (.node none (.leaf) (.node none (.leaf) (.node none (.tail 9) (.leaf))))) (.node none (.node none (.leaf) (.loop [0, 14] [(17, .int .i64)] (.node none (.leaf) (.node (some [0, 14, 17]) (.plan (.qu 0 (.qu 1 (.qu 2 (.qu 3 (.qu 4 (.qu 5 (.qu 6 (.qu 7 (.qu 8 (.qu 9 (.qu 10 (.qu 11 (.qu 12 (.qu 13 (.qu 14 (.wo 15 (.qu 16 (.wo 17 .fin .no)) .no))))))))))))))))) (.leaf))))) (.leaf))))) (.leaf))) (.node none (.leaf) (.node none (.leaf) (.node none (.leaf) (.node (some [0, 1, 2, 3, 4, 18, 19, 20, 21]) (.leaf) (.node none (.leaf) (.node (some [0, 1, 2, 3, 4, 18, 19, 20]) (.loop [0, 1, 2, 3, 4, 18, 19, 22] [(20, .int .i64), (21, .int .i64)] (.node none (.leaf) (.node none (.leaf) (.node none (.tail 11) (.leaf))))) (.node none (.leaf) (.node (some [0, 1, 3, 4, 18, 20, 24]) (.leaf) (.node (some [0, 3, 4, 18, 24]) (.leaf) (.leaf)))))))))))
def slices_symMergeCmpFunc_api_Point_K0  (K : Value → Hp → Prop) : Exit → Env → Hp → Prop := retK Try.prog Try.f93.results.toList K
def slices_symMergeCmpFunc_api_Point_K1  (K : Value → Hp → Prop) : Exit → Env → Hp → Prop := thenE (fun env h => sx0 Try.prog F 220 (sx_4 Try.prog F 220) (cp [1] (bodyOf Try.f93)) (ap [1] slices_symMergeCmpFunc_api_Point_an) env h (slices_symMergeCmpFunc_api_Point_K0  K)) (slices_symMergeCmpFunc_api_Point_K0  K)
def slices_symMergeCmpFunc_api_Point_K2  (K : Value → Hp → Prop) : Exit → Env → Hp → Prop := thenE (fun env h => sx_4 Try.prog F 220 (cp [0, 1, 0, 1, 1, 1] (bodyOf Try.f93)) (ap [0, 1, 0, 1, 1, 1] slices_symMergeCmpFunc_api_Point_an) (rs [0, 1, 10] env) h (slices_symMergeCmpFunc_api_Point_K1  K)) (slices_symMergeCmpFunc_api_Point_K1  K)
def slices_symMergeCmpFunc_api_Point_K3  (K : Value → Hp → Prop) : Exit → Env → Hp → Prop := blockE 0 (slices_symMergeCmpFunc_api_Point_K2  K)
def slices_symMergeCmpFunc_api_Point_K4 (nx0 : Int × Int × Unit → Hp → Prop) (K : Value → Hp → Prop) : Exit → Env → Hp → Prop := thenE (fun env h => getV [(10, .int .i64), (11, .int .i64)] env fun s => nx0 s h) (slices_symMergeCmpFunc_api_Point_K3  K)
def slices_symMergeCmpFunc_api_Point_K5  (K : Value → Hp → Prop) : Exit → Env → Hp → Prop := thenE (fun env h => sx0 Try.prog F 220 (sx_4 Try.prog F 220) (cp [1, 1] (bodyOf Try.f93)) (ap [1, 1] slices_symMergeCmpFunc_api_Point_an) env h (slices_symMergeCmpFunc_api_Point_K0  K)) (slices_symMergeCmpFunc_api_Point_K0  K)
def slices_symMergeCmpFunc_api_Point_K6  (K : Value → Hp → Prop) : Exit → Env → Hp → Prop := thenE (fun env h => sx_4 Try.prog F 220 (cp [1, 0, 1, 0, 1, 1, 1] (bodyOf Try.f93)) (ap [1, 0, 1, 0, 1, 1, 1] slices_symMergeCmpFunc_api_Point_an) (rs [0, 2, 14] env) h (slices_symMergeCmpFunc_api_Point_K5  K)) (slices_symMergeCmpFunc_api_Point_K5  K)
def slices_symMergeCmpFunc_api_Point_K7  (K : Value → Hp → Prop) : Exit → Env → Hp → Prop := blockE 4 (slices_symMergeCmpFunc_api_Point_K6  K)
def slices_symMergeCmpFunc_api_Point_K8 (nx0 : Int × Int × Unit → Hp → Prop) (K : Value → Hp → Prop) : Exit → Env → Hp → Prop := thenE (fun env h => getV [(14, .int .i64), (15, .int .i64)] env fun s => nx0 s h) (slices_symMergeCmpFunc_api_Point_K7  K)
def slices_symMergeCmpFunc_api_Point_K9  (K : Value → Hp → Prop) : Exit → Env → Hp → Prop := thenE (fun env h => sx_3 Try.prog F 220 (cp [1, 1, 1, 1, 1, 1, 1, 1] (bodyOf Try.f93)) (ap [1, 1, 1, 1, 1, 1, 1, 1] slices_symMergeCmpFunc_api_Point_an) (rs [0, 1, 2, 3, 4, 18, 19, 20] env) h (slices_symMergeCmpFunc_api_Point_K0  K)) (slices_symMergeCmpFunc_api_Point_K0  K)
def slices_symMergeCmpFunc_api_Point_K10  (K : Value → Hp → Prop) : Exit → Env → Hp → Prop := blockE 8 (slices_symMergeCmpFunc_api_Point_K9  K)
def slices_symMergeCmpFunc_api_Point_K11 (nx0 : Int × Int × Unit → Hp → Prop) (K : Value → Hp → Prop) : Exit → Env → Hp → Prop := thenE (fun env h => getV [(20, .int .i64), (21, .int .i64)] env fun s => nx0 s h) (slices_symMergeCmpFunc_api_Point_K10  K)
def slices_symMergeCmpFunc_api_Point_K12  (K : Value → Hp → Prop) : Exit → Env → Hp → Prop := thenE (fun env h => sx0 Try.prog F 220 (sx_3 Try.prog F 220) (cp [0, 1, 0, 1, 1, 1, 1] (bodyOf Try.f93)) (ap [0, 1, 0, 1, 1, 1, 1] slices_symMergeCmpFunc_api_Point_an) env h (slices_symMergeCmpFunc_api_Point_K1  K)) (slices_symMergeCmpFunc_api_Point_K1  K)
def slices_symMergeCmpFunc_api_Point_K13  (K : Value → Hp → Prop) : Exit → Env → Hp → Prop := blockE 2 (slices_symMergeCmpFunc_api_Point_K12  K)
def slices_symMergeCmpFunc_api_Point_K14 (nx0 : Int × Unit → Hp → Prop) (K : Value → Hp → Prop) : Exit → Env → Hp → Prop := thenE (fun env h => getV [(13, .int .i64)] env fun s => nx0 s h) (slices_symMergeCmpFunc_api_Point_K13  K)
def slices_symMergeCmpFunc_api_Point_K15  (K : Value → Hp → Prop) : Exit → Env → Hp → Prop := thenE (fun env h => sx0 Try.prog F 220 (sx_3 Try.prog F 220) (cp [1, 0, 1, 0, 1, 1, 1, 1] (bodyOf Try.f93)) (ap [1, 0, 1, 0, 1, 1, 1, 1] slices_symMergeCmpFunc_api_Point_an) env h (slices_symMergeCmpFunc_api_Point_K5  K)) (slices_symMergeCmpFunc_api_Point_K5  K)
def slices_symMergeCmpFunc_api_Point_K16  (K : Value → Hp → Prop) : Exit → Env → Hp → Prop := blockE 6 (slices_symMergeCmpFunc_api_Point_K15  K)
def slices_symMergeCmpFunc_api_Point_K17 (nx0 : Int × Unit → Hp → Prop) (K : Value → Hp → Prop) : Exit → Env → Hp → Prop := thenE (fun env h => getV [(17, .int .i64)] env fun s => nx0 s h) (slices_symMergeCmpFunc_api_Point_K16  K)
def slices_symMergeCmpFunc_api_Point_b0 (data : Option Addr) (dataL : Nat) (dataC : Nat) (a : Int) (m : Int) (b : Int) (cmp : Value) (h : Hp)  (K : Value → Hp → Prop) : Prop :=
  sx_5 Try.prog F 220 (cp [] (bodyOf Try.f93)) (ap [] slices_symMergeCmpFunc_api_Point_an) [(0, .slice data dataL dataC), (1, .int .i64 a), (2, .int .i64 m), (3, .int .i64 b), (4, cmp)] h (slices_symMergeCmpFunc_api_Point_K0  K)
def slices_symMergeCmpFunc_api_Point_b1 (i : Int) (j : Int) (data : Option Addr) (dataL : Nat) (dataC : Nat) (a : Int) (cmp : Value) (h : Hp) (nx0 : Int × Int × Unit → Hp → Prop) (K : Value → Hp → Prop) : Prop :=
  sx_4 Try.prog F 220 (cp [0, 1, 0, 1, 1, 0, 2, 2] (bodyOf Try.f93)) (ap [0, 1, 0, 1, 1, 0, 2] slices_symMergeCmpFunc_api_Point_an) [(10, .int .i64 i), (11, .int .i64 j), (0, .slice data dataL dataC), (1, .int .i64 a), (4, cmp)] h (slices_symMergeCmpFunc_api_Point_K4 nx0 K)
def slices_symMergeCmpFunc_api_Point_b2 (i : Int) (j : Int) (data : Option Addr) (dataL : Nat) (dataC : Nat) (m : Int) (cmp : Value) (h : Hp) (nx0 : Int × Int × Unit → Hp → Prop) (K : Value → Hp → Prop) : Prop :=
  sx_4 Try.prog F 220 (cp [1, 0, 1, 0, 1, 1, 0, 2, 2] (bodyOf Try.f93)) (ap [1, 0, 1, 0, 1, 1, 0, 2] slices_symMergeCmpFunc_api_Point_an) [(14, .int .i64 i), (15, .int .i64 j), (0, .slice data dataL dataC), (2, .int .i64 m), (4, cmp)] h (slices_symMergeCmpFunc_api_Point_K8 nx0 K)
def slices_symMergeCmpFunc_api_Point_b3 (data : Option Addr) (dataL : Nat) (dataC : Nat) (a : Int) (m : Int) (b : Int) (cmp : Value) (mid : Int) (nv : Int) (start : Int) (r : Int) (h : Hp)  (K : Value → Hp → Prop) : Prop :=
  sx_4 Try.prog F 220 (cp [1, 1, 1, 1, 1, 1] (bodyOf Try.f93)) (ap [1, 1, 1, 1, 1, 1] slices_symMergeCmpFunc_api_Point_an) [(0, .slice data dataL dataC), (1, .int .i64 a), (2, .int .i64 m), (3, .int .i64 b), (4, cmp), (18, .int .i64 mid), (19, .int .i64 nv), (20, .int .i64 start), (21, .int .i64 r)] h (slices_symMergeCmpFunc_api_Point_K0  K)
def slices_symMergeCmpFunc_api_Point_b4 (data : Option Addr) (dataL : Nat) (dataC : Nat) (a : Int) (i : Int) (h : Hp)  (K : Value → Hp → Prop) : Prop :=
  sx_4 Try.prog F 220 (cp [0, 1, 0, 1, 1, 1] (bodyOf Try.f93)) (ap [0, 1, 0, 1, 1, 1] slices_symMergeCmpFunc_api_Point_an) [(0, .slice data dataL dataC), (1, .int .i64 a), (10, .int .i64 i)] h (slices_symMergeCmpFunc_api_Point_K1  K)
def slices_symMergeCmpFunc_api_Point_b5 (data : Option Addr) (dataL : Nat) (dataC : Nat) (m : Int) (i : Int) (h : Hp)  (K : Value → Hp → Prop) : Prop :=
  sx_4 Try.prog F 220 (cp [1, 0, 1, 0, 1, 1, 1] (bodyOf Try.f93)) (ap [1, 0, 1, 0, 1, 1, 1] slices_symMergeCmpFunc_api_Point_an) [(0, .slice data dataL dataC), (2, .int .i64 m), (14, .int .i64 i)] h (slices_symMergeCmpFunc_api_Point_K5  K)
def slices_symMergeCmpFunc_api_Point_b6 (start : Int) (r : Int) (data : Option Addr) (dataL : Nat) (dataC : Nat) (a : Int) (m : Int) (b : Int) (cmp : Value) (mid : Int) (nv : Int) (p : Int) (h : Hp) (nx0 : Int × Int × Unit → Hp → Prop) (K : Value → Hp → Prop) : Prop :=
  sx_3 Try.prog F 220 (cp [1, 1, 1, 1, 1, 1, 1, 0, 2, 2] (bodyOf Try.f93)) (ap [1, 1, 1, 1, 1, 1, 1, 0, 2] slices_symMergeCmpFunc_api_Point_an) [(20, .int .i64 start), (21, .int .i64 r), (0, .slice data dataL dataC), (1, .int .i64 a), (2, .int .i64 m), (3, .int .i64 b), (4, cmp), (18, .int .i64 mid), (19, .int .i64 nv), (22, .int .i64 p)] h (slices_symMergeCmpFunc_api_Point_K11 nx0 K)
def slices_symMergeCmpFunc_api_Point_b7 (k : Int) (data : Option Addr) (dataL : Nat) (dataC : Nat) (i : Int) (h : Hp) (nx0 : Int × Unit → Hp → Prop) (K : Value → Hp → Prop) : Prop :=
  sx_3 Try.prog F 220 (cp [0, 1, 0, 1, 1, 1, 0, 1, 2, 2] (bodyOf Try.f93)) (ap [0, 1, 0, 1, 1, 1, 0, 1, 2] slices_symMergeCmpFunc_api_Point_an) [(13, .int .i64 k), (0, .slice data dataL dataC), (10, .int .i64 i)] h (slices_symMergeCmpFunc_api_Point_K14 nx0 K)
def slices_symMergeCmpFunc_api_Point_b8 (k : Int) (data : Option Addr) (dataL : Nat) (dataC : Nat) (i : Int) (h : Hp) (nx0 : Int × Unit → Hp → Prop) (K : Value → Hp → Prop) : Prop :=
  sx_3 Try.prog F 220 (cp [1, 0, 1, 0, 1, 1, 1, 0, 1, 2, 2] (bodyOf Try.f93)) (ap [1, 0, 1, 0, 1, 1, 1, 0, 1, 2] slices_symMergeCmpFunc_api_Point_an) [(17, .int .i64 k), (0, .slice data dataL dataC), (14, .int .i64 i)] h (slices_symMergeCmpFunc_api_Point_K17 nx0 K)
def slices_symMergeCmpFunc_api_Point_b9 (data : Option Addr) (dataL : Nat) (dataC : Nat) (a : Int) (m : Int) (b : Int) (cmp : Value) (mid : Int) (nv : Int) (start : Int) (h : Hp)  (K : Value → Hp → Prop) : Prop :=
  sx_3 Try.prog F 220 (cp [1, 1, 1, 1, 1, 1, 1, 1] (bodyOf Try.f93)) (ap [1, 1, 1, 1, 1, 1, 1, 1] slices_symMergeCmpFunc_api_Point_an) [(0, .slice data dataL dataC), (1, .int .i64 a), (2, .int .i64 m), (3, .int .i64 b), (4, cmp), (18, .int .i64 mid), (19, .int .i64 nv), (20, .int .i64 start)] h (slices_symMergeCmpFunc_api_Point_K0  K)
def slices_symMergeCmpFunc_api_Point_b10 (data : Option Addr) (dataL : Nat) (dataC : Nat) (i : Int) (k : Int) (h : Hp) (nx0 : Int × Unit → Hp → Prop) (K : Value → Hp → Prop) : Prop :=
  sx_2 Try.prog F 220 (cp [0, 1, 0, 1, 1, 1, 0, 1, 2, 2, 1, 1] (bodyOf Try.f93)) (ap [0, 1, 0, 1, 1, 1, 0, 1, 2, 1, 1] slices_symMergeCmpFunc_api_Point_an) [(0, .slice data dataL dataC), (10, .int .i64 i), (13, .int .i64 k)] h (slices_symMergeCmpFunc_api_Point_K14 nx0 K)
def slices_symMergeCmpFunc_api_Point_b11 (data : Option Addr) (dataL : Nat) (dataC : Nat) (i : Int) (k : Int) (h : Hp) (nx0 : Int × Unit → Hp → Prop) (K : Value → Hp → Prop) : Prop :=
  sx_2 Try.prog F 220 (cp [1, 0, 1, 0, 1, 1, 1, 0, 1, 2, 2, 1, 1] (bodyOf Try.f93)) (ap [1, 0, 1, 0, 1, 1, 1, 0, 1, 2, 1, 1] slices_symMergeCmpFunc_api_Point_an) [(0, .slice data dataL dataC), (14, .int .i64 i), (17, .int .i64 k)] h (slices_symMergeCmpFunc_api_Point_K17 nx0 K)
def slices_symMergeCmpFunc_api_Point_b12 (data : Option Addr) (dataL : Nat) (dataC : Nat) (a : Int) (b : Int) (cmp : Value) (mid : Int) (start : Int) (endv : Int) (h : Hp)  (K : Value → Hp → Prop) : Prop :=
  sx_2 Try.prog F 220 (cp [1, 1, 1, 1, 1, 1, 1, 1, 1, 1] (bodyOf Try.f93)) (ap [1, 1, 1, 1, 1, 1, 1, 1, 1, 1] slices_symMergeCmpFunc_api_Point_an) [(0, .slice data dataL dataC), (1, .int .i64 a), (3, .int .i64 b), (4, cmp), (18, .int .i64 mid), (20, .int .i64 start), (24, .int .i64 endv)] h (slices_symMergeCmpFunc_api_Point_K0  K)
def slices_symMergeCmpFunc_api_Point_b13 (data : Option Addr) (dataL : Nat) (dataC : Nat) (b : Int) (cmp : Value) (mid : Int) (endv : Int) (h : Hp)  (K : Value → Hp → Prop) : Prop :=
  sx_1 Try.prog F 220 (cp [1, 1, 1, 1, 1, 1, 1, 1, 1, 1, 1] (bodyOf Try.f93)) (ap [1, 1, 1, 1, 1, 1, 1, 1, 1, 1, 1] slices_symMergeCmpFunc_api_Point_an) [(0, .slice data dataL dataC), (3, .int .i64 b), (4, cmp), (18, .int .i64 mid), (24, .int .i64 endv)] h (slices_symMergeCmpFunc_api_Point_K0  K)
theorem slices_symMergeCmpFunc_api_Point_b0_eq (data : Option Addr) (dataL : Nat) (dataC : Nat) (a : Int) (m : Int) (b : Int) (cmp : Value) (h : Hp)  (K : Value → Hp → Prop) : slices_symMergeCmpFunc_api_Point_b0 data dataL dataC a m b cmp h  K = (
  InR (m - a) ∧
  cond (decide ((m - a) = 1))
  (LoopVC ((m, b, ()) : Int × Int × Unit) h (fun (nx0 : Int × Int × Unit → Hp → Prop) (s1 : Int × Int × Unit) h1 => slices_symMergeCmpFunc_api_Point_b1 s1.1 s1.2.1 data dataL dataC a cmp h1 nx0 K))
  (InR (b - m) ∧
  cond (decide ((b - m) = 1))
  (LoopVC ((a, m, ()) : Int × Int × Unit) h (fun (nx0 : Int × Int × Unit → Hp → Prop) (s2 : Int × Int × Unit) h2 => slices_symMergeCmpFunc_api_Point_b2 s2.1 s2.2.1 data dataL dataC m cmp h2 nx0 K))
  (InR (a + b) ∧
  ∃ sr1 : Int, Sx.Shr .u64 (IntKind.u64.wrap (a + b)) 1 sr1 ∧
  InR sr1 ∧
  InR (sr1 + m) ∧
  cond (decide (sr1 < m))
  (InR ((sr1 + m) - b) ∧
  slices_symMergeCmpFunc_api_Point_b3 data dataL dataC a m b cmp sr1 (sr1 + m) ((sr1 + m) - b) sr1 h  K)
  (slices_symMergeCmpFunc_api_Point_b3 data dataL dataC a m b cmp sr1 (sr1 + m) a m h  K)))) := by kernel_rfl
theorem slices_symMergeCmpFunc_api_Point_b1_eq (i : Int) (j : Int) (data : Option Addr) (dataL : Nat) (dataC : Nat) (a : Int) (cmp : Value) (h : Hp) (nx0 : Int × Int × Unit → Hp → Prop) (K : Value → Hp → Prop) : slices_symMergeCmpFunc_api_Point_b1 i j data dataL dataC a cmp h nx0 K = (
  cond (decide (i < j))
  (InR (i + j) ∧
  ∃ sr2 : Int, Sx.Shr .u64 (IntKind.u64.wrap (i + j)) 1 sr2 ∧
  InR sr2 ∧
  (0 ≤ sr2 ∧ sr2 < (dataL : Int)) ∧
  NN data fun a1 =>
  ∃ n1 : Int, ∃ n2 : Int, ∃ n3 : Int, cell h (a1.add (Int.toNat sr2 * 3)) = some (.int .i64 n1) ∧
  cell h ((a1.add (Int.toNat sr2 * 3)).add 1) = some (.int .i64 n2) ∧
  cell h ((a1.add (Int.toNat sr2 * 3)).add 2) = some (.int .i64 n3) ∧
  (0 ≤ a ∧ a < (dataL : Int)) ∧
  NN data fun a2 =>
  ∃ n4 : Int, ∃ n5 : Int, ∃ n6 : Int, cell h (a2.add (Int.toNat a * 3)) = some (.int .i64 n4) ∧
  cell h ((a2.add (Int.toNat a * 3)).add 1) = some (.int .i64 n5) ∧
  cell h ((a2.add (Int.toNat a * 3)).add 2) = some (.int .i64 n6) ∧
  funV cmp fun fg1 fa1 fc1 => callX Try.prog F fg1 (fa1 ++ (([.agg #[.int .i64 n1, .int .i64 n2, .int .i64 n3], .agg #[.int .i64 n4, .int .i64 n5, .int .i64 n6]] : List Value) ++ fc1)).toArray h fun v1 h3 => ∃ r1 : Int, v1 = .int .i64 r1 ∧
  cond (decide (r1 < 0))
  (InR (sr2 + 1) ∧
  nx0 (sr2 + 1, j, ()) h3)
  (nx0 (i, sr2, ()) h3))
  (slices_symMergeCmpFunc_api_Point_b4 data dataL dataC a i h  K)) := by kernel_rfl
theorem slices_symMergeCmpFunc_api_Point_b2_eq (i : Int) (j : Int) (data : Option Addr) (dataL : Nat) (dataC : Nat) (m : Int) (cmp : Value) (h : Hp) (nx0 : Int × Int × Unit → Hp → Prop) (K : Value → Hp → Prop) : slices_symMergeCmpFunc_api_Point_b2 i j data dataL dataC m cmp h nx0 K = (
  cond (decide (i < j))
  (InR (i + j) ∧
  ∃ sr3 : Int, Sx.Shr .u64 (IntKind.u64.wrap (i + j)) 1 sr3 ∧
  InR sr3 ∧
  (0 ≤ m ∧ m < (dataL : Int)) ∧
  NN data fun a3 =>
  ∃ n7 : Int, ∃ n8 : Int, ∃ n9 : Int, cell h (a3.add (Int.toNat m * 3)) = some (.int .i64 n7) ∧
  cell h ((a3.add (Int.toNat m * 3)).add 1) = some (.int .i64 n8) ∧
  cell h ((a3.add (Int.toNat m * 3)).add 2) = some (.int .i64 n9) ∧
  (0 ≤ sr3 ∧ sr3 < (dataL : Int)) ∧
  NN data fun a4 =>
  ∃ n10 : Int, ∃ n11 : Int, ∃ n12 : Int, cell h (a4.add (Int.toNat sr3 * 3)) = some (.int .i64 n10) ∧
  cell h ((a4.add (Int.toNat sr3 * 3)).add 1) = some (.int .i64 n11) ∧
  cell h ((a4.add (Int.toNat sr3 * 3)).add 2) = some (.int .i64 n12) ∧
  funV cmp fun fg2 fa2 fc2 => callX Try.prog F fg2 (fa2 ++ (([.agg #[.int .i64 n7, .int .i64 n8, .int .i64 n9], .agg #[.int .i64 n10, .int .i64 n11, .int .i64 n12]] : List Value) ++ fc2)).toArray h fun v2 h4 => ∃ r2 : Int, v2 = .int .i64 r2 ∧
  cond (!(decide (r2 < 0)))
  (InR (sr3 + 1) ∧
  nx0 (sr3 + 1, j, ()) h4)
  (nx0 (i, sr3, ()) h4))
  (slices_symMergeCmpFunc_api_Point_b5 data dataL dataC m i h  K)) := by kernel_rfl
theorem slices_symMergeCmpFunc_api_Point_b3_eq (data : Option Addr) (dataL : Nat) (dataC : Nat) (a : Int) (m : Int) (b : Int) (cmp : Value) (mid : Int) (nv : Int) (start : Int) (r : Int) (h : Hp)  (K : Value → Hp → Prop) : slices_symMergeCmpFunc_api_Point_b3 data dataL dataC a m b cmp mid nv start r h  K = (
  InR (nv - 1) ∧
  LoopVC ((start, r, ()) : Int × Int × Unit) h (fun (nx0 : Int × Int × Unit → Hp → Prop) (s3 : Int × Int × Unit) h5 => slices_symMergeCmpFunc_api_Point_b6 s3.1 s3.2.1 data dataL dataC a m b cmp mid nv (nv - 1) h5 nx0 K)) := by kernel_rfl
theorem slices_symMergeCmpFunc_api_Point_b4_eq (data : Option Addr) (dataL : Nat) (dataC : Nat) (a : Int) (i : Int) (h : Hp)  (K : Value → Hp → Prop) : slices_symMergeCmpFunc_api_Point_b4 data dataL dataC a i h  K = (
  LoopVC ((a, ()) : Int × Unit) h (fun (nx0 : Int × Unit → Hp → Prop) (s4 : Int × Unit) h6 => slices_symMergeCmpFunc_api_Point_b7 s4.1 data dataL dataC i h6 nx0 K)) := by kernel_rfl
theorem slices_symMergeCmpFunc_api_Point_b5_eq (data : Option Addr) (dataL : Nat) (dataC : Nat) (m : Int) (i : Int) (h : Hp)  (K : Value → Hp → Prop) : slices_symMergeCmpFunc_api_Point_b5 data dataL dataC m i h  K = (
  LoopVC ((m, ()) : Int × Unit) h (fun (nx0 : Int × Unit → Hp → Prop) (s5 : Int × Unit) h7 => slices_symMergeCmpFunc_api_Point_b8 s5.1 data dataL dataC i h7 nx0 K)) := by kernel_rfl
theorem slices_symMergeCmpFunc_api_Point_b6_eq (start : Int) (r : Int) (data : Option Addr) (dataL : Nat) (dataC : Nat) (a : Int) (m : Int) (b : Int) (cmp : Value) (mid : Int) (nv : Int) (p : Int) (h : Hp) (nx0 : Int × Int × Unit → Hp → Prop) (K : Value → Hp → Prop) : slices_symMergeCmpFunc_api_Point_b6 start r data dataL dataC a m b cmp mid nv p h nx0 K = (
  cond (decide (start < r))
  (InR (start + r) ∧
  ∃ sr4 : Int, Sx.Shr .u64 (IntKind.u64.wrap (start + r)) 1 sr4 ∧
  InR sr4 ∧
  InR (p - sr4) ∧
  (0 ≤ p - sr4 ∧ p - sr4 < (dataL : Int)) ∧
  NN data fun a5 =>
  ∃ n13 : Int, ∃ n14 : Int, ∃ n15 : Int, cell h (a5.add (Int.toNat (p - sr4) * 3)) = some (.int .i64 n13) ∧
  cell h ((a5.add (Int.toNat (p - sr4) * 3)).add 1) = some (.int .i64 n14) ∧
  cell h ((a5.add (Int.toNat (p - sr4) * 3)).add 2) = some (.int .i64 n15) ∧
  (0 ≤ sr4 ∧ sr4 < (dataL : Int)) ∧
  NN data fun a6 =>
  ∃ n16 : Int, ∃ n17 : Int, ∃ n18 : Int, cell h (a6.add (Int.toNat sr4 * 3)) = some (.int .i64 n16) ∧
  cell h ((a6.add (Int.toNat sr4 * 3)).add 1) = some (.int .i64 n17) ∧
  cell h ((a6.add (Int.toNat sr4 * 3)).add 2) = some (.int .i64 n18) ∧
  funV cmp fun fg3 fa3 fc3 => callX Try.prog F fg3 (fa3 ++ (([.agg #[.int .i64 n13, .int .i64 n14, .int .i64 n15], .agg #[.int .i64 n16, .int .i64 n17, .int .i64 n18]] : List Value) ++ fc3)).toArray h fun v3 h8 => ∃ r3 : Int, v3 = .int .i64 r3 ∧
  cond (!(decide (r3 < 0)))
  (InR (sr4 + 1) ∧
  nx0 (sr4 + 1, r, ()) h8)
  (nx0 (start, sr4, ()) h8))
  (slices_symMergeCmpFunc_api_Point_b9 data dataL dataC a m b cmp mid nv start h  K)) := by kernel_rfl
theorem slices_symMergeCmpFunc_api_Point_b7_eq (k : Int) (data : Option Addr) (dataL : Nat) (dataC : Nat) (i : Int) (h : Hp) (nx0 : Int × Unit → Hp → Prop) (K : Value → Hp → Prop) : slices_symMergeCmpFunc_api_Point_b7 k data dataL dataC i h nx0 K = (
  InR (i - 1) ∧
  cond (decide (k < (i - 1)))
  (InR (k + 1) ∧
  InR (k + 1) ∧
  (0 ≤ k + 1 ∧ k + 1 < (dataL : Int)) ∧
  NN data fun a7 =>
  ∃ n19 : Int, ∃ n20 : Int, ∃ n21 : Int, cell h (a7.add (Int.toNat (k + 1) * 3)) = some (.int .i64 n19) ∧
  cell h ((a7.add (Int.toNat (k + 1) * 3)).add 1) = some (.int .i64 n20) ∧
  cell h ((a7.add (Int.toNat (k + 1) * 3)).add 2) = some (.int .i64 n21) ∧
  (0 ≤ k ∧ k < (dataL : Int)) ∧
  NN data fun a8 =>
  ∃ n22 : Int, ∃ n23 : Int, ∃ n24 : Int, cell h (a8.add (Int.toNat k * 3)) = some (.int .i64 n22) ∧
  cell h ((a8.add (Int.toNat k * 3)).add 1) = some (.int .i64 n23) ∧
  cell h ((a8.add (Int.toNat k * 3)).add 2) = some (.int .i64 n24) ∧
  (0 ≤ k ∧ k < (dataL : Int)) ∧
  NN data fun a9 =>
  Wr h (a9.add (Int.toNat k * 3)) (.int .i64 n19) fun h9 =>
  Wr h9 ((a9.add (Int.toNat k * 3)).add 1) (.int .i64 n20) fun h10 =>
  Wr h10 ((a9.add (Int.toNat k * 3)).add 2) (.int .i64 n21) fun h11 =>
  (0 ≤ k + 1 ∧ k + 1 < (dataL : Int)) ∧
  NN data fun a10 =>
  Wr h11 (a10.add (Int.toNat (k + 1) * 3)) (.int .i64 n22) fun h12 =>
  Wr h12 ((a10.add (Int.toNat (k + 1) * 3)).add 1) (.int .i64 n23) fun h13 =>
  Wr h13 ((a10.add (Int.toNat (k + 1) * 3)).add 2) (.int .i64 n24) fun h14 =>
  slices_symMergeCmpFunc_api_Point_b10 data dataL dataC i k h14 nx0 K)
  (K (.tuple #[]) h)) := by kernel_rfl
theorem slices_symMergeCmpFunc_api_Point_b8_eq (k : Int) (data : Option Addr) (dataL : Nat) (dataC : Nat) (i : Int) (h : Hp) (nx0 : Int × Unit → Hp → Prop) (K : Value → Hp → Prop) : slices_symMergeCmpFunc_api_Point_b8 k data dataL dataC i h nx0 K = (
  cond (decide (i < k))
  (InR (k - 1) ∧
  InR (k - 1) ∧
  (0 ≤ k - 1 ∧ k - 1 < (dataL : Int)) ∧
  NN data fun a11 =>
  ∃ n25 : Int, ∃ n26 : Int, ∃ n27 : Int, cell h (a11.add (Int.toNat (k - 1) * 3)) = some (.int .i64 n25) ∧
  cell h ((a11.add (Int.toNat (k - 1) * 3)).add 1) = some (.int .i64 n26) ∧
  cell h ((a11.add (Int.toNat (k - 1) * 3)).add 2) = some (.int .i64 n27) ∧
  (0 ≤ k ∧ k < (dataL : Int)) ∧
  NN data fun a12 =>
  ∃ n28 : Int, ∃ n29 : Int, ∃ n30 : Int, cell h (a12.add (Int.toNat k * 3)) = some (.int .i64 n28) ∧
  cell h ((a12.add (Int.toNat k * 3)).add 1) = some (.int .i64 n29) ∧
  cell h ((a12.add (Int.toNat k * 3)).add 2) = some (.int .i64 n30) ∧
  (0 ≤ k ∧ k < (dataL : Int)) ∧
  NN data fun a13 =>
  Wr h (a13.add (Int.toNat k * 3)) (.int .i64 n25) fun h15 =>
  Wr h15 ((a13.add (Int.toNat k * 3)).add 1) (.int .i64 n26) fun h16 =>
  Wr h16 ((a13.add (Int.toNat k * 3)).add 2) (.int .i64 n27) fun h17 =>
  (0 ≤ k - 1 ∧ k - 1 < (dataL : Int)) ∧
  NN data fun a14 =>
  Wr h17 (a14.add (Int.toNat (k - 1) * 3)) (.int .i64 n28) fun h18 =>
  Wr h18 ((a14.add (Int.toNat (k - 1) * 3)).add 1) (.int .i64 n29) fun h19 =>
  Wr h19 ((a14.add (Int.toNat (k - 1) * 3)).add 2) (.int .i64 n30) fun h20 =>
  slices_symMergeCmpFunc_api_Point_b11 data dataL dataC i k h20 nx0 K)
  (K (.tuple #[]) h)) := by kernel_rfl
theorem slices_symMergeCmpFunc_api_Point_b9_eq (data : Option Addr) (dataL : Nat) (dataC : Nat) (a : Int) (m : Int) (b : Int) (cmp : Value) (mid : Int) (nv : Int) (start : Int) (h : Hp)  (K : Value → Hp → Prop) : slices_symMergeCmpFunc_api_Point_b9 data dataL dataC a m b cmp mid nv start h  K = (
  InR (nv - start) ∧
  cond (decide (start < m))
  (cond (decide (m < (nv - start)))
  (HCalls Try.prog 96 #[.slice data dataL dataC, .int .i64 start, .int .i64 m, .int .i64 (nv - start), cmp] h fun v4 h21 => v4 = .tuple #[] ∧
  slices_symMergeCmpFunc_api_Point_b12 data dataL dataC a b cmp mid start (nv - start) h21  K)
  (slices_symMergeCmpFunc_api_Point_b12 data dataL dataC a b cmp mid start (nv - start) h  K))
  (slices_symMergeCmpFunc_api_Point_b12 data dataL dataC a b cmp mid start (nv - start) h  K)) := by kernel_rfl
theorem slices_symMergeCmpFunc_api_Point_b10_eq (data : Option Addr) (dataL : Nat) (dataC : Nat) (i : Int) (k : Int) (h : Hp) (nx0 : Int × Unit → Hp → Prop) (K : Value → Hp → Prop) : slices_symMergeCmpFunc_api_Point_b10 data dataL dataC i k h nx0 K = (
  InR (k + 1) ∧
  nx0 (k + 1, ()) h) := by kernel_rfl
theorem slices_symMergeCmpFunc_api_Point_b11_eq (data : Option Addr) (dataL : Nat) (dataC : Nat) (i : Int) (k : Int) (h : Hp) (nx0 : Int × Unit → Hp → Prop) (K : Value → Hp → Prop) : slices_symMergeCmpFunc_api_Point_b11 data dataL dataC i k h nx0 K = (
  InR (k - 1) ∧
  nx0 (k - 1, ()) h) := by kernel_rfl
theorem slices_symMergeCmpFunc_api_Point_b12_eq (data : Option Addr) (dataL : Nat) (dataC : Nat) (a : Int) (b : Int) (cmp : Value) (mid : Int) (start : Int) (endv : Int) (h : Hp)  (K : Value → Hp → Prop) : slices_symMergeCmpFunc_api_Point_b12 data dataL dataC a b cmp mid start endv h  K = (
  cond (decide (a < start))
  (cond (decide (start < mid))
  (HCalls Try.prog 93 #[.slice data dataL dataC, .int .i64 a, .int .i64 start, .int .i64 mid, cmp] h fun v5 h22 => v5 = .tuple #[] ∧
  slices_symMergeCmpFunc_api_Point_b13 data dataL dataC b cmp mid endv h22  K)
  (slices_symMergeCmpFunc_api_Point_b13 data dataL dataC b cmp mid endv h  K))
  (slices_symMergeCmpFunc_api_Point_b13 data dataL dataC b cmp mid endv h  K)) := by kernel_rfl
theorem slices_symMergeCmpFunc_api_Point_b13_eq (data : Option Addr) (dataL : Nat) (dataC : Nat) (b : Int) (cmp : Value) (mid : Int) (endv : Int) (h : Hp)  (K : Value → Hp → Prop) : slices_symMergeCmpFunc_api_Point_b13 data dataL dataC b cmp mid endv h  K = (
  cond (decide (mid < endv))
  (cond (decide (endv < b))
  (HCalls Try.prog 93 #[.slice data dataL dataC, .int .i64 mid, .int .i64 endv, .int .i64 b, cmp] h fun v6 h23 => v6 = .tuple #[] ∧
  K (.tuple #[]) h23)
  (K (.tuple #[]) h))
  (K (.tuple #[]) h)) := by kernel_rfl
theorem slices_symMergeCmpFunc_api_Point_call {data : Option Addr} {dataL : Nat} {dataC : Nat} {a : Int} {m : Int} {b : Int} {cmp : Value} {h : Hp} {K : Value → Hp → Prop} (hk : slices_symMergeCmpFunc_api_Point_b0 data dataL dataC a m b cmp h K) : HCalls Try.prog 93 #[.slice data dataL dataC, .int .i64 a, .int .i64 m, .int .i64 b, cmp] h K :=
  calls_of_snd slices_symMergeCmpFunc_api_Point_an Try.func93 (c := bodyOf Try.f93) rfl Try.ntmps93 (Nat.le_of_ble_eq_true rfl) (snd_5 F_ok F_mixed) hk

/-! ### slices_order2CmpFunc_api_Point -/
def slices_order2CmpFunc_api_Point_an : Ann := .node none (.leaf) (.node none (.node none (.tail 9) (.leaf)) (.leaf))
def slices_order2CmpFunc_api_Point_K0  (K : Value → Hp → Prop) : Exit → Env → Hp → Prop := retK Try.prog Try.f94.results.toList K
def slices_order2CmpFunc_api_Point_b0 (data : Option Addr) (dataL : Nat) (dataC : Nat) (a : Int) (b : Int) (swaps : Option Addr) (cmp : Value) (h : Hp)  (K : Value → Hp → Prop) : Prop :=
  sx_1 Try.prog F 32 (cp [] (bodyOf Try.f94)) (ap [] slices_order2CmpFunc_api_Point_an) [(0, .slice data dataL dataC), (1, .int .i64 a), (2, .int .i64 b), (3, .pointer swaps), (4, cmp)] h (slices_order2CmpFunc_api_Point_K0  K)
theorem slices_order2CmpFunc_api_Point_b0_eq (data : Option Addr) (dataL : Nat) (dataC : Nat) (a : Int) (b : Int) (swaps : Option Addr) (cmp : Value) (h : Hp)  (K : Value → Hp → Prop) : slices_order2CmpFunc_api_Point_b0 data dataL dataC a b swaps cmp h  K = (
  (0 ≤ b ∧ b < (dataL : Int)) ∧
  NN data fun a1 =>
  ∃ n1 : Int, ∃ n2 : Int, ∃ n3 : Int, cell h (a1.add (Int.toNat b * 3)) = some (.int .i64 n1) ∧
  cell h ((a1.add (Int.toNat b * 3)).add 1) = some (.int .i64 n2) ∧
  cell h ((a1.add (Int.toNat b * 3)).add 2) = some (.int .i64 n3) ∧
  (0 ≤ a ∧ a < (dataL : Int)) ∧
  NN data fun a2 =>
  ∃ n4 : Int, ∃ n5 : Int, ∃ n6 : Int, cell h (a2.add (Int.toNat a * 3)) = some (.int .i64 n4) ∧
  cell h ((a2.add (Int.toNat a * 3)).add 1) = some (.int .i64 n5) ∧
  cell h ((a2.add (Int.toNat a * 3)).add 2) = some (.int .i64 n6) ∧
  funV cmp fun fg1 fa1 fc1 => callX Try.prog F fg1 (fa1 ++ (([.agg #[.int .i64 n1, .int .i64 n2, .int .i64 n3], .agg #[.int .i64 n4, .int .i64 n5, .int .i64 n6]] : List Value) ++ fc1)).toArray h fun v1 h1 => ∃ r1 : Int, v1 = .int .i64 r1 ∧
  cond (decide (r1 < 0))
  (NN swaps fun a3 =>
  ∃ n7 : Int, cell h1 a3 = some (.int .i64 n7) ∧
  InR (n7 + 1) ∧
  NN swaps fun a4 =>
  Wr h1 a4 (.int .i64 (n7 + 1)) fun h2 =>
  K (.tuple #[.int .i64 b, .int .i64 a]) h2)
  (K (.tuple #[.int .i64 a, .int .i64 b]) h1)) := by kernel_rfl
theorem slices_order2CmpFunc_api_Point_call {data : Option Addr} {dataL : Nat} {dataC : Nat} {a : Int} {b : Int} {swaps : Option Addr} {cmp : Value} {h : Hp} {K : Value → Hp → Prop} (hk : slices_order2CmpFunc_api_Point_b0 data dataL dataC a b swaps cmp h K) : HCalls Try.prog 94 #[.slice data dataL dataC, .int .i64 a, .int .i64 b, .pointer swaps, cmp] h K :=
  calls_of_snd slices_order2CmpFunc_api_Point_an Try.func94 (c := bodyOf Try.f94) rfl Try.ntmps94 (Nat.le_of_ble_eq_true rfl) (snd_1 F_ok F_mixed) hk

/-! ### slices_isNaN_int -/
def slices_isNaN_int_an : Ann := .leaf
def slices_isNaN_int_K0  (K : Value → Hp → Prop) : Exit → Env → Hp → Prop := retK Try.prog Try.f95.results.toList K
def slices_isNaN_int_b0 (x : Int) (h : Hp)  (K : Value → Hp → Prop) : Prop :=
  sx_1 Try.prog F 6 (cp [] (bodyOf Try.f95)) (ap [] slices_isNaN_int_an) [(0, .int .i64 x)] h (slices_isNaN_int_K0  K)
theorem slices_isNaN_int_b0_eq (x : Int) (h : Hp)  (K : Value → Hp → Prop) : slices_isNaN_int_b0 x h  K = (
  K (.bool (!decide (x = x))) h) := by kernel_rfl
theorem slices_isNaN_int_call {x : Int} {h : Hp} {K : Value → Hp → Prop} (hk : slices_isNaN_int_b0 x h K) : HCalls Try.prog 95 #[.int .i64 x] h K :=
  calls_of_snd slices_isNaN_int_an Try.func95 (c := bodyOf Try.f95) rfl Try.ntmps95 (Nat.le_of_ble_eq_true rfl) (snd_1 F_ok F_mixed) hk

/-! ### slices_rotateCmpFunc_api_Point -/
def slices_rotateCmpFunc_api_Point_an : Ann := .node none (.leaf) (.node none (.leaf) (.node (some [0, 2, 4, 10]) (.loop [0, 2, 4] [(10, .int .i64), (11, .int .i64)] (.leaf)) (.leaf)))
def slices_rotateCmpFunc_api_Point_K0  (K : Value → Hp → Prop) : Exit → Env → Hp → Prop := retK Try.prog Try.f96.results.toList K
def slices_rotateCmpFunc_api_Point_K1  (K : Value → Hp → Prop) : Exit → Env → Hp → Prop := thenE (fun env h => sx_1 Try.prog F 58 (cp [1, 1, 1] (bodyOf Try.f96)) (ap [1, 1, 1] slices_rotateCmpFunc_api_Point_an) (rs [0, 2, 4, 10] env) h (slices_rotateCmpFunc_api_Point_K0  K)) (slices_rotateCmpFunc_api_Point_K0  K)
def slices_rotateCmpFunc_api_Point_K2  (K : Value → Hp → Prop) : Exit → Env → Hp → Prop := blockE 0 (slices_rotateCmpFunc_api_Point_K1  K)
def slices_rotateCmpFunc_api_Point_K3 (nx0 : Int × Int × Unit → Hp → Prop) (K : Value → Hp → Prop) : Exit → Env → Hp → Prop := thenE (fun env h => getV [(10, .int .i64), (11, .int .i64)] env fun s => nx0 s h) (slices_rotateCmpFunc_api_Point_K2  K)
def slices_rotateCmpFunc_api_Point_b0 (data : Option Addr) (dataL : Nat) (dataC : Nat) (a : Int) (m : Int) (b : Int) (cmp : Value) (h : Hp)  (K : Value → Hp → Prop) : Prop :=
  sx_2 Try.prog F 58 (cp [] (bodyOf Try.f96)) (ap [] slices_rotateCmpFunc_api_Point_an) [(0, .slice data dataL dataC), (1, .int .i64 a), (2, .int .i64 m), (3, .int .i64 b), (4, cmp)] h (slices_rotateCmpFunc_api_Point_K0  K)
def slices_rotateCmpFunc_api_Point_b1 (i : Int) (j : Int) (data : Option Addr) (dataL : Nat) (dataC : Nat) (m : Int) (cmp : Value) (h : Hp) (nx0 : Int × Int × Unit → Hp → Prop) (K : Value → Hp → Prop) : Prop :=
  sx_1 Try.prog F 58 (cp [1, 1, 0, 2, 2] (bodyOf Try.f96)) (ap [1, 1, 0, 2] slices_rotateCmpFunc_api_Point_an) [(10, .int .i64 i), (11, .int .i64 j), (0, .slice data dataL dataC), (2, .int .i64 m), (4, cmp)] h (slices_rotateCmpFunc_api_Point_K3 nx0 K)
def slices_rotateCmpFunc_api_Point_b2 (data : Option Addr) (dataL : Nat) (dataC : Nat) (m : Int) (cmp : Value) (i : Int) (h : Hp)  (K : Value → Hp → Prop) : Prop :=
  sx_1 Try.prog F 58 (cp [1, 1, 1] (bodyOf Try.f96)) (ap [1, 1, 1] slices_rotateCmpFunc_api_Point_an) [(0, .slice data dataL dataC), (2, .int .i64 m), (4, cmp), (10, .int .i64 i)] h (slices_rotateCmpFunc_api_Point_K0  K)
theorem slices_rotateCmpFunc_api_Point_b0_eq (data : Option Addr) (dataL : Nat) (dataC : Nat) (a : Int) (m : Int) (b : Int) (cmp : Value) (h : Hp)  (K : Value → Hp → Prop) : slices_rotateCmpFunc_api_Point_b0 data dataL dataC a m b cmp h  K = (
  InR (m - a) ∧
  InR (b - m) ∧
  LoopVC ((m - a, b - m, ()) : Int × Int × Unit) h (fun (nx0 : Int × Int × Unit → Hp → Prop) (s1 : Int × Int × Unit) h1 => slices_rotateCmpFunc_api_Point_b1 s1.1 s1.2.1 data dataL dataC m cmp h1 nx0 K)) := by kernel_rfl
theorem slices_rotateCmpFunc_api_Point_b1_eq (i : Int) (j : Int) (data : Option Addr) (dataL : Nat) (dataC : Nat) (m : Int) (cmp : Value) (h : Hp) (nx0 : Int × Int × Unit → Hp → Prop) (K : Value → Hp → Prop) : slices_rotateCmpFunc_api_Point_b1 i j data dataL dataC m cmp h nx0 K = (
  cond (!decide (i = j))
  (cond (decide (j < i))
  (InR (m - i) ∧
  HCalls Try.prog 97 #[.slice data dataL dataC, .int .i64 (m - i), .int .i64 m, .int .i64 j, cmp] h fun v1 h2 => v1 = .tuple #[] ∧
  InR (i - j) ∧
  nx0 (i - j, j, ()) h2)
  (InR (m - i) ∧
  InR (m + j) ∧
  InR ((m + j) - i) ∧
  HCalls Try.prog 97 #[.slice data dataL dataC, .int .i64 (m - i), .int .i64 ((m + j) - i), .int .i64 i, cmp] h fun v2 h3 => v2 = .tuple #[] ∧
  InR (j - i) ∧
  nx0 (i, j - i, ()) h3))
  (slices_rotateCmpFunc_api_Point_b2 data dataL dataC m cmp i h  K)) := by kernel_rfl
theorem slices_rotateCmpFunc_api_Point_b2_eq (data : Option Addr) (dataL : Nat) (dataC : Nat) (m : Int) (cmp : Value) (i : Int) (h : Hp)  (K : Value → Hp → Prop) : slices_rotateCmpFunc_api_Point_b2 data dataL dataC m cmp i h  K = (
  InR (m - i) ∧
  HCalls Try.prog 97 #[.slice data dataL dataC, .int .i64 (m - i), .int .i64 m, .int .i64 i, cmp] h fun v3 h4 => v3 = .tuple #[] ∧
  K (.tuple #[]) h4) := by kernel_rfl
theorem slices_rotateCmpFunc_api_Point_call {data : Option Addr} {dataL : Nat} {dataC : Nat} {a : Int} {m : Int} {b : Int} {cmp : Value} {h : Hp} {K : Value → Hp → Prop} (hk : slices_rotateCmpFunc_api_Point_b0 data dataL dataC a m b cmp h K) : HCalls Try.prog 96 #[.slice data dataL dataC, .int .i64 a, .int .i64 m, .int .i64 b, cmp] h K :=
  calls_of_snd slices_rotateCmpFunc_api_Point_an Try.func96 (c := bodyOf Try.f96) rfl Try.ntmps96 (Nat.le_of_ble_eq_true rfl) (snd_2 F_ok F_mixed) hk

/-! ### slices_swapRangeCmpFunc_api_Point -/
def slices_swapRangeCmpFunc_api_Point_an : Ann := .node none (.leaf) (.loop [0, 1, 2, 3] [(10, .int .i64)] (.node none (.leaf) (.node (some [0, 1, 2, 3, 10]) (.plan (.qu 0 (.qu 1 (.qu 2 (.qu 3 (.qu 4 (.qu 5 (.qu 6 (.qu 7 (.qu 8 (.qu 9 (.qu 10 (.qu 11 (.qu 12 (.qu 13 (.qu 14 (.qu 15 (.qu 16 (.qu 17 (.qu 18 (.qu 19 (.qu 20 (.wo 21 (.qu 22 (.wo 23 .fin .no)) .no))))))))))))))))))))))) (.leaf))))
def slices_swapRangeCmpFunc_api_Point_K0  (K : Value → Hp → Prop) : Exit → Env → Hp → Prop := retK Try.prog Try.f97.results.toList K
def slices_swapRangeCmpFunc_api_Point_K1  (K : Value → Hp → Prop) : Exit → Env → Hp → Prop := blockE 0 (slices_swapRangeCmpFunc_api_Point_K0  K)
def slices_swapRangeCmpFunc_api_Point_K2 (nx0 : Int × Unit → Hp → Prop) (K : Value → Hp → Prop) : Exit → Env → Hp → Prop := thenE (fun env h => getV [(10, .int .i64)] env fun s => nx0 s h) (slices_swapRangeCmpFunc_api_Point_K1  K)
def slices_swapRangeCmpFunc_api_Point_b0 (data : Option Addr) (dataL : Nat) (dataC : Nat) (a : Int) (b : Int) (nv : Int) (cmp : Value) (h : Hp)  (K : Value → Hp → Prop) : Prop :=
  sx_3 Try.prog F 38 (cp [] (bodyOf Try.f97)) (ap [] slices_swapRangeCmpFunc_api_Point_an) [(0, .slice data dataL dataC), (1, .int .i64 a), (2, .int .i64 b), (3, .int .i64 nv), (4, cmp)] h (slices_swapRangeCmpFunc_api_Point_K0  K)
def slices_swapRangeCmpFunc_api_Point_b1 (i : Int) (data : Option Addr) (dataL : Nat) (dataC : Nat) (a : Int) (b : Int) (nv : Int) (h : Hp) (nx0 : Int × Unit → Hp → Prop) (K : Value → Hp → Prop) : Prop :=
  sx_2 Try.prog F 38 (cp [1, 2, 2] (bodyOf Try.f97)) (ap [1, 2] slices_swapRangeCmpFunc_api_Point_an) [(10, .int .i64 i), (0, .slice data dataL dataC), (1, .int .i64 a), (2, .int .i64 b), (3, .int .i64 nv)] h (slices_swapRangeCmpFunc_api_Point_K2 nx0 K)
def slices_swapRangeCmpFunc_api_Point_b2 (data : Option Addr) (dataL : Nat) (dataC : Nat) (a : Int) (b : Int) (nv : Int) (i : Int) (h : Hp) (nx0 : Int × Unit → Hp → Prop) (K : Value → Hp → Prop) : Prop :=
  sx_1 Try.prog F 38 (cp [1, 2, 2, 1, 1] (bodyOf Try.f97)) (ap [1, 2, 1, 1] slices_swapRangeCmpFunc_api_Point_an) [(0, .slice data dataL dataC), (1, .int .i64 a), (2, .int .i64 b), (3, .int .i64 nv), (10, .int .i64 i)] h (slices_swapRangeCmpFunc_api_Point_K2 nx0 K)
theorem slices_swapRangeCmpFunc_api_Point_b0_eq (data : Option Addr) (dataL : Nat) (dataC : Nat) (a : Int) (b : Int) (nv : Int) (cmp : Value) (h : Hp)  (K : Value → Hp → Prop) : slices_swapRangeCmpFunc_api_Point_b0 data dataL dataC a b nv cmp h  K = (
  LoopVC ((0, ()) : Int × Unit) h (fun (nx0 : Int × Unit → Hp → Prop) (s1 : Int × Unit) h1 => slices_swapRangeCmpFunc_api_Point_b1 s1.1 data dataL dataC a b nv h1 nx0 K)) := by kernel_rfl
theorem slices_swapRangeCmpFunc_api_Point_b1_eq (i : Int) (data : Option Addr) (dataL : Nat) (dataC : Nat) (a : Int) (b : Int) (nv : Int) (h : Hp) (nx0 : Int × Unit → Hp → Prop) (K : Value → Hp → Prop) : slices_swapRangeCmpFunc_api_Point_b1 i data dataL dataC a b nv h nx0 K = (
  cond (decide (i < nv))
  (InR (a + i) ∧
  InR (b + i) ∧
  InR (b + i) ∧
  (0 ≤ b + i ∧ b + i < (dataL : Int)) ∧
  NN data fun a1 =>
  ∃ n1 : Int, ∃ n2 : Int, ∃ n3 : Int, cell h (a1.add (Int.toNat (b + i) * 3)) = some (.int .i64 n1) ∧
  cell h ((a1.add (Int.toNat (b + i) * 3)).add 1) = some (.int .i64 n2) ∧
  cell h ((a1.add (Int.toNat (b + i) * 3)).add 2) = some (.int .i64 n3) ∧
  InR (a + i) ∧
  (0 ≤ a + i ∧ a + i < (dataL : Int)) ∧
  NN data fun a2 =>
  ∃ n4 : Int, ∃ n5 : Int, ∃ n6 : Int, cell h (a2.add (Int.toNat (a + i) * 3)) = some (.int .i64 n4) ∧
  cell h ((a2.add (Int.toNat (a + i) * 3)).add 1) = some (.int .i64 n5) ∧
  cell h ((a2.add (Int.toNat (a + i) * 3)).add 2) = some (.int .i64 n6) ∧
  (0 ≤ a + i ∧ a + i < (dataL : Int)) ∧
  NN data fun a3 =>
  Wr h (a3.add (Int.toNat (a + i) * 3)) (.int .i64 n1) fun h2 =>
  Wr h2 ((a3.add (Int.toNat (a + i) * 3)).add 1) (.int .i64 n2) fun h3 =>
  Wr h3 ((a3.add (Int.toNat (a + i) * 3)).add 2) (.int .i64 n3) fun h4 =>
  (0 ≤ b + i ∧ b + i < (dataL : Int)) ∧
  NN data fun a4 =>
  Wr h4 (a4.add (Int.toNat (b + i) * 3)) (.int .i64 n4) fun h5 =>
  Wr h5 ((a4.add (Int.toNat (b + i) * 3)).add 1) (.int .i64 n5) fun h6 =>
  Wr h6 ((a4.add (Int.toNat (b + i) * 3)).add 2) (.int .i64 n6) fun h7 =>
  slices_swapRangeCmpFunc_api_Point_b2 data dataL dataC a b nv i h7 nx0 K)
  (K (.tuple #[]) h)) := by kernel_rfl
theorem slices_swapRangeCmpFunc_api_Point_b2_eq (data : Option Addr) (dataL : Nat) (dataC : Nat) (a : Int) (b : Int) (nv : Int) (i : Int) (h : Hp) (nx0 : Int × Unit → Hp → Prop) (K : Value → Hp → Prop) : slices_swapRangeCmpFunc_api_Point_b2 data dataL dataC a b nv i h nx0 K = (
  InR (i + 1) ∧
  nx0 (i + 1, ()) h) := by kernel_rfl
theorem slices_swapRangeCmpFunc_api_Point_call {data : Option Addr} {dataL : Nat} {dataC : Nat} {a : Int} {b : Int} {nv : Int} {cmp : Value} {h : Hp} {K : Value → Hp → Prop} (hk : slices_swapRangeCmpFunc_api_Point_b0 data dataL dataC a b nv cmp h K) : HCalls Try.prog 97 #[.slice data dataL dataC, .int .i64 a, .int .i64 b, .int .i64 nv, cmp] h K :=
  calls_of_snd slices_swapRangeCmpFunc_api_Point_an Try.func97 (c := bodyOf Try.f97) rfl Try.ntmps97 (Nat.le_of_ble_eq_true rfl) (snd_3 F_ok F_mixed) hk

end Go.Proofs.Ytbfejfejahoblaa
