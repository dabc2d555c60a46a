/- Plain statements of what each block of code of this seat asks; printed by a program, checked by Lean. -/
import Derived.Test.YtfkccighnkepgaaGreatSxV0
set_option maxRecDepth 10000
namespace Go.Proofs.YtfkccighnkepgaaGreat
open Go Go.Sx

/-! ### slices_pdqsortOrdered_int -/
def slices_pdqsortOrdered_int_an : Ann := .node none (.leaf) (.node none (.leaf) (.loop [0] [(1, .int .i64), (2, .int .i64), (3, .int .i64), (8, .bool), (9, .bool)] (.node none (.leaf) (.node none (.leaf) (.node none (.leaf) (.node (some [0, 1, 2, 3, 8, 9, 10]) (.leaf) (.node none (.leaf) (.node (some [0, 1, 2, 3, 8, 9, 10, 11, 12]) (.leaf) (.node (some [0, 1, 2, 3, 8, 9, 10, 11]) (.leaf) (.node (some [0, 1, 2, 3, 10, 11]) (.leaf) (.leaf)))))))))))
def slices_pdqsortOrdered_int_K0  (K : Value → Hp → Prop) : Exit → Env → Hp → Prop := retK Tryz.prog Tryz.f66.results.toList K
def slices_pdqsortOrdered_int_K1  (K : Value → Hp → Prop) : Exit → Env → Hp → Prop := blockE 0 (slices_pdqsortOrdered_int_K0  K)
def slices_pdqsortOrdered_int_K2 (nx0 : Int × Int × Int × Bool × Bool × Unit → Hp → Prop) (K : Value → Hp → Prop) : Exit → Env → Hp → Prop := thenE (fun env h => getV [(1, .int .i64), (2, .int .i64), (3, .int .i64), (8, .bool), (9, .bool)] env fun s => nx0 s h) (slices_pdqsortOrdered_int_K1  K)
def slices_pdqsortOrdered_int_K3 (nx0 : Int × Int × Int × Bool × Bool × Unit → Hp → Prop) (K : Value → Hp → Prop) : Exit → Env → Hp → Prop := blockE 1 (slices_pdqsortOrdered_int_K2 nx0 K)
def slices_pdqsortOrdered_int_b0 (data : Option Addr) (dataL : Nat) (dataC : Nat) (a : Int) (b : Int) (limit : Int) (h : Hp)  (K : Value → Hp → Prop) : Prop :=
  sx_6 Tryz.prog F 134 (cp [] (bodyOf Tryz.f66)) (ap [] slices_pdqsortOrdered_int_an) [(0, .slice data dataL dataC), (1, .int .i64 a), (2, .int .i64 b), (3, .int .i64 limit)] h (slices_pdqsortOrdered_int_K0  K)
def slices_pdqsortOrdered_int_b1 (a : Int) (b : Int) (limit : Int) (wasBalanced : Bool) (wasPartitioned : Bool) (data : Option Addr) (dataL : Nat) (dataC : Nat) (h : Hp) (nx0 : Int × Int × Int × Bool × Bool × Unit → Hp → Prop) (K : Value → Hp → Prop) : Prop :=
  sx_5 Tryz.prog F 134 (cp [1, 1, 2, 2] (bodyOf Tryz.f66)) (ap [1, 1, 2] slices_pdqsortOrdered_int_an) [(1, .int .i64 a), (2, .int .i64 b), (3, .int .i64 limit), (8, .bool wasBalanced), (9, .bool wasPartitioned), (0, .slice data dataL dataC)] h (slices_pdqsortOrdered_int_K2 nx0 K)
def slices_pdqsortOrdered_int_b2 (data : Option Addr) (dataL : Nat) (dataC : Nat) (a : Int) (b : Int) (limit : Int) (wasBalanced : Bool) (wasPartitioned : Bool) (length : Int) (h : Hp) (nx0 : Int × Int × Int × Bool × Bool × Unit → Hp → Prop) (K : Value → Hp → Prop) : Prop :=
  sx_4 Tryz.prog F 134 (cp [1, 1, 2, 2, 2, 1, 1, 1, 1] (bodyOf Tryz.f66)) (ap [1, 1, 2, 1, 1, 1, 1] slices_pdqsortOrdered_int_an) [(0, .slice data dataL dataC), (1, .int .i64 a), (2, .int .i64 b), (3, .int .i64 limit), (8, .bool wasBalanced), (9, .bool wasPartitioned), (10, .int .i64 length)] h (slices_pdqsortOrdered_int_K3 nx0 K)
def slices_pdqsortOrdered_int_b3 (data : Option Addr) (dataL : Nat) (dataC : Nat) (a : Int) (b : Int) (limit : Int) (wasBalanced : Bool) (wasPartitioned : Bool) (length : Int) (pivot : Int) (hint : Int) (h : Hp) (nx0 : Int × Int × Int × Bool × Bool × Unit → Hp → Prop) (K : Value → Hp → Prop) : Prop :=
  sx_3 Tryz.prog F 134 (cp [1, 1, 2, 2, 2, 1, 1, 1, 1, 1, 1] (bodyOf Tryz.f66)) (ap [1, 1, 2, 1, 1, 1, 1, 1, 1] slices_pdqsortOrdered_int_an) [(0, .slice data dataL dataC), (1, .int .i64 a), (2, .int .i64 b), (3, .int .i64 limit), (8, .bool wasBalanced), (9, .bool wasPartitioned), (10, .int .i64 length), (11, .int .i64 pivot), (12, .int .i64 hint)] h (slices_pdqsortOrdered_int_K3 nx0 K)
def slices_pdqsortOrdered_int_b4 (data : Option Addr) (dataL : Nat) (dataC : Nat) (a : Int) (b : Int) (limit : Int) (wasBalanced : Bool) (wasPartitioned : Bool) (length : Int) (pivot : Int) (h : Hp) (nx0 : Int × Int × Int × Bool × Bool × Unit → Hp → Prop) (K : Value → Hp → Prop) : Prop :=
  sx_2 Tryz.prog F 134 (cp [1, 1, 2, 2, 2, 1, 1, 1, 1, 1, 1, 1] (bodyOf Tryz.f66)) (ap [1, 1, 2, 1, 1, 1, 1, 1, 1, 1] slices_pdqsortOrdered_int_an) [(0, .slice data dataL dataC), (1, .int .i64 a), (2, .int .i64 b), (3, .int .i64 limit), (8, .bool wasBalanced), (9, .bool wasPartitioned), (10, .int .i64 length), (11, .int .i64 pivot)] h (slices_pdqsortOrdered_int_K3 nx0 K)
def slices_pdqsortOrdered_int_b5 (data : Option Addr) (dataL : Nat) (dataC : Nat) (a : Int) (b : Int) (limit : Int) (length : Int) (pivot : Int) (h : Hp) (nx0 : Int × Int × Int × Bool × Bool × Unit → Hp → Prop) (K : Value → Hp → Prop) : Prop :=
  sx_1 Tryz.prog F 134 (cp [1, 1, 2, 2, 2, 1, 1, 1, 1, 1, 1, 1, 1] (bodyOf Tryz.f66)) (ap [1, 1, 2, 1, 1, 1, 1, 1, 1, 1, 1] slices_pdqsortOrdered_int_an) [(0, .slice data dataL dataC), (1, .int .i64 a), (2, .int .i64 b), (3, .int .i64 limit), (10, .int .i64 length), (11, .int .i64 pivot)] h (slices_pdqsortOrdered_int_K3 nx0 K)
theorem slices_pdqsortOrdered_int_b0_eq (data : Option Addr) (dataL : Nat) (dataC : Nat) (a : Int) (b : Int) (limit : Int) (h : Hp)  (K : Value → Hp → Prop) : slices_pdqsortOrdered_int_b0 data dataL dataC a b limit h  K = (
  LoopVC ((a, b, limit, true, true, ()) : Int × Int × Int × Bool × Bool × Unit) h (fun (nx0 : Int × Int × Int × Bool × Bool × Unit → Hp → Prop) (s1 : Int × Int × Int × Bool × Bool × Unit) h1 => slices_pdqsortOrdered_int_b1 s1.1 s1.2.1 s1.2.2.1 s1.2.2.2.1 s1.2.2.2.2.1 data dataL dataC h1 nx0 K)) := by kernel_rfl
theorem slices_pdqsortOrdered_int_b1_eq (a : Int) (b : Int) (limit : Int) (wasBalanced : Bool) (wasPartitioned : Bool) (data : Option Addr) (dataL : Nat) (dataC : Nat) (h : Hp) (nx0 : Int × Int × Int × Bool × Bool × Unit → Hp → Prop) (K : Value → Hp → Prop) : slices_pdqsortOrdered_int_b1 a b limit wasBalanced wasPartitioned data dataL dataC h nx0 K = (
  InR (b - a) ∧
  cond (decide ((b - a) ≤ 12))
  (HCalls Tryz.prog 89 #[.slice data dataL dataC, .int .i64 a, .int .i64 b] h fun v1 h2 => v1 = .tuple #[] ∧
  K (.tuple #[]) h2)
  (cond (decide (limit = 0))
  (HCalls Tryz.prog 90 #[.slice data dataL dataC, .int .i64 a, .int .i64 b] h fun v2 h3 => v2 = .tuple #[] ∧
  K (.tuple #[]) h3)
  (cond (!wasBalanced)
  (HCalls Tryz.prog 91 #[.slice data dataL dataC, .int .i64 a, .int .i64 b] h fun v3 h4 => v3 = .tuple #[] ∧
  InR (limit - 1) ∧
  slices_pdqsortOrdered_int_b2 data dataL dataC a b (limit - 1) wasBalanced wasPartitioned (b - a) h4 nx0 K)
  (slices_pdqsortOrdered_int_b2 data dataL dataC a b limit wasBalanced wasPartitioned (b - a) h nx0 K)))) := by kernel_rfl
theorem slices_pdqsortOrdered_int_b2_eq (data : Option Addr) (dataL : Nat) (dataC : Nat) (a : Int) (b : Int) (limit : Int) (wasBalanced : Bool) (wasPartitioned : Bool) (length : Int) (h : Hp) (nx0 : Int × Int × Int × Bool × Bool × Unit → Hp → Prop) (K : Value → Hp → Prop) : slices_pdqsortOrdered_int_b2 data dataL dataC a b limit wasBalanced wasPartitioned length h nx0 K = (
  HCalls Tryz.prog 92 #[.slice data dataL dataC, .int .i64 a, .int .i64 b] h fun v4 h5 => ∃ r1 : Int, ∃ r2 : Int, v4 = .tuple #[.int .i64 r1, .int .i64 r2] ∧
  cond (decide (r2 = 2))
  (HCalls Tryz.prog 93 #[.slice data dataL dataC, .int .i64 a, .int .i64 b] h5 fun v5 h6 => v5 = .tuple #[] ∧
  InR (b - 1) ∧
  InR (r1 - a) ∧
  InR ((b - 1) - (r1 - a)) ∧
  slices_pdqsortOrdered_int_b3 data dataL dataC a b limit wasBalanced wasPartitioned length ((b - 1) - (r1 - a)) 1 h6 nx0 K)
  (slices_pdqsortOrdered_int_b3 data dataL dataC a b limit wasBalanced wasPartitioned length r1 r2 h5 nx0 K)) := by kernel_rfl
theorem slices_pdqsortOrdered_int_b3_eq (data : Option Addr) (dataL : Nat) (dataC : Nat) (a : Int) (b : Int) (limit : Int) (wasBalanced : Bool) (wasPartitioned : Bool) (length : Int) (pivot : Int) (hint : Int) (h : Hp) (nx0 : Int × Int × Int × Bool × Bool × Unit → Hp → Prop) (K : Value → Hp → Prop) : slices_pdqsortOrdered_int_b3 data dataL dataC a b limit wasBalanced wasPartitioned length pivot hint h nx0 K = (
  cond wasBalanced
  (cond wasPartitioned
  (cond (decide (hint = 1))
  (HCalls Tryz.prog 94 #[.slice data dataL dataC, .int .i64 a, .int .i64 b] h fun v6 h7 => ∃ r3 : Bool, v6 = .bool r3 ∧
  cond r3
  (K (.tuple #[]) h7)
  (slices_pdqsortOrdered_int_b4 data dataL dataC a b limit wasBalanced wasPartitioned length pivot h7 nx0 K))
  (slices_pdqsortOrdered_int_b4 data dataL dataC a b limit wasBalanced wasPartitioned length pivot h nx0 K))
  (slices_pdqsortOrdered_int_b4 data dataL dataC a b limit wasBalanced wasPartitioned length pivot h nx0 K))
  (slices_pdqsortOrdered_int_b4 data dataL dataC a b limit wasBalanced wasPartitioned length pivot h nx0 K)) := by kernel_rfl
theorem slices_pdqsortOrdered_int_b4_eq (data : Option Addr) (dataL : Nat) (dataC : Nat) (a : Int) (b : Int) (limit : Int) (wasBalanced : Bool) (wasPartitioned : Bool) (length : Int) (pivot : Int) (h : Hp) (nx0 : Int × Int × Int × Bool × Bool × Unit → Hp → Prop) (K : Value → Hp → Prop) : slices_pdqsortOrdered_int_b4 data dataL dataC a b limit wasBalanced wasPartitioned length pivot h nx0 K = (
  cond (decide ((0 : Int) < a))
  (InR (a - 1) ∧
  (0 ≤ a - 1 ∧ a - 1 < (dataL : Int)) ∧
  NN data fun a1 =>
  ∃ n1 : Int, cell h (a1.add (Int.toNat (a - 1) * 1)) = some (.int .i64 n1) ∧
  (0 ≤ pivot ∧ pivot < (dataL : Int)) ∧
  NN data fun a2 =>
  ∃ n2 : Int, cell h (a2.add (Int.toNat pivot * 1)) = some (.int .i64 n2) ∧
  ∃ r4 : Bool, HCalls Tryz.prog 95 #[.int .i64 n1, .int .i64 n2] h (fun v7 h8 => v7 = .bool r4 ∧ h8 = h) ∧
  cond (!r4)
  (HCalls Tryz.prog 96 #[.slice data dataL dataC, .int .i64 a, .int .i64 b, .int .i64 pivot] h fun v8 h9 => ∃ r5 : Int, v8 = .int .i64 r5 ∧
  nx0 (r5, b, limit, wasBalanced, wasPartitioned, ()) h9)
  (slices_pdqsortOrdered_int_b5 data dataL dataC a b limit length pivot h nx0 K))
  (slices_pdqsortOrdered_int_b5 data dataL dataC a b limit length pivot h nx0 K)) := by kernel_rfl
theorem slices_pdqsortOrdered_int_b5_eq (data : Option Addr) (dataL : Nat) (dataC : Nat) (a : Int) (b : Int) (limit : Int) (length : Int) (pivot : Int) (h : Hp) (nx0 : Int × Int × Int × Bool × Bool × Unit → Hp → Prop) (K : Value → Hp → Prop) : slices_pdqsortOrdered_int_b5 data dataL dataC a b limit length pivot h nx0 K = (
  HCalls Tryz.prog 97 #[.slice data dataL dataC, .int .i64 a, .int .i64 b, .int .i64 pivot] h fun v9 h10 => ∃ r6 : Int, ∃ r7 : Bool, v9 = .tuple #[.int .i64 r6, .bool r7] ∧
  InR (r6 - a) ∧
  InR (b - r6) ∧
  ∃ q1 : Int, Sx.Quo .i64 length 8 q1 ∧
  cond (decide ((r6 - a) < (b - r6)))
  (HCalls Tryz.prog 66 #[.slice data dataL dataC, .int .i64 a, .int .i64 r6, .int .i64 limit] h10 fun v10 h11 => v10 = .tuple #[] ∧
  InR (r6 + 1) ∧
  nx0 (r6 + 1, b, limit, decide (q1 ≤ (r6 - a)), r7, ()) h11)
  (InR (r6 + 1) ∧
  HCalls Tryz.prog 66 #[.slice data dataL dataC, .int .i64 (r6 + 1), .int .i64 b, .int .i64 limit] h10 fun v11 h12 => v11 = .tuple #[] ∧
  nx0 (a, r6, limit, decide (q1 ≤ (b - r6)), r7, ()) h12)) := by kernel_rfl
theorem slices_pdqsortOrdered_int_call {data : Option Addr} {dataL : Nat} {dataC : Nat} {a : Int} {b : Int} {limit : Int} {h : Hp} {K : Value → Hp → Prop} (hk : slices_pdqsortOrdered_int_b0 data dataL dataC a b limit h K) : HCalls Tryz.prog 66 #[.slice data dataL dataC, .int .i64 a, .int .i64 b, .int .i64 limit] h K :=
  calls_of_snd slices_pdqsortOrdered_int_an Tryz.func66 (c := bodyOf Tryz.f66) rfl Tryz.ntmps66 (Nat.le_of_ble_eq_true rfl) (snd_6 F_ok F_mixed) hk

/-! ### slices_AppendSeq_Sint_int -/
/-! ### table_outside -/
def table_outside_an : Ann := .leaf
def table_outside_K0  (K : Value → Hp → Prop) : Exit → Env → Hp → Prop := retK Tryz.prog Tryz.f69.results.toList K
def table_outside_b0 (nv : Int) (h : Hp)  (K : Value → Hp → Prop) : Prop :=
  sx_1 Tryz.prog F 9 (cp [] (bodyOf Tryz.f69)) (ap [] table_outside_an) [(0, .int .i64 nv)] h (table_outside_K0  K)
theorem table_outside_b0_eq (nv : Int) (h : Hp)  (K : Value → Hp → Prop) : table_outside_b0 nv h  K = (
  cond (decide (nv < (-1048576)))
  (K (.bool true) h)
  (K (.bool (decide ((1048576 : Int) < nv))) h)) := by kernel_rfl
theorem table_outside_call {nv : Int} {h : Hp} {K : Value → Hp → Prop} (hk : table_outside_b0 nv h K) : HCalls Tryz.prog 69 #[.int .i64 nv] h K :=
  calls_of_snd table_outside_an Tryz.func69 (c := bodyOf Tryz.f69) rfl Tryz.ntmps69 (Nat.le_of_ble_eq_true rfl) (snd_1 F_ok F_mixed) hk

/-! ### slices_Index_Sint_int -/
def slices_Index_Sint_int_an : Ann := .node none (.leaf) (.node (some []) (.node none (.leaf) (.loop [0, 1, 7] [(8, .int .i64)] (.node none (.leaf) (.node none (.leaf) (.node (some [0, 1, 7, 8]) (.leaf) (.leaf)))))) (.leaf))
def slices_Index_Sint_int_K0  (K : Value → Hp → Prop) : Exit → Env → Hp → Prop := retK Tryz.prog Tryz.f70.results.toList K
def slices_Index_Sint_int_K1  (K : Value → Hp → Prop) : Exit → Env → Hp → Prop := thenE (fun env h => sx_2 Tryz.prog F 19 (cp [1, 1] (bodyOf Tryz.f70)) (ap [1, 1] slices_Index_Sint_int_an) (rs [] env) h (slices_Index_Sint_int_K0  K)) (slices_Index_Sint_int_K0  K)
def slices_Index_Sint_int_K2  (K : Value → Hp → Prop) : Exit → Env → Hp → Prop := blockE 0 (slices_Index_Sint_int_K1  K)
def slices_Index_Sint_int_K3 (nx0 : Int × Unit → Hp → Prop) (K : Value → Hp → Prop) : Exit → Env → Hp → Prop := thenE (fun env h => getV [(8, .int .i64)] env fun s => nx0 s h) (slices_Index_Sint_int_K2  K)
def slices_Index_Sint_int_b0 (s : Option Addr) (sL : Nat) (sC : Nat) (v : Int) (h : Hp)  (K : Value → Hp → Prop) : Prop :=
  sx_3 Tryz.prog F 19 (cp [] (bodyOf Tryz.f70)) (ap [] slices_Index_Sint_int_an) [(0, .slice s sL sC), (1, .int .i64 v)] h (slices_Index_Sint_int_K0  K)
def slices_Index_Sint_int_b1 (t8 : Int) (s : Option Addr) (sL : Nat) (sC : Nat) (v : Int) (t7 : Int) (h : Hp) (nx0 : Int × Unit → Hp → Prop) (K : Value → Hp → Prop) : Prop :=
  sx_2 Tryz.prog F 19 (cp [1, 0, 1, 2, 2] (bodyOf Tryz.f70)) (ap [1, 0, 1, 2] slices_Index_Sint_int_an) [(8, .int .i64 t8), (0, .slice s sL sC), (1, .int .i64 v), (7, .int .i64 t7)] h (slices_Index_Sint_int_K3 nx0 K)
def slices_Index_Sint_int_b2 (s : Option Addr) (sL : Nat) (sC : Nat) (v : Int) (t7 : Int) (t8 : Int) (h : Hp) (nx0 : Int × Unit → Hp → Prop) (K : Value → Hp → Prop) : Prop :=
  sx_1 Tryz.prog F 19 (cp [1, 0, 1, 2, 2, 1, 1, 1] (bodyOf Tryz.f70)) (ap [1, 0, 1, 2, 1, 1, 1] slices_Index_Sint_int_an) [(0, .slice s sL sC), (1, .int .i64 v), (7, .int .i64 t7), (8, .int .i64 t8)] h (slices_Index_Sint_int_K3 nx0 K)
def slices_Index_Sint_int_b3  (h : Hp)  (K : Value → Hp → Prop) : Prop :=
  sx_2 Tryz.prog F 19 (cp [1, 1] (bodyOf Tryz.f70)) (ap [1, 1] slices_Index_Sint_int_an) [] h (slices_Index_Sint_int_K0  K)
theorem slices_Index_Sint_int_b0_eq (s : Option Addr) (sL : Nat) (sC : Nat) (v : Int) (h : Hp)  (K : Value → Hp → Prop) : slices_Index_Sint_int_b0 s sL sC v h  K = (
  LoopVC ((0, ()) : Int × Unit) h (fun (nx0 : Int × Unit → Hp → Prop) (s1 : Int × Unit) h1 => slices_Index_Sint_int_b1 s1.1 s sL sC v (sL : Int) h1 nx0 K)) := by kernel_rfl
theorem slices_Index_Sint_int_b1_eq (t8 : Int) (s : Option Addr) (sL : Nat) (sC : Nat) (v : Int) (t7 : Int) (h : Hp) (nx0 : Int × Unit → Hp → Prop) (K : Value → Hp → Prop) : slices_Index_Sint_int_b1 t8 s sL sC v t7 h nx0 K = (
  cond (decide (t8 < t7))
  ((0 ≤ t8 ∧ t8 < (sL : Int)) ∧
  NN s fun a1 =>
  ∃ n1 : Int, cell h (a1.add (Int.toNat t8 * 1)) = some (.int .i64 n1) ∧
  cond (decide (v = n1))
  (K (.int .i64 t8) h)
  (slices_Index_Sint_int_b2 s sL sC v t7 t8 h nx0 K))
  (slices_Index_Sint_int_b3  h  K)) := by kernel_rfl
theorem slices_Index_Sint_int_b2_eq (s : Option Addr) (sL : Nat) (sC : Nat) (v : Int) (t7 : Int) (t8 : Int) (h : Hp) (nx0 : Int × Unit → Hp → Prop) (K : Value → Hp → Prop) : slices_Index_Sint_int_b2 s sL sC v t7 t8 h nx0 K = (
  InR (t8 + 1) ∧
  nx0 (t8 + 1, ()) h) := by kernel_rfl
theorem slices_Index_Sint_int_b3_eq  (h : Hp)  (K : Value → Hp → Prop) : slices_Index_Sint_int_b3  h  K = (
  K (.int .i64 (-1)) h) := by kernel_rfl
theorem slices_Index_Sint_int_call {s : Option Addr} {sL : Nat} {sC : Nat} {v : Int} {h : Hp} {K : Value → Hp → Prop} (hk : slices_Index_Sint_int_b0 s sL sC v h K) : HCalls Tryz.prog 70 #[.slice s sL sC, .int .i64 v] h K :=
  calls_of_snd slices_Index_Sint_int_an Tryz.func70 (c := bodyOf Tryz.f70) rfl Tryz.ntmps70 (Nat.le_of_ble_eq_true rfl) (snd_3 F_ok F_mixed) hk

/-! ### slices_Delete_Sint_int -/
def slices_Delete_Sint_int_an : Ann := .node none (.leaf) (.node none (.leaf) (.node none (.leaf) (.node none (.leaf) (.node none (.tail 6) (.leaf)))))
def slices_Delete_Sint_int_K0  (K : Value → Hp → Prop) : Exit → Env → Hp → Prop := retK Tryz.prog Tryz.f71.results.toList K
def slices_Delete_Sint_int_b0 (s : Option Addr) (sL : Nat) (sC : Nat) (i : Int) (j : Int) (h : Hp)  (K : Value → Hp → Prop) : Prop :=
  sx_1 Tryz.prog F 33 (cp [] (bodyOf Tryz.f71)) (ap [] slices_Delete_Sint_int_an) [(0, .slice s sL sC), (1, .int .i64 i), (2, .int .i64 j)] h (slices_Delete_Sint_int_K0  K)
theorem slices_Delete_Sint_int_b0_eq (s : Option Addr) (sL : Nat) (sC : Nat) (i : Int) (j : Int) (h : Hp)  (K : Value → Hp → Prop) : slices_Delete_Sint_int_b0 s sL sC i j h  K = (
  ∃ (a1 : Option Addr) (l1 c1 : Nat), slC Tryz.prog 26 (.slice s sL sC) (some (.int .i64 i)) (some (.int .i64 j)) (.int .i64 (sL : Int)) h a1 l1 c1 ∧
  cond (decide (i = j))
  (K (.slice s sL sC) h)
  ((0 ≤ (0 : Int) ∧ (0 : Int) ≤ i ∧ i ≤ (sC : Int)) ∧
  (0 ≤ j ∧ j ≤ (sL : Int) ∧ (sL : Int) ≤ (sC : Int)) ∧
  appendV Tryz.prog 26 26 (.slice (subAddr s sC (Int.toNat (0 : Int)) 1) (Int.toNat i - Int.toNat (0 : Int)) (sC - Int.toNat (0 : Int))) (.slice (subAddr s sC (Int.toNat j) 1) (Int.toNat (sL : Int) - Int.toNat j) (sC - Int.toNat j)) h (slK fun a2 l2 c2 h1 =>
  (0 ≤ (l2 : Int) ∧ (l2 : Int) ≤ (sL : Int) ∧ (sL : Int) ≤ (c2 : Int)) ∧
  clearV Tryz.prog 26 (.slice (subAddr a2 c2 (Int.toNat (l2 : Int)) 1) (Int.toNat (sL : Int) - Int.toNat (l2 : Int)) (c2 - Int.toNat (l2 : Int))) h1 fun h2 =>
  K (.slice a2 l2 c2) h2))) := by kernel_rfl
theorem slices_Delete_Sint_int_call {s : Option Addr} {sL : Nat} {sC : Nat} {i : Int} {j : Int} {h : Hp} {K : Value → Hp → Prop} (hk : slices_Delete_Sint_int_b0 s sL sC i j h K) : HCalls Tryz.prog 71 #[.slice s sL sC, .int .i64 i, .int .i64 j] h K :=
  calls_of_snd slices_Delete_Sint_int_an Tryz.func71 (c := bodyOf Tryz.f71) rfl Tryz.ntmps71 (Nat.le_of_ble_eq_true rfl) (snd_1 F_ok F_mixed) hk

/-! ### table_Table_build_c1 -/
def table_Table_build_c1_an : Ann := .node none (.leaf) (.node none (.plan (.qu 0 (.qu 1 (.qu 2 (.qu 3 (.qu 4 (.qu 9 (.qu 10 (.qu 11 (.qu 12 (.qu 13 (.wo 5 (.qu 6 (.qu 7 (.qu 8 (.wo 14 (.qu 15 (.qu 16 (.qu 17 (.wo 18 (.wo 19 .fin .no) .no)))) .no)))) (.wo 14 (.qu 15 (.qu 16 (.qu 17 (.wo 5 (.qu 6 (.qu 7 (.qu 8 (.wo 18 (.wo 19 .fin .no) .no)))) .no)))) .no))))))))))))) (.leaf))
def table_Table_build_c1_K0  (K : Value → Hp → Prop) : Exit → Env → Hp → Prop := retK Tryz.prog Tryz.f72.results.toList K
def table_Table_build_c1_b0 (a : Int) (b : Int) (t2 : Option Addr) (h : Hp)  (K : Value → Hp → Prop) : Prop :=
  sx_1 Tryz.prog F 25 (cp [] (bodyOf Tryz.f72)) (ap [] table_Table_build_c1_an) [(0, .int .i64 a), (1, .int .i64 b), (2, .pointer t2)] h (table_Table_build_c1_K0  K)
theorem table_Table_build_c1_b0_eq (a : Int) (b : Int) (t2 : Option Addr) (h : Hp)  (K : Value → Hp → Prop) : table_Table_build_c1_b0 a b t2 h  K = (
  NN t2 fun a1 =>
  ∃ p1 : Option Addr, cell h a1 = some (.pointer p1) ∧
  NN p1 fun a2 =>
  ∃ v1 : Value, cell h a2 = some (v1) ∧
  NN t2 fun a3 =>
  ∃ p2 : Option Addr, cell h a3 = some (.pointer p2) ∧
  NN p2 fun a4 =>
  ∃ v2 : Value, cell h a4 = some (v2) ∧
  (lookV Tryz.prog 78 v1 (.int .i64 a) false h fun v3 => ∃ r1 : Option Addr, v3 = .pointer r1 ∧
  (∃ v4 : Value, cell h a4 = some (v4) ∧
  (v4 : Value) = v2) ∧
  (NN t2 fun a5 =>
  ∃ p3 : Option Addr, cell h a5 = some (.pointer p3) ∧
  (.pointer p3 : Value) = .pointer p2) ∧
  NN r1 fun a6 =>
  ∃ n1 : Int, cell h a6 = some (.int .i64 n1) ∧
  lookV Tryz.prog 78 v2 (.int .i64 b) false h fun v5 => ∃ r2 : Option Addr, v5 = .pointer r2 ∧
  (∃ n2 : Int, cell h a6 = some (.int .i64 n2) ∧
  (.int .i64 n2 : Value) = .int .i64 n1) ∧
  NN r2 fun a7 =>
  ∃ n3 : Int, cell h a7 = some (.int .i64 n3) ∧
  HCalls Tryz.prog 42 #[.int .i64 n1, .int .i64 n3] h fun v6 h1 => ∃ r3 : Int, v6 = .int .i64 r3 ∧
  K (.int .i64 r3) h1) ∧
  (lookV Tryz.prog 78 v2 (.int .i64 b) false h fun v7 => ∃ r4 : Option Addr, v7 = .pointer r4 ∧
  (∃ v8 : Value, cell h a2 = some (v8) ∧
  (v8 : Value) = v1) ∧
  (NN t2 fun a8 =>
  ∃ p4 : Option Addr, cell h a8 = some (.pointer p4) ∧
  (.pointer p4 : Value) = .pointer p1) ∧
  NN r4 fun a9 =>
  ∃ n4 : Int, cell h a9 = some (.int .i64 n4) ∧
  lookV Tryz.prog 78 v1 (.int .i64 a) false h fun v9 => ∃ r5 : Option Addr, v9 = .pointer r5 ∧
  (∃ n5 : Int, cell h a9 = some (.int .i64 n5) ∧
  (.int .i64 n5 : Value) = .int .i64 n4) ∧
  NN r5 fun a10 =>
  ∃ n6 : Int, cell h a10 = some (.int .i64 n6) ∧
  HCalls Tryz.prog 42 #[.int .i64 n6, .int .i64 n4] h fun v10 h2 => ∃ r6 : Int, v10 = .int .i64 r6 ∧
  K (.int .i64 r6) h2)) := by kernel_rfl
theorem table_Table_build_c1_call {a : Int} {b : Int} {t2 : Option Addr} {h : Hp} {K : Value → Hp → Prop} (hk : table_Table_build_c1_b0 a b t2 h K) : HCalls Tryz.prog 72 #[.int .i64 a, .int .i64 b, .pointer t2] h K :=
  calls_of_snd table_Table_build_c1_an Tryz.func72 (c := bodyOf Tryz.f72) rfl Tryz.ntmps72 (Nat.le_of_ble_eq_true rfl) (snd_1 F_ok F_mixed) hk

/-! ### table_Table_build_c2 -/
def table_Table_build_c2_an : Ann := .node none (.leaf) (.node none (.plan (.qu 0 (.qu 1 (.qu 2 (.qu 3 (.qu 4 (.qu 9 (.qu 10 (.qu 11 (.qu 12 (.qu 13 (.wo 5 (.qu 6 (.qu 7 (.qu 8 (.wo 14 (.qu 15 (.qu 16 (.qu 17 (.wo 18 (.wo 19 .fin .no) .no)))) .no)))) (.wo 14 (.qu 15 (.qu 16 (.qu 17 (.wo 5 (.qu 6 (.qu 7 (.qu 8 (.wo 18 (.wo 19 .fin .no) .no)))) .no)))) .no))))))))))))) (.leaf))
def table_Table_build_c2_K0  (K : Value → Hp → Prop) : Exit → Env → Hp → Prop := retK Tryz.prog Tryz.f73.results.toList K
def table_Table_build_c2_b0 (a : Int) (b : Int) (t2 : Option Addr) (h : Hp)  (K : Value → Hp → Prop) : Prop :=
  sx_1 Tryz.prog F 25 (cp [] (bodyOf Tryz.f73)) (ap [] table_Table_build_c2_an) [(0, .int .i64 a), (1, .int .i64 b), (2, .pointer t2)] h (table_Table_build_c2_K0  K)
theorem table_Table_build_c2_b0_eq (a : Int) (b : Int) (t2 : Option Addr) (h : Hp)  (K : Value → Hp → Prop) : table_Table_build_c2_b0 a b t2 h  K = (
  NN t2 fun a1 =>
  ∃ p1 : Option Addr, cell h a1 = some (.pointer p1) ∧
  NN p1 fun a2 =>
  ∃ v1 : Value, cell h a2 = some (v1) ∧
  NN t2 fun a3 =>
  ∃ p2 : Option Addr, cell h a3 = some (.pointer p2) ∧
  NN p2 fun a4 =>
  ∃ v2 : Value, cell h a4 = some (v2) ∧
  (lookV Tryz.prog 78 v1 (.int .i64 a) false h fun v3 => ∃ r1 : Option Addr, v3 = .pointer r1 ∧
  (∃ v4 : Value, cell h a4 = some (v4) ∧
  (v4 : Value) = v2) ∧
  (NN t2 fun a5 =>
  ∃ p3 : Option Addr, cell h a5 = some (.pointer p3) ∧
  (.pointer p3 : Value) = .pointer p2) ∧
  NN r1 fun a6 =>
  ∃ n1 : Int, cell h (a6.add 1) = some (.int .i64 n1) ∧
  lookV Tryz.prog 78 v2 (.int .i64 b) false h fun v5 => ∃ r2 : Option Addr, v5 = .pointer r2 ∧
  (∃ n2 : Int, cell h (a6.add 1) = some (.int .i64 n2) ∧
  (.int .i64 n2 : Value) = .int .i64 n1) ∧
  NN r2 fun a7 =>
  ∃ n3 : Int, cell h (a7.add 1) = some (.int .i64 n3) ∧
  HCalls Tryz.prog 42 #[.int .i64 n1, .int .i64 n3] h fun v6 h1 => ∃ r3 : Int, v6 = .int .i64 r3 ∧
  K (.int .i64 r3) h1) ∧
  (lookV Tryz.prog 78 v2 (.int .i64 b) false h fun v7 => ∃ r4 : Option Addr, v7 = .pointer r4 ∧
  (∃ v8 : Value, cell h a2 = some (v8) ∧
  (v8 : Value) = v1) ∧
  (NN t2 fun a8 =>
  ∃ p4 : Option Addr, cell h a8 = some (.pointer p4) ∧
  (.pointer p4 : Value) = .pointer p1) ∧
  NN r4 fun a9 =>
  ∃ n4 : Int, cell h (a9.add 1) = some (.int .i64 n4) ∧
  lookV Tryz.prog 78 v1 (.int .i64 a) false h fun v9 => ∃ r5 : Option Addr, v9 = .pointer r5 ∧
  (∃ n5 : Int, cell h (a9.add 1) = some (.int .i64 n5) ∧
  (.int .i64 n5 : Value) = .int .i64 n4) ∧
  NN r5 fun a10 =>
  ∃ n6 : Int, cell h (a10.add 1) = some (.int .i64 n6) ∧
  HCalls Tryz.prog 42 #[.int .i64 n6, .int .i64 n4] h fun v10 h2 => ∃ r6 : Int, v10 = .int .i64 r6 ∧
  K (.int .i64 r6) h2)) := by kernel_rfl
theorem table_Table_build_c2_call {a : Int} {b : Int} {t2 : Option Addr} {h : Hp} {K : Value → Hp → Prop} (hk : table_Table_build_c2_b0 a b t2 h K) : HCalls Tryz.prog 73 #[.int .i64 a, .int .i64 b, .pointer t2] h K :=
  calls_of_snd table_Table_build_c2_an Tryz.func73 (c := bodyOf Tryz.f73) rfl Tryz.ntmps73 (Nat.le_of_ble_eq_true rfl) (snd_1 F_ok F_mixed) hk

/-! ### math_bits_Mul32 -/
/-! ### math_bits_Mul64 -/
def math_bits_Mul64_an : Ann := .leaf
def math_bits_Mul64_K0  (K : Value → Hp → Prop) : Exit → Env → Hp → Prop := retK Tryz.prog Tryz.f75.results.toList K
def math_bits_Mul64_b0 (x : Int) (y : Int) (h : Hp)  (K : Value → Hp → Prop) : Prop :=
  sx_1 Tryz.prog F 51 (cp [] (bodyOf Tryz.f75)) (ap [] math_bits_Mul64_an) [(0, .int .u64 x), (1, .int .u64 y)] h (math_bits_Mul64_K0  K)
theorem math_bits_Mul64_b0_eq (x : Int) (y : Int) (h : Hp)  (K : Value → Hp → Prop) : math_bits_Mul64_b0 x y h  K = (
  ∃ an1 : Int, Sx.And .u64 x 4294967295 an1 ∧
  ∃ sr1 : Int, Sx.Shr .u64 x 32 sr1 ∧
  ∃ an2 : Int, Sx.And .u64 y 4294967295 an2 ∧
  ∃ sr2 : Int, Sx.Shr .u64 y 32 sr2 ∧
  ∃ sr3 : Int, Sx.Shr .u64 (IntKind.u64.wrap (an1 * an2)) 32 sr3 ∧
  ∃ an3 : Int, Sx.And .u64 (IntKind.u64.wrap ((IntKind.u64.wrap (sr1 * an2)) + sr3)) 4294967295 an3 ∧
  ∃ sr4 : Int, Sx.Shr .u64 (IntKind.u64.wrap ((IntKind.u64.wrap (sr1 * an2)) + sr3)) 32 sr4 ∧
  ∃ sr5 : Int, Sx.Shr .u64 (IntKind.u64.wrap (an3 + (IntKind.u64.wrap (an1 * sr2)))) 32 sr5 ∧
  K (.tuple #[.int .u64 (IntKind.u64.wrap ((IntKind.u64.wrap ((IntKind.u64.wrap (sr1 * sr2)) + sr4)) + sr5)), .int .u64 (IntKind.u64.wrap (x * y))]) h) := by kernel_rfl
theorem math_bits_Mul64_call {x : Int} {y : Int} {h : Hp} {K : Value → Hp → Prop} (hk : math_bits_Mul64_b0 x y h K) : HCalls Tryz.prog 75 #[.int .u64 x, .int .u64 y] h K :=
  calls_of_snd math_bits_Mul64_an Tryz.func75 (c := bodyOf Tryz.f75) rfl Tryz.ntmps75 (Nat.le_of_ble_eq_true rfl) (snd_1 F_ok F_mixed) hk

/-! ### r50_Valid -/
def r50_Valid_an : Ann := .node none (.leaf) (.node (some [1]) (.leaf) (.node (some []) (.node none (.leaf) (.loop [1] [(3, .int .i64)] (.node none (.leaf) (.node (some [1, 3]) (.leaf) (.leaf))))) (.leaf)))
def r50_Valid_K0  (K : Value → Hp → Prop) : Exit → Env → Hp → Prop := retK Tryz.prog Tryz.f76.results.toList K
def r50_Valid_K1  (K : Value → Hp → Prop) : Exit → Env → Hp → Prop := thenE (fun env h => sx_2 Tryz.prog F 51 (cp [1, 1, 1] (bodyOf Tryz.f76)) (ap [1, 1, 1] r50_Valid_an) (rs [] env) h (r50_Valid_K0  K)) (r50_Valid_K0  K)
def r50_Valid_K2  (K : Value → Hp → Prop) : Exit → Env → Hp → Prop := blockE 0 (r50_Valid_K1  K)
def r50_Valid_K3 (nx0 : Int × Unit → Hp → Prop) (K : Value → Hp → Prop) : Exit → Env → Hp → Prop := thenE (fun env h => getV [(3, .int .i64)] env fun s => nx0 s h) (r50_Valid_K2  K)
def r50_Valid_b0 (r_0 : Int) (r_1 : Int) (r_2 : Int) (r_3 : Int) (r_4 : ByteArray) (h : Hp)  (K : Value → Hp → Prop) : Prop :=
  sx_4 Tryz.prog F 51 (cp [] (bodyOf Tryz.f76)) (ap [] r50_Valid_an) [(0, .agg #[.int .i64 r_0, .int .i64 r_1, .int .i64 r_2, .int .i64 r_3, .string r_4])] h (r50_Valid_K0  K)
def r50_Valid_b1 (r : Option Addr) (h : Hp)  (K : Value → Hp → Prop) : Prop :=
  sx_3 Tryz.prog F 51 (cp [1, 1] (bodyOf Tryz.f76)) (ap [1, 1] r50_Valid_an) [(1, .pointer r)] h (r50_Valid_K0  K)
def r50_Valid_b2 (i : Int) (r : Option Addr) (h : Hp) (nx0 : Int × Unit → Hp → Prop) (K : Value → Hp → Prop) : Prop :=
  sx_2 Tryz.prog F 51 (cp [1, 1, 0, 1, 2, 2] (bodyOf Tryz.f76)) (ap [1, 1, 0, 1, 2] r50_Valid_an) [(3, .int .i64 i), (1, .pointer r)] h (r50_Valid_K3 nx0 K)
def r50_Valid_b3 (r : Option Addr) (i : Int) (h : Hp) (nx0 : Int × Unit → Hp → Prop) (K : Value → Hp → Prop) : Prop :=
  sx_1 Tryz.prog F 51 (cp [1, 1, 0, 1, 2, 2, 1, 1] (bodyOf Tryz.f76)) (ap [1, 1, 0, 1, 2, 1, 1] r50_Valid_an) [(1, .pointer r), (3, .int .i64 i)] h (r50_Valid_K3 nx0 K)
def r50_Valid_b4  (h : Hp)  (K : Value → Hp → Prop) : Prop :=
  sx_2 Tryz.prog F 51 (cp [1, 1, 1] (bodyOf Tryz.f76)) (ap [1, 1, 1] r50_Valid_an) [] h (r50_Valid_K0  K)
theorem r50_Valid_b0_eq (r_0 : Int) (r_1 : Int) (r_2 : Int) (r_3 : Int) (r_4 : ByteArray) (h : Hp)  (K : Value → Hp → Prop) : r50_Valid_b0 r_0 r_1 r_2 r_3 r_4 h  K = (
  New h (.cells #[.int .i64 r_0, .int .i64 r_1, .int .i64 r_2, .int .i64 r_3, .string r_4] 49) fun b1 h1 =>
  ∃ n1 : Int, cell h1 ⟨b1, 0, none⟩ = some (.int .i64 n1) ∧
  HCalls Tryz.prog 99 #[.int .i64 n1] h1 fun v1 h2 => ∃ r1 : Bool, v1 = .bool r1 ∧
  cond (!r1)
  (K (.bool false) h2)
  (∃ n2 : Int, cell h2 ((⟨b1, 0, none⟩ : Addr).add 1) = some (.int .i64 n2) ∧
  HCalls Tryz.prog 99 #[.int .i64 n2] h2 fun v2 h3 => ∃ r2 : Bool, v2 = .bool r2 ∧
  cond (!r2)
  (K (.bool false) h3)
  (∃ n3 : Int, cell h3 ((⟨b1, 0, none⟩ : Addr).add 2) = some (.int .i64 n3) ∧
  HCalls Tryz.prog 99 #[.int .i64 n3] h3 fun v3 h4 => ∃ r3 : Bool, v3 = .bool r3 ∧
  cond (!r3)
  (K (.bool false) h4)
  (∃ n4 : Int, cell h4 ((⟨b1, 0, none⟩ : Addr).add 3) = some (.int .i64 n4) ∧
  HCalls Tryz.prog 99 #[.int .i64 n4] h4 fun v4 h5 => ∃ r4 : Bool, v4 = .bool r4 ∧
  cond (!r4)
  (K (.bool false) h5)
  (∃ s1 : ByteArray, cell h5 ((⟨b1, 0, none⟩ : Addr).add 4) = some (.string s1) ∧
  cond (decide ((40 : Int) < (s1.size : Int)))
  (K (.bool false) h5)
  (r50_Valid_b1 (some ⟨b1, 0, none⟩) h5  K)))))) := by kernel_rfl
theorem r50_Valid_b1_eq (r : Option Addr) (h : Hp)  (K : Value → Hp → Prop) : r50_Valid_b1 r h  K = (
  LoopVC ((0, ()) : Int × Unit) h (fun (nx0 : Int × Unit → Hp → Prop) (s2 : Int × Unit) h6 => r50_Valid_b2 s2.1 r h6 nx0 K)) := by kernel_rfl
theorem r50_Valid_b2_eq (i : Int) (r : Option Addr) (h : Hp) (nx0 : Int × Unit → Hp → Prop) (K : Value → Hp → Prop) : r50_Valid_b2 i r h nx0 K = (
  NN r fun a1 =>
  ∃ s3 : ByteArray, cell h (a1.add 4) = some (.string s3) ∧
  cond (decide (i < (s3.size : Int)))
  (NN r fun a2 =>
  ∃ s4 : ByteArray, cell h (a2.add 4) = some (.string s4) ∧
  (0 ≤ i ∧ i < (s4.size : Int)) ∧
  cond (decide (((s4.data.toList.getD (Int.toNat i) 0).toNat : Int) < 32))
  (K (.bool false) h)
  (NN r fun a3 =>
  ∃ s5 : ByteArray, cell h (a3.add 4) = some (.string s5) ∧
  (0 ≤ i ∧ i < (s5.size : Int)) ∧
  cond (decide ((126 : Int) < ((s5.data.toList.getD (Int.toNat i) 0).toNat : Int)))
  (K (.bool false) h)
  (r50_Valid_b3 r i h nx0 K)))
  (r50_Valid_b4  h  K)) := by kernel_rfl
theorem r50_Valid_b3_eq (r : Option Addr) (i : Int) (h : Hp) (nx0 : Int × Unit → Hp → Prop) (K : Value → Hp → Prop) : r50_Valid_b3 r i h nx0 K = (
  InR (i + 1) ∧
  nx0 (i + 1, ()) h) := by kernel_rfl
theorem r50_Valid_b4_eq  (h : Hp)  (K : Value → Hp → Prop) : r50_Valid_b4  h  K = (
  K (.bool true) h) := by kernel_rfl
theorem r50_Valid_call {r_0 : Int} {r_1 : Int} {r_2 : Int} {r_3 : Int} {r_4 : ByteArray} {h : Hp} {K : Value → Hp → Prop} (hk : r50_Valid_b0 r_0 r_1 r_2 r_3 r_4 h K) : HCalls Tryz.prog 76 #[.agg #[.int .i64 r_0, .int .i64 r_1, .int .i64 r_2, .int .i64 r_3, .string r_4]] h K :=
  calls_of_snd r50_Valid_an Tryz.func76 (c := bodyOf Tryz.f76) rfl Tryz.ntmps76 (Nat.le_of_ble_eq_true rfl) (snd_4 F_ok F_mixed) hk

/-! ### r50_Has -/
def r50_Has_an : Ann := .node none (.leaf) (.node (some []) (.node none (.leaf) (.loop [1, 2, 3] [(7, .int .i64)] (.node none (.leaf) (.node (some [1, 2, 3, 7]) (.leaf) (.leaf))))) (.leaf))
def r50_Has_K0  (K : Value → Hp → Prop) : Exit → Env → Hp → Prop := retK Tryz.prog Tryz.f77.results.toList K
def r50_Has_K1  (K : Value → Hp → Prop) : Exit → Env → Hp → Prop := thenE (fun env h => sx_2 Tryz.prog F 32 (cp [1, 1] (bodyOf Tryz.f77)) (ap [1, 1] r50_Has_an) (rs [] env) h (r50_Has_K0  K)) (r50_Has_K0  K)
def r50_Has_K2  (K : Value → Hp → Prop) : Exit → Env → Hp → Prop := blockE 0 (r50_Has_K1  K)
def r50_Has_K3 (nx0 : Int × Unit → Hp → Prop) (K : Value → Hp → Prop) : Exit → Env → Hp → Prop := thenE (fun env h => getV [(7, .int .i64)] env fun s => nx0 s h) (r50_Has_K2  K)
def r50_Has_b0 (t_0 : Option Addr) (t_0L : Nat) (t_0C : Nat) (t_1 : Option Addr) (t_1L : Nat) (t_1C : Nat) (t_2 : Int) (key : Int) (but : Int) (h : Hp)  (K : Value → Hp → Prop) : Prop :=
  sx_3 Tryz.prog F 32 (cp [] (bodyOf Tryz.f77)) (ap [] r50_Has_an) [(0, .agg #[.slice t_0 t_0L t_0C, .slice t_1 t_1L t_1C, .int .i64 t_2]), (1, .int .i64 key), (2, .int .i64 but)] h (r50_Has_K0  K)
def r50_Has_b1 (i : Int) (key : Int) (but : Int) (t : Option Addr) (h : Hp) (nx0 : Int × Unit → Hp → Prop) (K : Value → Hp → Prop) : Prop :=
  sx_2 Tryz.prog F 32 (cp [1, 0, 1, 2, 2] (bodyOf Tryz.f77)) (ap [1, 0, 1, 2] r50_Has_an) [(7, .int .i64 i), (1, .int .i64 key), (2, .int .i64 but), (3, .pointer t)] h (r50_Has_K3 nx0 K)
def r50_Has_b2 (key : Int) (but : Int) (t : Option Addr) (i : Int) (h : Hp) (nx0 : Int × Unit → Hp → Prop) (K : Value → Hp → Prop) : Prop :=
  sx_1 Tryz.prog F 32 (cp [1, 0, 1, 2, 2, 1, 1] (bodyOf Tryz.f77)) (ap [1, 0, 1, 2, 1, 1] r50_Has_an) [(1, .int .i64 key), (2, .int .i64 but), (3, .pointer t), (7, .int .i64 i)] h (r50_Has_K3 nx0 K)
def r50_Has_b3  (h : Hp)  (K : Value → Hp → Prop) : Prop :=
  sx_2 Tryz.prog F 32 (cp [1, 1] (bodyOf Tryz.f77)) (ap [1, 1] r50_Has_an) [] h (r50_Has_K0  K)
theorem r50_Has_b0_eq (t_0 : Option Addr) (t_0L : Nat) (t_0C : Nat) (t_1 : Option Addr) (t_1L : Nat) (t_1C : Nat) (t_2 : Int) (key : Int) (but : Int) (h : Hp)  (K : Value → Hp → Prop) : r50_Has_b0 t_0 t_0L t_0C t_1 t_1L t_1C t_2 key but h  K = (
  New h (.cells #[.slice t_0 t_0L t_0C, .slice t_1 t_1L t_1C, .int .i64 t_2] 29) fun b1 h1 =>
  LoopVC ((0, ()) : Int × Unit) h1 (fun (nx0 : Int × Unit → Hp → Prop) (s1 : Int × Unit) h2 => r50_Has_b1 s1.1 key but (some ⟨b1, 0, none⟩) h2 nx0 K)) := by kernel_rfl
theorem r50_Has_b1_eq (i : Int) (key : Int) (but : Int) (t : Option Addr) (h : Hp) (nx0 : Int × Unit → Hp → Prop) (K : Value → Hp → Prop) : r50_Has_b1 i key but t h nx0 K = (
  NN t fun a1 =>
  ∃ (a2 : Option Addr) (L1 C1 : Nat), cell h (a1.add 1) = some (.slice a2 L1 C1) ∧
  cond (decide (i < (L1 : Int)))
  (NN t fun a3 =>
  ∃ (a4 : Option Addr) (L2 C2 : Nat), cell h (a3.add 1) = some (.slice a4 L2 C2) ∧
  (0 ≤ i ∧ i < (L2 : Int)) ∧
  NN a4 fun a5 =>
  ∃ n1 : Int, cell h (a5.add (Int.toNat i * 5)) = some (.int .i64 n1) ∧
  cond (decide (n1 = key))
  (NN t fun a6 =>
  ∃ (a7 : Option Addr) (L3 C3 : Nat), cell h a6 = some (.slice a7 L3 C3) ∧
  (0 ≤ i ∧ i < (L3 : Int)) ∧
  NN a7 fun a8 =>
  ∃ n2 : Int, cell h (a8.add (Int.toNat i * 1)) = some (.int .i64 n2) ∧
  cond (!decide (n2 = but))
  (K (.bool true) h)
  (r50_Has_b2 key but t i h nx0 K))
  (r50_Has_b2 key but t i h nx0 K))
  (r50_Has_b3  h  K)) := by kernel_rfl
theorem r50_Has_b2_eq (key : Int) (but : Int) (t : Option Addr) (i : Int) (h : Hp) (nx0 : Int × Unit → Hp → Prop) (K : Value → Hp → Prop) : r50_Has_b2 key but t i h nx0 K = (
  InR (i + 1) ∧
  nx0 (i + 1, ()) h) := by kernel_rfl
theorem r50_Has_b3_eq  (h : Hp)  (K : Value → Hp → Prop) : r50_Has_b3  h  K = (
  K (.bool false) h) := by kernel_rfl
theorem r50_Has_call {t_0 : Option Addr} {t_0L : Nat} {t_0C : Nat} {t_1 : Option Addr} {t_1L : Nat} {t_1C : Nat} {t_2 : Int} {key : Int} {but : Int} {h : Hp} {K : Value → Hp → Prop} (hk : r50_Has_b0 t_0 t_0L t_0C t_1 t_1L t_1C t_2 key but h K) : HCalls Tryz.prog 77 #[.agg #[.slice t_0 t_0L t_0C, .slice t_1 t_1L t_1C, .int .i64 t_2], .int .i64 key, .int .i64 but] h K :=
  calls_of_snd r50_Has_an Tryz.func77 (c := bodyOf Tryz.f77) rfl Tryz.ntmps77 (Nat.le_of_ble_eq_true rfl) (snd_3 F_ok F_mixed) hk

/-! ### r50_Find -/
def r50_Find_an : Ann := .node none (.leaf) (.node (some []) (.node none (.leaf) (.loop [1, 2] [(5, .int .i64)] (.node none (.leaf) (.node (some [1, 2, 5]) (.leaf) (.leaf))))) (.leaf))
def r50_Find_K0  (K : Value → Hp → Prop) : Exit → Env → Hp → Prop := retK Tryz.prog Tryz.f78.results.toList K
def r50_Find_K1  (K : Value → Hp → Prop) : Exit → Env → Hp → Prop := thenE (fun env h => sx_2 Tryz.prog F 21 (cp [1, 1] (bodyOf Tryz.f78)) (ap [1, 1] r50_Find_an) (rs [] env) h (r50_Find_K0  K)) (r50_Find_K0  K)
def r50_Find_K2  (K : Value → Hp → Prop) : Exit → Env → Hp → Prop := blockE 0 (r50_Find_K1  K)
def r50_Find_K3 (nx0 : Int × Unit → Hp → Prop) (K : Value → Hp → Prop) : Exit → Env → Hp → Prop := thenE (fun env h => getV [(5, .int .i64)] env fun s => nx0 s h) (r50_Find_K2  K)
def r50_Find_b0 (t_0 : Option Addr) (t_0L : Nat) (t_0C : Nat) (t_1 : Option Addr) (t_1L : Nat) (t_1C : Nat) (t_2 : Int) (id : Int) (h : Hp)  (K : Value → Hp → Prop) : Prop :=
  sx_3 Tryz.prog F 21 (cp [] (bodyOf Tryz.f78)) (ap [] r50_Find_an) [(0, .agg #[.slice t_0 t_0L t_0C, .slice t_1 t_1L t_1C, .int .i64 t_2]), (1, .int .i64 id)] h (r50_Find_K0  K)
def r50_Find_b1 (i : Int) (id : Int) (t : Option Addr) (h : Hp) (nx0 : Int × Unit → Hp → Prop) (K : Value → Hp → Prop) : Prop :=
  sx_2 Tryz.prog F 21 (cp [1, 0, 1, 2, 2] (bodyOf Tryz.f78)) (ap [1, 0, 1, 2] r50_Find_an) [(5, .int .i64 i), (1, .int .i64 id), (2, .pointer t)] h (r50_Find_K3 nx0 K)
def r50_Find_b2 (id : Int) (t : Option Addr) (i : Int) (h : Hp) (nx0 : Int × Unit → Hp → Prop) (K : Value → Hp → Prop) : Prop :=
  sx_1 Tryz.prog F 21 (cp [1, 0, 1, 2, 2, 1, 1] (bodyOf Tryz.f78)) (ap [1, 0, 1, 2, 1, 1] r50_Find_an) [(1, .int .i64 id), (2, .pointer t), (5, .int .i64 i)] h (r50_Find_K3 nx0 K)
def r50_Find_b3  (h : Hp)  (K : Value → Hp → Prop) : Prop :=
  sx_2 Tryz.prog F 21 (cp [1, 1] (bodyOf Tryz.f78)) (ap [1, 1] r50_Find_an) [] h (r50_Find_K0  K)
theorem r50_Find_b0_eq (t_0 : Option Addr) (t_0L : Nat) (t_0C : Nat) (t_1 : Option Addr) (t_1L : Nat) (t_1C : Nat) (t_2 : Int) (id : Int) (h : Hp)  (K : Value → Hp → Prop) : r50_Find_b0 t_0 t_0L t_0C t_1 t_1L t_1C t_2 id h  K = (
  New h (.cells #[.slice t_0 t_0L t_0C, .slice t_1 t_1L t_1C, .int .i64 t_2] 29) fun b1 h1 =>
  LoopVC ((0, ()) : Int × Unit) h1 (fun (nx0 : Int × Unit → Hp → Prop) (s1 : Int × Unit) h2 => r50_Find_b1 s1.1 id (some ⟨b1, 0, none⟩) h2 nx0 K)) := by kernel_rfl
theorem r50_Find_b1_eq (i : Int) (id : Int) (t : Option Addr) (h : Hp) (nx0 : Int × Unit → Hp → Prop) (K : Value → Hp → Prop) : r50_Find_b1 i id t h nx0 K = (
  NN t fun a1 =>
  ∃ (a2 : Option Addr) (L1 C1 : Nat), cell h a1 = some (.slice a2 L1 C1) ∧
  cond (decide (i < (L1 : Int)))
  (NN t fun a3 =>
  ∃ (a4 : Option Addr) (L2 C2 : Nat), cell h a3 = some (.slice a4 L2 C2) ∧
  (0 ≤ i ∧ i < (L2 : Int)) ∧
  NN a4 fun a5 =>
  ∃ n1 : Int, cell h (a5.add (Int.toNat i * 1)) = some (.int .i64 n1) ∧
  cond (decide (n1 = id))
  (K (.int .i64 i) h)
  (r50_Find_b2 id t i h nx0 K))
  (r50_Find_b3  h  K)) := by kernel_rfl
theorem r50_Find_b2_eq (id : Int) (t : Option Addr) (i : Int) (h : Hp) (nx0 : Int × Unit → Hp → Prop) (K : Value → Hp → Prop) : r50_Find_b2 id t i h nx0 K = (
  InR (i + 1) ∧
  nx0 (i + 1, ()) h) := by kernel_rfl
theorem r50_Find_b3_eq  (h : Hp)  (K : Value → Hp → Prop) : r50_Find_b3  h  K = (
  K (.int .i64 (-1)) h) := by kernel_rfl
theorem r50_Find_call {t_0 : Option Addr} {t_0L : Nat} {t_0C : Nat} {t_1 : Option Addr} {t_1L : Nat} {t_1C : Nat} {t_2 : Int} {id : Int} {h : Hp} {K : Value → Hp → Prop} (hk : r50_Find_b0 t_0 t_0L t_0C t_1 t_1L t_1C t_2 id h K) : HCalls Tryz.prog 78 #[.agg #[.slice t_0 t_0L t_0C, .slice t_1 t_1L t_1C, .int .i64 t_2], .int .i64 id] h K :=
  calls_of_snd r50_Find_an Tryz.func78 (c := bodyOf Tryz.f78) rfl Tryz.ntmps78 (Nat.le_of_ble_eq_true rfl) (snd_3 F_ok F_mixed) hk

/-! ### slices_insertionSortCmpFunc_int -/
def slices_insertionSortCmpFunc_int_an : Ann := .node none (.leaf) (.loop [0, 1, 2, 3] [(8, .int .i64)] (.node none (.leaf) (.node (some [0, 1, 2, 3, 8]) (.node none (.leaf) (.loop [0, 1, 2, 3, 8] [(9, .int .i64)] (.node (some [0, 1, 2, 3, 8, 9]) (.node none (.tail 14) (.leaf)) (.node (some [0, 1, 2, 3, 8, 9]) (.plan (.qu 0 (.qu 1 (.qu 2 (.qu 3 (.qu 4 (.qu 5 (.qu 6 (.qu 7 (.qu 8 (.qu 9 (.qu 10 (.qu 11 (.qu 12 (.qu 13 (.qu 14 (.wo 15 (.qu 16 (.wo 17 .fin .no)) .no))))))))))))))))) (.leaf))))) (.leaf))))
def slices_insertionSortCmpFunc_int_K0  (K : Value → Hp → Prop) : Exit → Env → Hp → Prop := retK Tryz.prog Tryz.f79.results.toList K
def slices_insertionSortCmpFunc_int_K1  (K : Value → Hp → Prop) : Exit → Env → Hp → Prop := blockE 0 (slices_insertionSortCmpFunc_int_K0  K)
def slices_insertionSortCmpFunc_int_K2 (nx0 : Int × Unit → Hp → Prop) (K : Value → Hp → Prop) : Exit → Env → Hp → Prop := thenE (fun env h => getV [(8, .int .i64)] env fun s => nx0 s h) (slices_insertionSortCmpFunc_int_K1  K)
def slices_insertionSortCmpFunc_int_K3 (nx0 : Int × Unit → Hp → Prop) (K : Value → Hp → Prop) : Exit → Env → Hp → Prop := thenE (fun env h => sx_3 Tryz.prog F 53 (cp [1, 2, 2, 1, 1] (bodyOf Tryz.f79)) (ap [1, 2, 1, 1] slices_insertionSortCmpFunc_int_an) (rs [0, 1, 2, 3, 8] env) h (slices_insertionSortCmpFunc_int_K2 nx0 K)) (slices_insertionSortCmpFunc_int_K2 nx0 K)
def slices_insertionSortCmpFunc_int_K4 (nx0 : Int × Unit → Hp → Prop) (K : Value → Hp → Prop) : Exit → Env → Hp → Prop := blockE 1 (slices_insertionSortCmpFunc_int_K3 nx0 K)
def slices_insertionSortCmpFunc_int_K5 (nx0 : Int × Unit → Hp → Prop) (K : Value → Hp → Prop) : Exit → Env → Hp → Prop := blockE 2 (slices_insertionSortCmpFunc_int_K4 nx0 K)
def slices_insertionSortCmpFunc_int_K6 (nx0 : Int × Unit → Hp → Prop) (nx1 : Int × Unit → Hp → Prop) (K : Value → Hp → Prop) : Exit → Env → Hp → Prop := thenE (fun env h => getV [(9, .int .i64)] env fun s => nx1 s h) (slices_insertionSortCmpFunc_int_K5 nx0 K)
def slices_insertionSortCmpFunc_int_b0 (data : Option Addr) (dataL : Nat) (dataC : Nat) (a : Int) (b : Int) (cmp : Value) (h : Hp)  (K : Value → Hp → Prop) : Prop :=
  sx_5 Tryz.prog F 53 (cp [] (bodyOf Tryz.f79)) (ap [] slices_insertionSortCmpFunc_int_an) [(0, .slice data dataL dataC), (1, .int .i64 a), (2, .int .i64 b), (3, cmp)] h (slices_insertionSortCmpFunc_int_K0  K)
def slices_insertionSortCmpFunc_int_b1 (i : Int) (data : Option Addr) (dataL : Nat) (dataC : Nat) (a : Int) (b : Int) (cmp : Value) (h : Hp) (nx0 : Int × Unit → Hp → Prop) (K : Value → Hp → Prop) : Prop :=
  sx_4 Tryz.prog F 53 (cp [1, 2, 2] (bodyOf Tryz.f79)) (ap [1, 2] slices_insertionSortCmpFunc_int_an) [(8, .int .i64 i), (0, .slice data dataL dataC), (1, .int .i64 a), (2, .int .i64 b), (3, cmp)] h (slices_insertionSortCmpFunc_int_K2 nx0 K)
def slices_insertionSortCmpFunc_int_b2 (j : Int) (data : Option Addr) (dataL : Nat) (dataC : Nat) (a : Int) (b : Int) (cmp : Value) (i : Int) (h : Hp) (nx0 : Int × Unit → Hp → Prop) (nx1 : Int × Unit → Hp → Prop) (K : Value → Hp → Prop) : Prop :=
  sx_3 Tryz.prog F 53 (cp [1, 2, 2, 1, 0, 2, 1, 2, 2] (bodyOf Tryz.f79)) (ap [1, 2, 1, 0, 1, 2] slices_insertionSortCmpFunc_int_an) [(9, .int .i64 j), (0, .slice data dataL dataC), (1, .int .i64 a), (2, .int .i64 b), (3, cmp), (8, .int .i64 i)] h (slices_insertionSortCmpFunc_int_K6 nx0 nx1 K)
def slices_insertionSortCmpFunc_int_b3 (data : Option Addr) (dataL : Nat) (dataC : Nat) (a : Int) (b : Int) (cmp : Value) (i : Int) (j : Int) (h : Hp) (nx0 : Int × Unit → Hp → Prop) (nx1 : Int × Unit → Hp → Prop) (K : Value → Hp → Prop) : Prop :=
  sx_2 Tryz.prog F 53 (cp [1, 2, 2, 1, 0, 2, 1, 2, 2, 1] (bodyOf Tryz.f79)) (ap [1, 2, 1, 0, 1, 2, 1] slices_insertionSortCmpFunc_int_an) [(0, .slice data dataL dataC), (1, .int .i64 a), (2, .int .i64 b), (3, cmp), (8, .int .i64 i), (9, .int .i64 j)] h (slices_insertionSortCmpFunc_int_K6 nx0 nx1 K)
def slices_insertionSortCmpFunc_int_b4 (data : Option Addr) (dataL : Nat) (dataC : Nat) (a : Int) (b : Int) (cmp : Value) (i : Int) (h : Hp) (nx0 : Int × Unit → Hp → Prop) (K : Value → Hp → Prop) : Prop :=
  sx_3 Tryz.prog F 53 (cp [1, 2, 2, 1, 1] (bodyOf Tryz.f79)) (ap [1, 2, 1, 1] slices_insertionSortCmpFunc_int_an) [(0, .slice data dataL dataC), (1, .int .i64 a), (2, .int .i64 b), (3, cmp), (8, .int .i64 i)] h (slices_insertionSortCmpFunc_int_K2 nx0 K)
def slices_insertionSortCmpFunc_int_b5 (data : Option Addr) (dataL : Nat) (dataC : Nat) (a : Int) (b : Int) (cmp : Value) (i : Int) (j : Int) (h : Hp) (nx0 : Int × Unit → Hp → Prop) (nx1 : Int × Unit → Hp → Prop) (K : Value → Hp → Prop) : Prop :=
  sx_1 Tryz.prog F 53 (cp [1, 2, 2, 1, 0, 2, 1, 2, 2, 1, 1] (bodyOf Tryz.f79)) (ap [1, 2, 1, 0, 1, 2, 1, 1] slices_insertionSortCmpFunc_int_an) [(0, .slice data dataL dataC), (1, .int .i64 a), (2, .int .i64 b), (3, cmp), (8, .int .i64 i), (9, .int .i64 j)] h (slices_insertionSortCmpFunc_int_K6 nx0 nx1 K)
theorem slices_insertionSortCmpFunc_int_b0_eq (data : Option Addr) (dataL : Nat) (dataC : Nat) (a : Int) (b : Int) (cmp : Value) (h : Hp)  (K : Value → Hp → Prop) : slices_insertionSortCmpFunc_int_b0 data dataL dataC a b cmp h  K = (
  InR (a + 1) ∧
  LoopVC ((a + 1, ()) : Int × Unit) h (fun (nx0 : Int × Unit → Hp → Prop) (s1 : Int × Unit) h1 => slices_insertionSortCmpFunc_int_b1 s1.1 data dataL dataC a b cmp h1 nx0 K)) := by kernel_rfl
theorem slices_insertionSortCmpFunc_int_b1_eq (i : Int) (data : Option Addr) (dataL : Nat) (dataC : Nat) (a : Int) (b : Int) (cmp : Value) (h : Hp) (nx0 : Int × Unit → Hp → Prop) (K : Value → Hp → Prop) : slices_insertionSortCmpFunc_int_b1 i data dataL dataC a b cmp h nx0 K = (
  cond (decide (i < b))
  (LoopVC ((i, ()) : Int × Unit) h (fun (nx1 : Int × Unit → Hp → Prop) (s2 : Int × Unit) h2 => slices_insertionSortCmpFunc_int_b2 s2.1 data dataL dataC a b cmp i h2 nx0 nx1 K))
  (K (.tuple #[]) h)) := by kernel_rfl
theorem slices_insertionSortCmpFunc_int_b2_eq (j : Int) (data : Option Addr) (dataL : Nat) (dataC : Nat) (a : Int) (b : Int) (cmp : Value) (i : Int) (h : Hp) (nx0 : Int × Unit → Hp → Prop) (nx1 : Int × Unit → Hp → Prop) (K : Value → Hp → Prop) : slices_insertionSortCmpFunc_int_b2 j data dataL dataC a b cmp i h nx0 nx1 K = (
  cond (decide (a < j))
  ((0 ≤ j ∧ j < (dataL : Int)) ∧
  NN data fun a1 =>
  ∃ n1 : Int, cell h (a1.add (Int.toNat j * 1)) = some (.int .i64 n1) ∧
  InR (j - 1) ∧
  (0 ≤ j - 1 ∧ j - 1 < (dataL : Int)) ∧
  NN data fun a2 =>
  ∃ n2 : Int, cell h (a2.add (Int.toNat (j - 1) * 1)) = some (.int .i64 n2) ∧
  funV cmp fun fg1 fa1 fc1 => callX Tryz.prog F fg1 (fa1 ++ (([.int .i64 n1, .int .i64 n2] : List Value) ++ fc1)).toArray h fun v1 h3 => ∃ r1 : Int, v1 = .int .i64 r1 ∧
  cond (decide (r1 < 0))
  (slices_insertionSortCmpFunc_int_b3 data dataL dataC a b cmp i j h3 nx0 nx1 K)
  (slices_insertionSortCmpFunc_int_b4 data dataL dataC a b cmp i h3 nx0 K))
  (slices_insertionSortCmpFunc_int_b4 data dataL dataC a b cmp i h nx0 K)) := by kernel_rfl
theorem slices_insertionSortCmpFunc_int_b3_eq (data : Option Addr) (dataL : Nat) (dataC : Nat) (a : Int) (b : Int) (cmp : Value) (i : Int) (j : Int) (h : Hp) (nx0 : Int × Unit → Hp → Prop) (nx1 : Int × Unit → Hp → Prop) (K : Value → Hp → Prop) : slices_insertionSortCmpFunc_int_b3 data dataL dataC a b cmp i j h nx0 nx1 K = (
  InR (j - 1) ∧
  InR (j - 1) ∧
  (0 ≤ j - 1 ∧ j - 1 < (dataL : Int)) ∧
  NN data fun a3 =>
  ∃ n3 : Int, cell h (a3.add (Int.toNat (j - 1) * 1)) = some (.int .i64 n3) ∧
  (0 ≤ j ∧ j < (dataL : Int)) ∧
  NN data fun a4 =>
  ∃ n4 : Int, cell h (a4.add (Int.toNat j * 1)) = some (.int .i64 n4) ∧
  (0 ≤ j ∧ j < (dataL : Int)) ∧
  NN data fun a5 =>
  Wr h (a5.add (Int.toNat j * 1)) (.int .i64 n3) fun h4 =>
  (0 ≤ j - 1 ∧ j - 1 < (dataL : Int)) ∧
  NN data fun a6 =>
  Wr h4 (a6.add (Int.toNat (j - 1) * 1)) (.int .i64 n4) fun h5 =>
  slices_insertionSortCmpFunc_int_b5 data dataL dataC a b cmp i j h5 nx0 nx1 K) := by kernel_rfl
theorem slices_insertionSortCmpFunc_int_b4_eq (data : Option Addr) (dataL : Nat) (dataC : Nat) (a : Int) (b : Int) (cmp : Value) (i : Int) (h : Hp) (nx0 : Int × Unit → Hp → Prop) (K : Value → Hp → Prop) : slices_insertionSortCmpFunc_int_b4 data dataL dataC a b cmp i h nx0 K = (
  InR (i + 1) ∧
  nx0 (i + 1, ()) h) := by kernel_rfl
theorem slices_insertionSortCmpFunc_int_b5_eq (data : Option Addr) (dataL : Nat) (dataC : Nat) (a : Int) (b : Int) (cmp : Value) (i : Int) (j : Int) (h : Hp) (nx0 : Int × Unit → Hp → Prop) (nx1 : Int × Unit → Hp → Prop) (K : Value → Hp → Prop) : slices_insertionSortCmpFunc_int_b5 data dataL dataC a b cmp i j h nx0 nx1 K = (
  InR (j - 1) ∧
  nx1 (j - 1, ()) h) := by kernel_rfl
theorem slices_insertionSortCmpFunc_int_call {data : Option Addr} {dataL : Nat} {dataC : Nat} {a : Int} {b : Int} {cmp : Value} {h : Hp} {K : Value → Hp → Prop} (hk : slices_insertionSortCmpFunc_int_b0 data dataL dataC a b cmp h K) : HCalls Tryz.prog 79 #[.slice data dataL dataC, .int .i64 a, .int .i64 b, cmp] h K :=
  calls_of_snd slices_insertionSortCmpFunc_int_an Tryz.func79 (c := bodyOf Tryz.f79) rfl Tryz.ntmps79 (Nat.le_of_ble_eq_true rfl) (snd_5 F_ok F_mixed) hk

/-! ### slices_heapSortCmpFunc_int -/
def slices_heapSortCmpFunc_int_an : Ann := .node none (.leaf) (.node none (.leaf) (.node none (.leaf) (.node (some [0, 3, 8, 9, 10]) (.node none (.leaf) (.loop [0, 3, 8, 9, 10] [(11, .int .i64)] (.node none (.leaf) (.node (some [0, 3, 8, 9, 10, 11]) (.leaf) (.leaf))))) (.node none (.leaf) (.loop [0, 3, 8, 9] [(12, .int .i64)] (.node none (.leaf) (.node (some [0, 3, 8, 9, 12]) (.node none (.plan (.qu 0 (.qu 1 (.qu 2 (.qu 3 (.qu 4 (.qu 5 (.qu 6 (.qu 7 (.qu 8 (.qu 9 (.qu 10 (.qu 11 (.qu 12 (.qu 13 (.qu 14 (.qu 15 (.qu 16 (.wo 17 (.qu 18 (.wo 19 .fin .no)) .no))))))))))))))))))) (.leaf)) (.leaf))))))))
def slices_heapSortCmpFunc_int_K0  (K : Value → Hp → Prop) : Exit → Env → Hp → Prop := retK Tryz.prog Tryz.f80.results.toList K
def slices_heapSortCmpFunc_int_K1  (K : Value → Hp → Prop) : Exit → Env → Hp → Prop := thenE (fun env h => sx_3 Tryz.prog F 60 (cp [1, 1, 1, 1] (bodyOf Tryz.f80)) (ap [1, 1, 1, 1] slices_heapSortCmpFunc_int_an) (rs [0, 3, 8, 9, 10] env) h (slices_heapSortCmpFunc_int_K0  K)) (slices_heapSortCmpFunc_int_K0  K)
def slices_heapSortCmpFunc_int_K2  (K : Value → Hp → Prop) : Exit → Env → Hp → Prop := blockE 0 (slices_heapSortCmpFunc_int_K1  K)
def slices_heapSortCmpFunc_int_K3 (nx0 : Int × Unit → Hp → Prop) (K : Value → Hp → Prop) : Exit → Env → Hp → Prop := thenE (fun env h => getV [(11, .int .i64)] env fun s => nx0 s h) (slices_heapSortCmpFunc_int_K2  K)
def slices_heapSortCmpFunc_int_K4  (K : Value → Hp → Prop) : Exit → Env → Hp → Prop := blockE 2 (slices_heapSortCmpFunc_int_K0  K)
def slices_heapSortCmpFunc_int_K5 (nx0 : Int × Unit → Hp → Prop) (K : Value → Hp → Prop) : Exit → Env → Hp → Prop := thenE (fun env h => getV [(12, .int .i64)] env fun s => nx0 s h) (slices_heapSortCmpFunc_int_K4  K)
def slices_heapSortCmpFunc_int_b0 (data : Option Addr) (dataL : Nat) (dataC : Nat) (a : Int) (b : Int) (cmp : Value) (h : Hp)  (K : Value → Hp → Prop) : Prop :=
  sx_4 Tryz.prog F 60 (cp [] (bodyOf Tryz.f80)) (ap [] slices_heapSortCmpFunc_int_an) [(0, .slice data dataL dataC), (1, .int .i64 a), (2, .int .i64 b), (3, cmp)] h (slices_heapSortCmpFunc_int_K0  K)
def slices_heapSortCmpFunc_int_b1 (i : Int) (data : Option Addr) (dataL : Nat) (dataC : Nat) (cmp : Value) (first : Int) (lo : Int) (hi : Int) (h : Hp) (nx0 : Int × Unit → Hp → Prop) (K : Value → Hp → Prop) : Prop :=
  sx_3 Tryz.prog F 60 (cp [1, 1, 1, 0, 1, 2, 2] (bodyOf Tryz.f80)) (ap [1, 1, 1, 0, 1, 2] slices_heapSortCmpFunc_int_an) [(11, .int .i64 i), (0, .slice data dataL dataC), (3, cmp), (8, .int .i64 first), (9, .int .i64 lo), (10, .int .i64 hi)] h (slices_heapSortCmpFunc_int_K3 nx0 K)
def slices_heapSortCmpFunc_int_b2 (data : Option Addr) (dataL : Nat) (dataC : Nat) (cmp : Value) (first : Int) (lo : Int) (hi : Int) (i : Int) (h : Hp) (nx0 : Int × Unit → Hp → Prop) (K : Value → Hp → Prop) : Prop :=
  sx_2 Tryz.prog F 60 (cp [1, 1, 1, 0, 1, 2, 2, 1, 1] (bodyOf Tryz.f80)) (ap [1, 1, 1, 0, 1, 2, 1, 1] slices_heapSortCmpFunc_int_an) [(0, .slice data dataL dataC), (3, cmp), (8, .int .i64 first), (9, .int .i64 lo), (10, .int .i64 hi), (11, .int .i64 i)] h (slices_heapSortCmpFunc_int_K3 nx0 K)
def slices_heapSortCmpFunc_int_b3 (data : Option Addr) (dataL : Nat) (dataC : Nat) (cmp : Value) (first : Int) (lo : Int) (hi : Int) (h : Hp)  (K : Value → Hp → Prop) : Prop :=
  sx_3 Tryz.prog F 60 (cp [1, 1, 1, 1] (bodyOf Tryz.f80)) (ap [1, 1, 1, 1] slices_heapSortCmpFunc_int_an) [(0, .slice data dataL dataC), (3, cmp), (8, .int .i64 first), (9, .int .i64 lo), (10, .int .i64 hi)] h (slices_heapSortCmpFunc_int_K0  K)
def slices_heapSortCmpFunc_int_b4 (i : Int) (data : Option Addr) (dataL : Nat) (dataC : Nat) (cmp : Value) (first : Int) (lo : Int) (h : Hp) (nx0 : Int × Unit → Hp → Prop) (K : Value → Hp → Prop) : Prop :=
  sx_2 Tryz.prog F 60 (cp [1, 1, 1, 1, 1, 2, 2] (bodyOf Tryz.f80)) (ap [1, 1, 1, 1, 1, 2] slices_heapSortCmpFunc_int_an) [(12, .int .i64 i), (0, .slice data dataL dataC), (3, cmp), (8, .int .i64 first), (9, .int .i64 lo)] h (slices_heapSortCmpFunc_int_K5 nx0 K)
def slices_heapSortCmpFunc_int_b5 (data : Option Addr) (dataL : Nat) (dataC : Nat) (cmp : Value) (first : Int) (lo : Int) (i : Int) (h : Hp) (nx0 : Int × Unit → Hp → Prop) (K : Value → Hp → Prop) : Prop :=
  sx_1 Tryz.prog F 60 (cp [1, 1, 1, 1, 1, 2, 2, 1, 1] (bodyOf Tryz.f80)) (ap [1, 1, 1, 1, 1, 2, 1, 1] slices_heapSortCmpFunc_int_an) [(0, .slice data dataL dataC), (3, cmp), (8, .int .i64 first), (9, .int .i64 lo), (12, .int .i64 i)] h (slices_heapSortCmpFunc_int_K5 nx0 K)
theorem slices_heapSortCmpFunc_int_b0_eq (data : Option Addr) (dataL : Nat) (dataC : Nat) (a : Int) (b : Int) (cmp : Value) (h : Hp)  (K : Value → Hp → Prop) : slices_heapSortCmpFunc_int_b0 data dataL dataC a b cmp h  K = (
  InR (b - a) ∧
  InR ((b - a) - 1) ∧
  ∃ q1 : Int, Sx.Quo .i64 ((b - a) - 1) 2 q1 ∧
  LoopVC ((q1, ()) : Int × Unit) h (fun (nx0 : Int × Unit → Hp → Prop) (s1 : Int × Unit) h1 => slices_heapSortCmpFunc_int_b1 s1.1 data dataL dataC cmp a 0 (b - a) h1 nx0 K)) := by kernel_rfl
theorem slices_heapSortCmpFunc_int_b1_eq (i : Int) (data : Option Addr) (dataL : Nat) (dataC : Nat) (cmp : Value) (first : Int) (lo : Int) (hi : Int) (h : Hp) (nx0 : Int × Unit → Hp → Prop) (K : Value → Hp → Prop) : slices_heapSortCmpFunc_int_b1 i data dataL dataC cmp first lo hi h nx0 K = (
  cond (decide ((0 : Int) ≤ i))
  (HCalls Tryz.prog 100 #[.slice data dataL dataC, .int .i64 i, .int .i64 hi, .int .i64 first, cmp] h fun v1 h2 => v1 = .tuple #[] ∧
  slices_heapSortCmpFunc_int_b2 data dataL dataC cmp first lo hi i h2 nx0 K)
  (slices_heapSortCmpFunc_int_b3 data dataL dataC cmp first lo hi h  K)) := by kernel_rfl
theorem slices_heapSortCmpFunc_int_b2_eq (data : Option Addr) (dataL : Nat) (dataC : Nat) (cmp : Value) (first : Int) (lo : Int) (hi : Int) (i : Int) (h : Hp) (nx0 : Int × Unit → Hp → Prop) (K : Value → Hp → Prop) : slices_heapSortCmpFunc_int_b2 data dataL dataC cmp first lo hi i h nx0 K = (
  InR (i - 1) ∧
  nx0 (i - 1, ()) h) := by kernel_rfl
theorem slices_heapSortCmpFunc_int_b3_eq (data : Option Addr) (dataL : Nat) (dataC : Nat) (cmp : Value) (first : Int) (lo : Int) (hi : Int) (h : Hp)  (K : Value → Hp → Prop) : slices_heapSortCmpFunc_int_b3 data dataL dataC cmp first lo hi h  K = (
  InR (hi - 1) ∧
  LoopVC ((hi - 1, ()) : Int × Unit) h (fun (nx0 : Int × Unit → Hp → Prop) (s2 : Int × Unit) h3 => slices_heapSortCmpFunc_int_b4 s2.1 data dataL dataC cmp first lo h3 nx0 K)) := by kernel_rfl
theorem slices_heapSortCmpFunc_int_b4_eq (i : Int) (data : Option Addr) (dataL : Nat) (dataC : Nat) (cmp : Value) (first : Int) (lo : Int) (h : Hp) (nx0 : Int × Unit → Hp → Prop) (K : Value → Hp → Prop) : slices_heapSortCmpFunc_int_b4 i data dataL dataC cmp first lo h nx0 K = (
  cond (decide ((0 : Int) ≤ i))
  (InR (first + i) ∧
  InR (first + i) ∧
  (0 ≤ first + i ∧ first + i < (dataL : Int)) ∧
  NN data fun a1 =>
  ∃ n1 : Int, cell h (a1.add (Int.toNat (first + i) * 1)) = some (.int .i64 n1) ∧
  (0 ≤ first ∧ first < (dataL : Int)) ∧
  NN data fun a2 =>
  ∃ n2 : Int, cell h (a2.add (Int.toNat first * 1)) = some (.int .i64 n2) ∧
  (0 ≤ first ∧ first < (dataL : Int)) ∧
  NN data fun a3 =>
  Wr h (a3.add (Int.toNat first * 1)) (.int .i64 n1) fun h4 =>
  (0 ≤ first + i ∧ first + i < (dataL : Int)) ∧
  NN data fun a4 =>
  Wr h4 (a4.add (Int.toNat (first + i) * 1)) (.int .i64 n2) fun h5 =>
  HCalls Tryz.prog 100 #[.slice data dataL dataC, .int .i64 lo, .int .i64 i, .int .i64 first, cmp] h5 fun v2 h6 => v2 = .tuple #[] ∧
  slices_heapSortCmpFunc_int_b5 data dataL dataC cmp first lo i h6 nx0 K)
  (K (.tuple #[]) h)) := by kernel_rfl
theorem slices_heapSortCmpFunc_int_b5_eq (data : Option Addr) (dataL : Nat) (dataC : Nat) (cmp : Value) (first : Int) (lo : Int) (i : Int) (h : Hp) (nx0 : Int × Unit → Hp → Prop) (K : Value → Hp → Prop) : slices_heapSortCmpFunc_int_b5 data dataL dataC cmp first lo i h nx0 K = (
  InR (i - 1) ∧
  nx0 (i - 1, ()) h) := by kernel_rfl
theorem slices_heapSortCmpFunc_int_call {data : Option Addr} {dataL : Nat} {dataC : Nat} {a : Int} {b : Int} {cmp : Value} {h : Hp} {K : Value → Hp → Prop} (hk : slices_heapSortCmpFunc_int_b0 data dataL dataC a b cmp h K) : HCalls Tryz.prog 80 #[.slice data dataL dataC, .int .i64 a, .int .i64 b, cmp] h K :=
  calls_of_snd slices_heapSortCmpFunc_int_an Tryz.func80 (c := bodyOf Tryz.f80) rfl Tryz.ntmps80 (Nat.le_of_ble_eq_true rfl) (snd_4 F_ok F_mixed) hk

/-! ### slices_breakPatternsCmpFunc_int -/
def slices_breakPatternsCmpFunc_int_an : Ann := .node none (.leaf) (.node none (.leaf) (.node none (.node none (.leaf) (.node none (.leaf) (.node none (.leaf) (.loop [0, 1, 8, 9, 10] [(11, .int .i64)] (.node none (.leaf) (.node (some [0, 1, 8, 9, 10, 11]) (.node none (.leaf) (.node (some [0, 1, 8, 9, 10, 11, 12]) (.leaf) (.plan (.qu 0 (.qu 1 (.qu 2 (.qu 3 (.qu 4 (.qu 5 (.qu 6 (.qu 7 (.qu 8 (.qu 9 (.qu 10 (.qu 11 (.qu 12 (.qu 13 (.qu 14 (.qu 15 (.qu 16 (.wo 17 (.qu 18 (.wo 19 .fin .no)) .no))))))))))))))))))))) (.leaf))))))) (.leaf)))
def slices_breakPatternsCmpFunc_int_K0  (K : Value → Hp → Prop) : Exit → Env → Hp → Prop := retK Tryz.prog Tryz.f81.results.toList K
def slices_breakPatternsCmpFunc_int_K1  (K : Value → Hp → Prop) : Exit → Env → Hp → Prop := blockE 0 (slices_breakPatternsCmpFunc_int_K0  K)
def slices_breakPatternsCmpFunc_int_K2 (nx0 : Int × Unit → Hp → Prop) (K : Value → Hp → Prop) : Exit → Env → Hp → Prop := thenE (fun env h => getV [(11, .int .i64)] env fun s => nx0 s h) (slices_breakPatternsCmpFunc_int_K1  K)
def slices_breakPatternsCmpFunc_int_K3 (nx0 : Int × Unit → Hp → Prop) (K : Value → Hp → Prop) : Exit → Env → Hp → Prop := thenE (fun env h => sx_1 Tryz.prog F 67 (cp [1, 1, 0, 1, 1, 1, 2, 2, 1, 1] (bodyOf Tryz.f81)) (ap [1, 1, 0, 1, 1, 1, 2, 1, 1] slices_breakPatternsCmpFunc_int_an) (rs [0, 1, 8, 9, 10, 11] env) h (slices_breakPatternsCmpFunc_int_K2 nx0 K)) (slices_breakPatternsCmpFunc_int_K2 nx0 K)
def slices_breakPatternsCmpFunc_int_K4 (nx0 : Int × Unit → Hp → Prop) (K : Value → Hp → Prop) : Exit → Env → Hp → Prop := blockE 1 (slices_breakPatternsCmpFunc_int_K3 nx0 K)
def slices_breakPatternsCmpFunc_int_b0 (data : Option Addr) (dataL : Nat) (dataC : Nat) (a : Int) (b : Int) (cmp : Value) (h : Hp)  (K : Value → Hp → Prop) : Prop :=
  sx_3 Tryz.prog F 67 (cp [] (bodyOf Tryz.f81)) (ap [] slices_breakPatternsCmpFunc_int_an) [(0, .slice data dataL dataC), (1, .int .i64 a), (2, .int .i64 b), (3, cmp)] h (slices_breakPatternsCmpFunc_int_K0  K)
def slices_breakPatternsCmpFunc_int_b1 (idx : Int) (data : Option Addr) (dataL : Nat) (dataC : Nat) (a : Int) (length : Int) (random : Option Addr) (modulus : Int) (h : Hp) (nx0 : Int × Unit → Hp → Prop) (K : Value → Hp → Prop) : Prop :=
  sx_2 Tryz.prog F 67 (cp [1, 1, 0, 1, 1, 1, 2, 2] (bodyOf Tryz.f81)) (ap [1, 1, 0, 1, 1, 1, 2] slices_breakPatternsCmpFunc_int_an) [(11, .int .i64 idx), (0, .slice data dataL dataC), (1, .int .i64 a), (8, .int .i64 length), (9, .pointer random), (10, .int .u64 modulus)] h (slices_breakPatternsCmpFunc_int_K2 nx0 K)
def slices_breakPatternsCmpFunc_int_b2 (data : Option Addr) (dataL : Nat) (dataC : Nat) (a : Int) (length : Int) (random : Option Addr) (modulus : Int) (idx : Int) (other : Int) (h : Hp) (nx0 : Int × Unit → Hp → Prop) (K : Value → Hp → Prop) : Prop :=
  sx_1 Tryz.prog F 67 (cp [1, 1, 0, 1, 1, 1, 2, 2, 1, 0, 2, 1, 1] (bodyOf Tryz.f81)) (ap [1, 1, 0, 1, 1, 1, 2, 1, 0, 1, 1] slices_breakPatternsCmpFunc_int_an) [(0, .slice data dataL dataC), (1, .int .i64 a), (8, .int .i64 length), (9, .pointer random), (10, .int .u64 modulus), (11, .int .i64 idx), (12, .int .i64 other)] h (slices_breakPatternsCmpFunc_int_K4 nx0 K)
def slices_breakPatternsCmpFunc_int_b3 (data : Option Addr) (dataL : Nat) (dataC : Nat) (a : Int) (length : Int) (random : Option Addr) (modulus : Int) (idx : Int) (h : Hp) (nx0 : Int × Unit → Hp → Prop) (K : Value → Hp → Prop) : Prop :=
  sx_1 Tryz.prog F 67 (cp [1, 1, 0, 1, 1, 1, 2, 2, 1, 1] (bodyOf Tryz.f81)) (ap [1, 1, 0, 1, 1, 1, 2, 1, 1] slices_breakPatternsCmpFunc_int_an) [(0, .slice data dataL dataC), (1, .int .i64 a), (8, .int .i64 length), (9, .pointer random), (10, .int .u64 modulus), (11, .int .i64 idx)] h (slices_breakPatternsCmpFunc_int_K2 nx0 K)
theorem slices_breakPatternsCmpFunc_int_b0_eq (data : Option Addr) (dataL : Nat) (dataC : Nat) (a : Int) (b : Int) (cmp : Value) (h : Hp)  (K : Value → Hp → Prop) : slices_breakPatternsCmpFunc_int_b0 data dataL dataC a b cmp h  K = (
  InR (b - a) ∧
  cond (decide ((8 : Int) ≤ (b - a)))
  (New h (.cells #[.int .u64 0] 139) fun b1 h1 =>
  Wr h1 ⟨b1, 0, none⟩ (.int .u64 (IntKind.u64.wrap (b - a))) fun h2 =>
  HCalls Tryz.prog 101 #[.int .i64 (b - a)] h2 fun v1 h3 => ∃ r1 : Int, v1 = .int .u64 r1 ∧
  ∃ q1 : Int, Sx.Quo .i64 (b - a) 4 q1 ∧
  InR (q1 * 2) ∧
  InR (a + (q1 * 2)) ∧
  InR ((a + (q1 * 2)) - 1) ∧
  LoopVC (((a + (q1 * 2)) - 1, ()) : Int × Unit) h3 (fun (nx0 : Int × Unit → Hp → Prop) (s1 : Int × Unit) h4 => slices_breakPatternsCmpFunc_int_b1 s1.1 data dataL dataC a (b - a) (some ⟨b1, 0, none⟩) r1 h4 nx0 K))
  (K (.tuple #[]) h)) := by kernel_rfl
theorem slices_breakPatternsCmpFunc_int_b1_eq (idx : Int) (data : Option Addr) (dataL : Nat) (dataC : Nat) (a : Int) (length : Int) (random : Option Addr) (modulus : Int) (h : Hp) (nx0 : Int × Unit → Hp → Prop) (K : Value → Hp → Prop) : slices_breakPatternsCmpFunc_int_b1 idx data dataL dataC a length random modulus h nx0 K = (
  ∃ q2 : Int, Sx.Quo .i64 length 4 q2 ∧
  InR (q2 * 2) ∧
  InR (a + (q2 * 2)) ∧
  InR ((a + (q2 * 2)) + 1) ∧
  cond (decide (idx ≤ ((a + (q2 * 2)) + 1)))
  (HCalls Tryz.prog 102 #[.pointer random] h fun v2 h5 => ∃ r2 : Int, v2 = .int .u64 r2 ∧
  ∃ an1 : Int, Sx.And .u64 r2 (IntKind.u64.wrap (modulus - 1)) an1 ∧
  InR an1 ∧
  cond (decide (length ≤ an1))
  (InR (an1 - length) ∧
  slices_breakPatternsCmpFunc_int_b2 data dataL dataC a length random modulus idx (an1 - length) h5 nx0 K)
  (slices_breakPatternsCmpFunc_int_b2 data dataL dataC a length random modulus idx an1 h5 nx0 K))
  (K (.tuple #[]) h)) := by kernel_rfl
theorem slices_breakPatternsCmpFunc_int_b2_eq (data : Option Addr) (dataL : Nat) (dataC : Nat) (a : Int) (length : Int) (random : Option Addr) (modulus : Int) (idx : Int) (other : Int) (h : Hp) (nx0 : Int × Unit → Hp → Prop) (K : Value → Hp → Prop) : slices_breakPatternsCmpFunc_int_b2 data dataL dataC a length random modulus idx other h nx0 K = (
  InR (a + other) ∧
  InR (a + other) ∧
  (0 ≤ a + other ∧ a + other < (dataL : Int)) ∧
  NN data fun a1 =>
  ∃ n1 : Int, cell h (a1.add (Int.toNat (a + other) * 1)) = some (.int .i64 n1) ∧
  (0 ≤ idx ∧ idx < (dataL : Int)) ∧
  NN data fun a2 =>
  ∃ n2 : Int, cell h (a2.add (Int.toNat idx * 1)) = some (.int .i64 n2) ∧
  (0 ≤ idx ∧ idx < (dataL : Int)) ∧
  NN data fun a3 =>
  Wr h (a3.add (Int.toNat idx * 1)) (.int .i64 n1) fun h6 =>
  (0 ≤ a + other ∧ a + other < (dataL : Int)) ∧
  NN data fun a4 =>
  Wr h6 (a4.add (Int.toNat (a + other) * 1)) (.int .i64 n2) fun h7 =>
  slices_breakPatternsCmpFunc_int_b3 data dataL dataC a length random modulus idx h7 nx0 K) := by kernel_rfl
theorem slices_breakPatternsCmpFunc_int_b3_eq (data : Option Addr) (dataL : Nat) (dataC : Nat) (a : Int) (length : Int) (random : Option Addr) (modulus : Int) (idx : Int) (h : Hp) (nx0 : Int × Unit → Hp → Prop) (K : Value → Hp → Prop) : slices_breakPatternsCmpFunc_int_b3 data dataL dataC a length random modulus idx h nx0 K = (
  InR (idx + 1) ∧
  nx0 (idx + 1, ()) h) := by kernel_rfl
theorem slices_breakPatternsCmpFunc_int_call {data : Option Addr} {dataL : Nat} {dataC : Nat} {a : Int} {b : Int} {cmp : Value} {h : Hp} {K : Value → Hp → Prop} (hk : slices_breakPatternsCmpFunc_int_b0 data dataL dataC a b cmp h K) : HCalls Tryz.prog 81 #[.slice data dataL dataC, .int .i64 a, .int .i64 b, cmp] h K :=
  calls_of_snd slices_breakPatternsCmpFunc_int_an Tryz.func81 (c := bodyOf Tryz.f81) rfl Tryz.ntmps81 (Nat.le_of_ble_eq_true rfl) (snd_3 F_ok F_mixed) hk

/-! ### slices_choosePivotCmpFunc_int -/
def slices_choosePivotCmpFunc_int_an : Ann := .node none (.leaf) (.node none (.leaf) (.node none (.leaf) (.node none (.leaf) (.node none (.leaf) (.node none (.leaf) (.node (some [11, 13]) (.node none (.leaf) (.node none (.node (some [0, 3, 11, 12, 13, 14]) (.leaf) (.leaf)) (.leaf))) (.leaf)))))))
def slices_choosePivotCmpFunc_int_K0  (K : Value → Hp → Prop) : Exit → Env → Hp → Prop := retK Tryz.prog Tryz.f82.results.toList K
def slices_choosePivotCmpFunc_int_K1  (K : Value → Hp → Prop) : Exit → Env → Hp → Prop := thenE (fun env h => sx_1 Tryz.prog F 63 (cp [1, 1, 1, 1, 1, 1, 1] (bodyOf Tryz.f82)) (ap [1, 1, 1, 1, 1, 1, 1] slices_choosePivotCmpFunc_int_an) (rs [11, 13] env) h (slices_choosePivotCmpFunc_int_K0  K)) (slices_choosePivotCmpFunc_int_K0  K)
def slices_choosePivotCmpFunc_int_b0 (data : Option Addr) (dataL : Nat) (dataC : Nat) (a : Int) (b : Int) (cmp : Value) (h : Hp)  (K : Value → Hp → Prop) : Prop :=
  sx_2 Tryz.prog F 63 (cp [] (bodyOf Tryz.f82)) (ap [] slices_choosePivotCmpFunc_int_an) [(0, .slice data dataL dataC), (1, .int .i64 a), (2, .int .i64 b), (3, cmp)] h (slices_choosePivotCmpFunc_int_K0  K)
def slices_choosePivotCmpFunc_int_b1 (data : Option Addr) (dataL : Nat) (dataC : Nat) (cmp : Value) (swaps : Option Addr) (i : Int) (j : Int) (k : Int) (h : Hp)  (K : Value → Hp → Prop) : Prop :=
  sx_1 Tryz.prog F 63 (cp [1, 1, 1, 1, 1, 1, 0, 1, 0, 1] (bodyOf Tryz.f82)) (ap [1, 1, 1, 1, 1, 1, 0, 1, 0, 1] slices_choosePivotCmpFunc_int_an) [(0, .slice data dataL dataC), (3, cmp), (11, .pointer swaps), (12, .int .i64 i), (13, .int .i64 j), (14, .int .i64 k)] h (slices_choosePivotCmpFunc_int_K1  K)
def slices_choosePivotCmpFunc_int_b2 (swaps : Option Addr) (j : Int) (h : Hp)  (K : Value → Hp → Prop) : Prop :=
  sx_1 Tryz.prog F 63 (cp [1, 1, 1, 1, 1, 1, 1] (bodyOf Tryz.f82)) (ap [1, 1, 1, 1, 1, 1, 1] slices_choosePivotCmpFunc_int_an) [(11, .pointer swaps), (13, .int .i64 j)] h (slices_choosePivotCmpFunc_int_K0  K)
theorem slices_choosePivotCmpFunc_int_b0_eq (data : Option Addr) (dataL : Nat) (dataC : Nat) (a : Int) (b : Int) (cmp : Value) (h : Hp)  (K : Value → Hp → Prop) : slices_choosePivotCmpFunc_int_b0 data dataL dataC a b cmp h  K = (
  InR (b - a) ∧
  New h (.cells #[.int .i64 0] 3) fun b1 h1 =>
  ∃ q1 : Int, Sx.Quo .i64 (b - a) 4 q1 ∧
  InR (q1 * 1) ∧
  InR (a + (q1 * 1)) ∧
  ∃ q2 : Int, Sx.Quo .i64 (b - a) 4 q2 ∧
  InR (q2 * 2) ∧
  InR (a + (q2 * 2)) ∧
  ∃ q3 : Int, Sx.Quo .i64 (b - a) 4 q3 ∧
  InR (q3 * 3) ∧
  InR (a + (q3 * 3)) ∧
  cond (decide ((8 : Int) ≤ (b - a)))
  (cond (decide ((50 : Int) ≤ (b - a)))
  (HCalls Tryz.prog 103 #[.slice data dataL dataC, .int .i64 (a + (q1 * 1)), .pointer (some ⟨b1, 0, none⟩), cmp] h1 fun v1 h2 => ∃ r1 : Int, v1 = .int .i64 r1 ∧
  HCalls Tryz.prog 103 #[.slice data dataL dataC, .int .i64 (a + (q2 * 2)), .pointer (some ⟨b1, 0, none⟩), cmp] h2 fun v2 h3 => ∃ r2 : Int, v2 = .int .i64 r2 ∧
  HCalls Tryz.prog 103 #[.slice data dataL dataC, .int .i64 (a + (q3 * 3)), .pointer (some ⟨b1, 0, none⟩), cmp] h3 fun v3 h4 => ∃ r3 : Int, v3 = .int .i64 r3 ∧
  slices_choosePivotCmpFunc_int_b1 data dataL dataC cmp (some ⟨b1, 0, none⟩) r1 r2 r3 h4  K)
  (slices_choosePivotCmpFunc_int_b1 data dataL dataC cmp (some ⟨b1, 0, none⟩) (a + (q1 * 1)) (a + (q2 * 2)) (a + (q3 * 3)) h1  K))
  (slices_choosePivotCmpFunc_int_b2 (some ⟨b1, 0, none⟩) (a + (q2 * 2)) h1  K)) := by kernel_rfl
theorem slices_choosePivotCmpFunc_int_b1_eq (data : Option Addr) (dataL : Nat) (dataC : Nat) (cmp : Value) (swaps : Option Addr) (i : Int) (j : Int) (k : Int) (h : Hp)  (K : Value → Hp → Prop) : slices_choosePivotCmpFunc_int_b1 data dataL dataC cmp swaps i j k h  K = (
  HCalls Tryz.prog 104 #[.slice data dataL dataC, .int .i64 i, .int .i64 j, .int .i64 k, .pointer swaps, cmp] h fun v4 h5 => ∃ r4 : Int, v4 = .int .i64 r4 ∧
  slices_choosePivotCmpFunc_int_b2 swaps r4 h5  K) := by kernel_rfl
theorem slices_choosePivotCmpFunc_int_b2_eq (swaps : Option Addr) (j : Int) (h : Hp)  (K : Value → Hp → Prop) : slices_choosePivotCmpFunc_int_b2 swaps j h  K = (
  NN swaps fun a1 =>
  ∃ n1 : Int, cell h a1 = some (.int .i64 n1) ∧
  cond (decide (n1 = 0))
  (K (.tuple #[.int .i64 j, .int .i64 1]) h)
  (cond (decide (n1 = 12))
  (K (.tuple #[.int .i64 j, .int .i64 2]) h)
  (K (.tuple #[.int .i64 j, .int .i64 0]) h))) := by kernel_rfl
theorem slices_choosePivotCmpFunc_int_call {data : Option Addr} {dataL : Nat} {dataC : Nat} {a : Int} {b : Int} {cmp : Value} {h : Hp} {K : Value → Hp → Prop} (hk : slices_choosePivotCmpFunc_int_b0 data dataL dataC a b cmp h K) : HCalls Tryz.prog 82 #[.slice data dataL dataC, .int .i64 a, .int .i64 b, cmp] h K :=
  calls_of_snd slices_choosePivotCmpFunc_int_an Tryz.func82 (c := bodyOf Tryz.f82) rfl Tryz.ntmps82 (Nat.le_of_ble_eq_true rfl) (snd_2 F_ok F_mixed) hk

/-! ### slices_reverseRangeCmpFunc_int -/
def slices_reverseRangeCmpFunc_int_an : Ann := .node none (.leaf) (.node none (.leaf) (.loop [0] [(8, .int .i64), (9, .int .i64)] (.node none (.leaf) (.node none (.plan (.qu 0 (.qu 1 (.qu 2 (.qu 3 (.qu 4 (.qu 5 (.qu 6 (.qu 7 (.qu 8 (.qu 9 (.qu 10 (.qu 11 (.qu 12 (.wo 13 (.qu 14 (.wo 15 .fin .no)) .no))))))))))))))) (.leaf)))))
def slices_reverseRangeCmpFunc_int_K0  (K : Value → Hp → Prop) : Exit → Env → Hp → Prop := retK Tryz.prog Tryz.f83.results.toList K
def slices_reverseRangeCmpFunc_int_K1  (K : Value → Hp → Prop) : Exit → Env → Hp → Prop := blockE 0 (slices_reverseRangeCmpFunc_int_K0  K)
def slices_reverseRangeCmpFunc_int_K2 (nx0 : Int × Int × Unit → Hp → Prop) (K : Value → Hp → Prop) : Exit → Env → Hp → Prop := thenE (fun env h => getV [(8, .int .i64), (9, .int .i64)] env fun s => nx0 s h) (slices_reverseRangeCmpFunc_int_K1  K)
def slices_reverseRangeCmpFunc_int_b0 (data : Option Addr) (dataL : Nat) (dataC : Nat) (a : Int) (b : Int) (cmp : Value) (h : Hp)  (K : Value → Hp → Prop) : Prop :=
  sx_2 Tryz.prog F 34 (cp [] (bodyOf Tryz.f83)) (ap [] slices_reverseRangeCmpFunc_int_an) [(0, .slice data dataL dataC), (1, .int .i64 a), (2, .int .i64 b), (3, cmp)] h (slices_reverseRangeCmpFunc_int_K0  K)
def slices_reverseRangeCmpFunc_int_b1 (i : Int) (j : Int) (data : Option Addr) (dataL : Nat) (dataC : Nat) (h : Hp) (nx0 : Int × Int × Unit → Hp → Prop) (K : Value → Hp → Prop) : Prop :=
  sx_1 Tryz.prog F 34 (cp [1, 1, 2, 2] (bodyOf Tryz.f83)) (ap [1, 1, 2] slices_reverseRangeCmpFunc_int_an) [(8, .int .i64 i), (9, .int .i64 j), (0, .slice data dataL dataC)] h (slices_reverseRangeCmpFunc_int_K2 nx0 K)
theorem slices_reverseRangeCmpFunc_int_b0_eq (data : Option Addr) (dataL : Nat) (dataC : Nat) (a : Int) (b : Int) (cmp : Value) (h : Hp)  (K : Value → Hp → Prop) : slices_reverseRangeCmpFunc_int_b0 data dataL dataC a b cmp h  K = (
  InR (b - 1) ∧
  LoopVC ((a, b - 1, ()) : Int × Int × Unit) h (fun (nx0 : Int × Int × Unit → Hp → Prop) (s1 : Int × Int × Unit) h1 => slices_reverseRangeCmpFunc_int_b1 s1.1 s1.2.1 data dataL dataC h1 nx0 K)) := by kernel_rfl
theorem slices_reverseRangeCmpFunc_int_b1_eq (i : Int) (j : Int) (data : Option Addr) (dataL : Nat) (dataC : Nat) (h : Hp) (nx0 : Int × Int × Unit → Hp → Prop) (K : Value → Hp → Prop) : slices_reverseRangeCmpFunc_int_b1 i j data dataL dataC h nx0 K = (
  cond (decide (i < j))
  ((0 ≤ j ∧ j < (dataL : Int)) ∧
  NN data fun a1 =>
  ∃ n1 : Int, cell h (a1.add (Int.toNat j * 1)) = some (.int .i64 n1) ∧
  (0 ≤ i ∧ i < (dataL : Int)) ∧
  NN data fun a2 =>
  ∃ n2 : Int, cell h (a2.add (Int.toNat i * 1)) = some (.int .i64 n2) ∧
  (0 ≤ i ∧ i < (dataL : Int)) ∧
  NN data fun a3 =>
  Wr h (a3.add (Int.toNat i * 1)) (.int .i64 n1) fun h2 =>
  (0 ≤ j ∧ j < (dataL : Int)) ∧
  NN data fun a4 =>
  Wr h2 (a4.add (Int.toNat j * 1)) (.int .i64 n2) fun h3 =>
  InR (i + 1) ∧
  InR (j - 1) ∧
  nx0 (i + 1, j - 1, ()) h3)
  (K (.tuple #[]) h)) := by kernel_rfl
theorem slices_reverseRangeCmpFunc_int_call {data : Option Addr} {dataL : Nat} {dataC : Nat} {a : Int} {b : Int} {cmp : Value} {h : Hp} {K : Value → Hp → Prop} (hk : slices_reverseRangeCmpFunc_int_b0 data dataL dataC a b cmp h K) : HCalls Tryz.prog 83 #[.slice data dataL dataC, .int .i64 a, .int .i64 b, cmp] h K :=
  calls_of_snd slices_reverseRangeCmpFunc_int_an Tryz.func83 (c := bodyOf Tryz.f83) rfl Tryz.ntmps83 (Nat.le_of_ble_eq_true rfl) (snd_2 F_ok F_mixed) hk

/-! ### slices_partialInsertionSortCmpFunc_int -/
def slices_partialInsertionSortCmpFunc_int_an : Ann := .node none (.leaf) (.node none (.leaf) (.node (some []) (.node none (.leaf) (.loop [0, 1, 2, 3] [(9, .int .i64), (10, .int .i64)] (.node none (.leaf) (.node (some [0, 1, 2, 3, 9, 10]) (.node (some [0, 1, 2, 3, 9, 10]) (.loop [0, 1, 2, 3, 10] [(9, .int .i64)] (.node (some [0, 1, 2, 3, 9, 10]) (.node none (.tail 14) (.leaf)) (.leaf))) (.node none (.leaf) (.node none (.leaf) (.node none (.plan (.qu 0 (.qu 1 (.qu 2 (.qu 3 (.qu 4 (.qu 5 (.qu 6 (.qu 7 (.qu 8 (.qu 9 (.qu 10 (.qu 11 (.qu 12 (.qu 13 (.qu 14 (.wo 15 (.qu 16 (.wo 17 .fin .no)) .no))))))))))))))))) (.node (some [0, 1, 2, 3, 9, 10]) (.node none (.leaf) (.node none (.node none (.leaf) (.loop [0, 1, 2, 3, 9, 10] [(11, .int .i64)] (.node none (.leaf) (.node (some [0, 1, 2, 3, 9, 10, 11]) (.node none (.node none (.tail 10) (.leaf)) (.plan (.qu 0 (.qu 1 (.qu 2 (.qu 3 (.qu 4 (.qu 5 (.qu 6 (.qu 7 (.qu 8 (.qu 9 (.qu 10 (.qu 11 (.qu 12 (.qu 13 (.qu 14 (.wo 15 (.qu 16 (.wo 17 .fin .no)) .no)))))))))))))))))) (.leaf))))) (.leaf))) (.node none (.leaf) (.node none (.node none (.leaf) (.loop [0, 1, 2, 3, 9, 10] [(12, .int .i64)] (.node none (.leaf) (.node (some [0, 1, 2, 3, 9, 10, 12]) (.node none (.node none (.tail 10) (.leaf)) (.plan (.qu 0 (.qu 1 (.qu 2 (.qu 3 (.qu 4 (.qu 5 (.qu 6 (.qu 7 (.qu 8 (.qu 9 (.qu 10 (.qu 11 (.qu 12 (.qu 13 (.qu 14 (.wo 15 (.qu 16 (.wo 17 .fin .no)) .no)))))))))))))))))) (.leaf))))) (.leaf)))))))) (.leaf))))) (.leaf)))
def slices_partialInsertionSortCmpFunc_int_K0  (K : Value → Hp → Prop) : Exit → Env → Hp → Prop := retK Tryz.prog Tryz.f84.results.toList K
def slices_partialInsertionSortCmpFunc_int_K1  (K : Value → Hp → Prop) : Exit → Env → Hp → Prop := thenE (fun env h => sx_5 Tryz.prog F 141 (cp [1, 1, 1] (bodyOf Tryz.f84)) (ap [1, 1, 1] slices_partialInsertionSortCmpFunc_int_an) (rs [] env) h (slices_partialInsertionSortCmpFunc_int_K0  K)) (slices_partialInsertionSortCmpFunc_int_K0  K)
def slices_partialInsertionSortCmpFunc_int_K2  (K : Value → Hp → Prop) : Exit → Env → Hp → Prop := blockE 0 (slices_partialInsertionSortCmpFunc_int_K1  K)
def slices_partialInsertionSortCmpFunc_int_K3 (nx0 : Int × Int × Unit → Hp → Prop) (K : Value → Hp → Prop) : Exit → Env → Hp → Prop := thenE (fun env h => getV [(9, .int .i64), (10, .int .i64)] env fun s => nx0 s h) (slices_partialInsertionSortCmpFunc_int_K2  K)
def slices_partialInsertionSortCmpFunc_int_K4 (nx0 : Int × Int × Unit → Hp → Prop) (K : Value → Hp → Prop) : Exit → Env → Hp → Prop := thenE (fun env h => sx_4 Tryz.prog F 141 (cp [1, 1, 0, 1, 2, 2, 1, 1] (bodyOf Tryz.f84)) (ap [1, 1, 0, 1, 2, 1, 1] slices_partialInsertionSortCmpFunc_int_an) (rs [0, 1, 2, 3, 9, 10] env) h (slices_partialInsertionSortCmpFunc_int_K3 nx0 K)) (slices_partialInsertionSortCmpFunc_int_K3 nx0 K)
def slices_partialInsertionSortCmpFunc_int_K5 (nx0 : Int × Int × Unit → Hp → Prop) (K : Value → Hp → Prop) : Exit → Env → Hp → Prop := blockE 1 (slices_partialInsertionSortCmpFunc_int_K4 nx0 K)
def slices_partialInsertionSortCmpFunc_int_K6 (nx0 : Int × Int × Unit → Hp → Prop) (K : Value → Hp → Prop) : Exit → Env → Hp → Prop := thenE (fun env h => sx_4 Tryz.prog F 141 (cp [1, 1, 0, 1, 2, 2, 1, 0, 2, 1] (bodyOf Tryz.f84)) (ap [1, 1, 0, 1, 2, 1, 0, 1] slices_partialInsertionSortCmpFunc_int_an) (rs [0, 1, 2, 3, 9, 10] env) h (slices_partialInsertionSortCmpFunc_int_K5 nx0 K)) (slices_partialInsertionSortCmpFunc_int_K5 nx0 K)
def slices_partialInsertionSortCmpFunc_int_K7 (nx0 : Int × Int × Unit → Hp → Prop) (K : Value → Hp → Prop) : Exit → Env → Hp → Prop := blockE 2 (slices_partialInsertionSortCmpFunc_int_K6 nx0 K)
def slices_partialInsertionSortCmpFunc_int_K8 (nx0 : Int × Int × Unit → Hp → Prop) (nx1 : Int × Unit → Hp → Prop) (K : Value → Hp → Prop) : Exit → Env → Hp → Prop := thenE (fun env h => getV [(9, .int .i64)] env fun s => nx1 s h) (slices_partialInsertionSortCmpFunc_int_K7 nx0 K)
def slices_partialInsertionSortCmpFunc_int_K9 (nx0 : Int × Int × Unit → Hp → Prop) (K : Value → Hp → Prop) : Exit → Env → Hp → Prop := thenE (fun env h => sx_3 Tryz.prog F 141 (cp [1, 1, 0, 1, 2, 2, 1, 0, 2, 1, 1, 1, 1, 1] (bodyOf Tryz.f84)) (ap [1, 1, 0, 1, 2, 1, 0, 1, 1, 1, 1, 1] slices_partialInsertionSortCmpFunc_int_an) (rs [0, 1, 2, 3, 9, 10] env) h (slices_partialInsertionSortCmpFunc_int_K5 nx0 K)) (slices_partialInsertionSortCmpFunc_int_K5 nx0 K)
def slices_partialInsertionSortCmpFunc_int_K10 (nx0 : Int × Int × Unit → Hp → Prop) (K : Value → Hp → Prop) : Exit → Env → Hp → Prop := blockE 4 (slices_partialInsertionSortCmpFunc_int_K9 nx0 K)
def slices_partialInsertionSortCmpFunc_int_K11 (nx0 : Int × Int × Unit → Hp → Prop) (nx1 : Int × Unit → Hp → Prop) (K : Value → Hp → Prop) : Exit → Env → Hp → Prop := thenE (fun env h => getV [(11, .int .i64)] env fun s => nx1 s h) (slices_partialInsertionSortCmpFunc_int_K10 nx0 K)
def slices_partialInsertionSortCmpFunc_int_K12 (nx0 : Int × Int × Unit → Hp → Prop) (K : Value → Hp → Prop) : Exit → Env → Hp → Prop := blockE 6 (slices_partialInsertionSortCmpFunc_int_K5 nx0 K)
def slices_partialInsertionSortCmpFunc_int_K13 (nx0 : Int × Int × Unit → Hp → Prop) (nx1 : Int × Unit → Hp → Prop) (K : Value → Hp → Prop) : Exit → Env → Hp → Prop := thenE (fun env h => getV [(12, .int .i64)] env fun s => nx1 s h) (slices_partialInsertionSortCmpFunc_int_K12 nx0 K)
def slices_partialInsertionSortCmpFunc_int_b0 (data : Option Addr) (dataL : Nat) (dataC : Nat) (a : Int) (b : Int) (cmp : Value) (h : Hp)  (K : Value → Hp → Prop) : Prop :=
  sx_6 Tryz.prog F 141 (cp [] (bodyOf Tryz.f84)) (ap [] slices_partialInsertionSortCmpFunc_int_an) [(0, .slice data dataL dataC), (1, .int .i64 a), (2, .int .i64 b), (3, cmp)] h (slices_partialInsertionSortCmpFunc_int_K0  K)
def slices_partialInsertionSortCmpFunc_int_b1 (i : Int) (j : Int) (data : Option Addr) (dataL : Nat) (dataC : Nat) (a : Int) (b : Int) (cmp : Value) (h : Hp) (nx0 : Int × Int × Unit → Hp → Prop) (K : Value → Hp → Prop) : Prop :=
  sx_5 Tryz.prog F 141 (cp [1, 1, 0, 1, 2, 2] (bodyOf Tryz.f84)) (ap [1, 1, 0, 1, 2] slices_partialInsertionSortCmpFunc_int_an) [(9, .int .i64 i), (10, .int .i64 j), (0, .slice data dataL dataC), (1, .int .i64 a), (2, .int .i64 b), (3, cmp)] h (slices_partialInsertionSortCmpFunc_int_K3 nx0 K)
def slices_partialInsertionSortCmpFunc_int_b2 (i : Int) (data : Option Addr) (dataL : Nat) (dataC : Nat) (a : Int) (b : Int) (cmp : Value) (j : Int) (h : Hp) (nx0 : Int × Int × Unit → Hp → Prop) (nx1 : Int × Unit → Hp → Prop) (K : Value → Hp → Prop) : Prop :=
  sx_4 Tryz.prog F 141 (cp [1, 1, 0, 1, 2, 2, 1, 0, 2, 0, 2, 2] (bodyOf Tryz.f84)) (ap [1, 1, 0, 1, 2, 1, 0, 0, 2] slices_partialInsertionSortCmpFunc_int_an) [(9, .int .i64 i), (0, .slice data dataL dataC), (1, .int .i64 a), (2, .int .i64 b), (3, cmp), (10, .int .i64 j)] h (slices_partialInsertionSortCmpFunc_int_K8 nx0 nx1 K)
def slices_partialInsertionSortCmpFunc_int_b3  (h : Hp)  (K : Value → Hp → Prop) : Prop :=
  sx_5 Tryz.prog F 141 (cp [1, 1, 1] (bodyOf Tryz.f84)) (ap [1, 1, 1] slices_partialInsertionSortCmpFunc_int_an) [] h (slices_partialInsertionSortCmpFunc_int_K0  K)
def slices_partialInsertionSortCmpFunc_int_b4 (data : Option Addr) (dataL : Nat) (dataC : Nat) (a : Int) (b : Int) (cmp : Value) (i : Int) (j : Int) (h : Hp) (nx0 : Int × Int × Unit → Hp → Prop) (nx1 : Int × Unit → Hp → Prop) (K : Value → Hp → Prop) : Prop :=
  sx_3 Tryz.prog F 141 (cp [1, 1, 0, 1, 2, 2, 1, 0, 2, 0, 2, 2, 1] (bodyOf Tryz.f84)) (ap [1, 1, 0, 1, 2, 1, 0, 0, 2, 1] slices_partialInsertionSortCmpFunc_int_an) [(0, .slice data dataL dataC), (1, .int .i64 a), (2, .int .i64 b), (3, cmp), (9, .int .i64 i), (10, .int .i64 j)] h (slices_partialInsertionSortCmpFunc_int_K8 nx0 nx1 K)
def slices_partialInsertionSortCmpFunc_int_b5 (data : Option Addr) (dataL : Nat) (dataC : Nat) (a : Int) (b : Int) (cmp : Value) (i : Int) (j : Int) (h : Hp) (nx0 : Int × Int × Unit → Hp → Prop) (K : Value → Hp → Prop) : Prop :=
  sx_4 Tryz.prog F 141 (cp [1, 1, 0, 1, 2, 2, 1, 0, 2, 1] (bodyOf Tryz.f84)) (ap [1, 1, 0, 1, 2, 1, 0, 1] slices_partialInsertionSortCmpFunc_int_an) [(0, .slice data dataL dataC), (1, .int .i64 a), (2, .int .i64 b), (3, cmp), (9, .int .i64 i), (10, .int .i64 j)] h (slices_partialInsertionSortCmpFunc_int_K5 nx0 K)
def slices_partialInsertionSortCmpFunc_int_b6 (j : Int) (data : Option Addr) (dataL : Nat) (dataC : Nat) (a : Int) (b : Int) (cmp : Value) (i : Int) (j_10 : Int) (h : Hp) (nx0 : Int × Int × Unit → Hp → Prop) (nx1 : Int × Unit → Hp → Prop) (K : Value → Hp → Prop) : Prop :=
  sx_3 Tryz.prog F 141 (cp [1, 1, 0, 1, 2, 2, 1, 0, 2, 1, 1, 1, 1, 0, 1, 0, 1, 2, 2] (bodyOf Tryz.f84)) (ap [1, 1, 0, 1, 2, 1, 0, 1, 1, 1, 1, 0, 1, 0, 1, 2] slices_partialInsertionSortCmpFunc_int_an) [(11, .int .i64 j), (0, .slice data dataL dataC), (1, .int .i64 a), (2, .int .i64 b), (3, cmp), (9, .int .i64 i), (10, .int .i64 j_10)] h (slices_partialInsertionSortCmpFunc_int_K11 nx0 nx1 K)
def slices_partialInsertionSortCmpFunc_int_b7 (data : Option Addr) (dataL : Nat) (dataC : Nat) (a : Int) (b : Int) (cmp : Value) (i : Int) (j : Int) (h : Hp) (nx0 : Int × Int × Unit → Hp → Prop) (K : Value → Hp → Prop) : Prop :=
  sx_3 Tryz.prog F 141 (cp [1, 1, 0, 1, 2, 2, 1, 0, 2, 1, 1, 1, 1, 1] (bodyOf Tryz.f84)) (ap [1, 1, 0, 1, 2, 1, 0, 1, 1, 1, 1, 1] slices_partialInsertionSortCmpFunc_int_an) [(0, .slice data dataL dataC), (1, .int .i64 a), (2, .int .i64 b), (3, cmp), (9, .int .i64 i), (10, .int .i64 j)] h (slices_partialInsertionSortCmpFunc_int_K5 nx0 K)
def slices_partialInsertionSortCmpFunc_int_b8 (data : Option Addr) (dataL : Nat) (dataC : Nat) (a : Int) (b : Int) (cmp : Value) (i : Int) (j : Int) (j_11 : Int) (h : Hp) (nx0 : Int × Int × Unit → Hp → Prop) (nx1 : Int × Unit → Hp → Prop) (K : Value → Hp → Prop) : Prop :=
  sx_2 Tryz.prog F 141 (cp [1, 1, 0, 1, 2, 2, 1, 0, 2, 1, 1, 1, 1, 0, 1, 0, 1, 2, 2, 1, 1] (bodyOf Tryz.f84)) (ap [1, 1, 0, 1, 2, 1, 0, 1, 1, 1, 1, 0, 1, 0, 1, 2, 1, 1] slices_partialInsertionSortCmpFunc_int_an) [(0, .slice data dataL dataC), (1, .int .i64 a), (2, .int .i64 b), (3, cmp), (9, .int .i64 i), (10, .int .i64 j), (11, .int .i64 j_11)] h (slices_partialInsertionSortCmpFunc_int_K11 nx0 nx1 K)
def slices_partialInsertionSortCmpFunc_int_b9 (j : Int) (data : Option Addr) (dataL : Nat) (dataC : Nat) (a : Int) (b : Int) (cmp : Value) (i : Int) (j_10 : Int) (h : Hp) (nx0 : Int × Int × Unit → Hp → Prop) (nx1 : Int × Unit → Hp → Prop) (K : Value → Hp → Prop) : Prop :=
  sx_2 Tryz.prog F 141 (cp [1, 1, 0, 1, 2, 2, 1, 0, 2, 1, 1, 1, 1, 1, 1, 0, 1, 2, 2] (bodyOf Tryz.f84)) (ap [1, 1, 0, 1, 2, 1, 0, 1, 1, 1, 1, 1, 1, 0, 1, 2] slices_partialInsertionSortCmpFunc_int_an) [(12, .int .i64 j), (0, .slice data dataL dataC), (1, .int .i64 a), (2, .int .i64 b), (3, cmp), (9, .int .i64 i), (10, .int .i64 j_10)] h (slices_partialInsertionSortCmpFunc_int_K13 nx0 nx1 K)
def slices_partialInsertionSortCmpFunc_int_b10 (data : Option Addr) (dataL : Nat) (dataC : Nat) (a : Int) (b : Int) (cmp : Value) (i : Int) (j : Int) (h : Hp) (nx0 : Int × Int × Unit → Hp → Prop) (K : Value → Hp → Prop) : Prop :=
  sx_4 Tryz.prog F 141 (cp [1, 1, 0, 1, 2, 2, 1, 1] (bodyOf Tryz.f84)) (ap [1, 1, 0, 1, 2, 1, 1] slices_partialInsertionSortCmpFunc_int_an) [(0, .slice data dataL dataC), (1, .int .i64 a), (2, .int .i64 b), (3, cmp), (9, .int .i64 i), (10, .int .i64 j)] h (slices_partialInsertionSortCmpFunc_int_K3 nx0 K)
def slices_partialInsertionSortCmpFunc_int_b11 (data : Option Addr) (dataL : Nat) (dataC : Nat) (a : Int) (b : Int) (cmp : Value) (i : Int) (j : Int) (j_12 : Int) (h : Hp) (nx0 : Int × Int × Unit → Hp → Prop) (nx1 : Int × Unit → Hp → Prop) (K : Value → Hp → Prop) : Prop :=
  sx_1 Tryz.prog F 141 (cp [1, 1, 0, 1, 2, 2, 1, 0, 2, 1, 1, 1, 1, 1, 1, 0, 1, 2, 2, 1, 1] (bodyOf Tryz.f84)) (ap [1, 1, 0, 1, 2, 1, 0, 1, 1, 1, 1, 1, 1, 0, 1, 2, 1, 1] slices_partialInsertionSortCmpFunc_int_an) [(0, .slice data dataL dataC), (1, .int .i64 a), (2, .int .i64 b), (3, cmp), (9, .int .i64 i), (10, .int .i64 j), (12, .int .i64 j_12)] h (slices_partialInsertionSortCmpFunc_int_K13 nx0 nx1 K)
theorem slices_partialInsertionSortCmpFunc_int_b0_eq (data : Option Addr) (dataL : Nat) (dataC : Nat) (a : Int) (b : Int) (cmp : Value) (h : Hp)  (K : Value → Hp → Prop) : slices_partialInsertionSortCmpFunc_int_b0 data dataL dataC a b cmp h  K = (
  InR (a + 1) ∧
  LoopVC ((a + 1, 0, ()) : Int × Int × Unit) h (fun (nx0 : Int × Int × Unit → Hp → Prop) (s1 : Int × Int × Unit) h1 => slices_partialInsertionSortCmpFunc_int_b1 s1.1 s1.2.1 data dataL dataC a b cmp h1 nx0 K)) := by kernel_rfl
theorem slices_partialInsertionSortCmpFunc_int_b1_eq (i : Int) (j : Int) (data : Option Addr) (dataL : Nat) (dataC : Nat) (a : Int) (b : Int) (cmp : Value) (h : Hp) (nx0 : Int × Int × Unit → Hp → Prop) (K : Value → Hp → Prop) : slices_partialInsertionSortCmpFunc_int_b1 i j data dataL dataC a b cmp h nx0 K = (
  cond (decide (j < 5))
  (LoopVC ((i, ()) : Int × Unit) h (fun (nx1 : Int × Unit → Hp → Prop) (s2 : Int × Unit) h2 => slices_partialInsertionSortCmpFunc_int_b2 s2.1 data dataL dataC a b cmp j h2 nx0 nx1 K))
  (slices_partialInsertionSortCmpFunc_int_b3  h  K)) := by kernel_rfl
theorem slices_partialInsertionSortCmpFunc_int_b2_eq (i : Int) (data : Option Addr) (dataL : Nat) (dataC : Nat) (a : Int) (b : Int) (cmp : Value) (j : Int) (h : Hp) (nx0 : Int × Int × Unit → Hp → Prop) (nx1 : Int × Unit → Hp → Prop) (K : Value → Hp → Prop) : slices_partialInsertionSortCmpFunc_int_b2 i data dataL dataC a b cmp j h nx0 nx1 K = (
  cond (decide (i < b))
  ((0 ≤ i ∧ i < (dataL : Int)) ∧
  NN data fun a1 =>
  ∃ n1 : Int, cell h (a1.add (Int.toNat i * 1)) = some (.int .i64 n1) ∧
  InR (i - 1) ∧
  (0 ≤ i - 1 ∧ i - 1 < (dataL : Int)) ∧
  NN data fun a2 =>
  ∃ n2 : Int, cell h (a2.add (Int.toNat (i - 1) * 1)) = some (.int .i64 n2) ∧
  funV cmp fun fg1 fa1 fc1 => callX Tryz.prog F fg1 (fa1 ++ (([.int .i64 n1, .int .i64 n2] : List Value) ++ fc1)).toArray h fun v1 h3 => ∃ r1 : Int, v1 = .int .i64 r1 ∧
  cond (!(decide (r1 < 0)))
  (slices_partialInsertionSortCmpFunc_int_b4 data dataL dataC a b cmp i j h3 nx0 nx1 K)
  (slices_partialInsertionSortCmpFunc_int_b5 data dataL dataC a b cmp i j h3 nx0 K))
  (slices_partialInsertionSortCmpFunc_int_b5 data dataL dataC a b cmp i j h nx0 K)) := by kernel_rfl
theorem slices_partialInsertionSortCmpFunc_int_b3_eq  (h : Hp)  (K : Value → Hp → Prop) : slices_partialInsertionSortCmpFunc_int_b3  h  K = (
  K (.bool false) h) := by kernel_rfl
theorem slices_partialInsertionSortCmpFunc_int_b4_eq (data : Option Addr) (dataL : Nat) (dataC : Nat) (a : Int) (b : Int) (cmp : Value) (i : Int) (j : Int) (h : Hp) (nx0 : Int × Int × Unit → Hp → Prop) (nx1 : Int × Unit → Hp → Prop) (K : Value → Hp → Prop) : slices_partialInsertionSortCmpFunc_int_b4 data dataL dataC a b cmp i j h nx0 nx1 K = (
  InR (i + 1) ∧
  nx1 (i + 1, ()) h) := by kernel_rfl
theorem slices_partialInsertionSortCmpFunc_int_b5_eq (data : Option Addr) (dataL : Nat) (dataC : Nat) (a : Int) (b : Int) (cmp : Value) (i : Int) (j : Int) (h : Hp) (nx0 : Int × Int × Unit → Hp → Prop) (K : Value → Hp → Prop) : slices_partialInsertionSortCmpFunc_int_b5 data dataL dataC a b cmp i j h nx0 K = (
  cond (decide (i = b))
  (K (.bool true) h)
  (InR (b - a) ∧
  cond (decide ((b - a) < 50))
  (K (.bool false) h)
  (InR (i - 1) ∧
  InR (i - 1) ∧
  (0 ≤ i - 1 ∧ i - 1 < (dataL : Int)) ∧
  NN data fun a3 =>
  ∃ n3 : Int, cell h (a3.add (Int.toNat (i - 1) * 1)) = some (.int .i64 n3) ∧
  (0 ≤ i ∧ i < (dataL : Int)) ∧
  NN data fun a4 =>
  ∃ n4 : Int, cell h (a4.add (Int.toNat i * 1)) = some (.int .i64 n4) ∧
  (0 ≤ i ∧ i < (dataL : Int)) ∧
  NN data fun a5 =>
  Wr h (a5.add (Int.toNat i * 1)) (.int .i64 n3) fun h4 =>
  (0 ≤ i - 1 ∧ i - 1 < (dataL : Int)) ∧
  NN data fun a6 =>
  Wr h4 (a6.add (Int.toNat (i - 1) * 1)) (.int .i64 n4) fun h5 =>
  InR (i - a) ∧
  cond (decide ((2 : Int) ≤ (i - a)))
  (InR (i - 1) ∧
  LoopVC ((i - 1, ()) : Int × Unit) h5 (fun (nx1 : Int × Unit → Hp → Prop) (s3 : Int × Unit) h6 => slices_partialInsertionSortCmpFunc_int_b6 s3.1 data dataL dataC a b cmp i j h6 nx0 nx1 K))
  (slices_partialInsertionSortCmpFunc_int_b7 data dataL dataC a b cmp i j h5 nx0 K)))) := by kernel_rfl
theorem slices_partialInsertionSortCmpFunc_int_b6_eq (j : Int) (data : Option Addr) (dataL : Nat) (dataC : Nat) (a : Int) (b : Int) (cmp : Value) (i : Int) (j_10 : Int) (h : Hp) (nx0 : Int × Int × Unit → Hp → Prop) (nx1 : Int × Unit → Hp → Prop) (K : Value → Hp → Prop) : slices_partialInsertionSortCmpFunc_int_b6 j data dataL dataC a b cmp i j_10 h nx0 nx1 K = (
  cond (decide ((1 : Int) ≤ j))
  ((0 ≤ j ∧ j < (dataL : Int)) ∧
  NN data fun a7 =>
  ∃ n5 : Int, cell h (a7.add (Int.toNat j * 1)) = some (.int .i64 n5) ∧
  InR (j - 1) ∧
  (0 ≤ j - 1 ∧ j - 1 < (dataL : Int)) ∧
  NN data fun a8 =>
  ∃ n6 : Int, cell h (a8.add (Int.toNat (j - 1) * 1)) = some (.int .i64 n6) ∧
  funV cmp fun fg2 fa2 fc2 => callX Tryz.prog F fg2 (fa2 ++ (([.int .i64 n5, .int .i64 n6] : List Value) ++ fc2)).toArray h fun v2 h7 => ∃ r2 : Int, v2 = .int .i64 r2 ∧
  cond (!(decide (r2 < 0)))
  (slices_partialInsertionSortCmpFunc_int_b7 data dataL dataC a b cmp i j_10 h7 nx0 K)
  (InR (j - 1) ∧
  InR (j - 1) ∧
  (0 ≤ j - 1 ∧ j - 1 < (dataL : Int)) ∧
  NN data fun a9 =>
  ∃ n7 : Int, cell h7 (a9.add (Int.toNat (j - 1) * 1)) = some (.int .i64 n7) ∧
  (0 ≤ j ∧ j < (dataL : Int)) ∧
  NN data fun a10 =>
  ∃ n8 : Int, cell h7 (a10.add (Int.toNat j * 1)) = some (.int .i64 n8) ∧
  (0 ≤ j ∧ j < (dataL : Int)) ∧
  NN data fun a11 =>
  Wr h7 (a11.add (Int.toNat j * 1)) (.int .i64 n7) fun h8 =>
  (0 ≤ j - 1 ∧ j - 1 < (dataL : Int)) ∧
  NN data fun a12 =>
  Wr h8 (a12.add (Int.toNat (j - 1) * 1)) (.int .i64 n8) fun h9 =>
  slices_partialInsertionSortCmpFunc_int_b8 data dataL dataC a b cmp i j_10 j h9 nx0 nx1 K))
  (slices_partialInsertionSortCmpFunc_int_b7 data dataL dataC a b cmp i j_10 h nx0 K)) := by kernel_rfl
theorem slices_partialInsertionSortCmpFunc_int_b7_eq (data : Option Addr) (dataL : Nat) (dataC : Nat) (a : Int) (b : Int) (cmp : Value) (i : Int) (j : Int) (h : Hp) (nx0 : Int × Int × Unit → Hp → Prop) (K : Value → Hp → Prop) : slices_partialInsertionSortCmpFunc_int_b7 data dataL dataC a b cmp i j h nx0 K = (
  InR (b - i) ∧
  cond (decide ((2 : Int) ≤ (b - i)))
  (InR (i + 1) ∧
  LoopVC ((i + 1, ()) : Int × Unit) h (fun (nx1 : Int × Unit → Hp → Prop) (s4 : Int × Unit) h10 => slices_partialInsertionSortCmpFunc_int_b9 s4.1 data dataL dataC a b cmp i j h10 nx0 nx1 K))
  (slices_partialInsertionSortCmpFunc_int_b10 data dataL dataC a b cmp i j h nx0 K)) := by kernel_rfl
theorem slices_partialInsertionSortCmpFunc_int_b8_eq (data : Option Addr) (dataL : Nat) (dataC : Nat) (a : Int) (b : Int) (cmp : Value) (i : Int) (j : Int) (j_11 : Int) (h : Hp) (nx0 : Int × Int × Unit → Hp → Prop) (nx1 : Int × Unit → Hp → Prop) (K : Value → Hp → Prop) : slices_partialInsertionSortCmpFunc_int_b8 data dataL dataC a b cmp i j j_11 h nx0 nx1 K = (
  InR (j_11 - 1) ∧
  nx1 (j_11 - 1, ()) h) := by kernel_rfl
theorem slices_partialInsertionSortCmpFunc_int_b9_eq (j : Int) (data : Option Addr) (dataL : Nat) (dataC : Nat) (a : Int) (b : Int) (cmp : Value) (i : Int) (j_10 : Int) (h : Hp) (nx0 : Int × Int × Unit → Hp → Prop) (nx1 : Int × Unit → Hp → Prop) (K : Value → Hp → Prop) : slices_partialInsertionSortCmpFunc_int_b9 j data dataL dataC a b cmp i j_10 h nx0 nx1 K = (
  cond (decide (j < b))
  ((0 ≤ j ∧ j < (dataL : Int)) ∧
  NN data fun a13 =>
  ∃ n9 : Int, cell h (a13.add (Int.toNat j * 1)) = some (.int .i64 n9) ∧
  InR (j - 1) ∧
  (0 ≤ j - 1 ∧ j - 1 < (dataL : Int)) ∧
  NN data fun a14 =>
  ∃ n10 : Int, cell h (a14.add (Int.toNat (j - 1) * 1)) = some (.int .i64 n10) ∧
  funV cmp fun fg3 fa3 fc3 => callX Tryz.prog F fg3 (fa3 ++ (([.int .i64 n9, .int .i64 n10] : List Value) ++ fc3)).toArray h fun v3 h11 => ∃ r3 : Int, v3 = .int .i64 r3 ∧
  cond (!(decide (r3 < 0)))
  (slices_partialInsertionSortCmpFunc_int_b10 data dataL dataC a b cmp i j_10 h11 nx0 K)
  (InR (j - 1) ∧
  InR (j - 1) ∧
  (0 ≤ j - 1 ∧ j - 1 < (dataL : Int)) ∧
  NN data fun a15 =>
  ∃ n11 : Int, cell h11 (a15.add (Int.toNat (j - 1) * 1)) = some (.int .i64 n11) ∧
  (0 ≤ j ∧ j < (dataL : Int)) ∧
  NN data fun a16 =>
  ∃ n12 : Int, cell h11 (a16.add (Int.toNat j * 1)) = some (.int .i64 n12) ∧
  (0 ≤ j ∧ j < (dataL : Int)) ∧
  NN data fun a17 =>
  Wr h11 (a17.add (Int.toNat j * 1)) (.int .i64 n11) fun h12 =>
  (0 ≤ j - 1 ∧ j - 1 < (dataL : Int)) ∧
  NN data fun a18 =>
  Wr h12 (a18.add (Int.toNat (j - 1) * 1)) (.int .i64 n12) fun h13 =>
  slices_partialInsertionSortCmpFunc_int_b11 data dataL dataC a b cmp i j_10 j h13 nx0 nx1 K))
  (slices_partialInsertionSortCmpFunc_int_b10 data dataL dataC a b cmp i j_10 h nx0 K)) := by kernel_rfl
theorem slices_partialInsertionSortCmpFunc_int_b10_eq (data : Option Addr) (dataL : Nat) (dataC : Nat) (a : Int) (b : Int) (cmp : Value) (i : Int) (j : Int) (h : Hp) (nx0 : Int × Int × Unit → Hp → Prop) (K : Value → Hp → Prop) : slices_partialInsertionSortCmpFunc_int_b10 data dataL dataC a b cmp i j h nx0 K = (
  InR (j + 1) ∧
  nx0 (i, j + 1, ()) h) := by kernel_rfl
theorem slices_partialInsertionSortCmpFunc_int_b11_eq (data : Option Addr) (dataL : Nat) (dataC : Nat) (a : Int) (b : Int) (cmp : Value) (i : Int) (j : Int) (j_12 : Int) (h : Hp) (nx0 : Int × Int × Unit → Hp → Prop) (nx1 : Int × Unit → Hp → Prop) (K : Value → Hp → Prop) : slices_partialInsertionSortCmpFunc_int_b11 data dataL dataC a b cmp i j j_12 h nx0 nx1 K = (
  InR (j_12 + 1) ∧
  nx1 (j_12 + 1, ()) h) := by kernel_rfl
theorem slices_partialInsertionSortCmpFunc_int_call {data : Option Addr} {dataL : Nat} {dataC : Nat} {a : Int} {b : Int} {cmp : Value} {h : Hp} {K : Value → Hp → Prop} (hk : slices_partialInsertionSortCmpFunc_int_b0 data dataL dataC a b cmp h K) : HCalls Tryz.prog 84 #[.slice data dataL dataC, .int .i64 a, .int .i64 b, cmp] h K :=
  calls_of_snd slices_partialInsertionSortCmpFunc_int_an Tryz.func84 (c := bodyOf Tryz.f84) rfl Tryz.ntmps84 (Nat.le_of_ble_eq_true rfl) (snd_6 F_ok F_mixed) hk

/-! ### slices_partitionEqualCmpFunc_int -/
def slices_partitionEqualCmpFunc_int_an : Ann := .node none (.leaf) (.node none (.plan (.qu 0 (.qu 1 (.qu 2 (.qu 3 (.qu 4 (.qu 5 (.qu 6 (.qu 7 (.qu 8 (.qu 9 (.qu 10 (.qu 11 (.qu 12 (.wo 13 (.qu 14 (.wo 15 .fin .no)) .no))))))))))))))) (.node none (.leaf) (.node (some [11]) (.loop [0, 1, 4] [(11, .int .i64), (12, .int .i64)] (.node (some [0, 1, 4, 11, 12]) (.loop [0, 1, 4, 12] [(11, .int .i64)] (.node (some [0, 1, 4, 11, 12]) (.node none (.tail 13) (.leaf)) (.leaf))) (.node (some [0, 1, 4, 11, 12]) (.loop [0, 1, 4, 11] [(12, .int .i64)] (.node (some [0, 1, 4, 11, 12]) (.node none (.tail 13) (.leaf)) (.leaf))) (.node none (.leaf) (.node none (.plan (.qu 0 (.qu 1 (.qu 2 (.qu 3 (.qu 4 (.qu 5 (.qu 6 (.qu 7 (.qu 8 (.qu 9 (.qu 10 (.qu 11 (.qu 12 (.wo 13 (.qu 14 (.wo 15 .fin .no)) .no))))))))))))))) (.leaf)))))) (.leaf))))
def slices_partitionEqualCmpFunc_int_K0  (K : Value → Hp → Prop) : Exit → Env → Hp → Prop := retK Tryz.prog Tryz.f85.results.toList K
def slices_partitionEqualCmpFunc_int_K1  (K : Value → Hp → Prop) : Exit → Env → Hp → Prop := thenE (fun env h => sx_4 Tryz.prog F 90 (cp [1, 1, 1, 1] (bodyOf Tryz.f85)) (ap [1, 1, 1, 1] slices_partitionEqualCmpFunc_int_an) (rs [11] env) h (slices_partitionEqualCmpFunc_int_K0  K)) (slices_partitionEqualCmpFunc_int_K0  K)
def slices_partitionEqualCmpFunc_int_K2  (K : Value → Hp → Prop) : Exit → Env → Hp → Prop := blockE 0 (slices_partitionEqualCmpFunc_int_K1  K)
def slices_partitionEqualCmpFunc_int_K3 (nx0 : Int × Int × Unit → Hp → Prop) (K : Value → Hp → Prop) : Exit → Env → Hp → Prop := thenE (fun env h => getV [(11, .int .i64), (12, .int .i64)] env fun s => nx0 s h) (slices_partitionEqualCmpFunc_int_K2  K)
def slices_partitionEqualCmpFunc_int_K4 (nx0 : Int × Int × Unit → Hp → Prop) (K : Value → Hp → Prop) : Exit → Env → Hp → Prop := blockE 1 (slices_partitionEqualCmpFunc_int_K3 nx0 K)
def slices_partitionEqualCmpFunc_int_K5 (nx0 : Int × Int × Unit → Hp → Prop) (K : Value → Hp → Prop) : Exit → Env → Hp → Prop := thenE (fun env h => sx_3 Tryz.prog F 90 (cp [1, 1, 1, 0, 2, 2, 2, 1] (bodyOf Tryz.f85)) (ap [1, 1, 1, 0, 2, 1] slices_partitionEqualCmpFunc_int_an) (rs [0, 1, 4, 11, 12] env) h (slices_partitionEqualCmpFunc_int_K4 nx0 K)) (slices_partitionEqualCmpFunc_int_K4 nx0 K)
def slices_partitionEqualCmpFunc_int_K6 (nx0 : Int × Int × Unit → Hp → Prop) (K : Value → Hp → Prop) : Exit → Env → Hp → Prop := blockE 2 (slices_partitionEqualCmpFunc_int_K5 nx0 K)
def slices_partitionEqualCmpFunc_int_K7 (nx0 : Int × Int × Unit → Hp → Prop) (nx1 : Int × Unit → Hp → Prop) (K : Value → Hp → Prop) : Exit → Env → Hp → Prop := thenE (fun env h => getV [(11, .int .i64)] env fun s => nx1 s h) (slices_partitionEqualCmpFunc_int_K6 nx0 K)
def slices_partitionEqualCmpFunc_int_K8 (nx0 : Int × Int × Unit → Hp → Prop) (K : Value → Hp → Prop) : Exit → Env → Hp → Prop := thenE (fun env h => sx_2 Tryz.prog F 90 (cp [1, 1, 1, 0, 2, 2, 2, 1, 1] (bodyOf Tryz.f85)) (ap [1, 1, 1, 0, 2, 1, 1] slices_partitionEqualCmpFunc_int_an) (rs [0, 1, 4, 11, 12] env) h (slices_partitionEqualCmpFunc_int_K4 nx0 K)) (slices_partitionEqualCmpFunc_int_K4 nx0 K)
def slices_partitionEqualCmpFunc_int_K9 (nx0 : Int × Int × Unit → Hp → Prop) (K : Value → Hp → Prop) : Exit → Env → Hp → Prop := blockE 4 (slices_partitionEqualCmpFunc_int_K8 nx0 K)
def slices_partitionEqualCmpFunc_int_K10 (nx0 : Int × Int × Unit → Hp → Prop) (nx1 : Int × Unit → Hp → Prop) (K : Value → Hp → Prop) : Exit → Env → Hp → Prop := thenE (fun env h => getV [(12, .int .i64)] env fun s => nx1 s h) (slices_partitionEqualCmpFunc_int_K9 nx0 K)
def slices_partitionEqualCmpFunc_int_b0 (data : Option Addr) (dataL : Nat) (dataC : Nat) (a : Int) (b : Int) (pivot : Int) (cmp : Value) (h : Hp)  (K : Value → Hp → Prop) : Prop :=
  sx_5 Tryz.prog F 90 (cp [] (bodyOf Tryz.f85)) (ap [] slices_partitionEqualCmpFunc_int_an) [(0, .slice data dataL dataC), (1, .int .i64 a), (2, .int .i64 b), (3, .int .i64 pivot), (4, cmp)] h (slices_partitionEqualCmpFunc_int_K0  K)
def slices_partitionEqualCmpFunc_int_b1 (i : Int) (j : Int) (data : Option Addr) (dataL : Nat) (dataC : Nat) (a : Int) (cmp : Value) (h : Hp) (nx0 : Int × Int × Unit → Hp → Prop) (K : Value → Hp → Prop) : Prop :=
  sx_4 Tryz.prog F 90 (cp [1, 1, 1, 0, 2, 2] (bodyOf Tryz.f85)) (ap [1, 1, 1, 0, 2] slices_partitionEqualCmpFunc_int_an) [(11, .int .i64 i), (12, .int .i64 j), (0, .slice data dataL dataC), (1, .int .i64 a), (4, cmp)] h (slices_partitionEqualCmpFunc_int_K3 nx0 K)
def slices_partitionEqualCmpFunc_int_b2 (i : Int) (data : Option Addr) (dataL : Nat) (dataC : Nat) (a : Int) (cmp : Value) (j : Int) (h : Hp) (nx0 : Int × Int × Unit → Hp → Prop) (nx1 : Int × Unit → Hp → Prop) (K : Value → Hp → Prop) : Prop :=
  sx_3 Tryz.prog F 90 (cp [1, 1, 1, 0, 2, 2, 2, 0, 2, 2] (bodyOf Tryz.f85)) (ap [1, 1, 1, 0, 2, 0, 2] slices_partitionEqualCmpFunc_int_an) [(11, .int .i64 i), (0, .slice data dataL dataC), (1, .int .i64 a), (4, cmp), (12, .int .i64 j)] h (slices_partitionEqualCmpFunc_int_K7 nx0 nx1 K)
def slices_partitionEqualCmpFunc_int_b3 (data : Option Addr) (dataL : Nat) (dataC : Nat) (a : Int) (cmp : Value) (i : Int) (j : Int) (h : Hp) (nx0 : Int × Int × Unit → Hp → Prop) (nx1 : Int × Unit → Hp → Prop) (K : Value → Hp → Prop) : Prop :=
  sx_2 Tryz.prog F 90 (cp [1, 1, 1, 0, 2, 2, 2, 0, 2, 2, 1] (bodyOf Tryz.f85)) (ap [1, 1, 1, 0, 2, 0, 2, 1] slices_partitionEqualCmpFunc_int_an) [(0, .slice data dataL dataC), (1, .int .i64 a), (4, cmp), (11, .int .i64 i), (12, .int .i64 j)] h (slices_partitionEqualCmpFunc_int_K7 nx0 nx1 K)
def slices_partitionEqualCmpFunc_int_b4 (data : Option Addr) (dataL : Nat) (dataC : Nat) (a : Int) (cmp : Value) (i : Int) (j : Int) (h : Hp) (nx0 : Int × Int × Unit → Hp → Prop) (K : Value → Hp → Prop) : Prop :=
  sx_3 Tryz.prog F 90 (cp [1, 1, 1, 0, 2, 2, 2, 1] (bodyOf Tryz.f85)) (ap [1, 1, 1, 0, 2, 1] slices_partitionEqualCmpFunc_int_an) [(0, .slice data dataL dataC), (1, .int .i64 a), (4, cmp), (11, .int .i64 i), (12, .int .i64 j)] h (slices_partitionEqualCmpFunc_int_K4 nx0 K)
def slices_partitionEqualCmpFunc_int_b5 (j : Int) (data : Option Addr) (dataL : Nat) (dataC : Nat) (a : Int) (cmp : Value) (i : Int) (h : Hp) (nx0 : Int × Int × Unit → Hp → Prop) (nx1 : Int × Unit → Hp → Prop) (K : Value → Hp → Prop) : Prop :=
  sx_2 Tryz.prog F 90 (cp [1, 1, 1, 0, 2, 2, 2, 1, 0, 2, 2] (bodyOf Tryz.f85)) (ap [1, 1, 1, 0, 2, 1, 0, 2] slices_partitionEqualCmpFunc_int_an) [(12, .int .i64 j), (0, .slice data dataL dataC), (1, .int .i64 a), (4, cmp), (11, .int .i64 i)] h (slices_partitionEqualCmpFunc_int_K10 nx0 nx1 K)
def slices_partitionEqualCmpFunc_int_b6 (data : Option Addr) (dataL : Nat) (dataC : Nat) (a : Int) (cmp : Value) (i : Int) (j : Int) (h : Hp) (nx0 : Int × Int × Unit → Hp → Prop) (nx1 : Int × Unit → Hp → Prop) (K : Value → Hp → Prop) : Prop :=
  sx_1 Tryz.prog F 90 (cp [1, 1, 1, 0, 2, 2, 2, 1, 0, 2, 2, 1] (bodyOf Tryz.f85)) (ap [1, 1, 1, 0, 2, 1, 0, 2, 1] slices_partitionEqualCmpFunc_int_an) [(0, .slice data dataL dataC), (1, .int .i64 a), (4, cmp), (11, .int .i64 i), (12, .int .i64 j)] h (slices_partitionEqualCmpFunc_int_K10 nx0 nx1 K)
def slices_partitionEqualCmpFunc_int_b7 (data : Option Addr) (dataL : Nat) (dataC : Nat) (a : Int) (cmp : Value) (i : Int) (j : Int) (h : Hp) (nx0 : Int × Int × Unit → Hp → Prop) (K : Value → Hp → Prop) : Prop :=
  sx_2 Tryz.prog F 90 (cp [1, 1, 1, 0, 2, 2, 2, 1, 1] (bodyOf Tryz.f85)) (ap [1, 1, 1, 0, 2, 1, 1] slices_partitionEqualCmpFunc_int_an) [(0, .slice data dataL dataC), (1, .int .i64 a), (4, cmp), (11, .int .i64 i), (12, .int .i64 j)] h (slices_partitionEqualCmpFunc_int_K4 nx0 K)
def slices_partitionEqualCmpFunc_int_b8 (i : Int) (h : Hp)  (K : Value → Hp → Prop) : Prop :=
  sx_4 Tryz.prog F 90 (cp [1, 1, 1, 1] (bodyOf Tryz.f85)) (ap [1, 1, 1, 1] slices_partitionEqualCmpFunc_int_an) [(11, .int .i64 i)] h (slices_partitionEqualCmpFunc_int_K0  K)
theorem slices_partitionEqualCmpFunc_int_b0_eq (data : Option Addr) (dataL : Nat) (dataC : Nat) (a : Int) (b : Int) (pivot : Int) (cmp : Value) (h : Hp)  (K : Value → Hp → Prop) : slices_partitionEqualCmpFunc_int_b0 data dataL dataC a b pivot cmp h  K = (
  (0 ≤ pivot ∧ pivot < (dataL : Int)) ∧
  NN data fun a1 =>
  ∃ n1 : Int, cell h (a1.add (Int.toNat pivot * 1)) = some (.int .i64 n1) ∧
  (0 ≤ a ∧ a < (dataL : Int)) ∧
  NN data fun a2 =>
  ∃ n2 : Int, cell h (a2.add (Int.toNat a * 1)) = some (.int .i64 n2) ∧
  (0 ≤ a ∧ a < (dataL : Int)) ∧
  NN data fun a3 =>
  Wr h (a3.add (Int.toNat a * 1)) (.int .i64 n1) fun h1 =>
  (0 ≤ pivot ∧ pivot < (dataL : Int)) ∧
  NN data fun a4 =>
  Wr h1 (a4.add (Int.toNat pivot * 1)) (.int .i64 n2) fun h2 =>
  InR (a + 1) ∧
  InR (b - 1) ∧
  LoopVC ((a + 1, b - 1, ()) : Int × Int × Unit) h2 (fun (nx0 : Int × Int × Unit → Hp → Prop) (s1 : Int × Int × Unit) h3 => slices_partitionEqualCmpFunc_int_b1 s1.1 s1.2.1 data dataL dataC a cmp h3 nx0 K)) := by kernel_rfl
theorem slices_partitionEqualCmpFunc_int_b1_eq (i : Int) (j : Int) (data : Option Addr) (dataL : Nat) (dataC : Nat) (a : Int) (cmp : Value) (h : Hp) (nx0 : Int × Int × Unit → Hp → Prop) (K : Value → Hp → Prop) : slices_partitionEqualCmpFunc_int_b1 i j data dataL dataC a cmp h nx0 K = (
  LoopVC ((i, ()) : Int × Unit) h (fun (nx1 : Int × Unit → Hp → Prop) (s2 : Int × Unit) h4 => slices_partitionEqualCmpFunc_int_b2 s2.1 data dataL dataC a cmp j h4 nx0 nx1 K)) := by kernel_rfl
theorem slices_partitionEqualCmpFunc_int_b2_eq (i : Int) (data : Option Addr) (dataL : Nat) (dataC : Nat) (a : Int) (cmp : Value) (j : Int) (h : Hp) (nx0 : Int × Int × Unit → Hp → Prop) (nx1 : Int × Unit → Hp → Prop) (K : Value → Hp → Prop) : slices_partitionEqualCmpFunc_int_b2 i data dataL dataC a cmp j h nx0 nx1 K = (
  cond (decide (i ≤ j))
  ((0 ≤ a ∧ a < (dataL : Int)) ∧
  NN data fun a5 =>
  ∃ n3 : Int, cell h (a5.add (Int.toNat a * 1)) = some (.int .i64 n3) ∧
  (0 ≤ i ∧ i < (dataL : Int)) ∧
  NN data fun a6 =>
  ∃ n4 : Int, cell h (a6.add (Int.toNat i * 1)) = some (.int .i64 n4) ∧
  funV cmp fun fg1 fa1 fc1 => callX Tryz.prog F fg1 (fa1 ++ (([.int .i64 n3, .int .i64 n4] : List Value) ++ fc1)).toArray h fun v1 h5 => ∃ r1 : Int, v1 = .int .i64 r1 ∧
  cond (!(decide (r1 < 0)))
  (slices_partitionEqualCmpFunc_int_b3 data dataL dataC a cmp i j h5 nx0 nx1 K)
  (slices_partitionEqualCmpFunc_int_b4 data dataL dataC a cmp i j h5 nx0 K))
  (slices_partitionEqualCmpFunc_int_b4 data dataL dataC a cmp i j h nx0 K)) := by kernel_rfl
theorem slices_partitionEqualCmpFunc_int_b3_eq (data : Option Addr) (dataL : Nat) (dataC : Nat) (a : Int) (cmp : Value) (i : Int) (j : Int) (h : Hp) (nx0 : Int × Int × Unit → Hp → Prop) (nx1 : Int × Unit → Hp → Prop) (K : Value → Hp → Prop) : slices_partitionEqualCmpFunc_int_b3 data dataL dataC a cmp i j h nx0 nx1 K = (
  InR (i + 1) ∧
  nx1 (i + 1, ()) h) := by kernel_rfl
theorem slices_partitionEqualCmpFunc_int_b4_eq (data : Option Addr) (dataL : Nat) (dataC : Nat) (a : Int) (cmp : Value) (i : Int) (j : Int) (h : Hp) (nx0 : Int × Int × Unit → Hp → Prop) (K : Value → Hp → Prop) : slices_partitionEqualCmpFunc_int_b4 data dataL dataC a cmp i j h nx0 K = (
  LoopVC ((j, ()) : Int × Unit) h (fun (nx1 : Int × Unit → Hp → Prop) (s3 : Int × Unit) h6 => slices_partitionEqualCmpFunc_int_b5 s3.1 data dataL dataC a cmp i h6 nx0 nx1 K)) := by kernel_rfl
theorem slices_partitionEqualCmpFunc_int_b5_eq (j : Int) (data : Option Addr) (dataL : Nat) (dataC : Nat) (a : Int) (cmp : Value) (i : Int) (h : Hp) (nx0 : Int × Int × Unit → Hp → Prop) (nx1 : Int × Unit → Hp → Prop) (K : Value → Hp → Prop) : slices_partitionEqualCmpFunc_int_b5 j data dataL dataC a cmp i h nx0 nx1 K = (
  cond (decide (i ≤ j))
  ((0 ≤ a ∧ a < (dataL : Int)) ∧
  NN data fun a7 =>
  ∃ n5 : Int, cell h (a7.add (Int.toNat a * 1)) = some (.int .i64 n5) ∧
  (0 ≤ j ∧ j < (dataL : Int)) ∧
  NN data fun a8 =>
  ∃ n6 : Int, cell h (a8.add (Int.toNat j * 1)) = some (.int .i64 n6) ∧
  funV cmp fun fg2 fa2 fc2 => callX Tryz.prog F fg2 (fa2 ++ (([.int .i64 n5, .int .i64 n6] : List Value) ++ fc2)).toArray h fun v2 h7 => ∃ r2 : Int, v2 = .int .i64 r2 ∧
  cond (decide (r2 < 0))
  (slices_partitionEqualCmpFunc_int_b6 data dataL dataC a cmp i j h7 nx0 nx1 K)
  (slices_partitionEqualCmpFunc_int_b7 data dataL dataC a cmp i j h7 nx0 K))
  (slices_partitionEqualCmpFunc_int_b7 data dataL dataC a cmp i j h nx0 K)) := by kernel_rfl
theorem slices_partitionEqualCmpFunc_int_b6_eq (data : Option Addr) (dataL : Nat) (dataC : Nat) (a : Int) (cmp : Value) (i : Int) (j : Int) (h : Hp) (nx0 : Int × Int × Unit → Hp → Prop) (nx1 : Int × Unit → Hp → Prop) (K : Value → Hp → Prop) : slices_partitionEqualCmpFunc_int_b6 data dataL dataC a cmp i j h nx0 nx1 K = (
  InR (j - 1) ∧
  nx1 (j - 1, ()) h) := by kernel_rfl
theorem slices_partitionEqualCmpFunc_int_b7_eq (data : Option Addr) (dataL : Nat) (dataC : Nat) (a : Int) (cmp : Value) (i : Int) (j : Int) (h : Hp) (nx0 : Int × Int × Unit → Hp → Prop) (K : Value → Hp → Prop) : slices_partitionEqualCmpFunc_int_b7 data dataL dataC a cmp i j h nx0 K = (
  cond (decide (j < i))
  (slices_partitionEqualCmpFunc_int_b8 i h  K)
  ((0 ≤ j ∧ j < (dataL : Int)) ∧
  NN data fun a9 =>
  ∃ n7 : Int, cell h (a9.add (Int.toNat j * 1)) = some (.int .i64 n7) ∧
  (0 ≤ i ∧ i < (dataL : Int)) ∧
  NN data fun a10 =>
  ∃ n8 : Int, cell h (a10.add (Int.toNat i * 1)) = some (.int .i64 n8) ∧
  (0 ≤ i ∧ i < (dataL : Int)) ∧
  NN data fun a11 =>
  Wr h (a11.add (Int.toNat i * 1)) (.int .i64 n7) fun h8 =>
  (0 ≤ j ∧ j < (dataL : Int)) ∧
  NN data fun a12 =>
  Wr h8 (a12.add (Int.toNat j * 1)) (.int .i64 n8) fun h9 =>
  InR (i + 1) ∧
  InR (j - 1) ∧
  nx0 (i + 1, j - 1, ()) h9)) := by kernel_rfl
theorem slices_partitionEqualCmpFunc_int_b8_eq (i : Int) (h : Hp)  (K : Value → Hp → Prop) : slices_partitionEqualCmpFunc_int_b8 i h  K = (
  K (.int .i64 i) h) := by kernel_rfl
theorem slices_partitionEqualCmpFunc_int_call {data : Option Addr} {dataL : Nat} {dataC : Nat} {a : Int} {b : Int} {pivot : Int} {cmp : Value} {h : Hp} {K : Value → Hp → Prop} (hk : slices_partitionEqualCmpFunc_int_b0 data dataL dataC a b pivot cmp h K) : HCalls Tryz.prog 85 #[.slice data dataL dataC, .int .i64 a, .int .i64 b, .int .i64 pivot, cmp] h K :=
  calls_of_snd slices_partitionEqualCmpFunc_int_an Tryz.func85 (c := bodyOf Tryz.f85) rfl Tryz.ntmps85 (Nat.le_of_ble_eq_true rfl) (snd_5 F_ok F_mixed) hk

end Go.Proofs.YtfkccighnkepgaaGreat
