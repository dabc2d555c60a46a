/- Plain statements of what each block of code of this seat asks; printed by a program, checked by Lean. -/
import Derived.Test.YtfkimbdjgadelaaSxV0
set_option maxRecDepth 10000
namespace Go.Proofs.Ytfkimbdjgadelaa
open Go Go.Sx

/-! ### wavelet_Tree_leaves_c1_c1 -/
def wavelet_Tree_leaves_c1_c1_an : Ann := .node none (.leaf) (.node none (.leaf) (.node none (.leaf) (.node (some [1, 4, 5, 6]) (.leaf) (.node none (.node none (.leaf) (.node none (.node none (.yld) (.leaf)) (.leaf))) (.node none (.leaf) (.node none (.yld) (.leaf)))))))
def wavelet_Tree_leaves_c1_c1_K0  (K : Value → Hp → Prop) : Exit → Env → Hp → Prop := retK Try.prog Try.f54.results.toList K
def wavelet_Tree_leaves_c1_c1_b0 (x_0 : Int) (x_1 : Int) (x_2 : Int) (x_3 : Int) (x_4 : Int) (x_5 : Int) (t1 : Option Addr) (t2 : Option Addr) (t3 : Option Addr) (t4 : Option Addr) (t5 : Option Addr) (h : Hp)  (K : Value → Hp → Prop) : Prop :=
  sx_2 Try.prog F 71 (cp [] (bodyOf Try.f54)) (ap [] wavelet_Tree_leaves_c1_c1_an) [(0, .agg #[.int .i64 x_0, .int .i64 x_1, .int .i64 x_2, .int .i64 x_3, .int .i64 x_4, .int .i64 x_5]), (1, .pointer t1), (2, .pointer t2), (3, .pointer t3), (4, .pointer t4), (5, .pointer t5)] h (wavelet_Tree_leaves_c1_c1_K0  K)
def wavelet_Tree_leaves_c1_c1_b1 (t1 : Option Addr) (t4 : Option Addr) (t5 : Option Addr) (x : Option Addr) (h : Hp)  (K : Value → Hp → Prop) : Prop :=
  sx_1 Try.prog F 71 (cp [1, 1, 1, 1] (bodyOf Try.f54)) (ap [1, 1, 1, 1] wavelet_Tree_leaves_c1_c1_an) [(1, .pointer t1), (4, .pointer t4), (5, .pointer t5), (6, .pointer x)] h (wavelet_Tree_leaves_c1_c1_K0  K)
theorem wavelet_Tree_leaves_c1_c1_b0_eq (x_0 : Int) (x_1 : Int) (x_2 : Int) (x_3 : Int) (x_4 : Int) (x_5 : Int) (t1 : Option Addr) (t2 : Option Addr) (t3 : Option Addr) (t4 : Option Addr) (t5 : Option Addr) (h : Hp)  (K : Value → Hp → Prop) : wavelet_Tree_leaves_c1_c1_b0 x_0 x_1 x_2 x_3 x_4 x_5 t1 t2 t3 t4 t5 h  K = (
  New h (.cells #[.int .i64 x_0, .int .i64 x_1, .int .i64 x_2, .int .i64 x_3, .int .i64 x_4, .int .i64 x_5] 60) fun b1 h1 =>
  NN t1 fun a1 =>
  ∃ p1 : Option Addr, cell h1 a1 = some (.pointer p1) ∧
  NN p1 fun a2 =>
  ∃ n1 : Int, cell h1 (a2.add 2) = some (.int .i64 n1) ∧
  ∃ n2 : Int, cell h1 ⟨b1, 0, none⟩ = some (.int .i64 n2) ∧
  InR (n1 - n2) ∧
  ∃ n3 : Int, cell h1 ((⟨b1, 0, none⟩ : Addr).add 5) = some (.int .i64 n3) ∧
  ∃ sl1 : Int, Sx.Shl .i64 n3 (n1 - n2) sl1 ∧
  ∃ n4 : Int, cell h1 ((⟨b1, 0, none⟩ : Addr).add 5) = some (.int .i64 n4) ∧
  ∃ sl2 : Int, Sx.Shl .i64 n4 (n1 - n2) sl2 ∧
  ∃ sl3 : Int, Sx.Shl .i64 1 (n1 - n2) sl3 ∧
  InR (sl2 + sl3) ∧
  InR ((sl2 + sl3) - 1) ∧
  ∃ n5 : Int, cell h1 ((⟨b1, 0, none⟩ : Addr).add 3) = some (.int .i64 n5) ∧
  ∃ n6 : Int, cell h1 ((⟨b1, 0, none⟩ : Addr).add 4) = some (.int .i64 n6) ∧
  cond (decide (n5 = n6))
  (K (.bool true) h1)
  (NN t2 fun a3 =>
  ∃ n7 : Int, cell h1 a3 = some (.int .i64 n7) ∧
  cond (decide (((sl2 + sl3) - 1) < n7))
  (K (.bool true) h1)
  (NN t3 fun a4 =>
  ∃ n8 : Int, cell h1 a4 = some (.int .i64 n8) ∧
  cond (decide (n8 < sl1))
  (K (.bool true) h1)
  (wavelet_Tree_leaves_c1_c1_b1 t1 t4 t5 (some ⟨b1, 0, none⟩) h1  K)))) := by kernel_rfl
theorem wavelet_Tree_leaves_c1_c1_b1_eq (t1 : Option Addr) (t4 : Option Addr) (t5 : Option Addr) (x : Option Addr) (h : Hp)  (K : Value → Hp → Prop) : wavelet_Tree_leaves_c1_c1_b1 t1 t4 t5 x h  K = (
  NN x fun a5 =>
  ∃ n9 : Int, cell h a5 = some (.int .i64 n9) ∧
  NN t1 fun a6 =>
  ∃ p2 : Option Addr, cell h a6 = some (.pointer p2) ∧
  NN p2 fun a7 =>
  ∃ n10 : Int, cell h (a7.add 2) = some (.int .i64 n10) ∧
  cond (decide (n9 = n10))
  (NN t4 fun a8 =>
  ∃ v1 : Value, cell h a8 = some (v1) ∧
  NN x fun a9 =>
  ∃ n11 : Int, ∃ n12 : Int, ∃ n13 : Int, ∃ n14 : Int, ∃ n15 : Int, ∃ n16 : Int, cell h a9 = some (.int .i64 n11) ∧
  cell h (a9.add 1) = some (.int .i64 n12) ∧
  cell h (a9.add 2) = some (.int .i64 n13) ∧
  cell h (a9.add 3) = some (.int .i64 n14) ∧
  cell h (a9.add 4) = some (.int .i64 n15) ∧
  cell h (a9.add 5) = some (.int .i64 n16) ∧
  callVY Try.prog F v1 [.agg #[.int .i64 n11, .int .i64 n12, .int .i64 n13, .int .i64 n14, .int .i64 n15, .int .i64 n16]] h fun v2 h2 => ∃ r1 : Bool, v2 = .bool r1 ∧
  K (.bool r1) h2)
  (NN t1 fun a10 =>
  ∃ p3 : Option Addr, cell h a10 = some (.pointer p3) ∧
  NN x fun a11 =>
  ∃ n17 : Int, ∃ n18 : Int, ∃ n19 : Int, ∃ n20 : Int, ∃ n21 : Int, ∃ n22 : Int, cell h a11 = some (.int .i64 n17) ∧
  cell h (a11.add 1) = some (.int .i64 n18) ∧
  cell h (a11.add 2) = some (.int .i64 n19) ∧
  cell h (a11.add 3) = some (.int .i64 n20) ∧
  cell h (a11.add 4) = some (.int .i64 n21) ∧
  cell h (a11.add 5) = some (.int .i64 n22) ∧
  HCalls Try.prog 36 #[.pointer p3, .agg #[.int .i64 n17, .int .i64 n18, .int .i64 n19, .int .i64 n20, .int .i64 n21, .int .i64 n22]] h fun v3 h3 => ∃ r2 : Int, ∃ r3 : Int, ∃ r4 : Int, ∃ r5 : Int, ∃ r6 : Int, ∃ r7 : Int, ∃ r8 : Int, ∃ r9 : Int, ∃ r10 : Int, ∃ r11 : Int, ∃ r12 : Int, ∃ r13 : Int, v3 = .tuple #[.agg #[.int .i64 r2, .int .i64 r3, .int .i64 r4, .int .i64 r5, .int .i64 r6, .int .i64 r7], .agg #[.int .i64 r8, .int .i64 r9, .int .i64 r10, .int .i64 r11, .int .i64 r12, .int .i64 r13]] ∧
  New h3 (.cells #[.int .i64 0, .int .i64 0, .int .i64 0, .int .i64 0, .int .i64 0, .int .i64 0] 60) fun b2 h4 =>
  New h4 (.cells #[.int .i64 0, .int .i64 0, .int .i64 0, .int .i64 0, .int .i64 0, .int .i64 0] 60) fun b3 h5 =>
  Wr h5 ⟨b2, 0, none⟩ (.int .i64 r2) fun h6 =>
  Wr h6 ((⟨b2, 0, none⟩ : Addr).add 1) (.int .i64 r3) fun h7 =>
  Wr h7 ((⟨b2, 0, none⟩ : Addr).add 2) (.int .i64 r4) fun h8 =>
  Wr h8 ((⟨b2, 0, none⟩ : Addr).add 3) (.int .i64 r5) fun h9 =>
  Wr h9 ((⟨b2, 0, none⟩ : Addr).add 4) (.int .i64 r6) fun h10 =>
  Wr h10 ((⟨b2, 0, none⟩ : Addr).add 5) (.int .i64 r7) fun h11 =>
  Wr h11 ⟨b3, 0, none⟩ (.int .i64 r8) fun h12 =>
  Wr h12 ((⟨b3, 0, none⟩ : Addr).add 1) (.int .i64 r9) fun h13 =>
  Wr h13 ((⟨b3, 0, none⟩ : Addr).add 2) (.int .i64 r10) fun h14 =>
  Wr h14 ((⟨b3, 0, none⟩ : Addr).add 3) (.int .i64 r11) fun h15 =>
  Wr h15 ((⟨b3, 0, none⟩ : Addr).add 4) (.int .i64 r12) fun h16 =>
  Wr h16 ((⟨b3, 0, none⟩ : Addr).add 5) (.int .i64 r13) fun h17 =>
  NN t5 fun a12 =>
  ∃ v4 : Value, cell h17 a12 = some (v4) ∧
  ∃ n23 : Int, ∃ n24 : Int, ∃ n25 : Int, ∃ n26 : Int, ∃ n27 : Int, ∃ n28 : Int, cell h17 ⟨b2, 0, none⟩ = some (.int .i64 n23) ∧
  cell h17 ((⟨b2, 0, none⟩ : Addr).add 1) = some (.int .i64 n24) ∧
  cell h17 ((⟨b2, 0, none⟩ : Addr).add 2) = some (.int .i64 n25) ∧
  cell h17 ((⟨b2, 0, none⟩ : Addr).add 3) = some (.int .i64 n26) ∧
  cell h17 ((⟨b2, 0, none⟩ : Addr).add 4) = some (.int .i64 n27) ∧
  cell h17 ((⟨b2, 0, none⟩ : Addr).add 5) = some (.int .i64 n28) ∧
  callVY Try.prog F v4 [.agg #[.int .i64 n23, .int .i64 n24, .int .i64 n25, .int .i64 n26, .int .i64 n27, .int .i64 n28]] h17 fun v5 h18 => ∃ r14 : Bool, v5 = .bool r14 ∧
  cond r14
  (NN t5 fun a13 =>
  ∃ v6 : Value, cell h18 a13 = some (v6) ∧
  ∃ n29 : Int, ∃ n30 : Int, ∃ n31 : Int, ∃ n32 : Int, ∃ n33 : Int, ∃ n34 : Int, cell h18 ⟨b3, 0, none⟩ = some (.int .i64 n29) ∧
  cell h18 ((⟨b3, 0, none⟩ : Addr).add 1) = some (.int .i64 n30) ∧
  cell h18 ((⟨b3, 0, none⟩ : Addr).add 2) = some (.int .i64 n31) ∧
  cell h18 ((⟨b3, 0, none⟩ : Addr).add 3) = some (.int .i64 n32) ∧
  cell h18 ((⟨b3, 0, none⟩ : Addr).add 4) = some (.int .i64 n33) ∧
  cell h18 ((⟨b3, 0, none⟩ : Addr).add 5) = some (.int .i64 n34) ∧
  callVY Try.prog F v6 [.agg #[.int .i64 n29, .int .i64 n30, .int .i64 n31, .int .i64 n32, .int .i64 n33, .int .i64 n34]] h18 fun v7 h19 => ∃ r15 : Bool, v7 = .bool r15 ∧
  K (.bool r15) h19)
  (K (.bool false) h18))) := by kernel_rfl
theorem wavelet_Tree_leaves_c1_c1_call {x_0 : Int} {x_1 : Int} {x_2 : Int} {x_3 : Int} {x_4 : Int} {x_5 : Int} {t1 : Option Addr} {t2 : Option Addr} {t3 : Option Addr} {t4 : Option Addr} {t5 : Option Addr} {h : Hp} {K : Value → Hp → Prop} (hk : wavelet_Tree_leaves_c1_c1_b0 x_0 x_1 x_2 x_3 x_4 x_5 t1 t2 t3 t4 t5 h K) : HCalls Try.prog 54 #[.agg #[.int .i64 x_0, .int .i64 x_1, .int .i64 x_2, .int .i64 x_3, .int .i64 x_4, .int .i64 x_5], .pointer t1, .pointer t2, .pointer t3, .pointer t4, .pointer t5] h K :=
  calls_of_snd wavelet_Tree_leaves_c1_c1_an Try.func54 (c := bodyOf Try.f54) rfl Try.ntmps54 (Nat.le_of_ble_eq_true rfl) (snd_2 F_ok F_mixed) hk

/-! ### slices_pdqsortCmpFunc_2_int -/
def slices_pdqsortCmpFunc_2_int_an : Ann := .node none (.leaf) (.node none (.leaf) (.loop [0, 4] [(1, .int .i64), (2, .int .i64), (3, .int .i64), (10, .bool), (11, .bool)] (.node none (.leaf) (.node none (.leaf) (.node none (.leaf) (.node (some [0, 1, 2, 3, 4, 10, 11, 12]) (.leaf) (.node none (.leaf) (.node (some [0, 1, 2, 3, 4, 10, 11, 12, 13, 14]) (.leaf) (.node (some [0, 1, 2, 3, 4, 10, 11, 12, 13]) (.leaf) (.node (some [0, 1, 2, 3, 4, 12, 13]) (.node none (.tail 13) (.leaf)) (.leaf)))))))))))
def slices_pdqsortCmpFunc_2_int_K0  (K : Value → Hp → Prop) : Exit → Env → Hp → Prop := retK Try.prog Try.f55.results.toList K
def slices_pdqsortCmpFunc_2_int_K1  (K : Value → Hp → Prop) : Exit → Env → Hp → Prop := blockE 0 (slices_pdqsortCmpFunc_2_int_K0  K)
def slices_pdqsortCmpFunc_2_int_K2 (nx0 : Int × Int × Int × Bool × Bool × Unit → Hp → Prop) (K : Value → Hp → Prop) : Exit → Env → Hp → Prop := thenE (fun env h => getV [(1, .int .i64), (2, .int .i64), (3, .int .i64), (10, .bool), (11, .bool)] env fun s => nx0 s h) (slices_pdqsortCmpFunc_2_int_K1  K)
def slices_pdqsortCmpFunc_2_int_K3 (nx0 : Int × Int × Int × Bool × Bool × Unit → Hp → Prop) (K : Value → Hp → Prop) : Exit → Env → Hp → Prop := blockE 1 (slices_pdqsortCmpFunc_2_int_K2 nx0 K)
def slices_pdqsortCmpFunc_2_int_b0 (data : Option Addr) (dataL : Nat) (dataC : Nat) (a : Int) (b : Int) (limit : Int) (cmp : Value) (h : Hp)  (K : Value → Hp → Prop) : Prop :=
  sx_6 Try.prog F 148 (cp [] (bodyOf Try.f55)) (ap [] slices_pdqsortCmpFunc_2_int_an) [(0, .slice data dataL dataC), (1, .int .i64 a), (2, .int .i64 b), (3, .int .i64 limit), (4, cmp)] h (slices_pdqsortCmpFunc_2_int_K0  K)
def slices_pdqsortCmpFunc_2_int_b1 (a : Int) (b : Int) (limit : Int) (wasBalanced : Bool) (wasPartitioned : Bool) (data : Option Addr) (dataL : Nat) (dataC : Nat) (cmp : Value) (h : Hp) (nx0 : Int × Int × Int × Bool × Bool × Unit → Hp → Prop) (K : Value → Hp → Prop) : Prop :=
  sx_5 Try.prog F 148 (cp [1, 1, 2, 2] (bodyOf Try.f55)) (ap [1, 1, 2] slices_pdqsortCmpFunc_2_int_an) [(1, .int .i64 a), (2, .int .i64 b), (3, .int .i64 limit), (10, .bool wasBalanced), (11, .bool wasPartitioned), (0, .slice data dataL dataC), (4, cmp)] h (slices_pdqsortCmpFunc_2_int_K2 nx0 K)
def slices_pdqsortCmpFunc_2_int_b2 (data : Option Addr) (dataL : Nat) (dataC : Nat) (a : Int) (b : Int) (limit : Int) (cmp : Value) (wasBalanced : Bool) (wasPartitioned : Bool) (length : Int) (h : Hp) (nx0 : Int × Int × Int × Bool × Bool × Unit → Hp → Prop) (K : Value → Hp → Prop) : Prop :=
  sx_4 Try.prog F 148 (cp [1, 1, 2, 2, 2, 1, 1, 1, 1] (bodyOf Try.f55)) (ap [1, 1, 2, 1, 1, 1, 1] slices_pdqsortCmpFunc_2_int_an) [(0, .slice data dataL dataC), (1, .int .i64 a), (2, .int .i64 b), (3, .int .i64 limit), (4, cmp), (10, .bool wasBalanced), (11, .bool wasPartitioned), (12, .int .i64 length)] h (slices_pdqsortCmpFunc_2_int_K3 nx0 K)
def slices_pdqsortCmpFunc_2_int_b3 (data : Option Addr) (dataL : Nat) (dataC : Nat) (a : Int) (b : Int) (limit : Int) (cmp : Value) (wasBalanced : Bool) (wasPartitioned : Bool) (length : Int) (pivot : Int) (hint : Int) (h : Hp) (nx0 : Int × Int × Int × Bool × Bool × Unit → Hp → Prop) (K : Value → Hp → Prop) : Prop :=
  sx_3 Try.prog F 148 (cp [1, 1, 2, 2, 2, 1, 1, 1, 1, 1, 1] (bodyOf Try.f55)) (ap [1, 1, 2, 1, 1, 1, 1, 1, 1] slices_pdqsortCmpFunc_2_int_an) [(0, .slice data dataL dataC), (1, .int .i64 a), (2, .int .i64 b), (3, .int .i64 limit), (4, cmp), (10, .bool wasBalanced), (11, .bool wasPartitioned), (12, .int .i64 length), (13, .int .i64 pivot), (14, .int .i64 hint)] h (slices_pdqsortCmpFunc_2_int_K3 nx0 K)
def slices_pdqsortCmpFunc_2_int_b4 (data : Option Addr) (dataL : Nat) (dataC : Nat) (a : Int) (b : Int) (limit : Int) (cmp : Value) (wasBalanced : Bool) (wasPartitioned : Bool) (length : Int) (pivot : Int) (h : Hp) (nx0 : Int × Int × Int × Bool × Bool × Unit → Hp → Prop) (K : Value → Hp → Prop) : Prop :=
  sx_2 Try.prog F 148 (cp [1, 1, 2, 2, 2, 1, 1, 1, 1, 1, 1, 1] (bodyOf Try.f55)) (ap [1, 1, 2, 1, 1, 1, 1, 1, 1, 1] slices_pdqsortCmpFunc_2_int_an) [(0, .slice data dataL dataC), (1, .int .i64 a), (2, .int .i64 b), (3, .int .i64 limit), (4, cmp), (10, .bool wasBalanced), (11, .bool wasPartitioned), (12, .int .i64 length), (13, .int .i64 pivot)] h (slices_pdqsortCmpFunc_2_int_K3 nx0 K)
def slices_pdqsortCmpFunc_2_int_b5 (data : Option Addr) (dataL : Nat) (dataC : Nat) (a : Int) (b : Int) (limit : Int) (cmp : Value) (length : Int) (pivot : Int) (h : Hp) (nx0 : Int × Int × Int × Bool × Bool × Unit → Hp → Prop) (K : Value → Hp → Prop) : Prop :=
  sx_1 Try.prog F 148 (cp [1, 1, 2, 2, 2, 1, 1, 1, 1, 1, 1, 1, 1] (bodyOf Try.f55)) (ap [1, 1, 2, 1, 1, 1, 1, 1, 1, 1, 1] slices_pdqsortCmpFunc_2_int_an) [(0, .slice data dataL dataC), (1, .int .i64 a), (2, .int .i64 b), (3, .int .i64 limit), (4, cmp), (12, .int .i64 length), (13, .int .i64 pivot)] h (slices_pdqsortCmpFunc_2_int_K3 nx0 K)
theorem slices_pdqsortCmpFunc_2_int_b0_eq (data : Option Addr) (dataL : Nat) (dataC : Nat) (a : Int) (b : Int) (limit : Int) (cmp : Value) (h : Hp)  (K : Value → Hp → Prop) : slices_pdqsortCmpFunc_2_int_b0 data dataL dataC a b limit cmp h  K = (
  LoopVC ((a, b, limit, true, true, ()) : Int × Int × Int × Bool × Bool × Unit) h (fun (nx0 : Int × Int × Int × Bool × Bool × Unit → Hp → Prop) (s1 : Int × Int × Int × Bool × Bool × Unit) h1 => slices_pdqsortCmpFunc_2_int_b1 s1.1 s1.2.1 s1.2.2.1 s1.2.2.2.1 s1.2.2.2.2.1 data dataL dataC cmp h1 nx0 K)) := by kernel_rfl
theorem slices_pdqsortCmpFunc_2_int_b1_eq (a : Int) (b : Int) (limit : Int) (wasBalanced : Bool) (wasPartitioned : Bool) (data : Option Addr) (dataL : Nat) (dataC : Nat) (cmp : Value) (h : Hp) (nx0 : Int × Int × Int × Bool × Bool × Unit → Hp → Prop) (K : Value → Hp → Prop) : slices_pdqsortCmpFunc_2_int_b1 a b limit wasBalanced wasPartitioned data dataL dataC cmp h nx0 K = (
  InR (b - a) ∧
  cond (decide ((b - a) ≤ 12))
  (HCalls Try.prog 62 #[.slice data dataL dataC, .int .i64 a, .int .i64 b, cmp] h fun v1 h2 => v1 = .tuple #[] ∧
  K (.tuple #[]) h2)
  (cond (decide (limit = 0))
  (HCalls Try.prog 63 #[.slice data dataL dataC, .int .i64 a, .int .i64 b, cmp] h fun v2 h3 => v2 = .tuple #[] ∧
  K (.tuple #[]) h3)
  (cond (!wasBalanced)
  (HCalls Try.prog 64 #[.slice data dataL dataC, .int .i64 a, .int .i64 b, cmp] h fun v3 h4 => v3 = .tuple #[] ∧
  InR (limit - 1) ∧
  slices_pdqsortCmpFunc_2_int_b2 data dataL dataC a b (limit - 1) cmp wasBalanced wasPartitioned (b - a) h4 nx0 K)
  (slices_pdqsortCmpFunc_2_int_b2 data dataL dataC a b limit cmp wasBalanced wasPartitioned (b - a) h nx0 K)))) := by kernel_rfl
theorem slices_pdqsortCmpFunc_2_int_b2_eq (data : Option Addr) (dataL : Nat) (dataC : Nat) (a : Int) (b : Int) (limit : Int) (cmp : Value) (wasBalanced : Bool) (wasPartitioned : Bool) (length : Int) (h : Hp) (nx0 : Int × Int × Int × Bool × Bool × Unit → Hp → Prop) (K : Value → Hp → Prop) : slices_pdqsortCmpFunc_2_int_b2 data dataL dataC a b limit cmp wasBalanced wasPartitioned length h nx0 K = (
  HCalls Try.prog 65 #[.slice data dataL dataC, .int .i64 a, .int .i64 b, cmp] h fun v4 h5 => ∃ r1 : Int, ∃ r2 : Int, v4 = .tuple #[.int .i64 r1, .int .i64 r2] ∧
  cond (decide (r2 = 2))
  (HCalls Try.prog 66 #[.slice data dataL dataC, .int .i64 a, .int .i64 b, cmp] h5 fun v5 h6 => v5 = .tuple #[] ∧
  InR (b - 1) ∧
  InR (r1 - a) ∧
  InR ((b - 1) - (r1 - a)) ∧
  slices_pdqsortCmpFunc_2_int_b3 data dataL dataC a b limit cmp wasBalanced wasPartitioned length ((b - 1) - (r1 - a)) 1 h6 nx0 K)
  (slices_pdqsortCmpFunc_2_int_b3 data dataL dataC a b limit cmp wasBalanced wasPartitioned length r1 r2 h5 nx0 K)) := by kernel_rfl
theorem slices_pdqsortCmpFunc_2_int_b3_eq (data : Option Addr) (dataL : Nat) (dataC : Nat) (a : Int) (b : Int) (limit : Int) (cmp : Value) (wasBalanced : Bool) (wasPartitioned : Bool) (length : Int) (pivot : Int) (hint : Int) (h : Hp) (nx0 : Int × Int × Int × Bool × Bool × Unit → Hp → Prop) (K : Value → Hp → Prop) : slices_pdqsortCmpFunc_2_int_b3 data dataL dataC a b limit cmp wasBalanced wasPartitioned length pivot hint h nx0 K = (
  cond wasBalanced
  (cond wasPartitioned
  (cond (decide (hint = 1))
  (HCalls Try.prog 67 #[.slice data dataL dataC, .int .i64 a, .int .i64 b, cmp] h fun v6 h7 => ∃ r3 : Bool, v6 = .bool r3 ∧
  cond r3
  (K (.tuple #[]) h7)
  (slices_pdqsortCmpFunc_2_int_b4 data dataL dataC a b limit cmp wasBalanced wasPartitioned length pivot h7 nx0 K))
  (slices_pdqsortCmpFunc_2_int_b4 data dataL dataC a b limit cmp wasBalanced wasPartitioned length pivot h nx0 K))
  (slices_pdqsortCmpFunc_2_int_b4 data dataL dataC a b limit cmp wasBalanced wasPartitioned length pivot h nx0 K))
  (slices_pdqsortCmpFunc_2_int_b4 data dataL dataC a b limit cmp wasBalanced wasPartitioned length pivot h nx0 K)) := by kernel_rfl
theorem slices_pdqsortCmpFunc_2_int_b4_eq (data : Option Addr) (dataL : Nat) (dataC : Nat) (a : Int) (b : Int) (limit : Int) (cmp : Value) (wasBalanced : Bool) (wasPartitioned : Bool) (length : Int) (pivot : Int) (h : Hp) (nx0 : Int × Int × Int × Bool × Bool × Unit → Hp → Prop) (K : Value → Hp → Prop) : slices_pdqsortCmpFunc_2_int_b4 data dataL dataC a b limit cmp wasBalanced wasPartitioned length pivot h nx0 K = (
  cond (decide ((0 : Int) < a))
  (InR (a - 1) ∧
  (0 ≤ a - 1 ∧ a - 1 < (dataL : Int)) ∧
  NN data fun a1 =>
  ∃ n1 : Int, ∃ n2 : Int, cell h (a1.add (Int.toNat (a - 1) * 2)) = some (.int .i64 n1) ∧
  cell h ((a1.add (Int.toNat (a - 1) * 2)).add 1) = some (.int .i64 n2) ∧
  (0 ≤ pivot ∧ pivot < (dataL : Int)) ∧
  NN data fun a2 =>
  ∃ n3 : Int, ∃ n4 : Int, cell h (a2.add (Int.toNat pivot * 2)) = some (.int .i64 n3) ∧
  cell h ((a2.add (Int.toNat pivot * 2)).add 1) = some (.int .i64 n4) ∧
  funV cmp fun fg1 fa1 fc1 => callX Try.prog F fg1 (fa1 ++ (([.agg #[.int .i64 n1, .int .i64 n2], .agg #[.int .i64 n3, .int .i64 n4]] : List Value) ++ fc1)).toArray h fun v7 h8 => ∃ r4 : Int, v7 = .int .i64 r4 ∧
  cond (!(decide (r4 < 0)))
  (HCalls Try.prog 68 #[.slice data dataL dataC, .int .i64 a, .int .i64 b, .int .i64 pivot, cmp] h8 fun v8 h9 => ∃ r5 : Int, v8 = .int .i64 r5 ∧
  nx0 (r5, b, limit, wasBalanced, wasPartitioned, ()) h9)
  (slices_pdqsortCmpFunc_2_int_b5 data dataL dataC a b limit cmp length pivot h8 nx0 K))
  (slices_pdqsortCmpFunc_2_int_b5 data dataL dataC a b limit cmp length pivot h nx0 K)) := by kernel_rfl
theorem slices_pdqsortCmpFunc_2_int_b5_eq (data : Option Addr) (dataL : Nat) (dataC : Nat) (a : Int) (b : Int) (limit : Int) (cmp : Value) (length : Int) (pivot : Int) (h : Hp) (nx0 : Int × Int × Int × Bool × Bool × Unit → Hp → Prop) (K : Value → Hp → Prop) : slices_pdqsortCmpFunc_2_int_b5 data dataL dataC a b limit cmp length pivot h nx0 K = (
  HCalls Try.prog 69 #[.slice data dataL dataC, .int .i64 a, .int .i64 b, .int .i64 pivot, cmp] h fun v9 h10 => ∃ r6 : Int, ∃ r7 : Bool, v9 = .tuple #[.int .i64 r6, .bool r7] ∧
  InR (r6 - a) ∧
  InR (b - r6) ∧
  ∃ q1 : Int, Sx.Quo .i64 length 8 q1 ∧
  cond (decide ((r6 - a) < (b - r6)))
  (HCalls Try.prog 55 #[.slice data dataL dataC, .int .i64 a, .int .i64 r6, .int .i64 limit, cmp] h10 fun v10 h11 => v10 = .tuple #[] ∧
  InR (r6 + 1) ∧
  nx0 (r6 + 1, b, limit, decide (q1 ≤ (r6 - a)), r7, ()) h11)
  (InR (r6 + 1) ∧
  HCalls Try.prog 55 #[.slice data dataL dataC, .int .i64 (r6 + 1), .int .i64 b, .int .i64 limit, cmp] h10 fun v11 h12 => v11 = .tuple #[] ∧
  nx0 (a, r6, limit, decide (q1 ≤ (b - r6)), r7, ()) h12)) := by kernel_rfl
theorem slices_pdqsortCmpFunc_2_int_call {data : Option Addr} {dataL : Nat} {dataC : Nat} {a : Int} {b : Int} {limit : Int} {cmp : Value} {h : Hp} {K : Value → Hp → Prop} (hk : slices_pdqsortCmpFunc_2_int_b0 data dataL dataC a b limit cmp h K) : HCalls Try.prog 55 #[.slice data dataL dataC, .int .i64 a, .int .i64 b, .int .i64 limit, cmp] h K :=
  calls_of_snd slices_pdqsortCmpFunc_2_int_an Try.func55 (c := bodyOf Try.f55) rfl Try.ntmps55 (Nat.le_of_ble_eq_true rfl) (snd_6 F_ok F_mixed) hk

/-! ### math_bits_Len -/
def math_bits_Len_an : Ann := .leaf
def math_bits_Len_K0  (K : Value → Hp → Prop) : Exit → Env → Hp → Prop := retK Try.prog Try.f56.results.toList K
def math_bits_Len_b0 (x : Int) (h : Hp)  (K : Value → Hp → Prop) : Prop :=
  sx_1 Try.prog F 8 (cp [] (bodyOf Try.f56)) (ap [] math_bits_Len_an) [(0, .int .u64 x)] h (math_bits_Len_K0  K)
theorem math_bits_Len_b0_eq (x : Int) (h : Hp)  (K : Value → Hp → Prop) : math_bits_Len_b0 x h  K = (
  HCalls Try.prog 71 #[.int .u64 x] h fun v1 h1 => ∃ r1 : Int, v1 = .int .i64 r1 ∧
  K (.int .i64 r1) h1) := by kernel_rfl
theorem math_bits_Len_call {x : Int} {h : Hp} {K : Value → Hp → Prop} (hk : math_bits_Len_b0 x h K) : HCalls Try.prog 56 #[.int .u64 x] h K :=
  calls_of_snd math_bits_Len_an Try.func56 (c := bodyOf Try.f56) rfl Try.ntmps56 (Nat.le_of_ble_eq_true rfl) (snd_1 F_ok F_mixed) hk

/-! ### cmp_isNaN_int -/
def cmp_isNaN_int_an : Ann := .leaf
def cmp_isNaN_int_K0  (K : Value → Hp → Prop) : Exit → Env → Hp → Prop := retK Try.prog Try.f57.results.toList K
def cmp_isNaN_int_b0 (x : Int) (h : Hp)  (K : Value → Hp → Prop) : Prop :=
  sx_1 Try.prog F 6 (cp [] (bodyOf Try.f57)) (ap [] cmp_isNaN_int_an) [(0, .int .i64 x)] h (cmp_isNaN_int_K0  K)
theorem cmp_isNaN_int_b0_eq (x : Int) (h : Hp)  (K : Value → Hp → Prop) : cmp_isNaN_int_b0 x h  K = (
  K (.bool (!decide (x = x))) h) := by kernel_rfl
theorem cmp_isNaN_int_call {x : Int} {h : Hp} {K : Value → Hp → Prop} (hk : cmp_isNaN_int_b0 x h K) : HCalls Try.prog 57 #[.int .i64 x] h K :=
  calls_of_snd cmp_isNaN_int_an Try.func57 (c := bodyOf Try.f57) rfl Try.ntmps57 (Nat.le_of_ble_eq_true rfl) (snd_1 F_ok F_mixed) hk

/-! ### slices_IndexFunc_Sint_int -/
def slices_IndexFunc_Sint_int_an : Ann := .node none (.leaf) (.node (some []) (.node none (.leaf) (.loop [0, 1, 7] [(8, .int .i64)] (.node none (.leaf) (.node none (.leaf) (.node (some [0, 1, 7, 8]) (.leaf) (.leaf)))))) (.leaf))
def slices_IndexFunc_Sint_int_K0  (K : Value → Hp → Prop) : Exit → Env → Hp → Prop := retK Try.prog Try.f58.results.toList K
def slices_IndexFunc_Sint_int_K1  (K : Value → Hp → Prop) : Exit → Env → Hp → Prop := thenE (fun env h => sx_2 Try.prog F 19 (cp [1, 1] (bodyOf Try.f58)) (ap [1, 1] slices_IndexFunc_Sint_int_an) (rs [] env) h (slices_IndexFunc_Sint_int_K0  K)) (slices_IndexFunc_Sint_int_K0  K)
def slices_IndexFunc_Sint_int_K2  (K : Value → Hp → Prop) : Exit → Env → Hp → Prop := blockE 0 (slices_IndexFunc_Sint_int_K1  K)
def slices_IndexFunc_Sint_int_K3 (nx0 : Int × Unit → Hp → Prop) (K : Value → Hp → Prop) : Exit → Env → Hp → Prop := thenE (fun env h => getV [(8, .int .i64)] env fun s => nx0 s h) (slices_IndexFunc_Sint_int_K2  K)
def slices_IndexFunc_Sint_int_b0 (s : Option Addr) (sL : Nat) (sC : Nat) (f : Value) (h : Hp)  (K : Value → Hp → Prop) : Prop :=
  sx_3 Try.prog F 19 (cp [] (bodyOf Try.f58)) (ap [] slices_IndexFunc_Sint_int_an) [(0, .slice s sL sC), (1, f)] h (slices_IndexFunc_Sint_int_K0  K)
def slices_IndexFunc_Sint_int_b1 (t8 : Int) (s : Option Addr) (sL : Nat) (sC : Nat) (f : Value) (t7 : Int) (h : Hp) (nx0 : Int × Unit → Hp → Prop) (K : Value → Hp → Prop) : Prop :=
  sx_2 Try.prog F 19 (cp [1, 0, 1, 2, 2] (bodyOf Try.f58)) (ap [1, 0, 1, 2] slices_IndexFunc_Sint_int_an) [(8, .int .i64 t8), (0, .slice s sL sC), (1, f), (7, .int .i64 t7)] h (slices_IndexFunc_Sint_int_K3 nx0 K)
def slices_IndexFunc_Sint_int_b2 (s : Option Addr) (sL : Nat) (sC : Nat) (f : Value) (t7 : Int) (t8 : Int) (h : Hp) (nx0 : Int × Unit → Hp → Prop) (K : Value → Hp → Prop) : Prop :=
  sx_1 Try.prog F 19 (cp [1, 0, 1, 2, 2, 1, 1, 1] (bodyOf Try.f58)) (ap [1, 0, 1, 2, 1, 1, 1] slices_IndexFunc_Sint_int_an) [(0, .slice s sL sC), (1, f), (7, .int .i64 t7), (8, .int .i64 t8)] h (slices_IndexFunc_Sint_int_K3 nx0 K)
def slices_IndexFunc_Sint_int_b3  (h : Hp)  (K : Value → Hp → Prop) : Prop :=
  sx_2 Try.prog F 19 (cp [1, 1] (bodyOf Try.f58)) (ap [1, 1] slices_IndexFunc_Sint_int_an) [] h (slices_IndexFunc_Sint_int_K0  K)
theorem slices_IndexFunc_Sint_int_b0_eq (s : Option Addr) (sL : Nat) (sC : Nat) (f : Value) (h : Hp)  (K : Value → Hp → Prop) : slices_IndexFunc_Sint_int_b0 s sL sC f h  K = (
  LoopVC ((0, ()) : Int × Unit) h (fun (nx0 : Int × Unit → Hp → Prop) (s1 : Int × Unit) h1 => slices_IndexFunc_Sint_int_b1 s1.1 s sL sC f (sL : Int) h1 nx0 K)) := by kernel_rfl
theorem slices_IndexFunc_Sint_int_b1_eq (t8 : Int) (s : Option Addr) (sL : Nat) (sC : Nat) (f : Value) (t7 : Int) (h : Hp) (nx0 : Int × Unit → Hp → Prop) (K : Value → Hp → Prop) : slices_IndexFunc_Sint_int_b1 t8 s sL sC f t7 h nx0 K = (
  cond (decide (t8 < t7))
  ((0 ≤ t8 ∧ t8 < (sL : Int)) ∧
  NN s fun a1 =>
  ∃ n1 : Int, cell h (a1.add (Int.toNat t8 * 1)) = some (.int .i64 n1) ∧
  funV f fun fg1 fa1 fc1 => callX Try.prog F fg1 (fa1 ++ (([.int .i64 n1] : List Value) ++ fc1)).toArray h fun v1 h2 => ∃ r1 : Bool, v1 = .bool r1 ∧
  cond r1
  (K (.int .i64 t8) h2)
  (slices_IndexFunc_Sint_int_b2 s sL sC f t7 t8 h2 nx0 K))
  (slices_IndexFunc_Sint_int_b3  h  K)) := by kernel_rfl
theorem slices_IndexFunc_Sint_int_b2_eq (s : Option Addr) (sL : Nat) (sC : Nat) (f : Value) (t7 : Int) (t8 : Int) (h : Hp) (nx0 : Int × Unit → Hp → Prop) (K : Value → Hp → Prop) : slices_IndexFunc_Sint_int_b2 s sL sC f t7 t8 h nx0 K = (
  InR (t8 + 1) ∧
  nx0 (t8 + 1, ()) h) := by kernel_rfl
theorem slices_IndexFunc_Sint_int_b3_eq  (h : Hp)  (K : Value → Hp → Prop) : slices_IndexFunc_Sint_int_b3  h  K = (
  K (.int .i64 (-1)) h) := by kernel_rfl
theorem slices_IndexFunc_Sint_int_call {s : Option Addr} {sL : Nat} {sC : Nat} {f : Value} {h : Hp} {K : Value → Hp → Prop} (hk : slices_IndexFunc_Sint_int_b0 s sL sC f h K) : HCalls Try.prog 58 #[.slice s sL sC, f] h K :=
  calls_of_snd slices_IndexFunc_Sint_int_an Try.func58 (c := bodyOf Try.f58) rfl Try.ntmps58 (Nat.le_of_ble_eq_true rfl) (snd_3 F_ok F_mixed) hk

/-! ### build -/
def build_an : Ann := .node none (.leaf) (.node none (.leaf) (.node (some [0, 3]) (.node none (.leaf) (.loop [0, 9, 10] [(3, .int .i64), (11, .int .i64)] (.node none (.leaf) (.node none (.leaf) (.node (some [0, 3, 9, 10, 11]) (.leaf) (.leaf)))))) (.leaf)))
def build_K0  (K : Value → Hp → Prop) : Exit → Env → Hp → Prop := retK Try.prog Try.f59.results.toList K
def build_K1  (K : Value → Hp → Prop) : Exit → Env → Hp → Prop := thenE (fun env h => sx_2 Try.prog F 41 (cp [1, 1, 1] (bodyOf Try.f59)) (ap [1, 1, 1] build_an) (rs [0, 3] env) h (build_K0  K)) (build_K0  K)
def build_K2  (K : Value → Hp → Prop) : Exit → Env → Hp → Prop := blockE 0 (build_K1  K)
def build_K3 (nx0 : Int × Int × Unit → Hp → Prop) (K : Value → Hp → Prop) : Exit → Env → Hp → Prop := thenE (fun env h => getV [(3, .int .i64), (11, .int .i64)] env fun s => nx0 s h) (build_K2  K)
def build_b0 (v : Option Addr) (h : Hp)  (K : Value → Hp → Prop) : Prop :=
  sx_3 Try.prog F 41 (cp [] (bodyOf Try.f59)) (ap [] build_an) [(0, .pointer v)] h (build_K0  K)
def build_b1 (total : Int) (t11 : Int) (v : Option Addr) (t9 : Option Addr) (t9L : Nat) (t9C : Nat) (t10 : Int) (h : Hp) (nx0 : Int × Int × Unit → Hp → Prop) (K : Value → Hp → Prop) : Prop :=
  sx_2 Try.prog F 41 (cp [1, 1, 0, 1, 2, 2] (bodyOf Try.f59)) (ap [1, 1, 0, 1, 2] build_an) [(3, .int .i64 total), (11, .int .i64 t11), (0, .pointer v), (9, .slice t9 t9L t9C), (10, .int .i64 t10)] h (build_K3 nx0 K)
def build_b2 (v : Option Addr) (total : Int) (t9 : Option Addr) (t9L : Nat) (t9C : Nat) (t10 : Int) (t11 : Int) (h : Hp) (nx0 : Int × Int × Unit → Hp → Prop) (K : Value → Hp → Prop) : Prop :=
  sx_1 Try.prog F 41 (cp [1, 1, 0, 1, 2, 2, 1, 1, 1] (bodyOf Try.f59)) (ap [1, 1, 0, 1, 2, 1, 1, 1] build_an) [(0, .pointer v), (3, .int .i64 total), (9, .slice t9 t9L t9C), (10, .int .i64 t10), (11, .int .i64 t11)] h (build_K3 nx0 K)
def build_b3 (v : Option Addr) (total : Int) (h : Hp)  (K : Value → Hp → Prop) : Prop :=
  sx_2 Try.prog F 41 (cp [1, 1, 1] (bodyOf Try.f59)) (ap [1, 1, 1] build_an) [(0, .pointer v), (3, .int .i64 total)] h (build_K0  K)
theorem build_b0_eq (v : Option Addr) (h : Hp)  (K : Value → Hp → Prop) : build_b0 v h  K = (
  NN v fun a1 =>
  ∃ (a2 : Option Addr) (L1 C1 : Nat), cell h (a1.add 1) = some (.slice a2 L1 C1) ∧
  LoopVC ((0, 0, ()) : Int × Int × Unit) h (fun (nx0 : Int × Int × Unit → Hp → Prop) (s1 : Int × Int × Unit) h1 => build_b1 s1.1 s1.2.1 v a2 L1 C1 (L1 : Int) h1 nx0 K)) := by kernel_rfl
theorem build_b1_eq (total : Int) (t11 : Int) (v : Option Addr) (t9 : Option Addr) (t9L : Nat) (t9C : Nat) (t10 : Int) (h : Hp) (nx0 : Int × Int × Unit → Hp → Prop) (K : Value → Hp → Prop) : build_b1 total t11 v t9 t9L t9C t10 h nx0 K = (
  cond (decide (t11 < t10))
  ((0 ≤ t11 ∧ t11 < (t9L : Int)) ∧
  NN t9 fun a3 =>
  ∃ n1 : Int, cell h (a3.add (Int.toNat t11 * 1)) = some (.int .u64 n1) ∧
  NN v fun a4 =>
  ∃ (a5 : Option Addr) (L2 C2 : Nat), cell h (a4.add 2) = some (.slice a5 L2 C2) ∧
  New h (.cells #[.int .i64 total] 3) fun b1 h2 =>
  appendV Try.prog 22 22 (.slice a5 L2 C2) (.slice (some ⟨b1, 0, none⟩) 1 1) h2 (slK fun a6 l1 c1 h3 =>
  NN v fun a7 =>
  Wr h3 (a7.add 2) (.slice a6 l1 c1) fun h4 =>
  HCalls Try.prog 72 #[.int .u64 n1] h4 fun v1 h5 => ∃ r1 : Int, v1 = .int .i64 r1 ∧
  InR (total + r1) ∧
  build_b2 v (total + r1) t9 t9L t9C t10 t11 h5 nx0 K))
  (build_b3 v total h  K)) := by kernel_rfl
theorem build_b2_eq (v : Option Addr) (total : Int) (t9 : Option Addr) (t9L : Nat) (t9C : Nat) (t10 : Int) (t11 : Int) (h : Hp) (nx0 : Int × Int × Unit → Hp → Prop) (K : Value → Hp → Prop) : build_b2 v total t9 t9L t9C t10 t11 h nx0 K = (
  InR (t11 + 1) ∧
  nx0 (total, t11 + 1, ()) h) := by kernel_rfl
theorem build_b3_eq (v : Option Addr) (total : Int) (h : Hp)  (K : Value → Hp → Prop) : build_b3 v total h  K = (
  NN v fun a8 =>
  ∃ (a9 : Option Addr) (L3 C3 : Nat), cell h (a8.add 2) = some (.slice a9 L3 C3) ∧
  New h (.cells #[.int .i64 total] 3) fun b2 h6 =>
  appendV Try.prog 22 22 (.slice a9 L3 C3) (.slice (some ⟨b2, 0, none⟩) 1 1) h6 (slK fun a10 l2 c2 h7 =>
  NN v fun a11 =>
  Wr h7 (a11.add 2) (.slice a10 l2 c2) fun h8 =>
  K (.pointer v) h8)) := by kernel_rfl
theorem build_call {v : Option Addr} {h : Hp} {K : Value → Hp → Prop} (hk : build_b0 v h K) : HCalls Try.prog 59 #[.pointer v] h K :=
  calls_of_snd build_an Try.func59 (c := bodyOf Try.f59) rfl Try.ntmps59 (Nat.le_of_ble_eq_true rfl) (snd_3 F_ok F_mixed) hk

/-! ### slices_stableCmpFunc_int -/
def slices_stableCmpFunc_int_an : Ann := .node none (.leaf) (.node none (.leaf) (.node (some [0, 1, 2, 6, 7]) (.loop [0, 1, 2, 6] [(7, .int .i64), (8, .int .i64)] (.leaf)) (.node none (.leaf) (.loop [0, 1, 2] [(6, .int .i64)] (.node none (.leaf) (.node none (.leaf) (.node (some [0, 1, 2, 6, 7]) (.loop [0, 1, 2, 6] [(7, .int .i64), (8, .int .i64)] (.leaf)) (.node (some [0, 1, 2, 6]) (.leaf) (.leaf)))))))))
def slices_stableCmpFunc_int_K0  (K : Value → Hp → Prop) : Exit → Env → Hp → Prop := retK Try.prog Try.f60.results.toList K
def slices_stableCmpFunc_int_K1  (K : Value → Hp → Prop) : Exit → Env → Hp → Prop := thenE (fun env h => sx_4 Try.prog F 63 (cp [1, 1, 1] (bodyOf Try.f60)) (ap [1, 1, 1] slices_stableCmpFunc_int_an) (rs [0, 1, 2, 6, 7] env) h (slices_stableCmpFunc_int_K0  K)) (slices_stableCmpFunc_int_K0  K)
def slices_stableCmpFunc_int_K2  (K : Value → Hp → Prop) : Exit → Env → Hp → Prop := blockE 0 (slices_stableCmpFunc_int_K1  K)
def slices_stableCmpFunc_int_K3 (nx0 : Int × Int × Unit → Hp → Prop) (K : Value → Hp → Prop) : Exit → Env → Hp → Prop := thenE (fun env h => getV [(7, .int .i64), (8, .int .i64)] env fun s => nx0 s h) (slices_stableCmpFunc_int_K2  K)
def slices_stableCmpFunc_int_K4  (K : Value → Hp → Prop) : Exit → Env → Hp → Prop := blockE 2 (slices_stableCmpFunc_int_K0  K)
def slices_stableCmpFunc_int_K5 (nx0 : Int × Unit → Hp → Prop) (K : Value → Hp → Prop) : Exit → Env → Hp → Prop := thenE (fun env h => getV [(6, .int .i64)] env fun s => nx0 s h) (slices_stableCmpFunc_int_K4  K)
def slices_stableCmpFunc_int_K6 (nx0 : Int × Unit → Hp → Prop) (K : Value → Hp → Prop) : Exit → Env → Hp → Prop := blockE 3 (slices_stableCmpFunc_int_K5 nx0 K)
def slices_stableCmpFunc_int_K7 (nx0 : Int × Unit → Hp → Prop) (K : Value → Hp → Prop) : Exit → Env → Hp → Prop := thenE (fun env h => sx_2 Try.prog F 63 (cp [1, 1, 1, 1, 2, 2, 1, 2, 1, 1] (bodyOf Try.f60)) (ap [1, 1, 1, 1, 2, 1, 1, 1] slices_stableCmpFunc_int_an) (rs [0, 1, 2, 6, 7] env) h (slices_stableCmpFunc_int_K6 nx0 K)) (slices_stableCmpFunc_int_K6 nx0 K)
def slices_stableCmpFunc_int_K8 (nx0 : Int × Unit → Hp → Prop) (K : Value → Hp → Prop) : Exit → Env → Hp → Prop := blockE 4 (slices_stableCmpFunc_int_K7 nx0 K)
def slices_stableCmpFunc_int_K9 (nx0 : Int × Unit → Hp → Prop) (nx1 : Int × Int × Unit → Hp → Prop) (K : Value → Hp → Prop) : Exit → Env → Hp → Prop := thenE (fun env h => getV [(7, .int .i64), (8, .int .i64)] env fun s => nx1 s h) (slices_stableCmpFunc_int_K8 nx0 K)
def slices_stableCmpFunc_int_b0 (data : Option Addr) (dataL : Nat) (dataC : Nat) (nv : Int) (cmp : Value) (h : Hp)  (K : Value → Hp → Prop) : Prop :=
  sx_5 Try.prog F 63 (cp [] (bodyOf Try.f60)) (ap [] slices_stableCmpFunc_int_an) [(0, .slice data dataL dataC), (1, .int .i64 nv), (2, cmp)] h (slices_stableCmpFunc_int_K0  K)
def slices_stableCmpFunc_int_b1 (a : Int) (b : Int) (data : Option Addr) (dataL : Nat) (dataC : Nat) (nv : Int) (cmp : Value) (blockSize : Int) (h : Hp) (nx0 : Int × Int × Unit → Hp → Prop) (K : Value → Hp → Prop) : Prop :=
  sx_4 Try.prog F 63 (cp [1, 1, 0, 2, 2] (bodyOf Try.f60)) (ap [1, 1, 0, 2] slices_stableCmpFunc_int_an) [(7, .int .i64 a), (8, .int .i64 b), (0, .slice data dataL dataC), (1, .int .i64 nv), (2, cmp), (6, .int .i64 blockSize)] h (slices_stableCmpFunc_int_K3 nx0 K)
def slices_stableCmpFunc_int_b2 (data : Option Addr) (dataL : Nat) (dataC : Nat) (nv : Int) (cmp : Value) (blockSize : Int) (a : Int) (h : Hp)  (K : Value → Hp → Prop) : Prop :=
  sx_4 Try.prog F 63 (cp [1, 1, 1] (bodyOf Try.f60)) (ap [1, 1, 1] slices_stableCmpFunc_int_an) [(0, .slice data dataL dataC), (1, .int .i64 nv), (2, cmp), (6, .int .i64 blockSize), (7, .int .i64 a)] h (slices_stableCmpFunc_int_K0  K)
def slices_stableCmpFunc_int_b3 (blockSize : Int) (data : Option Addr) (dataL : Nat) (dataC : Nat) (nv : Int) (cmp : Value) (h : Hp) (nx0 : Int × Unit → Hp → Prop) (K : Value → Hp → Prop) : Prop :=
  sx_3 Try.prog F 63 (cp [1, 1, 1, 1, 2, 2] (bodyOf Try.f60)) (ap [1, 1, 1, 1, 2] slices_stableCmpFunc_int_an) [(6, .int .i64 blockSize), (0, .slice data dataL dataC), (1, .int .i64 nv), (2, cmp)] h (slices_stableCmpFunc_int_K5 nx0 K)
def slices_stableCmpFunc_int_b4 (a : Int) (b : Int) (data : Option Addr) (dataL : Nat) (dataC : Nat) (nv : Int) (cmp : Value) (blockSize : Int) (h : Hp) (nx0 : Int × Unit → Hp → Prop) (nx1 : Int × Int × Unit → Hp → Prop) (K : Value → Hp → Prop) : Prop :=
  sx_2 Try.prog F 63 (cp [1, 1, 1, 1, 2, 2, 1, 2, 1, 0, 2, 2] (bodyOf Try.f60)) (ap [1, 1, 1, 1, 2, 1, 1, 0, 2] slices_stableCmpFunc_int_an) [(7, .int .i64 a), (8, .int .i64 b), (0, .slice data dataL dataC), (1, .int .i64 nv), (2, cmp), (6, .int .i64 blockSize)] h (slices_stableCmpFunc_int_K9 nx0 nx1 K)
def slices_stableCmpFunc_int_b5 (data : Option Addr) (dataL : Nat) (dataC : Nat) (nv : Int) (cmp : Value) (blockSize : Int) (a : Int) (h : Hp) (nx0 : Int × Unit → Hp → Prop) (K : Value → Hp → Prop) : Prop :=
  sx_2 Try.prog F 63 (cp [1, 1, 1, 1, 2, 2, 1, 2, 1, 1] (bodyOf Try.f60)) (ap [1, 1, 1, 1, 2, 1, 1, 1] slices_stableCmpFunc_int_an) [(0, .slice data dataL dataC), (1, .int .i64 nv), (2, cmp), (6, .int .i64 blockSize), (7, .int .i64 a)] h (slices_stableCmpFunc_int_K6 nx0 K)
def slices_stableCmpFunc_int_b6 (data : Option Addr) (dataL : Nat) (dataC : Nat) (nv : Int) (cmp : Value) (blockSize : Int) (h : Hp) (nx0 : Int × Unit → Hp → Prop) (K : Value → Hp → Prop) : Prop :=
  sx_1 Try.prog F 63 (cp [1, 1, 1, 1, 2, 2, 1, 2, 1, 1, 1] (bodyOf Try.f60)) (ap [1, 1, 1, 1, 2, 1, 1, 1, 1] slices_stableCmpFunc_int_an) [(0, .slice data dataL dataC), (1, .int .i64 nv), (2, cmp), (6, .int .i64 blockSize)] h (slices_stableCmpFunc_int_K6 nx0 K)
theorem slices_stableCmpFunc_int_b0_eq (data : Option Addr) (dataL : Nat) (dataC : Nat) (nv : Int) (cmp : Value) (h : Hp)  (K : Value → Hp → Prop) : slices_stableCmpFunc_int_b0 data dataL dataC nv cmp h  K = (
  LoopVC ((0, 20, ()) : Int × Int × Unit) h (fun (nx0 : Int × Int × Unit → Hp → Prop) (s1 : Int × Int × Unit) h1 => slices_stableCmpFunc_int_b1 s1.1 s1.2.1 data dataL dataC nv cmp 20 h1 nx0 K)) := by kernel_rfl
theorem slices_stableCmpFunc_int_b1_eq (a : Int) (b : Int) (data : Option Addr) (dataL : Nat) (dataC : Nat) (nv : Int) (cmp : Value) (blockSize : Int) (h : Hp) (nx0 : Int × Int × Unit → Hp → Prop) (K : Value → Hp → Prop) : slices_stableCmpFunc_int_b1 a b data dataL dataC nv cmp blockSize h nx0 K = (
  cond (decide (b ≤ nv))
  (HCalls Try.prog 73 #[.slice data dataL dataC, .int .i64 a, .int .i64 b, cmp] h fun v1 h2 => v1 = .tuple #[] ∧
  InR (b + blockSize) ∧
  nx0 (b, b + blockSize, ()) h2)
  (slices_stableCmpFunc_int_b2 data dataL dataC nv cmp blockSize a h  K)) := by kernel_rfl
theorem slices_stableCmpFunc_int_b2_eq (data : Option Addr) (dataL : Nat) (dataC : Nat) (nv : Int) (cmp : Value) (blockSize : Int) (a : Int) (h : Hp)  (K : Value → Hp → Prop) : slices_stableCmpFunc_int_b2 data dataL dataC nv cmp blockSize a h  K = (
  HCalls Try.prog 73 #[.slice data dataL dataC, .int .i64 a, .int .i64 nv, cmp] h fun v2 h3 => v2 = .tuple #[] ∧
  LoopVC ((blockSize, ()) : Int × Unit) h3 (fun (nx0 : Int × Unit → Hp → Prop) (s2 : Int × Unit) h4 => slices_stableCmpFunc_int_b3 s2.1 data dataL dataC nv cmp h4 nx0 K)) := by kernel_rfl
theorem slices_stableCmpFunc_int_b3_eq (blockSize : Int) (data : Option Addr) (dataL : Nat) (dataC : Nat) (nv : Int) (cmp : Value) (h : Hp) (nx0 : Int × Unit → Hp → Prop) (K : Value → Hp → Prop) : slices_stableCmpFunc_int_b3 blockSize data dataL dataC nv cmp h nx0 K = (
  cond (decide (blockSize < nv))
  (InR (2 * blockSize) ∧
  LoopVC ((0, 2 * blockSize, ()) : Int × Int × Unit) h (fun (nx1 : Int × Int × Unit → Hp → Prop) (s3 : Int × Int × Unit) h5 => slices_stableCmpFunc_int_b4 s3.1 s3.2.1 data dataL dataC nv cmp blockSize h5 nx0 nx1 K))
  (K (.tuple #[]) h)) := by kernel_rfl
theorem slices_stableCmpFunc_int_b4_eq (a : Int) (b : Int) (data : Option Addr) (dataL : Nat) (dataC : Nat) (nv : Int) (cmp : Value) (blockSize : Int) (h : Hp) (nx0 : Int × Unit → Hp → Prop) (nx1 : Int × Int × Unit → Hp → Prop) (K : Value → Hp → Prop) : slices_stableCmpFunc_int_b4 a b data dataL dataC nv cmp blockSize h nx0 nx1 K = (
  cond (decide (b ≤ nv))
  (InR (a + blockSize) ∧
  HCalls Try.prog 74 #[.slice data dataL dataC, .int .i64 a, .int .i64 (a + blockSize), .int .i64 b, cmp] h fun v3 h6 => v3 = .tuple #[] ∧
  InR (2 * blockSize) ∧
  InR (b + (2 * blockSize)) ∧
  nx1 (b, b + (2 * blockSize), ()) h6)
  (slices_stableCmpFunc_int_b5 data dataL dataC nv cmp blockSize a h nx0 K)) := by kernel_rfl
theorem slices_stableCmpFunc_int_b5_eq (data : Option Addr) (dataL : Nat) (dataC : Nat) (nv : Int) (cmp : Value) (blockSize : Int) (a : Int) (h : Hp) (nx0 : Int × Unit → Hp → Prop) (K : Value → Hp → Prop) : slices_stableCmpFunc_int_b5 data dataL dataC nv cmp blockSize a h nx0 K = (
  InR (a + blockSize) ∧
  cond (decide ((a + blockSize) < nv))
  (HCalls Try.prog 74 #[.slice data dataL dataC, .int .i64 a, .int .i64 (a + blockSize), .int .i64 nv, cmp] h fun v4 h7 => v4 = .tuple #[] ∧
  slices_stableCmpFunc_int_b6 data dataL dataC nv cmp blockSize h7 nx0 K)
  (slices_stableCmpFunc_int_b6 data dataL dataC nv cmp blockSize h nx0 K)) := by kernel_rfl
theorem slices_stableCmpFunc_int_b6_eq (data : Option Addr) (dataL : Nat) (dataC : Nat) (nv : Int) (cmp : Value) (blockSize : Int) (h : Hp) (nx0 : Int × Unit → Hp → Prop) (K : Value → Hp → Prop) : slices_stableCmpFunc_int_b6 data dataL dataC nv cmp blockSize h nx0 K = (
  InR (blockSize * 2) ∧
  nx0 (blockSize * 2, ()) h) := by kernel_rfl
theorem slices_stableCmpFunc_int_call {data : Option Addr} {dataL : Nat} {dataC : Nat} {nv : Int} {cmp : Value} {h : Hp} {K : Value → Hp → Prop} (hk : slices_stableCmpFunc_int_b0 data dataL dataC nv cmp h K) : HCalls Try.prog 60 #[.slice data dataL dataC, .int .i64 nv, cmp] h K :=
  calls_of_snd slices_stableCmpFunc_int_an Try.func60 (c := bodyOf Try.f60) rfl Try.ntmps60 (Nat.le_of_ble_eq_true rfl) (snd_5 F_ok F_mixed) hk

/-! ### Rank -/
def Rank_an : Ann := .node none (.leaf) (.node (some [0, 1, 2]) (.leaf) (.leaf))
def Rank_K0  (K : Value → Hp → Prop) : Exit → Env → Hp → Prop := retK Try.prog Try.f61.results.toList K
def Rank_b0 (v : Option Addr) (bit : Bool) (i : Int) (h : Hp)  (K : Value → Hp → Prop) : Prop :=
  sx_2 Try.prog F 26 (cp [] (bodyOf Try.f61)) (ap [] Rank_an) [(0, .pointer v), (1, .bool bit), (2, .int .i64 i)] h (Rank_K0  K)
def Rank_b1 (v : Option Addr) (bit : Bool) (i : Int) (h : Hp)  (K : Value → Hp → Prop) : Prop :=
  sx_1 Try.prog F 26 (cp [1, 1] (bodyOf Try.f61)) (ap [1, 1] Rank_an) [(0, .pointer v), (1, .bool bit), (2, .int .i64 i)] h (Rank_K0  K)
theorem Rank_b0_eq (v : Option Addr) (bit : Bool) (i : Int) (h : Hp)  (K : Value → Hp → Prop) : Rank_b0 v bit i h  K = (
  cond v.isNone
  (K (.tuple #[.int .i64 0, .int .i64 1]) h)
  (cond (decide (i < 0))
  (K (.tuple #[.int .i64 0, .int .i64 2]) h)
  (NN v fun a1 =>
  ∃ n1 : Int, cell h a1 = some (.int .i64 n1) ∧
  cond (decide (n1 < i))
  (K (.tuple #[.int .i64 0, .int .i64 2]) h)
  (Rank_b1 v bit i h  K)))) := by kernel_rfl
theorem Rank_b1_eq (v : Option Addr) (bit : Bool) (i : Int) (h : Hp)  (K : Value → Hp → Prop) : Rank_b1 v bit i h  K = (
  HCalls Try.prog 75 #[.pointer v, .bool bit, .int .i64 i] h fun v1 h1 => ∃ r1 : Int, v1 = .int .i64 r1 ∧
  K (.tuple #[.int .i64 r1, .int .i64 0]) h1) := by kernel_rfl
theorem Rank_call {v : Option Addr} {bit : Bool} {i : Int} {h : Hp} {K : Value → Hp → Prop} (hk : Rank_b0 v bit i h K) : HCalls Try.prog 61 #[.pointer v, .bool bit, .int .i64 i] h K :=
  calls_of_snd Rank_an Try.func61 (c := bodyOf Try.f61) rfl Try.ntmps61 (Nat.le_of_ble_eq_true rfl) (snd_2 F_ok F_mixed) hk

/-! ### slices_insertionSortCmpFunc_2_int -/
def slices_insertionSortCmpFunc_2_int_an : Ann := .node none (.leaf) (.loop [0, 1, 2, 3] [(8, .int .i64)] (.node none (.leaf) (.node (some [0, 1, 2, 3, 8]) (.node none (.leaf) (.loop [0, 1, 2, 3, 8] [(9, .int .i64)] (.node (some [0, 1, 2, 3, 8, 9]) (.node none (.tail 14) (.leaf)) (.node (some [0, 1, 2, 3, 8, 9]) (.plan (.qu 0 (.qu 1 (.qu 2 (.qu 3 (.qu 4 (.qu 5 (.qu 6 (.qu 7 (.qu 8 (.qu 9 (.qu 10 (.qu 11 (.qu 12 (.qu 13 (.qu 14 (.wo 15 (.qu 16 (.wo 17 .fin .no)) .no))))))))))))))))) (.leaf))))) (.leaf))))
def slices_insertionSortCmpFunc_2_int_K0  (K : Value → Hp → Prop) : Exit → Env → Hp → Prop := retK Try.prog Try.f62.results.toList K
def slices_insertionSortCmpFunc_2_int_K1  (K : Value → Hp → Prop) : Exit → Env → Hp → Prop := blockE 0 (slices_insertionSortCmpFunc_2_int_K0  K)
def slices_insertionSortCmpFunc_2_int_K2 (nx0 : Int × Unit → Hp → Prop) (K : Value → Hp → Prop) : Exit → Env → Hp → Prop := thenE (fun env h => getV [(8, .int .i64)] env fun s => nx0 s h) (slices_insertionSortCmpFunc_2_int_K1  K)
def slices_insertionSortCmpFunc_2_int_K3 (nx0 : Int × Unit → Hp → Prop) (K : Value → Hp → Prop) : Exit → Env → Hp → Prop := thenE (fun env h => sx_3 Try.prog F 53 (cp [1, 2, 2, 1, 1] (bodyOf Try.f62)) (ap [1, 2, 1, 1] slices_insertionSortCmpFunc_2_int_an) (rs [0, 1, 2, 3, 8] env) h (slices_insertionSortCmpFunc_2_int_K2 nx0 K)) (slices_insertionSortCmpFunc_2_int_K2 nx0 K)
def slices_insertionSortCmpFunc_2_int_K4 (nx0 : Int × Unit → Hp → Prop) (K : Value → Hp → Prop) : Exit → Env → Hp → Prop := blockE 1 (slices_insertionSortCmpFunc_2_int_K3 nx0 K)
def slices_insertionSortCmpFunc_2_int_K5 (nx0 : Int × Unit → Hp → Prop) (K : Value → Hp → Prop) : Exit → Env → Hp → Prop := blockE 2 (slices_insertionSortCmpFunc_2_int_K4 nx0 K)
def slices_insertionSortCmpFunc_2_int_K6 (nx0 : Int × Unit → Hp → Prop) (nx1 : Int × Unit → Hp → Prop) (K : Value → Hp → Prop) : Exit → Env → Hp → Prop := thenE (fun env h => getV [(9, .int .i64)] env fun s => nx1 s h) (slices_insertionSortCmpFunc_2_int_K5 nx0 K)
def slices_insertionSortCmpFunc_2_int_b0 (data : Option Addr) (dataL : Nat) (dataC : Nat) (a : Int) (b : Int) (cmp : Value) (h : Hp)  (K : Value → Hp → Prop) : Prop :=
  sx_5 Try.prog F 53 (cp [] (bodyOf Try.f62)) (ap [] slices_insertionSortCmpFunc_2_int_an) [(0, .slice data dataL dataC), (1, .int .i64 a), (2, .int .i64 b), (3, cmp)] h (slices_insertionSortCmpFunc_2_int_K0  K)
def slices_insertionSortCmpFunc_2_int_b1 (i : Int) (data : Option Addr) (dataL : Nat) (dataC : Nat) (a : Int) (b : Int) (cmp : Value) (h : Hp) (nx0 : Int × Unit → Hp → Prop) (K : Value → Hp → Prop) : Prop :=
  sx_4 Try.prog F 53 (cp [1, 2, 2] (bodyOf Try.f62)) (ap [1, 2] slices_insertionSortCmpFunc_2_int_an) [(8, .int .i64 i), (0, .slice data dataL dataC), (1, .int .i64 a), (2, .int .i64 b), (3, cmp)] h (slices_insertionSortCmpFunc_2_int_K2 nx0 K)
def slices_insertionSortCmpFunc_2_int_b2 (j : Int) (data : Option Addr) (dataL : Nat) (dataC : Nat) (a : Int) (b : Int) (cmp : Value) (i : Int) (h : Hp) (nx0 : Int × Unit → Hp → Prop) (nx1 : Int × Unit → Hp → Prop) (K : Value → Hp → Prop) : Prop :=
  sx_3 Try.prog F 53 (cp [1, 2, 2, 1, 0, 2, 1, 2, 2] (bodyOf Try.f62)) (ap [1, 2, 1, 0, 1, 2] slices_insertionSortCmpFunc_2_int_an) [(9, .int .i64 j), (0, .slice data dataL dataC), (1, .int .i64 a), (2, .int .i64 b), (3, cmp), (8, .int .i64 i)] h (slices_insertionSortCmpFunc_2_int_K6 nx0 nx1 K)
def slices_insertionSortCmpFunc_2_int_b3 (data : Option Addr) (dataL : Nat) (dataC : Nat) (a : Int) (b : Int) (cmp : Value) (i : Int) (j : Int) (h : Hp) (nx0 : Int × Unit → Hp → Prop) (nx1 : Int × Unit → Hp → Prop) (K : Value → Hp → Prop) : Prop :=
  sx_2 Try.prog F 53 (cp [1, 2, 2, 1, 0, 2, 1, 2, 2, 1] (bodyOf Try.f62)) (ap [1, 2, 1, 0, 1, 2, 1] slices_insertionSortCmpFunc_2_int_an) [(0, .slice data dataL dataC), (1, .int .i64 a), (2, .int .i64 b), (3, cmp), (8, .int .i64 i), (9, .int .i64 j)] h (slices_insertionSortCmpFunc_2_int_K6 nx0 nx1 K)
def slices_insertionSortCmpFunc_2_int_b4 (data : Option Addr) (dataL : Nat) (dataC : Nat) (a : Int) (b : Int) (cmp : Value) (i : Int) (h : Hp) (nx0 : Int × Unit → Hp → Prop) (K : Value → Hp → Prop) : Prop :=
  sx_3 Try.prog F 53 (cp [1, 2, 2, 1, 1] (bodyOf Try.f62)) (ap [1, 2, 1, 1] slices_insertionSortCmpFunc_2_int_an) [(0, .slice data dataL dataC), (1, .int .i64 a), (2, .int .i64 b), (3, cmp), (8, .int .i64 i)] h (slices_insertionSortCmpFunc_2_int_K2 nx0 K)
def slices_insertionSortCmpFunc_2_int_b5 (data : Option Addr) (dataL : Nat) (dataC : Nat) (a : Int) (b : Int) (cmp : Value) (i : Int) (j : Int) (h : Hp) (nx0 : Int × Unit → Hp → Prop) (nx1 : Int × Unit → Hp → Prop) (K : Value → Hp → Prop) : Prop :=
  sx_1 Try.prog F 53 (cp [1, 2, 2, 1, 0, 2, 1, 2, 2, 1, 1] (bodyOf Try.f62)) (ap [1, 2, 1, 0, 1, 2, 1, 1] slices_insertionSortCmpFunc_2_int_an) [(0, .slice data dataL dataC), (1, .int .i64 a), (2, .int .i64 b), (3, cmp), (8, .int .i64 i), (9, .int .i64 j)] h (slices_insertionSortCmpFunc_2_int_K6 nx0 nx1 K)
theorem slices_insertionSortCmpFunc_2_int_b0_eq (data : Option Addr) (dataL : Nat) (dataC : Nat) (a : Int) (b : Int) (cmp : Value) (h : Hp)  (K : Value → Hp → Prop) : slices_insertionSortCmpFunc_2_int_b0 data dataL dataC a b cmp h  K = (
  InR (a + 1) ∧
  LoopVC ((a + 1, ()) : Int × Unit) h (fun (nx0 : Int × Unit → Hp → Prop) (s1 : Int × Unit) h1 => slices_insertionSortCmpFunc_2_int_b1 s1.1 data dataL dataC a b cmp h1 nx0 K)) := by kernel_rfl
theorem slices_insertionSortCmpFunc_2_int_b1_eq (i : Int) (data : Option Addr) (dataL : Nat) (dataC : Nat) (a : Int) (b : Int) (cmp : Value) (h : Hp) (nx0 : Int × Unit → Hp → Prop) (K : Value → Hp → Prop) : slices_insertionSortCmpFunc_2_int_b1 i data dataL dataC a b cmp h nx0 K = (
  cond (decide (i < b))
  (LoopVC ((i, ()) : Int × Unit) h (fun (nx1 : Int × Unit → Hp → Prop) (s2 : Int × Unit) h2 => slices_insertionSortCmpFunc_2_int_b2 s2.1 data dataL dataC a b cmp i h2 nx0 nx1 K))
  (K (.tuple #[]) h)) := by kernel_rfl
theorem slices_insertionSortCmpFunc_2_int_b2_eq (j : Int) (data : Option Addr) (dataL : Nat) (dataC : Nat) (a : Int) (b : Int) (cmp : Value) (i : Int) (h : Hp) (nx0 : Int × Unit → Hp → Prop) (nx1 : Int × Unit → Hp → Prop) (K : Value → Hp → Prop) : slices_insertionSortCmpFunc_2_int_b2 j data dataL dataC a b cmp i h nx0 nx1 K = (
  cond (decide (a < j))
  ((0 ≤ j ∧ j < (dataL : Int)) ∧
  NN data fun a1 =>
  ∃ n1 : Int, ∃ n2 : Int, cell h (a1.add (Int.toNat j * 2)) = some (.int .i64 n1) ∧
  cell h ((a1.add (Int.toNat j * 2)).add 1) = some (.int .i64 n2) ∧
  InR (j - 1) ∧
  (0 ≤ j - 1 ∧ j - 1 < (dataL : Int)) ∧
  NN data fun a2 =>
  ∃ n3 : Int, ∃ n4 : Int, cell h (a2.add (Int.toNat (j - 1) * 2)) = some (.int .i64 n3) ∧
  cell h ((a2.add (Int.toNat (j - 1) * 2)).add 1) = some (.int .i64 n4) ∧
  funV cmp fun fg1 fa1 fc1 => callX Try.prog F fg1 (fa1 ++ (([.agg #[.int .i64 n1, .int .i64 n2], .agg #[.int .i64 n3, .int .i64 n4]] : List Value) ++ fc1)).toArray h fun v1 h3 => ∃ r1 : Int, v1 = .int .i64 r1 ∧
  cond (decide (r1 < 0))
  (slices_insertionSortCmpFunc_2_int_b3 data dataL dataC a b cmp i j h3 nx0 nx1 K)
  (slices_insertionSortCmpFunc_2_int_b4 data dataL dataC a b cmp i h3 nx0 K))
  (slices_insertionSortCmpFunc_2_int_b4 data dataL dataC a b cmp i h nx0 K)) := by kernel_rfl
theorem slices_insertionSortCmpFunc_2_int_b3_eq (data : Option Addr) (dataL : Nat) (dataC : Nat) (a : Int) (b : Int) (cmp : Value) (i : Int) (j : Int) (h : Hp) (nx0 : Int × Unit → Hp → Prop) (nx1 : Int × Unit → Hp → Prop) (K : Value → Hp → Prop) : slices_insertionSortCmpFunc_2_int_b3 data dataL dataC a b cmp i j h nx0 nx1 K = (
  InR (j - 1) ∧
  InR (j - 1) ∧
  (0 ≤ j - 1 ∧ j - 1 < (dataL : Int)) ∧
  NN data fun a3 =>
  ∃ n5 : Int, ∃ n6 : Int, cell h (a3.add (Int.toNat (j - 1) * 2)) = some (.int .i64 n5) ∧
  cell h ((a3.add (Int.toNat (j - 1) * 2)).add 1) = some (.int .i64 n6) ∧
  (0 ≤ j ∧ j < (dataL : Int)) ∧
  NN data fun a4 =>
  ∃ n7 : Int, ∃ n8 : Int, cell h (a4.add (Int.toNat j * 2)) = some (.int .i64 n7) ∧
  cell h ((a4.add (Int.toNat j * 2)).add 1) = some (.int .i64 n8) ∧
  (0 ≤ j ∧ j < (dataL : Int)) ∧
  NN data fun a5 =>
  Wr h (a5.add (Int.toNat j * 2)) (.int .i64 n5) fun h4 =>
  Wr h4 ((a5.add (Int.toNat j * 2)).add 1) (.int .i64 n6) fun h5 =>
  (0 ≤ j - 1 ∧ j - 1 < (dataL : Int)) ∧
  NN data fun a6 =>
  Wr h5 (a6.add (Int.toNat (j - 1) * 2)) (.int .i64 n7) fun h6 =>
  Wr h6 ((a6.add (Int.toNat (j - 1) * 2)).add 1) (.int .i64 n8) fun h7 =>
  slices_insertionSortCmpFunc_2_int_b5 data dataL dataC a b cmp i j h7 nx0 nx1 K) := by kernel_rfl
theorem slices_insertionSortCmpFunc_2_int_b4_eq (data : Option Addr) (dataL : Nat) (dataC : Nat) (a : Int) (b : Int) (cmp : Value) (i : Int) (h : Hp) (nx0 : Int × Unit → Hp → Prop) (K : Value → Hp → Prop) : slices_insertionSortCmpFunc_2_int_b4 data dataL dataC a b cmp i h nx0 K = (
  InR (i + 1) ∧
  nx0 (i + 1, ()) h) := by kernel_rfl
theorem slices_insertionSortCmpFunc_2_int_b5_eq (data : Option Addr) (dataL : Nat) (dataC : Nat) (a : Int) (b : Int) (cmp : Value) (i : Int) (j : Int) (h : Hp) (nx0 : Int × Unit → Hp → Prop) (nx1 : Int × Unit → Hp → Prop) (K : Value → Hp → Prop) : slices_insertionSortCmpFunc_2_int_b5 data dataL dataC a b cmp i j h nx0 nx1 K = (
  InR (j - 1) ∧
  nx1 (j - 1, ()) h) := by kernel_rfl
theorem slices_insertionSortCmpFunc_2_int_call {data : Option Addr} {dataL : Nat} {dataC : Nat} {a : Int} {b : Int} {cmp : Value} {h : Hp} {K : Value → Hp → Prop} (hk : slices_insertionSortCmpFunc_2_int_b0 data dataL dataC a b cmp h K) : HCalls Try.prog 62 #[.slice data dataL dataC, .int .i64 a, .int .i64 b, cmp] h K :=
  calls_of_snd slices_insertionSortCmpFunc_2_int_an Try.func62 (c := bodyOf Try.f62) rfl Try.ntmps62 (Nat.le_of_ble_eq_true rfl) (snd_5 F_ok F_mixed) hk

/-! ### slices_heapSortCmpFunc_2_int -/
def slices_heapSortCmpFunc_2_int_an : Ann := .node none (.leaf) (.node none (.leaf) (.node none (.leaf) (.node (some [0, 3, 8, 9, 10]) (.node none (.leaf) (.loop [0, 3, 8, 9, 10] [(11, .int .i64)] (.node none (.leaf) (.node (some [0, 3, 8, 9, 10, 11]) (.leaf) (.leaf))))) (.node none (.leaf) (.loop [0, 3, 8, 9] [(12, .int .i64)] (.node none (.leaf) (.node (some [0, 3, 8, 9, 12]) (.node none (.plan (.qu 0 (.qu 1 (.qu 2 (.qu 3 (.qu 4 (.qu 5 (.qu 6 (.qu 7 (.qu 8 (.qu 9 (.qu 10 (.qu 11 (.qu 12 (.qu 13 (.qu 14 (.qu 15 (.qu 16 (.wo 17 (.qu 18 (.wo 19 .fin .no)) .no))))))))))))))))))) (.leaf)) (.leaf))))))))
def slices_heapSortCmpFunc_2_int_K0  (K : Value → Hp → Prop) : Exit → Env → Hp → Prop := retK Try.prog Try.f63.results.toList K
def slices_heapSortCmpFunc_2_int_K1  (K : Value → Hp → Prop) : Exit → Env → Hp → Prop := thenE (fun env h => sx_3 Try.prog F 60 (cp [1, 1, 1, 1] (bodyOf Try.f63)) (ap [1, 1, 1, 1] slices_heapSortCmpFunc_2_int_an) (rs [0, 3, 8, 9, 10] env) h (slices_heapSortCmpFunc_2_int_K0  K)) (slices_heapSortCmpFunc_2_int_K0  K)
def slices_heapSortCmpFunc_2_int_K2  (K : Value → Hp → Prop) : Exit → Env → Hp → Prop := blockE 0 (slices_heapSortCmpFunc_2_int_K1  K)
def slices_heapSortCmpFunc_2_int_K3 (nx0 : Int × Unit → Hp → Prop) (K : Value → Hp → Prop) : Exit → Env → Hp → Prop := thenE (fun env h => getV [(11, .int .i64)] env fun s => nx0 s h) (slices_heapSortCmpFunc_2_int_K2  K)
def slices_heapSortCmpFunc_2_int_K4  (K : Value → Hp → Prop) : Exit → Env → Hp → Prop := blockE 2 (slices_heapSortCmpFunc_2_int_K0  K)
def slices_heapSortCmpFunc_2_int_K5 (nx0 : Int × Unit → Hp → Prop) (K : Value → Hp → Prop) : Exit → Env → Hp → Prop := thenE (fun env h => getV [(12, .int .i64)] env fun s => nx0 s h) (slices_heapSortCmpFunc_2_int_K4  K)
def slices_heapSortCmpFunc_2_int_b0 (data : Option Addr) (dataL : Nat) (dataC : Nat) (a : Int) (b : Int) (cmp : Value) (h : Hp)  (K : Value → Hp → Prop) : Prop :=
  sx_4 Try.prog F 60 (cp [] (bodyOf Try.f63)) (ap [] slices_heapSortCmpFunc_2_int_an) [(0, .slice data dataL dataC), (1, .int .i64 a), (2, .int .i64 b), (3, cmp)] h (slices_heapSortCmpFunc_2_int_K0  K)
def slices_heapSortCmpFunc_2_int_b1 (i : Int) (data : Option Addr) (dataL : Nat) (dataC : Nat) (cmp : Value) (first : Int) (lo : Int) (hi : Int) (h : Hp) (nx0 : Int × Unit → Hp → Prop) (K : Value → Hp → Prop) : Prop :=
  sx_3 Try.prog F 60 (cp [1, 1, 1, 0, 1, 2, 2] (bodyOf Try.f63)) (ap [1, 1, 1, 0, 1, 2] slices_heapSortCmpFunc_2_int_an) [(11, .int .i64 i), (0, .slice data dataL dataC), (3, cmp), (8, .int .i64 first), (9, .int .i64 lo), (10, .int .i64 hi)] h (slices_heapSortCmpFunc_2_int_K3 nx0 K)
def slices_heapSortCmpFunc_2_int_b2 (data : Option Addr) (dataL : Nat) (dataC : Nat) (cmp : Value) (first : Int) (lo : Int) (hi : Int) (i : Int) (h : Hp) (nx0 : Int × Unit → Hp → Prop) (K : Value → Hp → Prop) : Prop :=
  sx_2 Try.prog F 60 (cp [1, 1, 1, 0, 1, 2, 2, 1, 1] (bodyOf Try.f63)) (ap [1, 1, 1, 0, 1, 2, 1, 1] slices_heapSortCmpFunc_2_int_an) [(0, .slice data dataL dataC), (3, cmp), (8, .int .i64 first), (9, .int .i64 lo), (10, .int .i64 hi), (11, .int .i64 i)] h (slices_heapSortCmpFunc_2_int_K3 nx0 K)
def slices_heapSortCmpFunc_2_int_b3 (data : Option Addr) (dataL : Nat) (dataC : Nat) (cmp : Value) (first : Int) (lo : Int) (hi : Int) (h : Hp)  (K : Value → Hp → Prop) : Prop :=
  sx_3 Try.prog F 60 (cp [1, 1, 1, 1] (bodyOf Try.f63)) (ap [1, 1, 1, 1] slices_heapSortCmpFunc_2_int_an) [(0, .slice data dataL dataC), (3, cmp), (8, .int .i64 first), (9, .int .i64 lo), (10, .int .i64 hi)] h (slices_heapSortCmpFunc_2_int_K0  K)
def slices_heapSortCmpFunc_2_int_b4 (i : Int) (data : Option Addr) (dataL : Nat) (dataC : Nat) (cmp : Value) (first : Int) (lo : Int) (h : Hp) (nx0 : Int × Unit → Hp → Prop) (K : Value → Hp → Prop) : Prop :=
  sx_2 Try.prog F 60 (cp [1, 1, 1, 1, 1, 2, 2] (bodyOf Try.f63)) (ap [1, 1, 1, 1, 1, 2] slices_heapSortCmpFunc_2_int_an) [(12, .int .i64 i), (0, .slice data dataL dataC), (3, cmp), (8, .int .i64 first), (9, .int .i64 lo)] h (slices_heapSortCmpFunc_2_int_K5 nx0 K)
def slices_heapSortCmpFunc_2_int_b5 (data : Option Addr) (dataL : Nat) (dataC : Nat) (cmp : Value) (first : Int) (lo : Int) (i : Int) (h : Hp) (nx0 : Int × Unit → Hp → Prop) (K : Value → Hp → Prop) : Prop :=
  sx_1 Try.prog F 60 (cp [1, 1, 1, 1, 1, 2, 2, 1, 1] (bodyOf Try.f63)) (ap [1, 1, 1, 1, 1, 2, 1, 1] slices_heapSortCmpFunc_2_int_an) [(0, .slice data dataL dataC), (3, cmp), (8, .int .i64 first), (9, .int .i64 lo), (12, .int .i64 i)] h (slices_heapSortCmpFunc_2_int_K5 nx0 K)
theorem slices_heapSortCmpFunc_2_int_b0_eq (data : Option Addr) (dataL : Nat) (dataC : Nat) (a : Int) (b : Int) (cmp : Value) (h : Hp)  (K : Value → Hp → Prop) : slices_heapSortCmpFunc_2_int_b0 data dataL dataC a b cmp h  K = (
  InR (b - a) ∧
  InR ((b - a) - 1) ∧
  ∃ q1 : Int, Sx.Quo .i64 ((b - a) - 1) 2 q1 ∧
  LoopVC ((q1, ()) : Int × Unit) h (fun (nx0 : Int × Unit → Hp → Prop) (s1 : Int × Unit) h1 => slices_heapSortCmpFunc_2_int_b1 s1.1 data dataL dataC cmp a 0 (b - a) h1 nx0 K)) := by kernel_rfl
theorem slices_heapSortCmpFunc_2_int_b1_eq (i : Int) (data : Option Addr) (dataL : Nat) (dataC : Nat) (cmp : Value) (first : Int) (lo : Int) (hi : Int) (h : Hp) (nx0 : Int × Unit → Hp → Prop) (K : Value → Hp → Prop) : slices_heapSortCmpFunc_2_int_b1 i data dataL dataC cmp first lo hi h nx0 K = (
  cond (decide ((0 : Int) ≤ i))
  (HCalls Try.prog 76 #[.slice data dataL dataC, .int .i64 i, .int .i64 hi, .int .i64 first, cmp] h fun v1 h2 => v1 = .tuple #[] ∧
  slices_heapSortCmpFunc_2_int_b2 data dataL dataC cmp first lo hi i h2 nx0 K)
  (slices_heapSortCmpFunc_2_int_b3 data dataL dataC cmp first lo hi h  K)) := by kernel_rfl
theorem slices_heapSortCmpFunc_2_int_b2_eq (data : Option Addr) (dataL : Nat) (dataC : Nat) (cmp : Value) (first : Int) (lo : Int) (hi : Int) (i : Int) (h : Hp) (nx0 : Int × Unit → Hp → Prop) (K : Value → Hp → Prop) : slices_heapSortCmpFunc_2_int_b2 data dataL dataC cmp first lo hi i h nx0 K = (
  InR (i - 1) ∧
  nx0 (i - 1, ()) h) := by kernel_rfl
theorem slices_heapSortCmpFunc_2_int_b3_eq (data : Option Addr) (dataL : Nat) (dataC : Nat) (cmp : Value) (first : Int) (lo : Int) (hi : Int) (h : Hp)  (K : Value → Hp → Prop) : slices_heapSortCmpFunc_2_int_b3 data dataL dataC cmp first lo hi h  K = (
  InR (hi - 1) ∧
  LoopVC ((hi - 1, ()) : Int × Unit) h (fun (nx0 : Int × Unit → Hp → Prop) (s2 : Int × Unit) h3 => slices_heapSortCmpFunc_2_int_b4 s2.1 data dataL dataC cmp first lo h3 nx0 K)) := by kernel_rfl
theorem slices_heapSortCmpFunc_2_int_b4_eq (i : Int) (data : Option Addr) (dataL : Nat) (dataC : Nat) (cmp : Value) (first : Int) (lo : Int) (h : Hp) (nx0 : Int × Unit → Hp → Prop) (K : Value → Hp → Prop) : slices_heapSortCmpFunc_2_int_b4 i data dataL dataC cmp first lo h nx0 K = (
  cond (decide ((0 : Int) ≤ i))
  (InR (first + i) ∧
  InR (first + i) ∧
  (0 ≤ first + i ∧ first + i < (dataL : Int)) ∧
  NN data fun a1 =>
  ∃ n1 : Int, ∃ n2 : Int, cell h (a1.add (Int.toNat (first + i) * 2)) = some (.int .i64 n1) ∧
  cell h ((a1.add (Int.toNat (first + i) * 2)).add 1) = some (.int .i64 n2) ∧
  (0 ≤ first ∧ first < (dataL : Int)) ∧
  NN data fun a2 =>
  ∃ n3 : Int, ∃ n4 : Int, cell h (a2.add (Int.toNat first * 2)) = some (.int .i64 n3) ∧
  cell h ((a2.add (Int.toNat first * 2)).add 1) = some (.int .i64 n4) ∧
  (0 ≤ first ∧ first < (dataL : Int)) ∧
  NN data fun a3 =>
  Wr h (a3.add (Int.toNat first * 2)) (.int .i64 n1) fun h4 =>
  Wr h4 ((a3.add (Int.toNat first * 2)).add 1) (.int .i64 n2) fun h5 =>
  (0 ≤ first + i ∧ first + i < (dataL : Int)) ∧
  NN data fun a4 =>
  Wr h5 (a4.add (Int.toNat (first + i) * 2)) (.int .i64 n3) fun h6 =>
  Wr h6 ((a4.add (Int.toNat (first + i) * 2)).add 1) (.int .i64 n4) fun h7 =>
  HCalls Try.prog 76 #[.slice data dataL dataC, .int .i64 lo, .int .i64 i, .int .i64 first, cmp] h7 fun v2 h8 => v2 = .tuple #[] ∧
  slices_heapSortCmpFunc_2_int_b5 data dataL dataC cmp first lo i h8 nx0 K)
  (K (.tuple #[]) h)) := by kernel_rfl
theorem slices_heapSortCmpFunc_2_int_b5_eq (data : Option Addr) (dataL : Nat) (dataC : Nat) (cmp : Value) (first : Int) (lo : Int) (i : Int) (h : Hp) (nx0 : Int × Unit → Hp → Prop) (K : Value → Hp → Prop) : slices_heapSortCmpFunc_2_int_b5 data dataL dataC cmp first lo i h nx0 K = (
  InR (i - 1) ∧
  nx0 (i - 1, ()) h) := by kernel_rfl
theorem slices_heapSortCmpFunc_2_int_call {data : Option Addr} {dataL : Nat} {dataC : Nat} {a : Int} {b : Int} {cmp : Value} {h : Hp} {K : Value → Hp → Prop} (hk : slices_heapSortCmpFunc_2_int_b0 data dataL dataC a b cmp h K) : HCalls Try.prog 63 #[.slice data dataL dataC, .int .i64 a, .int .i64 b, cmp] h K :=
  calls_of_snd slices_heapSortCmpFunc_2_int_an Try.func63 (c := bodyOf Try.f63) rfl Try.ntmps63 (Nat.le_of_ble_eq_true rfl) (snd_4 F_ok F_mixed) hk

/-! ### slices_breakPatternsCmpFunc_2_int -/
def slices_breakPatternsCmpFunc_2_int_an : Ann := .node none (.leaf) (.node none (.leaf) (.node none (.node none (.leaf) (.node none (.leaf) (.node none (.leaf) (.loop [0, 1, 8, 9, 10] [(11, .int .i64)] (.node none (.leaf) (.node (some [0, 1, 8, 9, 10, 11]) (.node none (.leaf) (.node (some [0, 1, 8, 9, 10, 11, 12]) (.leaf) (.plan (.qu 0 (.qu 1 (.qu 2 (.qu 3 (.qu 4 (.qu 5 (.qu 6 (.qu 7 (.qu 8 (.qu 9 (.qu 10 (.qu 11 (.qu 12 (.qu 13 (.qu 14 (.qu 15 (.qu 16 (.wo 17 (.qu 18 (.wo 19 .fin .no)) .no))))))))))))))))))))) (.leaf))))))) (.leaf)))
def slices_breakPatternsCmpFunc_2_int_K0  (K : Value → Hp → Prop) : Exit → Env → Hp → Prop := retK Try.prog Try.f64.results.toList K
def slices_breakPatternsCmpFunc_2_int_K1  (K : Value → Hp → Prop) : Exit → Env → Hp → Prop := blockE 0 (slices_breakPatternsCmpFunc_2_int_K0  K)
def slices_breakPatternsCmpFunc_2_int_K2 (nx0 : Int × Unit → Hp → Prop) (K : Value → Hp → Prop) : Exit → Env → Hp → Prop := thenE (fun env h => getV [(11, .int .i64)] env fun s => nx0 s h) (slices_breakPatternsCmpFunc_2_int_K1  K)
def slices_breakPatternsCmpFunc_2_int_K3 (nx0 : Int × Unit → Hp → Prop) (K : Value → Hp → Prop) : Exit → Env → Hp → Prop := thenE (fun env h => sx_1 Try.prog F 67 (cp [1, 1, 0, 1, 1, 1, 2, 2, 1, 1] (bodyOf Try.f64)) (ap [1, 1, 0, 1, 1, 1, 2, 1, 1] slices_breakPatternsCmpFunc_2_int_an) (rs [0, 1, 8, 9, 10, 11] env) h (slices_breakPatternsCmpFunc_2_int_K2 nx0 K)) (slices_breakPatternsCmpFunc_2_int_K2 nx0 K)
def slices_breakPatternsCmpFunc_2_int_K4 (nx0 : Int × Unit → Hp → Prop) (K : Value → Hp → Prop) : Exit → Env → Hp → Prop := blockE 1 (slices_breakPatternsCmpFunc_2_int_K3 nx0 K)
def slices_breakPatternsCmpFunc_2_int_b0 (data : Option Addr) (dataL : Nat) (dataC : Nat) (a : Int) (b : Int) (cmp : Value) (h : Hp)  (K : Value → Hp → Prop) : Prop :=
  sx_3 Try.prog F 67 (cp [] (bodyOf Try.f64)) (ap [] slices_breakPatternsCmpFunc_2_int_an) [(0, .slice data dataL dataC), (1, .int .i64 a), (2, .int .i64 b), (3, cmp)] h (slices_breakPatternsCmpFunc_2_int_K0  K)
def slices_breakPatternsCmpFunc_2_int_b1 (idx : Int) (data : Option Addr) (dataL : Nat) (dataC : Nat) (a : Int) (length : Int) (random : Option Addr) (modulus : Int) (h : Hp) (nx0 : Int × Unit → Hp → Prop) (K : Value → Hp → Prop) : Prop :=
  sx_2 Try.prog F 67 (cp [1, 1, 0, 1, 1, 1, 2, 2] (bodyOf Try.f64)) (ap [1, 1, 0, 1, 1, 1, 2] slices_breakPatternsCmpFunc_2_int_an) [(11, .int .i64 idx), (0, .slice data dataL dataC), (1, .int .i64 a), (8, .int .i64 length), (9, .pointer random), (10, .int .u64 modulus)] h (slices_breakPatternsCmpFunc_2_int_K2 nx0 K)
def slices_breakPatternsCmpFunc_2_int_b2 (data : Option Addr) (dataL : Nat) (dataC : Nat) (a : Int) (length : Int) (random : Option Addr) (modulus : Int) (idx : Int) (other : Int) (h : Hp) (nx0 : Int × Unit → Hp → Prop) (K : Value → Hp → Prop) : Prop :=
  sx_1 Try.prog F 67 (cp [1, 1, 0, 1, 1, 1, 2, 2, 1, 0, 2, 1, 1] (bodyOf Try.f64)) (ap [1, 1, 0, 1, 1, 1, 2, 1, 0, 1, 1] slices_breakPatternsCmpFunc_2_int_an) [(0, .slice data dataL dataC), (1, .int .i64 a), (8, .int .i64 length), (9, .pointer random), (10, .int .u64 modulus), (11, .int .i64 idx), (12, .int .i64 other)] h (slices_breakPatternsCmpFunc_2_int_K4 nx0 K)
def slices_breakPatternsCmpFunc_2_int_b3 (data : Option Addr) (dataL : Nat) (dataC : Nat) (a : Int) (length : Int) (random : Option Addr) (modulus : Int) (idx : Int) (h : Hp) (nx0 : Int × Unit → Hp → Prop) (K : Value → Hp → Prop) : Prop :=
  sx_1 Try.prog F 67 (cp [1, 1, 0, 1, 1, 1, 2, 2, 1, 1] (bodyOf Try.f64)) (ap [1, 1, 0, 1, 1, 1, 2, 1, 1] slices_breakPatternsCmpFunc_2_int_an) [(0, .slice data dataL dataC), (1, .int .i64 a), (8, .int .i64 length), (9, .pointer random), (10, .int .u64 modulus), (11, .int .i64 idx)] h (slices_breakPatternsCmpFunc_2_int_K2 nx0 K)
theorem slices_breakPatternsCmpFunc_2_int_b0_eq (data : Option Addr) (dataL : Nat) (dataC : Nat) (a : Int) (b : Int) (cmp : Value) (h : Hp)  (K : Value → Hp → Prop) : slices_breakPatternsCmpFunc_2_int_b0 data dataL dataC a b cmp h  K = (
  InR (b - a) ∧
  cond (decide ((8 : Int) ≤ (b - a)))
  (New h (.cells #[.int .u64 0] 108) fun b1 h1 =>
  Wr h1 ⟨b1, 0, none⟩ (.int .u64 (IntKind.u64.wrap (b - a))) fun h2 =>
  HCalls Try.prog 77 #[.int .i64 (b - a)] h2 fun v1 h3 => ∃ r1 : Int, v1 = .int .u64 r1 ∧
  ∃ q1 : Int, Sx.Quo .i64 (b - a) 4 q1 ∧
  InR (q1 * 2) ∧
  InR (a + (q1 * 2)) ∧
  InR ((a + (q1 * 2)) - 1) ∧
  LoopVC (((a + (q1 * 2)) - 1, ()) : Int × Unit) h3 (fun (nx0 : Int × Unit → Hp → Prop) (s1 : Int × Unit) h4 => slices_breakPatternsCmpFunc_2_int_b1 s1.1 data dataL dataC a (b - a) (some ⟨b1, 0, none⟩) r1 h4 nx0 K))
  (K (.tuple #[]) h)) := by kernel_rfl
theorem slices_breakPatternsCmpFunc_2_int_b1_eq (idx : Int) (data : Option Addr) (dataL : Nat) (dataC : Nat) (a : Int) (length : Int) (random : Option Addr) (modulus : Int) (h : Hp) (nx0 : Int × Unit → Hp → Prop) (K : Value → Hp → Prop) : slices_breakPatternsCmpFunc_2_int_b1 idx data dataL dataC a length random modulus h nx0 K = (
  ∃ q2 : Int, Sx.Quo .i64 length 4 q2 ∧
  InR (q2 * 2) ∧
  InR (a + (q2 * 2)) ∧
  InR ((a + (q2 * 2)) + 1) ∧
  cond (decide (idx ≤ ((a + (q2 * 2)) + 1)))
  (HCalls Try.prog 78 #[.pointer random] h fun v2 h5 => ∃ r2 : Int, v2 = .int .u64 r2 ∧
  ∃ an1 : Int, Sx.And .u64 r2 (IntKind.u64.wrap (modulus - 1)) an1 ∧
  InR an1 ∧
  cond (decide (length ≤ an1))
  (InR (an1 - length) ∧
  slices_breakPatternsCmpFunc_2_int_b2 data dataL dataC a length random modulus idx (an1 - length) h5 nx0 K)
  (slices_breakPatternsCmpFunc_2_int_b2 data dataL dataC a length random modulus idx an1 h5 nx0 K))
  (K (.tuple #[]) h)) := by kernel_rfl
theorem slices_breakPatternsCmpFunc_2_int_b2_eq (data : Option Addr) (dataL : Nat) (dataC : Nat) (a : Int) (length : Int) (random : Option Addr) (modulus : Int) (idx : Int) (other : Int) (h : Hp) (nx0 : Int × Unit → Hp → Prop) (K : Value → Hp → Prop) : slices_breakPatternsCmpFunc_2_int_b2 data dataL dataC a length random modulus idx other h nx0 K = (
  InR (a + other) ∧
  InR (a + other) ∧
  (0 ≤ a + other ∧ a + other < (dataL : Int)) ∧
  NN data fun a1 =>
  ∃ n1 : Int, ∃ n2 : Int, cell h (a1.add (Int.toNat (a + other) * 2)) = some (.int .i64 n1) ∧
  cell h ((a1.add (Int.toNat (a + other) * 2)).add 1) = some (.int .i64 n2) ∧
  (0 ≤ idx ∧ idx < (dataL : Int)) ∧
  NN data fun a2 =>
  ∃ n3 : Int, ∃ n4 : Int, cell h (a2.add (Int.toNat idx * 2)) = some (.int .i64 n3) ∧
  cell h ((a2.add (Int.toNat idx * 2)).add 1) = some (.int .i64 n4) ∧
  (0 ≤ idx ∧ idx < (dataL : Int)) ∧
  NN data fun a3 =>
  Wr h (a3.add (Int.toNat idx * 2)) (.int .i64 n1) fun h6 =>
  Wr h6 ((a3.add (Int.toNat idx * 2)).add 1) (.int .i64 n2) fun h7 =>
  (0 ≤ a + other ∧ a + other < (dataL : Int)) ∧
  NN data fun a4 =>
  Wr h7 (a4.add (Int.toNat (a + other) * 2)) (.int .i64 n3) fun h8 =>
  Wr h8 ((a4.add (Int.toNat (a + other) * 2)).add 1) (.int .i64 n4) fun h9 =>
  slices_breakPatternsCmpFunc_2_int_b3 data dataL dataC a length random modulus idx h9 nx0 K) := by kernel_rfl
theorem slices_breakPatternsCmpFunc_2_int_b3_eq (data : Option Addr) (dataL : Nat) (dataC : Nat) (a : Int) (length : Int) (random : Option Addr) (modulus : Int) (idx : Int) (h : Hp) (nx0 : Int × Unit → Hp → Prop) (K : Value → Hp → Prop) : slices_breakPatternsCmpFunc_2_int_b3 data dataL dataC a length random modulus idx h nx0 K = (
  InR (idx + 1) ∧
  nx0 (idx + 1, ()) h) := by kernel_rfl
theorem slices_breakPatternsCmpFunc_2_int_call {data : Option Addr} {dataL : Nat} {dataC : Nat} {a : Int} {b : Int} {cmp : Value} {h : Hp} {K : Value → Hp → Prop} (hk : slices_breakPatternsCmpFunc_2_int_b0 data dataL dataC a b cmp h K) : HCalls Try.prog 64 #[.slice data dataL dataC, .int .i64 a, .int .i64 b, cmp] h K :=
  calls_of_snd slices_breakPatternsCmpFunc_2_int_an Try.func64 (c := bodyOf Try.f64) rfl Try.ntmps64 (Nat.le_of_ble_eq_true rfl) (snd_3 F_ok F_mixed) hk

/-! ### slices_choosePivotCmpFunc_2_int -/
def slices_choosePivotCmpFunc_2_int_an : Ann := .node none (.leaf) (.node none (.leaf) (.node none (.leaf) (.node none (.leaf) (.node none (.leaf) (.node none (.leaf) (.node (some [11, 13]) (.node none (.leaf) (.node none (.node (some [0, 3, 11, 12, 13, 14]) (.leaf) (.leaf)) (.leaf))) (.leaf)))))))
def slices_choosePivotCmpFunc_2_int_K0  (K : Value → Hp → Prop) : Exit → Env → Hp → Prop := retK Try.prog Try.f65.results.toList K
def slices_choosePivotCmpFunc_2_int_K1  (K : Value → Hp → Prop) : Exit → Env → Hp → Prop := thenE (fun env h => sx_1 Try.prog F 63 (cp [1, 1, 1, 1, 1, 1, 1] (bodyOf Try.f65)) (ap [1, 1, 1, 1, 1, 1, 1] slices_choosePivotCmpFunc_2_int_an) (rs [11, 13] env) h (slices_choosePivotCmpFunc_2_int_K0  K)) (slices_choosePivotCmpFunc_2_int_K0  K)
def slices_choosePivotCmpFunc_2_int_b0 (data : Option Addr) (dataL : Nat) (dataC : Nat) (a : Int) (b : Int) (cmp : Value) (h : Hp)  (K : Value → Hp → Prop) : Prop :=
  sx_2 Try.prog F 63 (cp [] (bodyOf Try.f65)) (ap [] slices_choosePivotCmpFunc_2_int_an) [(0, .slice data dataL dataC), (1, .int .i64 a), (2, .int .i64 b), (3, cmp)] h (slices_choosePivotCmpFunc_2_int_K0  K)
def slices_choosePivotCmpFunc_2_int_b1 (data : Option Addr) (dataL : Nat) (dataC : Nat) (cmp : Value) (swaps : Option Addr) (i : Int) (j : Int) (k : Int) (h : Hp)  (K : Value → Hp → Prop) : Prop :=
  sx_1 Try.prog F 63 (cp [1, 1, 1, 1, 1, 1, 0, 1, 0, 1] (bodyOf Try.f65)) (ap [1, 1, 1, 1, 1, 1, 0, 1, 0, 1] slices_choosePivotCmpFunc_2_int_an) [(0, .slice data dataL dataC), (3, cmp), (11, .pointer swaps), (12, .int .i64 i), (13, .int .i64 j), (14, .int .i64 k)] h (slices_choosePivotCmpFunc_2_int_K1  K)
def slices_choosePivotCmpFunc_2_int_b2 (swaps : Option Addr) (j : Int) (h : Hp)  (K : Value → Hp → Prop) : Prop :=
  sx_1 Try.prog F 63 (cp [1, 1, 1, 1, 1, 1, 1] (bodyOf Try.f65)) (ap [1, 1, 1, 1, 1, 1, 1] slices_choosePivotCmpFunc_2_int_an) [(11, .pointer swaps), (13, .int .i64 j)] h (slices_choosePivotCmpFunc_2_int_K0  K)
theorem slices_choosePivotCmpFunc_2_int_b0_eq (data : Option Addr) (dataL : Nat) (dataC : Nat) (a : Int) (b : Int) (cmp : Value) (h : Hp)  (K : Value → Hp → Prop) : slices_choosePivotCmpFunc_2_int_b0 data dataL dataC a b cmp h  K = (
  InR (b - a) ∧
  New h (.cells #[.int .i64 0] 3) fun b1 h1 =>
  ∃ q1 : Int, Sx.Quo .i64 (b - a) 4 q1 ∧
  InR (q1 * 1) ∧
  InR (a + (q1 * 1)) ∧
  ∃ q2 : Int, Sx.Quo .i64 (b - a) 4 q2 ∧
  InR (q2 * 2) ∧
  InR (a + (q2 * 2)) ∧
  ∃ q3 : Int, Sx.Quo .i64 (b - a) 4 q3 ∧
  InR (q3 * 3) ∧
  InR (a + (q3 * 3)) ∧
  cond (decide ((8 : Int) ≤ (b - a)))
  (cond (decide ((50 : Int) ≤ (b - a)))
  (HCalls Try.prog 79 #[.slice data dataL dataC, .int .i64 (a + (q1 * 1)), .pointer (some ⟨b1, 0, none⟩), cmp] h1 fun v1 h2 => ∃ r1 : Int, v1 = .int .i64 r1 ∧
  HCalls Try.prog 79 #[.slice data dataL dataC, .int .i64 (a + (q2 * 2)), .pointer (some ⟨b1, 0, none⟩), cmp] h2 fun v2 h3 => ∃ r2 : Int, v2 = .int .i64 r2 ∧
  HCalls Try.prog 79 #[.slice data dataL dataC, .int .i64 (a + (q3 * 3)), .pointer (some ⟨b1, 0, none⟩), cmp] h3 fun v3 h4 => ∃ r3 : Int, v3 = .int .i64 r3 ∧
  slices_choosePivotCmpFunc_2_int_b1 data dataL dataC cmp (some ⟨b1, 0, none⟩) r1 r2 r3 h4  K)
  (slices_choosePivotCmpFunc_2_int_b1 data dataL dataC cmp (some ⟨b1, 0, none⟩) (a + (q1 * 1)) (a + (q2 * 2)) (a + (q3 * 3)) h1  K))
  (slices_choosePivotCmpFunc_2_int_b2 (some ⟨b1, 0, none⟩) (a + (q2 * 2)) h1  K)) := by kernel_rfl
theorem slices_choosePivotCmpFunc_2_int_b1_eq (data : Option Addr) (dataL : Nat) (dataC : Nat) (cmp : Value) (swaps : Option Addr) (i : Int) (j : Int) (k : Int) (h : Hp)  (K : Value → Hp → Prop) : slices_choosePivotCmpFunc_2_int_b1 data dataL dataC cmp swaps i j k h  K = (
  HCalls Try.prog 80 #[.slice data dataL dataC, .int .i64 i, .int .i64 j, .int .i64 k, .pointer swaps, cmp] h fun v4 h5 => ∃ r4 : Int, v4 = .int .i64 r4 ∧
  slices_choosePivotCmpFunc_2_int_b2 swaps r4 h5  K) := by kernel_rfl
theorem slices_choosePivotCmpFunc_2_int_b2_eq (swaps : Option Addr) (j : Int) (h : Hp)  (K : Value → Hp → Prop) : slices_choosePivotCmpFunc_2_int_b2 swaps j h  K = (
  NN swaps fun a1 =>
  ∃ n1 : Int, cell h a1 = some (.int .i64 n1) ∧
  cond (decide (n1 = 0))
  (K (.tuple #[.int .i64 j, .int .i64 1]) h)
  (cond (decide (n1 = 12))
  (K (.tuple #[.int .i64 j, .int .i64 2]) h)
  (K (.tuple #[.int .i64 j, .int .i64 0]) h))) := by kernel_rfl
theorem slices_choosePivotCmpFunc_2_int_call {data : Option Addr} {dataL : Nat} {dataC : Nat} {a : Int} {b : Int} {cmp : Value} {h : Hp} {K : Value → Hp → Prop} (hk : slices_choosePivotCmpFunc_2_int_b0 data dataL dataC a b cmp h K) : HCalls Try.prog 65 #[.slice data dataL dataC, .int .i64 a, .int .i64 b, cmp] h K :=
  calls_of_snd slices_choosePivotCmpFunc_2_int_an Try.func65 (c := bodyOf Try.f65) rfl Try.ntmps65 (Nat.le_of_ble_eq_true rfl) (snd_2 F_ok F_mixed) hk

/-! ### slices_reverseRangeCmpFunc_2_int -/
def slices_reverseRangeCmpFunc_2_int_an : Ann := .node none (.leaf) (.node none (.leaf) (.loop [0] [(8, .int .i64), (9, .int .i64)] (.node none (.leaf) (.node none (.plan (.qu 0 (.qu 1 (.qu 2 (.qu 3 (.qu 4 (.qu 5 (.qu 6 (.qu 7 (.qu 8 (.qu 9 (.qu 10 (.qu 11 (.qu 12 (.wo 13 (.qu 14 (.wo 15 .fin .no)) .no))))))))))))))) (.leaf)))))
def slices_reverseRangeCmpFunc_2_int_K0  (K : Value → Hp → Prop) : Exit → Env → Hp → Prop := retK Try.prog Try.f66.results.toList K
def slices_reverseRangeCmpFunc_2_int_K1  (K : Value → Hp → Prop) : Exit → Env → Hp → Prop := blockE 0 (slices_reverseRangeCmpFunc_2_int_K0  K)
def slices_reverseRangeCmpFunc_2_int_K2 (nx0 : Int × Int × Unit → Hp → Prop) (K : Value → Hp → Prop) : Exit → Env → Hp → Prop := thenE (fun env h => getV [(8, .int .i64), (9, .int .i64)] env fun s => nx0 s h) (slices_reverseRangeCmpFunc_2_int_K1  K)
def slices_reverseRangeCmpFunc_2_int_b0 (data : Option Addr) (dataL : Nat) (dataC : Nat) (a : Int) (b : Int) (cmp : Value) (h : Hp)  (K : Value → Hp → Prop) : Prop :=
  sx_2 Try.prog F 34 (cp [] (bodyOf Try.f66)) (ap [] slices_reverseRangeCmpFunc_2_int_an) [(0, .slice data dataL dataC), (1, .int .i64 a), (2, .int .i64 b), (3, cmp)] h (slices_reverseRangeCmpFunc_2_int_K0  K)
def slices_reverseRangeCmpFunc_2_int_b1 (i : Int) (j : Int) (data : Option Addr) (dataL : Nat) (dataC : Nat) (h : Hp) (nx0 : Int × Int × Unit → Hp → Prop) (K : Value → Hp → Prop) : Prop :=
  sx_1 Try.prog F 34 (cp [1, 1, 2, 2] (bodyOf Try.f66)) (ap [1, 1, 2] slices_reverseRangeCmpFunc_2_int_an) [(8, .int .i64 i), (9, .int .i64 j), (0, .slice data dataL dataC)] h (slices_reverseRangeCmpFunc_2_int_K2 nx0 K)
theorem slices_reverseRangeCmpFunc_2_int_b0_eq (data : Option Addr) (dataL : Nat) (dataC : Nat) (a : Int) (b : Int) (cmp : Value) (h : Hp)  (K : Value → Hp → Prop) : slices_reverseRangeCmpFunc_2_int_b0 data dataL dataC a b cmp h  K = (
  InR (b - 1) ∧
  LoopVC ((a, b - 1, ()) : Int × Int × Unit) h (fun (nx0 : Int × Int × Unit → Hp → Prop) (s1 : Int × Int × Unit) h1 => slices_reverseRangeCmpFunc_2_int_b1 s1.1 s1.2.1 data dataL dataC h1 nx0 K)) := by kernel_rfl
theorem slices_reverseRangeCmpFunc_2_int_b1_eq (i : Int) (j : Int) (data : Option Addr) (dataL : Nat) (dataC : Nat) (h : Hp) (nx0 : Int × Int × Unit → Hp → Prop) (K : Value → Hp → Prop) : slices_reverseRangeCmpFunc_2_int_b1 i j data dataL dataC h nx0 K = (
  cond (decide (i < j))
  ((0 ≤ j ∧ j < (dataL : Int)) ∧
  NN data fun a1 =>
  ∃ n1 : Int, ∃ n2 : Int, cell h (a1.add (Int.toNat j * 2)) = some (.int .i64 n1) ∧
  cell h ((a1.add (Int.toNat j * 2)).add 1) = some (.int .i64 n2) ∧
  (0 ≤ i ∧ i < (dataL : Int)) ∧
  NN data fun a2 =>
  ∃ n3 : Int, ∃ n4 : Int, cell h (a2.add (Int.toNat i * 2)) = some (.int .i64 n3) ∧
  cell h ((a2.add (Int.toNat i * 2)).add 1) = some (.int .i64 n4) ∧
  (0 ≤ i ∧ i < (dataL : Int)) ∧
  NN data fun a3 =>
  Wr h (a3.add (Int.toNat i * 2)) (.int .i64 n1) fun h2 =>
  Wr h2 ((a3.add (Int.toNat i * 2)).add 1) (.int .i64 n2) fun h3 =>
  (0 ≤ j ∧ j < (dataL : Int)) ∧
  NN data fun a4 =>
  Wr h3 (a4.add (Int.toNat j * 2)) (.int .i64 n3) fun h4 =>
  Wr h4 ((a4.add (Int.toNat j * 2)).add 1) (.int .i64 n4) fun h5 =>
  InR (i + 1) ∧
  InR (j - 1) ∧
  nx0 (i + 1, j - 1, ()) h5)
  (K (.tuple #[]) h)) := by kernel_rfl
theorem slices_reverseRangeCmpFunc_2_int_call {data : Option Addr} {dataL : Nat} {dataC : Nat} {a : Int} {b : Int} {cmp : Value} {h : Hp} {K : Value → Hp → Prop} (hk : slices_reverseRangeCmpFunc_2_int_b0 data dataL dataC a b cmp h K) : HCalls Try.prog 66 #[.slice data dataL dataC, .int .i64 a, .int .i64 b, cmp] h K :=
  calls_of_snd slices_reverseRangeCmpFunc_2_int_an Try.func66 (c := bodyOf Try.f66) rfl Try.ntmps66 (Nat.le_of_ble_eq_true rfl) (snd_2 F_ok F_mixed) hk

/-! ### slices_partialInsertionSortCmpFunc_2_int -/
def slices_partialInsertionSortCmpFunc_2_int_an : Ann := .node none (.leaf) (.node none (.leaf) (.node (some []) (.node none (.leaf) (.loop [0, 1, 2, 3] [(9, .int .i64), (10, .int .i64)] (.node none (.leaf) (.node (some [0, 1, 2, 3, 9, 10]) (.node (some [0, 1, 2, 3, 9, 10]) (.loop [0, 1, 2, 3, 10] [(9, .int .i64)] (.node (some [0, 1, 2, 3, 9, 10]) (.node none (.tail 14) (.leaf)) (.leaf))) (.node none (.leaf) (.node none (.leaf) (.node none (.plan (.qu 0 (.qu 1 (.qu 2 (.qu 3 (.qu 4 (.qu 5 (.qu 6 (.qu 7 (.qu 8 (.qu 9 (.qu 10 (.qu 11 (.qu 12 (.qu 13 (.qu 14 (.wo 15 (.qu 16 (.wo 17 .fin .no)) .no))))))))))))))))) (.node (some [0, 1, 2, 3, 9, 10]) (.node none (.leaf) (.node none (.node none (.leaf) (.loop [0, 1, 2, 3, 9, 10] [(11, .int .i64)] (.node none (.leaf) (.node (some [0, 1, 2, 3, 9, 10, 11]) (.node none (.node none (.tail 10) (.leaf)) (.plan (.qu 0 (.qu 1 (.qu 2 (.qu 3 (.qu 4 (.qu 5 (.qu 6 (.qu 7 (.qu 8 (.qu 9 (.qu 10 (.qu 11 (.qu 12 (.qu 13 (.qu 14 (.wo 15 (.qu 16 (.wo 17 .fin .no)) .no)))))))))))))))))) (.leaf))))) (.leaf))) (.node none (.leaf) (.node none (.node none (.leaf) (.loop [0, 1, 2, 3, 9, 10] [(12, .int .i64)] (.node none (.leaf) (.node (some [0, 1, 2, 3, 9, 10, 12]) (.node none (.node none (.tail 10) (.leaf)) (.plan (.qu 0 (.qu 1 (.qu 2 (.qu 3 (.qu 4 (.qu 5 (.qu 6 (.qu 7 (.qu 8 (.qu 9 (.qu 10 (.qu 11 (.qu 12 (.qu 13 (.qu 14 (.wo 15 (.qu 16 (.wo 17 .fin .no)) .no)))))))))))))))))) (.leaf))))) (.leaf)))))))) (.leaf))))) (.leaf)))
def slices_partialInsertionSortCmpFunc_2_int_K0  (K : Value → Hp → Prop) : Exit → Env → Hp → Prop := retK Try.prog Try.f67.results.toList K
def slices_partialInsertionSortCmpFunc_2_int_K1  (K : Value → Hp → Prop) : Exit → Env → Hp → Prop := thenE (fun env h => sx_5 Try.prog F 141 (cp [1, 1, 1] (bodyOf Try.f67)) (ap [1, 1, 1] slices_partialInsertionSortCmpFunc_2_int_an) (rs [] env) h (slices_partialInsertionSortCmpFunc_2_int_K0  K)) (slices_partialInsertionSortCmpFunc_2_int_K0  K)
def slices_partialInsertionSortCmpFunc_2_int_K2  (K : Value → Hp → Prop) : Exit → Env → Hp → Prop := blockE 0 (slices_partialInsertionSortCmpFunc_2_int_K1  K)
def slices_partialInsertionSortCmpFunc_2_int_K3 (nx0 : Int × Int × Unit → Hp → Prop) (K : Value → Hp → Prop) : Exit → Env → Hp → Prop := thenE (fun env h => getV [(9, .int .i64), (10, .int .i64)] env fun s => nx0 s h) (slices_partialInsertionSortCmpFunc_2_int_K2  K)
def slices_partialInsertionSortCmpFunc_2_int_K4 (nx0 : Int × Int × Unit → Hp → Prop) (K : Value → Hp → Prop) : Exit → Env → Hp → Prop := thenE (fun env h => sx_4 Try.prog F 141 (cp [1, 1, 0, 1, 2, 2, 1, 1] (bodyOf Try.f67)) (ap [1, 1, 0, 1, 2, 1, 1] slices_partialInsertionSortCmpFunc_2_int_an) (rs [0, 1, 2, 3, 9, 10] env) h (slices_partialInsertionSortCmpFunc_2_int_K3 nx0 K)) (slices_partialInsertionSortCmpFunc_2_int_K3 nx0 K)
def slices_partialInsertionSortCmpFunc_2_int_K5 (nx0 : Int × Int × Unit → Hp → Prop) (K : Value → Hp → Prop) : Exit → Env → Hp → Prop := blockE 1 (slices_partialInsertionSortCmpFunc_2_int_K4 nx0 K)
def slices_partialInsertionSortCmpFunc_2_int_K6 (nx0 : Int × Int × Unit → Hp → Prop) (K : Value → Hp → Prop) : Exit → Env → Hp → Prop := thenE (fun env h => sx_4 Try.prog F 141 (cp [1, 1, 0, 1, 2, 2, 1, 0, 2, 1] (bodyOf Try.f67)) (ap [1, 1, 0, 1, 2, 1, 0, 1] slices_partialInsertionSortCmpFunc_2_int_an) (rs [0, 1, 2, 3, 9, 10] env) h (slices_partialInsertionSortCmpFunc_2_int_K5 nx0 K)) (slices_partialInsertionSortCmpFunc_2_int_K5 nx0 K)
def slices_partialInsertionSortCmpFunc_2_int_K7 (nx0 : Int × Int × Unit → Hp → Prop) (K : Value → Hp → Prop) : Exit → Env → Hp → Prop := blockE 2 (slices_partialInsertionSortCmpFunc_2_int_K6 nx0 K)
def slices_partialInsertionSortCmpFunc_2_int_K8 (nx0 : Int × Int × Unit → Hp → Prop) (nx1 : Int × Unit → Hp → Prop) (K : Value → Hp → Prop) : Exit → Env → Hp → Prop := thenE (fun env h => getV [(9, .int .i64)] env fun s => nx1 s h) (slices_partialInsertionSortCmpFunc_2_int_K7 nx0 K)
def slices_partialInsertionSortCmpFunc_2_int_K9 (nx0 : Int × Int × Unit → Hp → Prop) (K : Value → Hp → Prop) : Exit → Env → Hp → Prop := thenE (fun env h => sx_3 Try.prog F 141 (cp [1, 1, 0, 1, 2, 2, 1, 0, 2, 1, 1, 1, 1, 1] (bodyOf Try.f67)) (ap [1, 1, 0, 1, 2, 1, 0, 1, 1, 1, 1, 1] slices_partialInsertionSortCmpFunc_2_int_an) (rs [0, 1, 2, 3, 9, 10] env) h (slices_partialInsertionSortCmpFunc_2_int_K5 nx0 K)) (slices_partialInsertionSortCmpFunc_2_int_K5 nx0 K)
def slices_partialInsertionSortCmpFunc_2_int_K10 (nx0 : Int × Int × Unit → Hp → Prop) (K : Value → Hp → Prop) : Exit → Env → Hp → Prop := blockE 4 (slices_partialInsertionSortCmpFunc_2_int_K9 nx0 K)
def slices_partialInsertionSortCmpFunc_2_int_K11 (nx0 : Int × Int × Unit → Hp → Prop) (nx1 : Int × Unit → Hp → Prop) (K : Value → Hp → Prop) : Exit → Env → Hp → Prop := thenE (fun env h => getV [(11, .int .i64)] env fun s => nx1 s h) (slices_partialInsertionSortCmpFunc_2_int_K10 nx0 K)
def slices_partialInsertionSortCmpFunc_2_int_K12 (nx0 : Int × Int × Unit → Hp → Prop) (K : Value → Hp → Prop) : Exit → Env → Hp → Prop := blockE 6 (slices_partialInsertionSortCmpFunc_2_int_K5 nx0 K)
def slices_partialInsertionSortCmpFunc_2_int_K13 (nx0 : Int × Int × Unit → Hp → Prop) (nx1 : Int × Unit → Hp → Prop) (K : Value → Hp → Prop) : Exit → Env → Hp → Prop := thenE (fun env h => getV [(12, .int .i64)] env fun s => nx1 s h) (slices_partialInsertionSortCmpFunc_2_int_K12 nx0 K)
def slices_partialInsertionSortCmpFunc_2_int_b0 (data : Option Addr) (dataL : Nat) (dataC : Nat) (a : Int) (b : Int) (cmp : Value) (h : Hp)  (K : Value → Hp → Prop) : Prop :=
  sx_6 Try.prog F 141 (cp [] (bodyOf Try.f67)) (ap [] slices_partialInsertionSortCmpFunc_2_int_an) [(0, .slice data dataL dataC), (1, .int .i64 a), (2, .int .i64 b), (3, cmp)] h (slices_partialInsertionSortCmpFunc_2_int_K0  K)
def slices_partialInsertionSortCmpFunc_2_int_b1 (i : Int) (j : Int) (data : Option Addr) (dataL : Nat) (dataC : Nat) (a : Int) (b : Int) (cmp : Value) (h : Hp) (nx0 : Int × Int × Unit → Hp → Prop) (K : Value → Hp → Prop) : Prop :=
  sx_5 Try.prog F 141 (cp [1, 1, 0, 1, 2, 2] (bodyOf Try.f67)) (ap [1, 1, 0, 1, 2] slices_partialInsertionSortCmpFunc_2_int_an) [(9, .int .i64 i), (10, .int .i64 j), (0, .slice data dataL dataC), (1, .int .i64 a), (2, .int .i64 b), (3, cmp)] h (slices_partialInsertionSortCmpFunc_2_int_K3 nx0 K)
def slices_partialInsertionSortCmpFunc_2_int_b2 (i : Int) (data : Option Addr) (dataL : Nat) (dataC : Nat) (a : Int) (b : Int) (cmp : Value) (j : Int) (h : Hp) (nx0 : Int × Int × Unit → Hp → Prop) (nx1 : Int × Unit → Hp → Prop) (K : Value → Hp → Prop) : Prop :=
  sx_4 Try.prog F 141 (cp [1, 1, 0, 1, 2, 2, 1, 0, 2, 0, 2, 2] (bodyOf Try.f67)) (ap [1, 1, 0, 1, 2, 1, 0, 0, 2] slices_partialInsertionSortCmpFunc_2_int_an) [(9, .int .i64 i), (0, .slice data dataL dataC), (1, .int .i64 a), (2, .int .i64 b), (3, cmp), (10, .int .i64 j)] h (slices_partialInsertionSortCmpFunc_2_int_K8 nx0 nx1 K)
def slices_partialInsertionSortCmpFunc_2_int_b3  (h : Hp)  (K : Value → Hp → Prop) : Prop :=
  sx_5 Try.prog F 141 (cp [1, 1, 1] (bodyOf Try.f67)) (ap [1, 1, 1] slices_partialInsertionSortCmpFunc_2_int_an) [] h (slices_partialInsertionSortCmpFunc_2_int_K0  K)
def slices_partialInsertionSortCmpFunc_2_int_b4 (data : Option Addr) (dataL : Nat) (dataC : Nat) (a : Int) (b : Int) (cmp : Value) (i : Int) (j : Int) (h : Hp) (nx0 : Int × Int × Unit → Hp → Prop) (nx1 : Int × Unit → Hp → Prop) (K : Value → Hp → Prop) : Prop :=
  sx_3 Try.prog F 141 (cp [1, 1, 0, 1, 2, 2, 1, 0, 2, 0, 2, 2, 1] (bodyOf Try.f67)) (ap [1, 1, 0, 1, 2, 1, 0, 0, 2, 1] slices_partialInsertionSortCmpFunc_2_int_an) [(0, .slice data dataL dataC), (1, .int .i64 a), (2, .int .i64 b), (3, cmp), (9, .int .i64 i), (10, .int .i64 j)] h (slices_partialInsertionSortCmpFunc_2_int_K8 nx0 nx1 K)
def slices_partialInsertionSortCmpFunc_2_int_b5 (data : Option Addr) (dataL : Nat) (dataC : Nat) (a : Int) (b : Int) (cmp : Value) (i : Int) (j : Int) (h : Hp) (nx0 : Int × Int × Unit → Hp → Prop) (K : Value → Hp → Prop) : Prop :=
  sx_4 Try.prog F 141 (cp [1, 1, 0, 1, 2, 2, 1, 0, 2, 1] (bodyOf Try.f67)) (ap [1, 1, 0, 1, 2, 1, 0, 1] slices_partialInsertionSortCmpFunc_2_int_an) [(0, .slice data dataL dataC), (1, .int .i64 a), (2, .int .i64 b), (3, cmp), (9, .int .i64 i), (10, .int .i64 j)] h (slices_partialInsertionSortCmpFunc_2_int_K5 nx0 K)
def slices_partialInsertionSortCmpFunc_2_int_b6 (j : Int) (data : Option Addr) (dataL : Nat) (dataC : Nat) (a : Int) (b : Int) (cmp : Value) (i : Int) (j_10 : Int) (h : Hp) (nx0 : Int × Int × Unit → Hp → Prop) (nx1 : Int × Unit → Hp → Prop) (K : Value → Hp → Prop) : Prop :=
  sx_3 Try.prog F 141 (cp [1, 1, 0, 1, 2, 2, 1, 0, 2, 1, 1, 1, 1, 0, 1, 0, 1, 2, 2] (bodyOf Try.f67)) (ap [1, 1, 0, 1, 2, 1, 0, 1, 1, 1, 1, 0, 1, 0, 1, 2] slices_partialInsertionSortCmpFunc_2_int_an) [(11, .int .i64 j), (0, .slice data dataL dataC), (1, .int .i64 a), (2, .int .i64 b), (3, cmp), (9, .int .i64 i), (10, .int .i64 j_10)] h (slices_partialInsertionSortCmpFunc_2_int_K11 nx0 nx1 K)
def slices_partialInsertionSortCmpFunc_2_int_b7 (data : Option Addr) (dataL : Nat) (dataC : Nat) (a : Int) (b : Int) (cmp : Value) (i : Int) (j : Int) (h : Hp) (nx0 : Int × Int × Unit → Hp → Prop) (K : Value → Hp → Prop) : Prop :=
  sx_3 Try.prog F 141 (cp [1, 1, 0, 1, 2, 2, 1, 0, 2, 1, 1, 1, 1, 1] (bodyOf Try.f67)) (ap [1, 1, 0, 1, 2, 1, 0, 1, 1, 1, 1, 1] slices_partialInsertionSortCmpFunc_2_int_an) [(0, .slice data dataL dataC), (1, .int .i64 a), (2, .int .i64 b), (3, cmp), (9, .int .i64 i), (10, .int .i64 j)] h (slices_partialInsertionSortCmpFunc_2_int_K5 nx0 K)
def slices_partialInsertionSortCmpFunc_2_int_b8 (data : Option Addr) (dataL : Nat) (dataC : Nat) (a : Int) (b : Int) (cmp : Value) (i : Int) (j : Int) (j_11 : Int) (h : Hp) (nx0 : Int × Int × Unit → Hp → Prop) (nx1 : Int × Unit → Hp → Prop) (K : Value → Hp → Prop) : Prop :=
  sx_2 Try.prog F 141 (cp [1, 1, 0, 1, 2, 2, 1, 0, 2, 1, 1, 1, 1, 0, 1, 0, 1, 2, 2, 1, 1] (bodyOf Try.f67)) (ap [1, 1, 0, 1, 2, 1, 0, 1, 1, 1, 1, 0, 1, 0, 1, 2, 1, 1] slices_partialInsertionSortCmpFunc_2_int_an) [(0, .slice data dataL dataC), (1, .int .i64 a), (2, .int .i64 b), (3, cmp), (9, .int .i64 i), (10, .int .i64 j), (11, .int .i64 j_11)] h (slices_partialInsertionSortCmpFunc_2_int_K11 nx0 nx1 K)
def slices_partialInsertionSortCmpFunc_2_int_b9 (j : Int) (data : Option Addr) (dataL : Nat) (dataC : Nat) (a : Int) (b : Int) (cmp : Value) (i : Int) (j_10 : Int) (h : Hp) (nx0 : Int × Int × Unit → Hp → Prop) (nx1 : Int × Unit → Hp → Prop) (K : Value → Hp → Prop) : Prop :=
  sx_2 Try.prog F 141 (cp [1, 1, 0, 1, 2, 2, 1, 0, 2, 1, 1, 1, 1, 1, 1, 0, 1, 2, 2] (bodyOf Try.f67)) (ap [1, 1, 0, 1, 2, 1, 0, 1, 1, 1, 1, 1, 1, 0, 1, 2] slices_partialInsertionSortCmpFunc_2_int_an) [(12, .int .i64 j), (0, .slice data dataL dataC), (1, .int .i64 a), (2, .int .i64 b), (3, cmp), (9, .int .i64 i), (10, .int .i64 j_10)] h (slices_partialInsertionSortCmpFunc_2_int_K13 nx0 nx1 K)
def slices_partialInsertionSortCmpFunc_2_int_b10 (data : Option Addr) (dataL : Nat) (dataC : Nat) (a : Int) (b : Int) (cmp : Value) (i : Int) (j : Int) (h : Hp) (nx0 : Int × Int × Unit → Hp → Prop) (K : Value → Hp → Prop) : Prop :=
  sx_4 Try.prog F 141 (cp [1, 1, 0, 1, 2, 2, 1, 1] (bodyOf Try.f67)) (ap [1, 1, 0, 1, 2, 1, 1] slices_partialInsertionSortCmpFunc_2_int_an) [(0, .slice data dataL dataC), (1, .int .i64 a), (2, .int .i64 b), (3, cmp), (9, .int .i64 i), (10, .int .i64 j)] h (slices_partialInsertionSortCmpFunc_2_int_K3 nx0 K)
def slices_partialInsertionSortCmpFunc_2_int_b11 (data : Option Addr) (dataL : Nat) (dataC : Nat) (a : Int) (b : Int) (cmp : Value) (i : Int) (j : Int) (j_12 : Int) (h : Hp) (nx0 : Int × Int × Unit → Hp → Prop) (nx1 : Int × Unit → Hp → Prop) (K : Value → Hp → Prop) : Prop :=
  sx_1 Try.prog F 141 (cp [1, 1, 0, 1, 2, 2, 1, 0, 2, 1, 1, 1, 1, 1, 1, 0, 1, 2, 2, 1, 1] (bodyOf Try.f67)) (ap [1, 1, 0, 1, 2, 1, 0, 1, 1, 1, 1, 1, 1, 0, 1, 2, 1, 1] slices_partialInsertionSortCmpFunc_2_int_an) [(0, .slice data dataL dataC), (1, .int .i64 a), (2, .int .i64 b), (3, cmp), (9, .int .i64 i), (10, .int .i64 j), (12, .int .i64 j_12)] h (slices_partialInsertionSortCmpFunc_2_int_K13 nx0 nx1 K)
theorem slices_partialInsertionSortCmpFunc_2_int_b0_eq (data : Option Addr) (dataL : Nat) (dataC : Nat) (a : Int) (b : Int) (cmp : Value) (h : Hp)  (K : Value → Hp → Prop) : slices_partialInsertionSortCmpFunc_2_int_b0 data dataL dataC a b cmp h  K = (
  InR (a + 1) ∧
  LoopVC ((a + 1, 0, ()) : Int × Int × Unit) h (fun (nx0 : Int × Int × Unit → Hp → Prop) (s1 : Int × Int × Unit) h1 => slices_partialInsertionSortCmpFunc_2_int_b1 s1.1 s1.2.1 data dataL dataC a b cmp h1 nx0 K)) := by kernel_rfl
theorem slices_partialInsertionSortCmpFunc_2_int_b1_eq (i : Int) (j : Int) (data : Option Addr) (dataL : Nat) (dataC : Nat) (a : Int) (b : Int) (cmp : Value) (h : Hp) (nx0 : Int × Int × Unit → Hp → Prop) (K : Value → Hp → Prop) : slices_partialInsertionSortCmpFunc_2_int_b1 i j data dataL dataC a b cmp h nx0 K = (
  cond (decide (j < 5))
  (LoopVC ((i, ()) : Int × Unit) h (fun (nx1 : Int × Unit → Hp → Prop) (s2 : Int × Unit) h2 => slices_partialInsertionSortCmpFunc_2_int_b2 s2.1 data dataL dataC a b cmp j h2 nx0 nx1 K))
  (slices_partialInsertionSortCmpFunc_2_int_b3  h  K)) := by kernel_rfl
theorem slices_partialInsertionSortCmpFunc_2_int_b2_eq (i : Int) (data : Option Addr) (dataL : Nat) (dataC : Nat) (a : Int) (b : Int) (cmp : Value) (j : Int) (h : Hp) (nx0 : Int × Int × Unit → Hp → Prop) (nx1 : Int × Unit → Hp → Prop) (K : Value → Hp → Prop) : slices_partialInsertionSortCmpFunc_2_int_b2 i data dataL dataC a b cmp j h nx0 nx1 K = (
  cond (decide (i < b))
  ((0 ≤ i ∧ i < (dataL : Int)) ∧
  NN data fun a1 =>
  ∃ n1 : Int, ∃ n2 : Int, cell h (a1.add (Int.toNat i * 2)) = some (.int .i64 n1) ∧
  cell h ((a1.add (Int.toNat i * 2)).add 1) = some (.int .i64 n2) ∧
  InR (i - 1) ∧
  (0 ≤ i - 1 ∧ i - 1 < (dataL : Int)) ∧
  NN data fun a2 =>
  ∃ n3 : Int, ∃ n4 : Int, cell h (a2.add (Int.toNat (i - 1) * 2)) = some (.int .i64 n3) ∧
  cell h ((a2.add (Int.toNat (i - 1) * 2)).add 1) = some (.int .i64 n4) ∧
  funV cmp fun fg1 fa1 fc1 => callX Try.prog F fg1 (fa1 ++ (([.agg #[.int .i64 n1, .int .i64 n2], .agg #[.int .i64 n3, .int .i64 n4]] : List Value) ++ fc1)).toArray h fun v1 h3 => ∃ r1 : Int, v1 = .int .i64 r1 ∧
  cond (!(decide (r1 < 0)))
  (slices_partialInsertionSortCmpFunc_2_int_b4 data dataL dataC a b cmp i j h3 nx0 nx1 K)
  (slices_partialInsertionSortCmpFunc_2_int_b5 data dataL dataC a b cmp i j h3 nx0 K))
  (slices_partialInsertionSortCmpFunc_2_int_b5 data dataL dataC a b cmp i j h nx0 K)) := by kernel_rfl
theorem slices_partialInsertionSortCmpFunc_2_int_b3_eq  (h : Hp)  (K : Value → Hp → Prop) : slices_partialInsertionSortCmpFunc_2_int_b3  h  K = (
  K (.bool false) h) := by kernel_rfl
theorem slices_partialInsertionSortCmpFunc_2_int_b4_eq (data : Option Addr) (dataL : Nat) (dataC : Nat) (a : Int) (b : Int) (cmp : Value) (i : Int) (j : Int) (h : Hp) (nx0 : Int × Int × Unit → Hp → Prop) (nx1 : Int × Unit → Hp → Prop) (K : Value → Hp → Prop) : slices_partialInsertionSortCmpFunc_2_int_b4 data dataL dataC a b cmp i j h nx0 nx1 K = (
  InR (i + 1) ∧
  nx1 (i + 1, ()) h) := by kernel_rfl
theorem slices_partialInsertionSortCmpFunc_2_int_b5_eq (data : Option Addr) (dataL : Nat) (dataC : Nat) (a : Int) (b : Int) (cmp : Value) (i : Int) (j : Int) (h : Hp) (nx0 : Int × Int × Unit → Hp → Prop) (K : Value → Hp → Prop) : slices_partialInsertionSortCmpFunc_2_int_b5 data dataL dataC a b cmp i j h nx0 K = (
  cond (decide (i = b))
  (K (.bool true) h)
  (InR (b - a) ∧
  cond (decide ((b - a) < 50))
  (K (.bool false) h)
  (InR (i - 1) ∧
  InR (i - 1) ∧
  (0 ≤ i - 1 ∧ i - 1 < (dataL : Int)) ∧
  NN data fun a3 =>
  ∃ n5 : Int, ∃ n6 : Int, cell h (a3.add (Int.toNat (i - 1) * 2)) = some (.int .i64 n5) ∧
  cell h ((a3.add (Int.toNat (i - 1) * 2)).add 1) = some (.int .i64 n6) ∧
  (0 ≤ i ∧ i < (dataL : Int)) ∧
  NN data fun a4 =>
  ∃ n7 : Int, ∃ n8 : Int, cell h (a4.add (Int.toNat i * 2)) = some (.int .i64 n7) ∧
  cell h ((a4.add (Int.toNat i * 2)).add 1) = some (.int .i64 n8) ∧
  (0 ≤ i ∧ i < (dataL : Int)) ∧
  NN data fun a5 =>
  Wr h (a5.add (Int.toNat i * 2)) (.int .i64 n5) fun h4 =>
  Wr h4 ((a5.add (Int.toNat i * 2)).add 1) (.int .i64 n6) fun h5 =>
  (0 ≤ i - 1 ∧ i - 1 < (dataL : Int)) ∧
  NN data fun a6 =>
  Wr h5 (a6.add (Int.toNat (i - 1) * 2)) (.int .i64 n7) fun h6 =>
  Wr h6 ((a6.add (Int.toNat (i - 1) * 2)).add 1) (.int .i64 n8) fun h7 =>
  InR (i - a) ∧
  cond (decide ((2 : Int) ≤ (i - a)))
  (InR (i - 1) ∧
  LoopVC ((i - 1, ()) : Int × Unit) h7 (fun (nx1 : Int × Unit → Hp → Prop) (s3 : Int × Unit) h8 => slices_partialInsertionSortCmpFunc_2_int_b6 s3.1 data dataL dataC a b cmp i j h8 nx0 nx1 K))
  (slices_partialInsertionSortCmpFunc_2_int_b7 data dataL dataC a b cmp i j h7 nx0 K)))) := by kernel_rfl
theorem slices_partialInsertionSortCmpFunc_2_int_b6_eq (j : Int) (data : Option Addr) (dataL : Nat) (dataC : Nat) (a : Int) (b : Int) (cmp : Value) (i : Int) (j_10 : Int) (h : Hp) (nx0 : Int × Int × Unit → Hp → Prop) (nx1 : Int × Unit → Hp → Prop) (K : Value → Hp → Prop) : slices_partialInsertionSortCmpFunc_2_int_b6 j data dataL dataC a b cmp i j_10 h nx0 nx1 K = (
  cond (decide ((1 : Int) ≤ j))
  ((0 ≤ j ∧ j < (dataL : Int)) ∧
  NN data fun a7 =>
  ∃ n9 : Int, ∃ n10 : Int, cell h (a7.add (Int.toNat j * 2)) = some (.int .i64 n9) ∧
  cell h ((a7.add (Int.toNat j * 2)).add 1) = some (.int .i64 n10) ∧
  InR (j - 1) ∧
  (0 ≤ j - 1 ∧ j - 1 < (dataL : Int)) ∧
  NN data fun a8 =>
  ∃ n11 : Int, ∃ n12 : Int, cell h (a8.add (Int.toNat (j - 1) * 2)) = some (.int .i64 n11) ∧
  cell h ((a8.add (Int.toNat (j - 1) * 2)).add 1) = some (.int .i64 n12) ∧
  funV cmp fun fg2 fa2 fc2 => callX Try.prog F fg2 (fa2 ++ (([.agg #[.int .i64 n9, .int .i64 n10], .agg #[.int .i64 n11, .int .i64 n12]] : List Value) ++ fc2)).toArray h fun v2 h9 => ∃ r2 : Int, v2 = .int .i64 r2 ∧
  cond (!(decide (r2 < 0)))
  (slices_partialInsertionSortCmpFunc_2_int_b7 data dataL dataC a b cmp i j_10 h9 nx0 K)
  (InR (j - 1) ∧
  InR (j - 1) ∧
  (0 ≤ j - 1 ∧ j - 1 < (dataL : Int)) ∧
  NN data fun a9 =>
  ∃ n13 : Int, ∃ n14 : Int, cell h9 (a9.add (Int.toNat (j - 1) * 2)) = some (.int .i64 n13) ∧
  cell h9 ((a9.add (Int.toNat (j - 1) * 2)).add 1) = some (.int .i64 n14) ∧
  (0 ≤ j ∧ j < (dataL : Int)) ∧
  NN data fun a10 =>
  ∃ n15 : Int, ∃ n16 : Int, cell h9 (a10.add (Int.toNat j * 2)) = some (.int .i64 n15) ∧
  cell h9 ((a10.add (Int.toNat j * 2)).add 1) = some (.int .i64 n16) ∧
  (0 ≤ j ∧ j < (dataL : Int)) ∧
  NN data fun a11 =>
  Wr h9 (a11.add (Int.toNat j * 2)) (.int .i64 n13) fun h10 =>
  Wr h10 ((a11.add (Int.toNat j * 2)).add 1) (.int .i64 n14) fun h11 =>
  (0 ≤ j - 1 ∧ j - 1 < (dataL : Int)) ∧
  NN data fun a12 =>
  Wr h11 (a12.add (Int.toNat (j - 1) * 2)) (.int .i64 n15) fun h12 =>
  Wr h12 ((a12.add (Int.toNat (j - 1) * 2)).add 1) (.int .i64 n16) fun h13 =>
  slices_partialInsertionSortCmpFunc_2_int_b8 data dataL dataC a b cmp i j_10 j h13 nx0 nx1 K))
  (slices_partialInsertionSortCmpFunc_2_int_b7 data dataL dataC a b cmp i j_10 h nx0 K)) := by kernel_rfl
theorem slices_partialInsertionSortCmpFunc_2_int_b7_eq (data : Option Addr) (dataL : Nat) (dataC : Nat) (a : Int) (b : Int) (cmp : Value) (i : Int) (j : Int) (h : Hp) (nx0 : Int × Int × Unit → Hp → Prop) (K : Value → Hp → Prop) : slices_partialInsertionSortCmpFunc_2_int_b7 data dataL dataC a b cmp i j h nx0 K = (
  InR (b - i) ∧
  cond (decide ((2 : Int) ≤ (b - i)))
  (InR (i + 1) ∧
  LoopVC ((i + 1, ()) : Int × Unit) h (fun (nx1 : Int × Unit → Hp → Prop) (s4 : Int × Unit) h14 => slices_partialInsertionSortCmpFunc_2_int_b9 s4.1 data dataL dataC a b cmp i j h14 nx0 nx1 K))
  (slices_partialInsertionSortCmpFunc_2_int_b10 data dataL dataC a b cmp i j h nx0 K)) := by kernel_rfl
theorem slices_partialInsertionSortCmpFunc_2_int_b8_eq (data : Option Addr) (dataL : Nat) (dataC : Nat) (a : Int) (b : Int) (cmp : Value) (i : Int) (j : Int) (j_11 : Int) (h : Hp) (nx0 : Int × Int × Unit → Hp → Prop) (nx1 : Int × Unit → Hp → Prop) (K : Value → Hp → Prop) : slices_partialInsertionSortCmpFunc_2_int_b8 data dataL dataC a b cmp i j j_11 h nx0 nx1 K = (
  InR (j_11 - 1) ∧
  nx1 (j_11 - 1, ()) h) := by kernel_rfl
theorem slices_partialInsertionSortCmpFunc_2_int_b9_eq (j : Int) (data : Option Addr) (dataL : Nat) (dataC : Nat) (a : Int) (b : Int) (cmp : Value) (i : Int) (j_10 : Int) (h : Hp) (nx0 : Int × Int × Unit → Hp → Prop) (nx1 : Int × Unit → Hp → Prop) (K : Value → Hp → Prop) : slices_partialInsertionSortCmpFunc_2_int_b9 j data dataL dataC a b cmp i j_10 h nx0 nx1 K = (
  cond (decide (j < b))
  ((0 ≤ j ∧ j < (dataL : Int)) ∧
  NN data fun a13 =>
  ∃ n17 : Int, ∃ n18 : Int, cell h (a13.add (Int.toNat j * 2)) = some (.int .i64 n17) ∧
  cell h ((a13.add (Int.toNat j * 2)).add 1) = some (.int .i64 n18) ∧
  InR (j - 1) ∧
  (0 ≤ j - 1 ∧ j - 1 < (dataL : Int)) ∧
  NN data fun a14 =>
  ∃ n19 : Int, ∃ n20 : Int, cell h (a14.add (Int.toNat (j - 1) * 2)) = some (.int .i64 n19) ∧
  cell h ((a14.add (Int.toNat (j - 1) * 2)).add 1) = some (.int .i64 n20) ∧
  funV cmp fun fg3 fa3 fc3 => callX Try.prog F fg3 (fa3 ++ (([.agg #[.int .i64 n17, .int .i64 n18], .agg #[.int .i64 n19, .int .i64 n20]] : List Value) ++ fc3)).toArray h fun v3 h15 => ∃ r3 : Int, v3 = .int .i64 r3 ∧
  cond (!(decide (r3 < 0)))
  (slices_partialInsertionSortCmpFunc_2_int_b10 data dataL dataC a b cmp i j_10 h15 nx0 K)
  (InR (j - 1) ∧
  InR (j - 1) ∧
  (0 ≤ j - 1 ∧ j - 1 < (dataL : Int)) ∧
  NN data fun a15 =>
  ∃ n21 : Int, ∃ n22 : Int, cell h15 (a15.add (Int.toNat (j - 1) * 2)) = some (.int .i64 n21) ∧
  cell h15 ((a15.add (Int.toNat (j - 1) * 2)).add 1) = some (.int .i64 n22) ∧
  (0 ≤ j ∧ j < (dataL : Int)) ∧
  NN data fun a16 =>
  ∃ n23 : Int, ∃ n24 : Int, cell h15 (a16.add (Int.toNat j * 2)) = some (.int .i64 n23) ∧
  cell h15 ((a16.add (Int.toNat j * 2)).add 1) = some (.int .i64 n24) ∧
  (0 ≤ j ∧ j < (dataL : Int)) ∧
  NN data fun a17 =>
  Wr h15 (a17.add (Int.toNat j * 2)) (.int .i64 n21) fun h16 =>
  Wr h16 ((a17.add (Int.toNat j * 2)).add 1) (.int .i64 n22) fun h17 =>
  (0 ≤ j - 1 ∧ j - 1 < (dataL : Int)) ∧
  NN data fun a18 =>
  Wr h17 (a18.add (Int.toNat (j - 1) * 2)) (.int .i64 n23) fun h18 =>
  Wr h18 ((a18.add (Int.toNat (j - 1) * 2)).add 1) (.int .i64 n24) fun h19 =>
  slices_partialInsertionSortCmpFunc_2_int_b11 data dataL dataC a b cmp i j_10 j h19 nx0 nx1 K))
  (slices_partialInsertionSortCmpFunc_2_int_b10 data dataL dataC a b cmp i j_10 h nx0 K)) := by kernel_rfl
theorem slices_partialInsertionSortCmpFunc_2_int_b10_eq (data : Option Addr) (dataL : Nat) (dataC : Nat) (a : Int) (b : Int) (cmp : Value) (i : Int) (j : Int) (h : Hp) (nx0 : Int × Int × Unit → Hp → Prop) (K : Value → Hp → Prop) : slices_partialInsertionSortCmpFunc_2_int_b10 data dataL dataC a b cmp i j h nx0 K = (
  InR (j + 1) ∧
  nx0 (i, j + 1, ()) h) := by kernel_rfl
theorem slices_partialInsertionSortCmpFunc_2_int_b11_eq (data : Option Addr) (dataL : Nat) (dataC : Nat) (a : Int) (b : Int) (cmp : Value) (i : Int) (j : Int) (j_12 : Int) (h : Hp) (nx0 : Int × Int × Unit → Hp → Prop) (nx1 : Int × Unit → Hp → Prop) (K : Value → Hp → Prop) : slices_partialInsertionSortCmpFunc_2_int_b11 data dataL dataC a b cmp i j j_12 h nx0 nx1 K = (
  InR (j_12 + 1) ∧
  nx1 (j_12 + 1, ()) h) := by kernel_rfl
theorem slices_partialInsertionSortCmpFunc_2_int_call {data : Option Addr} {dataL : Nat} {dataC : Nat} {a : Int} {b : Int} {cmp : Value} {h : Hp} {K : Value → Hp → Prop} (hk : slices_partialInsertionSortCmpFunc_2_int_b0 data dataL dataC a b cmp h K) : HCalls Try.prog 67 #[.slice data dataL dataC, .int .i64 a, .int .i64 b, cmp] h K :=
  calls_of_snd slices_partialInsertionSortCmpFunc_2_int_an Try.func67 (c := bodyOf Try.f67) rfl Try.ntmps67 (Nat.le_of_ble_eq_true rfl) (snd_6 F_ok F_mixed) hk

/-! ### slices_partitionEqualCmpFunc_2_int -/
def slices_partitionEqualCmpFunc_2_int_an : Ann := .node none (.leaf) (.node none (.plan (.qu 0 (.qu 1 (.qu 2 (.qu 3 (.qu 4 (.qu 5 (.qu 6 (.qu 7 (.qu 8 (.qu 9 (.qu 10 (.qu 11 (.qu 12 (.wo 13 (.qu 14 (.wo 15 .fin .no)) .no))))))))))))))) (.node none (.leaf) (.node (some [11]) (.loop [0, 1, 4] [(11, .int .i64), (12, .int .i64)] (.node (some [0, 1, 4, 11, 12]) (.loop [0, 1, 4, 12] [(11, .int .i64)] (.node (some [0, 1, 4, 11, 12]) (.node none (.tail 13) (.leaf)) (.leaf))) (.node (some [0, 1, 4, 11, 12]) (.loop [0, 1, 4, 11] [(12, .int .i64)] (.node (some [0, 1, 4, 11, 12]) (.node none (.tail 13) (.leaf)) (.leaf))) (.node none (.leaf) (.node none (.plan (.qu 0 (.qu 1 (.qu 2 (.qu 3 (.qu 4 (.qu 5 (.qu 6 (.qu 7 (.qu 8 (.qu 9 (.qu 10 (.qu 11 (.qu 12 (.wo 13 (.qu 14 (.wo 15 .fin .no)) .no))))))))))))))) (.leaf)))))) (.leaf))))
def slices_partitionEqualCmpFunc_2_int_K0  (K : Value → Hp → Prop) : Exit → Env → Hp → Prop := retK Try.prog Try.f68.results.toList K
def slices_partitionEqualCmpFunc_2_int_K1  (K : Value → Hp → Prop) : Exit → Env → Hp → Prop := thenE (fun env h => sx_4 Try.prog F 90 (cp [1, 1, 1, 1] (bodyOf Try.f68)) (ap [1, 1, 1, 1] slices_partitionEqualCmpFunc_2_int_an) (rs [11] env) h (slices_partitionEqualCmpFunc_2_int_K0  K)) (slices_partitionEqualCmpFunc_2_int_K0  K)
def slices_partitionEqualCmpFunc_2_int_K2  (K : Value → Hp → Prop) : Exit → Env → Hp → Prop := blockE 0 (slices_partitionEqualCmpFunc_2_int_K1  K)
def slices_partitionEqualCmpFunc_2_int_K3 (nx0 : Int × Int × Unit → Hp → Prop) (K : Value → Hp → Prop) : Exit → Env → Hp → Prop := thenE (fun env h => getV [(11, .int .i64), (12, .int .i64)] env fun s => nx0 s h) (slices_partitionEqualCmpFunc_2_int_K2  K)
def slices_partitionEqualCmpFunc_2_int_K4 (nx0 : Int × Int × Unit → Hp → Prop) (K : Value → Hp → Prop) : Exit → Env → Hp → Prop := blockE 1 (slices_partitionEqualCmpFunc_2_int_K3 nx0 K)
def slices_partitionEqualCmpFunc_2_int_K5 (nx0 : Int × Int × Unit → Hp → Prop) (K : Value → Hp → Prop) : Exit → Env → Hp → Prop := thenE (fun env h => sx_3 Try.prog F 90 (cp [1, 1, 1, 0, 2, 2, 2, 1] (bodyOf Try.f68)) (ap [1, 1, 1, 0, 2, 1] slices_partitionEqualCmpFunc_2_int_an) (rs [0, 1, 4, 11, 12] env) h (slices_partitionEqualCmpFunc_2_int_K4 nx0 K)) (slices_partitionEqualCmpFunc_2_int_K4 nx0 K)
def slices_partitionEqualCmpFunc_2_int_K6 (nx0 : Int × Int × Unit → Hp → Prop) (K : Value → Hp → Prop) : Exit → Env → Hp → Prop := blockE 2 (slices_partitionEqualCmpFunc_2_int_K5 nx0 K)
def slices_partitionEqualCmpFunc_2_int_K7 (nx0 : Int × Int × Unit → Hp → Prop) (nx1 : Int × Unit → Hp → Prop) (K : Value → Hp → Prop) : Exit → Env → Hp → Prop := thenE (fun env h => getV [(11, .int .i64)] env fun s => nx1 s h) (slices_partitionEqualCmpFunc_2_int_K6 nx0 K)
def slices_partitionEqualCmpFunc_2_int_K8 (nx0 : Int × Int × Unit → Hp → Prop) (K : Value → Hp → Prop) : Exit → Env → Hp → Prop := thenE (fun env h => sx_2 Try.prog F 90 (cp [1, 1, 1, 0, 2, 2, 2, 1, 1] (bodyOf Try.f68)) (ap [1, 1, 1, 0, 2, 1, 1] slices_partitionEqualCmpFunc_2_int_an) (rs [0, 1, 4, 11, 12] env) h (slices_partitionEqualCmpFunc_2_int_K4 nx0 K)) (slices_partitionEqualCmpFunc_2_int_K4 nx0 K)
def slices_partitionEqualCmpFunc_2_int_K9 (nx0 : Int × Int × Unit → Hp → Prop) (K : Value → Hp → Prop) : Exit → Env → Hp → Prop := blockE 4 (slices_partitionEqualCmpFunc_2_int_K8 nx0 K)
def slices_partitionEqualCmpFunc_2_int_K10 (nx0 : Int × Int × Unit → Hp → Prop) (nx1 : Int × Unit → Hp → Prop) (K : Value → Hp → Prop) : Exit → Env → Hp → Prop := thenE (fun env h => getV [(12, .int .i64)] env fun s => nx1 s h) (slices_partitionEqualCmpFunc_2_int_K9 nx0 K)
def slices_partitionEqualCmpFunc_2_int_b0 (data : Option Addr) (dataL : Nat) (dataC : Nat) (a : Int) (b : Int) (pivot : Int) (cmp : Value) (h : Hp)  (K : Value → Hp → Prop) : Prop :=
  sx_5 Try.prog F 90 (cp [] (bodyOf Try.f68)) (ap [] slices_partitionEqualCmpFunc_2_int_an) [(0, .slice data dataL dataC), (1, .int .i64 a), (2, .int .i64 b), (3, .int .i64 pivot), (4, cmp)] h (slices_partitionEqualCmpFunc_2_int_K0  K)
def slices_partitionEqualCmpFunc_2_int_b1 (i : Int) (j : Int) (data : Option Addr) (dataL : Nat) (dataC : Nat) (a : Int) (cmp : Value) (h : Hp) (nx0 : Int × Int × Unit → Hp → Prop) (K : Value → Hp → Prop) : Prop :=
  sx_4 Try.prog F 90 (cp [1, 1, 1, 0, 2, 2] (bodyOf Try.f68)) (ap [1, 1, 1, 0, 2] slices_partitionEqualCmpFunc_2_int_an) [(11, .int .i64 i), (12, .int .i64 j), (0, .slice data dataL dataC), (1, .int .i64 a), (4, cmp)] h (slices_partitionEqualCmpFunc_2_int_K3 nx0 K)
def slices_partitionEqualCmpFunc_2_int_b2 (i : Int) (data : Option Addr) (dataL : Nat) (dataC : Nat) (a : Int) (cmp : Value) (j : Int) (h : Hp) (nx0 : Int × Int × Unit → Hp → Prop) (nx1 : Int × Unit → Hp → Prop) (K : Value → Hp → Prop) : Prop :=
  sx_3 Try.prog F 90 (cp [1, 1, 1, 0, 2, 2, 2, 0, 2, 2] (bodyOf Try.f68)) (ap [1, 1, 1, 0, 2, 0, 2] slices_partitionEqualCmpFunc_2_int_an) [(11, .int .i64 i), (0, .slice data dataL dataC), (1, .int .i64 a), (4, cmp), (12, .int .i64 j)] h (slices_partitionEqualCmpFunc_2_int_K7 nx0 nx1 K)
def slices_partitionEqualCmpFunc_2_int_b3 (data : Option Addr) (dataL : Nat) (dataC : Nat) (a : Int) (cmp : Value) (i : Int) (j : Int) (h : Hp) (nx0 : Int × Int × Unit → Hp → Prop) (nx1 : Int × Unit → Hp → Prop) (K : Value → Hp → Prop) : Prop :=
  sx_2 Try.prog F 90 (cp [1, 1, 1, 0, 2, 2, 2, 0, 2, 2, 1] (bodyOf Try.f68)) (ap [1, 1, 1, 0, 2, 0, 2, 1] slices_partitionEqualCmpFunc_2_int_an) [(0, .slice data dataL dataC), (1, .int .i64 a), (4, cmp), (11, .int .i64 i), (12, .int .i64 j)] h (slices_partitionEqualCmpFunc_2_int_K7 nx0 nx1 K)
def slices_partitionEqualCmpFunc_2_int_b4 (data : Option Addr) (dataL : Nat) (dataC : Nat) (a : Int) (cmp : Value) (i : Int) (j : Int) (h : Hp) (nx0 : Int × Int × Unit → Hp → Prop) (K : Value → Hp → Prop) : Prop :=
  sx_3 Try.prog F 90 (cp [1, 1, 1, 0, 2, 2, 2, 1] (bodyOf Try.f68)) (ap [1, 1, 1, 0, 2, 1] slices_partitionEqualCmpFunc_2_int_an) [(0, .slice data dataL dataC), (1, .int .i64 a), (4, cmp), (11, .int .i64 i), (12, .int .i64 j)] h (slices_partitionEqualCmpFunc_2_int_K4 nx0 K)
def slices_partitionEqualCmpFunc_2_int_b5 (j : Int) (data : Option Addr) (dataL : Nat) (dataC : Nat) (a : Int) (cmp : Value) (i : Int) (h : Hp) (nx0 : Int × Int × Unit → Hp → Prop) (nx1 : Int × Unit → Hp → Prop) (K : Value → Hp → Prop) : Prop :=
  sx_2 Try.prog F 90 (cp [1, 1, 1, 0, 2, 2, 2, 1, 0, 2, 2] (bodyOf Try.f68)) (ap [1, 1, 1, 0, 2, 1, 0, 2] slices_partitionEqualCmpFunc_2_int_an) [(12, .int .i64 j), (0, .slice data dataL dataC), (1, .int .i64 a), (4, cmp), (11, .int .i64 i)] h (slices_partitionEqualCmpFunc_2_int_K10 nx0 nx1 K)
def slices_partitionEqualCmpFunc_2_int_b6 (data : Option Addr) (dataL : Nat) (dataC : Nat) (a : Int) (cmp : Value) (i : Int) (j : Int) (h : Hp) (nx0 : Int × Int × Unit → Hp → Prop) (nx1 : Int × Unit → Hp → Prop) (K : Value → Hp → Prop) : Prop :=
  sx_1 Try.prog F 90 (cp [1, 1, 1, 0, 2, 2, 2, 1, 0, 2, 2, 1] (bodyOf Try.f68)) (ap [1, 1, 1, 0, 2, 1, 0, 2, 1] slices_partitionEqualCmpFunc_2_int_an) [(0, .slice data dataL dataC), (1, .int .i64 a), (4, cmp), (11, .int .i64 i), (12, .int .i64 j)] h (slices_partitionEqualCmpFunc_2_int_K10 nx0 nx1 K)
def slices_partitionEqualCmpFunc_2_int_b7 (data : Option Addr) (dataL : Nat) (dataC : Nat) (a : Int) (cmp : Value) (i : Int) (j : Int) (h : Hp) (nx0 : Int × Int × Unit → Hp → Prop) (K : Value → Hp → Prop) : Prop :=
  sx_2 Try.prog F 90 (cp [1, 1, 1, 0, 2, 2, 2, 1, 1] (bodyOf Try.f68)) (ap [1, 1, 1, 0, 2, 1, 1] slices_partitionEqualCmpFunc_2_int_an) [(0, .slice data dataL dataC), (1, .int .i64 a), (4, cmp), (11, .int .i64 i), (12, .int .i64 j)] h (slices_partitionEqualCmpFunc_2_int_K4 nx0 K)
def slices_partitionEqualCmpFunc_2_int_b8 (i : Int) (h : Hp)  (K : Value → Hp → Prop) : Prop :=
  sx_4 Try.prog F 90 (cp [1, 1, 1, 1] (bodyOf Try.f68)) (ap [1, 1, 1, 1] slices_partitionEqualCmpFunc_2_int_an) [(11, .int .i64 i)] h (slices_partitionEqualCmpFunc_2_int_K0  K)
theorem slices_partitionEqualCmpFunc_2_int_b0_eq (data : Option Addr) (dataL : Nat) (dataC : Nat) (a : Int) (b : Int) (pivot : Int) (cmp : Value) (h : Hp)  (K : Value → Hp → Prop) : slices_partitionEqualCmpFunc_2_int_b0 data dataL dataC a b pivot cmp h  K = (
  (0 ≤ pivot ∧ pivot < (dataL : Int)) ∧
  NN data fun a1 =>
  ∃ n1 : Int, ∃ n2 : Int, cell h (a1.add (Int.toNat pivot * 2)) = some (.int .i64 n1) ∧
  cell h ((a1.add (Int.toNat pivot * 2)).add 1) = some (.int .i64 n2) ∧
  (0 ≤ a ∧ a < (dataL : Int)) ∧
  NN data fun a2 =>
  ∃ n3 : Int, ∃ n4 : Int, cell h (a2.add (Int.toNat a * 2)) = some (.int .i64 n3) ∧
  cell h ((a2.add (Int.toNat a * 2)).add 1) = some (.int .i64 n4) ∧
  (0 ≤ a ∧ a < (dataL : Int)) ∧
  NN data fun a3 =>
  Wr h (a3.add (Int.toNat a * 2)) (.int .i64 n1) fun h1 =>
  Wr h1 ((a3.add (Int.toNat a * 2)).add 1) (.int .i64 n2) fun h2 =>
  (0 ≤ pivot ∧ pivot < (dataL : Int)) ∧
  NN data fun a4 =>
  Wr h2 (a4.add (Int.toNat pivot * 2)) (.int .i64 n3) fun h3 =>
  Wr h3 ((a4.add (Int.toNat pivot * 2)).add 1) (.int .i64 n4) fun h4 =>
  InR (a + 1) ∧
  InR (b - 1) ∧
  LoopVC ((a + 1, b - 1, ()) : Int × Int × Unit) h4 (fun (nx0 : Int × Int × Unit → Hp → Prop) (s1 : Int × Int × Unit) h5 => slices_partitionEqualCmpFunc_2_int_b1 s1.1 s1.2.1 data dataL dataC a cmp h5 nx0 K)) := by kernel_rfl
theorem slices_partitionEqualCmpFunc_2_int_b1_eq (i : Int) (j : Int) (data : Option Addr) (dataL : Nat) (dataC : Nat) (a : Int) (cmp : Value) (h : Hp) (nx0 : Int × Int × Unit → Hp → Prop) (K : Value → Hp → Prop) : slices_partitionEqualCmpFunc_2_int_b1 i j data dataL dataC a cmp h nx0 K = (
  LoopVC ((i, ()) : Int × Unit) h (fun (nx1 : Int × Unit → Hp → Prop) (s2 : Int × Unit) h6 => slices_partitionEqualCmpFunc_2_int_b2 s2.1 data dataL dataC a cmp j h6 nx0 nx1 K)) := by kernel_rfl
theorem slices_partitionEqualCmpFunc_2_int_b2_eq (i : Int) (data : Option Addr) (dataL : Nat) (dataC : Nat) (a : Int) (cmp : Value) (j : Int) (h : Hp) (nx0 : Int × Int × Unit → Hp → Prop) (nx1 : Int × Unit → Hp → Prop) (K : Value → Hp → Prop) : slices_partitionEqualCmpFunc_2_int_b2 i data dataL dataC a cmp j h nx0 nx1 K = (
  cond (decide (i ≤ j))
  ((0 ≤ a ∧ a < (dataL : Int)) ∧
  NN data fun a5 =>
  ∃ n5 : Int, ∃ n6 : Int, cell h (a5.add (Int.toNat a * 2)) = some (.int .i64 n5) ∧
  cell h ((a5.add (Int.toNat a * 2)).add 1) = some (.int .i64 n6) ∧
  (0 ≤ i ∧ i < (dataL : Int)) ∧
  NN data fun a6 =>
  ∃ n7 : Int, ∃ n8 : Int, cell h (a6.add (Int.toNat i * 2)) = some (.int .i64 n7) ∧
  cell h ((a6.add (Int.toNat i * 2)).add 1) = some (.int .i64 n8) ∧
  funV cmp fun fg1 fa1 fc1 => callX Try.prog F fg1 (fa1 ++ (([.agg #[.int .i64 n5, .int .i64 n6], .agg #[.int .i64 n7, .int .i64 n8]] : List Value) ++ fc1)).toArray h fun v1 h7 => ∃ r1 : Int, v1 = .int .i64 r1 ∧
  cond (!(decide (r1 < 0)))
  (slices_partitionEqualCmpFunc_2_int_b3 data dataL dataC a cmp i j h7 nx0 nx1 K)
  (slices_partitionEqualCmpFunc_2_int_b4 data dataL dataC a cmp i j h7 nx0 K))
  (slices_partitionEqualCmpFunc_2_int_b4 data dataL dataC a cmp i j h nx0 K)) := by kernel_rfl
theorem slices_partitionEqualCmpFunc_2_int_b3_eq (data : Option Addr) (dataL : Nat) (dataC : Nat) (a : Int) (cmp : Value) (i : Int) (j : Int) (h : Hp) (nx0 : Int × Int × Unit → Hp → Prop) (nx1 : Int × Unit → Hp → Prop) (K : Value → Hp → Prop) : slices_partitionEqualCmpFunc_2_int_b3 data dataL dataC a cmp i j h nx0 nx1 K = (
  InR (i + 1) ∧
  nx1 (i + 1, ()) h) := by kernel_rfl
theorem slices_partitionEqualCmpFunc_2_int_b4_eq (data : Option Addr) (dataL : Nat) (dataC : Nat) (a : Int) (cmp : Value) (i : Int) (j : Int) (h : Hp) (nx0 : Int × Int × Unit → Hp → Prop) (K : Value → Hp → Prop) : slices_partitionEqualCmpFunc_2_int_b4 data dataL dataC a cmp i j h nx0 K = (
  LoopVC ((j, ()) : Int × Unit) h (fun (nx1 : Int × Unit → Hp → Prop) (s3 : Int × Unit) h8 => slices_partitionEqualCmpFunc_2_int_b5 s3.1 data dataL dataC a cmp i h8 nx0 nx1 K)) := by kernel_rfl
theorem slices_partitionEqualCmpFunc_2_int_b5_eq (j : Int) (data : Option Addr) (dataL : Nat) (dataC : Nat) (a : Int) (cmp : Value) (i : Int) (h : Hp) (nx0 : Int × Int × Unit → Hp → Prop) (nx1 : Int × Unit → Hp → Prop) (K : Value → Hp → Prop) : slices_partitionEqualCmpFunc_2_int_b5 j data dataL dataC a cmp i h nx0 nx1 K = (
  cond (decide (i ≤ j))
  ((0 ≤ a ∧ a < (dataL : Int)) ∧
  NN data fun a7 =>
  ∃ n9 : Int, ∃ n10 : Int, cell h (a7.add (Int.toNat a * 2)) = some (.int .i64 n9) ∧
  cell h ((a7.add (Int.toNat a * 2)).add 1) = some (.int .i64 n10) ∧
  (0 ≤ j ∧ j < (dataL : Int)) ∧
  NN data fun a8 =>
  ∃ n11 : Int, ∃ n12 : Int, cell h (a8.add (Int.toNat j * 2)) = some (.int .i64 n11) ∧
  cell h ((a8.add (Int.toNat j * 2)).add 1) = some (.int .i64 n12) ∧
  funV cmp fun fg2 fa2 fc2 => callX Try.prog F fg2 (fa2 ++ (([.agg #[.int .i64 n9, .int .i64 n10], .agg #[.int .i64 n11, .int .i64 n12]] : List Value) ++ fc2)).toArray h fun v2 h9 => ∃ r2 : Int, v2 = .int .i64 r2 ∧
  cond (decide (r2 < 0))
  (slices_partitionEqualCmpFunc_2_int_b6 data dataL dataC a cmp i j h9 nx0 nx1 K)
  (slices_partitionEqualCmpFunc_2_int_b7 data dataL dataC a cmp i j h9 nx0 K))
  (slices_partitionEqualCmpFunc_2_int_b7 data dataL dataC a cmp i j h nx0 K)) := by kernel_rfl
theorem slices_partitionEqualCmpFunc_2_int_b6_eq (data : Option Addr) (dataL : Nat) (dataC : Nat) (a : Int) (cmp : Value) (i : Int) (j : Int) (h : Hp) (nx0 : Int × Int × Unit → Hp → Prop) (nx1 : Int × Unit → Hp → Prop) (K : Value → Hp → Prop) : slices_partitionEqualCmpFunc_2_int_b6 data dataL dataC a cmp i j h nx0 nx1 K = (
  InR (j - 1) ∧
  nx1 (j - 1, ()) h) := by kernel_rfl
theorem slices_partitionEqualCmpFunc_2_int_b7_eq (data : Option Addr) (dataL : Nat) (dataC : Nat) (a : Int) (cmp : Value) (i : Int) (j : Int) (h : Hp) (nx0 : Int × Int × Unit → Hp → Prop) (K : Value → Hp → Prop) : slices_partitionEqualCmpFunc_2_int_b7 data dataL dataC a cmp i j h nx0 K = (
  cond (decide (j < i))
  (slices_partitionEqualCmpFunc_2_int_b8 i h  K)
  ((0 ≤ j ∧ j < (dataL : Int)) ∧
  NN data fun a9 =>
  ∃ n13 : Int, ∃ n14 : Int, cell h (a9.add (Int.toNat j * 2)) = some (.int .i64 n13) ∧
  cell h ((a9.add (Int.toNat j * 2)).add 1) = some (.int .i64 n14) ∧
  (0 ≤ i ∧ i < (dataL : Int)) ∧
  NN data fun a10 =>
  ∃ n15 : Int, ∃ n16 : Int, cell h (a10.add (Int.toNat i * 2)) = some (.int .i64 n15) ∧
  cell h ((a10.add (Int.toNat i * 2)).add 1) = some (.int .i64 n16) ∧
  (0 ≤ i ∧ i < (dataL : Int)) ∧
  NN data fun a11 =>
  Wr h (a11.add (Int.toNat i * 2)) (.int .i64 n13) fun h10 =>
  Wr h10 ((a11.add (Int.toNat i * 2)).add 1) (.int .i64 n14) fun h11 =>
  (0 ≤ j ∧ j < (dataL : Int)) ∧
  NN data fun a12 =>
  Wr h11 (a12.add (Int.toNat j * 2)) (.int .i64 n15) fun h12 =>
  Wr h12 ((a12.add (Int.toNat j * 2)).add 1) (.int .i64 n16) fun h13 =>
  InR (i + 1) ∧
  InR (j - 1) ∧
  nx0 (i + 1, j - 1, ()) h13)) := by kernel_rfl
theorem slices_partitionEqualCmpFunc_2_int_b8_eq (i : Int) (h : Hp)  (K : Value → Hp → Prop) : slices_partitionEqualCmpFunc_2_int_b8 i h  K = (
  K (.int .i64 i) h) := by kernel_rfl
theorem slices_partitionEqualCmpFunc_2_int_call {data : Option Addr} {dataL : Nat} {dataC : Nat} {a : Int} {b : Int} {pivot : Int} {cmp : Value} {h : Hp} {K : Value → Hp → Prop} (hk : slices_partitionEqualCmpFunc_2_int_b0 data dataL dataC a b pivot cmp h K) : HCalls Try.prog 68 #[.slice data dataL dataC, .int .i64 a, .int .i64 b, .int .i64 pivot, cmp] h K :=
  calls_of_snd slices_partitionEqualCmpFunc_2_int_an Try.func68 (c := bodyOf Try.f68) rfl Try.ntmps68 (Nat.le_of_ble_eq_true rfl) (snd_5 F_ok F_mixed) hk

end Go.Proofs.Ytfkimbdjgadelaa
