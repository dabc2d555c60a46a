/- Plain statements of what each block of code of this seat asks; printed by a program, checked by Lean. -/
import Derived.Test.YtipmcfpjdebpdaaSxV0
set_option maxRecDepth 10000
namespace Go.Proofs.Ytipmcfpjdebpdaa
open Go Go.Sx

/-! ### l30_SuffixindexSorts -/
/-! ### l30_SuffixindexOrder -/
/-! ### l30_SuffixindexLongest -/
/-! ### l30_SuffixindexCounts -/
def l30_SuffixindexCounts_an : Ann := .node none (.leaf) (.node none (.leaf) (.node (some [0, 1]) (.leaf) (.node none (.leaf) (.node (some [0, 1, 5]) (.leaf) (.node none (.leaf) (.node none (.leaf) (.node (some [0, 1, 5, 7, 9]) (.leaf) (.node (some [0, 1, 5, 7]) (.node none (.leaf) (.loop [0, 1, 5, 7, 9, 64, 65] [(66, .int .i64)] (.node none (.leaf) (.node none (.leaf) (.node (some [0, 1, 5, 7, 9, 64, 65, 66]) (.node none (.leaf) (.node (some [0, 1, 5, 7, 9, 12, 64, 65, 66]) (.leaf) (.leaf))) (.leaf)))))) (.node none (.leaf) (.node (some [1, 5, 7, 15]) (.leaf) (.node (some [7, 15]) (.node none (.leaf) (.loop [1, 5, 7] [(15, .int .i64), (107, .int .i64)] (.node none (.leaf) (.node none (.leaf) (.node (some [1, 5, 7, 15, 107]) (.node none (.leaf) (.node none (.leaf) (.node (some [1, 5, 7, 15, 17, 107]) (.leaf) (.leaf)))) (.leaf)))))) (.leaf))))))))))))
def l30_SuffixindexCounts_K0  (K : Value → Hp → Prop) : Exit → Env → Hp → Prop := retK Try.prog Try.f6.results.toList K
def l30_SuffixindexCounts_K1  (K : Value → Hp → Prop) : Exit → Env → Hp → Prop := thenE (fun env h => sx_4 Try.prog F 134 (cp [1, 1, 1, 1, 1, 1, 1, 1, 1] (bodyOf Try.f6)) (ap [1, 1, 1, 1, 1, 1, 1, 1, 1] l30_SuffixindexCounts_an) (rs [0, 1, 5, 7] env) h (l30_SuffixindexCounts_K0  K)) (l30_SuffixindexCounts_K0  K)
def l30_SuffixindexCounts_K2  (K : Value → Hp → Prop) : Exit → Env → Hp → Prop := blockE 0 (l30_SuffixindexCounts_K1  K)
def l30_SuffixindexCounts_K3 (nx0 : Int × Unit → Hp → Prop) (K : Value → Hp → Prop) : Exit → Env → Hp → Prop := thenE (fun env h => getV [(66, .int .i64)] env fun s => nx0 s h) (l30_SuffixindexCounts_K2  K)
def l30_SuffixindexCounts_K4 (nx0 : Int × Unit → Hp → Prop) (K : Value → Hp → Prop) : Exit → Env → Hp → Prop := thenE (fun env h => sx_3 Try.prog F 134 (cp [1, 1, 1, 1, 1, 1, 1, 1, 0, 1, 2, 2, 1, 1, 1] (bodyOf Try.f6)) (ap [1, 1, 1, 1, 1, 1, 1, 1, 0, 1, 2, 1, 1, 1] l30_SuffixindexCounts_an) (rs [0, 1, 5, 7, 9, 64, 65, 66] env) h (l30_SuffixindexCounts_K3 nx0 K)) (l30_SuffixindexCounts_K3 nx0 K)
def l30_SuffixindexCounts_K5 (nx0 : Int × Unit → Hp → Prop) (K : Value → Hp → Prop) : Exit → Env → Hp → Prop := blockE 1 (l30_SuffixindexCounts_K4 nx0 K)
def l30_SuffixindexCounts_K6  (K : Value → Hp → Prop) : Exit → Env → Hp → Prop := thenE (fun env h => sx_2 Try.prog F 134 (cp [1, 1, 1, 1, 1, 1, 1, 1, 1, 1, 1, 1] (bodyOf Try.f6)) (ap [1, 1, 1, 1, 1, 1, 1, 1, 1, 1, 1, 1] l30_SuffixindexCounts_an) (rs [7, 15] env) h (l30_SuffixindexCounts_K0  K)) (l30_SuffixindexCounts_K0  K)
def l30_SuffixindexCounts_K7  (K : Value → Hp → Prop) : Exit → Env → Hp → Prop := blockE 2 (l30_SuffixindexCounts_K6  K)
def l30_SuffixindexCounts_K8 (nx0 : Int × Int × Unit → Hp → Prop) (K : Value → Hp → Prop) : Exit → Env → Hp → Prop := thenE (fun env h => getV [(15, .int .i64), (107, .int .i64)] env fun s => nx0 s h) (l30_SuffixindexCounts_K7  K)
def l30_SuffixindexCounts_K9 (nx0 : Int × Int × Unit → Hp → Prop) (K : Value → Hp → Prop) : Exit → Env → Hp → Prop := thenE (fun env h => sx_1 Try.prog F 134 (cp [1, 1, 1, 1, 1, 1, 1, 1, 1, 1, 1, 0, 1, 2, 2, 1, 1, 1] (bodyOf Try.f6)) (ap [1, 1, 1, 1, 1, 1, 1, 1, 1, 1, 1, 0, 1, 2, 1, 1, 1] l30_SuffixindexCounts_an) (rs [1, 5, 7, 15, 107] env) h (l30_SuffixindexCounts_K8 nx0 K)) (l30_SuffixindexCounts_K8 nx0 K)
def l30_SuffixindexCounts_K10 (nx0 : Int × Int × Unit → Hp → Prop) (K : Value → Hp → Prop) : Exit → Env → Hp → Prop := blockE 3 (l30_SuffixindexCounts_K9 nx0 K)
def l30_SuffixindexCounts_b0 (s : ByteArray) (p : ByteArray) (h : Hp)  (K : Value → Hp → Prop) : Prop :=
  sx_8 Try.prog F 134 (cp [] (bodyOf Try.f6)) (ap [] l30_SuffixindexCounts_an) [(0, .string s), (1, .string p)] h (l30_SuffixindexCounts_K0  K)
def l30_SuffixindexCounts_b1 (s : ByteArray) (p : ByteArray) (h : Hp)  (K : Value → Hp → Prop) : Prop :=
  sx_7 Try.prog F 134 (cp [1, 1, 1] (bodyOf Try.f6)) (ap [1, 1, 1] l30_SuffixindexCounts_an) [(0, .string s), (1, .string p)] h (l30_SuffixindexCounts_K0  K)
def l30_SuffixindexCounts_b2 (s : ByteArray) (p : ByteArray) (x : Option Addr) (h : Hp)  (K : Value → Hp → Prop) : Prop :=
  sx_6 Try.prog F 134 (cp [1, 1, 1, 1, 1] (bodyOf Try.f6)) (ap [1, 1, 1, 1, 1] l30_SuffixindexCounts_an) [(0, .string s), (1, .string p), (5, .pointer x)] h (l30_SuffixindexCounts_K0  K)
def l30_SuffixindexCounts_b3 (s : ByteArray) (p : ByteArray) (x : Option Addr) (nv : Int) (l : Option Addr) (lL : Nat) (lC : Nat) (h : Hp)  (K : Value → Hp → Prop) : Prop :=
  sx_5 Try.prog F 134 (cp [1, 1, 1, 1, 1, 1, 1, 1] (bodyOf Try.f6)) (ap [1, 1, 1, 1, 1, 1, 1, 1] l30_SuffixindexCounts_an) [(0, .string s), (1, .string p), (5, .pointer x), (7, .int .i64 nv), (9, .slice l lL lC)] h (l30_SuffixindexCounts_K0  K)
def l30_SuffixindexCounts_b4 (t66 : Int) (s : ByteArray) (p : ByteArray) (x : Option Addr) (nv : Int) (l : Option Addr) (lL : Nat) (lC : Nat) (t64 : Option Addr) (t64L : Nat) (t64C : Nat) (t65 : Int) (h : Hp) (nx0 : Int × Unit → Hp → Prop) (K : Value → Hp → Prop) : Prop :=
  sx_4 Try.prog F 134 (cp [1, 1, 1, 1, 1, 1, 1, 1, 0, 1, 2, 2] (bodyOf Try.f6)) (ap [1, 1, 1, 1, 1, 1, 1, 1, 0, 1, 2] l30_SuffixindexCounts_an) [(66, .int .i64 t66), (0, .string s), (1, .string p), (5, .pointer x), (7, .int .i64 nv), (9, .slice l lL lC), (64, .slice t64 t64L t64C), (65, .int .i64 t65)] h (l30_SuffixindexCounts_K3 nx0 K)
def l30_SuffixindexCounts_b5 (s : ByteArray) (p : ByteArray) (x : Option Addr) (nv : Int) (l : Option Addr) (lL : Nat) (lC : Nat) (atv : Int) (t64 : Option Addr) (t64L : Nat) (t64C : Nat) (t65 : Int) (t66 : Int) (h : Hp) (nx0 : Int × Unit → Hp → Prop) (K : Value → Hp → Prop) : Prop :=
  sx_3 Try.prog F 134 (cp [1, 1, 1, 1, 1, 1, 1, 1, 0, 1, 2, 2, 1, 1, 0, 2, 1, 1] (bodyOf Try.f6)) (ap [1, 1, 1, 1, 1, 1, 1, 1, 0, 1, 2, 1, 1, 0, 1, 1] l30_SuffixindexCounts_an) [(0, .string s), (1, .string p), (5, .pointer x), (7, .int .i64 nv), (9, .slice l lL lC), (12, .int .i64 atv), (64, .slice t64 t64L t64C), (65, .int .i64 t65), (66, .int .i64 t66)] h (l30_SuffixindexCounts_K5 nx0 K)
def l30_SuffixindexCounts_b6 (s : ByteArray) (p : ByteArray) (x : Option Addr) (nv : Int) (h : Hp)  (K : Value → Hp → Prop) : Prop :=
  sx_4 Try.prog F 134 (cp [1, 1, 1, 1, 1, 1, 1, 1, 1] (bodyOf Try.f6)) (ap [1, 1, 1, 1, 1, 1, 1, 1, 1] l30_SuffixindexCounts_an) [(0, .string s), (1, .string p), (5, .pointer x), (7, .int .i64 nv)] h (l30_SuffixindexCounts_K0  K)
def l30_SuffixindexCounts_b7 (s : ByteArray) (p : ByteArray) (x : Option Addr) (nv : Int) (l : Option Addr) (lL : Nat) (lC : Nat) (t64 : Option Addr) (t64L : Nat) (t64C : Nat) (t65 : Int) (t66 : Int) (h : Hp) (nx0 : Int × Unit → Hp → Prop) (K : Value → Hp → Prop) : Prop :=
  sx_3 Try.prog F 134 (cp [1, 1, 1, 1, 1, 1, 1, 1, 0, 1, 2, 2, 1, 1, 1] (bodyOf Try.f6)) (ap [1, 1, 1, 1, 1, 1, 1, 1, 0, 1, 2, 1, 1, 1] l30_SuffixindexCounts_an) [(0, .string s), (1, .string p), (5, .pointer x), (7, .int .i64 nv), (9, .slice l lL lC), (64, .slice t64 t64L t64C), (65, .int .i64 t65), (66, .int .i64 t66)] h (l30_SuffixindexCounts_K3 nx0 K)
def l30_SuffixindexCounts_b8 (p : ByteArray) (x : Option Addr) (nv : Int) (sum : Int) (h : Hp)  (K : Value → Hp → Prop) : Prop :=
  sx_3 Try.prog F 134 (cp [1, 1, 1, 1, 1, 1, 1, 1, 1, 1, 1] (bodyOf Try.f6)) (ap [1, 1, 1, 1, 1, 1, 1, 1, 1, 1, 1] l30_SuffixindexCounts_an) [(1, .string p), (5, .pointer x), (7, .int .i64 nv), (15, .int .i64 sum)] h (l30_SuffixindexCounts_K0  K)
def l30_SuffixindexCounts_b9 (sum : Int) (t107 : Int) (p : ByteArray) (x : Option Addr) (nv : Int) (h : Hp) (nx0 : Int × Int × Unit → Hp → Prop) (K : Value → Hp → Prop) : Prop :=
  sx_2 Try.prog F 134 (cp [1, 1, 1, 1, 1, 1, 1, 1, 1, 1, 1, 0, 1, 2, 2] (bodyOf Try.f6)) (ap [1, 1, 1, 1, 1, 1, 1, 1, 1, 1, 1, 0, 1, 2] l30_SuffixindexCounts_an) [(15, .int .i64 sum), (107, .int .i64 t107), (1, .string p), (5, .pointer x), (7, .int .i64 nv)] h (l30_SuffixindexCounts_K8 nx0 K)
def l30_SuffixindexCounts_b10 (p : ByteArray) (x : Option Addr) (nv : Int) (sum : Int) (k : Int) (t107 : Int) (h : Hp) (nx0 : Int × Int × Unit → Hp → Prop) (K : Value → Hp → Prop) : Prop :=
  sx_1 Try.prog F 134 (cp [1, 1, 1, 1, 1, 1, 1, 1, 1, 1, 1, 0, 1, 2, 2, 1, 1, 0, 2, 1, 1, 1] (bodyOf Try.f6)) (ap [1, 1, 1, 1, 1, 1, 1, 1, 1, 1, 1, 0, 1, 2, 1, 1, 0, 1, 1, 1] l30_SuffixindexCounts_an) [(1, .string p), (5, .pointer x), (7, .int .i64 nv), (15, .int .i64 sum), (17, .int .i64 k), (107, .int .i64 t107)] h (l30_SuffixindexCounts_K10 nx0 K)
def l30_SuffixindexCounts_b11 (nv : Int) (sum : Int) (h : Hp)  (K : Value → Hp → Prop) : Prop :=
  sx_2 Try.prog F 134 (cp [1, 1, 1, 1, 1, 1, 1, 1, 1, 1, 1, 1] (bodyOf Try.f6)) (ap [1, 1, 1, 1, 1, 1, 1, 1, 1, 1, 1, 1] l30_SuffixindexCounts_an) [(7, .int .i64 nv), (15, .int .i64 sum)] h (l30_SuffixindexCounts_K0  K)
def l30_SuffixindexCounts_b12 (p : ByteArray) (x : Option Addr) (nv : Int) (sum : Int) (t107 : Int) (h : Hp) (nx0 : Int × Int × Unit → Hp → Prop) (K : Value → Hp → Prop) : Prop :=
  sx_1 Try.prog F 134 (cp [1, 1, 1, 1, 1, 1, 1, 1, 1, 1, 1, 0, 1, 2, 2, 1, 1, 1] (bodyOf Try.f6)) (ap [1, 1, 1, 1, 1, 1, 1, 1, 1, 1, 1, 0, 1, 2, 1, 1, 1] l30_SuffixindexCounts_an) [(1, .string p), (5, .pointer x), (7, .int .i64 nv), (15, .int .i64 sum), (107, .int .i64 t107)] h (l30_SuffixindexCounts_K8 nx0 K)
theorem l30_SuffixindexCounts_b0_eq (s : ByteArray) (p : ByteArray) (h : Hp)  (K : Value → Hp → Prop) : l30_SuffixindexCounts_b0 s p h  K = (
  HCalls Try.prog 10 #[] h fun v1 h1 => ∃ r1 : Bool, v1 = .bool r1 ∧
  cond (!r1)
  (K (.bool false) h1)
  (cond (decide ((60 : Int) < (s.size : Int)))
  (K (.bool true) h1)
  (cond (decide ((60 : Int) < (p.size : Int)))
  (K (.bool true) h1)
  (l30_SuffixindexCounts_b1 s p h1  K)))) := by kernel_rfl
theorem l30_SuffixindexCounts_b1_eq (s : ByteArray) (p : ByteArray) (h : Hp)  (K : Value → Hp → Prop) : l30_SuffixindexCounts_b1 s p h  K = (
  HCalls Try.prog 19 #[.string s] h fun v2 h2 => ∃ r2 : Option Addr, ∃ r3 : Int, v2 = .tuple #[.pointer r2, .int .i64 r3] ∧
  cond (!decide (r3 = 0))
  (K (.bool false) h2)
  (cond r2.isNone
  (K (.bool false) h2)
  (l30_SuffixindexCounts_b2 s p r2 h2  K))) := by kernel_rfl
theorem l30_SuffixindexCounts_b2_eq (s : ByteArray) (p : ByteArray) (x : Option Addr) (h : Hp)  (K : Value → Hp → Prop) : l30_SuffixindexCounts_b2 s p x h  K = (
  HCalls Try.prog 20 #[.pointer x, .string p] h fun v3 h3 => ∃ r4 : Int, ∃ r5 : Int, v3 = .tuple #[.int .i64 r4, .int .i64 r5] ∧
  HCalls Try.prog 21 #[.pointer x, .string p] h3 fun v4 h4 => ∃ (r6 : Option Addr) (rL1 rC1 : Nat), ∃ r7 : Int, v4 = .tuple #[.slice r6 rL1 rC1, .int .i64 r7] ∧
  cond (!decide (r5 = 0))
  (K (.bool false) h4)
  (cond (!decide (r7 = 0))
  (K (.bool false) h4)
  (cond (!decide ((rL1 : Int) = r4))
  (K (.bool false) h4)
  (l30_SuffixindexCounts_b3 s p x r4 r6 rL1 rC1 h4  K)))) := by kernel_rfl
theorem l30_SuffixindexCounts_b3_eq (s : ByteArray) (p : ByteArray) (x : Option Addr) (nv : Int) (l : Option Addr) (lL : Nat) (lC : Nat) (h : Hp)  (K : Value → Hp → Prop) : l30_SuffixindexCounts_b3 s p x nv l lL lC h  K = (
  LoopVC ((0, ()) : Int × Unit) h (fun (nx0 : Int × Unit → Hp → Prop) (s1 : Int × Unit) h5 => l30_SuffixindexCounts_b4 s1.1 s p x nv l lL lC l lL lC (lL : Int) h5 nx0 K)) := by kernel_rfl
theorem l30_SuffixindexCounts_b4_eq (t66 : Int) (s : ByteArray) (p : ByteArray) (x : Option Addr) (nv : Int) (l : Option Addr) (lL : Nat) (lC : Nat) (t64 : Option Addr) (t64L : Nat) (t64C : Nat) (t65 : Int) (h : Hp) (nx0 : Int × Unit → Hp → Prop) (K : Value → Hp → Prop) : l30_SuffixindexCounts_b4 t66 s p x nv l lL lC t64 t64L t64C t65 h nx0 K = (
  cond (decide (t66 < t65))
  ((0 ≤ t66 ∧ t66 < (t64L : Int)) ∧
  NN t64 fun a1 =>
  ∃ n1 : Int, cell h (a1.add (Int.toNat t66 * 1)) = some (.int .i64 n1) ∧
  cond (decide (n1 < 0))
  (K (.bool false) h)
  (cond (decide ((0 : Int) < t66))
  (InR (t66 - 1) ∧
  (0 ≤ t66 - 1 ∧ t66 - 1 < (lL : Int)) ∧
  NN l fun a2 =>
  ∃ n2 : Int, cell h (a2.add (Int.toNat (t66 - 1) * 1)) = some (.int .i64 n2) ∧
  cond (decide (n1 ≤ n2))
  (K (.bool false) h)
  (l30_SuffixindexCounts_b5 s p x nv l lL lC n1 t64 t64L t64C t65 t66 h nx0 K))
  (l30_SuffixindexCounts_b5 s p x nv l lL lC n1 t64 t64L t64C t65 t66 h nx0 K)))
  (l30_SuffixindexCounts_b6 s p x nv h  K)) := by kernel_rfl
theorem l30_SuffixindexCounts_b5_eq (s : ByteArray) (p : ByteArray) (x : Option Addr) (nv : Int) (l : Option Addr) (lL : Nat) (lC : Nat) (atv : Int) (t64 : Option Addr) (t64L : Nat) (t64C : Nat) (t65 : Int) (t66 : Int) (h : Hp) (nx0 : Int × Unit → Hp → Prop) (K : Value → Hp → Prop) : l30_SuffixindexCounts_b5 s p x nv l lL lC atv t64 t64L t64C t65 t66 h nx0 K = (
  InR (atv + (p.size : Int)) ∧
  HCalls Try.prog 22 #[.pointer x, .int .i64 atv, .int .i64 (atv + (p.size : Int))] h fun v5 h6 => ∃ r8 : ByteArray, ∃ r9 : Int, v5 = .tuple #[.string r8, .int .i64 r9] ∧
  cond (!decide (r9 = 0))
  (K (.bool false) h6)
  (cond (!strEq r8 p)
  (K (.bool false) h6)
  (l30_SuffixindexCounts_b7 s p x nv l lL lC t64 t64L t64C t65 t66 h6 nx0 K))) := by kernel_rfl
theorem l30_SuffixindexCounts_b6_eq (s : ByteArray) (p : ByteArray) (x : Option Addr) (nv : Int) (h : Hp)  (K : Value → Hp → Prop) : l30_SuffixindexCounts_b6 s p x nv h  K = (
  HCalls Try.prog 23 #[.string s, .string p] h fun v6 h7 => ∃ r10 : Bool, v6 = .bool r10 ∧
  cond r10
  (l30_SuffixindexCounts_b8 p x nv 1 h7  K)
  (l30_SuffixindexCounts_b8 p x nv 0 h7  K)) := by kernel_rfl
theorem l30_SuffixindexCounts_b7_eq (s : ByteArray) (p : ByteArray) (x : Option Addr) (nv : Int) (l : Option Addr) (lL : Nat) (lC : Nat) (t64 : Option Addr) (t64L : Nat) (t64C : Nat) (t65 : Int) (t66 : Int) (h : Hp) (nx0 : Int × Unit → Hp → Prop) (K : Value → Hp → Prop) : l30_SuffixindexCounts_b7 s p x nv l lL lC t64 t64L t64C t65 t66 h nx0 K = (
  InR (t66 + 1) ∧
  nx0 (t66 + 1, ()) h) := by kernel_rfl
theorem l30_SuffixindexCounts_b8_eq (p : ByteArray) (x : Option Addr) (nv : Int) (sum : Int) (h : Hp)  (K : Value → Hp → Prop) : l30_SuffixindexCounts_b8 p x nv sum h  K = (
  LoopVC ((sum, 0, ()) : Int × Int × Unit) h (fun (nx0 : Int × Int × Unit → Hp → Prop) (s2 : Int × Int × Unit) h8 => l30_SuffixindexCounts_b9 s2.1 s2.2.1 p x nv h8 nx0 K)) := by kernel_rfl
theorem l30_SuffixindexCounts_b9_eq (sum : Int) (t107 : Int) (p : ByteArray) (x : Option Addr) (nv : Int) (h : Hp) (nx0 : Int × Int × Unit → Hp → Prop) (K : Value → Hp → Prop) : l30_SuffixindexCounts_b9 sum t107 p x nv h nx0 K = (
  cond (decide (t107 < 256))
  (New h (.cells #[.int .u8 (IntKind.u8.wrap t107)] 5) fun b1 h9 =>
  hw Try.prog (convert 42 9 (.slice (some ⟨b1, 0, none⟩) 1 1)) h9 (strK fun s3 h10 =>
  InR (p.size + s3.size) ∧
  HCalls Try.prog 20 #[.pointer x, .string (p ++ s3)] h10 fun v8 h11 => ∃ r11 : Int, ∃ r12 : Int, v8 = .tuple #[.int .i64 r11, .int .i64 r12] ∧
  cond (!decide (r12 = 0))
  (K (.bool false) h11)
  (cond (decide (r11 < 0))
  (K (.bool false) h11)
  (l30_SuffixindexCounts_b10 p x nv sum r11 t107 h11 nx0 K))))
  (l30_SuffixindexCounts_b11 nv sum h  K)) := by kernel_rfl
theorem l30_SuffixindexCounts_b10_eq (p : ByteArray) (x : Option Addr) (nv : Int) (sum : Int) (k : Int) (t107 : Int) (h : Hp) (nx0 : Int × Int × Unit → Hp → Prop) (K : Value → Hp → Prop) : l30_SuffixindexCounts_b10 p x nv sum k t107 h nx0 K = (
  InR (sum + k) ∧
  l30_SuffixindexCounts_b12 p x nv (sum + k) t107 h nx0 K) := by kernel_rfl
theorem l30_SuffixindexCounts_b11_eq (nv : Int) (sum : Int) (h : Hp)  (K : Value → Hp → Prop) : l30_SuffixindexCounts_b11 nv sum h  K = (
  K (.bool (decide (sum = nv))) h) := by kernel_rfl
theorem l30_SuffixindexCounts_b12_eq (p : ByteArray) (x : Option Addr) (nv : Int) (sum : Int) (t107 : Int) (h : Hp) (nx0 : Int × Int × Unit → Hp → Prop) (K : Value → Hp → Prop) : l30_SuffixindexCounts_b12 p x nv sum t107 h nx0 K = (
  InR (t107 + 1) ∧
  nx0 (sum, t107 + 1, ()) h) := by kernel_rfl
theorem l30_SuffixindexCounts_call {s : ByteArray} {p : ByteArray} {h : Hp} {K : Value → Hp → Prop} (hk : l30_SuffixindexCounts_b0 s p h K) : HCalls Try.prog 6 #[.string s, .string p] h K :=
  calls_of_snd l30_SuffixindexCounts_an Try.func6 (c := bodyOf Try.f6) rfl Try.ntmps6 (Nat.le_of_ble_eq_true rfl) (snd_8 F_ok F_mixed) hk

/-! ### l30_SuffixIndexes -/
/-! ### l30_SuffixindexNone -/
/-! ### l30_SuffixindexTransforms -/
/-! ### l30_awake -/
def l30_awake_an : Ann := .leaf
def l30_awake_K0  (K : Value → Hp → Prop) : Exit → Env → Hp → Prop := retK Try.prog Try.f10.results.toList K
def l30_awake_b0  (h : Hp)  (K : Value → Hp → Prop) : Prop :=
  sx_1 Try.prog F 98 (cp [] (bodyOf Try.f10)) (ap [] l30_awake_an) [] h (l30_awake_K0  K)
theorem l30_awake_b0_eq  (h : Hp)  (K : Value → Hp → Prop) : l30_awake_b0  h  K = (
  HCalls Try.prog 12 #[.string (⟨#[98, 97, 110, 97, 110, 97]⟩ : ByteArray)] h fun v1 h1 => ∃ (r1 : Option Addr) (rL1 rC1 : Nat), ∃ r2 : Int, v1 = .tuple #[.slice r1 rL1 rC1, .int .i64 r2] ∧
  HCalls Try.prog 13 #[.string (⟨#[98, 97, 110, 97, 110, 97]⟩ : ByteArray)] h1 fun v2 h2 => ∃ (r3 : Option Addr) (rL2 rC2 : Nat), ∃ r4 : Int, v2 = .tuple #[.slice r3 rL2 rC2, .int .i64 r4] ∧
  HCalls Try.prog 31 #[.string (⟨#[98, 97, 110, 97, 110, 97]⟩ : ByteArray)] h2 fun v3 h3 => ∃ (r5 : Option Addr) (rL3 rC3 : Nat), ∃ r6 : Int, ∃ r7 : Int, v3 = .tuple #[.slice r5 rL3 rC3, .int .i64 r6, .int .i64 r7] ∧
  HCalls Try.prog 18 #[.string (⟨#[98, 97, 110, 97, 110, 97]⟩ : ByteArray)] h3 fun v4 h4 => ∃ r8 : ByteArray, ∃ r9 : Int, ∃ r10 : Int, v4 = .tuple #[.string r8, .int .i64 r9, .int .i64 r10] ∧
  HCalls Try.prog 19 #[.string (⟨#[98, 97, 110, 97, 110, 97]⟩ : ByteArray)] h4 fun v5 h5 => ∃ r11 : Option Addr, ∃ r12 : Int, v5 = .tuple #[.pointer r11, .int .i64 r12] ∧
  cond r11.isNone
  (K (.bool false) h5)
  (HCalls Try.prog 21 #[.pointer r11, .string (⟨#[97, 110, 97]⟩ : ByteArray)] h5 fun v6 h6 => ∃ (r13 : Option Addr) (rL4 rC4 : Nat), ∃ r14 : Int, v6 = .tuple #[.slice r13 rL4 rC4, .int .i64 r14] ∧
  cond (decide (r2 = 0))
  (New h6 (.cells #[.int .i64 5, .int .i64 3, .int .i64 1, .int .i64 0, .int .i64 4, .int .i64 2] 3) fun b1 h7 =>
  HCalls Try.prog 15 #[.slice r1 rL1 rC1, .slice (some ⟨b1, 0, none⟩) 6 6] h7 fun v7 h8 => ∃ r15 : Bool, v7 = .bool r15 ∧
  cond r15
  (cond (decide (r4 = 0))
  (New h8 (.cells #[.int .i64 0, .int .i64 1, .int .i64 3, .int .i64 0, .int .i64 0, .int .i64 2] 3) fun b2 h9 =>
  HCalls Try.prog 15 #[.slice r3 rL2 rC2, .slice (some ⟨b2, 0, none⟩) 6 6] h9 fun v8 h10 => ∃ r16 : Bool, v8 = .bool r16 ∧
  cond r16
  (cond (decide (r7 = 0))
  (cond (decide (r6 = 4))
  (New h10 (.cells #[.int .i64 97, .int .i64 110, .int .i64 110, .int .i64 98, .int .i64 (-1), .int .i64 97, .int .i64 97] 3) fun b3 h11 =>
  HCalls Try.prog 15 #[.slice r5 rL3 rC3, .slice (some ⟨b3, 0, none⟩) 7 7] h11 fun v9 h12 => ∃ r17 : Bool, v9 = .bool r17 ∧
  cond r17
  (cond (decide (r10 = 0))
  (cond (strEq r8 (⟨#[97, 110, 97]⟩ : ByteArray))
  (cond (decide (r9 = 2))
  (cond (decide (r12 = 0))
  (cond (decide (r14 = 0))
  (New h12 (.cells #[.int .i64 1, .int .i64 3] 3) fun b4 h13 =>
  HCalls Try.prog 15 #[.slice r13 rL4 rC4, .slice (some ⟨b4, 0, none⟩) 2 2] h13 fun v10 h14 => ∃ r18 : Bool, v10 = .bool r18 ∧
  K (.bool r18) h14)
  (K (.bool false) h12))
  (K (.bool false) h12))
  (K (.bool false) h12))
  (K (.bool false) h12))
  (K (.bool false) h12))
  (K (.bool false) h12))
  (K (.bool false) h10))
  (K (.bool false) h10))
  (K (.bool false) h10))
  (K (.bool false) h8))
  (K (.bool false) h8))
  (K (.bool false) h6))) := by kernel_rfl
theorem l30_awake_call  {h : Hp} {K : Value → Hp → Prop} (hk : l30_awake_b0  h K) : HCalls Try.prog 10 #[] h K :=
  calls_of_snd l30_awake_an Try.func10 (c := bodyOf Try.f10) rfl Try.ntmps10 (Nat.le_of_ble_eq_true rfl) (snd_1 F_ok F_mixed) hk

/-! ### l30_long -/
/-! ### suffixindex_Suffixes -/
def suffixindex_Suffixes_an : Ann := .leaf
def suffixindex_Suffixes_K0  (K : Value → Hp → Prop) : Exit → Env → Hp → Prop := retK Try.prog Try.f12.results.toList K
def suffixindex_Suffixes_b0 (s : ByteArray) (h : Hp)  (K : Value → Hp → Prop) : Prop :=
  sx_1 Try.prog F 8 (cp [] (bodyOf Try.f12)) (ap [] suffixindex_Suffixes_an) [(0, .string s)] h (suffixindex_Suffixes_K0  K)
theorem suffixindex_Suffixes_b0_eq (s : ByteArray) (h : Hp)  (K : Value → Hp → Prop) : suffixindex_Suffixes_b0 s h  K = (
  HCalls Try.prog 33 #[.string s] h fun v1 h1 => ∃ r1 : Bool, v1 = .bool r1 ∧
  cond r1
  (K (.tuple #[.slice none 0 0, .int .i64 4]) h1)
  (HCalls Try.prog 34 #[.string s] h1 fun v2 h2 => ∃ (r2 : Option Addr) (rL1 rC1 : Nat), v2 = .slice r2 rL1 rC1 ∧
  K (.tuple #[.slice r2 rL1 rC1, .int .i64 0]) h2)) := by kernel_rfl
theorem suffixindex_Suffixes_call {s : ByteArray} {h : Hp} {K : Value → Hp → Prop} (hk : suffixindex_Suffixes_b0 s h K) : HCalls Try.prog 12 #[.string s] h K :=
  calls_of_snd suffixindex_Suffixes_an Try.func12 (c := bodyOf Try.f12) rfl Try.ntmps12 (Nat.le_of_ble_eq_true rfl) (snd_1 F_ok F_mixed) hk

/-! ### suffixindex_Common -/
def suffixindex_Common_an : Ann := .leaf
def suffixindex_Common_K0  (K : Value → Hp → Prop) : Exit → Env → Hp → Prop := retK Try.prog Try.f13.results.toList K
def suffixindex_Common_b0 (s : ByteArray) (h : Hp)  (K : Value → Hp → Prop) : Prop :=
  sx_1 Try.prog F 10 (cp [] (bodyOf Try.f13)) (ap [] suffixindex_Common_an) [(0, .string s)] h (suffixindex_Common_K0  K)
theorem suffixindex_Common_b0_eq (s : ByteArray) (h : Hp)  (K : Value → Hp → Prop) : suffixindex_Common_b0 s h  K = (
  HCalls Try.prog 33 #[.string s] h fun v1 h1 => ∃ r1 : Bool, v1 = .bool r1 ∧
  cond r1
  (K (.tuple #[.slice none 0 0, .int .i64 4]) h1)
  (HCalls Try.prog 34 #[.string s] h1 fun v2 h2 => ∃ (r2 : Option Addr) (rL1 rC1 : Nat), v2 = .slice r2 rL1 rC1 ∧
  HCalls Try.prog 35 #[.string s, .slice r2 rL1 rC1] h2 fun v3 h3 => ∃ (r3 : Option Addr) (rL2 rC2 : Nat), v3 = .slice r3 rL2 rC2 ∧
  K (.tuple #[.slice r3 rL2 rC2, .int .i64 0]) h3)) := by kernel_rfl
theorem suffixindex_Common_call {s : ByteArray} {h : Hp} {K : Value → Hp → Prop} (hk : suffixindex_Common_b0 s h K) : HCalls Try.prog 13 #[.string s] h K :=
  calls_of_snd suffixindex_Common_an Try.func13 (c := bodyOf Try.f13) rfl Try.ntmps13 (Nat.le_of_ble_eq_true rfl) (snd_1 F_ok F_mixed) hk

/-! ### l30_full -/
/-! ### EqI -/
def EqI_an : Ann := .node none (.leaf) (.node none (.leaf) (.node (some []) (.node none (.leaf) (.loop [0, 1, 12] [(13, .int .i64)] (.node none (.leaf) (.node none (.leaf) (.node (some [0, 1, 12, 13]) (.leaf) (.leaf)))))) (.leaf)))
def EqI_K0  (K : Value → Hp → Prop) : Exit → Env → Hp → Prop := retK Try.prog Try.f15.results.toList K
def EqI_K1  (K : Value → Hp → Prop) : Exit → Env → Hp → Prop := thenE (fun env h => sx_2 Try.prog F 26 (cp [1, 1, 1] (bodyOf Try.f15)) (ap [1, 1, 1] EqI_an) (rs [] env) h (EqI_K0  K)) (EqI_K0  K)
def EqI_K2  (K : Value → Hp → Prop) : Exit → Env → Hp → Prop := blockE 0 (EqI_K1  K)
def EqI_K3 (nx0 : Int × Unit → Hp → Prop) (K : Value → Hp → Prop) : Exit → Env → Hp → Prop := thenE (fun env h => getV [(13, .int .i64)] env fun s => nx0 s h) (EqI_K2  K)
def EqI_b0 (s1 : Option Addr) (s1L : Nat) (s1C : Nat) (s2 : Option Addr) (s2L : Nat) (s2C : Nat) (h : Hp)  (K : Value → Hp → Prop) : Prop :=
  sx_3 Try.prog F 26 (cp [] (bodyOf Try.f15)) (ap [] EqI_an) [(0, .slice s1 s1L s1C), (1, .slice s2 s2L s2C)] h (EqI_K0  K)
def EqI_b1 (t13 : Int) (s1 : Option Addr) (s1L : Nat) (s1C : Nat) (s2 : Option Addr) (s2L : Nat) (s2C : Nat) (t12 : Int) (h : Hp) (nx0 : Int × Unit → Hp → Prop) (K : Value → Hp → Prop) : Prop :=
  sx_2 Try.prog F 26 (cp [1, 1, 0, 1, 2, 2] (bodyOf Try.f15)) (ap [1, 1, 0, 1, 2] EqI_an) [(13, .int .i64 t13), (0, .slice s1 s1L s1C), (1, .slice s2 s2L s2C), (12, .int .i64 t12)] h (EqI_K3 nx0 K)
def EqI_b2 (s1 : Option Addr) (s1L : Nat) (s1C : Nat) (s2 : Option Addr) (s2L : Nat) (s2C : Nat) (t12 : Int) (t13 : Int) (h : Hp) (nx0 : Int × Unit → Hp → Prop) (K : Value → Hp → Prop) : Prop :=
  sx_1 Try.prog F 26 (cp [1, 1, 0, 1, 2, 2, 1, 1, 1] (bodyOf Try.f15)) (ap [1, 1, 0, 1, 2, 1, 1, 1] EqI_an) [(0, .slice s1 s1L s1C), (1, .slice s2 s2L s2C), (12, .int .i64 t12), (13, .int .i64 t13)] h (EqI_K3 nx0 K)
def EqI_b3  (h : Hp)  (K : Value → Hp → Prop) : Prop :=
  sx_2 Try.prog F 26 (cp [1, 1, 1] (bodyOf Try.f15)) (ap [1, 1, 1] EqI_an) [] h (EqI_K0  K)
theorem EqI_b0_eq (s1 : Option Addr) (s1L : Nat) (s1C : Nat) (s2 : Option Addr) (s2L : Nat) (s2C : Nat) (h : Hp)  (K : Value → Hp → Prop) : EqI_b0 s1 s1L s1C s2 s2L s2C h  K = (
  cond (!decide ((s1L : Int) = (s2L : Int)))
  (K (.bool false) h)
  (LoopVC ((0, ()) : Int × Unit) h (fun (nx0 : Int × Unit → Hp → Prop) (s3 : Int × Unit) h1 => EqI_b1 s3.1 s1 s1L s1C s2 s2L s2C (s1L : Int) h1 nx0 K))) := by kernel_rfl
theorem EqI_b1_eq (t13 : Int) (s1 : Option Addr) (s1L : Nat) (s1C : Nat) (s2 : Option Addr) (s2L : Nat) (s2C : Nat) (t12 : Int) (h : Hp) (nx0 : Int × Unit → Hp → Prop) (K : Value → Hp → Prop) : EqI_b1 t13 s1 s1L s1C s2 s2L s2C t12 h nx0 K = (
  cond (decide (t13 < t12))
  ((0 ≤ t13 ∧ t13 < (s1L : Int)) ∧
  NN s1 fun a1 =>
  ∃ n1 : Int, cell h (a1.add (Int.toNat t13 * 1)) = some (.int .i64 n1) ∧
  (0 ≤ t13 ∧ t13 < (s2L : Int)) ∧
  NN s2 fun a2 =>
  ∃ n2 : Int, cell h (a2.add (Int.toNat t13 * 1)) = some (.int .i64 n2) ∧
  cond (!decide (n1 = n2))
  (K (.bool false) h)
  (EqI_b2 s1 s1L s1C s2 s2L s2C t12 t13 h nx0 K))
  (EqI_b3  h  K)) := by kernel_rfl
theorem EqI_b2_eq (s1 : Option Addr) (s1L : Nat) (s1C : Nat) (s2 : Option Addr) (s2L : Nat) (s2C : Nat) (t12 : Int) (t13 : Int) (h : Hp) (nx0 : Int × Unit → Hp → Prop) (K : Value → Hp → Prop) : EqI_b2 s1 s1L s1C s2 s2L s2C t12 t13 h nx0 K = (
  InR (t13 + 1) ∧
  nx0 (t13 + 1, ()) h) := by kernel_rfl
theorem EqI_b3_eq  (h : Hp)  (K : Value → Hp → Prop) : EqI_b3  h  K = (
  K (.bool true) h) := by kernel_rfl
theorem EqI_call {s1 : Option Addr} {s1L : Nat} {s1C : Nat} {s2 : Option Addr} {s2L : Nat} {s2C : Nat} {h : Hp} {K : Value → Hp → Prop} (hk : EqI_b0 s1 s1L s1C s2 s2L s2C h K) : HCalls Try.prog 15 #[.slice s1 s1L s1C, .slice s2 s2L s2C] h K :=
  calls_of_snd EqI_an Try.func15 (c := bodyOf Try.f15) rfl Try.ntmps15 (Nat.le_of_ble_eq_true rfl) (snd_3 F_ok F_mixed) hk

/-! ### r30_Suffixes -/
/-! ### r30_Common -/
/-! ### suffixindex_Repeated -/
def suffixindex_Repeated_an : Ann := .node none (.leaf) (.node none (.leaf) (.node none (.leaf) (.node none (.leaf) (.node (some [0, 5, 6]) (.leaf) (.node none (.leaf) (.node none (.leaf) (.node none (.leaf) (.node (some [0, 5, 7, 8, 9]) (.node none (.leaf) (.loop [0, 5, 6, 7, 8] [(9, .int .i64), (10, .int .i64)] (.node (some [0, 5, 6, 7, 8, 9, 10]) (.leaf) (.node (some [0, 5, 6, 7, 8, 9, 10]) (.leaf) (.leaf))))) (.leaf)))))))))
def suffixindex_Repeated_K0  (K : Value → Hp → Prop) : Exit → Env → Hp → Prop := retK Try.prog Try.f18.results.toList K
def suffixindex_Repeated_K1  (K : Value → Hp → Prop) : Exit → Env → Hp → Prop := thenE (fun env h => sx_3 Try.prog F 61 (cp [1, 1, 1, 1, 1, 1, 1, 1, 1] (bodyOf Try.f18)) (ap [1, 1, 1, 1, 1, 1, 1, 1, 1] suffixindex_Repeated_an) (rs [0, 5, 7, 8, 9] env) h (suffixindex_Repeated_K0  K)) (suffixindex_Repeated_K0  K)
def suffixindex_Repeated_K2  (K : Value → Hp → Prop) : Exit → Env → Hp → Prop := blockE 0 (suffixindex_Repeated_K1  K)
def suffixindex_Repeated_K3 (nx0 : Int × Int × Unit → Hp → Prop) (K : Value → Hp → Prop) : Exit → Env → Hp → Prop := thenE (fun env h => getV [(9, .int .i64), (10, .int .i64)] env fun s => nx0 s h) (suffixindex_Repeated_K2  K)
def suffixindex_Repeated_b0 (s : ByteArray) (h : Hp)  (K : Value → Hp → Prop) : Prop :=
  sx_5 Try.prog F 61 (cp [] (bodyOf Try.f18)) (ap [] suffixindex_Repeated_an) [(0, .string s)] h (suffixindex_Repeated_K0  K)
def suffixindex_Repeated_b1 (s : ByteArray) (order : Option Addr) (orderL : Nat) (orderC : Nat) (l : Option Addr) (lL : Nat) (lC : Nat) (h : Hp)  (K : Value → Hp → Prop) : Prop :=
  sx_4 Try.prog F 61 (cp [1, 1, 1, 1, 1] (bodyOf Try.f18)) (ap [1, 1, 1, 1, 1] suffixindex_Repeated_an) [(0, .string s), (5, .slice order orderL orderC), (6, .slice l lL lC)] h (suffixindex_Repeated_K0  K)
def suffixindex_Repeated_b2 (nv : Int) (i : Int) (s : ByteArray) (order : Option Addr) (orderL : Nat) (orderC : Nat) (l : Option Addr) (lL : Nat) (lC : Nat) (k : Int) (atv : Int) (h : Hp) (nx0 : Int × Int × Unit → Hp → Prop) (K : Value → Hp → Prop) : Prop :=
  sx_3 Try.prog F 61 (cp [1, 1, 1, 1, 1, 1, 1, 1, 0, 1, 2, 2] (bodyOf Try.f18)) (ap [1, 1, 1, 1, 1, 1, 1, 1, 0, 1, 2] suffixindex_Repeated_an) [(9, .int .i64 nv), (10, .int .i64 i), (0, .string s), (5, .slice order orderL orderC), (6, .slice l lL lC), (7, .int .i64 k), (8, .int .i64 atv)] h (suffixindex_Repeated_K3 nx0 K)
def suffixindex_Repeated_b3 (s : ByteArray) (order : Option Addr) (orderL : Nat) (orderC : Nat) (l : Option Addr) (lL : Nat) (lC : Nat) (k : Int) (atv : Int) (nv : Int) (i : Int) (h : Hp) (nx0 : Int × Int × Unit → Hp → Prop) (K : Value → Hp → Prop) : Prop :=
  sx_2 Try.prog F 61 (cp [1, 1, 1, 1, 1, 1, 1, 1, 0, 1, 2, 2, 1] (bodyOf Try.f18)) (ap [1, 1, 1, 1, 1, 1, 1, 1, 0, 1, 2, 1] suffixindex_Repeated_an) [(0, .string s), (5, .slice order orderL orderC), (6, .slice l lL lC), (7, .int .i64 k), (8, .int .i64 atv), (9, .int .i64 nv), (10, .int .i64 i)] h (suffixindex_Repeated_K3 nx0 K)
def suffixindex_Repeated_b4 (s : ByteArray) (order : Option Addr) (orderL : Nat) (orderC : Nat) (k : Int) (atv : Int) (nv : Int) (h : Hp)  (K : Value → Hp → Prop) : Prop :=
  sx_3 Try.prog F 61 (cp [1, 1, 1, 1, 1, 1, 1, 1, 1] (bodyOf Try.f18)) (ap [1, 1, 1, 1, 1, 1, 1, 1, 1] suffixindex_Repeated_an) [(0, .string s), (5, .slice order orderL orderC), (7, .int .i64 k), (8, .int .i64 atv), (9, .int .i64 nv)] h (suffixindex_Repeated_K0  K)
def suffixindex_Repeated_b5 (s : ByteArray) (order : Option Addr) (orderL : Nat) (orderC : Nat) (l : Option Addr) (lL : Nat) (lC : Nat) (k : Int) (atv : Int) (nv : Int) (i : Int) (h : Hp) (nx0 : Int × Int × Unit → Hp → Prop) (K : Value → Hp → Prop) : Prop :=
  sx_1 Try.prog F 61 (cp [1, 1, 1, 1, 1, 1, 1, 1, 0, 1, 2, 2, 1, 1] (bodyOf Try.f18)) (ap [1, 1, 1, 1, 1, 1, 1, 1, 0, 1, 2, 1, 1] suffixindex_Repeated_an) [(0, .string s), (5, .slice order orderL orderC), (6, .slice l lL lC), (7, .int .i64 k), (8, .int .i64 atv), (9, .int .i64 nv), (10, .int .i64 i)] h (suffixindex_Repeated_K3 nx0 K)
theorem suffixindex_Repeated_b0_eq (s : ByteArray) (h : Hp)  (K : Value → Hp → Prop) : suffixindex_Repeated_b0 s h  K = (
  HCalls Try.prog 33 #[.string s] h fun v1 h1 => ∃ r1 : Bool, v1 = .bool r1 ∧
  cond r1
  (K (.tuple #[.string (⟨#[]⟩ : ByteArray), .int .i64 0, .int .i64 4]) h1)
  (HCalls Try.prog 34 #[.string s] h1 fun v2 h2 => ∃ (r2 : Option Addr) (rL1 rC1 : Nat), v2 = .slice r2 rL1 rC1 ∧
  HCalls Try.prog 35 #[.string s, .slice r2 rL1 rC1] h2 fun v3 h3 => ∃ (r3 : Option Addr) (rL2 rC2 : Nat), v3 = .slice r3 rL2 rC2 ∧
  cond (decide ((rL2 : Int) = 0))
  (K (.tuple #[.string (⟨#[]⟩ : ByteArray), .int .i64 0, .int .i64 12]) h3)
  (HCalls Try.prog 37 #[.slice r3 rL2 rC2] h3 fun v4 h4 => ∃ r4 : Int, v4 = .int .i64 r4 ∧
  cond (decide (r4 = 0))
  (K (.tuple #[.string (⟨#[]⟩ : ByteArray), .int .i64 0, .int .i64 12]) h4)
  (suffixindex_Repeated_b1 s r2 rL1 rC1 r3 rL2 rC2 h4  K)))) := by kernel_rfl
theorem suffixindex_Repeated_b1_eq (s : ByteArray) (order : Option Addr) (orderL : Nat) (orderC : Nat) (l : Option Addr) (lL : Nat) (lC : Nat) (h : Hp)  (K : Value → Hp → Prop) : suffixindex_Repeated_b1 s order orderL orderC l lL lC h  K = (
  HCalls Try.prog 37 #[.slice l lL lC] h fun v5 h5 => ∃ r5 : Int, v5 = .int .i64 r5 ∧
  HCalls Try.prog 38 #[.slice l lL lC, .int .i64 r5] h5 fun v6 h6 => ∃ r6 : Int, v6 = .int .i64 r6 ∧
  LoopVC ((1, r6, ()) : Int × Int × Unit) h6 (fun (nx0 : Int × Int × Unit → Hp → Prop) (s1 : Int × Int × Unit) h7 => suffixindex_Repeated_b2 s1.1 s1.2.1 s order orderL orderC l lL lC r5 r6 h7 nx0 K)) := by kernel_rfl
theorem suffixindex_Repeated_b2_eq (nv : Int) (i : Int) (s : ByteArray) (order : Option Addr) (orderL : Nat) (orderC : Nat) (l : Option Addr) (lL : Nat) (lC : Nat) (k : Int) (atv : Int) (h : Hp) (nx0 : Int × Int × Unit → Hp → Prop) (K : Value → Hp → Prop) : suffixindex_Repeated_b2 nv i s order orderL orderC l lL lC k atv h nx0 K = (
  cond (decide (i < (lL : Int)))
  ((0 ≤ i ∧ i < (lL : Int)) ∧
  NN l fun a1 =>
  ∃ n1 : Int, cell h (a1.add (Int.toNat i * 1)) = some (.int .i64 n1) ∧
  cond (decide (k ≤ n1))
  (suffixindex_Repeated_b3 s order orderL orderC l lL lC k atv nv i h nx0 K)
  (suffixindex_Repeated_b4 s order orderL orderC k atv nv h  K))
  (suffixindex_Repeated_b4 s order orderL orderC k atv nv h  K)) := by kernel_rfl
theorem suffixindex_Repeated_b3_eq (s : ByteArray) (order : Option Addr) (orderL : Nat) (orderC : Nat) (l : Option Addr) (lL : Nat) (lC : Nat) (k : Int) (atv : Int) (nv : Int) (i : Int) (h : Hp) (nx0 : Int × Int × Unit → Hp → Prop) (K : Value → Hp → Prop) : suffixindex_Repeated_b3 s order orderL orderC l lL lC k atv nv i h nx0 K = (
  InR (nv + 1) ∧
  suffixindex_Repeated_b5 s order orderL orderC l lL lC k atv (nv + 1) i h nx0 K) := by kernel_rfl
theorem suffixindex_Repeated_b4_eq (s : ByteArray) (order : Option Addr) (orderL : Nat) (orderC : Nat) (k : Int) (atv : Int) (nv : Int) (h : Hp)  (K : Value → Hp → Prop) : suffixindex_Repeated_b4 s order orderL orderC k atv nv h  K = (
  (0 ≤ atv ∧ atv < (orderL : Int)) ∧
  NN order fun a2 =>
  ∃ n2 : Int, cell h (a2.add (Int.toNat atv * 1)) = some (.int .i64 n2) ∧
  (0 ≤ atv ∧ atv < (orderL : Int)) ∧
  NN order fun a3 =>
  ∃ n3 : Int, cell h (a3.add (Int.toNat atv * 1)) = some (.int .i64 n3) ∧
  InR (n3 + k) ∧
  (0 ≤ n2 ∧ n2 ≤ n3 + k ∧ n3 + k ≤ (s.size : Int)) ∧
  K (.tuple #[.string (s.extract (Int.toNat n2) (Int.toNat (n3 + k))), .int .i64 nv, .int .i64 0]) h) := by kernel_rfl
theorem suffixindex_Repeated_b5_eq (s : ByteArray) (order : Option Addr) (orderL : Nat) (orderC : Nat) (l : Option Addr) (lL : Nat) (lC : Nat) (k : Int) (atv : Int) (nv : Int) (i : Int) (h : Hp) (nx0 : Int × Int × Unit → Hp → Prop) (K : Value → Hp → Prop) : suffixindex_Repeated_b5 s order orderL orderC l lL lC k atv nv i h nx0 K = (
  InR (i + 1) ∧
  nx0 (nv, i + 1, ()) h) := by kernel_rfl
theorem suffixindex_Repeated_call {s : ByteArray} {h : Hp} {K : Value → Hp → Prop} (hk : suffixindex_Repeated_b0 s h K) : HCalls Try.prog 18 #[.string s] h K :=
  calls_of_snd suffixindex_Repeated_an Try.func18 (c := bodyOf Try.f18) rfl Try.ntmps18 (Nat.le_of_ble_eq_true rfl) (snd_5 F_ok F_mixed) hk

/-! ### suffixindex_Make -/
def suffixindex_Make_an : Ann := .leaf
def suffixindex_Make_K0  (K : Value → Hp → Prop) : Exit → Env → Hp → Prop := retK Try.prog Try.f19.results.toList K
def suffixindex_Make_b0 (s : ByteArray) (h : Hp)  (K : Value → Hp → Prop) : Prop :=
  sx_1 Try.prog F 44 (cp [] (bodyOf Try.f19)) (ap [] suffixindex_Make_an) [(0, .string s)] h (suffixindex_Make_K0  K)
theorem suffixindex_Make_b0_eq (s : ByteArray) (h : Hp)  (K : Value → Hp → Prop) : suffixindex_Make_b0 s h  K = (
  HCalls Try.prog 33 #[.string s] h fun v1 h1 => ∃ r1 : Bool, v1 = .bool r1 ∧
  cond r1
  (K (.tuple #[.pointer none, .int .i64 4]) h1)
  (HCalls Try.prog 34 #[.string s] h1 fun v2 h2 => ∃ (r2 : Option Addr) (rL1 rC1 : Nat), v2 = .slice r2 rL1 rC1 ∧
  HCalls Try.prog 39 #[.string s, .slice r2 rL1 rC1] h2 fun v3 h3 => ∃ (r3 : Option Addr) (rL2 rC2 : Nat), ∃ r4 : Int, v3 = .tuple #[.slice r3 rL2 rC2, .int .i64 r4] ∧
  HCalls Try.prog 28 #[.slice r3 rL2 rC2] h3 fun v4 h4 => ∃ (r5 : Option Addr) (rL3 rC3 : Nat), v4 = .slice r5 rL3 rC3 ∧
  InR (r4 + 1) ∧
  HCalls Try.prog 41 #[.slice r5 rL3 rC3, .int .i64 r4, .int .i64 (r4 + 1)] h4 fun v5 h5 => ∃ (r6 : Option Addr) (rL4 rC4 : Nat), v5 = .slice r6 rL4 rC4 ∧
  HCalls Try.prog 40 #[.slice r6 rL4 rC4, .int .i64 256] h5 fun v6 h6 => ∃ r7 : Option Addr, ∃ r8 : Int, v6 = .tuple #[.pointer r7, .int .i64 r8] ∧
  cond (!decide (r8 = 0))
  (K (.tuple #[.pointer none, .int .i64 r8]) h6)
  (New h6 (.cells #[.int .i64 (s.size : Int)] 3) fun b1 h7 =>
  appendV Try.prog 24 24 (.slice (some ⟨b1, 0, none⟩) 1 1) (.slice r2 rL1 rC1) h7 (slK fun a1 l1 c1 h8 =>
  HCalls Try.prog 42 #[.slice r3 rL2 rC2] h8 fun v7 h9 => ∃ cs1 : List Value, v7 = .agg cs1.toArray ∧
  cs1.length = 257 ∧
  New h9 (.cells ((setB ((((aggCells (zeroOf Try.prog 68)).set 0 (.string s)).set 1 (.slice a1 l1 c1)).set 2 (.int .i64 r4)) 3 cs1).set 260 (.pointer r7)).toArray 68) fun b2 h10 =>
  K (.tuple #[.pointer (some ⟨b2, 0, none⟩), .int .i64 0]) h10)))) := by kernel_rfl
theorem suffixindex_Make_call {s : ByteArray} {h : Hp} {K : Value → Hp → Prop} (hk : suffixindex_Make_b0 s h K) : HCalls Try.prog 19 #[.string s] h K :=
  calls_of_snd suffixindex_Make_an Try.func19 (c := bodyOf Try.f19) rfl Try.ntmps19 (Nat.le_of_ble_eq_true rfl) (snd_1 F_ok F_mixed) hk

/-! ### suffixindex_Index_Count -/
def suffixindex_Index_Count_an : Ann := .leaf
def suffixindex_Index_Count_K0  (K : Value → Hp → Prop) : Exit → Env → Hp → Prop := retK Try.prog Try.f20.results.toList K
def suffixindex_Index_Count_b0 (x : Option Addr) (p : ByteArray) (h : Hp)  (K : Value → Hp → Prop) : Prop :=
  sx_1 Try.prog F 17 (cp [] (bodyOf Try.f20)) (ap [] suffixindex_Index_Count_an) [(0, .pointer x), (1, .string p)] h (suffixindex_Index_Count_K0  K)
theorem suffixindex_Index_Count_b0_eq (x : Option Addr) (p : ByteArray) (h : Hp)  (K : Value → Hp → Prop) : suffixindex_Index_Count_b0 x p h  K = (
  HCalls Try.prog 21 #[.pointer x, .string p] h fun v1 h1 => ∃ (r1 : Option Addr) (rL1 rC1 : Nat), ∃ r2 : Int, v1 = .tuple #[.slice r1 rL1 rC1, .int .i64 r2] ∧
  K (.tuple #[.int .i64 (rL1 : Int), .int .i64 r2]) h1) := by kernel_rfl
theorem suffixindex_Index_Count_call {x : Option Addr} {p : ByteArray} {h : Hp} {K : Value → Hp → Prop} (hk : suffixindex_Index_Count_b0 x p h K) : HCalls Try.prog 20 #[.pointer x, .string p] h K :=
  calls_of_snd suffixindex_Index_Count_an Try.func20 (c := bodyOf Try.f20) rfl Try.ntmps20 (Nat.le_of_ble_eq_true rfl) (snd_1 F_ok F_mixed) hk

/-! ### suffixindex_Index_Locate -/
def suffixindex_Index_Locate_an : Ann := .node none (.leaf) (.node (some [0, 1]) (.leaf) (.leaf))
def suffixindex_Index_Locate_K0  (K : Value → Hp → Prop) : Exit → Env → Hp → Prop := retK Try.prog Try.f21.results.toList K
def suffixindex_Index_Locate_b0 (x : Option Addr) (p : ByteArray) (h : Hp)  (K : Value → Hp → Prop) : Prop :=
  sx_2 Try.prog F 35 (cp [] (bodyOf Try.f21)) (ap [] suffixindex_Index_Locate_an) [(0, .pointer x), (1, .string p)] h (suffixindex_Index_Locate_K0  K)
def suffixindex_Index_Locate_b1 (x : Option Addr) (p : ByteArray) (h : Hp)  (K : Value → Hp → Prop) : Prop :=
  sx_1 Try.prog F 35 (cp [1, 1] (bodyOf Try.f21)) (ap [1, 1] suffixindex_Index_Locate_an) [(0, .pointer x), (1, .string p)] h (suffixindex_Index_Locate_K0  K)
theorem suffixindex_Index_Locate_b0_eq (x : Option Addr) (p : ByteArray) (h : Hp)  (K : Value → Hp → Prop) : suffixindex_Index_Locate_b0 x p h  K = (
  cond x.isNone
  (K (.tuple #[.slice none 0 0, .int .i64 1]) h)
  (HCalls Try.prog 33 #[.string p] h fun v1 h1 => ∃ r1 : Bool, v1 = .bool r1 ∧
  cond r1
  (K (.tuple #[.slice none 0 0, .int .i64 4]) h1)
  (suffixindex_Index_Locate_b1 x p h1  K))) := by kernel_rfl
theorem suffixindex_Index_Locate_b1_eq (x : Option Addr) (p : ByteArray) (h : Hp)  (K : Value → Hp → Prop) : suffixindex_Index_Locate_b1 x p h  K = (
  HCalls Try.prog 43 #[.pointer x, .string p] h fun v2 h2 => ∃ r2 : Int, ∃ r3 : Int, v2 = .tuple #[.int .i64 r2, .int .i64 r3] ∧
  cond (decide (r3 ≤ r2))
  (K (.tuple #[.slice none 0 0, .int .i64 0]) h2)
  (NN x fun a1 =>
  ∃ (a2 : Option Addr) (L1 C1 : Nat), cell h2 (a1.add 1) = some (.slice a2 L1 C1) ∧
  (0 ≤ r2 ∧ r2 ≤ r3 ∧ r3 ≤ (C1 : Int)) ∧
  HCalls Try.prog 28 #[.slice (subAddr a2 C1 (Int.toNat r2) 1) (Int.toNat r3 - Int.toNat r2) (C1 - Int.toNat r2)] h2 fun v3 h3 => ∃ (r4 : Option Addr) (rL1 rC1 : Nat), v3 = .slice r4 rL1 rC1 ∧
  HCalls Try.prog 44 #[.slice r4 rL1 rC1] h3 fun v4 h4 => v4 = .tuple #[] ∧
  K (.tuple #[.slice r4 rL1 rC1, .int .i64 0]) h4)) := by kernel_rfl
theorem suffixindex_Index_Locate_call {x : Option Addr} {p : ByteArray} {h : Hp} {K : Value → Hp → Prop} (hk : suffixindex_Index_Locate_b0 x p h K) : HCalls Try.prog 21 #[.pointer x, .string p] h K :=
  calls_of_snd suffixindex_Index_Locate_an Try.func21 (c := bodyOf Try.f21) rfl Try.ntmps21 (Nat.le_of_ble_eq_true rfl) (snd_2 F_ok F_mixed) hk

/-! ### suffixindex_Index_Extract -/
def suffixindex_Index_Extract_an : Ann := .node none (.leaf) (.node (some [0, 1, 2]) (.leaf) (.leaf))
def suffixindex_Index_Extract_K0  (K : Value → Hp → Prop) : Exit → Env → Hp → Prop := retK Try.prog Try.f22.results.toList K
def suffixindex_Index_Extract_b0 (x : Option Addr) (fromv : Int) (to : Int) (h : Hp)  (K : Value → Hp → Prop) : Prop :=
  sx_2 Try.prog F 35 (cp [] (bodyOf Try.f22)) (ap [] suffixindex_Index_Extract_an) [(0, .pointer x), (1, .int .i64 fromv), (2, .int .i64 to)] h (suffixindex_Index_Extract_K0  K)
def suffixindex_Index_Extract_b1 (x : Option Addr) (fromv : Int) (to : Int) (h : Hp)  (K : Value → Hp → Prop) : Prop :=
  sx_1 Try.prog F 35 (cp [1, 1] (bodyOf Try.f22)) (ap [1, 1] suffixindex_Index_Extract_an) [(0, .pointer x), (1, .int .i64 fromv), (2, .int .i64 to)] h (suffixindex_Index_Extract_K0  K)
theorem suffixindex_Index_Extract_b0_eq (x : Option Addr) (fromv : Int) (to : Int) (h : Hp)  (K : Value → Hp → Prop) : suffixindex_Index_Extract_b0 x fromv to h  K = (
  cond x.isNone
  (K (.tuple #[.string (⟨#[]⟩ : ByteArray), .int .i64 1]) h)
  (cond (decide (fromv < 0))
  (K (.tuple #[.string (⟨#[]⟩ : ByteArray), .int .i64 2]) h)
  (cond (decide (to < fromv))
  (K (.tuple #[.string (⟨#[]⟩ : ByteArray), .int .i64 2]) h)
  (NN x fun a1 =>
  ∃ s1 : ByteArray, cell h a1 = some (.string s1) ∧
  cond (decide ((s1.size : Int) < to))
  (K (.tuple #[.string (⟨#[]⟩ : ByteArray), .int .i64 2]) h)
  (suffixindex_Index_Extract_b1 x fromv to h  K))))) := by kernel_rfl
theorem suffixindex_Index_Extract_b1_eq (x : Option Addr) (fromv : Int) (to : Int) (h : Hp)  (K : Value → Hp → Prop) : suffixindex_Index_Extract_b1 x fromv to h  K = (
  NN x fun a2 =>
  ∃ s2 : ByteArray, cell h a2 = some (.string s2) ∧
  (0 ≤ fromv ∧ fromv ≤ to ∧ to ≤ (s2.size : Int)) ∧
  K (.tuple #[.string (s2.extract (Int.toNat fromv) (Int.toNat to)), .int .i64 0]) h) := by kernel_rfl
theorem suffixindex_Index_Extract_call {x : Option Addr} {fromv : Int} {to : Int} {h : Hp} {K : Value → Hp → Prop} (hk : suffixindex_Index_Extract_b0 x fromv to h K) : HCalls Try.prog 22 #[.pointer x, .int .i64 fromv, .int .i64 to] h K :=
  calls_of_snd suffixindex_Index_Extract_an Try.func22 (c := bodyOf Try.f22) rfl Try.ntmps22 (Nat.le_of_ble_eq_true rfl) (snd_2 F_ok F_mixed) hk

/-! ### strings_HasSuffix -/
def strings_HasSuffix_an : Ann := .leaf
def strings_HasSuffix_K0  (K : Value → Hp → Prop) : Exit → Env → Hp → Prop := retK Try.prog Try.f23.results.toList K
def strings_HasSuffix_b0 (s : ByteArray) (suffix : ByteArray) (h : Hp)  (K : Value → Hp → Prop) : Prop :=
  sx_1 Try.prog F 8 (cp [] (bodyOf Try.f23)) (ap [] strings_HasSuffix_an) [(0, .string s), (1, .string suffix)] h (strings_HasSuffix_K0  K)
theorem strings_HasSuffix_b0_eq (s : ByteArray) (suffix : ByteArray) (h : Hp)  (K : Value → Hp → Prop) : strings_HasSuffix_b0 s suffix h  K = (
  HCalls Try.prog 45 #[.string s, .string suffix] h fun v1 h1 => ∃ r1 : Bool, v1 = .bool r1 ∧
  K (.bool r1) h1) := by kernel_rfl
theorem strings_HasSuffix_call {s : ByteArray} {suffix : ByteArray} {h : Hp} {K : Value → Hp → Prop} (hk : strings_HasSuffix_b0 s suffix h K) : HCalls Try.prog 23 #[.string s, .string suffix] h K :=
  calls_of_snd strings_HasSuffix_an Try.func23 (c := bodyOf Try.f23) rfl Try.ntmps23 (Nat.le_of_ble_eq_true rfl) (snd_1 F_ok F_mixed) hk

/-! ### r30_Repeated -/
/-! ### suffixindex_Index_Len -/
/-! ### suffixindex_Index_Space -/
/-! ### r30_Locate -/
/-! ### slices_Clone_Sint_int -/
def slices_Clone_Sint_int_an : Ann := .leaf
def slices_Clone_Sint_int_K0  (K : Value → Hp → Prop) : Exit → Env → Hp → Prop := retK Try.prog Try.f28.results.toList K
def slices_Clone_Sint_int_b0 (s : Option Addr) (sL : Nat) (sC : Nat) (h : Hp)  (K : Value → Hp → Prop) : Prop :=
  sx_1 Try.prog F 8 (cp [] (bodyOf Try.f28)) (ap [] slices_Clone_Sint_int_an) [(0, .slice s sL sC)] h (slices_Clone_Sint_int_K0  K)
theorem slices_Clone_Sint_int_b0_eq (s : Option Addr) (sL : Nat) (sC : Nat) (h : Hp)  (K : Value → Hp → Prop) : slices_Clone_Sint_int_b0 s sL sC h  K = (
  cond (Option.isNone s)
  (K (.slice none 0 0) h)
  (New h (.cells #[] 3) fun b1 h1 =>
  appendV Try.prog 24 24 (.slice (some ⟨b1, 0, none⟩) 0 0) (.slice s sL sC) h1 (slK fun a1 l1 c1 h2 =>
  K (.slice a1 l1 c1) h2))) := by kernel_rfl
theorem slices_Clone_Sint_int_call {s : Option Addr} {sL : Nat} {sC : Nat} {h : Hp} {K : Value → Hp → Prop} (hk : slices_Clone_Sint_int_b0 s sL sC h K) : HCalls Try.prog 28 #[.slice s sL sC] h K :=
  calls_of_snd slices_Clone_Sint_int_an Try.func28 (c := bodyOf Try.f28) rfl Try.ntmps28 (Nat.le_of_ble_eq_true rfl) (snd_1 F_ok F_mixed) hk

/-! ### suffixindex_Inverse -/
end Go.Proofs.Ytipmcfpjdebpdaa
