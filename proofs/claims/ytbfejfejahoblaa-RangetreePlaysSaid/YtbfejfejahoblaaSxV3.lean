/- Plain statements of what each block of code of this seat asks; printed by a program, checked by Lean. -/
import Derived.Test.YtbfejfejahoblaaSxV0
set_option maxRecDepth 10000
namespace Go.Proofs.Ytbfejfejahoblaa
open Go Go.Sx

/-! ### slices_insertionSortOrdered_int -/
/-! ### slices_heapSortOrdered_int -/
/-! ### slices_breakPatternsOrdered_int -/
/-! ### slices_choosePivotOrdered_int -/
/-! ### slices_reverseRangeOrdered_int -/
/-! ### slices_partialInsertionSortOrdered_int -/
/-! ### cmp_Less_int -/
def cmp_Less_int_an : Ann := .leaf
def cmp_Less_int_K0  (K : Value → Hp → Prop) : Exit → Env → Hp → Prop := retK Try.prog Try.f58.results.toList K
def cmp_Less_int_b0 (x : Int) (y : Int) (h : Hp)  (K : Value → Hp → Prop) : Prop :=
  sx_1 Try.prog F 17 (cp [] (bodyOf Try.f58)) (ap [] cmp_Less_int_an) [(0, .int .i64 x), (1, .int .i64 y)] h (cmp_Less_int_K0  K)
theorem cmp_Less_int_b0_eq (x : Int) (y : Int) (h : Hp)  (K : Value → Hp → Prop) : cmp_Less_int_b0 x y h  K = (
  HCalls Try.prog 74 #[.int .i64 x] h fun v1 h1 => ∃ r1 : Bool, v1 = .bool r1 ∧
  cond r1
  (HCalls Try.prog 74 #[.int .i64 y] h1 fun v2 h2 => ∃ r2 : Bool, v2 = .bool r2 ∧
  cond (!r2)
  (K (.bool true) h2)
  (K (.bool (decide (x < y))) h2))
  (K (.bool (decide (x < y))) h1)) := by kernel_rfl
theorem cmp_Less_int_call {x : Int} {y : Int} {h : Hp} {K : Value → Hp → Prop} (hk : cmp_Less_int_b0 x y h K) : HCalls Try.prog 58 #[.int .i64 x, .int .i64 y] h K :=
  calls_of_snd cmp_Less_int_an Try.func58 (c := bodyOf Try.f58) rfl Try.ntmps58 (Nat.le_of_ble_eq_true rfl) (snd_1 F_ok F_mixed) hk

/-! ### slices_partitionEqualOrdered_int -/
/-! ### slices_partitionOrdered_int -/
/-! ### math_bits_Len32 -/
/-! ### math_bits_Len64 -/
def math_bits_Len64_an : Ann := .node none (.leaf) (.node (some [0, 2]) (.leaf) (.node (some [0, 2]) (.leaf) (.node (some [0, 2]) (.leaf) (.leaf))))
def math_bits_Len64_K0  (K : Value → Hp → Prop) : Exit → Env → Hp → Prop := retK Try.prog Try.f62.results.toList K
def math_bits_Len64_b0 (x : Int) (h : Hp)  (K : Value → Hp → Prop) : Prop :=
  sx_4 Try.prog F 25 (cp [] (bodyOf Try.f62)) (ap [] math_bits_Len64_an) [(0, .int .u64 x)] h (math_bits_Len64_K0  K)
def math_bits_Len64_b1 (x : Int) (nv : Int) (h : Hp)  (K : Value → Hp → Prop) : Prop :=
  sx_3 Try.prog F 25 (cp [1, 1] (bodyOf Try.f62)) (ap [1, 1] math_bits_Len64_an) [(0, .int .u64 x), (2, .int .i64 nv)] h (math_bits_Len64_K0  K)
def math_bits_Len64_b2 (x : Int) (nv : Int) (h : Hp)  (K : Value → Hp → Prop) : Prop :=
  sx_2 Try.prog F 25 (cp [1, 1, 1] (bodyOf Try.f62)) (ap [1, 1, 1] math_bits_Len64_an) [(0, .int .u64 x), (2, .int .i64 nv)] h (math_bits_Len64_K0  K)
def math_bits_Len64_b3 (x : Int) (nv : Int) (h : Hp)  (K : Value → Hp → Prop) : Prop :=
  sx_1 Try.prog F 25 (cp [1, 1, 1, 1] (bodyOf Try.f62)) (ap [1, 1, 1, 1] math_bits_Len64_an) [(0, .int .u64 x), (2, .int .i64 nv)] h (math_bits_Len64_K0  K)
theorem math_bits_Len64_b0_eq (x : Int) (h : Hp)  (K : Value → Hp → Prop) : math_bits_Len64_b0 x h  K = (
  cond (decide ((4294967296 : Int) ≤ x))
  (∃ sr1 : Int, Sx.Shr .u64 x 32 sr1 ∧
  math_bits_Len64_b1 sr1 32 h  K)
  (math_bits_Len64_b1 x 0 h  K)) := by kernel_rfl
theorem math_bits_Len64_b1_eq (x : Int) (nv : Int) (h : Hp)  (K : Value → Hp → Prop) : math_bits_Len64_b1 x nv h  K = (
  cond (decide ((65536 : Int) ≤ x))
  (∃ sr2 : Int, Sx.Shr .u64 x 16 sr2 ∧
  InR (nv + 16) ∧
  math_bits_Len64_b2 sr2 (nv + 16) h  K)
  (math_bits_Len64_b2 x nv h  K)) := by kernel_rfl
theorem math_bits_Len64_b2_eq (x : Int) (nv : Int) (h : Hp)  (K : Value → Hp → Prop) : math_bits_Len64_b2 x nv h  K = (
  cond (decide ((256 : Int) ≤ x))
  (∃ sr3 : Int, Sx.Shr .u64 x 8 sr3 ∧
  InR (nv + 8) ∧
  math_bits_Len64_b3 sr3 (nv + 8) h  K)
  (math_bits_Len64_b3 x nv h  K)) := by kernel_rfl
theorem math_bits_Len64_b3_eq (x : Int) (nv : Int) (h : Hp)  (K : Value → Hp → Prop) : math_bits_Len64_b3 x nv h  K = (
  (0 ≤ IntKind.u8.wrap x ∧ IntKind.u8.wrap x < ((⟨#[0, 1, 2, 2, 3, 3, 3, 3, 4, 4, 4, 4, 4, 4, 4, 4, 5, 5, 5, 5, 5, 5, 5, 5, 5, 5, 5, 5, 5, 5, 5, 5, 6, 6, 6, 6, 6, 6, 6, 6, 6, 6, 6, 6, 6, 6, 6, 6, 6, 6, 6, 6, 6, 6, 6, 6, 6, 6, 6, 6, 6, 6, 6, 6, 7, 7, 7, 7, 7, 7, 7, 7, 7, 7, 7, 7, 7, 7, 7, 7, 7, 7, 7, 7, 7, 7, 7, 7, 7, 7, 7, 7, 7, 7, 7, 7, 7, 7, 7, 7, 7, 7, 7, 7, 7, 7, 7, 7, 7, 7, 7, 7, 7, 7, 7, 7, 7, 7, 7, 7, 7, 7, 7, 7, 7, 7, 7, 7, 8, 8, 8, 8, 8, 8, 8, 8, 8, 8, 8, 8, 8, 8, 8, 8, 8, 8, 8, 8, 8, 8, 8, 8, 8, 8, 8, 8, 8, 8, 8, 8, 8, 8, 8, 8, 8, 8, 8, 8, 8, 8, 8, 8, 8, 8, 8, 8, 8, 8, 8, 8, 8, 8, 8, 8, 8, 8, 8, 8, 8, 8, 8, 8, 8, 8, 8, 8, 8, 8, 8, 8, 8, 8, 8, 8, 8, 8, 8, 8, 8, 8, 8, 8, 8, 8, 8, 8, 8, 8, 8, 8, 8, 8, 8, 8, 8, 8, 8, 8, 8, 8, 8, 8, 8, 8, 8, 8, 8, 8, 8, 8, 8, 8, 8, 8, 8, 8, 8, 8, 8, 8, 8, 8, 8, 8, 8, 8]⟩ : ByteArray).size : Int)) ∧
  InR (((⟨#[0, 1, 2, 2, 3, 3, 3, 3, 4, 4, 4, 4, 4, 4, 4, 4, 5, 5, 5, 5, 5, 5, 5, 5, 5, 5, 5, 5, 5, 5, 5, 5, 6, 6, 6, 6, 6, 6, 6, 6, 6, 6, 6, 6, 6, 6, 6, 6, 6, 6, 6, 6, 6, 6, 6, 6, 6, 6, 6, 6, 6, 6, 6, 6, 7, 7, 7, 7, 7, 7, 7, 7, 7, 7, 7, 7, 7, 7, 7, 7, 7, 7, 7, 7, 7, 7, 7, 7, 7, 7, 7, 7, 7, 7, 7, 7, 7, 7, 7, 7, 7, 7, 7, 7, 7, 7, 7, 7, 7, 7, 7, 7, 7, 7, 7, 7, 7, 7, 7, 7, 7, 7, 7, 7, 7, 7, 7, 7, 8, 8, 8, 8, 8, 8, 8, 8, 8, 8, 8, 8, 8, 8, 8, 8, 8, 8, 8, 8, 8, 8, 8, 8, 8, 8, 8, 8, 8, 8, 8, 8, 8, 8, 8, 8, 8, 8, 8, 8, 8, 8, 8, 8, 8, 8, 8, 8, 8, 8, 8, 8, 8, 8, 8, 8, 8, 8, 8, 8, 8, 8, 8, 8, 8, 8, 8, 8, 8, 8, 8, 8, 8, 8, 8, 8, 8, 8, 8, 8, 8, 8, 8, 8, 8, 8, 8, 8, 8, 8, 8, 8, 8, 8, 8, 8, 8, 8, 8, 8, 8, 8, 8, 8, 8, 8, 8, 8, 8, 8, 8, 8, 8, 8, 8, 8, 8, 8, 8, 8, 8, 8, 8, 8, 8, 8, 8, 8]⟩ : ByteArray).data.toList.getD (Int.toNat (IntKind.u8.wrap x)) 0).toNat : Int) ∧
  InR (nv + (((⟨#[0, 1, 2, 2, 3, 3, 3, 3, 4, 4, 4, 4, 4, 4, 4, 4, 5, 5, 5, 5, 5, 5, 5, 5, 5, 5, 5, 5, 5, 5, 5, 5, 6, 6, 6, 6, 6, 6, 6, 6, 6, 6, 6, 6, 6, 6, 6, 6, 6, 6, 6, 6, 6, 6, 6, 6, 6, 6, 6, 6, 6, 6, 6, 6, 7, 7, 7, 7, 7, 7, 7, 7, 7, 7, 7, 7, 7, 7, 7, 7, 7, 7, 7, 7, 7, 7, 7, 7, 7, 7, 7, 7, 7, 7, 7, 7, 7, 7, 7, 7, 7, 7, 7, 7, 7, 7, 7, 7, 7, 7, 7, 7, 7, 7, 7, 7, 7, 7, 7, 7, 7, 7, 7, 7, 7, 7, 7, 7, 8, 8, 8, 8, 8, 8, 8, 8, 8, 8, 8, 8, 8, 8, 8, 8, 8, 8, 8, 8, 8, 8, 8, 8, 8, 8, 8, 8, 8, 8, 8, 8, 8, 8, 8, 8, 8, 8, 8, 8, 8, 8, 8, 8, 8, 8, 8, 8, 8, 8, 8, 8, 8, 8, 8, 8, 8, 8, 8, 8, 8, 8, 8, 8, 8, 8, 8, 8, 8, 8, 8, 8, 8, 8, 8, 8, 8, 8, 8, 8, 8, 8, 8, 8, 8, 8, 8, 8, 8, 8, 8, 8, 8, 8, 8, 8, 8, 8, 8, 8, 8, 8, 8, 8, 8, 8, 8, 8, 8, 8, 8, 8, 8, 8, 8, 8, 8, 8, 8, 8, 8, 8, 8, 8, 8, 8, 8, 8]⟩ : ByteArray).data.toList.getD (Int.toNat (IntKind.u8.wrap x)) 0).toNat : Int)) ∧
  K (.int .i64 (nv + (((⟨#[0, 1, 2, 2, 3, 3, 3, 3, 4, 4, 4, 4, 4, 4, 4, 4, 5, 5, 5, 5, 5, 5, 5, 5, 5, 5, 5, 5, 5, 5, 5, 5, 6, 6, 6, 6, 6, 6, 6, 6, 6, 6, 6, 6, 6, 6, 6, 6, 6, 6, 6, 6, 6, 6, 6, 6, 6, 6, 6, 6, 6, 6, 6, 6, 7, 7, 7, 7, 7, 7, 7, 7, 7, 7, 7, 7, 7, 7, 7, 7, 7, 7, 7, 7, 7, 7, 7, 7, 7, 7, 7, 7, 7, 7, 7, 7, 7, 7, 7, 7, 7, 7, 7, 7, 7, 7, 7, 7, 7, 7, 7, 7, 7, 7, 7, 7, 7, 7, 7, 7, 7, 7, 7, 7, 7, 7, 7, 7, 8, 8, 8, 8, 8, 8, 8, 8, 8, 8, 8, 8, 8, 8, 8, 8, 8, 8, 8, 8, 8, 8, 8, 8, 8, 8, 8, 8, 8, 8, 8, 8, 8, 8, 8, 8, 8, 8, 8, 8, 8, 8, 8, 8, 8, 8, 8, 8, 8, 8, 8, 8, 8, 8, 8, 8, 8, 8, 8, 8, 8, 8, 8, 8, 8, 8, 8, 8, 8, 8, 8, 8, 8, 8, 8, 8, 8, 8, 8, 8, 8, 8, 8, 8, 8, 8, 8, 8, 8, 8, 8, 8, 8, 8, 8, 8, 8, 8, 8, 8, 8, 8, 8, 8, 8, 8, 8, 8, 8, 8, 8, 8, 8, 8, 8, 8, 8, 8, 8, 8, 8, 8, 8, 8, 8, 8, 8, 8]⟩ : ByteArray).data.toList.getD (Int.toNat (IntKind.u8.wrap x)) 0).toNat : Int))) h) := by kernel_rfl
theorem math_bits_Len64_call {x : Int} {h : Hp} {K : Value → Hp → Prop} (hk : math_bits_Len64_b0 x h K) : HCalls Try.prog 62 #[.int .u64 x] h K :=
  calls_of_snd math_bits_Len64_an Try.func62 (c := bodyOf Try.f62) rfl Try.ntmps62 (Nat.le_of_ble_eq_true rfl) (snd_4 F_ok F_mixed) hk

/-! ### slices_Clone_Sapi_Point_api_Point -/
def slices_Clone_Sapi_Point_api_Point_an : Ann := .leaf
def slices_Clone_Sapi_Point_api_Point_K0  (K : Value → Hp → Prop) : Exit → Env → Hp → Prop := retK Try.prog Try.f63.results.toList K
def slices_Clone_Sapi_Point_api_Point_b0 (s : Option Addr) (sL : Nat) (sC : Nat) (h : Hp)  (K : Value → Hp → Prop) : Prop :=
  sx_1 Try.prog F 8 (cp [] (bodyOf Try.f63)) (ap [] slices_Clone_Sapi_Point_api_Point_an) [(0, .slice s sL sC)] h (slices_Clone_Sapi_Point_api_Point_K0  K)
theorem slices_Clone_Sapi_Point_api_Point_b0_eq (s : Option Addr) (sL : Nat) (sC : Nat) (h : Hp)  (K : Value → Hp → Prop) : slices_Clone_Sapi_Point_api_Point_b0 s sL sC h  K = (
  cond (Option.isNone s)
  (K (.slice none 0 0) h)
  (New h (.cells #[] 33) fun b1 h1 =>
  appendV Try.prog 22 22 (.slice (some ⟨b1, 0, none⟩) 0 0) (.slice s sL sC) h1 (slK fun a1 l1 c1 h2 =>
  K (.slice a1 l1 c1) h2))) := by kernel_rfl
theorem slices_Clone_Sapi_Point_api_Point_call {s : Option Addr} {sL : Nat} {sC : Nat} {h : Hp} {K : Value → Hp → Prop} (hk : slices_Clone_Sapi_Point_api_Point_b0 s sL sC h K) : HCalls Try.prog 63 #[.slice s sL sC] h K :=
  calls_of_snd slices_Clone_Sapi_Point_api_Point_an Try.func63 (c := bodyOf Try.f63) rfl Try.ntmps63 (Nat.le_of_ble_eq_true rfl) (snd_1 F_ok F_mixed) hk

/-! ### slices_SortStableFunc_Sapi_Point_api_Point -/
def slices_SortStableFunc_Sapi_Point_api_Point_an : Ann := .leaf
def slices_SortStableFunc_Sapi_Point_api_Point_K0  (K : Value → Hp → Prop) : Exit → Env → Hp → Prop := retK Try.prog Try.f64.results.toList K
def slices_SortStableFunc_Sapi_Point_api_Point_b0 (x : Option Addr) (xL : Nat) (xC : Nat) (cmp : Value) (h : Hp)  (K : Value → Hp → Prop) : Prop :=
  sx_1 Try.prog F 9 (cp [] (bodyOf Try.f64)) (ap [] slices_SortStableFunc_Sapi_Point_api_Point_an) [(0, .slice x xL xC), (1, cmp)] h (slices_SortStableFunc_Sapi_Point_api_Point_K0  K)
theorem slices_SortStableFunc_Sapi_Point_api_Point_b0_eq (x : Option Addr) (xL : Nat) (xC : Nat) (cmp : Value) (h : Hp)  (K : Value → Hp → Prop) : slices_SortStableFunc_Sapi_Point_api_Point_b0 x xL xC cmp h  K = (
  HCalls Try.prog 84 #[.slice x xL xC, .int .i64 (xL : Int), cmp] h fun v1 h1 => v1 = .tuple #[] ∧
  K (.tuple #[]) h1) := by kernel_rfl
theorem slices_SortStableFunc_Sapi_Point_api_Point_call {x : Option Addr} {xL : Nat} {xC : Nat} {cmp : Value} {h : Hp} {K : Value → Hp → Prop} (hk : slices_SortStableFunc_Sapi_Point_api_Point_b0 x xL xC cmp h K) : HCalls Try.prog 64 #[.slice x xL xC, cmp] h K :=
  calls_of_snd slices_SortStableFunc_Sapi_Point_api_Point_an Try.func64 (c := bodyOf Try.f64) rfl Try.ntmps64 (Nat.le_of_ble_eq_true rfl) (snd_1 F_ok F_mixed) hk

/-! ### rangetree_build -/
def rangetree_build_an : Ann := .node none (.leaf) (.node none (.leaf) (.node none (.leaf) (.node none (.leaf) (.node (some [0, 4]) (.node none (.leaf) (.loop [0, 4, 15, 16] [(17, .int .i64)] (.node none (.leaf) (.node none (.leaf) (.node (some [0, 4, 15, 16, 17]) (.node none (.leaf) (.node none (.plan (.qu 0 (.qu 1 (.qu 2 (.qu 3 (.qu 4 (.qu 5 (.qu 6 (.wo 7 (.wo 8 (.qu 9 (.qu 10 (.wo 11 .fin .no))) .no) .no))))))))) (.plan (.qu 0 (.qu 1 (.qu 2 (.qu 3 (.qu 4 (.qu 5 (.qu 6 (.qu 7 (.qu 8 (.qu 9 (.qu 10 (.qu 11 (.qu 12 (.qu 13 (.qu 14 (.qu 15 (.qu 16 (.qu 17 (.qu 18 (.qu 19 (.wo 20 (.wo 21 (.qu 22 (.qu 23 (.wo 24 .fin .no))) .no) .no)))))))))))))))))))))))) (.leaf)))))) (.node (some [4]) (.node none (.leaf) (.node none (.leaf) (.node none (.plan (.qu 0 (.qu 1 (.qu 2 (.qu 3 (.qu 4 (.qu 6 (.qu 7 (.qu 8 (.wo 5 (.wo 9 (.qu 10 (.qu 11 (.wo 12 (.qu 13 (.qu 14 (.wo 15 .fin .no))) .no))) .no) .no)))))))))) (.leaf)))) (.leaf))))))
def rangetree_build_K0  (K : Value → Hp → Prop) : Exit → Env → Hp → Prop := retK Try.prog Try.f65.results.toList K
def rangetree_build_K1  (K : Value → Hp → Prop) : Exit → Env → Hp → Prop := thenE (fun env h => sx_2 Try.prog F 77 (cp [1, 1, 1, 1, 1] (bodyOf Try.f65)) (ap [1, 1, 1, 1, 1] rangetree_build_an) (rs [0, 4] env) h (rangetree_build_K0  K)) (rangetree_build_K0  K)
def rangetree_build_K2  (K : Value → Hp → Prop) : Exit → Env → Hp → Prop := blockE 0 (rangetree_build_K1  K)
def rangetree_build_K3 (nx0 : Int × Unit → Hp → Prop) (K : Value → Hp → Prop) : Exit → Env → Hp → Prop := thenE (fun env h => getV [(17, .int .i64)] env fun s => nx0 s h) (rangetree_build_K2  K)
def rangetree_build_b0 (l : Option Addr) (lL : Nat) (lC : Nat) (h : Hp)  (K : Value → Hp → Prop) : Prop :=
  sx_3 Try.prog F 77 (cp [] (bodyOf Try.f65)) (ap [] rangetree_build_an) [(0, .slice l lL lC)] h (rangetree_build_K0  K)
def rangetree_build_b1 (t17 : Int) (l : Option Addr) (lL : Nat) (lC : Nat) (out : Option Addr) (t15 : Option Addr) (t15L : Nat) (t15C : Nat) (t16 : Int) (h : Hp) (nx0 : Int × Unit → Hp → Prop) (K : Value → Hp → Prop) : Prop :=
  sx_2 Try.prog F 77 (cp [1, 1, 1, 1, 0, 1, 2, 2] (bodyOf Try.f65)) (ap [1, 1, 1, 1, 0, 1, 2] rangetree_build_an) [(17, .int .i64 t17), (0, .slice l lL lC), (4, .pointer out), (15, .slice t15 t15L t15C), (16, .int .i64 t16)] h (rangetree_build_K3 nx0 K)
def rangetree_build_b2 (l : Option Addr) (lL : Nat) (lC : Nat) (out : Option Addr) (t15 : Option Addr) (t15L : Nat) (t15C : Nat) (t16 : Int) (t17 : Int) (h : Hp) (nx0 : Int × Unit → Hp → Prop) (K : Value → Hp → Prop) : Prop :=
  sx_1 Try.prog F 77 (cp [1, 1, 1, 1, 0, 1, 2, 2, 1, 1, 1] (bodyOf Try.f65)) (ap [1, 1, 1, 1, 0, 1, 2, 1, 1, 1] rangetree_build_an) [(0, .slice l lL lC), (4, .pointer out), (15, .slice t15 t15L t15C), (16, .int .i64 t16), (17, .int .i64 t17)] h (rangetree_build_K3 nx0 K)
def rangetree_build_b3 (l : Option Addr) (lL : Nat) (lC : Nat) (out : Option Addr) (h : Hp)  (K : Value → Hp → Prop) : Prop :=
  sx_2 Try.prog F 77 (cp [1, 1, 1, 1, 1] (bodyOf Try.f65)) (ap [1, 1, 1, 1, 1] rangetree_build_an) [(0, .slice l lL lC), (4, .pointer out)] h (rangetree_build_K0  K)
def rangetree_build_b4 (out : Option Addr) (h : Hp)  (K : Value → Hp → Prop) : Prop :=
  sx_1 Try.prog F 77 (cp [1, 1, 1, 1, 1, 1] (bodyOf Try.f65)) (ap [1, 1, 1, 1, 1, 1] rangetree_build_an) [(4, .pointer out)] h (rangetree_build_K0  K)
theorem rangetree_build_b0_eq (l : Option Addr) (lL : Nat) (lC : Nat) (h : Hp)  (K : Value → Hp → Prop) : rangetree_build_b0 l lL lC h  K = (
  HCalls Try.prog 63 #[.slice l lL lC] h fun v1 h1 => ∃ (r1 : Option Addr) (rL1 rC1 : Nat), v1 = .slice r1 rL1 rC1 ∧
  HCalls Try.prog 31 #[.slice r1 rL1 rC1, .func (.func 85) #[] #[]] h1 fun v2 h2 => v2 = .tuple #[] ∧
  New h2 (.cells #[.int .i64 0] 3) fun b1 h3 =>
  New h3 (.cells #[.slice none 0 0, .slice (some ⟨b1, 0, none⟩) 1 1, .pointer none, .pointer none] 126) fun b2 h4 =>
  LoopVC ((0, ()) : Int × Unit) h4 (fun (nx0 : Int × Unit → Hp → Prop) (s1 : Int × Unit) h5 => rangetree_build_b1 s1.1 l lL lC (some ⟨b2, 0, none⟩) r1 rL1 rC1 (rL1 : Int) h5 nx0 K)) := by kernel_rfl
theorem rangetree_build_b1_eq (t17 : Int) (l : Option Addr) (lL : Nat) (lC : Nat) (out : Option Addr) (t15 : Option Addr) (t15L : Nat) (t15C : Nat) (t16 : Int) (h : Hp) (nx0 : Int × Unit → Hp → Prop) (K : Value → Hp → Prop) : rangetree_build_b1 t17 l lL lC out t15 t15L t15C t16 h nx0 K = (
  cond (decide (t17 < t16))
  ((0 ≤ t17 ∧ t17 < (t15L : Int)) ∧
  NN t15 fun a1 =>
  ∃ n1 : Int, ∃ n2 : Int, ∃ n3 : Int, cell h (a1.add (Int.toNat t17 * 3)) = some (.int .i64 n1) ∧
  cell h ((a1.add (Int.toNat t17 * 3)).add 1) = some (.int .i64 n2) ∧
  cell h ((a1.add (Int.toNat t17 * 3)).add 2) = some (.int .i64 n3) ∧
  New h (.cells #[.int .i64 0, .int .i64 0, .int .i64 0] 33) fun b3 h6 =>
  Wr h6 ⟨b3, 0, none⟩ (.int .i64 n1) fun h7 =>
  Wr h7 ((⟨b3, 0, none⟩ : Addr).add 1) (.int .i64 n2) fun h8 =>
  Wr h8 ((⟨b3, 0, none⟩ : Addr).add 2) (.int .i64 n3) fun h9 =>
  NN out fun a2 =>
  ∃ (a3 : Option Addr) (L1 C1 : Nat), cell h9 a2 = some (.slice a3 L1 C1) ∧
  ∃ n4 : Int, cell h9 ((⟨b3, 0, none⟩ : Addr).add 1) = some (.int .i64 n4) ∧
  New h9 (.cells #[.int .i64 n4] 3) fun b4 h10 =>
  (∃ (a4 : Option Addr) (L2 C2 : Nat), cell h10 a2 = some (.slice a4 L2 C2) ∧
  (.slice a4 L2 C2 : Value) = .slice a3 L1 C1) ∧
  appendV Try.prog 59 59 (.slice a3 L1 C1) (.slice (some ⟨b4, 0, none⟩) 1 1) h10 (slK fun a5 l1 c1 h11 =>
  NN out fun a6 =>
  Wr h11 a6 (.slice a5 l1 c1) fun h12 =>
  NN out fun a7 =>
  ∃ (a8 : Option Addr) (L3 C3 : Nat), cell h12 (a7.add 1) = some (.slice a8 L3 C3) ∧
  NN out fun a9 =>
  ∃ (a10 : Option Addr) (L4 C4 : Nat), cell h12 (a9.add 1) = some (.slice a10 L4 C4) ∧
  NN out fun a11 =>
  ∃ (a12 : Option Addr) (L5 C5 : Nat), cell h12 (a11.add 1) = some (.slice a12 L5 C5) ∧
  InR ((L5 : Int) - 1) ∧
  (0 ≤ (L5 : Int) - 1 ∧ (L5 : Int) - 1 < (L4 : Int)) ∧
  NN a10 fun a13 =>
  ∃ n5 : Int, cell h12 (a13.add (Int.toNat ((L5 : Int) - 1) * 1)) = some (.int .i64 n5) ∧
  ∃ n6 : Int, cell h12 ((⟨b3, 0, none⟩ : Addr).add 2) = some (.int .i64 n6) ∧
  InR (n5 + n6) ∧
  New h12 (.cells #[.int .i64 (n5 + n6)] 3) fun b5 h13 =>
  (∃ (a14 : Option Addr) (L6 C6 : Nat), cell h13 (a7.add 1) = some (.slice a14 L6 C6) ∧
  (.slice a14 L6 C6 : Value) = .slice a8 L3 C3) ∧
  appendV Try.prog 59 59 (.slice a8 L3 C3) (.slice (some ⟨b5, 0, none⟩) 1 1) h13 (slK fun a15 l2 c2 h14 =>
  NN out fun a16 =>
  Wr h14 (a16.add 1) (.slice a15 l2 c2) fun h15 =>
  rangetree_build_b2 l lL lC out t15 t15L t15C t16 t17 h15 nx0 K)))
  (rangetree_build_b3 l lL lC out h  K)) := by kernel_rfl
theorem rangetree_build_b2_eq (l : Option Addr) (lL : Nat) (lC : Nat) (out : Option Addr) (t15 : Option Addr) (t15L : Nat) (t15C : Nat) (t16 : Int) (t17 : Int) (h : Hp) (nx0 : Int × Unit → Hp → Prop) (K : Value → Hp → Prop) : rangetree_build_b2 l lL lC out t15 t15L t15C t16 t17 h nx0 K = (
  InR (t17 + 1) ∧
  nx0 (t17 + 1, ()) h) := by kernel_rfl
theorem rangetree_build_b3_eq (l : Option Addr) (lL : Nat) (lC : Nat) (out : Option Addr) (h : Hp)  (K : Value → Hp → Prop) : rangetree_build_b3 l lL lC out h  K = (
  ∃ q1 : Int, Sx.Quo .i64 (lL : Int) 2 q1 ∧
  cond (decide ((0 : Int) < q1))
  ((0 ≤ (0 : Int) ∧ (0 : Int) ≤ q1 ∧ q1 ≤ (lC : Int)) ∧
  (0 ≤ q1 ∧ q1 ≤ (lL : Int) ∧ (lL : Int) ≤ (lC : Int)) ∧
  HCalls Try.prog 65 #[.slice (subAddr l lC (Int.toNat (0 : Int)) 3) (Int.toNat q1 - Int.toNat (0 : Int)) (lC - Int.toNat (0 : Int))] h fun v3 h16 => ∃ r2 : Option Addr, v3 = .pointer r2 ∧
  ((0 ≤ q1 ∧ q1 ≤ (lL : Int) ∧ (lL : Int) ≤ (lC : Int)) ∧
  (.slice (subAddr l lC (Int.toNat q1) 3) (Int.toNat (lL : Int) - Int.toNat q1) (lC - Int.toNat q1) : Value) = .slice (subAddr l lC (Int.toNat q1) 3) (Int.toNat (lL : Int) - Int.toNat q1) (lC - Int.toNat q1)) ∧
  HCalls Try.prog 65 #[.slice (subAddr l lC (Int.toNat q1) 3) (Int.toNat (lL : Int) - Int.toNat q1) (lC - Int.toNat q1)] h16 fun v4 h17 => ∃ r3 : Option Addr, v4 = .pointer r3 ∧
  NN out fun a17 =>
  Wr h17 (a17.add 2) (.pointer r2) fun h18 =>
  NN out fun a18 =>
  Wr h18 (a18.add 3) (.pointer r3) fun h19 =>
  rangetree_build_b4 out h19  K)
  (rangetree_build_b4 out h  K)) := by kernel_rfl
theorem rangetree_build_b4_eq (out : Option Addr) (h : Hp)  (K : Value → Hp → Prop) : rangetree_build_b4 out h  K = (
  K (.pointer out) h) := by kernel_rfl
theorem rangetree_build_call {l : Option Addr} {lL : Nat} {lC : Nat} {h : Hp} {K : Value → Hp → Prop} (hk : rangetree_build_b0 l lL lC h K) : HCalls Try.prog 65 #[.slice l lL lC] h K :=
  calls_of_snd rangetree_build_an Try.func65 (c := bodyOf Try.f65) rfl Try.ntmps65 (Nat.le_of_ble_eq_true rfl) (snd_3 F_ok F_mixed) hk

end Go.Proofs.Ytbfejfejahoblaa
