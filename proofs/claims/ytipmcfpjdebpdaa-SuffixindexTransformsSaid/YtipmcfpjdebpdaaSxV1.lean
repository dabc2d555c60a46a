/- Plain statements of what each block of code of this seat asks; printed by a program, checked by Lean. -/
import Derived.Test.YtipmcfpjdebpdaaSxV0
set_option maxRecDepth 10000
namespace Go.Proofs.Ytipmcfpjdebpdaa
open Go Go.Sx

/-! ### l30_SuffixindexSorts -/
/-! ### l30_SuffixindexOrder -/
/-! ### l30_SuffixindexLongest -/
/-! ### l30_SuffixindexCounts -/
/-! ### l30_SuffixIndexes -/
/-! ### l30_SuffixindexNone -/
/-! ### l30_SuffixindexTransforms -/
def l30_SuffixindexTransforms_an : Ann := .node none (.leaf) (.node none (.leaf) (.node (some [0, 1, 2]) (.leaf) (.node none (.leaf) (.node none (.leaf) (.node none (.leaf) (.node (some [0, 11, 12, 13]) (.leaf) (.leaf)))))))
def l30_SuffixindexTransforms_K0  (K : Value → Hp → Prop) : Exit → Env → Hp → Prop := retK Try.prog Try.f9.results.toList K
def l30_SuffixindexTransforms_b0 (s : ByteArray) (l : Option Addr) (lL : Nat) (lC : Nat) (atv : Int) (h : Hp)  (K : Value → Hp → Prop) : Prop :=
  sx_3 Try.prog F 108 (cp [] (bodyOf Try.f9)) (ap [] l30_SuffixindexTransforms_an) [(0, .string s), (1, .slice l lL lC), (2, .int .i64 atv)] h (l30_SuffixindexTransforms_K0  K)
def l30_SuffixindexTransforms_b1 (s : ByteArray) (l : Option Addr) (lL : Nat) (lC : Nat) (atv : Int) (h : Hp)  (K : Value → Hp → Prop) : Prop :=
  sx_2 Try.prog F 108 (cp [1, 1, 1] (bodyOf Try.f9)) (ap [1, 1, 1] l30_SuffixindexTransforms_an) [(0, .string s), (1, .slice l lL lC), (2, .int .i64 atv)] h (l30_SuffixindexTransforms_K0  K)
def l30_SuffixindexTransforms_b2 (s : ByteArray) (t : Option Addr) (tL : Nat) (tC : Nat) (place : Int) (g : Int) (h : Hp)  (K : Value → Hp → Prop) : Prop :=
  sx_1 Try.prog F 108 (cp [1, 1, 1, 1, 1, 1, 1] (bodyOf Try.f9)) (ap [1, 1, 1, 1, 1, 1, 1] l30_SuffixindexTransforms_an) [(0, .string s), (11, .slice t tL tC), (12, .int .i64 place), (13, .int .i64 g)] h (l30_SuffixindexTransforms_K0  K)
theorem l30_SuffixindexTransforms_b0_eq (s : ByteArray) (l : Option Addr) (lL : Nat) (lC : Nat) (atv : Int) (h : Hp)  (K : Value → Hp → Prop) : l30_SuffixindexTransforms_b0 s l lL lC atv h  K = (
  HCalls Try.prog 10 #[] h fun v1 h1 => ∃ r1 : Bool, v1 = .bool r1 ∧
  cond (!r1)
  (K (.bool false) h1)
  (HCalls Try.prog 11 #[.string s] h1 fun v2 h2 => ∃ r2 : Bool, v2 = .bool r2 ∧
  cond r2
  (K (.bool true) h2)
  (cond (decide ((60 : Int) < (lL : Int)))
  (cond (decide ((lL : Int) ≤ 4097))
  (K (.bool true) h2)
  (cond (decide ((5000 : Int) < (lL : Int)))
  (K (.bool true) h2)
  (l30_SuffixindexTransforms_b1 s l lL lC atv h2  K)))
  (cond (decide ((5000 : Int) < (lL : Int)))
  (K (.bool true) h2)
  (l30_SuffixindexTransforms_b1 s l lL lC atv h2  K))))) := by kernel_rfl
theorem l30_SuffixindexTransforms_b1_eq (s : ByteArray) (l : Option Addr) (lL : Nat) (lC : Nat) (atv : Int) (h : Hp)  (K : Value → Hp → Prop) : l30_SuffixindexTransforms_b1 s l lL lC atv h  K = (
  HCalls Try.prog 29 #[.slice l lL lC, .int .i64 atv] h fun v3 h3 => ∃ r3 : ByteArray, ∃ r4 : Int, v3 = .tuple #[.string r3, .int .i64 r4] ∧
  HCalls Try.prog 30 #[.slice l lL lC, .int .i64 atv] h3 fun v4 h4 => ∃ r5 : ByteArray, ∃ r6 : Int, v4 = .tuple #[.string r5, .int .i64 r6] ∧
  HCalls Try.prog 31 #[.string s] h4 fun v5 h5 => ∃ (r7 : Option Addr) (rL1 rC1 : Nat), ∃ r8 : Int, ∃ r9 : Int, v5 = .tuple #[.slice r7 rL1 rC1, .int .i64 r8, .int .i64 r9] ∧
  cond (!strEq r3 r5)
  (K (.bool false) h5)
  (cond (!decide (r4 = r6))
  (K (.bool false) h5)
  (l30_SuffixindexTransforms_b2 s r7 rL1 rC1 r8 r9 h5  K))) := by kernel_rfl
theorem l30_SuffixindexTransforms_b2_eq (s : ByteArray) (t : Option Addr) (tL : Nat) (tC : Nat) (place : Int) (g : Int) (h : Hp)  (K : Value → Hp → Prop) : l30_SuffixindexTransforms_b2 s t tL tC place g h  K = (
  HCalls Try.prog 14 #[.string s] h fun v6 h6 => ∃ r10 : Bool, v6 = .bool r10 ∧
  cond r10
  (cond (decide (g = 4))
  (cond (decide ((tL : Int) = 0))
  (K (.bool (decide (place = 0))) h6)
  (K (.bool false) h6))
  (K (.bool false) h6))
  (HCalls Try.prog 32 #[.string s] h6 fun v7 h7 => ∃ (r11 : Option Addr) (rL2 rC2 : Nat), ∃ r12 : Int, v7 = .tuple #[.slice r11 rL2 rC2, .int .i64 r12] ∧
  HCalls Try.prog 29 #[.slice t tL tC, .int .i64 place] h7 fun v8 h8 => ∃ r13 : ByteArray, ∃ r14 : Int, v8 = .tuple #[.string r13, .int .i64 r14] ∧
  cond (decide (g = 0))
  (HCalls Try.prog 15 #[.slice t tL tC, .slice r11 rL2 rC2] h8 fun v9 h9 => ∃ r15 : Bool, v9 = .bool r15 ∧
  cond r15
  (cond (decide (place = r12))
  (cond (decide (r14 = 0))
  (K (.bool (strEq r13 s)) h9)
  (K (.bool false) h9))
  (K (.bool false) h9))
  (K (.bool false) h9))
  (K (.bool false) h8))) := by kernel_rfl
theorem l30_SuffixindexTransforms_call {s : ByteArray} {l : Option Addr} {lL : Nat} {lC : Nat} {atv : Int} {h : Hp} {K : Value → Hp → Prop} (hk : l30_SuffixindexTransforms_b0 s l lL lC atv h K) : HCalls Try.prog 9 #[.string s, .slice l lL lC, .int .i64 atv] h K :=
  calls_of_snd l30_SuffixindexTransforms_an Try.func9 (c := bodyOf Try.f9) rfl Try.ntmps9 (Nat.le_of_ble_eq_true rfl) (snd_3 F_ok F_mixed) hk

/-! ### l30_awake -/
def l30_awake_an : Ann := .leaf
def l30_awake_K0  (K : Value → Hp → Prop) : Exit → Env → Hp → Prop := retK Try.prog Try.f10.results.toList K
def l30_awake_b0  (h : Hp)  (K : Value → Hp → Prop) : Prop :=
  sx_1 Try.prog F 98 (cp [] (bodyOf Try.f10)) (ap [] l30_awake_an) [] h (l30_awake_K0  K)
theorem l30_awake_b0_eq  (h : Hp)  (K : Value → Hp → Prop) : l30_awake_b0  h  K = (
  HCalls Try.prog 12 #[.string (⟨#[98, 97, 110, 97, 110, 97]⟩ : ByteArray)] h fun v1 h1 => ∃ (r1 : Option Addr) (rL1 rC1 : Nat), ∃ r2 : Int, v1 = .tuple #[.slice r1 rL1 rC1, .int .i64 r2] ∧
  HCalls Try.prog 13 #[.string (⟨#[98, 97, 110, 97, 110, 97]⟩ : ByteArray)] h1 fun v2 h2 => ∃ (r3 : Option Addr) (rL2 rC2 : Nat), ∃ r4 : Int, v2 = .tuple #[.slice r3 rL2 rC2, .int .i64 r4] ∧
  HCalls Try.prog 31 #[.string (⟨#[98, 97, 110, 97, 110, 97]⟩ : ByteArray)] h2 fun v3 h3 => ∃ (r5 : Option Addr) (rL3 rC3 : Nat), ∃ r6 : Int, ∃ r7 : Int, v3 = .tuple #[.slice r5 rL3 rC3, .int .i64 r6, .int .i64 r7] ∧
  HCalls Try.prog 18 #[.string (⟨#[98, 97, 110, 97, 110, 97]⟩ : ByteArray)] h3 fun v4 h4 => ∃ r8 : ByteArray, ∃ r9 : Int, ∃ r10 : Int, v4 = .tuple #[.string r8, .int .i64 r9, .int .i64 r10] ∧
  HCalls Try.prog 19 #[.string (⟨#[98, 97, 110, 97, 110, 97]⟩ : ByteArray)] h4 fun v5 h5 => ∃ r11 : Option Addr, ∃ r12 : Int, v5 = .tuple #[.pointer r11, .int .i64 r12] ∧
  cond r11.isNone
  (K (.bool false) h5)
  (HCalls Try.prog 21 #[.pointer r11, .string (⟨#[97, 110, 97]⟩ : ByteArray)] h5 fun v6 h6 => ∃ (r13 : Option Addr) (rL4 rC4 : Nat), ∃ r14 : Int, v6 = .tuple #[.slice r13 rL4 rC4, .int .i64 r14] ∧
  cond (decide (r2 = 0))
  (New h6 (.cells #[.int .i64 5, .int .i64 3, .int .i64 1, .int .i64 0, .int .i64 4, .int .i64 2] 3) fun b1 h7 =>
  HCalls Try.prog 15 #[.slice r1 rL1 rC1, .slice (some ⟨b1, 0, none⟩) 6 6] h7 fun v7 h8 => ∃ r15 : Bool, v7 = .bool r15 ∧
  cond r15
  (cond (decide (r4 = 0))
  (New h8 (.cells #[.int .i64 0, .int .i64 1, .int .i64 3, .int .i64 0, .int .i64 0, .int .i64 2] 3) fun b2 h9 =>
  HCalls Try.prog 15 #[.slice r3 rL2 rC2, .slice (some ⟨b2, 0, none⟩) 6 6] h9 fun v8 h10 => ∃ r16 : Bool, v8 = .bool r16 ∧
  cond r16
  (cond (decide (r7 = 0))
  (cond (decide (r6 = 4))
  (New h10 (.cells #[.int .i64 97, .int .i64 110, .int .i64 110, .int .i64 98, .int .i64 (-1), .int .i64 97, .int .i64 97] 3) fun b3 h11 =>
  HCalls Try.prog 15 #[.slice r5 rL3 rC3, .slice (some ⟨b3, 0, none⟩) 7 7] h11 fun v9 h12 => ∃ r17 : Bool, v9 = .bool r17 ∧
  cond r17
  (cond (decide (r10 = 0))
  (cond (strEq r8 (⟨#[97, 110, 97]⟩ : ByteArray))
  (cond (decide (r9 = 2))
  (cond (decide (r12 = 0))
  (cond (decide (r14 = 0))
  (New h12 (.cells #[.int .i64 1, .int .i64 3] 3) fun b4 h13 =>
  HCalls Try.prog 15 #[.slice r13 rL4 rC4, .slice (some ⟨b4, 0, none⟩) 2 2] h13 fun v10 h14 => ∃ r18 : Bool, v10 = .bool r18 ∧
  K (.bool r18) h14)
  (K (.bool false) h12))
  (K (.bool false) h12))
  (K (.bool false) h12))
  (K (.bool false) h12))
  (K (.bool false) h12))
  (K (.bool false) h12))
  (K (.bool false) h10))
  (K (.bool false) h10))
  (K (.bool false) h10))
  (K (.bool false) h8))
  (K (.bool false) h8))
  (K (.bool false) h6))) := by kernel_rfl
theorem l30_awake_call  {h : Hp} {K : Value → Hp → Prop} (hk : l30_awake_b0  h K) : HCalls Try.prog 10 #[] h K :=
  calls_of_snd l30_awake_an Try.func10 (c := bodyOf Try.f10) rfl Try.ntmps10 (Nat.le_of_ble_eq_true rfl) (snd_1 F_ok F_mixed) hk

/-! ### l30_long -/
def l30_long_an : Ann := .leaf
def l30_long_K0  (K : Value → Hp → Prop) : Exit → Env → Hp → Prop := retK Try.prog Try.f11.results.toList K
def l30_long_b0 (s : ByteArray) (h : Hp)  (K : Value → Hp → Prop) : Prop :=
  sx_1 Try.prog F 16 (cp [] (bodyOf Try.f11)) (ap [] l30_long_an) [(0, .string s)] h (l30_long_K0  K)
theorem l30_long_b0_eq (s : ByteArray) (h : Hp)  (K : Value → Hp → Prop) : l30_long_b0 s h  K = (
  cond (decide ((60 : Int) < (s.size : Int)))
  (cond (decide ((s.size : Int) ≤ 4096))
  (K (.bool true) h)
  (K (.bool (decide ((5000 : Int) < (s.size : Int)))) h))
  (K (.bool (decide ((5000 : Int) < (s.size : Int)))) h)) := by kernel_rfl
theorem l30_long_call {s : ByteArray} {h : Hp} {K : Value → Hp → Prop} (hk : l30_long_b0 s h K) : HCalls Try.prog 11 #[.string s] h K :=
  calls_of_snd l30_long_an Try.func11 (c := bodyOf Try.f11) rfl Try.ntmps11 (Nat.le_of_ble_eq_true rfl) (snd_1 F_ok F_mixed) hk

/-! ### suffixindex_Suffixes -/
def suffixindex_Suffixes_an : Ann := .leaf
def suffixindex_Suffixes_K0  (K : Value → Hp → Prop) : Exit → Env → Hp → Prop := retK Try.prog Try.f12.results.toList K
def suffixindex_Suffixes_b0 (s : ByteArray) (h : Hp)  (K : Value → Hp → Prop) : Prop :=
  sx_1 Try.prog F 8 (cp [] (bodyOf Try.f12)) (ap [] suffixindex_Suffixes_an) [(0, .string s)] h (suffixindex_Suffixes_K0  K)
theorem suffixindex_Suffixes_b0_eq (s : ByteArray) (h : Hp)  (K : Value → Hp → Prop) : suffixindex_Suffixes_b0 s h  K = (
  HCalls Try.prog 33 #[.string s] h fun v1 h1 => ∃ r1 : Bool, v1 = .bool r1 ∧
  cond r1
  (K (.tuple #[.slice none 0 0, .int .i64 4]) h1)
  (HCalls Try.prog 34 #[.string s] h1 fun v2 h2 => ∃ (r2 : Option Addr) (rL1 rC1 : Nat), v2 = .slice r2 rL1 rC1 ∧
  K (.tuple #[.slice r2 rL1 rC1, .int .i64 0]) h2)) := by kernel_rfl
theorem suffixindex_Suffixes_call {s : ByteArray} {h : Hp} {K : Value → Hp → Prop} (hk : suffixindex_Suffixes_b0 s h K) : HCalls Try.prog 12 #[.string s] h K :=
  calls_of_snd suffixindex_Suffixes_an Try.func12 (c := bodyOf Try.f12) rfl Try.ntmps12 (Nat.le_of_ble_eq_true rfl) (snd_1 F_ok F_mixed) hk

/-! ### suffixindex_Common -/
def suffixindex_Common_an : Ann := .leaf
def suffixindex_Common_K0  (K : Value → Hp → Prop) : Exit → Env → Hp → Prop := retK Try.prog Try.f13.results.toList K
def suffixindex_Common_b0 (s : ByteArray) (h : Hp)  (K : Value → Hp → Prop) : Prop :=
  sx_1 Try.prog F 10 (cp [] (bodyOf Try.f13)) (ap [] suffixindex_Common_an) [(0, .string s)] h (suffixindex_Common_K0  K)
theorem suffixindex_Common_b0_eq (s : ByteArray) (h : Hp)  (K : Value → Hp → Prop) : suffixindex_Common_b0 s h  K = (
  HCalls Try.prog 33 #[.string s] h fun v1 h1 => ∃ r1 : Bool, v1 = .bool r1 ∧
  cond r1
  (K (.tuple #[.slice none 0 0, .int .i64 4]) h1)
  (HCalls Try.prog 34 #[.string s] h1 fun v2 h2 => ∃ (r2 : Option Addr) (rL1 rC1 : Nat), v2 = .slice r2 rL1 rC1 ∧
  HCalls Try.prog 35 #[.string s, .slice r2 rL1 rC1] h2 fun v3 h3 => ∃ (r3 : Option Addr) (rL2 rC2 : Nat), v3 = .slice r3 rL2 rC2 ∧
  K (.tuple #[.slice r3 rL2 rC2, .int .i64 0]) h3)) := by kernel_rfl
theorem suffixindex_Common_call {s : ByteArray} {h : Hp} {K : Value → Hp → Prop} (hk : suffixindex_Common_b0 s h K) : HCalls Try.prog 13 #[.string s] h K :=
  calls_of_snd suffixindex_Common_an Try.func13 (c := bodyOf Try.f13) rfl Try.ntmps13 (Nat.le_of_ble_eq_true rfl) (snd_1 F_ok F_mixed) hk

/-! ### l30_full -/
def l30_full_an : Ann := .leaf
def l30_full_K0  (K : Value → Hp → Prop) : Exit → Env → Hp → Prop := retK Try.prog Try.f14.results.toList K
def l30_full_b0 (s : ByteArray) (h : Hp)  (K : Value → Hp → Prop) : Prop :=
  sx_1 Try.prog F 6 (cp [] (bodyOf Try.f14)) (ap [] l30_full_an) [(0, .string s)] h (l30_full_K0  K)
theorem l30_full_b0_eq (s : ByteArray) (h : Hp)  (K : Value → Hp → Prop) : l30_full_b0 s h  K = (
  K (.bool (decide ((4096 : Int) < (s.size : Int)))) h) := by kernel_rfl
theorem l30_full_call {s : ByteArray} {h : Hp} {K : Value → Hp → Prop} (hk : l30_full_b0 s h K) : HCalls Try.prog 14 #[.string s] h K :=
  calls_of_snd l30_full_an Try.func14 (c := bodyOf Try.f14) rfl Try.ntmps14 (Nat.le_of_ble_eq_true rfl) (snd_1 F_ok F_mixed) hk

/-! ### EqI -/
def EqI_an : Ann := .node none (.leaf) (.node none (.leaf) (.node (some []) (.node none (.leaf) (.loop [0, 1, 12] [(13, .int .i64)] (.node none (.leaf) (.node none (.leaf) (.node (some [0, 1, 12, 13]) (.leaf) (.leaf)))))) (.leaf)))
def EqI_K0  (K : Value → Hp → Prop) : Exit → Env → Hp → Prop := retK Try.prog Try.f15.results.toList K
def EqI_K1  (K : Value → Hp → Prop) : Exit → Env → Hp → Prop := thenE (fun env h => sx_2 Try.prog F 26 (cp [1, 1, 1] (bodyOf Try.f15)) (ap [1, 1, 1] EqI_an) (rs [] env) h (EqI_K0  K)) (EqI_K0  K)
def EqI_K2  (K : Value → Hp → Prop) : Exit → Env → Hp → Prop := blockE 0 (EqI_K1  K)
def EqI_K3 (nx0 : Int × Unit → Hp → Prop) (K : Value → Hp → Prop) : Exit → Env → Hp → Prop := thenE (fun env h => getV [(13, .int .i64)] env fun s => nx0 s h) (EqI_K2  K)
def EqI_b0 (s1 : Option Addr) (s1L : Nat) (s1C : Nat) (s2 : Option Addr) (s2L : Nat) (s2C : Nat) (h : Hp)  (K : Value → Hp → Prop) : Prop :=
  sx_3 Try.prog F 26 (cp [] (bodyOf Try.f15)) (ap [] EqI_an) [(0, .slice s1 s1L s1C), (1, .slice s2 s2L s2C)] h (EqI_K0  K)
def EqI_b1 (t13 : Int) (s1 : Option Addr) (s1L : Nat) (s1C : Nat) (s2 : Option Addr) (s2L : Nat) (s2C : Nat) (t12 : Int) (h : Hp) (nx0 : Int × Unit → Hp → Prop) (K : Value → Hp → Prop) : Prop :=
  sx_2 Try.prog F 26 (cp [1, 1, 0, 1, 2, 2] (bodyOf Try.f15)) (ap [1, 1, 0, 1, 2] EqI_an) [(13, .int .i64 t13), (0, .slice s1 s1L s1C), (1, .slice s2 s2L s2C), (12, .int .i64 t12)] h (EqI_K3 nx0 K)
def EqI_b2 (s1 : Option Addr) (s1L : Nat) (s1C : Nat) (s2 : Option Addr) (s2L : Nat) (s2C : Nat) (t12 : Int) (t13 : Int) (h : Hp) (nx0 : Int × Unit → Hp → Prop) (K : Value → Hp → Prop) : Prop :=
  sx_1 Try.prog F 26 (cp [1, 1, 0, 1, 2, 2, 1, 1, 1] (bodyOf Try.f15)) (ap [1, 1, 0, 1, 2, 1, 1, 1] EqI_an) [(0, .slice s1 s1L s1C), (1, .slice s2 s2L s2C), (12, .int .i64 t12), (13, .int .i64 t13)] h (EqI_K3 nx0 K)
def EqI_b3  (h : Hp)  (K : Value → Hp → Prop) : Prop :=
  sx_2 Try.prog F 26 (cp [1, 1, 1] (bodyOf Try.f15)) (ap [1, 1, 1] EqI_an) [] h (EqI_K0  K)
theorem EqI_b0_eq (s1 : Option Addr) (s1L : Nat) (s1C : Nat) (s2 : Option Addr) (s2L : Nat) (s2C : Nat) (h : Hp)  (K : Value → Hp → Prop) : EqI_b0 s1 s1L s1C s2 s2L s2C h  K = (
  cond (!decide ((s1L : Int) = (s2L : Int)))
  (K (.bool false) h)
  (LoopVC ((0, ()) : Int × Unit) h (fun (nx0 : Int × Unit → Hp → Prop) (s3 : Int × Unit) h1 => EqI_b1 s3.1 s1 s1L s1C s2 s2L s2C (s1L : Int) h1 nx0 K))) := by kernel_rfl
theorem EqI_b1_eq (t13 : Int) (s1 : Option Addr) (s1L : Nat) (s1C : Nat) (s2 : Option Addr) (s2L : Nat) (s2C : Nat) (t12 : Int) (h : Hp) (nx0 : Int × Unit → Hp → Prop) (K : Value → Hp → Prop) : EqI_b1 t13 s1 s1L s1C s2 s2L s2C t12 h nx0 K = (
  cond (decide (t13 < t12))
  ((0 ≤ t13 ∧ t13 < (s1L : Int)) ∧
  NN s1 fun a1 =>
  ∃ n1 : Int, cell h (a1.add (Int.toNat t13 * 1)) = some (.int .i64 n1) ∧
  (0 ≤ t13 ∧ t13 < (s2L : Int)) ∧
  NN s2 fun a2 =>
  ∃ n2 : Int, cell h (a2.add (Int.toNat t13 * 1)) = some (.int .i64 n2) ∧
  cond (!decide (n1 = n2))
  (K (.bool false) h)
  (EqI_b2 s1 s1L s1C s2 s2L s2C t12 t13 h nx0 K))
  (EqI_b3  h  K)) := by kernel_rfl
theorem EqI_b2_eq (s1 : Option Addr) (s1L : Nat) (s1C : Nat) (s2 : Option Addr) (s2L : Nat) (s2C : Nat) (t12 : Int) (t13 : Int) (h : Hp) (nx0 : Int × Unit → Hp → Prop) (K : Value → Hp → Prop) : EqI_b2 s1 s1L s1C s2 s2L s2C t12 t13 h nx0 K = (
  InR (t13 + 1) ∧
  nx0 (t13 + 1, ()) h) := by kernel_rfl
theorem EqI_b3_eq  (h : Hp)  (K : Value → Hp → Prop) : EqI_b3  h  K = (
  K (.bool true) h) := by kernel_rfl
theorem EqI_call {s1 : Option Addr} {s1L : Nat} {s1C : Nat} {s2 : Option Addr} {s2L : Nat} {s2C : Nat} {h : Hp} {K : Value → Hp → Prop} (hk : EqI_b0 s1 s1L s1C s2 s2L s2C h K) : HCalls Try.prog 15 #[.slice s1 s1L s1C, .slice s2 s2L s2C] h K :=
  calls_of_snd EqI_an Try.func15 (c := bodyOf Try.f15) rfl Try.ntmps15 (Nat.le_of_ble_eq_true rfl) (snd_3 F_ok F_mixed) hk

/-! ### r30_Suffixes -/
/-! ### r30_Common -/
/-! ### suffixindex_Repeated -/
def suffixindex_Repeated_an : Ann := .node none (.leaf) (.node none (.leaf) (.node none (.leaf) (.node none (.leaf) (.node (some [0, 5, 6]) (.leaf) (.node none (.leaf) (.node none (.leaf) (.node none (.leaf) (.node (some [0, 5, 7, 8, 9]) (.node none (.leaf) (.loop [0, 5, 6, 7, 8] [(9, .int .i64), (10, .int .i64)] (.node (some [0, 5, 6, 7, 8, 9, 10]) (.leaf) (.node (some [0, 5, 6, 7, 8, 9, 10]) (.leaf) (.leaf))))) (.leaf)))))))))
def suffixindex_Repeated_K0  (K : Value → Hp → Prop) : Exit → Env → Hp → Prop := retK Try.prog Try.f18.results.toList K
def suffixindex_Repeated_K1  (K : Value → Hp → Prop) : Exit → Env → Hp → Prop := thenE (fun env h => sx_3 Try.prog F 61 (cp [1, 1, 1, 1, 1, 1, 1, 1, 1] (bodyOf Try.f18)) (ap [1, 1, 1, 1, 1, 1, 1, 1, 1] suffixindex_Repeated_an) (rs [0, 5, 7, 8, 9] env) h (suffixindex_Repeated_K0  K)) (suffixindex_Repeated_K0  K)
def suffixindex_Repeated_K2  (K : Value → Hp → Prop) : Exit → Env → Hp → Prop := blockE 0 (suffixindex_Repeated_K1  K)
def suffixindex_Repeated_K3 (nx0 : Int × Int × Unit → Hp → Prop) (K : Value → Hp → Prop) : Exit → Env → Hp → Prop := thenE (fun env h => getV [(9, .int .i64), (10, .int .i64)] env fun s => nx0 s h) (suffixindex_Repeated_K2  K)
def suffixindex_Repeated_b0 (s : ByteArray) (h : Hp)  (K : Value → Hp → Prop) : Prop :=
  sx_5 Try.prog F 61 (cp [] (bodyOf Try.f18)) (ap [] suffixindex_Repeated_an) [(0, .string s)] h (suffixindex_Repeated_K0  K)
def suffixindex_Repeated_b1 (s : ByteArray) (order : Option Addr) (orderL : Nat) (orderC : Nat) (l : Option Addr) (lL : Nat) (lC : Nat) (h : Hp)  (K : Value → Hp → Prop) : Prop :=
  sx_4 Try.prog F 61 (cp [1, 1, 1, 1, 1] (bodyOf Try.f18)) (ap [1, 1, 1, 1, 1] suffixindex_Repeated_an) [(0, .string s), (5, .slice order orderL orderC), (6, .slice l lL lC)] h (suffixindex_Repeated_K0  K)
def suffixindex_Repeated_b2 (nv : Int) (i : Int) (s : ByteArray) (order : Option Addr) (orderL : Nat) (orderC : Nat) (l : Option Addr) (lL : Nat) (lC : Nat) (k : Int) (atv : Int) (h : Hp) (nx0 : Int × Int × Unit → Hp → Prop) (K : Value → Hp → Prop) : Prop :=
  sx_3 Try.prog F 61 (cp [1, 1, 1, 1, 1, 1, 1, 1, 0, 1, 2, 2] (bodyOf Try.f18)) (ap [1, 1, 1, 1, 1, 1, 1, 1, 0, 1, 2] suffixindex_Repeated_an) [(9, .int .i64 nv), (10, .int .i64 i), (0, .string s), (5, .slice order orderL orderC), (6, .slice l lL lC), (7, .int .i64 k), (8, .int .i64 atv)] h (suffixindex_Repeated_K3 nx0 K)
def suffixindex_Repeated_b3 (s : ByteArray) (order : Option Addr) (orderL : Nat) (orderC : Nat) (l : Option Addr) (lL : Nat) (lC : Nat) (k : Int) (atv : Int) (nv : Int) (i : Int) (h : Hp) (nx0 : Int × Int × Unit → Hp → Prop) (K : Value → Hp → Prop) : Prop :=
  sx_2 Try.prog F 61 (cp [1, 1, 1, 1, 1, 1, 1, 1, 0, 1, 2, 2, 1] (bodyOf Try.f18)) (ap [1, 1, 1, 1, 1, 1, 1, 1, 0, 1, 2, 1] suffixindex_Repeated_an) [(0, .string s), (5, .slice order orderL orderC), (6, .slice l lL lC), (7, .int .i64 k), (8, .int .i64 atv), (9, .int .i64 nv), (10, .int .i64 i)] h (suffixindex_Repeated_K3 nx0 K)
def suffixindex_Repeated_b4 (s : ByteArray) (order : Option Addr) (orderL : Nat) (orderC : Nat) (k : Int) (atv : Int) (nv : Int) (h : Hp)  (K : Value → Hp → Prop) : Prop :=
  sx_3 Try.prog F 61 (cp [1, 1, 1, 1, 1, 1, 1, 1, 1] (bodyOf Try.f18)) (ap [1, 1, 1, 1, 1, 1, 1, 1, 1] suffixindex_Repeated_an) [(0, .string s), (5, .slice order orderL orderC), (7, .int .i64 k), (8, .int .i64 atv), (9, .int .i64 nv)] h (suffixindex_Repeated_K0  K)
def suffixindex_Repeated_b5 (s : ByteArray) (order : Option Addr) (orderL : Nat) (orderC : Nat) (l : Option Addr) (lL : Nat) (lC : Nat) (k : Int) (atv : Int) (nv : Int) (i : Int) (h : Hp) (nx0 : Int × Int × Unit → Hp → Prop) (K : Value → Hp → Prop) : Prop :=
  sx_1 Try.prog F 61 (cp [1, 1, 1, 1, 1, 1, 1, 1, 0, 1, 2, 2, 1, 1] (bodyOf Try.f18)) (ap [1, 1, 1, 1, 1, 1, 1, 1, 0, 1, 2, 1, 1] suffixindex_Repeated_an) [(0, .string s), (5, .slice order orderL orderC), (6, .slice l lL lC), (7, .int .i64 k), (8, .int .i64 atv), (9, .int .i64 nv), (10, .int .i64 i)] h (suffixindex_Repeated_K3 nx0 K)
theorem suffixindex_Repeated_b0_eq (s : ByteArray) (h : Hp)  (K : Value → Hp → Prop) : suffixindex_Repeated_b0 s h  K = (
  HCalls Try.prog 33 #[.string s] h fun v1 h1 => ∃ r1 : Bool, v1 = .bool r1 ∧
  cond r1
  (K (.tuple #[.string (⟨#[]⟩ : ByteArray), .int .i64 0, .int .i64 4]) h1)
  (HCalls Try.prog 34 #[.string s] h1 fun v2 h2 => ∃ (r2 : Option Addr) (rL1 rC1 : Nat), v2 = .slice r2 rL1 rC1 ∧
  HCalls Try.prog 35 #[.string s, .slice r2 rL1 rC1] h2 fun v3 h3 => ∃ (r3 : Option Addr) (rL2 rC2 : Nat), v3 = .slice r3 rL2 rC2 ∧
  cond (decide ((rL2 : Int) = 0))
  (K (.tuple #[.string (⟨#[]⟩ : ByteArray), .int .i64 0, .int .i64 12]) h3)
  (HCalls Try.prog 37 #[.slice r3 rL2 rC2] h3 fun v4 h4 => ∃ r4 : Int, v4 = .int .i64 r4 ∧
  cond (decide (r4 = 0))
  (K (.tuple #[.string (⟨#[]⟩ : ByteArray), .int .i64 0, .int .i64 12]) h4)
  (suffixindex_Repeated_b1 s r2 rL1 rC1 r3 rL2 rC2 h4  K)))) := by kernel_rfl
theorem suffixindex_Repeated_b1_eq (s : ByteArray) (order : Option Addr) (orderL : Nat) (orderC : Nat) (l : Option Addr) (lL : Nat) (lC : Nat) (h : Hp)  (K : Value → Hp → Prop) : suffixindex_Repeated_b1 s order orderL orderC l lL lC h  K = (
  HCalls Try.prog 37 #[.slice l lL lC] h fun v5 h5 => ∃ r5 : Int, v5 = .int .i64 r5 ∧
  HCalls Try.prog 38 #[.slice l lL lC, .int .i64 r5] h5 fun v6 h6 => ∃ r6 : Int, v6 = .int .i64 r6 ∧
  LoopVC ((1, r6, ()) : Int × Int × Unit) h6 (fun (nx0 : Int × Int × Unit → Hp → Prop) (s1 : Int × Int × Unit) h7 => suffixindex_Repeated_b2 s1.1 s1.2.1 s order orderL orderC l lL lC r5 r6 h7 nx0 K)) := by kernel_rfl
theorem suffixindex_Repeated_b2_eq (nv : Int) (i : Int) (s : ByteArray) (order : Option Addr) (orderL : Nat) (orderC : Nat) (l : Option Addr) (lL : Nat) (lC : Nat) (k : Int) (atv : Int) (h : Hp) (nx0 : Int × Int × Unit → Hp → Prop) (K : Value → Hp → Prop) : suffixindex_Repeated_b2 nv i s order orderL orderC l lL lC k atv h nx0 K = (
  cond (decide (i < (lL : Int)))
  ((0 ≤ i ∧ i < (lL : Int)) ∧
  NN l fun a1 =>
  ∃ n1 : Int, cell h (a1.add (Int.toNat i * 1)) = some (.int .i64 n1) ∧
  cond (decide (k ≤ n1))
  (suffixindex_Repeated_b3 s order orderL orderC l lL lC k atv nv i h nx0 K)
  (suffixindex_Repeated_b4 s order orderL orderC k atv nv h  K))
  (suffixindex_Repeated_b4 s order orderL orderC k atv nv h  K)) := by kernel_rfl
theorem suffixindex_Repeated_b3_eq (s : ByteArray) (order : Option Addr) (orderL : Nat) (orderC : Nat) (l : Option Addr) (lL : Nat) (lC : Nat) (k : Int) (atv : Int) (nv : Int) (i : Int) (h : Hp) (nx0 : Int × Int × Unit → Hp → Prop) (K : Value → Hp → Prop) : suffixindex_Repeated_b3 s order orderL orderC l lL lC k atv nv i h nx0 K = (
  InR (nv + 1) ∧
  suffixindex_Repeated_b5 s order orderL orderC l lL lC k atv (nv + 1) i h nx0 K) := by kernel_rfl
theorem suffixindex_Repeated_b4_eq (s : ByteArray) (order : Option Addr) (orderL : Nat) (orderC : Nat) (k : Int) (atv : Int) (nv : Int) (h : Hp)  (K : Value → Hp → Prop) : suffixindex_Repeated_b4 s order orderL orderC k atv nv h  K = (
  (0 ≤ atv ∧ atv < (orderL : Int)) ∧
  NN order fun a2 =>
  ∃ n2 : Int, cell h (a2.add (Int.toNat atv * 1)) = some (.int .i64 n2) ∧
  (0 ≤ atv ∧ atv < (orderL : Int)) ∧
  NN order fun a3 =>
  ∃ n3 : Int, cell h (a3.add (Int.toNat atv * 1)) = some (.int .i64 n3) ∧
  InR (n3 + k) ∧
  (0 ≤ n2 ∧ n2 ≤ n3 + k ∧ n3 + k ≤ (s.size : Int)) ∧
  K (.tuple #[.string (s.extract (Int.toNat n2) (Int.toNat (n3 + k))), .int .i64 nv, .int .i64 0]) h) := by kernel_rfl
theorem suffixindex_Repeated_b5_eq (s : ByteArray) (order : Option Addr) (orderL : Nat) (orderC : Nat) (l : Option Addr) (lL : Nat) (lC : Nat) (k : Int) (atv : Int) (nv : Int) (i : Int) (h : Hp) (nx0 : Int × Int × Unit → Hp → Prop) (K : Value → Hp → Prop) : suffixindex_Repeated_b5 s order orderL orderC l lL lC k atv nv i h nx0 K = (
  InR (i + 1) ∧
  nx0 (nv, i + 1, ()) h) := by kernel_rfl
theorem suffixindex_Repeated_call {s : ByteArray} {h : Hp} {K : Value → Hp → Prop} (hk : suffixindex_Repeated_b0 s h K) : HCalls Try.prog 18 #[.string s] h K :=
  calls_of_snd suffixindex_Repeated_an Try.func18 (c := bodyOf Try.f18) rfl Try.ntmps18 (Nat.le_of_ble_eq_true rfl) (snd_5 F_ok F_mixed) hk

/-! ### suffixindex_Make -/
def suffixindex_Make_an : Ann := .leaf
def suffixindex_Make_K0  (K : Value → Hp → Prop) : Exit → Env → Hp → Prop := retK Try.prog Try.f19.results.toList K
def suffixindex_Make_b0 (s : ByteArray) (h : Hp)  (K : Value → Hp → Prop) : Prop :=
  sx_1 Try.prog F 44 (cp [] (bodyOf Try.f19)) (ap [] suffixindex_Make_an) [(0, .string s)] h (suffixindex_Make_K0  K)
theorem suffixindex_Make_b0_eq (s : ByteArray) (h : Hp)  (K : Value → Hp → Prop) : suffixindex_Make_b0 s h  K = (
  HCalls Try.prog 33 #[.string s] h fun v1 h1 => ∃ r1 : Bool, v1 = .bool r1 ∧
  cond r1
  (K (.tuple #[.pointer none, .int .i64 4]) h1)
  (HCalls Try.prog 34 #[.string s] h1 fun v2 h2 => ∃ (r2 : Option Addr) (rL1 rC1 : Nat), v2 = .slice r2 rL1 rC1 ∧
  HCalls Try.prog 39 #[.string s, .slice r2 rL1 rC1] h2 fun v3 h3 => ∃ (r3 : Option Addr) (rL2 rC2 : Nat), ∃ r4 : Int, v3 = .tuple #[.slice r3 rL2 rC2, .int .i64 r4] ∧
  HCalls Try.prog 28 #[.slice r3 rL2 rC2] h3 fun v4 h4 => ∃ (r5 : Option Addr) (rL3 rC3 : Nat), v4 = .slice r5 rL3 rC3 ∧
  InR (r4 + 1) ∧
  HCalls Try.prog 41 #[.slice r5 rL3 rC3, .int .i64 r4, .int .i64 (r4 + 1)] h4 fun v5 h5 => ∃ (r6 : Option Addr) (rL4 rC4 : Nat), v5 = .slice r6 rL4 rC4 ∧
  HCalls Try.prog 40 #[.slice r6 rL4 rC4, .int .i64 256] h5 fun v6 h6 => ∃ r7 : Option Addr, ∃ r8 : Int, v6 = .tuple #[.pointer r7, .int .i64 r8] ∧
  cond (!decide (r8 = 0))
  (K (.tuple #[.pointer none, .int .i64 r8]) h6)
  (New h6 (.cells #[.int .i64 (s.size : Int)] 3) fun b1 h7 =>
  appendV Try.prog 24 24 (.slice (some ⟨b1, 0, none⟩) 1 1) (.slice r2 rL1 rC1) h7 (slK fun a1 l1 c1 h8 =>
  HCalls Try.prog 42 #[.slice r3 rL2 rC2] h8 fun v7 h9 => ∃ cs1 : List Value, v7 = .agg cs1.toArray ∧
  cs1.length = 257 ∧
  New h9 (.cells ((setB ((((aggCells (zeroOf Try.prog 68)).set 0 (.string s)).set 1 (.slice a1 l1 c1)).set 2 (.int .i64 r4)) 3 cs1).set 260 (.pointer r7)).toArray 68) fun b2 h10 =>
  K (.tuple #[.pointer (some ⟨b2, 0, none⟩), .int .i64 0]) h10)))) := by kernel_rfl
theorem suffixindex_Make_call {s : ByteArray} {h : Hp} {K : Value → Hp → Prop} (hk : suffixindex_Make_b0 s h K) : HCalls Try.prog 19 #[.string s] h K :=
  calls_of_snd suffixindex_Make_an Try.func19 (c := bodyOf Try.f19) rfl Try.ntmps19 (Nat.le_of_ble_eq_true rfl) (snd_1 F_ok F_mixed) hk

/-! ### suffixindex_Index_Count -/
/-! ### suffixindex_Index_Locate -/
def suffixindex_Index_Locate_an : Ann := .node none (.leaf) (.node (some [0, 1]) (.leaf) (.leaf))
def suffixindex_Index_Locate_K0  (K : Value → Hp → Prop) : Exit → Env → Hp → Prop := retK Try.prog Try.f21.results.toList K
def suffixindex_Index_Locate_b0 (x : Option Addr) (p : ByteArray) (h : Hp)  (K : Value → Hp → Prop) : Prop :=
  sx_2 Try.prog F 35 (cp [] (bodyOf Try.f21)) (ap [] suffixindex_Index_Locate_an) [(0, .pointer x), (1, .string p)] h (suffixindex_Index_Locate_K0  K)
def suffixindex_Index_Locate_b1 (x : Option Addr) (p : ByteArray) (h : Hp)  (K : Value → Hp → Prop) : Prop :=
  sx_1 Try.prog F 35 (cp [1, 1] (bodyOf Try.f21)) (ap [1, 1] suffixindex_Index_Locate_an) [(0, .pointer x), (1, .string p)] h (suffixindex_Index_Locate_K0  K)
theorem suffixindex_Index_Locate_b0_eq (x : Option Addr) (p : ByteArray) (h : Hp)  (K : Value → Hp → Prop) : suffixindex_Index_Locate_b0 x p h  K = (
  cond x.isNone
  (K (.tuple #[.slice none 0 0, .int .i64 1]) h)
  (HCalls Try.prog 33 #[.string p] h fun v1 h1 => ∃ r1 : Bool, v1 = .bool r1 ∧
  cond r1
  (K (.tuple #[.slice none 0 0, .int .i64 4]) h1)
  (suffixindex_Index_Locate_b1 x p h1  K))) := by kernel_rfl
theorem suffixindex_Index_Locate_b1_eq (x : Option Addr) (p : ByteArray) (h : Hp)  (K : Value → Hp → Prop) : suffixindex_Index_Locate_b1 x p h  K = (
  HCalls Try.prog 43 #[.pointer x, .string p] h fun v2 h2 => ∃ r2 : Int, ∃ r3 : Int, v2 = .tuple #[.int .i64 r2, .int .i64 r3] ∧
  cond (decide (r3 ≤ r2))
  (K (.tuple #[.slice none 0 0, .int .i64 0]) h2)
  (NN x fun a1 =>
  ∃ (a2 : Option Addr) (L1 C1 : Nat), cell h2 (a1.add 1) = some (.slice a2 L1 C1) ∧
  (0 ≤ r2 ∧ r2 ≤ r3 ∧ r3 ≤ (C1 : Int)) ∧
  HCalls Try.prog 28 #[.slice (subAddr a2 C1 (Int.toNat r2) 1) (Int.toNat r3 - Int.toNat r2) (C1 - Int.toNat r2)] h2 fun v3 h3 => ∃ (r4 : Option Addr) (rL1 rC1 : Nat), v3 = .slice r4 rL1 rC1 ∧
  HCalls Try.prog 44 #[.slice r4 rL1 rC1] h3 fun v4 h4 => v4 = .tuple #[] ∧
  K (.tuple #[.slice r4 rL1 rC1, .int .i64 0]) h4)) := by kernel_rfl
theorem suffixindex_Index_Locate_call {x : Option Addr} {p : ByteArray} {h : Hp} {K : Value → Hp → Prop} (hk : suffixindex_Index_Locate_b0 x p h K) : HCalls Try.prog 21 #[.pointer x, .string p] h K :=
  calls_of_snd suffixindex_Index_Locate_an Try.func21 (c := bodyOf Try.f21) rfl Try.ntmps21 (Nat.le_of_ble_eq_true rfl) (snd_2 F_ok F_mixed) hk

/-! ### suffixindex_Index_Extract -/
/-! ### strings_HasSuffix -/
/-! ### r30_Repeated -/
/-! ### suffixindex_Index_Len -/
/-! ### suffixindex_Index_Space -/
/-! ### r30_Locate -/
/-! ### slices_Clone_Sint_int -/
def slices_Clone_Sint_int_an : Ann := .leaf
def slices_Clone_Sint_int_K0  (K : Value → Hp → Prop) : Exit → Env → Hp → Prop := retK Try.prog Try.f28.results.toList K
def slices_Clone_Sint_int_b0 (s : Option Addr) (sL : Nat) (sC : Nat) (h : Hp)  (K : Value → Hp → Prop) : Prop :=
  sx_1 Try.prog F 8 (cp [] (bodyOf Try.f28)) (ap [] slices_Clone_Sint_int_an) [(0, .slice s sL sC)] h (slices_Clone_Sint_int_K0  K)
theorem slices_Clone_Sint_int_b0_eq (s : Option Addr) (sL : Nat) (sC : Nat) (h : Hp)  (K : Value → Hp → Prop) : slices_Clone_Sint_int_b0 s sL sC h  K = (
  cond (Option.isNone s)
  (K (.slice none 0 0) h)
  (New h (.cells #[] 3) fun b1 h1 =>
  appendV Try.prog 24 24 (.slice (some ⟨b1, 0, none⟩) 0 0) (.slice s sL sC) h1 (slK fun a1 l1 c1 h2 =>
  K (.slice a1 l1 c1) h2))) := by kernel_rfl
theorem slices_Clone_Sint_int_call {s : Option Addr} {sL : Nat} {sC : Nat} {h : Hp} {K : Value → Hp → Prop} (hk : slices_Clone_Sint_int_b0 s sL sC h K) : HCalls Try.prog 28 #[.slice s sL sC] h K :=
  calls_of_snd slices_Clone_Sint_int_an Try.func28 (c := bodyOf Try.f28) rfl Try.ntmps28 (Nat.le_of_ble_eq_true rfl) (snd_1 F_ok F_mixed) hk

/-! ### suffixindex_Inverse -/
def suffixindex_Inverse_an : Ann := .node none (.leaf) (.node none (.leaf) (.node (some [0, 1]) (.leaf) (.node none (.leaf) (.node none (.leaf) (.node none (.leaf) (.node (some [0, 1, 8]) (.node none (.leaf) (.loop [0, 1, 6, 7, 8, 37, 38] [(39, .int .i64)] (.node none (.leaf) (.node none (.leaf) (.node (some [0, 1, 6, 7, 8, 37, 38, 39]) (.node none (.leaf) (.node none (.leaf) (.node none (.node none (.tail 10) (.leaf)) (.leaf)))) (.leaf)))))) (.node none (.leaf) (.node none (.leaf) (.node (some [0, 1, 11]) (.node none (.leaf) (.loop [0, 1, 8, 11] [(12, .int .i64), (13, .int .i64)] (.node none (.leaf) (.node (some [0, 1, 8, 11, 12, 13]) (.node (some [0, 1, 8, 11, 12, 13]) (.leaf) (.leaf)) (.leaf))))) (.node none (.leaf) (.node (some [14]) (.leaf) (.leaf))))))))))))
def suffixindex_Inverse_K0  (K : Value → Hp → Prop) : Exit → Env → Hp → Prop := retK Try.prog Try.f29.results.toList K
def suffixindex_Inverse_K1  (K : Value → Hp → Prop) : Exit → Env → Hp → Prop := thenE (fun env h => sx_3 Try.prog F 115 (cp [1, 1, 1, 1, 1, 1, 1] (bodyOf Try.f29)) (ap [1, 1, 1, 1, 1, 1, 1] suffixindex_Inverse_an) (rs [0, 1, 8] env) h (suffixindex_Inverse_K0  K)) (suffixindex_Inverse_K0  K)
def suffixindex_Inverse_K2  (K : Value → Hp → Prop) : Exit → Env → Hp → Prop := blockE 0 (suffixindex_Inverse_K1  K)
def suffixindex_Inverse_K3 (nx0 : Int × Unit → Hp → Prop) (K : Value → Hp → Prop) : Exit → Env → Hp → Prop := thenE (fun env h => getV [(39, .int .i64)] env fun s => nx0 s h) (suffixindex_Inverse_K2  K)
def suffixindex_Inverse_K4  (K : Value → Hp → Prop) : Exit → Env → Hp → Prop := thenE (fun env h => sx_2 Try.prog F 115 (cp [1, 1, 1, 1, 1, 1, 1, 1, 1, 1] (bodyOf Try.f29)) (ap [1, 1, 1, 1, 1, 1, 1, 1, 1, 1] suffixindex_Inverse_an) (rs [0, 1, 11] env) h (suffixindex_Inverse_K0  K)) (suffixindex_Inverse_K0  K)
def suffixindex_Inverse_K5  (K : Value → Hp → Prop) : Exit → Env → Hp → Prop := blockE 2 (suffixindex_Inverse_K4  K)
def suffixindex_Inverse_K6 (nx0 : Int × Int × Unit → Hp → Prop) (K : Value → Hp → Prop) : Exit → Env → Hp → Prop := thenE (fun env h => getV [(12, .int .i64), (13, .int .i64)] env fun s => nx0 s h) (suffixindex_Inverse_K5  K)
def suffixindex_Inverse_K7 (nx0 : Int × Int × Unit → Hp → Prop) (K : Value → Hp → Prop) : Exit → Env → Hp → Prop := thenE (fun env h => sx_1 Try.prog F 115 (cp [1, 1, 1, 1, 1, 1, 1, 1, 1, 0, 1, 2, 2, 1, 1] (bodyOf Try.f29)) (ap [1, 1, 1, 1, 1, 1, 1, 1, 1, 0, 1, 2, 1, 1] suffixindex_Inverse_an) (rs [0, 1, 8, 11, 12, 13] env) h (suffixindex_Inverse_K6 nx0 K)) (suffixindex_Inverse_K6 nx0 K)
def suffixindex_Inverse_K8 (nx0 : Int × Int × Unit → Hp → Prop) (K : Value → Hp → Prop) : Exit → Env → Hp → Prop := blockE 3 (suffixindex_Inverse_K7 nx0 K)
def suffixindex_Inverse_b0 (l : Option Addr) (lL : Nat) (lC : Nat) (atv : Int) (h : Hp)  (K : Value → Hp → Prop) : Prop :=
  sx_5 Try.prog F 115 (cp [] (bodyOf Try.f29)) (ap [] suffixindex_Inverse_an) [(0, .slice l lL lC), (1, .int .i64 atv)] h (suffixindex_Inverse_K0  K)
def suffixindex_Inverse_b1 (l : Option Addr) (lL : Nat) (lC : Nat) (atv : Int) (h : Hp)  (K : Value → Hp → Prop) : Prop :=
  sx_4 Try.prog F 115 (cp [1, 1, 1] (bodyOf Try.f29)) (ap [1, 1, 1] suffixindex_Inverse_an) [(0, .slice l lL lC), (1, .int .i64 atv)] h (suffixindex_Inverse_K0  K)
def suffixindex_Inverse_b2 (t39 : Int) (l : Option Addr) (lL : Nat) (lC : Nat) (atv : Int) (first : Option Addr) (seen : Option Addr) (next : Option Addr) (nextL : Nat) (nextC : Nat) (t37 : Option Addr) (t37L : Nat) (t37C : Nat) (t38 : Int) (h : Hp) (nx0 : Int × Unit → Hp → Prop) (K : Value → Hp → Prop) : Prop :=
  sx_3 Try.prog F 115 (cp [1, 1, 1, 1, 1, 1, 0, 1, 2, 2] (bodyOf Try.f29)) (ap [1, 1, 1, 1, 1, 1, 0, 1, 2] suffixindex_Inverse_an) [(39, .int .i64 t39), (0, .slice l lL lC), (1, .int .i64 atv), (6, .pointer first), (7, .pointer seen), (8, .slice next nextL nextC), (37, .slice t37 t37L t37C), (38, .int .i64 t38)] h (suffixindex_Inverse_K3 nx0 K)
def suffixindex_Inverse_b3 (l : Option Addr) (lL : Nat) (lC : Nat) (atv : Int) (first : Option Addr) (seen : Option Addr) (next : Option Addr) (nextL : Nat) (nextC : Nat) (t37 : Option Addr) (t37L : Nat) (t37C : Nat) (t38 : Int) (t39 : Int) (h : Hp) (nx0 : Int × Unit → Hp → Prop) (K : Value → Hp → Prop) : Prop :=
  sx_2 Try.prog F 115 (cp [1, 1, 1, 1, 1, 1, 0, 1, 2, 2, 1, 1, 1] (bodyOf Try.f29)) (ap [1, 1, 1, 1, 1, 1, 0, 1, 2, 1, 1, 1] suffixindex_Inverse_an) [(0, .slice l lL lC), (1, .int .i64 atv), (6, .pointer first), (7, .pointer seen), (8, .slice next nextL nextC), (37, .slice t37 t37L t37C), (38, .int .i64 t38), (39, .int .i64 t39)] h (suffixindex_Inverse_K3 nx0 K)
def suffixindex_Inverse_b4 (l : Option Addr) (lL : Nat) (lC : Nat) (atv : Int) (next : Option Addr) (nextL : Nat) (nextC : Nat) (h : Hp)  (K : Value → Hp → Prop) : Prop :=
  sx_3 Try.prog F 115 (cp [1, 1, 1, 1, 1, 1, 1] (bodyOf Try.f29)) (ap [1, 1, 1, 1, 1, 1, 1] suffixindex_Inverse_an) [(0, .slice l lL lC), (1, .int .i64 atv), (8, .slice next nextL nextC)] h (suffixindex_Inverse_K0  K)
def suffixindex_Inverse_b5 (row : Int) (i : Int) (l : Option Addr) (lL : Nat) (lC : Nat) (atv : Int) (next : Option Addr) (nextL : Nat) (nextC : Nat) (b : Option Addr) (bL : Nat) (bC : Nat) (h : Hp) (nx0 : Int × Int × Unit → Hp → Prop) (K : Value → Hp → Prop) : Prop :=
  sx_2 Try.prog F 115 (cp [1, 1, 1, 1, 1, 1, 1, 1, 1, 0, 1, 2, 2] (bodyOf Try.f29)) (ap [1, 1, 1, 1, 1, 1, 1, 1, 1, 0, 1, 2] suffixindex_Inverse_an) [(12, .int .i64 row), (13, .int .i64 i), (0, .slice l lL lC), (1, .int .i64 atv), (8, .slice next nextL nextC), (11, .slice b bL bC)] h (suffixindex_Inverse_K6 nx0 K)
def suffixindex_Inverse_b6 (l : Option Addr) (lL : Nat) (lC : Nat) (atv : Int) (next : Option Addr) (nextL : Nat) (nextC : Nat) (b : Option Addr) (bL : Nat) (bC : Nat) (row : Int) (i : Int) (h : Hp) (nx0 : Int × Int × Unit → Hp → Prop) (K : Value → Hp → Prop) : Prop :=
  sx_1 Try.prog F 115 (cp [1, 1, 1, 1, 1, 1, 1, 1, 1, 0, 1, 2, 2, 1, 0, 2, 1] (bodyOf Try.f29)) (ap [1, 1, 1, 1, 1, 1, 1, 1, 1, 0, 1, 2, 1, 0, 1] suffixindex_Inverse_an) [(0, .slice l lL lC), (1, .int .i64 atv), (8, .slice next nextL nextC), (11, .slice b bL bC), (12, .int .i64 row), (13, .int .i64 i)] h (suffixindex_Inverse_K8 nx0 K)
def suffixindex_Inverse_b7 (l : Option Addr) (lL : Nat) (lC : Nat) (atv : Int) (b : Option Addr) (bL : Nat) (bC : Nat) (h : Hp)  (K : Value → Hp → Prop) : Prop :=
  sx_2 Try.prog F 115 (cp [1, 1, 1, 1, 1, 1, 1, 1, 1, 1] (bodyOf Try.f29)) (ap [1, 1, 1, 1, 1, 1, 1, 1, 1, 1] suffixindex_Inverse_an) [(0, .slice l lL lC), (1, .int .i64 atv), (11, .slice b bL bC)] h (suffixindex_Inverse_K0  K)
def suffixindex_Inverse_b8 (l : Option Addr) (lL : Nat) (lC : Nat) (atv : Int) (next : Option Addr) (nextL : Nat) (nextC : Nat) (b : Option Addr) (bL : Nat) (bC : Nat) (row : Int) (i : Int) (h : Hp) (nx0 : Int × Int × Unit → Hp → Prop) (K : Value → Hp → Prop) : Prop :=
  sx_1 Try.prog F 115 (cp [1, 1, 1, 1, 1, 1, 1, 1, 1, 0, 1, 2, 2, 1, 1] (bodyOf Try.f29)) (ap [1, 1, 1, 1, 1, 1, 1, 1, 1, 0, 1, 2, 1, 1] suffixindex_Inverse_an) [(0, .slice l lL lC), (1, .int .i64 atv), (8, .slice next nextL nextC), (11, .slice b bL bC), (12, .int .i64 row), (13, .int .i64 i)] h (suffixindex_Inverse_K6 nx0 K)
def suffixindex_Inverse_b9 (s : ByteArray) (h : Hp)  (K : Value → Hp → Prop) : Prop :=
  sx_1 Try.prog F 115 (cp [1, 1, 1, 1, 1, 1, 1, 1, 1, 1, 1, 1] (bodyOf Try.f29)) (ap [1, 1, 1, 1, 1, 1, 1, 1, 1, 1, 1, 1] suffixindex_Inverse_an) [(14, .string s)] h (suffixindex_Inverse_K0  K)
theorem suffixindex_Inverse_b0_eq (l : Option Addr) (lL : Nat) (lC : Nat) (atv : Int) (h : Hp)  (K : Value → Hp → Prop) : suffixindex_Inverse_b0 l lL lC atv h  K = (
  cond (decide ((4097 : Int) < (lL : Int)))
  (K (.tuple #[.string (⟨#[]⟩ : ByteArray), .int .i64 4]) h)
  (cond (decide (atv < 0))
  (K (.tuple #[.string (⟨#[]⟩ : ByteArray), .int .i64 2]) h)
  (cond (decide ((lL : Int) ≤ atv))
  (K (.tuple #[.string (⟨#[]⟩ : ByteArray), .int .i64 2]) h)
  (HCalls Try.prog 46 #[.slice l lL lC, .func (.func 47) #[] #[]] h fun v1 h1 => ∃ r1 : Bool, v1 = .bool r1 ∧
  cond r1
  (K (.tuple #[.string (⟨#[]⟩ : ByteArray), .int .i64 2]) h1)
  (suffixindex_Inverse_b1 l lL lC atv h1  K))))) := by kernel_rfl
theorem suffixindex_Inverse_b1_eq (l : Option Addr) (lL : Nat) (lC : Nat) (atv : Int) (h : Hp)  (K : Value → Hp → Prop) : suffixindex_Inverse_b1 l lL lC atv h  K = (
  HCalls Try.prog 42 #[.slice l lL lC] h fun v2 h2 => ∃ cs1 : List Value, v2 = .agg cs1.toArray ∧
  New h2 (.cells (List.replicate 257 (.int .i64 0)).toArray 65) fun b1 h3 =>
  cs1.length = 257 ∧
  StL h3 ⟨b1, 0, none⟩ cs1 fun h4 =>
  New h4 (.cells (List.replicate 256 (.int .i64 0)).toArray 74) fun b2 h5 =>
  (0 ≤ (lL : Int) ∧ (lL : Int) ≤ (lL : Int) ∧ (lL : Int) ≤ 281474976710656 ∧ (lL : Int) * ((8 : Nat) : Int) ≤ 281474976710656) ∧
  New h5 (.cells (repL (Int.toNat (lL : Int) * 1) [.int .i64 0]).toArray 3) fun b3 h6 =>
  LoopVC ((0, ()) : Int × Unit) h6 (fun (nx0 : Int × Unit → Hp → Prop) (s1 : Int × Unit) h7 => suffixindex_Inverse_b2 s1.1 l lL lC atv (some ⟨b1, 0, none⟩) (some ⟨b2, 0, none⟩) (some ⟨b3, 0, none⟩) (Int.toNat (lL : Int)) (Int.toNat (lL : Int)) l lL lC (lL : Int) h7 nx0 K)) := by kernel_rfl
theorem suffixindex_Inverse_b2_eq (t39 : Int) (l : Option Addr) (lL : Nat) (lC : Nat) (atv : Int) (first : Option Addr) (seen : Option Addr) (next : Option Addr) (nextL : Nat) (nextC : Nat) (t37 : Option Addr) (t37L : Nat) (t37C : Nat) (t38 : Int) (h : Hp) (nx0 : Int × Unit → Hp → Prop) (K : Value → Hp → Prop) : suffixindex_Inverse_b2 t39 l lL lC atv first seen next nextL nextC t37 t37L t37C t38 h nx0 K = (
  cond (decide (t39 < t38))
  ((0 ≤ t39 ∧ t39 < (t37L : Int)) ∧
  NN t37 fun a1 =>
  ∃ n1 : Int, cell h (a1.add (Int.toNat t39 * 1)) = some (.int .i64 n1) ∧
  cond (decide ((0 : Int) ≤ n1))
  ((0 ≤ n1 ∧ n1 < ((257 : Nat) : Int)) ∧
  NN first fun a2 =>
  ∃ n2 : Int, cell h (a2.add (Int.toNat n1 * 1)) = some (.int .i64 n2) ∧
  (0 ≤ n1 ∧ n1 < ((256 : Nat) : Int)) ∧
  NN seen fun a3 =>
  ∃ n3 : Int, cell h (a3.add (Int.toNat n1 * 1)) = some (.int .i64 n3) ∧
  InR (n2 + n3) ∧
  (0 ≤ t39 ∧ t39 < (nextL : Int)) ∧
  NN next fun a4 =>
  Wr h (a4.add (Int.toNat t39 * 1)) (.int .i64 (n2 + n3)) fun h8 =>
  (0 ≤ n1 ∧ n1 < ((256 : Nat) : Int)) ∧
  NN seen fun a5 =>
  ∃ n4 : Int, cell h8 (a5.add (Int.toNat n1 * 1)) = some (.int .i64 n4) ∧
  InR (n4 + 1) ∧
  (0 ≤ n1 ∧ n1 < ((256 : Nat) : Int)) ∧
  NN seen fun a6 =>
  Wr h8 (a6.add (Int.toNat n1 * 1)) (.int .i64 (n4 + 1)) fun h9 =>
  suffixindex_Inverse_b3 l lL lC atv first seen next nextL nextC t37 t37L t37C t38 t39 h9 nx0 K)
  (suffixindex_Inverse_b3 l lL lC atv first seen next nextL nextC t37 t37L t37C t38 t39 h nx0 K))
  (suffixindex_Inverse_b4 l lL lC atv next nextL nextC h  K)) := by kernel_rfl
theorem suffixindex_Inverse_b3_eq (l : Option Addr) (lL : Nat) (lC : Nat) (atv : Int) (first : Option Addr) (seen : Option Addr) (next : Option Addr) (nextL : Nat) (nextC : Nat) (t37 : Option Addr) (t37L : Nat) (t37C : Nat) (t38 : Int) (t39 : Int) (h : Hp) (nx0 : Int × Unit → Hp → Prop) (K : Value → Hp → Prop) : suffixindex_Inverse_b3 l lL lC atv first seen next nextL nextC t37 t37L t37C t38 t39 h nx0 K = (
  InR (t39 + 1) ∧
  nx0 (t39 + 1, ()) h) := by kernel_rfl
theorem suffixindex_Inverse_b4_eq (l : Option Addr) (lL : Nat) (lC : Nat) (atv : Int) (next : Option Addr) (nextL : Nat) (nextC : Nat) (h : Hp)  (K : Value → Hp → Prop) : suffixindex_Inverse_b4 l lL lC atv next nextL nextC h  K = (
  InR ((lL : Int) - 1) ∧
  (0 ≤ (lL : Int) - 1 ∧ (lL : Int) - 1 ≤ (lL : Int) - 1 ∧ (lL : Int) - 1 ≤ 281474976710656 ∧ ((lL : Int) - 1) * ((1 : Nat) : Int) ≤ 281474976710656) ∧
  New h (.cells (repL (Int.toNat ((lL : Int) - 1) * 1) [.int .u8 0]).toArray 5) fun b4 h10 =>
  InR (((Int.toNat ((lL : Int) - 1) : Nat) : Int) - 1) ∧
  LoopVC ((0, ((Int.toNat ((lL : Int) - 1) : Nat) : Int) - 1, ()) : Int × Int × Unit) h10 (fun (nx0 : Int × Int × Unit → Hp → Prop) (s2 : Int × Int × Unit) h11 => suffixindex_Inverse_b5 s2.1 s2.2.1 l lL lC atv next nextL nextC (some ⟨b4, 0, none⟩) (Int.toNat ((lL : Int) - 1)) (Int.toNat ((lL : Int) - 1)) h11 nx0 K)) := by kernel_rfl
theorem suffixindex_Inverse_b5_eq (row : Int) (i : Int) (l : Option Addr) (lL : Nat) (lC : Nat) (atv : Int) (next : Option Addr) (nextL : Nat) (nextC : Nat) (b : Option Addr) (bL : Nat) (bC : Nat) (h : Hp) (nx0 : Int × Int × Unit → Hp → Prop) (K : Value → Hp → Prop) : suffixindex_Inverse_b5 row i l lL lC atv next nextL nextC b bL bC h nx0 K = (
  cond (decide ((0 : Int) ≤ i))
  (cond (decide ((lL : Int) ≤ row))
  (K (.tuple #[.string (⟨#[]⟩ : ByteArray), .int .i64 12]) h)
  ((0 ≤ row ∧ row < (lL : Int)) ∧
  NN l fun a7 =>
  ∃ n5 : Int, cell h (a7.add (Int.toNat row * 1)) = some (.int .i64 n5) ∧
  cond (decide (n5 < 0))
  (K (.tuple #[.string (⟨#[]⟩ : ByteArray), .int .i64 12]) h)
  (suffixindex_Inverse_b6 l lL lC atv next nextL nextC b bL bC row i h nx0 K)))
  (suffixindex_Inverse_b7 l lL lC atv b bL bC h  K)) := by kernel_rfl
theorem suffixindex_Inverse_b6_eq (l : Option Addr) (lL : Nat) (lC : Nat) (atv : Int) (next : Option Addr) (nextL : Nat) (nextC : Nat) (b : Option Addr) (bL : Nat) (bC : Nat) (row : Int) (i : Int) (h : Hp) (nx0 : Int × Int × Unit → Hp → Prop) (K : Value → Hp → Prop) : suffixindex_Inverse_b6 l lL lC atv next nextL nextC b bL bC row i h nx0 K = (
  (0 ≤ row ∧ row < (lL : Int)) ∧
  NN l fun a8 =>
  ∃ n6 : Int, cell h (a8.add (Int.toNat row * 1)) = some (.int .i64 n6) ∧
  (0 ≤ i ∧ i < (bL : Int)) ∧
  NN b fun a9 =>
  Wr h (a9.add (Int.toNat i * 1)) (.int .u8 (IntKind.u8.wrap n6)) fun h12 =>
  (0 ≤ row ∧ row < (nextL : Int)) ∧
  NN next fun a10 =>
  ∃ n7 : Int, cell h12 (a10.add (Int.toNat row * 1)) = some (.int .i64 n7) ∧
  suffixindex_Inverse_b8 l lL lC atv next nextL nextC b bL bC n7 i h12 nx0 K) := by kernel_rfl
theorem suffixindex_Inverse_b7_eq (l : Option Addr) (lL : Nat) (lC : Nat) (atv : Int) (b : Option Addr) (bL : Nat) (bC : Nat) (h : Hp)  (K : Value → Hp → Prop) : suffixindex_Inverse_b7 l lL lC atv b bL bC h  K = (
  hw Try.prog (convert 42 9 (.slice b bL bC)) h (strK fun s3 h13 =>
  HCalls Try.prog 34 #[.string s3] h13 fun v4 h14 => ∃ (r2 : Option Addr) (rL1 rC1 : Nat), v4 = .slice r2 rL1 rC1 ∧
  HCalls Try.prog 39 #[.string s3, .slice r2 rL1 rC1] h14 fun v5 h15 => ∃ (r3 : Option Addr) (rL2 rC2 : Nat), ∃ r4 : Int, v5 = .tuple #[.slice r3 rL2 rC2, .int .i64 r4] ∧
  cond (!decide (r4 = atv))
  (K (.tuple #[.string (⟨#[]⟩ : ByteArray), .int .i64 12]) h15)
  (HCalls Try.prog 15 #[.slice r3 rL2 rC2, .slice l lL lC] h15 fun v6 h16 => ∃ r5 : Bool, v6 = .bool r5 ∧
  cond (!r5)
  (K (.tuple #[.string (⟨#[]⟩ : ByteArray), .int .i64 12]) h16)
  (suffixindex_Inverse_b9 s3 h16  K)))) := by kernel_rfl
theorem suffixindex_Inverse_b8_eq (l : Option Addr) (lL : Nat) (lC : Nat) (atv : Int) (next : Option Addr) (nextL : Nat) (nextC : Nat) (b : Option Addr) (bL : Nat) (bC : Nat) (row : Int) (i : Int) (h : Hp) (nx0 : Int × Int × Unit → Hp → Prop) (K : Value → Hp → Prop) : suffixindex_Inverse_b8 l lL lC atv next nextL nextC b bL bC row i h nx0 K = (
  InR (i - 1) ∧
  nx0 (row, i - 1, ()) h) := by kernel_rfl
theorem suffixindex_Inverse_b9_eq (s : ByteArray) (h : Hp)  (K : Value → Hp → Prop) : suffixindex_Inverse_b9 s h  K = (
  K (.tuple #[.string s, .int .i64 0]) h) := by kernel_rfl
theorem suffixindex_Inverse_call {l : Option Addr} {lL : Nat} {lC : Nat} {atv : Int} {h : Hp} {K : Value → Hp → Prop} (hk : suffixindex_Inverse_b0 l lL lC atv h K) : HCalls Try.prog 29 #[.slice l lL lC, .int .i64 atv] h K :=
  calls_of_snd suffixindex_Inverse_an Try.func29 (c := bodyOf Try.f29) rfl Try.ntmps29 (Nat.le_of_ble_eq_true rfl) (snd_5 F_ok F_mixed) hk

end Go.Proofs.Ytipmcfpjdebpdaa
