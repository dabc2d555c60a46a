/- Plain statements of what each block of code of this seat asks; printed by a program, checked by Lean. -/
import Derived.Test.YtdlkohenamlnaaaGreatSxV0
set_option maxRecDepth 10000
namespace Go.Proofs.YtdlkohenamlnaaaGreat
open Go Go.Sx

/-! ### r35_Time -/
def r35_Time_an : Ann := .leaf
def r35_Time_K0  (K : Value → Hp → Prop) : Exit → Env → Hp → Prop := retK Tryz.prog Tryz.f11.results.toList K
def r35_Time_b0 (nv : Int) (h : Hp)  (K : Value → Hp → Prop) : Prop :=
  sx_1 Tryz.prog F 9 (cp [] (bodyOf Tryz.f11)) (ap [] r35_Time_an) [(0, .int .i64 nv)] h (r35_Time_K0  K)
theorem r35_Time_b0_eq (nv : Int) (h : Hp)  (K : Value → Hp → Prop) : r35_Time_b0 nv h  K = (
  cond (decide ((0 : Int) ≤ nv))
  (K (.bool (decide (nv ≤ 1073741824))) h)
  (K (.bool false) h)) := by kernel_rfl
theorem r35_Time_call {nv : Int} {h : Hp} {K : Value → Hp → Prop} (hk : r35_Time_b0 nv h K) : HCalls Tryz.prog 11 #[.int .i64 nv] h K :=
  calls_of_snd r35_Time_an Tryz.func11 (c := bodyOf Tryz.f11) rfl Tryz.ntmps11 (Nat.le_of_ble_eq_true rfl) (snd_1 F_ok F_mixed) hk

/-! ### r35_Key -/
def r35_Key_an : Ann := .leaf
def r35_Key_K0  (K : Value → Hp → Prop) : Exit → Env → Hp → Prop := retK Tryz.prog Tryz.f12.results.toList K
def r35_Key_b0 (nv : Int) (h : Hp)  (K : Value → Hp → Prop) : Prop :=
  sx_1 Tryz.prog F 9 (cp [] (bodyOf Tryz.f12)) (ap [] r35_Key_an) [(0, .int .i64 nv)] h (r35_Key_K0  K)
theorem r35_Key_b0_eq (nv : Int) (h : Hp)  (K : Value → Hp → Prop) : r35_Key_b0 nv h  K = (
  cond (decide (((-1048576) : Int) ≤ nv))
  (K (.bool (decide (nv ≤ 1048576))) h)
  (K (.bool false) h)) := by kernel_rfl
theorem r35_Key_call {nv : Int} {h : Hp} {K : Value → Hp → Prop} (hk : r35_Key_b0 nv h K) : HCalls Tryz.prog 12 #[.int .i64 nv] h K :=
  calls_of_snd r35_Key_an Tryz.func12 (c := bodyOf Tryz.f12) rfl Tryz.ntmps12 (Nat.le_of_ble_eq_true rfl) (snd_1 F_ok F_mixed) hk

/-! ### partialretro_NewQueue -/
def partialretro_NewQueue_an : Ann := .leaf
def partialretro_NewQueue_K0  (K : Value → Hp → Prop) : Exit → Env → Hp → Prop := retK Tryz.prog Tryz.f13.results.toList K
def partialretro_NewQueue_b0  (h : Hp)  (K : Value → Hp → Prop) : Prop :=
  sx_1 Tryz.prog F 3 (cp [] (bodyOf Tryz.f13)) (ap [] partialretro_NewQueue_an) [] h (partialretro_NewQueue_K0  K)
theorem partialretro_NewQueue_b0_eq  (h : Hp)  (K : Value → Hp → Prop) : partialretro_NewQueue_b0  h  K = (
  New h (.cells #[.slice none 0 0, .slice none 0 0, .slice none 0 0] 96) fun b1 h1 =>
  K (.pointer (some ⟨b1, 0, none⟩)) h1) := by kernel_rfl
theorem partialretro_NewQueue_call  {h : Hp} {K : Value → Hp → Prop} (hk : partialretro_NewQueue_b0  h K) : HCalls Tryz.prog 13 #[] h K :=
  calls_of_snd partialretro_NewQueue_an Tryz.func13 (c := bodyOf Tryz.f13) rfl Tryz.ntmps13 (Nat.le_of_ble_eq_true rfl) (snd_1 F_ok F_mixed) hk

/-! ### l35_queue -/
def l35_queue_an : Ann := .node none (.leaf) (.node (some [0, 1, 5]) (.leaf) (.leaf))
def l35_queue_K0  (K : Value → Hp → Prop) : Exit → Env → Hp → Prop := retK Tryz.prog Tryz.f14.results.toList K
def l35_queue_b0 (q : Option Addr) (l : Option Addr) (lL : Nat) (lC : Nat) (s_0 : Int) (s_1 : Int) (s_2 : Int) (s_3 : Int) (s_4 : Option Addr) (s_4L : Nat) (s_4C : Nat) (h : Hp)  (K : Value → Hp → Prop) : Prop :=
  sx_2 Tryz.prog F 68 (cp [] (bodyOf Tryz.f14)) (ap [] l35_queue_an) [(0, .pointer q), (1, .slice l lL lC), (2, .agg #[.int .i64 s_0, .int .i64 s_1, .int .i64 s_2, .int .i64 s_3, .slice s_4 s_4L s_4C])] h (l35_queue_K0  K)
def l35_queue_b1 (q : Option Addr) (l : Option Addr) (lL : Nat) (lC : Nat) (s : Option Addr) (h : Hp)  (K : Value → Hp → Prop) : Prop :=
  sx_1 Tryz.prog F 68 (cp [1, 1] (bodyOf Tryz.f14)) (ap [1, 1] l35_queue_an) [(0, .pointer q), (1, .slice l lL lC), (5, .pointer s)] h (l35_queue_K0  K)
theorem l35_queue_b0_eq (q : Option Addr) (l : Option Addr) (lL : Nat) (lC : Nat) (s_0 : Int) (s_1 : Int) (s_2 : Int) (s_3 : Int) (s_4 : Option Addr) (s_4L : Nat) (s_4C : Nat) (h : Hp)  (K : Value → Hp → Prop) : l35_queue_b0 q l lL lC s_0 s_1 s_2 s_3 s_4 s_4L s_4C h  K = (
  New h (.cells #[.int .i64 s_0, .int .i64 s_1, .int .i64 s_2, .int .i64 s_3, .slice s_4 s_4L s_4C] 27) fun b1 h1 =>
  ∃ n1 : Int, cell h1 ⟨b1, 0, none⟩ = some (.int .i64 n1) ∧
  cond (decide (n1 = 0))
  (∃ n2 : Int, cell h1 ((⟨b1, 0, none⟩ : Addr).add 1) = some (.int .i64 n2) ∧
  ∃ n3 : Int, cell h1 ((⟨b1, 0, none⟩ : Addr).add 2) = some (.int .i64 n3) ∧
  HCalls Tryz.prog 56 #[.slice l lL lC, .agg #[.int .i64 n2, .int .i64 n3, .bool false]] h1 fun v1 h2 => ∃ (r1 : Option Addr) (rL1 rC1 : Nat), ∃ r2 : Int, v1 = .tuple #[.slice r1 rL1 rC1, .int .i64 r2] ∧
  ∃ n4 : Int, cell h2 ((⟨b1, 0, none⟩ : Addr).add 1) = some (.int .i64 n4) ∧
  ∃ n5 : Int, cell h2 ((⟨b1, 0, none⟩ : Addr).add 2) = some (.int .i64 n5) ∧
  HCalls Tryz.prog 20 #[.pointer q, .int .i64 n4, .int .i64 n5] h2 fun v2 h3 => ∃ r3 : Int, v2 = .int .i64 r3 ∧
  K (.tuple #[.slice r1 rL1 rC1, .bool (decide (r3 = r2))]) h3)
  (cond (decide (n1 = 1))
  (∃ n6 : Int, cell h1 ((⟨b1, 0, none⟩ : Addr).add 1) = some (.int .i64 n6) ∧
  HCalls Tryz.prog 56 #[.slice l lL lC, .agg #[.int .i64 n6, .int .i64 0, .bool true]] h1 fun v3 h4 => ∃ (r4 : Option Addr) (rL2 rC2 : Nat), ∃ r5 : Int, v3 = .tuple #[.slice r4 rL2 rC2, .int .i64 r5] ∧
  ∃ n7 : Int, cell h4 ((⟨b1, 0, none⟩ : Addr).add 1) = some (.int .i64 n7) ∧
  HCalls Tryz.prog 25 #[.pointer q, .int .i64 n7] h4 fun v4 h5 => ∃ r6 : Int, v4 = .int .i64 r6 ∧
  K (.tuple #[.slice r4 rL2 rC2, .bool (decide (r6 = r5))]) h5)
  (l35_queue_b1 q l lL lC (some ⟨b1, 0, none⟩) h1  K))) := by kernel_rfl
theorem l35_queue_b1_eq (q : Option Addr) (l : Option Addr) (lL : Nat) (lC : Nat) (s : Option Addr) (h : Hp)  (K : Value → Hp → Prop) : l35_queue_b1 q l lL lC s h  K = (
  NN s fun a1 =>
  ∃ n8 : Int, cell h (a1.add 1) = some (.int .i64 n8) ∧
  HCalls Tryz.prog 57 #[.slice l lL lC, .int .i64 n8] h fun v5 h6 => ∃ (r7 : Option Addr) (rL3 rC3 : Nat), ∃ r8 : Int, v5 = .tuple #[.slice r7 rL3 rC3, .int .i64 r8] ∧
  NN s fun a2 =>
  ∃ n9 : Int, cell h6 (a2.add 1) = some (.int .i64 n9) ∧
  HCalls Tryz.prog 29 #[.pointer q, .int .i64 n9] h6 fun v6 h7 => ∃ r9 : Int, v6 = .int .i64 r9 ∧
  K (.tuple #[.slice r7 rL3 rC3, .bool (decide (r9 = r8))]) h7) := by kernel_rfl
theorem l35_queue_call {q : Option Addr} {l : Option Addr} {lL : Nat} {lC : Nat} {s_0 : Int} {s_1 : Int} {s_2 : Int} {s_3 : Int} {s_4 : Option Addr} {s_4L : Nat} {s_4C : Nat} {h : Hp} {K : Value → Hp → Prop} (hk : l35_queue_b0 q l lL lC s_0 s_1 s_2 s_3 s_4 s_4L s_4C h K) : HCalls Tryz.prog 14 #[.pointer q, .slice l lL lC, .agg #[.int .i64 s_0, .int .i64 s_1, .int .i64 s_2, .int .i64 s_3, .slice s_4 s_4L s_4C]] h K :=
  calls_of_snd l35_queue_an Tryz.func14 (c := bodyOf Tryz.f14) rfl Tryz.ntmps14 (Nat.le_of_ble_eq_true rfl) (snd_2 F_ok F_mixed) hk

/-! ### r35_Find -/
def r35_Find_an : Ann := .node none (.leaf) (.node (some []) (.node none (.leaf) (.loop [0, 1] [(5, .int .i64)] (.node none (.leaf) (.node (some [0, 1, 5]) (.leaf) (.leaf))))) (.leaf))
def r35_Find_K0  (K : Value → Hp → Prop) : Exit → Env → Hp → Prop := retK Tryz.prog Tryz.f15.results.toList K
def r35_Find_K1  (K : Value → Hp → Prop) : Exit → Env → Hp → Prop := thenE (fun env h => sx_2 Tryz.prog F 20 (cp [1, 1] (bodyOf Tryz.f15)) (ap [1, 1] r35_Find_an) (rs [] env) h (r35_Find_K0  K)) (r35_Find_K0  K)
def r35_Find_K2  (K : Value → Hp → Prop) : Exit → Env → Hp → Prop := blockE 0 (r35_Find_K1  K)
def r35_Find_K3 (nx0 : Int × Unit → Hp → Prop) (K : Value → Hp → Prop) : Exit → Env → Hp → Prop := thenE (fun env h => getV [(5, .int .i64)] env fun s => nx0 s h) (r35_Find_K2  K)
def r35_Find_b0 (l : Option Addr) (lL : Nat) (lC : Nat) (time : Int) (h : Hp)  (K : Value → Hp → Prop) : Prop :=
  sx_3 Tryz.prog F 20 (cp [] (bodyOf Tryz.f15)) (ap [] r35_Find_an) [(0, .slice l lL lC), (1, .int .i64 time)] h (r35_Find_K0  K)
def r35_Find_b1 (i : Int) (l : Option Addr) (lL : Nat) (lC : Nat) (time : Int) (h : Hp) (nx0 : Int × Unit → Hp → Prop) (K : Value → Hp → Prop) : Prop :=
  sx_2 Tryz.prog F 20 (cp [1, 0, 1, 2, 2] (bodyOf Tryz.f15)) (ap [1, 0, 1, 2] r35_Find_an) [(5, .int .i64 i), (0, .slice l lL lC), (1, .int .i64 time)] h (r35_Find_K3 nx0 K)
def r35_Find_b2 (l : Option Addr) (lL : Nat) (lC : Nat) (time : Int) (i : Int) (h : Hp) (nx0 : Int × Unit → Hp → Prop) (K : Value → Hp → Prop) : Prop :=
  sx_1 Tryz.prog F 20 (cp [1, 0, 1, 2, 2, 1, 1] (bodyOf Tryz.f15)) (ap [1, 0, 1, 2, 1, 1] r35_Find_an) [(0, .slice l lL lC), (1, .int .i64 time), (5, .int .i64 i)] h (r35_Find_K3 nx0 K)
def r35_Find_b3  (h : Hp)  (K : Value → Hp → Prop) : Prop :=
  sx_2 Tryz.prog F 20 (cp [1, 1] (bodyOf Tryz.f15)) (ap [1, 1] r35_Find_an) [] h (r35_Find_K0  K)
theorem r35_Find_b0_eq (l : Option Addr) (lL : Nat) (lC : Nat) (time : Int) (h : Hp)  (K : Value → Hp → Prop) : r35_Find_b0 l lL lC time h  K = (
  LoopVC ((0, ()) : Int × Unit) h (fun (nx0 : Int × Unit → Hp → Prop) (s1 : Int × Unit) h1 => r35_Find_b1 s1.1 l lL lC time h1 nx0 K)) := by kernel_rfl
theorem r35_Find_b1_eq (i : Int) (l : Option Addr) (lL : Nat) (lC : Nat) (time : Int) (h : Hp) (nx0 : Int × Unit → Hp → Prop) (K : Value → Hp → Prop) : r35_Find_b1 i l lL lC time h nx0 K = (
  cond (decide (i < (lL : Int)))
  ((0 ≤ i ∧ i < (lL : Int)) ∧
  NN l fun a1 =>
  ∃ n1 : Int, cell h (a1.add (Int.toNat i * 3)) = some (.int .i64 n1) ∧
  cond (decide (n1 = time))
  (K (.int .i64 i) h)
  (r35_Find_b2 l lL lC time i h nx0 K))
  (r35_Find_b3  h  K)) := by kernel_rfl
theorem r35_Find_b2_eq (l : Option Addr) (lL : Nat) (lC : Nat) (time : Int) (i : Int) (h : Hp) (nx0 : Int × Unit → Hp → Prop) (K : Value → Hp → Prop) : r35_Find_b2 l lL lC time i h nx0 K = (
  InR (i + 1) ∧
  nx0 (i + 1, ()) h) := by kernel_rfl
theorem r35_Find_b3_eq  (h : Hp)  (K : Value → Hp → Prop) : r35_Find_b3  h  K = (
  K (.int .i64 (-1)) h) := by kernel_rfl
theorem r35_Find_call {l : Option Addr} {lL : Nat} {lC : Nat} {time : Int} {h : Hp} {K : Value → Hp → Prop} (hk : r35_Find_b0 l lL lC time h K) : HCalls Tryz.prog 15 #[.slice l lL lC, .int .i64 time] h K :=
  calls_of_snd r35_Find_an Tryz.func15 (c := bodyOf Tryz.f15) rfl Tryz.ntmps15 (Nat.le_of_ble_eq_true rfl) (snd_3 F_ok F_mixed) hk

/-! ### partialretro_Queue_Keys -/
def partialretro_Queue_Keys_an : Ann := .node none (.leaf) (.node none (.leaf) (.node none (.leaf) (.node (some [3]) (.node none (.leaf) (.loop [11, 12] [(3, .slice), (13, .int .i64)] (.node none (.leaf) (.node none (.leaf) (.node (some [3, 11, 12, 13]) (.leaf) (.leaf)))))) (.leaf))))
def partialretro_Queue_Keys_K0  (K : Value → Hp → Prop) : Exit → Env → Hp → Prop := retK Tryz.prog Tryz.f16.results.toList K
def partialretro_Queue_Keys_K1  (K : Value → Hp → Prop) : Exit → Env → Hp → Prop := thenE (fun env h => sx_2 Tryz.prog F 24 (cp [1, 1, 1, 1] (bodyOf Tryz.f16)) (ap [1, 1, 1, 1] partialretro_Queue_Keys_an) (rs [3] env) h (partialretro_Queue_Keys_K0  K)) (partialretro_Queue_Keys_K0  K)
def partialretro_Queue_Keys_K2  (K : Value → Hp → Prop) : Exit → Env → Hp → Prop := blockE 0 (partialretro_Queue_Keys_K1  K)
def partialretro_Queue_Keys_K3 (nx0 : (Option Addr × Nat × Nat) × Int × Unit → Hp → Prop) (K : Value → Hp → Prop) : Exit → Env → Hp → Prop := thenE (fun env h => getV [(3, .slice), (13, .int .i64)] env fun s => nx0 s h) (partialretro_Queue_Keys_K2  K)
def partialretro_Queue_Keys_b0 (q : Option Addr) (h : Hp)  (K : Value → Hp → Prop) : Prop :=
  sx_3 Tryz.prog F 24 (cp [] (bodyOf Tryz.f16)) (ap [] partialretro_Queue_Keys_an) [(0, .pointer q)] h (partialretro_Queue_Keys_K0  K)
def partialretro_Queue_Keys_b1 (out : Option Addr) (outL : Nat) (outC : Nat) (t13 : Int) (t11 : Option Addr) (t11L : Nat) (t11C : Nat) (t12 : Int) (h : Hp) (nx0 : (Option Addr × Nat × Nat) × Int × Unit → Hp → Prop) (K : Value → Hp → Prop) : Prop :=
  sx_2 Tryz.prog F 24 (cp [1, 1, 1, 0, 1, 2, 2] (bodyOf Tryz.f16)) (ap [1, 1, 1, 0, 1, 2] partialretro_Queue_Keys_an) [(3, .slice out outL outC), (13, .int .i64 t13), (11, .slice t11 t11L t11C), (12, .int .i64 t12)] h (partialretro_Queue_Keys_K3 nx0 K)
def partialretro_Queue_Keys_b2 (out : Option Addr) (outL : Nat) (outC : Nat) (t11 : Option Addr) (t11L : Nat) (t11C : Nat) (t12 : Int) (t13 : Int) (h : Hp) (nx0 : (Option Addr × Nat × Nat) × Int × Unit → Hp → Prop) (K : Value → Hp → Prop) : Prop :=
  sx_1 Tryz.prog F 24 (cp [1, 1, 1, 0, 1, 2, 2, 1, 1, 1] (bodyOf Tryz.f16)) (ap [1, 1, 1, 0, 1, 2, 1, 1, 1] partialretro_Queue_Keys_an) [(3, .slice out outL outC), (11, .slice t11 t11L t11C), (12, .int .i64 t12), (13, .int .i64 t13)] h (partialretro_Queue_Keys_K3 nx0 K)
def partialretro_Queue_Keys_b3 (out : Option Addr) (outL : Nat) (outC : Nat) (h : Hp)  (K : Value → Hp → Prop) : Prop :=
  sx_2 Tryz.prog F 24 (cp [1, 1, 1, 1] (bodyOf Tryz.f16)) (ap [1, 1, 1, 1] partialretro_Queue_Keys_an) [(3, .slice out outL outC)] h (partialretro_Queue_Keys_K0  K)
theorem partialretro_Queue_Keys_b0_eq (q : Option Addr) (h : Hp)  (K : Value → Hp → Prop) : partialretro_Queue_Keys_b0 q h  K = (
  cond q.isNone
  (K (.slice none 0 0) h)
  (NN q fun a1 =>
  ∃ (a2 : Option Addr) (L1 C1 : Nat), cell h (a1.add 1) = some (.slice a2 L1 C1) ∧
  LoopVC (((none, 0, 0), 0, ()) : (Option Addr × Nat × Nat) × Int × Unit) h (fun (nx0 : (Option Addr × Nat × Nat) × Int × Unit → Hp → Prop) (s1 : (Option Addr × Nat × Nat) × Int × Unit) h1 => partialretro_Queue_Keys_b1 s1.1.1 s1.1.2.1 s1.1.2.2 s1.2.1 a2 L1 C1 (L1 : Int) h1 nx0 K))) := by kernel_rfl
theorem partialretro_Queue_Keys_b1_eq (out : Option Addr) (outL : Nat) (outC : Nat) (t13 : Int) (t11 : Option Addr) (t11L : Nat) (t11C : Nat) (t12 : Int) (h : Hp) (nx0 : (Option Addr × Nat × Nat) × Int × Unit → Hp → Prop) (K : Value → Hp → Prop) : partialretro_Queue_Keys_b1 out outL outC t13 t11 t11L t11C t12 h nx0 K = (
  cond (decide (t13 < t12))
  ((0 ≤ t13 ∧ t13 < (t11L : Int)) ∧
  NN t11 fun a3 =>
  ∃ n1 : Int, ∃ n2 : Int, cell h (a3.add (Int.toNat t13 * 2)) = some (.int .i64 n1) ∧
  cell h ((a3.add (Int.toNat t13 * 2)).add 1) = some (.int .i64 n2) ∧
  New h (.cells #[.int .i64 0, .int .i64 0] 101) fun b1 h2 =>
  Wr h2 ⟨b1, 0, none⟩ (.int .i64 n1) fun h3 =>
  Wr h3 ((⟨b1, 0, none⟩ : Addr).add 1) (.int .i64 n2) fun h4 =>
  ∃ n3 : Int, cell h4 ⟨b1, 0, none⟩ = some (.int .i64 n3) ∧
  New h4 (.cells #[.int .i64 n3] 3) fun b2 h5 =>
  appendV Tryz.prog 23 23 (.slice out outL outC) (.slice (some ⟨b2, 0, none⟩) 1 1) h5 (slK fun a4 l1 c1 h6 =>
  partialretro_Queue_Keys_b2 a4 l1 c1 t11 t11L t11C t12 t13 h6 nx0 K))
  (partialretro_Queue_Keys_b3 out outL outC h  K)) := by kernel_rfl
theorem partialretro_Queue_Keys_b2_eq (out : Option Addr) (outL : Nat) (outC : Nat) (t11 : Option Addr) (t11L : Nat) (t11C : Nat) (t12 : Int) (t13 : Int) (h : Hp) (nx0 : (Option Addr × Nat × Nat) × Int × Unit → Hp → Prop) (K : Value → Hp → Prop) : partialretro_Queue_Keys_b2 out outL outC t11 t11L t11C t12 t13 h nx0 K = (
  InR (t13 + 1) ∧
  nx0 ((out, outL, outC), t13 + 1, ()) h) := by kernel_rfl
theorem partialretro_Queue_Keys_b3_eq (out : Option Addr) (outL : Nat) (outC : Nat) (h : Hp)  (K : Value → Hp → Prop) : partialretro_Queue_Keys_b3 out outL outC h  K = (
  K (.slice out outL outC) h) := by kernel_rfl
theorem partialretro_Queue_Keys_call {q : Option Addr} {h : Hp} {K : Value → Hp → Prop} (hk : partialretro_Queue_Keys_b0 q h K) : HCalls Tryz.prog 16 #[.pointer q] h K :=
  calls_of_snd partialretro_Queue_Keys_an Tryz.func16 (c := bodyOf Tryz.f16) rfl Tryz.ntmps16 (Nat.le_of_ble_eq_true rfl) (snd_3 F_ok F_mixed) hk

/-! ### partialretro_Queue_Bridges -/
def partialretro_Queue_Bridges_an : Ann := .leaf
def partialretro_Queue_Bridges_K0  (K : Value → Hp → Prop) : Exit → Env → Hp → Prop := retK Tryz.prog Tryz.f17.results.toList K
def partialretro_Queue_Bridges_b0 (q : Option Addr) (h : Hp)  (K : Value → Hp → Prop) : Prop :=
  sx_1 Tryz.prog F 10 (cp [] (bodyOf Tryz.f17)) (ap [] partialretro_Queue_Bridges_an) [(0, .pointer q)] h (partialretro_Queue_Bridges_K0  K)
theorem partialretro_Queue_Bridges_b0_eq (q : Option Addr) (h : Hp)  (K : Value → Hp → Prop) : partialretro_Queue_Bridges_b0 q h  K = (
  cond q.isNone
  (K (.slice none 0 0) h)
  (NN q fun a1 =>
  ∃ (a2 : Option Addr) (L1 C1 : Nat), cell h (a1.add 2) = some (.slice a2 L1 C1) ∧
  HCalls Tryz.prog 24 #[.slice a2 L1 C1] h fun v1 h1 => ∃ (r1 : Option Addr) (rL1 rC1 : Nat), v1 = .slice r1 rL1 rC1 ∧
  K (.slice r1 rL1 rC1) h1)) := by kernel_rfl
theorem partialretro_Queue_Bridges_call {q : Option Addr} {h : Hp} {K : Value → Hp → Prop} (hk : partialretro_Queue_Bridges_b0 q h K) : HCalls Tryz.prog 17 #[.pointer q] h K :=
  calls_of_snd partialretro_Queue_Bridges_an Tryz.func17 (c := bodyOf Tryz.f17) rfl Tryz.ntmps17 (Nat.le_of_ble_eq_true rfl) (snd_1 F_ok F_mixed) hk

/-! ### r35_After -/
def r35_After_an : Ann := .node none (.leaf) (.node none (.leaf) (.node (some [6]) (.node none (.leaf) (.loop [0, 1] [(6, .slice), (7, .int .i64)] (.node none (.leaf) (.node (some [0, 1, 6, 7]) (.node none (.leaf) (.node none (.leaf) (.node none (.leaf) (.plan (.qu 1 (.qu 2 (.qu 3 (.qu 5 (.qu 6 (.qu 7 (.qu 8 (.wo 0 (.wo 4 (.wo 9 (.wo 10 .fin .no) .no) .no) .no)))))))))))) (.leaf))))) (.leaf)))
def r35_After_K0  (K : Value → Hp → Prop) : Exit → Env → Hp → Prop := retK Tryz.prog Tryz.f18.results.toList K
def r35_After_K1  (K : Value → Hp → Prop) : Exit → Env → Hp → Prop := thenE (fun env h => sx_2 Tryz.prog F 45 (cp [1, 1, 1] (bodyOf Tryz.f18)) (ap [1, 1, 1] r35_After_an) (rs [6] env) h (r35_After_K0  K)) (r35_After_K0  K)
def r35_After_K2  (K : Value → Hp → Prop) : Exit → Env → Hp → Prop := blockE 0 (r35_After_K1  K)
def r35_After_K3 (nx0 : (Option Addr × Nat × Nat) × Int × Unit → Hp → Prop) (K : Value → Hp → Prop) : Exit → Env → Hp → Prop := thenE (fun env h => getV [(6, .slice), (7, .int .i64)] env fun s => nx0 s h) (r35_After_K2  K)
def r35_After_b0 (l : Option Addr) (lL : Nat) (lC : Nat) (nv : Int) (h : Hp)  (K : Value → Hp → Prop) : Prop :=
  sx_3 Tryz.prog F 45 (cp [] (bodyOf Tryz.f18)) (ap [] r35_After_an) [(0, .slice l lL lC), (1, .int .i64 nv)] h (r35_After_K0  K)
def r35_After_b1 (inv : Option Addr) (invL : Nat) (invC : Nat) (i : Int) (l : Option Addr) (lL : Nat) (lC : Nat) (nv : Int) (h : Hp) (nx0 : (Option Addr × Nat × Nat) × Int × Unit → Hp → Prop) (K : Value → Hp → Prop) : Prop :=
  sx_2 Tryz.prog F 45 (cp [1, 1, 0, 1, 2, 2] (bodyOf Tryz.f18)) (ap [1, 1, 0, 1, 2] r35_After_an) [(6, .slice inv invL invC), (7, .int .i64 i), (0, .slice l lL lC), (1, .int .i64 nv)] h (r35_After_K3 nx0 K)
def r35_After_b2 (l : Option Addr) (lL : Nat) (lC : Nat) (nv : Int) (inv : Option Addr) (invL : Nat) (invC : Nat) (i : Int) (h : Hp) (nx0 : (Option Addr × Nat × Nat) × Int × Unit → Hp → Prop) (K : Value → Hp → Prop) : Prop :=
  sx_1 Tryz.prog F 45 (cp [1, 1, 0, 1, 2, 2, 1, 1] (bodyOf Tryz.f18)) (ap [1, 1, 0, 1, 2, 1, 1] r35_After_an) [(0, .slice l lL lC), (1, .int .i64 nv), (6, .slice inv invL invC), (7, .int .i64 i)] h (r35_After_K3 nx0 K)
def r35_After_b3 (inv : Option Addr) (invL : Nat) (invC : Nat) (h : Hp)  (K : Value → Hp → Prop) : Prop :=
  sx_2 Tryz.prog F 45 (cp [1, 1, 1] (bodyOf Tryz.f18)) (ap [1, 1, 1] r35_After_an) [(6, .slice inv invL invC)] h (r35_After_K0  K)
theorem r35_After_b0_eq (l : Option Addr) (lL : Nat) (lC : Nat) (nv : Int) (h : Hp)  (K : Value → Hp → Prop) : r35_After_b0 l lL lC nv h  K = (
  LoopVC (((none, 0, 0), 0, ()) : (Option Addr × Nat × Nat) × Int × Unit) h (fun (nx0 : (Option Addr × Nat × Nat) × Int × Unit → Hp → Prop) (s1 : (Option Addr × Nat × Nat) × Int × Unit) h1 => r35_After_b1 s1.1.1 s1.1.2.1 s1.1.2.2 s1.2.1 l lL lC nv h1 nx0 K)) := by kernel_rfl
theorem r35_After_b1_eq (inv : Option Addr) (invL : Nat) (invC : Nat) (i : Int) (l : Option Addr) (lL : Nat) (lC : Nat) (nv : Int) (h : Hp) (nx0 : (Option Addr × Nat × Nat) × Int × Unit → Hp → Prop) (K : Value → Hp → Prop) : r35_After_b1 inv invL invC i l lL lC nv h nx0 K = (
  cond (decide (i < nv))
  ((0 ≤ i ∧ i < (lL : Int)) ∧
  NN l fun a1 =>
  ∃ b1 : Bool, cell h ((a1.add (Int.toNat i * 3)).add 2) = some (.bool b1) ∧
  cond (!b1)
  ((0 ≤ i ∧ i < (lL : Int)) ∧
  NN l fun a2 =>
  ∃ n1 : Int, cell h (a2.add (Int.toNat i * 3)) = some (.int .i64 n1) ∧
  New h (.cells #[.int .i64 n1] 3) fun b2 h2 =>
  appendV Tryz.prog 23 23 (.slice inv invL invC) (.slice (some ⟨b2, 0, none⟩) 1 1) h2 (slK fun a3 l1 c1 h3 =>
  r35_After_b2 l lL lC nv a3 l1 c1 i h3 nx0 K))
  (cond (decide ((invL : Int) = 0))
  (K (.tuple #[.slice none 0 0, .bool false]) h)
  (HCalls Tryz.prog 58 #[.slice l lL lC, .slice inv invL invC] h fun v1 h4 => ∃ r1 : Int, v1 = .int .i64 r1 ∧
  (0 ≤ (0 : Int) ∧ (0 : Int) ≤ r1 ∧ r1 ≤ (invC : Int)) ∧
  InR (r1 + 1) ∧
  (0 ≤ r1 + 1 ∧ r1 + 1 ≤ (invL : Int) ∧ (invL : Int) ≤ (invC : Int)) ∧
  New h4 (.cells #[] 3) fun b3 h5 =>
  ((0 ≤ r1 + 1 ∧ r1 + 1 ≤ (invL : Int) ∧ (invL : Int) ≤ (invC : Int)) ∧
  (.slice (subAddr inv invC (Int.toNat (r1 + 1)) 1) (Int.toNat (invL : Int) - Int.toNat (r1 + 1)) (invC - Int.toNat (r1 + 1)) : Value) = .slice (subAddr inv invC (Int.toNat (r1 + 1)) 1) (Int.toNat (invL : Int) - Int.toNat (r1 + 1)) (invC - Int.toNat (r1 + 1))) ∧
  ((0 ≤ (0 : Int) ∧ (0 : Int) ≤ r1 ∧ r1 ≤ (invC : Int)) ∧
  (.slice (subAddr inv invC (Int.toNat (0 : Int)) 1) (Int.toNat r1 - Int.toNat (0 : Int)) (invC - Int.toNat (0 : Int)) : Value) = .slice (subAddr inv invC (Int.toNat (0 : Int)) 1) (Int.toNat r1 - Int.toNat (0 : Int)) (invC - Int.toNat (0 : Int))) ∧
  appendV Tryz.prog 23 23 (.slice (some ⟨b3, 0, none⟩) 0 0) (.slice (subAddr inv invC (Int.toNat (0 : Int)) 1) (Int.toNat r1 - Int.toNat (0 : Int)) (invC - Int.toNat (0 : Int))) h5 (slK fun a4 l2 c2 h6 =>
  ((0 ≤ r1 + 1 ∧ r1 + 1 ≤ (invL : Int) ∧ (invL : Int) ≤ (invC : Int)) ∧
  (.slice (subAddr inv invC (Int.toNat (r1 + 1)) 1) (Int.toNat (invL : Int) - Int.toNat (r1 + 1)) (invC - Int.toNat (r1 + 1)) : Value) = .slice (subAddr inv invC (Int.toNat (r1 + 1)) 1) (Int.toNat (invL : Int) - Int.toNat (r1 + 1)) (invC - Int.toNat (r1 + 1))) ∧
  appendV Tryz.prog 23 23 (.slice a4 l2 c2) (.slice (subAddr inv invC (Int.toNat (r1 + 1)) 1) (Int.toNat (invL : Int) - Int.toNat (r1 + 1)) (invC - Int.toNat (r1 + 1))) h6 (slK fun a5 l3 c3 h7 =>
  r35_After_b2 l lL lC nv a5 l3 c3 i h7 nx0 K)))))
  (r35_After_b3 inv invL invC h  K)) := by kernel_rfl
theorem r35_After_b2_eq (l : Option Addr) (lL : Nat) (lC : Nat) (nv : Int) (inv : Option Addr) (invL : Nat) (invC : Nat) (i : Int) (h : Hp) (nx0 : (Option Addr × Nat × Nat) × Int × Unit → Hp → Prop) (K : Value → Hp → Prop) : r35_After_b2 l lL lC nv inv invL invC i h nx0 K = (
  InR (i + 1) ∧
  nx0 ((inv, invL, invC), i + 1, ()) h) := by kernel_rfl
theorem r35_After_b3_eq (inv : Option Addr) (invL : Nat) (invC : Nat) (h : Hp)  (K : Value → Hp → Prop) : r35_After_b3 inv invL invC h  K = (
  K (.tuple #[.slice inv invL invC, .bool true]) h) := by kernel_rfl
theorem r35_After_call {l : Option Addr} {lL : Nat} {lC : Nat} {nv : Int} {h : Hp} {K : Value → Hp → Prop} (hk : r35_After_b0 l lL lC nv h K) : HCalls Tryz.prog 18 #[.slice l lL lC, .int .i64 nv] h K :=
  calls_of_snd r35_After_an Tryz.func18 (c := bodyOf Tryz.f18) rfl Tryz.ntmps18 (Nat.le_of_ble_eq_true rfl) (snd_3 F_ok F_mixed) hk

/-! ### slices_Contains_Sint_int -/
def slices_Contains_Sint_int_an : Ann := .leaf
def slices_Contains_Sint_int_K0  (K : Value → Hp → Prop) : Exit → Env → Hp → Prop := retK Tryz.prog Tryz.f19.results.toList K
def slices_Contains_Sint_int_b0 (s : Option Addr) (sL : Nat) (sC : Nat) (v : Int) (h : Hp)  (K : Value → Hp → Prop) : Prop :=
  sx_1 Tryz.prog F 9 (cp [] (bodyOf Tryz.f19)) (ap [] slices_Contains_Sint_int_an) [(0, .slice s sL sC), (1, .int .i64 v)] h (slices_Contains_Sint_int_K0  K)
theorem slices_Contains_Sint_int_b0_eq (s : Option Addr) (sL : Nat) (sC : Nat) (v : Int) (h : Hp)  (K : Value → Hp → Prop) : slices_Contains_Sint_int_b0 s sL sC v h  K = (
  HCalls Tryz.prog 59 #[.slice s sL sC, .int .i64 v] h fun v1 h1 => ∃ r1 : Int, v1 = .int .i64 r1 ∧
  K (.bool (decide ((0 : Int) ≤ r1))) h1) := by kernel_rfl
theorem slices_Contains_Sint_int_call {s : Option Addr} {sL : Nat} {sC : Nat} {v : Int} {h : Hp} {K : Value → Hp → Prop} (hk : slices_Contains_Sint_int_b0 s sL sC v h K) : HCalls Tryz.prog 19 #[.slice s sL sC, .int .i64 v] h K :=
  calls_of_snd slices_Contains_Sint_int_an Tryz.func19 (c := bodyOf Tryz.f19) rfl Tryz.ntmps19 (Nat.le_of_ble_eq_true rfl) (snd_1 F_ok F_mixed) hk

/-! ### partialretro_Queue_Insert -/
def partialretro_Queue_Insert_an : Ann := .node none (.leaf) (.node (some [0, 1, 2]) (.leaf) (.leaf))
def partialretro_Queue_Insert_K0  (K : Value → Hp → Prop) : Exit → Env → Hp → Prop := retK Tryz.prog Tryz.f20.results.toList K
def partialretro_Queue_Insert_b0 (q : Option Addr) (time : Int) (key : Int) (h : Hp)  (K : Value → Hp → Prop) : Prop :=
  sx_2 Tryz.prog F 22 (cp [] (bodyOf Tryz.f20)) (ap [] partialretro_Queue_Insert_an) [(0, .pointer q), (1, .int .i64 time), (2, .int .i64 key)] h (partialretro_Queue_Insert_K0  K)
def partialretro_Queue_Insert_b1 (q : Option Addr) (time : Int) (key : Int) (h : Hp)  (K : Value → Hp → Prop) : Prop :=
  sx_1 Tryz.prog F 22 (cp [1, 1] (bodyOf Tryz.f20)) (ap [1, 1] partialretro_Queue_Insert_an) [(0, .pointer q), (1, .int .i64 time), (2, .int .i64 key)] h (partialretro_Queue_Insert_K0  K)
theorem partialretro_Queue_Insert_b0_eq (q : Option Addr) (time : Int) (key : Int) (h : Hp)  (K : Value → Hp → Prop) : partialretro_Queue_Insert_b0 q time key h  K = (
  cond q.isNone
  (K (.int .i64 1) h)
  (cond (decide (key < (-1048576)))
  (K (.int .i64 1) h)
  (cond (decide ((1048576 : Int) < key))
  (K (.int .i64 1) h)
  (partialretro_Queue_Insert_b1 q time key h  K)))) := by kernel_rfl
theorem partialretro_Queue_Insert_b1_eq (q : Option Addr) (time : Int) (key : Int) (h : Hp)  (K : Value → Hp → Prop) : partialretro_Queue_Insert_b1 q time key h  K = (
  HCalls Tryz.prog 60 #[.pointer q, .agg #[.int .i64 time, .int .i64 key, .bool false]] h fun v1 h1 => ∃ r1 : Int, v1 = .int .i64 r1 ∧
  K (.int .i64 r1) h1) := by kernel_rfl
theorem partialretro_Queue_Insert_call {q : Option Addr} {time : Int} {key : Int} {h : Hp} {K : Value → Hp → Prop} (hk : partialretro_Queue_Insert_b0 q time key h K) : HCalls Tryz.prog 20 #[.pointer q, .int .i64 time, .int .i64 key] h K :=
  calls_of_snd partialretro_Queue_Insert_an Tryz.func20 (c := bodyOf Tryz.f20) rfl Tryz.ntmps20 (Nat.le_of_ble_eq_true rfl) (snd_2 F_ok F_mixed) hk

/-! ### slices_BinarySearch_Sint_int -/
def slices_BinarySearch_Sint_int_an : Ann := .node none (.leaf) (.node none (.leaf) (.node none (.leaf) (.node (some [0, 1, 6, 7]) (.loop [0, 1, 6] [(7, .int .i64), (8, .int .i64)] (.leaf)) (.leaf))))
def slices_BinarySearch_Sint_int_K0  (K : Value → Hp → Prop) : Exit → Env → Hp → Prop := retK Tryz.prog Tryz.f21.results.toList K
def slices_BinarySearch_Sint_int_K1  (K : Value → Hp → Prop) : Exit → Env → Hp → Prop := thenE (fun env h => sx_1 Tryz.prog F 54 (cp [1, 1, 1, 1] (bodyOf Tryz.f21)) (ap [1, 1, 1, 1] slices_BinarySearch_Sint_int_an) (rs [0, 1, 6, 7] env) h (slices_BinarySearch_Sint_int_K0  K)) (slices_BinarySearch_Sint_int_K0  K)
def slices_BinarySearch_Sint_int_K2  (K : Value → Hp → Prop) : Exit → Env → Hp → Prop := blockE 0 (slices_BinarySearch_Sint_int_K1  K)
def slices_BinarySearch_Sint_int_K3 (nx0 : Int × Int × Unit → Hp → Prop) (K : Value → Hp → Prop) : Exit → Env → Hp → Prop := thenE (fun env h => getV [(7, .int .i64), (8, .int .i64)] env fun s => nx0 s h) (slices_BinarySearch_Sint_int_K2  K)
def slices_BinarySearch_Sint_int_b0 (x : Option Addr) (xL : Nat) (xC : Nat) (target : Int) (h : Hp)  (K : Value → Hp → Prop) : Prop :=
  sx_2 Tryz.prog F 54 (cp [] (bodyOf Tryz.f21)) (ap [] slices_BinarySearch_Sint_int_an) [(0, .slice x xL xC), (1, .int .i64 target)] h (slices_BinarySearch_Sint_int_K0  K)
def slices_BinarySearch_Sint_int_b1 (i : Int) (j : Int) (x : Option Addr) (xL : Nat) (xC : Nat) (target : Int) (nv : Int) (h : Hp) (nx0 : Int × Int × Unit → Hp → Prop) (K : Value → Hp → Prop) : Prop :=
  sx_1 Tryz.prog F 54 (cp [1, 1, 1, 0, 2, 2] (bodyOf Tryz.f21)) (ap [1, 1, 1, 0, 2] slices_BinarySearch_Sint_int_an) [(7, .int .i64 i), (8, .int .i64 j), (0, .slice x xL xC), (1, .int .i64 target), (6, .int .i64 nv)] h (slices_BinarySearch_Sint_int_K3 nx0 K)
def slices_BinarySearch_Sint_int_b2 (x : Option Addr) (xL : Nat) (xC : Nat) (target : Int) (nv : Int) (i : Int) (h : Hp)  (K : Value → Hp → Prop) : Prop :=
  sx_1 Tryz.prog F 54 (cp [1, 1, 1, 1] (bodyOf Tryz.f21)) (ap [1, 1, 1, 1] slices_BinarySearch_Sint_int_an) [(0, .slice x xL xC), (1, .int .i64 target), (6, .int .i64 nv), (7, .int .i64 i)] h (slices_BinarySearch_Sint_int_K0  K)
theorem slices_BinarySearch_Sint_int_b0_eq (x : Option Addr) (xL : Nat) (xC : Nat) (target : Int) (h : Hp)  (K : Value → Hp → Prop) : slices_BinarySearch_Sint_int_b0 x xL xC target h  K = (
  LoopVC ((0, (xL : Int), ()) : Int × Int × Unit) h (fun (nx0 : Int × Int × Unit → Hp → Prop) (s1 : Int × Int × Unit) h1 => slices_BinarySearch_Sint_int_b1 s1.1 s1.2.1 x xL xC target (xL : Int) h1 nx0 K)) := by kernel_rfl
theorem slices_BinarySearch_Sint_int_b1_eq (i : Int) (j : Int) (x : Option Addr) (xL : Nat) (xC : Nat) (target : Int) (nv : Int) (h : Hp) (nx0 : Int × Int × Unit → Hp → Prop) (K : Value → Hp → Prop) : slices_BinarySearch_Sint_int_b1 i j x xL xC target nv h nx0 K = (
  cond (decide (i < j))
  (InR (i + j) ∧
  ∃ sr1 : Int, Sx.Shr .u64 (IntKind.u64.wrap (i + j)) 1 sr1 ∧
  InR sr1 ∧
  (0 ≤ sr1 ∧ sr1 < (xL : Int)) ∧
  NN x fun a1 =>
  ∃ n1 : Int, cell h (a1.add (Int.toNat sr1 * 1)) = some (.int .i64 n1) ∧
  HCalls Tryz.prog 61 #[.int .i64 n1, .int .i64 target] h fun v1 h2 => ∃ r1 : Bool, v1 = .bool r1 ∧
  cond r1
  (InR (sr1 + 1) ∧
  nx0 (sr1 + 1, j, ()) h2)
  (nx0 (i, sr1, ()) h2))
  (slices_BinarySearch_Sint_int_b2 x xL xC target nv i h  K)) := by kernel_rfl
theorem slices_BinarySearch_Sint_int_b2_eq (x : Option Addr) (xL : Nat) (xC : Nat) (target : Int) (nv : Int) (i : Int) (h : Hp)  (K : Value → Hp → Prop) : slices_BinarySearch_Sint_int_b2 x xL xC target nv i h  K = (
  cond (decide (i < nv))
  ((0 ≤ i ∧ i < (xL : Int)) ∧
  NN x fun a2 =>
  ∃ n2 : Int, cell h (a2.add (Int.toNat i * 1)) = some (.int .i64 n2) ∧
  cond (decide (n2 = target))
  (K (.tuple #[.int .i64 i, .bool true]) h)
  ((0 ≤ i ∧ i < (xL : Int)) ∧
  NN x fun a3 =>
  ∃ n3 : Int, cell h (a3.add (Int.toNat i * 1)) = some (.int .i64 n3) ∧
  HCalls Tryz.prog 62 #[.int .i64 n3] h fun v2 h3 => ∃ r2 : Bool, v2 = .bool r2 ∧
  cond r2
  (HCalls Tryz.prog 62 #[.int .i64 target] h3 fun v3 h4 => ∃ r3 : Bool, v3 = .bool r3 ∧
  K (.tuple #[.int .i64 i, .bool r3]) h4)
  (K (.tuple #[.int .i64 i, .bool false]) h3)))
  (K (.tuple #[.int .i64 i, .bool false]) h)) := by kernel_rfl
theorem slices_BinarySearch_Sint_int_call {x : Option Addr} {xL : Nat} {xC : Nat} {target : Int} {h : Hp} {K : Value → Hp → Prop} (hk : slices_BinarySearch_Sint_int_b0 x xL xC target h K) : HCalls Tryz.prog 21 #[.slice x xL xC, .int .i64 target] h K :=
  calls_of_snd slices_BinarySearch_Sint_int_an Tryz.func21 (c := bodyOf Tryz.f21) rfl Tryz.ntmps21 (Nat.le_of_ble_eq_true rfl) (snd_2 F_ok F_mixed) hk

/-! ### EqI -/
def EqI_an : Ann := .node none (.leaf) (.node none (.leaf) (.node (some []) (.node none (.leaf) (.loop [0, 1, 12] [(13, .int .i64)] (.node none (.leaf) (.node none (.leaf) (.node (some [0, 1, 12, 13]) (.leaf) (.leaf)))))) (.leaf)))
def EqI_K0  (K : Value → Hp → Prop) : Exit → Env → Hp → Prop := retK Tryz.prog Tryz.f22.results.toList K
def EqI_K1  (K : Value → Hp → Prop) : Exit → Env → Hp → Prop := thenE (fun env h => sx_2 Tryz.prog F 26 (cp [1, 1, 1] (bodyOf Tryz.f22)) (ap [1, 1, 1] EqI_an) (rs [] env) h (EqI_K0  K)) (EqI_K0  K)
def EqI_K2  (K : Value → Hp → Prop) : Exit → Env → Hp → Prop := blockE 0 (EqI_K1  K)
def EqI_K3 (nx0 : Int × Unit → Hp → Prop) (K : Value → Hp → Prop) : Exit → Env → Hp → Prop := thenE (fun env h => getV [(13, .int .i64)] env fun s => nx0 s h) (EqI_K2  K)
def EqI_b0 (s1 : Option Addr) (s1L : Nat) (s1C : Nat) (s2 : Option Addr) (s2L : Nat) (s2C : Nat) (h : Hp)  (K : Value → Hp → Prop) : Prop :=
  sx_3 Tryz.prog F 26 (cp [] (bodyOf Tryz.f22)) (ap [] EqI_an) [(0, .slice s1 s1L s1C), (1, .slice s2 s2L s2C)] h (EqI_K0  K)
def EqI_b1 (t13 : Int) (s1 : Option Addr) (s1L : Nat) (s1C : Nat) (s2 : Option Addr) (s2L : Nat) (s2C : Nat) (t12 : Int) (h : Hp) (nx0 : Int × Unit → Hp → Prop) (K : Value → Hp → Prop) : Prop :=
  sx_2 Tryz.prog F 26 (cp [1, 1, 0, 1, 2, 2] (bodyOf Tryz.f22)) (ap [1, 1, 0, 1, 2] EqI_an) [(13, .int .i64 t13), (0, .slice s1 s1L s1C), (1, .slice s2 s2L s2C), (12, .int .i64 t12)] h (EqI_K3 nx0 K)
def EqI_b2 (s1 : Option Addr) (s1L : Nat) (s1C : Nat) (s2 : Option Addr) (s2L : Nat) (s2C : Nat) (t12 : Int) (t13 : Int) (h : Hp) (nx0 : Int × Unit → Hp → Prop) (K : Value → Hp → Prop) : Prop :=
  sx_1 Tryz.prog F 26 (cp [1, 1, 0, 1, 2, 2, 1, 1, 1] (bodyOf Tryz.f22)) (ap [1, 1, 0, 1, 2, 1, 1, 1] EqI_an) [(0, .slice s1 s1L s1C), (1, .slice s2 s2L s2C), (12, .int .i64 t12), (13, .int .i64 t13)] h (EqI_K3 nx0 K)
def EqI_b3  (h : Hp)  (K : Value → Hp → Prop) : Prop :=
  sx_2 Tryz.prog F 26 (cp [1, 1, 1] (bodyOf Tryz.f22)) (ap [1, 1, 1] EqI_an) [] h (EqI_K0  K)
theorem EqI_b0_eq (s1 : Option Addr) (s1L : Nat) (s1C : Nat) (s2 : Option Addr) (s2L : Nat) (s2C : Nat) (h : Hp)  (K : Value → Hp → Prop) : EqI_b0 s1 s1L s1C s2 s2L s2C h  K = (
  cond (!decide ((s1L : Int) = (s2L : Int)))
  (K (.bool false) h)
  (LoopVC ((0, ()) : Int × Unit) h (fun (nx0 : Int × Unit → Hp → Prop) (s3 : Int × Unit) h1 => EqI_b1 s3.1 s1 s1L s1C s2 s2L s2C (s1L : Int) h1 nx0 K))) := by kernel_rfl
theorem EqI_b1_eq (t13 : Int) (s1 : Option Addr) (s1L : Nat) (s1C : Nat) (s2 : Option Addr) (s2L : Nat) (s2C : Nat) (t12 : Int) (h : Hp) (nx0 : Int × Unit → Hp → Prop) (K : Value → Hp → Prop) : EqI_b1 t13 s1 s1L s1C s2 s2L s2C t12 h nx0 K = (
  cond (decide (t13 < t12))
  ((0 ≤ t13 ∧ t13 < (s1L : Int)) ∧
  NN s1 fun a1 =>
  ∃ n1 : Int, cell h (a1.add (Int.toNat t13 * 1)) = some (.int .i64 n1) ∧
  (0 ≤ t13 ∧ t13 < (s2L : Int)) ∧
  NN s2 fun a2 =>
  ∃ n2 : Int, cell h (a2.add (Int.toNat t13 * 1)) = some (.int .i64 n2) ∧
  cond (!decide (n1 = n2))
  (K (.bool false) h)
  (EqI_b2 s1 s1L s1C s2 s2L s2C t12 t13 h nx0 K))
  (EqI_b3  h  K)) := by kernel_rfl
theorem EqI_b2_eq (s1 : Option Addr) (s1L : Nat) (s1C : Nat) (s2 : Option Addr) (s2L : Nat) (s2C : Nat) (t12 : Int) (t13 : Int) (h : Hp) (nx0 : Int × Unit → Hp → Prop) (K : Value → Hp → Prop) : EqI_b2 s1 s1L s1C s2 s2L s2C t12 t13 h nx0 K = (
  InR (t13 + 1) ∧
  nx0 (t13 + 1, ()) h) := by kernel_rfl
theorem EqI_b3_eq  (h : Hp)  (K : Value → Hp → Prop) : EqI_b3  h  K = (
  K (.bool true) h) := by kernel_rfl
theorem EqI_call {s1 : Option Addr} {s1L : Nat} {s1C : Nat} {s2 : Option Addr} {s2L : Nat} {s2C : Nat} {h : Hp} {K : Value → Hp → Prop} (hk : EqI_b0 s1 s1L s1C s2 s2L s2C h K) : HCalls Tryz.prog 22 #[.slice s1 s1L s1C, .slice s2 s2L s2C] h K :=
  calls_of_snd EqI_an Tryz.func22 (c := bodyOf Tryz.f22) rfl Tryz.ntmps22 (Nat.le_of_ble_eq_true rfl) (snd_3 F_ok F_mixed) hk

/-! ### slices_Insert_Sint_int -/
def slices_Insert_Sint_int_an : Ann := .node none (.leaf) (.node none (.leaf) (.node none (.leaf) (.node none (.leaf) (.node none (.leaf) (.node none (.leaf) (.node none (.node none (.leaf) (.node none (.node none (.leaf) (.node none (.leaf) (.node none (.tail 8) (.leaf)))) (.leaf))) (.node none (.leaf) (.node none (.node none (.leaf) (.node none (.node none (.tail 8) (.leaf)) (.leaf))) (.leaf)))))))))
def slices_Insert_Sint_int_K0  (K : Value → Hp → Prop) : Exit → Env → Hp → Prop := retK Tryz.prog Tryz.f23.results.toList K
def slices_Insert_Sint_int_b0 (s : Option Addr) (sL : Nat) (sC : Nat) (i : Int) (v : Option Addr) (vL : Nat) (vC : Nat) (h : Hp)  (K : Value → Hp → Prop) : Prop :=
  sx_1 Tryz.prog F 95 (cp [] (bodyOf Tryz.f23)) (ap [] slices_Insert_Sint_int_an) [(0, .slice s sL sC), (1, .int .i64 i), (2, .slice v vL vC)] h (slices_Insert_Sint_int_K0  K)
theorem slices_Insert_Sint_int_b0_eq (s : Option Addr) (sL : Nat) (sC : Nat) (i : Int) (v : Option Addr) (vL : Nat) (vC : Nat) (h : Hp)  (K : Value → Hp → Prop) : slices_Insert_Sint_int_b0 s sL sC i v vL vC h  K = (
  (0 ≤ i ∧ i ≤ (sL : Int) ∧ (sL : Int) ≤ (sC : Int)) ∧
  cond (decide ((vL : Int) = 0))
  (K (.slice s sL sC) h)
  (cond (decide (i = (sL : Int)))
  (appendV Tryz.prog 23 23 (.slice s sL sC) (.slice v vL vC) h (slK fun a1 l1 c1 h1 =>
  K (.slice a1 l1 c1) h1))
  (InR ((sL : Int) + (vL : Int)) ∧
  cond (decide ((sC : Int) < ((sL : Int) + (vL : Int))))
  ((0 ≤ (0 : Int) ∧ (0 : Int) ≤ i ∧ i ≤ (sC : Int)) ∧
  InR ((sL : Int) + (vL : Int)) ∧
  InR (((sL : Int) + (vL : Int)) - i) ∧
  appendV Tryz.prog 23 3 (.slice (subAddr s sC (Int.toNat (0 : Int)) 1) (Int.toNat i - Int.toNat (0 : Int)) (sC - Int.toNat (0 : Int))) (.int .i64 (((sL : Int) + (vL : Int)) - i)) h (slK fun a2 l2 c2 h2 =>
  (0 ≤ i ∧ i ≤ (l2 : Int) ∧ (l2 : Int) ≤ (c2 : Int)) ∧
  copyV Tryz.prog 23 (.slice (subAddr a2 c2 (Int.toNat i) 1) (Int.toNat (l2 : Int) - Int.toNat i) (c2 - Int.toNat i)) (.slice v vL vC) h2 fun v1 h3 =>
  InR (i + (vL : Int)) ∧
  (0 ≤ i + (vL : Int) ∧ i + (vL : Int) ≤ (l2 : Int) ∧ (l2 : Int) ≤ (c2 : Int)) ∧
  (0 ≤ i ∧ i ≤ (sL : Int) ∧ (sL : Int) ≤ (sC : Int)) ∧
  copyV Tryz.prog 23 (.slice (subAddr a2 c2 (Int.toNat (i + (vL : Int))) 1) (Int.toNat (l2 : Int) - Int.toNat (i + (vL : Int))) (c2 - Int.toNat (i + (vL : Int)))) (.slice (subAddr s sC (Int.toNat i) 1) (Int.toNat (sL : Int) - Int.toNat i) (sC - Int.toNat i)) h3 fun v2 h4 =>
  K (.slice a2 l2 c2) h4))
  (InR ((sL : Int) + (vL : Int)) ∧
  (0 ≤ (0 : Int) ∧ (0 : Int) ≤ (sL : Int) + (vL : Int) ∧ (sL : Int) + (vL : Int) ≤ (sC : Int)) ∧
  InR (i + (vL : Int)) ∧
  (0 ≤ i + (vL : Int) ∧ i + (vL : Int) ≤ ((Int.toNat ((sL : Int) + (vL : Int)) - Int.toNat (0 : Int) : Nat) : Int) ∧ ((Int.toNat ((sL : Int) + (vL : Int)) - Int.toNat (0 : Int) : Nat) : Int) ≤ ((sC - Int.toNat (0 : Int) : Nat) : Int)) ∧
  ExtCall Tryz.prog 63 #[.slice v vL vC, .slice (subAddr (subAddr s sC (Int.toNat (0 : Int)) 1) (sC - Int.toNat (0 : Int)) (Int.toNat (i + (vL : Int))) 1) (Int.toNat ((Int.toNat ((sL : Int) + (vL : Int)) - Int.toNat (0 : Int) : Nat) : Int) - Int.toNat (i + (vL : Int))) ((sC - Int.toNat (0 : Int)) - Int.toNat (i + (vL : Int)))] h fun v3 => ∃ r1 : Bool, v3 = .bool r1 ∧
  cond (!r1)
  (InR (i + (vL : Int)) ∧
  (0 ≤ i + (vL : Int) ∧ i + (vL : Int) ≤ ((Int.toNat ((sL : Int) + (vL : Int)) - Int.toNat (0 : Int) : Nat) : Int) ∧ ((Int.toNat ((sL : Int) + (vL : Int)) - Int.toNat (0 : Int) : Nat) : Int) ≤ ((sC - Int.toNat (0 : Int) : Nat) : Int)) ∧
  (0 ≤ i ∧ i ≤ ((Int.toNat ((sL : Int) + (vL : Int)) - Int.toNat (0 : Int) : Nat) : Int) ∧ ((Int.toNat ((sL : Int) + (vL : Int)) - Int.toNat (0 : Int) : Nat) : Int) ≤ ((sC - Int.toNat (0 : Int) : Nat) : Int)) ∧
  copyV Tryz.prog 23 (.slice (subAddr (subAddr s sC (Int.toNat (0 : Int)) 1) (sC - Int.toNat (0 : Int)) (Int.toNat (i + (vL : Int))) 1) (Int.toNat ((Int.toNat ((sL : Int) + (vL : Int)) - Int.toNat (0 : Int) : Nat) : Int) - Int.toNat (i + (vL : Int))) ((sC - Int.toNat (0 : Int)) - Int.toNat (i + (vL : Int)))) (.slice (subAddr (subAddr s sC (Int.toNat (0 : Int)) 1) (sC - Int.toNat (0 : Int)) (Int.toNat i) 1) (Int.toNat ((Int.toNat ((sL : Int) + (vL : Int)) - Int.toNat (0 : Int) : Nat) : Int) - Int.toNat i) ((sC - Int.toNat (0 : Int)) - Int.toNat i)) h fun v4 h6 =>
  (0 ≤ i ∧ i ≤ ((Int.toNat ((sL : Int) + (vL : Int)) - Int.toNat (0 : Int) : Nat) : Int) ∧ ((Int.toNat ((sL : Int) + (vL : Int)) - Int.toNat (0 : Int) : Nat) : Int) ≤ ((sC - Int.toNat (0 : Int) : Nat) : Int)) ∧
  copyV Tryz.prog 23 (.slice (subAddr (subAddr s sC (Int.toNat (0 : Int)) 1) (sC - Int.toNat (0 : Int)) (Int.toNat i) 1) (Int.toNat ((Int.toNat ((sL : Int) + (vL : Int)) - Int.toNat (0 : Int) : Nat) : Int) - Int.toNat i) ((sC - Int.toNat (0 : Int)) - Int.toNat i)) (.slice v vL vC) h6 fun v5 h7 =>
  K (.slice (subAddr s sC (Int.toNat (0 : Int)) 1) (Int.toNat ((sL : Int) + (vL : Int)) - Int.toNat (0 : Int)) (sC - Int.toNat (0 : Int))) h7)
  ((0 ≤ (sL : Int) ∧ (sL : Int) ≤ ((Int.toNat ((sL : Int) + (vL : Int)) - Int.toNat (0 : Int) : Nat) : Int) ∧ ((Int.toNat ((sL : Int) + (vL : Int)) - Int.toNat (0 : Int) : Nat) : Int) ≤ ((sC - Int.toNat (0 : Int) : Nat) : Int)) ∧
  copyV Tryz.prog 23 (.slice (subAddr (subAddr s sC (Int.toNat (0 : Int)) 1) (sC - Int.toNat (0 : Int)) (Int.toNat (sL : Int)) 1) (Int.toNat ((Int.toNat ((sL : Int) + (vL : Int)) - Int.toNat (0 : Int) : Nat) : Int) - Int.toNat (sL : Int)) ((sC - Int.toNat (0 : Int)) - Int.toNat (sL : Int))) (.slice v vL vC) h fun v6 h8 =>
  (0 ≤ i ∧ i ≤ ((Int.toNat ((sL : Int) + (vL : Int)) - Int.toNat (0 : Int) : Nat) : Int) ∧ ((Int.toNat ((sL : Int) + (vL : Int)) - Int.toNat (0 : Int) : Nat) : Int) ≤ ((sC - Int.toNat (0 : Int) : Nat) : Int)) ∧
  HCalls Tryz.prog 64 #[.slice (subAddr (subAddr s sC (Int.toNat (0 : Int)) 1) (sC - Int.toNat (0 : Int)) (Int.toNat i) 1) (Int.toNat ((Int.toNat ((sL : Int) + (vL : Int)) - Int.toNat (0 : Int) : Nat) : Int) - Int.toNat i) ((sC - Int.toNat (0 : Int)) - Int.toNat i), .int .i64 (vL : Int)] h8 fun v7 h9 => v7 = .tuple #[] ∧
  K (.slice (subAddr s sC (Int.toNat (0 : Int)) 1) (Int.toNat ((sL : Int) + (vL : Int)) - Int.toNat (0 : Int)) (sC - Int.toNat (0 : Int))) h9))))) := by kernel_rfl
theorem slices_Insert_Sint_int_call {s : Option Addr} {sL : Nat} {sC : Nat} {i : Int} {v : Option Addr} {vL : Nat} {vC : Nat} {h : Hp} {K : Value → Hp → Prop} (hk : slices_Insert_Sint_int_b0 s sL sC i v vL vC h K) : HCalls Tryz.prog 23 #[.slice s sL sC, .int .i64 i, .slice v vL vC] h K :=
  calls_of_snd slices_Insert_Sint_int_an Tryz.func23 (c := bodyOf Tryz.f23) rfl Tryz.ntmps23 (Nat.le_of_ble_eq_true rfl) (snd_1 F_ok F_mixed) hk

/-! ### slices_Clone_Sint_int -/
def slices_Clone_Sint_int_an : Ann := .leaf
def slices_Clone_Sint_int_K0  (K : Value → Hp → Prop) : Exit → Env → Hp → Prop := retK Tryz.prog Tryz.f24.results.toList K
def slices_Clone_Sint_int_b0 (s : Option Addr) (sL : Nat) (sC : Nat) (h : Hp)  (K : Value → Hp → Prop) : Prop :=
  sx_1 Tryz.prog F 8 (cp [] (bodyOf Tryz.f24)) (ap [] slices_Clone_Sint_int_an) [(0, .slice s sL sC)] h (slices_Clone_Sint_int_K0  K)
theorem slices_Clone_Sint_int_b0_eq (s : Option Addr) (sL : Nat) (sC : Nat) (h : Hp)  (K : Value → Hp → Prop) : slices_Clone_Sint_int_b0 s sL sC h  K = (
  cond (Option.isNone s)
  (K (.slice none 0 0) h)
  (New h (.cells #[] 3) fun b1 h1 =>
  appendV Tryz.prog 23 23 (.slice (some ⟨b1, 0, none⟩) 0 0) (.slice s sL sC) h1 (slK fun a1 l1 c1 h2 =>
  K (.slice a1 l1 c1) h2))) := by kernel_rfl
theorem slices_Clone_Sint_int_call {s : Option Addr} {sL : Nat} {sC : Nat} {h : Hp} {K : Value → Hp → Prop} (hk : slices_Clone_Sint_int_b0 s sL sC h K) : HCalls Tryz.prog 24 #[.slice s sL sC] h K :=
  calls_of_snd slices_Clone_Sint_int_an Tryz.func24 (c := bodyOf Tryz.f24) rfl Tryz.ntmps24 (Nat.le_of_ble_eq_true rfl) (snd_1 F_ok F_mixed) hk

/-! ### partialretro_Queue_DeleteMin -/
def partialretro_Queue_DeleteMin_an : Ann := .leaf
def partialretro_Queue_DeleteMin_K0  (K : Value → Hp → Prop) : Exit → Env → Hp → Prop := retK Tryz.prog Tryz.f25.results.toList K
def partialretro_Queue_DeleteMin_b0 (q : Option Addr) (time : Int) (h : Hp)  (K : Value → Hp → Prop) : Prop :=
  sx_1 Tryz.prog F 11 (cp [] (bodyOf Tryz.f25)) (ap [] partialretro_Queue_DeleteMin_an) [(0, .pointer q), (1, .int .i64 time)] h (partialretro_Queue_DeleteMin_K0  K)
theorem partialretro_Queue_DeleteMin_b0_eq (q : Option Addr) (time : Int) (h : Hp)  (K : Value → Hp → Prop) : partialretro_Queue_DeleteMin_b0 q time h  K = (
  cond q.isNone
  (K (.int .i64 1) h)
  (HCalls Tryz.prog 60 #[.pointer q, .agg #[.int .i64 time, .int .i64 0, .bool true]] h fun v1 h1 => ∃ r1 : Int, v1 = .int .i64 r1 ∧
  K (.int .i64 r1) h1)) := by kernel_rfl
theorem partialretro_Queue_DeleteMin_call {q : Option Addr} {time : Int} {h : Hp} {K : Value → Hp → Prop} (hk : partialretro_Queue_DeleteMin_b0 q time h K) : HCalls Tryz.prog 25 #[.pointer q, .int .i64 time] h K :=
  calls_of_snd partialretro_Queue_DeleteMin_an Tryz.func25 (c := bodyOf Tryz.f25) rfl Tryz.ntmps25 (Nat.le_of_ble_eq_true rfl) (snd_1 F_ok F_mixed) hk

/-! ### slices_Delete_Sint_int -/
def slices_Delete_Sint_int_an : Ann := .node none (.leaf) (.node none (.leaf) (.node none (.leaf) (.node none (.leaf) (.node none (.tail 6) (.leaf)))))
def slices_Delete_Sint_int_K0  (K : Value → Hp → Prop) : Exit → Env → Hp → Prop := retK Tryz.prog Tryz.f26.results.toList K
def slices_Delete_Sint_int_b0 (s : Option Addr) (sL : Nat) (sC : Nat) (i : Int) (j : Int) (h : Hp)  (K : Value → Hp → Prop) : Prop :=
  sx_1 Tryz.prog F 33 (cp [] (bodyOf Tryz.f26)) (ap [] slices_Delete_Sint_int_an) [(0, .slice s sL sC), (1, .int .i64 i), (2, .int .i64 j)] h (slices_Delete_Sint_int_K0  K)
theorem slices_Delete_Sint_int_b0_eq (s : Option Addr) (sL : Nat) (sC : Nat) (i : Int) (j : Int) (h : Hp)  (K : Value → Hp → Prop) : slices_Delete_Sint_int_b0 s sL sC i j h  K = (
  ∃ (a1 : Option Addr) (l1 c1 : Nat), slC Tryz.prog 23 (.slice s sL sC) (some (.int .i64 i)) (some (.int .i64 j)) (.int .i64 (sL : Int)) h a1 l1 c1 ∧
  cond (decide (i = j))
  (K (.slice s sL sC) h)
  ((0 ≤ (0 : Int) ∧ (0 : Int) ≤ i ∧ i ≤ (sC : Int)) ∧
  (0 ≤ j ∧ j ≤ (sL : Int) ∧ (sL : Int) ≤ (sC : Int)) ∧
  appendV Tryz.prog 23 23 (.slice (subAddr s sC (Int.toNat (0 : Int)) 1) (Int.toNat i - Int.toNat (0 : Int)) (sC - Int.toNat (0 : Int))) (.slice (subAddr s sC (Int.toNat j) 1) (Int.toNat (sL : Int) - Int.toNat j) (sC - Int.toNat j)) h (slK fun a2 l2 c2 h1 =>
  (0 ≤ (l2 : Int) ∧ (l2 : Int) ≤ (sL : Int) ∧ (sL : Int) ≤ (c2 : Int)) ∧
  clearV Tryz.prog 23 (.slice (subAddr a2 c2 (Int.toNat (l2 : Int)) 1) (Int.toNat (sL : Int) - Int.toNat (l2 : Int)) (c2 - Int.toNat (l2 : Int))) h1 fun h2 =>
  K (.slice a2 l2 c2) h2))) := by kernel_rfl
theorem slices_Delete_Sint_int_call {s : Option Addr} {sL : Nat} {sC : Nat} {i : Int} {j : Int} {h : Hp} {K : Value → Hp → Prop} (hk : slices_Delete_Sint_int_b0 s sL sC i j h K) : HCalls Tryz.prog 26 #[.slice s sL sC, .int .i64 i, .int .i64 j] h K :=
  calls_of_snd slices_Delete_Sint_int_an Tryz.func26 (c := bodyOf Tryz.f26) rfl Tryz.ntmps26 (Nat.le_of_ble_eq_true rfl) (snd_1 F_ok F_mixed) hk

/-! ### partialretro_Queue_Times -/
def partialretro_Queue_Times_an : Ann := .node none (.leaf) (.node none (.leaf) (.node none (.leaf) (.node (some [3]) (.node none (.leaf) (.loop [11, 12] [(3, .slice), (13, .int .i64)] (.node none (.leaf) (.node none (.leaf) (.node (some [3, 11, 12, 13]) (.leaf) (.leaf)))))) (.leaf))))
def partialretro_Queue_Times_K0  (K : Value → Hp → Prop) : Exit → Env → Hp → Prop := retK Tryz.prog Tryz.f27.results.toList K
def partialretro_Queue_Times_K1  (K : Value → Hp → Prop) : Exit → Env → Hp → Prop := thenE (fun env h => sx_2 Tryz.prog F 24 (cp [1, 1, 1, 1] (bodyOf Tryz.f27)) (ap [1, 1, 1, 1] partialretro_Queue_Times_an) (rs [3] env) h (partialretro_Queue_Times_K0  K)) (partialretro_Queue_Times_K0  K)
def partialretro_Queue_Times_K2  (K : Value → Hp → Prop) : Exit → Env → Hp → Prop := blockE 0 (partialretro_Queue_Times_K1  K)
def partialretro_Queue_Times_K3 (nx0 : (Option Addr × Nat × Nat) × Int × Unit → Hp → Prop) (K : Value → Hp → Prop) : Exit → Env → Hp → Prop := thenE (fun env h => getV [(3, .slice), (13, .int .i64)] env fun s => nx0 s h) (partialretro_Queue_Times_K2  K)
def partialretro_Queue_Times_b0 (q : Option Addr) (h : Hp)  (K : Value → Hp → Prop) : Prop :=
  sx_3 Tryz.prog F 24 (cp [] (bodyOf Tryz.f27)) (ap [] partialretro_Queue_Times_an) [(0, .pointer q)] h (partialretro_Queue_Times_K0  K)
def partialretro_Queue_Times_b1 (out : Option Addr) (outL : Nat) (outC : Nat) (t13 : Int) (t11 : Option Addr) (t11L : Nat) (t11C : Nat) (t12 : Int) (h : Hp) (nx0 : (Option Addr × Nat × Nat) × Int × Unit → Hp → Prop) (K : Value → Hp → Prop) : Prop :=
  sx_2 Tryz.prog F 24 (cp [1, 1, 1, 0, 1, 2, 2] (bodyOf Tryz.f27)) (ap [1, 1, 1, 0, 1, 2] partialretro_Queue_Times_an) [(3, .slice out outL outC), (13, .int .i64 t13), (11, .slice t11 t11L t11C), (12, .int .i64 t12)] h (partialretro_Queue_Times_K3 nx0 K)
def partialretro_Queue_Times_b2 (out : Option Addr) (outL : Nat) (outC : Nat) (t11 : Option Addr) (t11L : Nat) (t11C : Nat) (t12 : Int) (t13 : Int) (h : Hp) (nx0 : (Option Addr × Nat × Nat) × Int × Unit → Hp → Prop) (K : Value → Hp → Prop) : Prop :=
  sx_1 Tryz.prog F 24 (cp [1, 1, 1, 0, 1, 2, 2, 1, 1, 1] (bodyOf Tryz.f27)) (ap [1, 1, 1, 0, 1, 2, 1, 1, 1] partialretro_Queue_Times_an) [(3, .slice out outL outC), (11, .slice t11 t11L t11C), (12, .int .i64 t12), (13, .int .i64 t13)] h (partialretro_Queue_Times_K3 nx0 K)
def partialretro_Queue_Times_b3 (out : Option Addr) (outL : Nat) (outC : Nat) (h : Hp)  (K : Value → Hp → Prop) : Prop :=
  sx_2 Tryz.prog F 24 (cp [1, 1, 1, 1] (bodyOf Tryz.f27)) (ap [1, 1, 1, 1] partialretro_Queue_Times_an) [(3, .slice out outL outC)] h (partialretro_Queue_Times_K0  K)
theorem partialretro_Queue_Times_b0_eq (q : Option Addr) (h : Hp)  (K : Value → Hp → Prop) : partialretro_Queue_Times_b0 q h  K = (
  cond q.isNone
  (K (.slice none 0 0) h)
  (NN q fun a1 =>
  ∃ (a2 : Option Addr) (L1 C1 : Nat), cell h a1 = some (.slice a2 L1 C1) ∧
  LoopVC (((none, 0, 0), 0, ()) : (Option Addr × Nat × Nat) × Int × Unit) h (fun (nx0 : (Option Addr × Nat × Nat) × Int × Unit → Hp → Prop) (s1 : (Option Addr × Nat × Nat) × Int × Unit) h1 => partialretro_Queue_Times_b1 s1.1.1 s1.1.2.1 s1.1.2.2 s1.2.1 a2 L1 C1 (L1 : Int) h1 nx0 K))) := by kernel_rfl
theorem partialretro_Queue_Times_b1_eq (out : Option Addr) (outL : Nat) (outC : Nat) (t13 : Int) (t11 : Option Addr) (t11L : Nat) (t11C : Nat) (t12 : Int) (h : Hp) (nx0 : (Option Addr × Nat × Nat) × Int × Unit → Hp → Prop) (K : Value → Hp → Prop) : partialretro_Queue_Times_b1 out outL outC t13 t11 t11L t11C t12 h nx0 K = (
  cond (decide (t13 < t12))
  ((0 ≤ t13 ∧ t13 < (t11L : Int)) ∧
  NN t11 fun a3 =>
  ∃ n1 : Int, ∃ n2 : Int, ∃ b1 : Bool, cell h (a3.add (Int.toNat t13 * 3)) = some (.int .i64 n1) ∧
  cell h ((a3.add (Int.toNat t13 * 3)).add 1) = some (.int .i64 n2) ∧
  cell h ((a3.add (Int.toNat t13 * 3)).add 2) = some (.bool b1) ∧
  New h (.cells #[.int .i64 0, .int .i64 0, .bool false] 106) fun b2 h2 =>
  Wr h2 ⟨b2, 0, none⟩ (.int .i64 n1) fun h3 =>
  Wr h3 ((⟨b2, 0, none⟩ : Addr).add 1) (.int .i64 n2) fun h4 =>
  Wr h4 ((⟨b2, 0, none⟩ : Addr).add 2) (.bool b1) fun h5 =>
  ∃ n3 : Int, cell h5 ⟨b2, 0, none⟩ = some (.int .i64 n3) ∧
  New h5 (.cells #[.int .i64 n3] 3) fun b3 h6 =>
  appendV Tryz.prog 23 23 (.slice out outL outC) (.slice (some ⟨b3, 0, none⟩) 1 1) h6 (slK fun a4 l1 c1 h7 =>
  partialretro_Queue_Times_b2 a4 l1 c1 t11 t11L t11C t12 t13 h7 nx0 K))
  (partialretro_Queue_Times_b3 out outL outC h  K)) := by kernel_rfl
theorem partialretro_Queue_Times_b2_eq (out : Option Addr) (outL : Nat) (outC : Nat) (t11 : Option Addr) (t11L : Nat) (t11C : Nat) (t12 : Int) (t13 : Int) (h : Hp) (nx0 : (Option Addr × Nat × Nat) × Int × Unit → Hp → Prop) (K : Value → Hp → Prop) : partialretro_Queue_Times_b2 out outL outC t11 t11L t11C t12 t13 h nx0 K = (
  InR (t13 + 1) ∧
  nx0 ((out, outL, outC), t13 + 1, ()) h) := by kernel_rfl
theorem partialretro_Queue_Times_b3_eq (out : Option Addr) (outL : Nat) (outC : Nat) (h : Hp)  (K : Value → Hp → Prop) : partialretro_Queue_Times_b3 out outL outC h  K = (
  K (.slice out outL outC) h) := by kernel_rfl
theorem partialretro_Queue_Times_call {q : Option Addr} {h : Hp} {K : Value → Hp → Prop} (hk : partialretro_Queue_Times_b0 q h K) : HCalls Tryz.prog 27 #[.pointer q] h K :=
  calls_of_snd partialretro_Queue_Times_an Tryz.func27 (c := bodyOf Tryz.f27) rfl Tryz.ntmps27 (Nat.le_of_ble_eq_true rfl) (snd_3 F_ok F_mixed) hk

/-! ### partialretro_Queue_Revoke -/
def partialretro_Queue_Revoke_an : Ann := .leaf
def partialretro_Queue_Revoke_K0  (K : Value → Hp → Prop) : Exit → Env → Hp → Prop := retK Tryz.prog Tryz.f29.results.toList K
def partialretro_Queue_Revoke_b0 (q : Option Addr) (time : Int) (h : Hp)  (K : Value → Hp → Prop) : Prop :=
  sx_1 Tryz.prog F 31 (cp [] (bodyOf Tryz.f29)) (ap [] partialretro_Queue_Revoke_an) [(0, .pointer q), (1, .int .i64 time)] h (partialretro_Queue_Revoke_K0  K)
theorem partialretro_Queue_Revoke_b0_eq (q : Option Addr) (time : Int) (h : Hp)  (K : Value → Hp → Prop) : partialretro_Queue_Revoke_b0 q time h  K = (
  cond q.isNone
  (K (.int .i64 1) h)
  (HCalls Tryz.prog 65 #[.int .i64 time] h fun v1 h1 => ∃ r1 : Bool, v1 = .bool r1 ∧
  cond (!r1)
  (K (.int .i64 2) h1)
  (HCalls Tryz.prog 66 #[.pointer q, .int .i64 time] h1 fun v2 h2 => ∃ r2 : Int, ∃ r3 : Bool, v2 = .tuple #[.int .i64 r2, .bool r3] ∧
  cond (!r3)
  (K (.int .i64 12) h2)
  (NN q fun a1 =>
  ∃ (a2 : Option Addr) (L1 C1 : Nat), cell h2 a1 = some (.slice a2 L1 C1) ∧
  HCalls Tryz.prog 69 #[.slice a2 L1 C1] h2 fun v3 h3 => ∃ (r4 : Option Addr) (rL1 rC1 : Nat), v3 = .slice r4 rL1 rC1 ∧
  InR (r2 + 1) ∧
  HCalls Tryz.prog 68 #[.slice r4 rL1 rC1, .int .i64 r2, .int .i64 (r2 + 1)] h3 fun v4 h4 => ∃ (r5 : Option Addr) (rL2 rC2 : Nat), v4 = .slice r5 rL2 rC2 ∧
  HCalls Tryz.prog 67 #[.pointer q, .slice r5 rL2 rC2] h4 fun v5 h5 => ∃ r6 : Int, v5 = .int .i64 r6 ∧
  K (.int .i64 r6) h5)))) := by kernel_rfl
theorem partialretro_Queue_Revoke_call {q : Option Addr} {time : Int} {h : Hp} {K : Value → Hp → Prop} (hk : partialretro_Queue_Revoke_b0 q time h K) : HCalls Tryz.prog 29 #[.pointer q, .int .i64 time] h K :=
  calls_of_snd partialretro_Queue_Revoke_an Tryz.func29 (c := bodyOf Tryz.f29) rfl Tryz.ntmps29 (Nat.le_of_ble_eq_true rfl) (snd_1 F_ok F_mixed) hk

/-! ### r35_Keys -/
def r35_Keys_an : Ann := .node none (.leaf) (.node none (.leaf) (.node none (.leaf) (.node (some [5]) (.node none (.leaf) (.loop [0, 3] [(5, .slice), (6, .int .i64)] (.node none (.leaf) (.node (some [0, 3, 5, 6]) (.node none (.leaf) (.node none (.leaf) (.node (some [0, 3, 5, 6, 7, 8]) (.loop [0, 3, 5, 6, 7] [(8, .int .i64)] (.node (some [0, 3, 5, 6, 7, 8]) (.leaf) (.leaf))) (.plan (.qu 1 (.qu 2 (.qu 3 (.qu 5 (.qu 8 (.qu 9 (.qu 10 (.wo 0 (.wo 4 (.wo 6 (.wo 7 (.wo 11 (.wo 12 .fin .no) .no) .no) .no) (.wo 6 (.wo 4 (.wo 7 (.wo 11 (.wo 12 .fin .no) .no) .no) .no) .no)) (.wo 6 (.wo 0 (.wo 4 (.wo 7 (.wo 11 (.wo 12 .fin .no) .no) .no) .no) .no) .no))))))))))))) (.leaf))))) (.leaf))))
def r35_Keys_K0  (K : Value → Hp → Prop) : Exit → Env → Hp → Prop := retK Tryz.prog Tryz.f30.results.toList K
def r35_Keys_K1  (K : Value → Hp → Prop) : Exit → Env → Hp → Prop := thenE (fun env h => sx_3 Tryz.prog F 59 (cp [1, 1, 1, 1] (bodyOf Tryz.f30)) (ap [1, 1, 1, 1] r35_Keys_an) (rs [5] env) h (r35_Keys_K0  K)) (r35_Keys_K0  K)
def r35_Keys_K2  (K : Value → Hp → Prop) : Exit → Env → Hp → Prop := blockE 0 (r35_Keys_K1  K)
def r35_Keys_K3 (nx0 : (Option Addr × Nat × Nat) × Int × Unit → Hp → Prop) (K : Value → Hp → Prop) : Exit → Env → Hp → Prop := thenE (fun env h => getV [(5, .slice), (6, .int .i64)] env fun s => nx0 s h) (r35_Keys_K2  K)
def r35_Keys_K4 (nx0 : (Option Addr × Nat × Nat) × Int × Unit → Hp → Prop) (K : Value → Hp → Prop) : Exit → Env → Hp → Prop := thenE (fun env h => sx_2 Tryz.prog F 59 (cp [1, 1, 1, 0, 1, 2, 2, 1, 1] (bodyOf Tryz.f30)) (ap [1, 1, 1, 0, 1, 2, 1, 1] r35_Keys_an) (rs [0, 3, 5, 6] env) h (r35_Keys_K3 nx0 K)) (r35_Keys_K3 nx0 K)
def r35_Keys_K5 (nx0 : (Option Addr × Nat × Nat) × Int × Unit → Hp → Prop) (K : Value → Hp → Prop) : Exit → Env → Hp → Prop := blockE 1 (r35_Keys_K4 nx0 K)
def r35_Keys_K6 (nx0 : (Option Addr × Nat × Nat) × Int × Unit → Hp → Prop) (K : Value → Hp → Prop) : Exit → Env → Hp → Prop := thenE (fun env h => sx_2 Tryz.prog F 59 (cp [1, 1, 1, 0, 1, 2, 2, 1, 0, 2, 1, 1, 1] (bodyOf Tryz.f30)) (ap [1, 1, 1, 0, 1, 2, 1, 0, 1, 1, 1] r35_Keys_an) (rs [0, 3, 5, 6, 7, 8] env) h (r35_Keys_K5 nx0 K)) (r35_Keys_K5 nx0 K)
def r35_Keys_K7 (nx0 : (Option Addr × Nat × Nat) × Int × Unit → Hp → Prop) (K : Value → Hp → Prop) : Exit → Env → Hp → Prop := blockE 2 (r35_Keys_K6 nx0 K)
def r35_Keys_K8 (nx0 : (Option Addr × Nat × Nat) × Int × Unit → Hp → Prop) (nx1 : Int × Unit → Hp → Prop) (K : Value → Hp → Prop) : Exit → Env → Hp → Prop := thenE (fun env h => getV [(8, .int .i64)] env fun s => nx1 s h) (r35_Keys_K7 nx0 K)
def r35_Keys_b0 (l : Option Addr) (lL : Nat) (lC : Nat) (h : Hp)  (K : Value → Hp → Prop) : Prop :=
  sx_4 Tryz.prog F 59 (cp [] (bodyOf Tryz.f30)) (ap [] r35_Keys_an) [(0, .slice l lL lC)] h (r35_Keys_K0  K)
def r35_Keys_b1 (out : Option Addr) (outL : Nat) (outC : Nat) (i : Int) (l : Option Addr) (lL : Nat) (lC : Nat) (inv : Option Addr) (invL : Nat) (invC : Nat) (h : Hp) (nx0 : (Option Addr × Nat × Nat) × Int × Unit → Hp → Prop) (K : Value → Hp → Prop) : Prop :=
  sx_3 Tryz.prog F 59 (cp [1, 1, 1, 0, 1, 2, 2] (bodyOf Tryz.f30)) (ap [1, 1, 1, 0, 1, 2] r35_Keys_an) [(5, .slice out outL outC), (6, .int .i64 i), (0, .slice l lL lC), (3, .slice inv invL invC)] h (r35_Keys_K3 nx0 K)
def r35_Keys_b2 (atv : Int) (l : Option Addr) (lL : Nat) (lC : Nat) (inv : Option Addr) (invL : Nat) (invC : Nat) (out : Option Addr) (outL : Nat) (outC : Nat) (i : Int) (k : Int) (h : Hp) (nx0 : (Option Addr × Nat × Nat) × Int × Unit → Hp → Prop) (nx1 : Int × Unit → Hp → Prop) (K : Value → Hp → Prop) : Prop :=
  sx_2 Tryz.prog F 59 (cp [1, 1, 1, 0, 1, 2, 2, 1, 0, 2, 1, 1, 0, 2, 2] (bodyOf Tryz.f30)) (ap [1, 1, 1, 0, 1, 2, 1, 0, 1, 1, 0, 2] r35_Keys_an) [(8, .int .i64 atv), (0, .slice l lL lC), (3, .slice inv invL invC), (5, .slice out outL outC), (6, .int .i64 i), (7, .int .i64 k)] h (r35_Keys_K8 nx0 nx1 K)
def r35_Keys_b3 (out : Option Addr) (outL : Nat) (outC : Nat) (h : Hp)  (K : Value → Hp → Prop) : Prop :=
  sx_3 Tryz.prog F 59 (cp [1, 1, 1, 1] (bodyOf Tryz.f30)) (ap [1, 1, 1, 1] r35_Keys_an) [(5, .slice out outL outC)] h (r35_Keys_K0  K)
def r35_Keys_b4 (l : Option Addr) (lL : Nat) (lC : Nat) (inv : Option Addr) (invL : Nat) (invC : Nat) (out : Option Addr) (outL : Nat) (outC : Nat) (i : Int) (k : Int) (atv : Int) (h : Hp) (nx0 : (Option Addr × Nat × Nat) × Int × Unit → Hp → Prop) (nx1 : Int × Unit → Hp → Prop) (K : Value → Hp → Prop) : Prop :=
  sx_1 Tryz.prog F 59 (cp [1, 1, 1, 0, 1, 2, 2, 1, 0, 2, 1, 1, 0, 2, 2, 1] (bodyOf Tryz.f30)) (ap [1, 1, 1, 0, 1, 2, 1, 0, 1, 1, 0, 2, 1] r35_Keys_an) [(0, .slice l lL lC), (3, .slice inv invL invC), (5, .slice out outL outC), (6, .int .i64 i), (7, .int .i64 k), (8, .int .i64 atv)] h (r35_Keys_K8 nx0 nx1 K)
def r35_Keys_b5 (l : Option Addr) (lL : Nat) (lC : Nat) (inv : Option Addr) (invL : Nat) (invC : Nat) (out : Option Addr) (outL : Nat) (outC : Nat) (i : Int) (k : Int) (atv : Int) (h : Hp) (nx0 : (Option Addr × Nat × Nat) × Int × Unit → Hp → Prop) (K : Value → Hp → Prop) : Prop :=
  sx_2 Tryz.prog F 59 (cp [1, 1, 1, 0, 1, 2, 2, 1, 0, 2, 1, 1, 1] (bodyOf Tryz.f30)) (ap [1, 1, 1, 0, 1, 2, 1, 0, 1, 1, 1] r35_Keys_an) [(0, .slice l lL lC), (3, .slice inv invL invC), (5, .slice out outL outC), (6, .int .i64 i), (7, .int .i64 k), (8, .int .i64 atv)] h (r35_Keys_K5 nx0 K)
def r35_Keys_b6 (l : Option Addr) (lL : Nat) (lC : Nat) (inv : Option Addr) (invL : Nat) (invC : Nat) (out : Option Addr) (outL : Nat) (outC : Nat) (i : Int) (h : Hp) (nx0 : (Option Addr × Nat × Nat) × Int × Unit → Hp → Prop) (K : Value → Hp → Prop) : Prop :=
  sx_2 Tryz.prog F 59 (cp [1, 1, 1, 0, 1, 2, 2, 1, 1] (bodyOf Tryz.f30)) (ap [1, 1, 1, 0, 1, 2, 1, 1] r35_Keys_an) [(0, .slice l lL lC), (3, .slice inv invL invC), (5, .slice out outL outC), (6, .int .i64 i)] h (r35_Keys_K3 nx0 K)
theorem r35_Keys_b0_eq (l : Option Addr) (lL : Nat) (lC : Nat) (h : Hp)  (K : Value → Hp → Prop) : r35_Keys_b0 l lL lC h  K = (
  HCalls Tryz.prog 18 #[.slice l lL lC, .int .i64 (lL : Int)] h fun v1 h1 => ∃ (r1 : Option Addr) (rL1 rC1 : Nat), ∃ r2 : Bool, v1 = .tuple #[.slice r1 rL1 rC1, .bool r2] ∧
  LoopVC (((none, 0, 0), 0, ()) : (Option Addr × Nat × Nat) × Int × Unit) h1 (fun (nx0 : (Option Addr × Nat × Nat) × Int × Unit → Hp → Prop) (s1 : (Option Addr × Nat × Nat) × Int × Unit) h2 => r35_Keys_b1 s1.1.1 s1.1.2.1 s1.1.2.2 s1.2.1 l lL lC r1 rL1 rC1 h2 nx0 K)) := by kernel_rfl
theorem r35_Keys_b1_eq (out : Option Addr) (outL : Nat) (outC : Nat) (i : Int) (l : Option Addr) (lL : Nat) (lC : Nat) (inv : Option Addr) (invL : Nat) (invC : Nat) (h : Hp) (nx0 : (Option Addr × Nat × Nat) × Int × Unit → Hp → Prop) (K : Value → Hp → Prop) : r35_Keys_b1 out outL outC i l lL lC inv invL invC h nx0 K = (
  cond (decide (i < (invL : Int)))
  ((0 ≤ i ∧ i < (invL : Int)) ∧
  NN inv fun a1 =>
  ∃ n1 : Int, cell h (a1.add (Int.toNat i * 1)) = some (.int .i64 n1) ∧
  HCalls Tryz.prog 15 #[.slice l lL lC, .int .i64 n1] h fun v2 h3 => ∃ r3 : Int, v2 = .int .i64 r3 ∧
  (0 ≤ r3 ∧ r3 < (lL : Int)) ∧
  NN l fun a2 =>
  ∃ n2 : Int, cell h3 ((a2.add (Int.toNat r3 * 3)).add 1) = some (.int .i64 n2) ∧
  LoopVC ((0, ()) : Int × Unit) h3 (fun (nx1 : Int × Unit → Hp → Prop) (s2 : Int × Unit) h4 => r35_Keys_b2 s2.1 l lL lC inv invL invC out outL outC i n2 h4 nx0 nx1 K))
  (r35_Keys_b3 out outL outC h  K)) := by kernel_rfl
theorem r35_Keys_b2_eq (atv : Int) (l : Option Addr) (lL : Nat) (lC : Nat) (inv : Option Addr) (invL : Nat) (invC : Nat) (out : Option Addr) (outL : Nat) (outC : Nat) (i : Int) (k : Int) (h : Hp) (nx0 : (Option Addr × Nat × Nat) × Int × Unit → Hp → Prop) (nx1 : Int × Unit → Hp → Prop) (K : Value → Hp → Prop) : r35_Keys_b2 atv l lL lC inv invL invC out outL outC i k h nx0 nx1 K = (
  cond (decide (atv < (outL : Int)))
  ((0 ≤ atv ∧ atv < (outL : Int)) ∧
  NN out fun a3 =>
  ∃ n3 : Int, cell h (a3.add (Int.toNat atv * 1)) = some (.int .i64 n3) ∧
  cond (decide (n3 ≤ k))
  (r35_Keys_b4 l lL lC inv invL invC out outL outC i k atv h nx0 nx1 K)
  (r35_Keys_b5 l lL lC inv invL invC out outL outC i k atv h nx0 K))
  (r35_Keys_b5 l lL lC inv invL invC out outL outC i k atv h nx0 K)) := by kernel_rfl
theorem r35_Keys_b3_eq (out : Option Addr) (outL : Nat) (outC : Nat) (h : Hp)  (K : Value → Hp → Prop) : r35_Keys_b3 out outL outC h  K = (
  K (.slice out outL outC) h) := by kernel_rfl
theorem r35_Keys_b4_eq (l : Option Addr) (lL : Nat) (lC : Nat) (inv : Option Addr) (invL : Nat) (invC : Nat) (out : Option Addr) (outL : Nat) (outC : Nat) (i : Int) (k : Int) (atv : Int) (h : Hp) (nx0 : (Option Addr × Nat × Nat) × Int × Unit → Hp → Prop) (nx1 : Int × Unit → Hp → Prop) (K : Value → Hp → Prop) : r35_Keys_b4 l lL lC inv invL invC out outL outC i k atv h nx0 nx1 K = (
  InR (atv + 1) ∧
  nx1 (atv + 1, ()) h) := by kernel_rfl
theorem r35_Keys_b5_eq (l : Option Addr) (lL : Nat) (lC : Nat) (inv : Option Addr) (invL : Nat) (invC : Nat) (out : Option Addr) (outL : Nat) (outC : Nat) (i : Int) (k : Int) (atv : Int) (h : Hp) (nx0 : (Option Addr × Nat × Nat) × Int × Unit → Hp → Prop) (K : Value → Hp → Prop) : r35_Keys_b5 l lL lC inv invL invC out outL outC i k atv h nx0 K = (
  (0 ≤ (0 : Int) ∧ (0 : Int) ≤ atv ∧ atv ≤ (outC : Int)) ∧
  (0 ≤ atv ∧ atv ≤ (outL : Int) ∧ (outL : Int) ≤ (outC : Int)) ∧
  (New h (.cells #[] 3) fun b1 h5 =>
  ((0 ≤ atv ∧ atv ≤ (outL : Int) ∧ (outL : Int) ≤ (outC : Int)) ∧
  (.slice (subAddr out outC (Int.toNat atv) 1) (Int.toNat (outL : Int) - Int.toNat atv) (outC - Int.toNat atv) : Value) = .slice (subAddr out outC (Int.toNat atv) 1) (Int.toNat (outL : Int) - Int.toNat atv) (outC - Int.toNat atv)) ∧
  ((0 ≤ (0 : Int) ∧ (0 : Int) ≤ atv ∧ atv ≤ (outC : Int)) ∧
  (.slice (subAddr out outC (Int.toNat (0 : Int)) 1) (Int.toNat atv - Int.toNat (0 : Int)) (outC - Int.toNat (0 : Int)) : Value) = .slice (subAddr out outC (Int.toNat (0 : Int)) 1) (Int.toNat atv - Int.toNat (0 : Int)) (outC - Int.toNat (0 : Int))) ∧
  (appendV Tryz.prog 23 23 (.slice (some ⟨b1, 0, none⟩) 0 0) (.slice (subAddr out outC (Int.toNat (0 : Int)) 1) (Int.toNat atv - Int.toNat (0 : Int)) (outC - Int.toNat (0 : Int))) h5 (slK fun a4 l1 c1 h6 =>
  ((0 ≤ atv ∧ atv ≤ (outL : Int) ∧ (outL : Int) ≤ (outC : Int)) ∧
  (.slice (subAddr out outC (Int.toNat atv) 1) (Int.toNat (outL : Int) - Int.toNat atv) (outC - Int.toNat atv) : Value) = .slice (subAddr out outC (Int.toNat atv) 1) (Int.toNat (outL : Int) - Int.toNat atv) (outC - Int.toNat atv)) ∧
  New h6 (.cells #[.int .i64 k] 3) fun b2 h7 =>
  ((0 ≤ atv ∧ atv ≤ (outL : Int) ∧ (outL : Int) ≤ (outC : Int)) ∧
  (.slice (subAddr out outC (Int.toNat atv) 1) (Int.toNat (outL : Int) - Int.toNat atv) (outC - Int.toNat atv) : Value) = .slice (subAddr out outC (Int.toNat atv) 1) (Int.toNat (outL : Int) - Int.toNat atv) (outC - Int.toNat atv)) ∧
  appendV Tryz.prog 23 23 (.slice a4 l1 c1) (.slice (some ⟨b2, 0, none⟩) 1 1) h7 (slK fun a5 l2 c2 h8 =>
  ((0 ≤ atv ∧ atv ≤ (outL : Int) ∧ (outL : Int) ≤ (outC : Int)) ∧
  (.slice (subAddr out outC (Int.toNat atv) 1) (Int.toNat (outL : Int) - Int.toNat atv) (outC - Int.toNat atv) : Value) = .slice (subAddr out outC (Int.toNat atv) 1) (Int.toNat (outL : Int) - Int.toNat atv) (outC - Int.toNat atv)) ∧
  appendV Tryz.prog 23 23 (.slice a5 l2 c2) (.slice (subAddr out outC (Int.toNat atv) 1) (Int.toNat (outL : Int) - Int.toNat atv) (outC - Int.toNat atv)) h8 (slK fun a6 l3 c3 h9 =>
  r35_Keys_b6 l lL lC inv invL invC a6 l3 c3 i h9 nx0 K)))) ∧
  (New h5 (.cells #[.int .i64 k] 3) fun b3 h10 =>
  ((0 ≤ atv ∧ atv ≤ (outL : Int) ∧ (outL : Int) ≤ (outC : Int)) ∧
  (.slice (subAddr out outC (Int.toNat atv) 1) (Int.toNat (outL : Int) - Int.toNat atv) (outC - Int.toNat atv) : Value) = .slice (subAddr out outC (Int.toNat atv) 1) (Int.toNat (outL : Int) - Int.toNat atv) (outC - Int.toNat atv)) ∧
  ((0 ≤ (0 : Int) ∧ (0 : Int) ≤ atv ∧ atv ≤ (outC : Int)) ∧
  (.slice (subAddr out outC (Int.toNat (0 : Int)) 1) (Int.toNat atv - Int.toNat (0 : Int)) (outC - Int.toNat (0 : Int)) : Value) = .slice (subAddr out outC (Int.toNat (0 : Int)) 1) (Int.toNat atv - Int.toNat (0 : Int)) (outC - Int.toNat (0 : Int))) ∧
  appendV Tryz.prog 23 23 (.slice (some ⟨b1, 0, none⟩) 0 0) (.slice (subAddr out outC (Int.toNat (0 : Int)) 1) (Int.toNat atv - Int.toNat (0 : Int)) (outC - Int.toNat (0 : Int))) h10 (slK fun a7 l4 c4 h11 =>
  ((0 ≤ atv ∧ atv ≤ (outL : Int) ∧ (outL : Int) ≤ (outC : Int)) ∧
  (.slice (subAddr out outC (Int.toNat atv) 1) (Int.toNat (outL : Int) - Int.toNat atv) (outC - Int.toNat atv) : Value) = .slice (subAddr out outC (Int.toNat atv) 1) (Int.toNat (outL : Int) - Int.toNat atv) (outC - Int.toNat atv)) ∧
  appendV Tryz.prog 23 23 (.slice a7 l4 c4) (.slice (some ⟨b3, 0, none⟩) 1 1) h11 (slK fun a8 l5 c5 h12 =>
  ((0 ≤ atv ∧ atv ≤ (outL : Int) ∧ (outL : Int) ≤ (outC : Int)) ∧
  (.slice (subAddr out outC (Int.toNat atv) 1) (Int.toNat (outL : Int) - Int.toNat atv) (outC - Int.toNat atv) : Value) = .slice (subAddr out outC (Int.toNat atv) 1) (Int.toNat (outL : Int) - Int.toNat atv) (outC - Int.toNat atv)) ∧
  appendV Tryz.prog 23 23 (.slice a8 l5 c5) (.slice (subAddr out outC (Int.toNat atv) 1) (Int.toNat (outL : Int) - Int.toNat atv) (outC - Int.toNat atv)) h12 (slK fun a9 l6 c6 h13 =>
  r35_Keys_b6 l lL lC inv invL invC a9 l6 c6 i h13 nx0 K))))) ∧
  (New h (.cells #[.int .i64 k] 3) fun b4 h14 =>
  ((0 ≤ atv ∧ atv ≤ (outL : Int) ∧ (outL : Int) ≤ (outC : Int)) ∧
  (.slice (subAddr out outC (Int.toNat atv) 1) (Int.toNat (outL : Int) - Int.toNat atv) (outC - Int.toNat atv) : Value) = .slice (subAddr out outC (Int.toNat atv) 1) (Int.toNat (outL : Int) - Int.toNat atv) (outC - Int.toNat atv)) ∧
  ((0 ≤ (0 : Int) ∧ (0 : Int) ≤ atv ∧ atv ≤ (outC : Int)) ∧
  (.slice (subAddr out outC (Int.toNat (0 : Int)) 1) (Int.toNat atv - Int.toNat (0 : Int)) (outC - Int.toNat (0 : Int)) : Value) = .slice (subAddr out outC (Int.toNat (0 : Int)) 1) (Int.toNat atv - Int.toNat (0 : Int)) (outC - Int.toNat (0 : Int))) ∧
  New h14 (.cells #[] 3) fun b5 h15 =>
  ((0 ≤ atv ∧ atv ≤ (outL : Int) ∧ (outL : Int) ≤ (outC : Int)) ∧
  (.slice (subAddr out outC (Int.toNat atv) 1) (Int.toNat (outL : Int) - Int.toNat atv) (outC - Int.toNat atv) : Value) = .slice (subAddr out outC (Int.toNat atv) 1) (Int.toNat (outL : Int) - Int.toNat atv) (outC - Int.toNat atv)) ∧
  ((0 ≤ (0 : Int) ∧ (0 : Int) ≤ atv ∧ atv ≤ (outC : Int)) ∧
  (.slice (subAddr out outC (Int.toNat (0 : Int)) 1) (Int.toNat atv - Int.toNat (0 : Int)) (outC - Int.toNat (0 : Int)) : Value) = .slice (subAddr out outC (Int.toNat (0 : Int)) 1) (Int.toNat atv - Int.toNat (0 : Int)) (outC - Int.toNat (0 : Int))) ∧
  appendV Tryz.prog 23 23 (.slice (some ⟨b5, 0, none⟩) 0 0) (.slice (subAddr out outC (Int.toNat (0 : Int)) 1) (Int.toNat atv - Int.toNat (0 : Int)) (outC - Int.toNat (0 : Int))) h15 (slK fun a10 l7 c7 h16 =>
  ((0 ≤ atv ∧ atv ≤ (outL : Int) ∧ (outL : Int) ≤ (outC : Int)) ∧
  (.slice (subAddr out outC (Int.toNat atv) 1) (Int.toNat (outL : Int) - Int.toNat atv) (outC - Int.toNat atv) : Value) = .slice (subAddr out outC (Int.toNat atv) 1) (Int.toNat (outL : Int) - Int.toNat atv) (outC - Int.toNat atv)) ∧
  appendV Tryz.prog 23 23 (.slice a10 l7 c7) (.slice (some ⟨b4, 0, none⟩) 1 1) h16 (slK fun a11 l8 c8 h17 =>
  ((0 ≤ atv ∧ atv ≤ (outL : Int) ∧ (outL : Int) ≤ (outC : Int)) ∧
  (.slice (subAddr out outC (Int.toNat atv) 1) (Int.toNat (outL : Int) - Int.toNat atv) (outC - Int.toNat atv) : Value) = .slice (subAddr out outC (Int.toNat atv) 1) (Int.toNat (outL : Int) - Int.toNat atv) (outC - Int.toNat atv)) ∧
  appendV Tryz.prog 23 23 (.slice a11 l8 c8) (.slice (subAddr out outC (Int.toNat atv) 1) (Int.toNat (outL : Int) - Int.toNat atv) (outC - Int.toNat atv)) h17 (slK fun a12 l9 c9 h18 =>
  r35_Keys_b6 l lL lC inv invL invC a12 l9 c9 i h18 nx0 K))))) := by kernel_rfl
theorem r35_Keys_b6_eq (l : Option Addr) (lL : Nat) (lC : Nat) (inv : Option Addr) (invL : Nat) (invC : Nat) (out : Option Addr) (outL : Nat) (outC : Nat) (i : Int) (h : Hp) (nx0 : (Option Addr × Nat × Nat) × Int × Unit → Hp → Prop) (K : Value → Hp → Prop) : r35_Keys_b6 l lL lC inv invL invC out outL outC i h nx0 K = (
  InR (i + 1) ∧
  nx0 ((out, outL, outC), i + 1, ()) h) := by kernel_rfl
theorem r35_Keys_call {l : Option Addr} {lL : Nat} {lC : Nat} {h : Hp} {K : Value → Hp → Prop} (hk : r35_Keys_b0 l lL lC h K) : HCalls Tryz.prog 30 #[.slice l lL lC] h K :=
  calls_of_snd r35_Keys_an Tryz.func30 (c := bodyOf Tryz.f30) rfl Tryz.ntmps30 (Nat.le_of_ble_eq_true rfl) (snd_4 F_ok F_mixed) hk

/-! ### partialretro_Queue_Min -/
def partialretro_Queue_Min_an : Ann := .leaf
def partialretro_Queue_Min_K0  (K : Value → Hp → Prop) : Exit → Env → Hp → Prop := retK Tryz.prog Tryz.f31.results.toList K
def partialretro_Queue_Min_b0 (q : Option Addr) (h : Hp)  (K : Value → Hp → Prop) : Prop :=
  sx_1 Tryz.prog F 19 (cp [] (bodyOf Tryz.f31)) (ap [] partialretro_Queue_Min_an) [(0, .pointer q)] h (partialretro_Queue_Min_K0  K)
theorem partialretro_Queue_Min_b0_eq (q : Option Addr) (h : Hp)  (K : Value → Hp → Prop) : partialretro_Queue_Min_b0 q h  K = (
  cond q.isNone
  (K (.tuple #[.int .i64 0, .int .i64 1]) h)
  (NN q fun a1 =>
  ∃ (a2 : Option Addr) (L1 C1 : Nat), cell h (a1.add 1) = some (.slice a2 L1 C1) ∧
  cond (decide ((L1 : Int) = 0))
  (K (.tuple #[.int .i64 0, .int .i64 14]) h)
  (NN q fun a3 =>
  ∃ (a4 : Option Addr) (L2 C2 : Nat), cell h (a3.add 1) = some (.slice a4 L2 C2) ∧
  (0 ≤ (0 : Int) ∧ (0 : Int) < (L2 : Int)) ∧
  NN a4 fun a5 =>
  ∃ n1 : Int, cell h (a5.add (Int.toNat (0 : Int) * 2)) = some (.int .i64 n1) ∧
  K (.tuple #[.int .i64 n1, .int .i64 0]) h))) := by kernel_rfl
theorem partialretro_Queue_Min_call {q : Option Addr} {h : Hp} {K : Value → Hp → Prop} (hk : partialretro_Queue_Min_b0 q h K) : HCalls Tryz.prog 31 #[.pointer q] h K :=
  calls_of_snd partialretro_Queue_Min_an Tryz.func31 (c := bodyOf Tryz.f31) rfl Tryz.ntmps31 (Nat.le_of_ble_eq_true rfl) (snd_1 F_ok F_mixed) hk

/-! ### l35_times -/
def l35_times_an : Ann := .node none (.leaf) (.node none (.leaf) (.node (some [3]) (.node none (.leaf) (.loop [6, 7] [(3, .slice), (8, .int .i64)] (.node none (.leaf) (.node none (.leaf) (.node (some [3, 6, 7, 8]) (.leaf) (.leaf)))))) (.leaf)))
def l35_times_K0  (K : Value → Hp → Prop) : Exit → Env → Hp → Prop := retK Tryz.prog Tryz.f32.results.toList K
def l35_times_K1  (K : Value → Hp → Prop) : Exit → Env → Hp → Prop := thenE (fun env h => sx_2 Tryz.prog F 19 (cp [1, 1, 1] (bodyOf Tryz.f32)) (ap [1, 1, 1] l35_times_an) (rs [3] env) h (l35_times_K0  K)) (l35_times_K0  K)
def l35_times_K2  (K : Value → Hp → Prop) : Exit → Env → Hp → Prop := blockE 0 (l35_times_K1  K)
def l35_times_K3 (nx0 : (Option Addr × Nat × Nat) × Int × Unit → Hp → Prop) (K : Value → Hp → Prop) : Exit → Env → Hp → Prop := thenE (fun env h => getV [(3, .slice), (8, .int .i64)] env fun s => nx0 s h) (l35_times_K2  K)
def l35_times_b0 (l : Option Addr) (lL : Nat) (lC : Nat) (h : Hp)  (K : Value → Hp → Prop) : Prop :=
  sx_3 Tryz.prog F 19 (cp [] (bodyOf Tryz.f32)) (ap [] l35_times_an) [(0, .slice l lL lC)] h (l35_times_K0  K)
def l35_times_b1 (out : Option Addr) (outL : Nat) (outC : Nat) (t8 : Int) (t6 : Option Addr) (t6L : Nat) (t6C : Nat) (t7 : Int) (h : Hp) (nx0 : (Option Addr × Nat × Nat) × Int × Unit → Hp → Prop) (K : Value → Hp → Prop) : Prop :=
  sx_2 Tryz.prog F 19 (cp [1, 1, 0, 1, 2, 2] (bodyOf Tryz.f32)) (ap [1, 1, 0, 1, 2] l35_times_an) [(3, .slice out outL outC), (8, .int .i64 t8), (6, .slice t6 t6L t6C), (7, .int .i64 t7)] h (l35_times_K3 nx0 K)
def l35_times_b2 (out : Option Addr) (outL : Nat) (outC : Nat) (t6 : Option Addr) (t6L : Nat) (t6C : Nat) (t7 : Int) (t8 : Int) (h : Hp) (nx0 : (Option Addr × Nat × Nat) × Int × Unit → Hp → Prop) (K : Value → Hp → Prop) : Prop :=
  sx_1 Tryz.prog F 19 (cp [1, 1, 0, 1, 2, 2, 1, 1, 1] (bodyOf Tryz.f32)) (ap [1, 1, 0, 1, 2, 1, 1, 1] l35_times_an) [(3, .slice out outL outC), (6, .slice t6 t6L t6C), (7, .int .i64 t7), (8, .int .i64 t8)] h (l35_times_K3 nx0 K)
def l35_times_b3 (out : Option Addr) (outL : Nat) (outC : Nat) (h : Hp)  (K : Value → Hp → Prop) : Prop :=
  sx_2 Tryz.prog F 19 (cp [1, 1, 1] (bodyOf Tryz.f32)) (ap [1, 1, 1] l35_times_an) [(3, .slice out outL outC)] h (l35_times_K0  K)
theorem l35_times_b0_eq (l : Option Addr) (lL : Nat) (lC : Nat) (h : Hp)  (K : Value → Hp → Prop) : l35_times_b0 l lL lC h  K = (
  LoopVC (((none, 0, 0), 0, ()) : (Option Addr × Nat × Nat) × Int × Unit) h (fun (nx0 : (Option Addr × Nat × Nat) × Int × Unit → Hp → Prop) (s1 : (Option Addr × Nat × Nat) × Int × Unit) h1 => l35_times_b1 s1.1.1 s1.1.2.1 s1.1.2.2 s1.2.1 l lL lC (lL : Int) h1 nx0 K)) := by kernel_rfl
theorem l35_times_b1_eq (out : Option Addr) (outL : Nat) (outC : Nat) (t8 : Int) (t6 : Option Addr) (t6L : Nat) (t6C : Nat) (t7 : Int) (h : Hp) (nx0 : (Option Addr × Nat × Nat) × Int × Unit → Hp → Prop) (K : Value → Hp → Prop) : l35_times_b1 out outL outC t8 t6 t6L t6C t7 h nx0 K = (
  cond (decide (t8 < t7))
  ((0 ≤ t8 ∧ t8 < (t6L : Int)) ∧
  NN t6 fun a1 =>
  ∃ n1 : Int, ∃ n2 : Int, ∃ b1 : Bool, cell h (a1.add (Int.toNat t8 * 3)) = some (.int .i64 n1) ∧
  cell h ((a1.add (Int.toNat t8 * 3)).add 1) = some (.int .i64 n2) ∧
  cell h ((a1.add (Int.toNat t8 * 3)).add 2) = some (.bool b1) ∧
  New h (.cells #[.int .i64 0, .int .i64 0, .bool false] 41) fun b2 h2 =>
  Wr h2 ⟨b2, 0, none⟩ (.int .i64 n1) fun h3 =>
  Wr h3 ((⟨b2, 0, none⟩ : Addr).add 1) (.int .i64 n2) fun h4 =>
  Wr h4 ((⟨b2, 0, none⟩ : Addr).add 2) (.bool b1) fun h5 =>
  ∃ n3 : Int, cell h5 ⟨b2, 0, none⟩ = some (.int .i64 n3) ∧
  New h5 (.cells #[.int .i64 n3] 3) fun b3 h6 =>
  appendV Tryz.prog 23 23 (.slice out outL outC) (.slice (some ⟨b3, 0, none⟩) 1 1) h6 (slK fun a2 l1 c1 h7 =>
  l35_times_b2 a2 l1 c1 t6 t6L t6C t7 t8 h7 nx0 K))
  (l35_times_b3 out outL outC h  K)) := by kernel_rfl
theorem l35_times_b2_eq (out : Option Addr) (outL : Nat) (outC : Nat) (t6 : Option Addr) (t6L : Nat) (t6C : Nat) (t7 : Int) (t8 : Int) (h : Hp) (nx0 : (Option Addr × Nat × Nat) × Int × Unit → Hp → Prop) (K : Value → Hp → Prop) : l35_times_b2 out outL outC t6 t6L t6C t7 t8 h nx0 K = (
  InR (t8 + 1) ∧
  nx0 ((out, outL, outC), t8 + 1, ()) h) := by kernel_rfl
theorem l35_times_b3_eq (out : Option Addr) (outL : Nat) (outC : Nat) (h : Hp)  (K : Value → Hp → Prop) : l35_times_b3 out outL outC h  K = (
  K (.slice out outL outC) h) := by kernel_rfl
theorem l35_times_call {l : Option Addr} {lL : Nat} {lC : Nat} {h : Hp} {K : Value → Hp → Prop} (hk : l35_times_b0 l lL lC h K) : HCalls Tryz.prog 32 #[.slice l lL lC] h K :=
  calls_of_snd l35_times_an Tryz.func32 (c := bodyOf Tryz.f32) rfl Tryz.ntmps32 (Nat.le_of_ble_eq_true rfl) (snd_3 F_ok F_mixed) hk

/-! ### r35_Bridges -/
def r35_Bridges_an : Ann := .node none (.leaf) (.node none (.leaf) (.node none (.leaf) (.node (some [5]) (.node none (.leaf) (.loop [0, 3] [(5, .slice), (6, .int .i64)] (.node none (.leaf) (.node (some [0, 3, 5, 6]) (.node none (.leaf) (.node none (.leaf) (.node (some [0, 3, 5, 6, 9]) (.node none (.leaf) (.loop [0, 3, 5, 6, 7] [(9, .bool), (10, .int .i64)] (.node none (.leaf) (.node (some [0, 3, 5, 6, 7, 9, 10]) (.leaf) (.leaf))))) (.leaf)))) (.leaf))))) (.leaf))))
def r35_Bridges_K0  (K : Value → Hp → Prop) : Exit → Env → Hp → Prop := retK Tryz.prog Tryz.f33.results.toList K
def r35_Bridges_K1  (K : Value → Hp → Prop) : Exit → Env → Hp → Prop := thenE (fun env h => sx_3 Tryz.prog F 56 (cp [1, 1, 1, 1] (bodyOf Tryz.f33)) (ap [1, 1, 1, 1] r35_Bridges_an) (rs [5] env) h (r35_Bridges_K0  K)) (r35_Bridges_K0  K)
def r35_Bridges_K2  (K : Value → Hp → Prop) : Exit → Env → Hp → Prop := blockE 0 (r35_Bridges_K1  K)
def r35_Bridges_K3 (nx0 : (Option Addr × Nat × Nat) × Int × Unit → Hp → Prop) (K : Value → Hp → Prop) : Exit → Env → Hp → Prop := thenE (fun env h => getV [(5, .slice), (6, .int .i64)] env fun s => nx0 s h) (r35_Bridges_K2  K)
def r35_Bridges_K4 (nx0 : (Option Addr × Nat × Nat) × Int × Unit → Hp → Prop) (K : Value → Hp → Prop) : Exit → Env → Hp → Prop := thenE (fun env h => sx_2 Tryz.prog F 56 (cp [1, 1, 1, 0, 1, 2, 2, 1, 1] (bodyOf Tryz.f33)) (ap [1, 1, 1, 0, 1, 2, 1, 1] r35_Bridges_an) (rs [0, 3, 5, 6] env) h (r35_Bridges_K3 nx0 K)) (r35_Bridges_K3 nx0 K)
def r35_Bridges_K5 (nx0 : (Option Addr × Nat × Nat) × Int × Unit → Hp → Prop) (K : Value → Hp → Prop) : Exit → Env → Hp → Prop := blockE 1 (r35_Bridges_K4 nx0 K)
def r35_Bridges_K6 (nx0 : (Option Addr × Nat × Nat) × Int × Unit → Hp → Prop) (K : Value → Hp → Prop) : Exit → Env → Hp → Prop := thenE (fun env h => sx_2 Tryz.prog F 56 (cp [1, 1, 1, 0, 1, 2, 2, 1, 0, 2, 1, 1, 1] (bodyOf Tryz.f33)) (ap [1, 1, 1, 0, 1, 2, 1, 0, 1, 1, 1] r35_Bridges_an) (rs [0, 3, 5, 6, 9] env) h (r35_Bridges_K5 nx0 K)) (r35_Bridges_K5 nx0 K)
def r35_Bridges_K7 (nx0 : (Option Addr × Nat × Nat) × Int × Unit → Hp → Prop) (K : Value → Hp → Prop) : Exit → Env → Hp → Prop := blockE 2 (r35_Bridges_K6 nx0 K)
def r35_Bridges_K8 (nx0 : (Option Addr × Nat × Nat) × Int × Unit → Hp → Prop) (nx1 : Bool × Int × Unit → Hp → Prop) (K : Value → Hp → Prop) : Exit → Env → Hp → Prop := thenE (fun env h => getV [(9, .bool), (10, .int .i64)] env fun s => nx1 s h) (r35_Bridges_K7 nx0 K)
def r35_Bridges_b0 (l : Option Addr) (lL : Nat) (lC : Nat) (h : Hp)  (K : Value → Hp → Prop) : Prop :=
  sx_4 Tryz.prog F 56 (cp [] (bodyOf Tryz.f33)) (ap [] r35_Bridges_an) [(0, .slice l lL lC)] h (r35_Bridges_K0  K)
def r35_Bridges_b1 (out : Option Addr) (outL : Nat) (outC : Nat) (i : Int) (l : Option Addr) (lL : Nat) (lC : Nat) (now : Option Addr) (nowL : Nat) (nowC : Nat) (h : Hp) (nx0 : (Option Addr × Nat × Nat) × Int × Unit → Hp → Prop) (K : Value → Hp → Prop) : Prop :=
  sx_3 Tryz.prog F 56 (cp [1, 1, 1, 0, 1, 2, 2] (bodyOf Tryz.f33)) (ap [1, 1, 1, 0, 1, 2] r35_Bridges_an) [(5, .slice out outL outC), (6, .int .i64 i), (0, .slice l lL lC), (3, .slice now nowL nowC)] h (r35_Bridges_K3 nx0 K)
def r35_Bridges_b2 (ok : Bool) (k : Int) (l : Option Addr) (lL : Nat) (lC : Nat) (now : Option Addr) (nowL : Nat) (nowC : Nat) (out : Option Addr) (outL : Nat) (outC : Nat) (i : Int) (inv : Option Addr) (invL : Nat) (invC : Nat) (h : Hp) (nx0 : (Option Addr × Nat × Nat) × Int × Unit → Hp → Prop) (nx1 : Bool × Int × Unit → Hp → Prop) (K : Value → Hp → Prop) : Prop :=
  sx_2 Tryz.prog F 56 (cp [1, 1, 1, 0, 1, 2, 2, 1, 0, 2, 1, 1, 0, 1, 2, 2] (bodyOf Tryz.f33)) (ap [1, 1, 1, 0, 1, 2, 1, 0, 1, 1, 0, 1, 2] r35_Bridges_an) [(9, .bool ok), (10, .int .i64 k), (0, .slice l lL lC), (3, .slice now nowL nowC), (5, .slice out outL outC), (6, .int .i64 i), (7, .slice inv invL invC)] h (r35_Bridges_K8 nx0 nx1 K)
def r35_Bridges_b3 (out : Option Addr) (outL : Nat) (outC : Nat) (h : Hp)  (K : Value → Hp → Prop) : Prop :=
  sx_3 Tryz.prog F 56 (cp [1, 1, 1, 1] (bodyOf Tryz.f33)) (ap [1, 1, 1, 1] r35_Bridges_an) [(5, .slice out outL outC)] h (r35_Bridges_K0  K)
def r35_Bridges_b4 (l : Option Addr) (lL : Nat) (lC : Nat) (now : Option Addr) (nowL : Nat) (nowC : Nat) (out : Option Addr) (outL : Nat) (outC : Nat) (i : Int) (inv : Option Addr) (invL : Nat) (invC : Nat) (ok : Bool) (k : Int) (h : Hp) (nx0 : (Option Addr × Nat × Nat) × Int × Unit → Hp → Prop) (nx1 : Bool × Int × Unit → Hp → Prop) (K : Value → Hp → Prop) : Prop :=
  sx_1 Tryz.prog F 56 (cp [1, 1, 1, 0, 1, 2, 2, 1, 0, 2, 1, 1, 0, 1, 2, 2, 1, 1] (bodyOf Tryz.f33)) (ap [1, 1, 1, 0, 1, 2, 1, 0, 1, 1, 0, 1, 2, 1, 1] r35_Bridges_an) [(0, .slice l lL lC), (3, .slice now nowL nowC), (5, .slice out outL outC), (6, .int .i64 i), (7, .slice inv invL invC), (9, .bool ok), (10, .int .i64 k)] h (r35_Bridges_K8 nx0 nx1 K)
def r35_Bridges_b5 (l : Option Addr) (lL : Nat) (lC : Nat) (now : Option Addr) (nowL : Nat) (nowC : Nat) (out : Option Addr) (outL : Nat) (outC : Nat) (i : Int) (ok : Bool) (h : Hp) (nx0 : (Option Addr × Nat × Nat) × Int × Unit → Hp → Prop) (K : Value → Hp → Prop) : Prop :=
  sx_2 Tryz.prog F 56 (cp [1, 1, 1, 0, 1, 2, 2, 1, 0, 2, 1, 1, 1] (bodyOf Tryz.f33)) (ap [1, 1, 1, 0, 1, 2, 1, 0, 1, 1, 1] r35_Bridges_an) [(0, .slice l lL lC), (3, .slice now nowL nowC), (5, .slice out outL outC), (6, .int .i64 i), (9, .bool ok)] h (r35_Bridges_K5 nx0 K)
def r35_Bridges_b6 (l : Option Addr) (lL : Nat) (lC : Nat) (now : Option Addr) (nowL : Nat) (nowC : Nat) (out : Option Addr) (outL : Nat) (outC : Nat) (i : Int) (h : Hp) (nx0 : (Option Addr × Nat × Nat) × Int × Unit → Hp → Prop) (K : Value → Hp → Prop) : Prop :=
  sx_2 Tryz.prog F 56 (cp [1, 1, 1, 0, 1, 2, 2, 1, 1] (bodyOf Tryz.f33)) (ap [1, 1, 1, 0, 1, 2, 1, 1] r35_Bridges_an) [(0, .slice l lL lC), (3, .slice now nowL nowC), (5, .slice out outL outC), (6, .int .i64 i)] h (r35_Bridges_K3 nx0 K)
theorem r35_Bridges_b0_eq (l : Option Addr) (lL : Nat) (lC : Nat) (h : Hp)  (K : Value → Hp → Prop) : r35_Bridges_b0 l lL lC h  K = (
  HCalls Tryz.prog 18 #[.slice l lL lC, .int .i64 (lL : Int)] h fun v1 h1 => ∃ (r1 : Option Addr) (rL1 rC1 : Nat), ∃ r2 : Bool, v1 = .tuple #[.slice r1 rL1 rC1, .bool r2] ∧
  LoopVC (((none, 0, 0), 0, ()) : (Option Addr × Nat × Nat) × Int × Unit) h1 (fun (nx0 : (Option Addr × Nat × Nat) × Int × Unit → Hp → Prop) (s1 : (Option Addr × Nat × Nat) × Int × Unit) h2 => r35_Bridges_b1 s1.1.1 s1.1.2.1 s1.1.2.2 s1.2.1 l lL lC r1 rL1 rC1 h2 nx0 K)) := by kernel_rfl
theorem r35_Bridges_b1_eq (out : Option Addr) (outL : Nat) (outC : Nat) (i : Int) (l : Option Addr) (lL : Nat) (lC : Nat) (now : Option Addr) (nowL : Nat) (nowC : Nat) (h : Hp) (nx0 : (Option Addr × Nat × Nat) × Int × Unit → Hp → Prop) (K : Value → Hp → Prop) : r35_Bridges_b1 out outL outC i l lL lC now nowL nowC h nx0 K = (
  cond (decide (i < (lL : Int)))
  (InR (i + 1) ∧
  HCalls Tryz.prog 18 #[.slice l lL lC, .int .i64 (i + 1)] h fun v2 h3 => ∃ (r3 : Option Addr) (rL2 rC2 : Nat), ∃ r4 : Bool, v2 = .tuple #[.slice r3 rL2 rC2, .bool r4] ∧
  LoopVC ((true, 0, ()) : Bool × Int × Unit) h3 (fun (nx1 : Bool × Int × Unit → Hp → Prop) (s2 : Bool × Int × Unit) h4 => r35_Bridges_b2 s2.1 s2.2.1 l lL lC now nowL nowC out outL outC i r3 rL2 rC2 h4 nx0 nx1 K))
  (r35_Bridges_b3 out outL outC h  K)) := by kernel_rfl
theorem r35_Bridges_b2_eq (ok : Bool) (k : Int) (l : Option Addr) (lL : Nat) (lC : Nat) (now : Option Addr) (nowL : Nat) (nowC : Nat) (out : Option Addr) (outL : Nat) (outC : Nat) (i : Int) (inv : Option Addr) (invL : Nat) (invC : Nat) (h : Hp) (nx0 : (Option Addr × Nat × Nat) × Int × Unit → Hp → Prop) (nx1 : Bool × Int × Unit → Hp → Prop) (K : Value → Hp → Prop) : r35_Bridges_b2 ok k l lL lC now nowL nowC out outL outC i inv invL invC h nx0 nx1 K = (
  cond (decide (k < (invL : Int)))
  (cond ok
  ((0 ≤ k ∧ k < (invL : Int)) ∧
  NN inv fun a1 =>
  ∃ n1 : Int, cell h (a1.add (Int.toNat k * 1)) = some (.int .i64 n1) ∧
  HCalls Tryz.prog 70 #[.slice now nowL nowC, .int .i64 n1] h fun v3 h5 => ∃ r5 : Bool, v3 = .bool r5 ∧
  r35_Bridges_b4 l lL lC now nowL nowC out outL outC i inv invL invC r5 k h5 nx0 nx1 K)
  (r35_Bridges_b4 l lL lC now nowL nowC out outL outC i inv invL invC false k h nx0 nx1 K))
  (r35_Bridges_b5 l lL lC now nowL nowC out outL outC i ok h nx0 K)) := by kernel_rfl
theorem r35_Bridges_b3_eq (out : Option Addr) (outL : Nat) (outC : Nat) (h : Hp)  (K : Value → Hp → Prop) : r35_Bridges_b3 out outL outC h  K = (
  K (.slice out outL outC) h) := by kernel_rfl
theorem r35_Bridges_b4_eq (l : Option Addr) (lL : Nat) (lC : Nat) (now : Option Addr) (nowL : Nat) (nowC : Nat) (out : Option Addr) (outL : Nat) (outC : Nat) (i : Int) (inv : Option Addr) (invL : Nat) (invC : Nat) (ok : Bool) (k : Int) (h : Hp) (nx0 : (Option Addr × Nat × Nat) × Int × Unit → Hp → Prop) (nx1 : Bool × Int × Unit → Hp → Prop) (K : Value → Hp → Prop) : r35_Bridges_b4 l lL lC now nowL nowC out outL outC i inv invL invC ok k h nx0 nx1 K = (
  InR (k + 1) ∧
  nx1 (ok, k + 1, ()) h) := by kernel_rfl
theorem r35_Bridges_b5_eq (l : Option Addr) (lL : Nat) (lC : Nat) (now : Option Addr) (nowL : Nat) (nowC : Nat) (out : Option Addr) (outL : Nat) (outC : Nat) (i : Int) (ok : Bool) (h : Hp) (nx0 : (Option Addr × Nat × Nat) × Int × Unit → Hp → Prop) (K : Value → Hp → Prop) : r35_Bridges_b5 l lL lC now nowL nowC out outL outC i ok h nx0 K = (
  cond ok
  ((0 ≤ i ∧ i < (lL : Int)) ∧
  NN l fun a2 =>
  ∃ n2 : Int, cell h (a2.add (Int.toNat i * 3)) = some (.int .i64 n2) ∧
  New h (.cells #[.int .i64 n2] 3) fun b1 h6 =>
  appendV Tryz.prog 23 23 (.slice out outL outC) (.slice (some ⟨b1, 0, none⟩) 1 1) h6 (slK fun a3 l1 c1 h7 =>
  r35_Bridges_b6 l lL lC now nowL nowC a3 l1 c1 i h7 nx0 K))
  (r35_Bridges_b6 l lL lC now nowL nowC out outL outC i h nx0 K)) := by kernel_rfl
theorem r35_Bridges_b6_eq (l : Option Addr) (lL : Nat) (lC : Nat) (now : Option Addr) (nowL : Nat) (nowC : Nat) (out : Option Addr) (outL : Nat) (outC : Nat) (i : Int) (h : Hp) (nx0 : (Option Addr × Nat × Nat) × Int × Unit → Hp → Prop) (K : Value → Hp → Prop) : r35_Bridges_b6 l lL lC now nowL nowC out outL outC i h nx0 K = (
  InR (i + 1) ∧
  nx0 ((out, outL, outC), i + 1, ()) h) := by kernel_rfl
theorem r35_Bridges_call {l : Option Addr} {lL : Nat} {lC : Nat} {h : Hp} {K : Value → Hp → Prop} (hk : r35_Bridges_b0 l lL lC h K) : HCalls Tryz.prog 33 #[.slice l lL lC] h K :=
  calls_of_snd r35_Bridges_an Tryz.func33 (c := bodyOf Tryz.f33) rfl Tryz.ntmps33 (Nat.le_of_ble_eq_true rfl) (snd_4 F_ok F_mixed) hk

/-! ### partialretro_NewLog -/
def partialretro_NewLog_an : Ann := .leaf
def partialretro_NewLog_K0  (K : Value → Hp → Prop) : Exit → Env → Hp → Prop := retK Tryz.prog Tryz.f34.results.toList K
def partialretro_NewLog_b0 (kind : Int) (h : Hp)  (K : Value → Hp → Prop) : Prop :=
  sx_1 Tryz.prog F 18 (cp [] (bodyOf Tryz.f34)) (ap [] partialretro_NewLog_an) [(0, .int .i64 kind)] h (partialretro_NewLog_K0  K)
theorem partialretro_NewLog_b0_eq (kind : Int) (h : Hp)  (K : Value → Hp → Prop) : partialretro_NewLog_b0 kind h  K = (
  HCalls Tryz.prog 52 #[.int .i64 kind] h fun v1 h1 => ∃ r1 : Int, ∃ (r2 : Option Addr) (rL1 rC1 : Nat), ∃ r3 : Int, v1 = .tuple #[.agg #[.int .i64 r1, .slice r2 rL1 rC1], .int .i64 r3] ∧
  New h1 (.cells #[.int .i64 0, .slice none 0 0] 66) fun b1 h2 =>
  Wr h2 ⟨b1, 0, none⟩ (.int .i64 r1) fun h3 =>
  Wr h3 ((⟨b1, 0, none⟩ : Addr).add 1) (.slice r2 rL1 rC1) fun h4 =>
  cond (!decide (r3 = 0))
  (K (.tuple #[.pointer none, .int .i64 r3]) h4)
  (∃ n1 : Int, ∃ (a1 : Option Addr) (L1 C1 : Nat), cell h4 ⟨b1, 0, none⟩ = some (.int .i64 n1) ∧
  cell h4 ((⟨b1, 0, none⟩ : Addr).add 1) = some (.slice a1 L1 C1) ∧
  New h4 (.cells #[.int .i64 kind, .slice none 0 0, .slice none 0 0, .int .i64 n1, .slice a1 L1 C1, .int .i64 0, .int .i64 0] 115) fun b2 h5 =>
  K (.tuple #[.pointer (some ⟨b2, 0, none⟩), .int .i64 0]) h5)) := by kernel_rfl
theorem partialretro_NewLog_call {kind : Int} {h : Hp} {K : Value → Hp → Prop} (hk : partialretro_NewLog_b0 kind h K) : HCalls Tryz.prog 34 #[.int .i64 kind] h K :=
  calls_of_snd partialretro_NewLog_an Tryz.func34 (c := bodyOf Tryz.f34) rfl Tryz.ntmps34 (Nat.le_of_ble_eq_true rfl) (snd_1 F_ok F_mixed) hk

/-! ### partialretro_Log_Query -/
def partialretro_Log_Query_an : Ann := .node none (.leaf) (.node (some [0, 3, 4]) (.node none (.tail 8) (.leaf)) (.node none (.leaf) (.node (some [4, 7, 8]) (.plan (.qu 0 (.qu 1 (.qu 2 (.qu 3 (.qu 4 (.wo 5 (.qu 6 (.qu 7 (.qu 8 (.qu 9 (.wo 10 (.wo 11 (.wo 12 (.wo 13 (.wo 14 .fin .no) .no) .no) .no) (.wo 11 (.wo 10 (.wo 12 (.wo 13 (.wo 14 .fin .no) .no) .no) .no) .no)))))) (.wo 10 (.wo 5 (.qu 6 (.qu 7 (.qu 8 (.qu 9 (.wo 11 (.wo 12 (.wo 13 (.wo 14 .fin .no) .no) .no) .no))))) (.wo 11 (.wo 5 (.qu 6 (.qu 7 (.qu 8 (.qu 9 (.wo 12 (.wo 13 (.wo 14 .fin .no) .no) .no))))) .no) .no)) (.wo 11 (.wo 5 (.qu 6 (.qu 7 (.qu 8 (.qu 9 (.wo 10 (.wo 12 (.wo 13 (.wo 14 .fin .no) .no) .no) .no))))) (.wo 10 (.wo 5 (.qu 6 (.qu 7 (.qu 8 (.qu 9 (.wo 12 (.wo 13 (.wo 14 .fin .no) .no) .no))))) .no) .no)) .no))))))))) (.leaf))))
def partialretro_Log_Query_K0  (K : Value → Hp → Prop) : Exit → Env → Hp → Prop := retK Tryz.prog Tryz.f35.results.toList K
def partialretro_Log_Query_b0 (g : Option Addr) (o_0 : Int) (o_1 : Option Addr) (o_1L : Nat) (o_1C : Nat) (h : Hp)  (K : Value → Hp → Prop) : Prop :=
  sx_3 Tryz.prog F 37 (cp [] (bodyOf Tryz.f35)) (ap [] partialretro_Log_Query_an) [(0, .pointer g), (1, .agg #[.int .i64 o_0, .slice o_1 o_1L o_1C])] h (partialretro_Log_Query_K0  K)
def partialretro_Log_Query_b1 (g : Option Addr) (o : Option Addr) (t4 : Option Addr) (h : Hp)  (K : Value → Hp → Prop) : Prop :=
  sx_2 Tryz.prog F 37 (cp [1, 1] (bodyOf Tryz.f35)) (ap [1, 1] partialretro_Log_Query_an) [(0, .pointer g), (3, .pointer o), (4, .pointer t4)] h (partialretro_Log_Query_K0  K)
def partialretro_Log_Query_b2 (t4 : Option Addr) (r : Option Addr) (e : Int) (h : Hp)  (K : Value → Hp → Prop) : Prop :=
  sx_1 Tryz.prog F 37 (cp [1, 1, 1, 1] (bodyOf Tryz.f35)) (ap [1, 1, 1, 1] partialretro_Log_Query_an) [(4, .pointer t4), (7, .pointer r), (8, .int .i64 e)] h (partialretro_Log_Query_K0  K)
theorem partialretro_Log_Query_b0_eq (g : Option Addr) (o_0 : Int) (o_1 : Option Addr) (o_1L : Nat) (o_1C : Nat) (h : Hp)  (K : Value → Hp → Prop) : partialretro_Log_Query_b0 g o_0 o_1 o_1L o_1C h  K = (
  New h (.cells #[.int .i64 o_0, .slice o_1 o_1L o_1C] 25) fun b1 h1 =>
  New h1 (.cells #[.int .i64 0, .int .i64 0, .slice none 0 0] 61) fun b2 h2 =>
  cond g.isNone
  (Wr h2 ⟨b2, 0, none⟩ (.int .i64 0) fun h3 =>
  Wr h3 ((⟨b2, 0, none⟩ : Addr).add 1) (.int .i64 0) fun h4 =>
  Wr h4 ((⟨b2, 0, none⟩ : Addr).add 2) (.slice none 0 0) fun h5 =>
  ∃ r1 : Int, ∃ r2 : Int, ∃ (r3 : Option Addr) (rL1 rC1 : Nat), cell h5 ⟨b2, 0, none⟩ = some (.int .i64 r1) ∧
  cell h5 ((⟨b2, 0, none⟩ : Addr).add 1) = some (.int .i64 r2) ∧
  cell h5 ((⟨b2, 0, none⟩ : Addr).add 2) = some (.slice r3 rL1 rC1) ∧
  K (.tuple #[.agg #[.int .i64 r1, .int .i64 r2, .slice r3 rL1 rC1], .int .i64 1]) h5)
  (NN g fun a1 =>
  ∃ n1 : Int, cell h2 a1 = some (.int .i64 n1) ∧
  ∃ n2 : Int, ∃ (a2 : Option Addr) (L1 C1 : Nat), cell h2 ⟨b1, 0, none⟩ = some (.int .i64 n2) ∧
  cell h2 ((⟨b1, 0, none⟩ : Addr).add 1) = some (.slice a2 L1 C1) ∧
  HCalls Tryz.prog 71 #[.int .i64 n1, .agg #[.int .i64 n2, .slice a2 L1 C1]] h2 fun v1 h6 => ∃ r4 : Bool, v1 = .bool r4 ∧
  cond (!r4)
  (Wr h6 ⟨b2, 0, none⟩ (.int .i64 0) fun h7 =>
  Wr h7 ((⟨b2, 0, none⟩ : Addr).add 1) (.int .i64 0) fun h8 =>
  Wr h8 ((⟨b2, 0, none⟩ : Addr).add 2) (.slice none 0 0) fun h9 =>
  ∃ r5 : Int, ∃ r6 : Int, ∃ (r7 : Option Addr) (rL2 rC2 : Nat), cell h9 ⟨b2, 0, none⟩ = some (.int .i64 r5) ∧
  cell h9 ((⟨b2, 0, none⟩ : Addr).add 1) = some (.int .i64 r6) ∧
  cell h9 ((⟨b2, 0, none⟩ : Addr).add 2) = some (.slice r7 rL2 rC2) ∧
  K (.tuple #[.agg #[.int .i64 r5, .int .i64 r6, .slice r7 rL2 rC2], .int .i64 1]) h9)
  (partialretro_Log_Query_b1 g (some ⟨b1, 0, none⟩) (some ⟨b2, 0, none⟩) h6  K))) := by kernel_rfl
theorem partialretro_Log_Query_b1_eq (g : Option Addr) (o : Option Addr) (t4 : Option Addr) (h : Hp)  (K : Value → Hp → Prop) : partialretro_Log_Query_b1 g o t4 h  K = (
  NN o fun a3 =>
  ∃ n3 : Int, ∃ (a4 : Option Addr) (L2 C2 : Nat), cell h a3 = some (.int .i64 n3) ∧
  cell h (a3.add 1) = some (.slice a4 L2 C2) ∧
  HCalls Tryz.prog 72 #[.pointer g, .agg #[.int .i64 n3, .slice a4 L2 C2]] h fun v2 h10 => ∃ r8 : Bool, v2 = .bool r8 ∧
  cond r8
  (NN t4 fun a5 =>
  Wr h10 a5 (.int .i64 0) fun h11 =>
  Wr h11 (a5.add 1) (.int .i64 0) fun h12 =>
  Wr h12 (a5.add 2) (.slice none 0 0) fun h13 =>
  NN t4 fun a6 =>
  ∃ r9 : Int, ∃ r10 : Int, ∃ (r11 : Option Addr) (rL3 rC3 : Nat), cell h13 a6 = some (.int .i64 r9) ∧
  cell h13 (a6.add 1) = some (.int .i64 r10) ∧
  cell h13 (a6.add 2) = some (.slice r11 rL3 rC3) ∧
  K (.tuple #[.agg #[.int .i64 r9, .int .i64 r10, .slice r11 rL3 rC3], .int .i64 30]) h13)
  (NN g fun a7 =>
  ∃ n4 : Int, ∃ (a8 : Option Addr) (L3 C3 : Nat), cell h10 (a7.add 3) = some (.int .i64 n4) ∧
  cell h10 ((a7.add 3).add 1) = some (.slice a8 L3 C3) ∧
  NN o fun a9 =>
  ∃ n5 : Int, ∃ (a10 : Option Addr) (L4 C4 : Nat), cell h10 a9 = some (.int .i64 n5) ∧
  cell h10 (a9.add 1) = some (.slice a10 L4 C4) ∧
  (HCalls Tryz.prog 53 #[.agg #[.int .i64 n4, .slice a8 L3 C3], .agg #[.int .i64 n5, .slice a10 L4 C4]] h10 fun v3 h14 => ∃ r12 : Int, ∃ (r13 : Option Addr) (rL4 rC4 : Nat), ∃ r14 : Int, ∃ r15 : Int, ∃ (r16 : Option Addr) (rL5 rC5 : Nat), ∃ r17 : Int, v3 = .tuple #[.agg #[.int .i64 r12, .slice r13 rL4 rC4], .agg #[.int .i64 r14, .int .i64 r15, .slice r16 rL5 rC5], .int .i64 r17] ∧
  (New h14 (.cells #[.int .i64 0, .slice none 0 0] 66) fun b3 h15 =>
  New h15 (.cells #[.int .i64 0, .int .i64 0, .slice none 0 0] 61) fun b4 h16 =>
  Wr h16 ⟨b3, 0, none⟩ (.int .i64 r12) fun h17 =>
  Wr h17 ((⟨b3, 0, none⟩ : Addr).add 1) (.slice r13 rL4 rC4) fun h18 =>
  Wr h18 ⟨b4, 0, none⟩ (.int .i64 r14) fun h19 =>
  Wr h19 ((⟨b4, 0, none⟩ : Addr).add 1) (.int .i64 r15) fun h20 =>
  Wr h20 ((⟨b4, 0, none⟩ : Addr).add 2) (.slice r16 rL5 rC5) fun h21 =>
  partialretro_Log_Query_b2 t4 (some ⟨b4, 0, none⟩) r17 h21  K) ∧
  (New h14 (.cells #[.int .i64 0, .int .i64 0, .slice none 0 0] 61) fun b5 h22 =>
  New h22 (.cells #[.int .i64 0, .slice none 0 0] 66) fun b6 h23 =>
  Wr h23 ⟨b6, 0, none⟩ (.int .i64 r12) fun h24 =>
  Wr h24 ((⟨b6, 0, none⟩ : Addr).add 1) (.slice r13 rL4 rC4) fun h25 =>
  Wr h25 ⟨b5, 0, none⟩ (.int .i64 r14) fun h26 =>
  Wr h26 ((⟨b5, 0, none⟩ : Addr).add 1) (.int .i64 r15) fun h27 =>
  Wr h27 ((⟨b5, 0, none⟩ : Addr).add 2) (.slice r16 rL5 rC5) fun h28 =>
  partialretro_Log_Query_b2 t4 (some ⟨b5, 0, none⟩) r17 h28  K)) ∧
  (New h10 (.cells #[.int .i64 0, .slice none 0 0] 66) fun b7 h29 =>
  (NN o fun a11 =>
  ∃ n6 : Int, ∃ (a12 : Option Addr) (L5 C5 : Nat), cell h29 a11 = some (.int .i64 n6) ∧
  cell h29 (a11.add 1) = some (.slice a12 L5 C5) ∧
  (.agg #[.int .i64 n6, .slice a12 L5 C5] : Value) = .agg #[.int .i64 n5, .slice a10 L4 C4]) ∧
  (∃ n7 : Int, ∃ (a13 : Option Addr) (L6 C6 : Nat), cell h29 (a7.add 3) = some (.int .i64 n7) ∧
  cell h29 ((a7.add 3).add 1) = some (.slice a13 L6 C6) ∧
  (.agg #[.int .i64 n7, .slice a13 L6 C6] : Value) = .agg #[.int .i64 n4, .slice a8 L3 C3]) ∧
  (HCalls Tryz.prog 53 #[.agg #[.int .i64 n4, .slice a8 L3 C3], .agg #[.int .i64 n5, .slice a10 L4 C4]] h29 fun v4 h30 => ∃ r18 : Int, ∃ (r19 : Option Addr) (rL6 rC6 : Nat), ∃ r20 : Int, ∃ r21 : Int, ∃ (r22 : Option Addr) (rL7 rC7 : Nat), ∃ r23 : Int, v4 = .tuple #[.agg #[.int .i64 r18, .slice r19 rL6 rC6], .agg #[.int .i64 r20, .int .i64 r21, .slice r22 rL7 rC7], .int .i64 r23] ∧
  New h30 (.cells #[.int .i64 0, .int .i64 0, .slice none 0 0] 61) fun b8 h31 =>
  Wr h31 ⟨b7, 0, none⟩ (.int .i64 r18) fun h32 =>
  Wr h32 ((⟨b7, 0, none⟩ : Addr).add 1) (.slice r19 rL6 rC6) fun h33 =>
  Wr h33 ⟨b8, 0, none⟩ (.int .i64 r20) fun h34 =>
  Wr h34 ((⟨b8, 0, none⟩ : Addr).add 1) (.int .i64 r21) fun h35 =>
  Wr h35 ((⟨b8, 0, none⟩ : Addr).add 2) (.slice r22 rL7 rC7) fun h36 =>
  partialretro_Log_Query_b2 t4 (some ⟨b8, 0, none⟩) r23 h36  K) ∧
  (New h29 (.cells #[.int .i64 0, .int .i64 0, .slice none 0 0] 61) fun b9 h37 =>
  (NN o fun a14 =>
  ∃ n8 : Int, ∃ (a15 : Option Addr) (L7 C7 : Nat), cell h37 a14 = some (.int .i64 n8) ∧
  cell h37 (a14.add 1) = some (.slice a15 L7 C7) ∧
  (.agg #[.int .i64 n8, .slice a15 L7 C7] : Value) = .agg #[.int .i64 n5, .slice a10 L4 C4]) ∧
  (∃ n9 : Int, ∃ (a16 : Option Addr) (L8 C8 : Nat), cell h37 (a7.add 3) = some (.int .i64 n9) ∧
  cell h37 ((a7.add 3).add 1) = some (.slice a16 L8 C8) ∧
  (.agg #[.int .i64 n9, .slice a16 L8 C8] : Value) = .agg #[.int .i64 n4, .slice a8 L3 C3]) ∧
  HCalls Tryz.prog 53 #[.agg #[.int .i64 n4, .slice a8 L3 C3], .agg #[.int .i64 n5, .slice a10 L4 C4]] h37 fun v5 h38 => ∃ r24 : Int, ∃ (r25 : Option Addr) (rL8 rC8 : Nat), ∃ r26 : Int, ∃ r27 : Int, ∃ (r28 : Option Addr) (rL9 rC9 : Nat), ∃ r29 : Int, v5 = .tuple #[.agg #[.int .i64 r24, .slice r25 rL8 rC8], .agg #[.int .i64 r26, .int .i64 r27, .slice r28 rL9 rC9], .int .i64 r29] ∧
  Wr h38 ⟨b7, 0, none⟩ (.int .i64 r24) fun h39 =>
  Wr h39 ((⟨b7, 0, none⟩ : Addr).add 1) (.slice r25 rL8 rC8) fun h40 =>
  Wr h40 ⟨b9, 0, none⟩ (.int .i64 r26) fun h41 =>
  Wr h41 ((⟨b9, 0, none⟩ : Addr).add 1) (.int .i64 r27) fun h42 =>
  Wr h42 ((⟨b9, 0, none⟩ : Addr).add 2) (.slice r28 rL9 rC9) fun h43 =>
  partialretro_Log_Query_b2 t4 (some ⟨b9, 0, none⟩) r29 h43  K)) ∧
  (New h10 (.cells #[.int .i64 0, .int .i64 0, .slice none 0 0] 61) fun b10 h44 =>
  (NN o fun a17 =>
  ∃ n10 : Int, ∃ (a18 : Option Addr) (L9 C9 : Nat), cell h44 a17 = some (.int .i64 n10) ∧
  cell h44 (a17.add 1) = some (.slice a18 L9 C9) ∧
  (.agg #[.int .i64 n10, .slice a18 L9 C9] : Value) = .agg #[.int .i64 n5, .slice a10 L4 C4]) ∧
  (∃ n11 : Int, ∃ (a19 : Option Addr) (L10 C10 : Nat), cell h44 (a7.add 3) = some (.int .i64 n11) ∧
  cell h44 ((a7.add 3).add 1) = some (.slice a19 L10 C10) ∧
  (.agg #[.int .i64 n11, .slice a19 L10 C10] : Value) = .agg #[.int .i64 n4, .slice a8 L3 C3]) ∧
  (HCalls Tryz.prog 53 #[.agg #[.int .i64 n4, .slice a8 L3 C3], .agg #[.int .i64 n5, .slice a10 L4 C4]] h44 fun v6 h45 => ∃ r30 : Int, ∃ (r31 : Option Addr) (rL10 rC10 : Nat), ∃ r32 : Int, ∃ r33 : Int, ∃ (r34 : Option Addr) (rL11 rC11 : Nat), ∃ r35 : Int, v6 = .tuple #[.agg #[.int .i64 r30, .slice r31 rL10 rC10], .agg #[.int .i64 r32, .int .i64 r33, .slice r34 rL11 rC11], .int .i64 r35] ∧
  New h45 (.cells #[.int .i64 0, .slice none 0 0] 66) fun b11 h46 =>
  Wr h46 ⟨b11, 0, none⟩ (.int .i64 r30) fun h47 =>
  Wr h47 ((⟨b11, 0, none⟩ : Addr).add 1) (.slice r31 rL10 rC10) fun h48 =>
  Wr h48 ⟨b10, 0, none⟩ (.int .i64 r32) fun h49 =>
  Wr h49 ((⟨b10, 0, none⟩ : Addr).add 1) (.int .i64 r33) fun h50 =>
  Wr h50 ((⟨b10, 0, none⟩ : Addr).add 2) (.slice r34 rL11 rC11) fun h51 =>
  partialretro_Log_Query_b2 t4 (some ⟨b10, 0, none⟩) r35 h51  K) ∧
  (New h44 (.cells #[.int .i64 0, .slice none 0 0] 66) fun b12 h52 =>
  (NN o fun a20 =>
  ∃ n12 : Int, ∃ (a21 : Option Addr) (L11 C11 : Nat), cell h52 a20 = some (.int .i64 n12) ∧
  cell h52 (a20.add 1) = some (.slice a21 L11 C11) ∧
  (.agg #[.int .i64 n12, .slice a21 L11 C11] : Value) = .agg #[.int .i64 n5, .slice a10 L4 C4]) ∧
  (∃ n13 : Int, ∃ (a22 : Option Addr) (L12 C12 : Nat), cell h52 (a7.add 3) = some (.int .i64 n13) ∧
  cell h52 ((a7.add 3).add 1) = some (.slice a22 L12 C12) ∧
  (.agg #[.int .i64 n13, .slice a22 L12 C12] : Value) = .agg #[.int .i64 n4, .slice a8 L3 C3]) ∧
  HCalls Tryz.prog 53 #[.agg #[.int .i64 n4, .slice a8 L3 C3], .agg #[.int .i64 n5, .slice a10 L4 C4]] h52 fun v7 h53 => ∃ r36 : Int, ∃ (r37 : Option Addr) (rL12 rC12 : Nat), ∃ r38 : Int, ∃ r39 : Int, ∃ (r40 : Option Addr) (rL13 rC13 : Nat), ∃ r41 : Int, v7 = .tuple #[.agg #[.int .i64 r36, .slice r37 rL12 rC12], .agg #[.int .i64 r38, .int .i64 r39, .slice r40 rL13 rC13], .int .i64 r41] ∧
  Wr h53 ⟨b12, 0, none⟩ (.int .i64 r36) fun h54 =>
  Wr h54 ((⟨b12, 0, none⟩ : Addr).add 1) (.slice r37 rL12 rC12) fun h55 =>
  Wr h55 ⟨b10, 0, none⟩ (.int .i64 r38) fun h56 =>
  Wr h56 ((⟨b10, 0, none⟩ : Addr).add 1) (.int .i64 r39) fun h57 =>
  Wr h57 ((⟨b10, 0, none⟩ : Addr).add 2) (.slice r40 rL13 rC13) fun h58 =>
  partialretro_Log_Query_b2 t4 (some ⟨b10, 0, none⟩) r41 h58  K)))) := by kernel_rfl
theorem partialretro_Log_Query_b2_eq (t4 : Option Addr) (r : Option Addr) (e : Int) (h : Hp)  (K : Value → Hp → Prop) : partialretro_Log_Query_b2 t4 r e h  K = (
  NN r fun a23 =>
  ∃ n14 : Int, ∃ n15 : Int, ∃ (a24 : Option Addr) (L13 C13 : Nat), cell h a23 = some (.int .i64 n14) ∧
  cell h (a23.add 1) = some (.int .i64 n15) ∧
  cell h (a23.add 2) = some (.slice a24 L13 C13) ∧
  NN t4 fun a25 =>
  Wr h a25 (.int .i64 n14) fun h59 =>
  Wr h59 (a25.add 1) (.int .i64 n15) fun h60 =>
  Wr h60 (a25.add 2) (.slice a24 L13 C13) fun h61 =>
  NN t4 fun a26 =>
  ∃ r42 : Int, ∃ r43 : Int, ∃ (r44 : Option Addr) (rL14 rC14 : Nat), cell h61 a26 = some (.int .i64 r42) ∧
  cell h61 (a26.add 1) = some (.int .i64 r43) ∧
  cell h61 (a26.add 2) = some (.slice r44 rL14 rC14) ∧
  K (.tuple #[.agg #[.int .i64 r42, .int .i64 r43, .slice r44 rL14 rC14], .int .i64 e]) h61) := by kernel_rfl
theorem partialretro_Log_Query_call {g : Option Addr} {o_0 : Int} {o_1 : Option Addr} {o_1L : Nat} {o_1C : Nat} {h : Hp} {K : Value → Hp → Prop} (hk : partialretro_Log_Query_b0 g o_0 o_1 o_1L o_1C h K) : HCalls Tryz.prog 35 #[.pointer g, .agg #[.int .i64 o_0, .slice o_1 o_1L o_1C]] h K :=
  calls_of_snd partialretro_Log_Query_an Tryz.func35 (c := bodyOf Tryz.f35) rfl Tryz.ntmps35 (Nat.le_of_ble_eq_true rfl) (snd_3 F_ok F_mixed) hk


end Go.Proofs.YtdlkohenamlnaaaGreat
