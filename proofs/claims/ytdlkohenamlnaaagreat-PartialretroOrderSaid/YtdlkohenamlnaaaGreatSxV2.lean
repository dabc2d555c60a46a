/- Plain statements of what each block of code of this seat asks; printed by a program, checked by Lean. -/
import Derived.Test.YtdlkohenamlnaaaGreatSxV0
set_option maxRecDepth 10000
namespace Go.Proofs.YtdlkohenamlnaaaGreat
open Go Go.Sx

/-! ### r35_Time -/
/-! ### r35_Key -/
/-! ### partialretro_NewQueue -/
def partialretro_NewQueue_an : Ann := .leaf
def partialretro_NewQueue_K0  (K : Value → Hp → Prop) : Exit → Env → Hp → Prop := retK Tryz.prog Tryz.f13.results.toList K
def partialretro_NewQueue_b0  (h : Hp)  (K : Value → Hp → Prop) : Prop :=
  sx_1 Tryz.prog F 3 (cp [] (bodyOf Tryz.f13)) (ap [] partialretro_NewQueue_an) [] h (partialretro_NewQueue_K0  K)
theorem partialretro_NewQueue_b0_eq  (h : Hp)  (K : Value → Hp → Prop) : partialretro_NewQueue_b0  h  K = (
  New h (.cells #[.slice none 0 0, .slice none 0 0, .slice none 0 0] 96) fun b1 h1 =>
  K (.pointer (some ⟨b1, 0, none⟩)) h1) := by kernel_rfl
theorem partialretro_NewQueue_call  {h : Hp} {K : Value → Hp → Prop} (hk : partialretro_NewQueue_b0  h K) : HCalls Tryz.prog 13 #[] h K :=
  calls_of_snd partialretro_NewQueue_an Tryz.func13 (c := bodyOf Tryz.f13) rfl Tryz.ntmps13 (Nat.le_of_ble_eq_true rfl) (snd_1 F_ok F_mixed) hk

/-! ### l35_queue -/
/-! ### r35_Find -/
/-! ### partialretro_Queue_Keys -/
def partialretro_Queue_Keys_an : Ann := .node none (.leaf) (.node none (.leaf) (.node none (.leaf) (.node (some [3]) (.node none (.leaf) (.loop [11, 12] [(3, .slice), (13, .int .i64)] (.node none (.leaf) (.node none (.leaf) (.node (some [3, 11, 12, 13]) (.leaf) (.leaf)))))) (.leaf))))
def partialretro_Queue_Keys_K0  (K : Value → Hp → Prop) : Exit → Env → Hp → Prop := retK Tryz.prog Tryz.f16.results.toList K
def partialretro_Queue_Keys_K1  (K : Value → Hp → Prop) : Exit → Env → Hp → Prop := thenE (fun env h => sx_2 Tryz.prog F 24 (cp [1, 1, 1, 1] (bodyOf Tryz.f16)) (ap [1, 1, 1, 1] partialretro_Queue_Keys_an) (rs [3] env) h (partialretro_Queue_Keys_K0  K)) (partialretro_Queue_Keys_K0  K)
def partialretro_Queue_Keys_K2  (K : Value → Hp → Prop) : Exit → Env → Hp → Prop := blockE 0 (partialretro_Queue_Keys_K1  K)
def partialretro_Queue_Keys_K3 (nx0 : (Option Addr × Nat × Nat) × Int × Unit → Hp → Prop) (K : Value → Hp → Prop) : Exit → Env → Hp → Prop := thenE (fun env h => getV [(3, .slice), (13, .int .i64)] env fun s => nx0 s h) (partialretro_Queue_Keys_K2  K)
def partialretro_Queue_Keys_b0 (q : Option Addr) (h : Hp)  (K : Value → Hp → Prop) : Prop :=
  sx_3 Tryz.prog F 24 (cp [] (bodyOf Tryz.f16)) (ap [] partialretro_Queue_Keys_an) [(0, .pointer q)] h (partialretro_Queue_Keys_K0  K)
def partialretro_Queue_Keys_b1 (out : Option Addr) (outL : Nat) (outC : Nat) (t13 : Int) (t11 : Option Addr) (t11L : Nat) (t11C : Nat) (t12 : Int) (h : Hp) (nx0 : (Option Addr × Nat × Nat) × Int × Unit → Hp → Prop) (K : Value → Hp → Prop) : Prop :=
  sx_2 Tryz.prog F 24 (cp [1, 1, 1, 0, 1, 2, 2] (bodyOf Tryz.f16)) (ap [1, 1, 1, 0, 1, 2] partialretro_Queue_Keys_an) [(3, .slice out outL outC), (13, .int .i64 t13), (11, .slice t11 t11L t11C), (12, .int .i64 t12)] h (partialretro_Queue_Keys_K3 nx0 K)
def partialretro_Queue_Keys_b2 (out : Option Addr) (outL : Nat) (outC : Nat) (t11 : Option Addr) (t11L : Nat) (t11C : Nat) (t12 : Int) (t13 : Int) (h : Hp) (nx0 : (Option Addr × Nat × Nat) × Int × Unit → Hp → Prop) (K : Value → Hp → Prop) : Prop :=
  sx_1 Tryz.prog F 24 (cp [1, 1, 1, 0, 1, 2, 2, 1, 1, 1] (bodyOf Tryz.f16)) (ap [1, 1, 1, 0, 1, 2, 1, 1, 1] partialretro_Queue_Keys_an) [(3, .slice out outL outC), (11, .slice t11 t11L t11C), (12, .int .i64 t12), (13, .int .i64 t13)] h (partialretro_Queue_Keys_K3 nx0 K)
def partialretro_Queue_Keys_b3 (out : Option Addr) (outL : Nat) (outC : Nat) (h : Hp)  (K : Value → Hp → Prop) : Prop :=
  sx_2 Tryz.prog F 24 (cp [1, 1, 1, 1] (bodyOf Tryz.f16)) (ap [1, 1, 1, 1] partialretro_Queue_Keys_an) [(3, .slice out outL outC)] h (partialretro_Queue_Keys_K0  K)
theorem partialretro_Queue_Keys_b0_eq (q : Option Addr) (h : Hp)  (K : Value → Hp → Prop) : partialretro_Queue_Keys_b0 q h  K = (
  cond q.isNone
  (K (.slice none 0 0) h)
  (NN q fun a1 =>
  ∃ (a2 : Option Addr) (L1 C1 : Nat), cell h (a1.add 1) = some (.slice a2 L1 C1) ∧
  LoopVC (((none, 0, 0), 0, ()) : (Option Addr × Nat × Nat) × Int × Unit) h (fun (nx0 : (Option Addr × Nat × Nat) × Int × Unit → Hp → Prop) (s1 : (Option Addr × Nat × Nat) × Int × Unit) h1 => partialretro_Queue_Keys_b1 s1.1.1 s1.1.2.1 s1.1.2.2 s1.2.1 a2 L1 C1 (L1 : Int) h1 nx0 K))) := by kernel_rfl
theorem partialretro_Queue_Keys_b1_eq (out : Option Addr) (outL : Nat) (outC : Nat) (t13 : Int) (t11 : Option Addr) (t11L : Nat) (t11C : Nat) (t12 : Int) (h : Hp) (nx0 : (Option Addr × Nat × Nat) × Int × Unit → Hp → Prop) (K : Value → Hp → Prop) : partialretro_Queue_Keys_b1 out outL outC t13 t11 t11L t11C t12 h nx0 K = (
  cond (decide (t13 < t12))
  ((0 ≤ t13 ∧ t13 < (t11L : Int)) ∧
  NN t11 fun a3 =>
  ∃ n1 : Int, ∃ n2 : Int, cell h (a3.add (Int.toNat t13 * 2)) = some (.int .i64 n1) ∧
  cell h ((a3.add (Int.toNat t13 * 2)).add 1) = some (.int .i64 n2) ∧
  New h (.cells #[.int .i64 0, .int .i64 0] 101) fun b1 h2 =>
  Wr h2 ⟨b1, 0, none⟩ (.int .i64 n1) fun h3 =>
  Wr h3 ((⟨b1, 0, none⟩ : Addr).add 1) (.int .i64 n2) fun h4 =>
  ∃ n3 : Int, cell h4 ⟨b1, 0, none⟩ = some (.int .i64 n3) ∧
  New h4 (.cells #[.int .i64 n3] 3) fun b2 h5 =>
  appendV Tryz.prog 23 23 (.slice out outL outC) (.slice (some ⟨b2, 0, none⟩) 1 1) h5 (slK fun a4 l1 c1 h6 =>
  partialretro_Queue_Keys_b2 a4 l1 c1 t11 t11L t11C t12 t13 h6 nx0 K))
  (partialretro_Queue_Keys_b3 out outL outC h  K)) := by kernel_rfl
theorem partialretro_Queue_Keys_b2_eq (out : Option Addr) (outL : Nat) (outC : Nat) (t11 : Option Addr) (t11L : Nat) (t11C : Nat) (t12 : Int) (t13 : Int) (h : Hp) (nx0 : (Option Addr × Nat × Nat) × Int × Unit → Hp → Prop) (K : Value → Hp → Prop) : partialretro_Queue_Keys_b2 out outL outC t11 t11L t11C t12 t13 h nx0 K = (
  InR (t13 + 1) ∧
  nx0 ((out, outL, outC), t13 + 1, ()) h) := by kernel_rfl
theorem partialretro_Queue_Keys_b3_eq (out : Option Addr) (outL : Nat) (outC : Nat) (h : Hp)  (K : Value → Hp → Prop) : partialretro_Queue_Keys_b3 out outL outC h  K = (
  K (.slice out outL outC) h) := by kernel_rfl
theorem partialretro_Queue_Keys_call {q : Option Addr} {h : Hp} {K : Value → Hp → Prop} (hk : partialretro_Queue_Keys_b0 q h K) : HCalls Tryz.prog 16 #[.pointer q] h K :=
  calls_of_snd partialretro_Queue_Keys_an Tryz.func16 (c := bodyOf Tryz.f16) rfl Tryz.ntmps16 (Nat.le_of_ble_eq_true rfl) (snd_3 F_ok F_mixed) hk

/-! ### partialretro_Queue_Bridges -/
def partialretro_Queue_Bridges_an : Ann := .leaf
def partialretro_Queue_Bridges_K0  (K : Value → Hp → Prop) : Exit → Env → Hp → Prop := retK Tryz.prog Tryz.f17.results.toList K
def partialretro_Queue_Bridges_b0 (q : Option Addr) (h : Hp)  (K : Value → Hp → Prop) : Prop :=
  sx_1 Tryz.prog F 10 (cp [] (bodyOf Tryz.f17)) (ap [] partialretro_Queue_Bridges_an) [(0, .pointer q)] h (partialretro_Queue_Bridges_K0  K)
theorem partialretro_Queue_Bridges_b0_eq (q : Option Addr) (h : Hp)  (K : Value → Hp → Prop) : partialretro_Queue_Bridges_b0 q h  K = (
  cond q.isNone
  (K (.slice none 0 0) h)
  (NN q fun a1 =>
  ∃ (a2 : Option Addr) (L1 C1 : Nat), cell h (a1.add 2) = some (.slice a2 L1 C1) ∧
  HCalls Tryz.prog 24 #[.slice a2 L1 C1] h fun v1 h1 => ∃ (r1 : Option Addr) (rL1 rC1 : Nat), v1 = .slice r1 rL1 rC1 ∧
  K (.slice r1 rL1 rC1) h1)) := by kernel_rfl
theorem partialretro_Queue_Bridges_call {q : Option Addr} {h : Hp} {K : Value → Hp → Prop} (hk : partialretro_Queue_Bridges_b0 q h K) : HCalls Tryz.prog 17 #[.pointer q] h K :=
  calls_of_snd partialretro_Queue_Bridges_an Tryz.func17 (c := bodyOf Tryz.f17) rfl Tryz.ntmps17 (Nat.le_of_ble_eq_true rfl) (snd_1 F_ok F_mixed) hk

/-! ### r35_After -/
/-! ### slices_Contains_Sint_int -/
/-! ### partialretro_Queue_Insert -/
def partialretro_Queue_Insert_an : Ann := .node none (.leaf) (.node (some [0, 1, 2]) (.leaf) (.leaf))
def partialretro_Queue_Insert_K0  (K : Value → Hp → Prop) : Exit → Env → Hp → Prop := retK Tryz.prog Tryz.f20.results.toList K
def partialretro_Queue_Insert_b0 (q : Option Addr) (time : Int) (key : Int) (h : Hp)  (K : Value → Hp → Prop) : Prop :=
  sx_2 Tryz.prog F 22 (cp [] (bodyOf Tryz.f20)) (ap [] partialretro_Queue_Insert_an) [(0, .pointer q), (1, .int .i64 time), (2, .int .i64 key)] h (partialretro_Queue_Insert_K0  K)
def partialretro_Queue_Insert_b1 (q : Option Addr) (time : Int) (key : Int) (h : Hp)  (K : Value → Hp → Prop) : Prop :=
  sx_1 Tryz.prog F 22 (cp [1, 1] (bodyOf Tryz.f20)) (ap [1, 1] partialretro_Queue_Insert_an) [(0, .pointer q), (1, .int .i64 time), (2, .int .i64 key)] h (partialretro_Queue_Insert_K0  K)
theorem partialretro_Queue_Insert_b0_eq (q : Option Addr) (time : Int) (key : Int) (h : Hp)  (K : Value → Hp → Prop) : partialretro_Queue_Insert_b0 q time key h  K = (
  cond q.isNone
  (K (.int .i64 1) h)
  (cond (decide (key < (-1048576)))
  (K (.int .i64 1) h)
  (cond (decide ((1048576 : Int) < key))
  (K (.int .i64 1) h)
  (partialretro_Queue_Insert_b1 q time key h  K)))) := by kernel_rfl
theorem partialretro_Queue_Insert_b1_eq (q : Option Addr) (time : Int) (key : Int) (h : Hp)  (K : Value → Hp → Prop) : partialretro_Queue_Insert_b1 q time key h  K = (
  HCalls Tryz.prog 60 #[.pointer q, .agg #[.int .i64 time, .int .i64 key, .bool false]] h fun v1 h1 => ∃ r1 : Int, v1 = .int .i64 r1 ∧
  K (.int .i64 r1) h1) := by kernel_rfl
theorem partialretro_Queue_Insert_call {q : Option Addr} {time : Int} {key : Int} {h : Hp} {K : Value → Hp → Prop} (hk : partialretro_Queue_Insert_b0 q time key h K) : HCalls Tryz.prog 20 #[.pointer q, .int .i64 time, .int .i64 key] h K :=
  calls_of_snd partialretro_Queue_Insert_an Tryz.func20 (c := bodyOf Tryz.f20) rfl Tryz.ntmps20 (Nat.le_of_ble_eq_true rfl) (snd_2 F_ok F_mixed) hk

/-! ### slices_BinarySearch_Sint_int -/
def slices_BinarySearch_Sint_int_an : Ann := .node none (.leaf) (.node none (.leaf) (.node none (.leaf) (.node (some [0, 1, 6, 7]) (.loop [0, 1, 6] [(7, .int .i64), (8, .int .i64)] (.leaf)) (.leaf))))
def slices_BinarySearch_Sint_int_K0  (K : Value → Hp → Prop) : Exit → Env → Hp → Prop := retK Tryz.prog Tryz.f21.results.toList K
def slices_BinarySearch_Sint_int_K1  (K : Value → Hp → Prop) : Exit → Env → Hp → Prop := thenE (fun env h => sx_1 Tryz.prog F 54 (cp [1, 1, 1, 1] (bodyOf Tryz.f21)) (ap [1, 1, 1, 1] slices_BinarySearch_Sint_int_an) (rs [0, 1, 6, 7] env) h (slices_BinarySearch_Sint_int_K0  K)) (slices_BinarySearch_Sint_int_K0  K)
def slices_BinarySearch_Sint_int_K2  (K : Value → Hp → Prop) : Exit → Env → Hp → Prop := blockE 0 (slices_BinarySearch_Sint_int_K1  K)
def slices_BinarySearch_Sint_int_K3 (nx0 : Int × Int × Unit → Hp → Prop) (K : Value → Hp → Prop) : Exit → Env → Hp → Prop := thenE (fun env h => getV [(7, .int .i64), (8, .int .i64)] env fun s => nx0 s h) (slices_BinarySearch_Sint_int_K2  K)
def slices_BinarySearch_Sint_int_b0 (x : Option Addr) (xL : Nat) (xC : Nat) (target : Int) (h : Hp)  (K : Value → Hp → Prop) : Prop :=
  sx_2 Tryz.prog F 54 (cp [] (bodyOf Tryz.f21)) (ap [] slices_BinarySearch_Sint_int_an) [(0, .slice x xL xC), (1, .int .i64 target)] h (slices_BinarySearch_Sint_int_K0  K)
def slices_BinarySearch_Sint_int_b1 (i : Int) (j : Int) (x : Option Addr) (xL : Nat) (xC : Nat) (target : Int) (nv : Int) (h : Hp) (nx0 : Int × Int × Unit → Hp → Prop) (K : Value → Hp → Prop) : Prop :=
  sx_1 Tryz.prog F 54 (cp [1, 1, 1, 0, 2, 2] (bodyOf Tryz.f21)) (ap [1, 1, 1, 0, 2] slices_BinarySearch_Sint_int_an) [(7, .int .i64 i), (8, .int .i64 j), (0, .slice x xL xC), (1, .int .i64 target), (6, .int .i64 nv)] h (slices_BinarySearch_Sint_int_K3 nx0 K)
def slices_BinarySearch_Sint_int_b2 (x : Option Addr) (xL : Nat) (xC : Nat) (target : Int) (nv : Int) (i : Int) (h : Hp)  (K : Value → Hp → Prop) : Prop :=
  sx_1 Tryz.prog F 54 (cp [1, 1, 1, 1] (bodyOf Tryz.f21)) (ap [1, 1, 1, 1] slices_BinarySearch_Sint_int_an) [(0, .slice x xL xC), (1, .int .i64 target), (6, .int .i64 nv), (7, .int .i64 i)] h (slices_BinarySearch_Sint_int_K0  K)
theorem slices_BinarySearch_Sint_int_b0_eq (x : Option Addr) (xL : Nat) (xC : Nat) (target : Int) (h : Hp)  (K : Value → Hp → Prop) : slices_BinarySearch_Sint_int_b0 x xL xC target h  K = (
  LoopVC ((0, (xL : Int), ()) : Int × Int × Unit) h (fun (nx0 : Int × Int × Unit → Hp → Prop) (s1 : Int × Int × Unit) h1 => slices_BinarySearch_Sint_int_b1 s1.1 s1.2.1 x xL xC target (xL : Int) h1 nx0 K)) := by kernel_rfl
theorem slices_BinarySearch_Sint_int_b1_eq (i : Int) (j : Int) (x : Option Addr) (xL : Nat) (xC : Nat) (target : Int) (nv : Int) (h : Hp) (nx0 : Int × Int × Unit → Hp → Prop) (K : Value → Hp → Prop) : slices_BinarySearch_Sint_int_b1 i j x xL xC target nv h nx0 K = (
  cond (decide (i < j))
  (InR (i + j) ∧
  ∃ sr1 : Int, Sx.Shr .u64 (IntKind.u64.wrap (i + j)) 1 sr1 ∧
  InR sr1 ∧
  (0 ≤ sr1 ∧ sr1 < (xL : Int)) ∧
  NN x fun a1 =>
  ∃ n1 : Int, cell h (a1.add (Int.toNat sr1 * 1)) = some (.int .i64 n1) ∧
  HCalls Tryz.prog 61 #[.int .i64 n1, .int .i64 target] h fun v1 h2 => ∃ r1 : Bool, v1 = .bool r1 ∧
  cond r1
  (InR (sr1 + 1) ∧
  nx0 (sr1 + 1, j, ()) h2)
  (nx0 (i, sr1, ()) h2))
  (slices_BinarySearch_Sint_int_b2 x xL xC target nv i h  K)) := by kernel_rfl
theorem slices_BinarySearch_Sint_int_b2_eq (x : Option Addr) (xL : Nat) (xC : Nat) (target : Int) (nv : Int) (i : Int) (h : Hp)  (K : Value → Hp → Prop) : slices_BinarySearch_Sint_int_b2 x xL xC target nv i h  K = (
  cond (decide (i < nv))
  ((0 ≤ i ∧ i < (xL : Int)) ∧
  NN x fun a2 =>
  ∃ n2 : Int, cell h (a2.add (Int.toNat i * 1)) = some (.int .i64 n2) ∧
  cond (decide (n2 = target))
  (K (.tuple #[.int .i64 i, .bool true]) h)
  ((0 ≤ i ∧ i < (xL : Int)) ∧
  NN x fun a3 =>
  ∃ n3 : Int, cell h (a3.add (Int.toNat i * 1)) = some (.int .i64 n3) ∧
  HCalls Tryz.prog 62 #[.int .i64 n3] h fun v2 h3 => ∃ r2 : Bool, v2 = .bool r2 ∧
  cond r2
  (HCalls Tryz.prog 62 #[.int .i64 target] h3 fun v3 h4 => ∃ r3 : Bool, v3 = .bool r3 ∧
  K (.tuple #[.int .i64 i, .bool r3]) h4)
  (K (.tuple #[.int .i64 i, .bool false]) h3)))
  (K (.tuple #[.int .i64 i, .bool false]) h)) := by kernel_rfl
theorem slices_BinarySearch_Sint_int_call {x : Option Addr} {xL : Nat} {xC : Nat} {target : Int} {h : Hp} {K : Value → Hp → Prop} (hk : slices_BinarySearch_Sint_int_b0 x xL xC target h K) : HCalls Tryz.prog 21 #[.slice x xL xC, .int .i64 target] h K :=
  calls_of_snd slices_BinarySearch_Sint_int_an Tryz.func21 (c := bodyOf Tryz.f21) rfl Tryz.ntmps21 (Nat.le_of_ble_eq_true rfl) (snd_2 F_ok F_mixed) hk

/-! ### EqI -/
def EqI_an : Ann := .node none (.leaf) (.node none (.leaf) (.node (some []) (.node none (.leaf) (.loop [0, 1, 12] [(13, .int .i64)] (.node none (.leaf) (.node none (.leaf) (.node (some [0, 1, 12, 13]) (.leaf) (.leaf)))))) (.leaf)))
def EqI_K0  (K : Value → Hp → Prop) : Exit → Env → Hp → Prop := retK Tryz.prog Tryz.f22.results.toList K
def EqI_K1  (K : Value → Hp → Prop) : Exit → Env → Hp → Prop := thenE (fun env h => sx_2 Tryz.prog F 26 (cp [1, 1, 1] (bodyOf Tryz.f22)) (ap [1, 1, 1] EqI_an) (rs [] env) h (EqI_K0  K)) (EqI_K0  K)
def EqI_K2  (K : Value → Hp → Prop) : Exit → Env → Hp → Prop := blockE 0 (EqI_K1  K)
def EqI_K3 (nx0 : Int × Unit → Hp → Prop) (K : Value → Hp → Prop) : Exit → Env → Hp → Prop := thenE (fun env h => getV [(13, .int .i64)] env fun s => nx0 s h) (EqI_K2  K)
def EqI_b0 (s1 : Option Addr) (s1L : Nat) (s1C : Nat) (s2 : Option Addr) (s2L : Nat) (s2C : Nat) (h : Hp)  (K : Value → Hp → Prop) : Prop :=
  sx_3 Tryz.prog F 26 (cp [] (bodyOf Tryz.f22)) (ap [] EqI_an) [(0, .slice s1 s1L s1C), (1, .slice s2 s2L s2C)] h (EqI_K0  K)
def EqI_b1 (t13 : Int) (s1 : Option Addr) (s1L : Nat) (s1C : Nat) (s2 : Option Addr) (s2L : Nat) (s2C : Nat) (t12 : Int) (h : Hp) (nx0 : Int × Unit → Hp → Prop) (K : Value → Hp → Prop) : Prop :=
  sx_2 Tryz.prog F 26 (cp [1, 1, 0, 1, 2, 2] (bodyOf Tryz.f22)) (ap [1, 1, 0, 1, 2] EqI_an) [(13, .int .i64 t13), (0, .slice s1 s1L s1C), (1, .slice s2 s2L s2C), (12, .int .i64 t12)] h (EqI_K3 nx0 K)
def EqI_b2 (s1 : Option Addr) (s1L : Nat) (s1C : Nat) (s2 : Option Addr) (s2L : Nat) (s2C : Nat) (t12 : Int) (t13 : Int) (h : Hp) (nx0 : Int × Unit → Hp → Prop) (K : Value → Hp → Prop) : Prop :=
  sx_1 Tryz.prog F 26 (cp [1, 1, 0, 1, 2, 2, 1, 1, 1] (bodyOf Tryz.f22)) (ap [1, 1, 0, 1, 2, 1, 1, 1] EqI_an) [(0, .slice s1 s1L s1C), (1, .slice s2 s2L s2C), (12, .int .i64 t12), (13, .int .i64 t13)] h (EqI_K3 nx0 K)
def EqI_b3  (h : Hp)  (K : Value → Hp → Prop) : Prop :=
  sx_2 Tryz.prog F 26 (cp [1, 1, 1] (bodyOf Tryz.f22)) (ap [1, 1, 1] EqI_an) [] h (EqI_K0  K)
theorem EqI_b0_eq (s1 : Option Addr) (s1L : Nat) (s1C : Nat) (s2 : Option Addr) (s2L : Nat) (s2C : Nat) (h : Hp)  (K : Value → Hp → Prop) : EqI_b0 s1 s1L s1C s2 s2L s2C h  K = (
  cond (!decide ((s1L : Int) = (s2L : Int)))
  (K (.bool false) h)
  (LoopVC ((0, ()) : Int × Unit) h (fun (nx0 : Int × Unit → Hp → Prop) (s3 : Int × Unit) h1 => EqI_b1 s3.1 s1 s1L s1C s2 s2L s2C (s1L : Int) h1 nx0 K))) := by kernel_rfl
theorem EqI_b1_eq (t13 : Int) (s1 : Option Addr) (s1L : Nat) (s1C : Nat) (s2 : Option Addr) (s2L : Nat) (s2C : Nat) (t12 : Int) (h : Hp) (nx0 : Int × Unit → Hp → Prop) (K : Value → Hp → Prop) : EqI_b1 t13 s1 s1L s1C s2 s2L s2C t12 h nx0 K = (
  cond (decide (t13 < t12))
  ((0 ≤ t13 ∧ t13 < (s1L : Int)) ∧
  NN s1 fun a1 =>
  ∃ n1 : Int, cell h (a1.add (Int.toNat t13 * 1)) = some (.int .i64 n1) ∧
  (0 ≤ t13 ∧ t13 < (s2L : Int)) ∧
  NN s2 fun a2 =>
  ∃ n2 : Int, cell h (a2.add (Int.toNat t13 * 1)) = some (.int .i64 n2) ∧
  cond (!decide (n1 = n2))
  (K (.bool false) h)
  (EqI_b2 s1 s1L s1C s2 s2L s2C t12 t13 h nx0 K))
  (EqI_b3  h  K)) := by kernel_rfl
theorem EqI_b2_eq (s1 : Option Addr) (s1L : Nat) (s1C : Nat) (s2 : Option Addr) (s2L : Nat) (s2C : Nat) (t12 : Int) (t13 : Int) (h : Hp) (nx0 : Int × Unit → Hp → Prop) (K : Value → Hp → Prop) : EqI_b2 s1 s1L s1C s2 s2L s2C t12 t13 h nx0 K = (
  InR (t13 + 1) ∧
  nx0 (t13 + 1, ()) h) := by kernel_rfl
theorem EqI_b3_eq  (h : Hp)  (K : Value → Hp → Prop) : EqI_b3  h  K = (
  K (.bool true) h) := by kernel_rfl
theorem EqI_call {s1 : Option Addr} {s1L : Nat} {s1C : Nat} {s2 : Option Addr} {s2L : Nat} {s2C : Nat} {h : Hp} {K : Value → Hp → Prop} (hk : EqI_b0 s1 s1L s1C s2 s2L s2C h K) : HCalls Tryz.prog 22 #[.slice s1 s1L s1C, .slice s2 s2L s2C] h K :=
  calls_of_snd EqI_an Tryz.func22 (c := bodyOf Tryz.f22) rfl Tryz.ntmps22 (Nat.le_of_ble_eq_true rfl) (snd_3 F_ok F_mixed) hk

/-! ### slices_Insert_Sint_int -/
def slices_Insert_Sint_int_an : Ann := .node none (.leaf) (.node none (.leaf) (.node none (.leaf) (.node none (.leaf) (.node none (.leaf) (.node none (.leaf) (.node none (.node none (.leaf) (.node none (.node none (.leaf) (.node none (.leaf) (.node none (.tail 8) (.leaf)))) (.leaf))) (.node none (.leaf) (.node none (.node none (.leaf) (.node none (.node none (.tail 8) (.leaf)) (.leaf))) (.leaf)))))))))
def slices_Insert_Sint_int_K0  (K : Value → Hp → Prop) : Exit → Env → Hp → Prop := retK Tryz.prog Tryz.f23.results.toList K
def slices_Insert_Sint_int_b0 (s : Option Addr) (sL : Nat) (sC : Nat) (i : Int) (v : Option Addr) (vL : Nat) (vC : Nat) (h : Hp)  (K : Value → Hp → Prop) : Prop :=
  sx_1 Tryz.prog F 95 (cp [] (bodyOf Tryz.f23)) (ap [] slices_Insert_Sint_int_an) [(0, .slice s sL sC), (1, .int .i64 i), (2, .slice v vL vC)] h (slices_Insert_Sint_int_K0  K)
theorem slices_Insert_Sint_int_b0_eq (s : Option Addr) (sL : Nat) (sC : Nat) (i : Int) (v : Option Addr) (vL : Nat) (vC : Nat) (h : Hp)  (K : Value → Hp → Prop) : slices_Insert_Sint_int_b0 s sL sC i v vL vC h  K = (
  (0 ≤ i ∧ i ≤ (sL : Int) ∧ (sL : Int) ≤ (sC : Int)) ∧
  cond (decide ((vL : Int) = 0))
  (K (.slice s sL sC) h)
  (cond (decide (i = (sL : Int)))
  (appendV Tryz.prog 23 23 (.slice s sL sC) (.slice v vL vC) h (slK fun a1 l1 c1 h1 =>
  K (.slice a1 l1 c1) h1))
  (InR ((sL : Int) + (vL : Int)) ∧
  cond (decide ((sC : Int) < ((sL : Int) + (vL : Int))))
  ((0 ≤ (0 : Int) ∧ (0 : Int) ≤ i ∧ i ≤ (sC : Int)) ∧
  InR ((sL : Int) + (vL : Int)) ∧
  InR (((sL : Int) + (vL : Int)) - i) ∧
  appendV Tryz.prog 23 3 (.slice (subAddr s sC (Int.toNat (0 : Int)) 1) (Int.toNat i - Int.toNat (0 : Int)) (sC - Int.toNat (0 : Int))) (.int .i64 (((sL : Int) + (vL : Int)) - i)) h (slK fun a2 l2 c2 h2 =>
  (0 ≤ i ∧ i ≤ (l2 : Int) ∧ (l2 : Int) ≤ (c2 : Int)) ∧
  copyV Tryz.prog 23 (.slice (subAddr a2 c2 (Int.toNat i) 1) (Int.toNat (l2 : Int) - Int.toNat i) (c2 - Int.toNat i)) (.slice v vL vC) h2 fun v1 h3 =>
  InR (i + (vL : Int)) ∧
  (0 ≤ i + (vL : Int) ∧ i + (vL : Int) ≤ (l2 : Int) ∧ (l2 : Int) ≤ (c2 : Int)) ∧
  (0 ≤ i ∧ i ≤ (sL : Int) ∧ (sL : Int) ≤ (sC : Int)) ∧
  copyV Tryz.prog 23 (.slice (subAddr a2 c2 (Int.toNat (i + (vL : Int))) 1) (Int.toNat (l2 : Int) - Int.toNat (i + (vL : Int))) (c2 - Int.toNat (i + (vL : Int)))) (.slice (subAddr s sC (Int.toNat i) 1) (Int.toNat (sL : Int) - Int.toNat i) (sC - Int.toNat i)) h3 fun v2 h4 =>
  K (.slice a2 l2 c2) h4))
  (InR ((sL : Int) + (vL : Int)) ∧
  (0 ≤ (0 : Int) ∧ (0 : Int) ≤ (sL : Int) + (vL : Int) ∧ (sL : Int) + (vL : Int) ≤ (sC : Int)) ∧
  InR (i + (vL : Int)) ∧
  (0 ≤ i + (vL : Int) ∧ i + (vL : Int) ≤ ((Int.toNat ((sL : Int) + (vL : Int)) - Int.toNat (0 : Int) : Nat) : Int) ∧ ((Int.toNat ((sL : Int) + (vL : Int)) - Int.toNat (0 : Int) : Nat) : Int) ≤ ((sC - Int.toNat (0 : Int) : Nat) : Int)) ∧
  ExtCall Tryz.prog 63 #[.slice v vL vC, .slice (subAddr (subAddr s sC (Int.toNat (0 : Int)) 1) (sC - Int.toNat (0 : Int)) (Int.toNat (i + (vL : Int))) 1) (Int.toNat ((Int.toNat ((sL : Int) + (vL : Int)) - Int.toNat (0 : Int) : Nat) : Int) - Int.toNat (i + (vL : Int))) ((sC - Int.toNat (0 : Int)) - Int.toNat (i + (vL : Int)))] h fun v3 => ∃ r1 : Bool, v3 = .bool r1 ∧
  cond (!r1)
  (InR (i + (vL : Int)) ∧
  (0 ≤ i + (vL : Int) ∧ i + (vL : Int) ≤ ((Int.toNat ((sL : Int) + (vL : Int)) - Int.toNat (0 : Int) : Nat) : Int) ∧ ((Int.toNat ((sL : Int) + (vL : Int)) - Int.toNat (0 : Int) : Nat) : Int) ≤ ((sC - Int.toNat (0 : Int) : Nat) : Int)) ∧
  (0 ≤ i ∧ i ≤ ((Int.toNat ((sL : Int) + (vL : Int)) - Int.toNat (0 : Int) : Nat) : Int) ∧ ((Int.toNat ((sL : Int) + (vL : Int)) - Int.toNat (0 : Int) : Nat) : Int) ≤ ((sC - Int.toNat (0 : Int) : Nat) : Int)) ∧
  copyV Tryz.prog 23 (.slice (subAddr (subAddr s sC (Int.toNat (0 : Int)) 1) (sC - Int.toNat (0 : Int)) (Int.toNat (i + (vL : Int))) 1) (Int.toNat ((Int.toNat ((sL : Int) + (vL : Int)) - Int.toNat (0 : Int) : Nat) : Int) - Int.toNat (i + (vL : Int))) ((sC - Int.toNat (0 : Int)) - Int.toNat (i + (vL : Int)))) (.slice (subAddr (subAddr s sC (Int.toNat (0 : Int)) 1) (sC - Int.toNat (0 : Int)) (Int.toNat i) 1) (Int.toNat ((Int.toNat ((sL : Int) + (vL : Int)) - Int.toNat (0 : Int) : Nat) : Int) - Int.toNat i) ((sC - Int.toNat (0 : Int)) - Int.toNat i)) h fun v4 h6 =>
  (0 ≤ i ∧ i ≤ ((Int.toNat ((sL : Int) + (vL : Int)) - Int.toNat (0 : Int) : Nat) : Int) ∧ ((Int.toNat ((sL : Int) + (vL : Int)) - Int.toNat (0 : Int) : Nat) : Int) ≤ ((sC - Int.toNat (0 : Int) : Nat) : Int)) ∧
  copyV Tryz.prog 23 (.slice (subAddr (subAddr s sC (Int.toNat (0 : Int)) 1) (sC - Int.toNat (0 : Int)) (Int.toNat i) 1) (Int.toNat ((Int.toNat ((sL : Int) + (vL : Int)) - Int.toNat (0 : Int) : Nat) : Int) - Int.toNat i) ((sC - Int.toNat (0 : Int)) - Int.toNat i)) (.slice v vL vC) h6 fun v5 h7 =>
  K (.slice (subAddr s sC (Int.toNat (0 : Int)) 1) (Int.toNat ((sL : Int) + (vL : Int)) - Int.toNat (0 : Int)) (sC - Int.toNat (0 : Int))) h7)
  ((0 ≤ (sL : Int) ∧ (sL : Int) ≤ ((Int.toNat ((sL : Int) + (vL : Int)) - Int.toNat (0 : Int) : Nat) : Int) ∧ ((Int.toNat ((sL : Int) + (vL : Int)) - Int.toNat (0 : Int) : Nat) : Int) ≤ ((sC - Int.toNat (0 : Int) : Nat) : Int)) ∧
  copyV Tryz.prog 23 (.slice (subAddr (subAddr s sC (Int.toNat (0 : Int)) 1) (sC - Int.toNat (0 : Int)) (Int.toNat (sL : Int)) 1) (Int.toNat ((Int.toNat ((sL : Int) + (vL : Int)) - Int.toNat (0 : Int) : Nat) : Int) - Int.toNat (sL : Int)) ((sC - Int.toNat (0 : Int)) - Int.toNat (sL : Int))) (.slice v vL vC) h fun v6 h8 =>
  (0 ≤ i ∧ i ≤ ((Int.toNat ((sL : Int) + (vL : Int)) - Int.toNat (0 : Int) : Nat) : Int) ∧ ((Int.toNat ((sL : Int) + (vL : Int)) - Int.toNat (0 : Int) : Nat) : Int) ≤ ((sC - Int.toNat (0 : Int) : Nat) : Int)) ∧
  HCalls Tryz.prog 64 #[.slice (subAddr (subAddr s sC (Int.toNat (0 : Int)) 1) (sC - Int.toNat (0 : Int)) (Int.toNat i) 1) (Int.toNat ((Int.toNat ((sL : Int) + (vL : Int)) - Int.toNat (0 : Int) : Nat) : Int) - Int.toNat i) ((sC - Int.toNat (0 : Int)) - Int.toNat i), .int .i64 (vL : Int)] h8 fun v7 h9 => v7 = .tuple #[] ∧
  K (.slice (subAddr s sC (Int.toNat (0 : Int)) 1) (Int.toNat ((sL : Int) + (vL : Int)) - Int.toNat (0 : Int)) (sC - Int.toNat (0 : Int))) h9))))) := by kernel_rfl
theorem slices_Insert_Sint_int_call {s : Option Addr} {sL : Nat} {sC : Nat} {i : Int} {v : Option Addr} {vL : Nat} {vC : Nat} {h : Hp} {K : Value → Hp → Prop} (hk : slices_Insert_Sint_int_b0 s sL sC i v vL vC h K) : HCalls Tryz.prog 23 #[.slice s sL sC, .int .i64 i, .slice v vL vC] h K :=
  calls_of_snd slices_Insert_Sint_int_an Tryz.func23 (c := bodyOf Tryz.f23) rfl Tryz.ntmps23 (Nat.le_of_ble_eq_true rfl) (snd_1 F_ok F_mixed) hk

/-! ### slices_Clone_Sint_int -/
def slices_Clone_Sint_int_an : Ann := .leaf
def slices_Clone_Sint_int_K0  (K : Value → Hp → Prop) : Exit → Env → Hp → Prop := retK Tryz.prog Tryz.f24.results.toList K
def slices_Clone_Sint_int_b0 (s : Option Addr) (sL : Nat) (sC : Nat) (h : Hp)  (K : Value → Hp → Prop) : Prop :=
  sx_1 Tryz.prog F 8 (cp [] (bodyOf Tryz.f24)) (ap [] slices_Clone_Sint_int_an) [(0, .slice s sL sC)] h (slices_Clone_Sint_int_K0  K)
theorem slices_Clone_Sint_int_b0_eq (s : Option Addr) (sL : Nat) (sC : Nat) (h : Hp)  (K : Value → Hp → Prop) : slices_Clone_Sint_int_b0 s sL sC h  K = (
  cond (Option.isNone s)
  (K (.slice none 0 0) h)
  (New h (.cells #[] 3) fun b1 h1 =>
  appendV Tryz.prog 23 23 (.slice (some ⟨b1, 0, none⟩) 0 0) (.slice s sL sC) h1 (slK fun a1 l1 c1 h2 =>
  K (.slice a1 l1 c1) h2))) := by kernel_rfl
theorem slices_Clone_Sint_int_call {s : Option Addr} {sL : Nat} {sC : Nat} {h : Hp} {K : Value → Hp → Prop} (hk : slices_Clone_Sint_int_b0 s sL sC h K) : HCalls Tryz.prog 24 #[.slice s sL sC] h K :=
  calls_of_snd slices_Clone_Sint_int_an Tryz.func24 (c := bodyOf Tryz.f24) rfl Tryz.ntmps24 (Nat.le_of_ble_eq_true rfl) (snd_1 F_ok F_mixed) hk

/-! ### partialretro_Queue_DeleteMin -/
def partialretro_Queue_DeleteMin_an : Ann := .leaf
def partialretro_Queue_DeleteMin_K0  (K : Value → Hp → Prop) : Exit → Env → Hp → Prop := retK Tryz.prog Tryz.f25.results.toList K
def partialretro_Queue_DeleteMin_b0 (q : Option Addr) (time : Int) (h : Hp)  (K : Value → Hp → Prop) : Prop :=
  sx_1 Tryz.prog F 11 (cp [] (bodyOf Tryz.f25)) (ap [] partialretro_Queue_DeleteMin_an) [(0, .pointer q), (1, .int .i64 time)] h (partialretro_Queue_DeleteMin_K0  K)
theorem partialretro_Queue_DeleteMin_b0_eq (q : Option Addr) (time : Int) (h : Hp)  (K : Value → Hp → Prop) : partialretro_Queue_DeleteMin_b0 q time h  K = (
  cond q.isNone
  (K (.int .i64 1) h)
  (HCalls Tryz.prog 60 #[.pointer q, .agg #[.int .i64 time, .int .i64 0, .bool true]] h fun v1 h1 => ∃ r1 : Int, v1 = .int .i64 r1 ∧
  K (.int .i64 r1) h1)) := by kernel_rfl
theorem partialretro_Queue_DeleteMin_call {q : Option Addr} {time : Int} {h : Hp} {K : Value → Hp → Prop} (hk : partialretro_Queue_DeleteMin_b0 q time h K) : HCalls Tryz.prog 25 #[.pointer q, .int .i64 time] h K :=
  calls_of_snd partialretro_Queue_DeleteMin_an Tryz.func25 (c := bodyOf Tryz.f25) rfl Tryz.ntmps25 (Nat.le_of_ble_eq_true rfl) (snd_1 F_ok F_mixed) hk

/-! ### slices_Delete_Sint_int -/
/-! ### partialretro_Queue_Times -/
def partialretro_Queue_Times_an : Ann := .node none (.leaf) (.node none (.leaf) (.node none (.leaf) (.node (some [3]) (.node none (.leaf) (.loop [11, 12] [(3, .slice), (13, .int .i64)] (.node none (.leaf) (.node none (.leaf) (.node (some [3, 11, 12, 13]) (.leaf) (.leaf)))))) (.leaf))))
def partialretro_Queue_Times_K0  (K : Value → Hp → Prop) : Exit → Env → Hp → Prop := retK Tryz.prog Tryz.f27.results.toList K
def partialretro_Queue_Times_K1  (K : Value → Hp → Prop) : Exit → Env → Hp → Prop := thenE (fun env h => sx_2 Tryz.prog F 24 (cp [1, 1, 1, 1] (bodyOf Tryz.f27)) (ap [1, 1, 1, 1] partialretro_Queue_Times_an) (rs [3] env) h (partialretro_Queue_Times_K0  K)) (partialretro_Queue_Times_K0  K)
def partialretro_Queue_Times_K2  (K : Value → Hp → Prop) : Exit → Env → Hp → Prop := blockE 0 (partialretro_Queue_Times_K1  K)
def partialretro_Queue_Times_K3 (nx0 : (Option Addr × Nat × Nat) × Int × Unit → Hp → Prop) (K : Value → Hp → Prop) : Exit → Env → Hp → Prop := thenE (fun env h => getV [(3, .slice), (13, .int .i64)] env fun s => nx0 s h) (partialretro_Queue_Times_K2  K)
def partialretro_Queue_Times_b0 (q : Option Addr) (h : Hp)  (K : Value → Hp → Prop) : Prop :=
  sx_3 Tryz.prog F 24 (cp [] (bodyOf Tryz.f27)) (ap [] partialretro_Queue_Times_an) [(0, .pointer q)] h (partialretro_Queue_Times_K0  K)
def partialretro_Queue_Times_b1 (out : Option Addr) (outL : Nat) (outC : Nat) (t13 : Int) (t11 : Option Addr) (t11L : Nat) (t11C : Nat) (t12 : Int) (h : Hp) (nx0 : (Option Addr × Nat × Nat) × Int × Unit → Hp → Prop) (K : Value → Hp → Prop) : Prop :=
  sx_2 Tryz.prog F 24 (cp [1, 1, 1, 0, 1, 2, 2] (bodyOf Tryz.f27)) (ap [1, 1, 1, 0, 1, 2] partialretro_Queue_Times_an) [(3, .slice out outL outC), (13, .int .i64 t13), (11, .slice t11 t11L t11C), (12, .int .i64 t12)] h (partialretro_Queue_Times_K3 nx0 K)
def partialretro_Queue_Times_b2 (out : Option Addr) (outL : Nat) (outC : Nat) (t11 : Option Addr) (t11L : Nat) (t11C : Nat) (t12 : Int) (t13 : Int) (h : Hp) (nx0 : (Option Addr × Nat × Nat) × Int × Unit → Hp → Prop) (K : Value → Hp → Prop) : Prop :=
  sx_1 Tryz.prog F 24 (cp [1, 1, 1, 0, 1, 2, 2, 1, 1, 1] (bodyOf Tryz.f27)) (ap [1, 1, 1, 0, 1, 2, 1, 1, 1] partialretro_Queue_Times_an) [(3, .slice out outL outC), (11, .slice t11 t11L t11C), (12, .int .i64 t12), (13, .int .i64 t13)] h (partialretro_Queue_Times_K3 nx0 K)
def partialretro_Queue_Times_b3 (out : Option Addr) (outL : Nat) (outC : Nat) (h : Hp)  (K : Value → Hp → Prop) : Prop :=
  sx_2 Tryz.prog F 24 (cp [1, 1, 1, 1] (bodyOf Tryz.f27)) (ap [1, 1, 1, 1] partialretro_Queue_Times_an) [(3, .slice out outL outC)] h (partialretro_Queue_Times_K0  K)
theorem partialretro_Queue_Times_b0_eq (q : Option Addr) (h : Hp)  (K : Value → Hp → Prop) : partialretro_Queue_Times_b0 q h  K = (
  cond q.isNone
  (K (.slice none 0 0) h)
  (NN q fun a1 =>
  ∃ (a2 : Option Addr) (L1 C1 : Nat), cell h a1 = some (.slice a2 L1 C1) ∧
  LoopVC (((none, 0, 0), 0, ()) : (Option Addr × Nat × Nat) × Int × Unit) h (fun (nx0 : (Option Addr × Nat × Nat) × Int × Unit → Hp → Prop) (s1 : (Option Addr × Nat × Nat) × Int × Unit) h1 => partialretro_Queue_Times_b1 s1.1.1 s1.1.2.1 s1.1.2.2 s1.2.1 a2 L1 C1 (L1 : Int) h1 nx0 K))) := by kernel_rfl
theorem partialretro_Queue_Times_b1_eq (out : Option Addr) (outL : Nat) (outC : Nat) (t13 : Int) (t11 : Option Addr) (t11L : Nat) (t11C : Nat) (t12 : Int) (h : Hp) (nx0 : (Option Addr × Nat × Nat) × Int × Unit → Hp → Prop) (K : Value → Hp → Prop) : partialretro_Queue_Times_b1 out outL outC t13 t11 t11L t11C t12 h nx0 K = (
  cond (decide (t13 < t12))
  ((0 ≤ t13 ∧ t13 < (t11L : Int)) ∧
  NN t11 fun a3 =>
  ∃ n1 : Int, ∃ n2 : Int, ∃ b1 : Bool, cell h (a3.add (Int.toNat t13 * 3)) = some (.int .i64 n1) ∧
  cell h ((a3.add (Int.toNat t13 * 3)).add 1) = some (.int .i64 n2) ∧
  cell h ((a3.add (Int.toNat t13 * 3)).add 2) = some (.bool b1) ∧
  New h (.cells #[.int .i64 0, .int .i64 0, .bool false] 106) fun b2 h2 =>
  Wr h2 ⟨b2, 0, none⟩ (.int .i64 n1) fun h3 =>
  Wr h3 ((⟨b2, 0, none⟩ : Addr).add 1) (.int .i64 n2) fun h4 =>
  Wr h4 ((⟨b2, 0, none⟩ : Addr).add 2) (.bool b1) fun h5 =>
  ∃ n3 : Int, cell h5 ⟨b2, 0, none⟩ = some (.int .i64 n3) ∧
  New h5 (.cells #[.int .i64 n3] 3) fun b3 h6 =>
  appendV Tryz.prog 23 23 (.slice out outL outC) (.slice (some ⟨b3, 0, none⟩) 1 1) h6 (slK fun a4 l1 c1 h7 =>
  partialretro_Queue_Times_b2 a4 l1 c1 t11 t11L t11C t12 t13 h7 nx0 K))
  (partialretro_Queue_Times_b3 out outL outC h  K)) := by kernel_rfl
theorem partialretro_Queue_Times_b2_eq (out : Option Addr) (outL : Nat) (outC : Nat) (t11 : Option Addr) (t11L : Nat) (t11C : Nat) (t12 : Int) (t13 : Int) (h : Hp) (nx0 : (Option Addr × Nat × Nat) × Int × Unit → Hp → Prop) (K : Value → Hp → Prop) : partialretro_Queue_Times_b2 out outL outC t11 t11L t11C t12 t13 h nx0 K = (
  InR (t13 + 1) ∧
  nx0 ((out, outL, outC), t13 + 1, ()) h) := by kernel_rfl
theorem partialretro_Queue_Times_b3_eq (out : Option Addr) (outL : Nat) (outC : Nat) (h : Hp)  (K : Value → Hp → Prop) : partialretro_Queue_Times_b3 out outL outC h  K = (
  K (.slice out outL outC) h) := by kernel_rfl
theorem partialretro_Queue_Times_call {q : Option Addr} {h : Hp} {K : Value → Hp → Prop} (hk : partialretro_Queue_Times_b0 q h K) : HCalls Tryz.prog 27 #[.pointer q] h K :=
  calls_of_snd partialretro_Queue_Times_an Tryz.func27 (c := bodyOf Tryz.f27) rfl Tryz.ntmps27 (Nat.le_of_ble_eq_true rfl) (snd_3 F_ok F_mixed) hk

/-! ### l35_PartialretroBack_c1 -/
/-! ### partialretro_Queue_Revoke -/
/-! ### r35_Keys -/
/-! ### partialretro_Queue_Min -/
/-! ### l35_times -/
/-! ### r35_Bridges -/
/-! ### partialretro_NewLog -/
def partialretro_NewLog_an : Ann := .leaf
def partialretro_NewLog_K0  (K : Value → Hp → Prop) : Exit → Env → Hp → Prop := retK Tryz.prog Tryz.f34.results.toList K
def partialretro_NewLog_b0 (kind : Int) (h : Hp)  (K : Value → Hp → Prop) : Prop :=
  sx_1 Tryz.prog F 18 (cp [] (bodyOf Tryz.f34)) (ap [] partialretro_NewLog_an) [(0, .int .i64 kind)] h (partialretro_NewLog_K0  K)
theorem partialretro_NewLog_b0_eq (kind : Int) (h : Hp)  (K : Value → Hp → Prop) : partialretro_NewLog_b0 kind h  K = (
  HCalls Tryz.prog 52 #[.int .i64 kind] h fun v1 h1 => ∃ r1 : Int, ∃ (r2 : Option Addr) (rL1 rC1 : Nat), ∃ r3 : Int, v1 = .tuple #[.agg #[.int .i64 r1, .slice r2 rL1 rC1], .int .i64 r3] ∧
  New h1 (.cells #[.int .i64 0, .slice none 0 0] 66) fun b1 h2 =>
  Wr h2 ⟨b1, 0, none⟩ (.int .i64 r1) fun h3 =>
  Wr h3 ((⟨b1, 0, none⟩ : Addr).add 1) (.slice r2 rL1 rC1) fun h4 =>
  cond (!decide (r3 = 0))
  (K (.tuple #[.pointer none, .int .i64 r3]) h4)
  (∃ n1 : Int, ∃ (a1 : Option Addr) (L1 C1 : Nat), cell h4 ⟨b1, 0, none⟩ = some (.int .i64 n1) ∧
  cell h4 ((⟨b1, 0, none⟩ : Addr).add 1) = some (.slice a1 L1 C1) ∧
  New h4 (.cells #[.int .i64 kind, .slice none 0 0, .slice none 0 0, .int .i64 n1, .slice a1 L1 C1, .int .i64 0, .int .i64 0] 115) fun b2 h5 =>
  K (.tuple #[.pointer (some ⟨b2, 0, none⟩), .int .i64 0]) h5)) := by kernel_rfl
theorem partialretro_NewLog_call {kind : Int} {h : Hp} {K : Value → Hp → Prop} (hk : partialretro_NewLog_b0 kind h K) : HCalls Tryz.prog 34 #[.int .i64 kind] h K :=
  calls_of_snd partialretro_NewLog_an Tryz.func34 (c := bodyOf Tryz.f34) rfl Tryz.ntmps34 (Nat.le_of_ble_eq_true rfl) (snd_1 F_ok F_mixed) hk

/-! ### partialretro_Log_Query -/
/-! ### r35_Replay -/
end Go.Proofs.YtdlkohenamlnaaaGreat
