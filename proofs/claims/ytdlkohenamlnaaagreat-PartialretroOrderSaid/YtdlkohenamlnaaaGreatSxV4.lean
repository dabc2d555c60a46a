/- Plain statements of what each block of code of this seat asks; printed by a program, checked by Lean. -/
import Derived.Test.YtdlkohenamlnaaaGreatSxV0
set_option maxRecDepth 10000
namespace Go.Proofs.YtdlkohenamlnaaaGreat
open Go Go.Sx

/-! ### r35_least -/
/-! ### slices_Index_Sint_int -/
/-! ### partialretro_Queue_add -/
def partialretro_Queue_add_an : Ann := .node none (.leaf) (.node none (.leaf) (.node none (.leaf) (.node (some [0, 3, 5]) (.leaf) (.node none (.plan (.qu 0 (.qu 1 (.qu 2 (.qu 3 (.qu 4 (.qu 6 (.qu 7 (.wo 5 (.wo 8 (.wo 9 (.wo 10 (.wo 11 .fin .no) .no) .no) .no) (.wo 8 (.wo 5 (.wo 9 (.wo 10 (.wo 11 .fin .no) .no) .no) .no) .no)))))))))) (.leaf)))))
def partialretro_Queue_add_K0  (K : Value → Hp → Prop) : Exit → Env → Hp → Prop := retK Tryz.prog Tryz.f60.results.toList K
def partialretro_Queue_add_b0 (q : Option Addr) (a_0 : Int) (a_1 : Int) (a_2 : Bool) (h : Hp)  (K : Value → Hp → Prop) : Prop :=
  sx_2 Tryz.prog F 38 (cp [] (bodyOf Tryz.f60)) (ap [] partialretro_Queue_add_an) [(0, .pointer q), (1, .agg #[.int .i64 a_0, .int .i64 a_1, .bool a_2])] h (partialretro_Queue_add_K0  K)
def partialretro_Queue_add_b1 (q : Option Addr) (a : Option Addr) (i : Int) (h : Hp)  (K : Value → Hp → Prop) : Prop :=
  sx_1 Tryz.prog F 38 (cp [1, 1, 1, 1] (bodyOf Tryz.f60)) (ap [1, 1, 1, 1] partialretro_Queue_add_an) [(0, .pointer q), (3, .pointer a), (5, .int .i64 i)] h (partialretro_Queue_add_K0  K)
theorem partialretro_Queue_add_b0_eq (q : Option Addr) (a_0 : Int) (a_1 : Int) (a_2 : Bool) (h : Hp)  (K : Value → Hp → Prop) : partialretro_Queue_add_b0 q a_0 a_1 a_2 h  K = (
  New h (.cells #[.int .i64 a_0, .int .i64 a_1, .bool a_2] 106) fun b1 h1 =>
  ∃ n1 : Int, cell h1 ⟨b1, 0, none⟩ = some (.int .i64 n1) ∧
  HCalls Tryz.prog 65 #[.int .i64 n1] h1 fun v1 h2 => ∃ r1 : Bool, v1 = .bool r1 ∧
  cond (!r1)
  (K (.int .i64 2) h2)
  (∃ n2 : Int, cell h2 ⟨b1, 0, none⟩ = some (.int .i64 n2) ∧
  HCalls Tryz.prog 66 #[.pointer q, .int .i64 n2] h2 fun v2 h3 => ∃ r2 : Int, ∃ r3 : Bool, v2 = .tuple #[.int .i64 r2, .bool r3] ∧
  cond r3
  (K (.int .i64 15) h3)
  (NN q fun a1 =>
  ∃ (a2 : Option Addr) (L1 C1 : Nat), cell h3 a1 = some (.slice a2 L1 C1) ∧
  cond (decide ((2000 : Int) ≤ (L1 : Int)))
  (K (.int .i64 4) h3)
  (partialretro_Queue_add_b1 q (some ⟨b1, 0, none⟩) r2 h3  K)))) := by kernel_rfl
theorem partialretro_Queue_add_b1_eq (q : Option Addr) (a : Option Addr) (i : Int) (h : Hp)  (K : Value → Hp → Prop) : partialretro_Queue_add_b1 q a i h  K = (
  NN q fun a3 =>
  ∃ (a4 : Option Addr) (L2 C2 : Nat), cell h a3 = some (.slice a4 L2 C2) ∧
  NN a fun a5 =>
  ∃ n3 : Int, ∃ n4 : Int, ∃ b2 : Bool, cell h a5 = some (.int .i64 n3) ∧
  cell h (a5.add 1) = some (.int .i64 n4) ∧
  cell h (a5.add 2) = some (.bool b2) ∧
  (HCalls Tryz.prog 69 #[.slice a4 L2 C2] h fun v3 h4 => ∃ (r4 : Option Addr) (rL1 rC1 : Nat), v3 = .slice r4 rL1 rC1 ∧
  (NN a fun a6 =>
  ∃ n5 : Int, ∃ n6 : Int, ∃ b3 : Bool, cell h4 a6 = some (.int .i64 n5) ∧
  cell h4 (a6.add 1) = some (.int .i64 n6) ∧
  cell h4 (a6.add 2) = some (.bool b3) ∧
  (.agg #[.int .i64 n5, .int .i64 n6, .bool b3] : Value) = .agg #[.int .i64 n3, .int .i64 n4, .bool b2]) ∧
  New h4 (.cells #[.int .i64 n3, .int .i64 n4, .bool b2] 106) fun b4 h5 =>
  HCalls Tryz.prog 98 #[.slice r4 rL1 rC1, .int .i64 i, .slice (some ⟨b4, 0, none⟩) 1 1] h5 fun v4 h6 => ∃ (r5 : Option Addr) (rL2 rC2 : Nat), v4 = .slice r5 rL2 rC2 ∧
  HCalls Tryz.prog 67 #[.pointer q, .slice r5 rL2 rC2] h6 fun v5 h7 => ∃ r6 : Int, v5 = .int .i64 r6 ∧
  K (.int .i64 r6) h7) ∧
  (New h (.cells #[.int .i64 n3, .int .i64 n4, .bool b2] 106) fun b5 h8 =>
  (∃ (a7 : Option Addr) (L3 C3 : Nat), cell h8 a3 = some (.slice a7 L3 C3) ∧
  (.slice a7 L3 C3 : Value) = .slice a4 L2 C2) ∧
  HCalls Tryz.prog 69 #[.slice a4 L2 C2] h8 fun v6 h9 => ∃ (r7 : Option Addr) (rL3 rC3 : Nat), v6 = .slice r7 rL3 rC3 ∧
  HCalls Tryz.prog 98 #[.slice r7 rL3 rC3, .int .i64 i, .slice (some ⟨b5, 0, none⟩) 1 1] h9 fun v7 h10 => ∃ (r8 : Option Addr) (rL4 rC4 : Nat), v7 = .slice r8 rL4 rC4 ∧
  HCalls Tryz.prog 67 #[.pointer q, .slice r8 rL4 rC4] h10 fun v8 h11 => ∃ r9 : Int, v8 = .int .i64 r9 ∧
  K (.int .i64 r9) h11)) := by kernel_rfl
theorem partialretro_Queue_add_call {q : Option Addr} {a_0 : Int} {a_1 : Int} {a_2 : Bool} {h : Hp} {K : Value → Hp → Prop} (hk : partialretro_Queue_add_b0 q a_0 a_1 a_2 h K) : HCalls Tryz.prog 60 #[.pointer q, .agg #[.int .i64 a_0, .int .i64 a_1, .bool a_2]] h K :=
  calls_of_snd partialretro_Queue_add_an Tryz.func60 (c := bodyOf Tryz.f60) rfl Tryz.ntmps60 (Nat.le_of_ble_eq_true rfl) (snd_2 F_ok F_mixed) hk

/-! ### cmp_Less_int -/
def cmp_Less_int_an : Ann := .leaf
def cmp_Less_int_K0  (K : Value → Hp → Prop) : Exit → Env → Hp → Prop := retK Tryz.prog Tryz.f61.results.toList K
def cmp_Less_int_b0 (x : Int) (y : Int) (h : Hp)  (K : Value → Hp → Prop) : Prop :=
  sx_1 Tryz.prog F 17 (cp [] (bodyOf Tryz.f61)) (ap [] cmp_Less_int_an) [(0, .int .i64 x), (1, .int .i64 y)] h (cmp_Less_int_K0  K)
theorem cmp_Less_int_b0_eq (x : Int) (y : Int) (h : Hp)  (K : Value → Hp → Prop) : cmp_Less_int_b0 x y h  K = (
  HCalls Tryz.prog 99 #[.int .i64 x] h fun v1 h1 => ∃ r1 : Bool, v1 = .bool r1 ∧
  cond r1
  (HCalls Tryz.prog 99 #[.int .i64 y] h1 fun v2 h2 => ∃ r2 : Bool, v2 = .bool r2 ∧
  cond (!r2)
  (K (.bool true) h2)
  (K (.bool (decide (x < y))) h2))
  (K (.bool (decide (x < y))) h1)) := by kernel_rfl
theorem cmp_Less_int_call {x : Int} {y : Int} {h : Hp} {K : Value → Hp → Prop} (hk : cmp_Less_int_b0 x y h K) : HCalls Tryz.prog 61 #[.int .i64 x, .int .i64 y] h K :=
  calls_of_snd cmp_Less_int_an Tryz.func61 (c := bodyOf Tryz.f61) rfl Tryz.ntmps61 (Nat.le_of_ble_eq_true rfl) (snd_1 F_ok F_mixed) hk

/-! ### slices_isNaN_int -/
def slices_isNaN_int_an : Ann := .leaf
def slices_isNaN_int_K0  (K : Value → Hp → Prop) : Exit → Env → Hp → Prop := retK Tryz.prog Tryz.f62.results.toList K
def slices_isNaN_int_b0 (x : Int) (h : Hp)  (K : Value → Hp → Prop) : Prop :=
  sx_1 Tryz.prog F 6 (cp [] (bodyOf Tryz.f62)) (ap [] slices_isNaN_int_an) [(0, .int .i64 x)] h (slices_isNaN_int_K0  K)
theorem slices_isNaN_int_b0_eq (x : Int) (h : Hp)  (K : Value → Hp → Prop) : slices_isNaN_int_b0 x h  K = (
  K (.bool (!decide (x = x))) h) := by kernel_rfl
theorem slices_isNaN_int_call {x : Int} {h : Hp} {K : Value → Hp → Prop} (hk : slices_isNaN_int_b0 x h K) : HCalls Tryz.prog 62 #[.int .i64 x] h K :=
  calls_of_snd slices_isNaN_int_an Tryz.func62 (c := bodyOf Tryz.f62) rfl Tryz.ntmps62 (Nat.le_of_ble_eq_true rfl) (snd_1 F_ok F_mixed) hk


/-! ### slices_rotateRight_int -/
/-! ### partialretro_timed -/
def partialretro_timed_an : Ann := .leaf
def partialretro_timed_K0  (K : Value → Hp → Prop) : Exit → Env → Hp → Prop := retK Tryz.prog Tryz.f65.results.toList K
def partialretro_timed_b0 (nv : Int) (h : Hp)  (K : Value → Hp → Prop) : Prop :=
  sx_1 Tryz.prog F 9 (cp [] (bodyOf Tryz.f65)) (ap [] partialretro_timed_an) [(0, .int .i64 nv)] h (partialretro_timed_K0  K)
theorem partialretro_timed_b0_eq (nv : Int) (h : Hp)  (K : Value → Hp → Prop) : partialretro_timed_b0 nv h  K = (
  cond (decide ((0 : Int) ≤ nv))
  (K (.bool (decide (nv ≤ 1073741824))) h)
  (K (.bool false) h)) := by kernel_rfl
theorem partialretro_timed_call {nv : Int} {h : Hp} {K : Value → Hp → Prop} (hk : partialretro_timed_b0 nv h K) : HCalls Tryz.prog 65 #[.int .i64 nv] h K :=
  calls_of_snd partialretro_timed_an Tryz.func65 (c := bodyOf Tryz.f65) rfl Tryz.ntmps65 (Nat.le_of_ble_eq_true rfl) (snd_1 F_ok F_mixed) hk

/-! ### partialretro_Queue_find -/
def partialretro_Queue_find_an : Ann := .leaf
def partialretro_Queue_find_K0  (K : Value → Hp → Prop) : Exit → Env → Hp → Prop := retK Tryz.prog Tryz.f66.results.toList K
def partialretro_Queue_find_b0 (q : Option Addr) (time : Int) (h : Hp)  (K : Value → Hp → Prop) : Prop :=
  sx_1 Tryz.prog F 14 (cp [] (bodyOf Tryz.f66)) (ap [] partialretro_Queue_find_an) [(0, .pointer q), (1, .int .i64 time)] h (partialretro_Queue_find_K0  K)
theorem partialretro_Queue_find_b0_eq (q : Option Addr) (time : Int) (h : Hp)  (K : Value → Hp → Prop) : partialretro_Queue_find_b0 q time h  K = (
  NN q fun a1 =>
  ∃ (a2 : Option Addr) (L1 C1 : Nat), cell h a1 = some (.slice a2 L1 C1) ∧
  HCalls Tryz.prog 101 #[.slice a2 L1 C1, .int .i64 time, .func (.func 102) #[] #[]] h fun v1 h1 => ∃ r1 : Int, ∃ r2 : Bool, v1 = .tuple #[.int .i64 r1, .bool r2] ∧
  K (.tuple #[.int .i64 r1, .bool r2]) h1) := by kernel_rfl
theorem partialretro_Queue_find_call {q : Option Addr} {time : Int} {h : Hp} {K : Value → Hp → Prop} (hk : partialretro_Queue_find_b0 q time h K) : HCalls Tryz.prog 66 #[.pointer q, .int .i64 time] h K :=
  calls_of_snd partialretro_Queue_find_an Tryz.func66 (c := bodyOf Tryz.f66) rfl Tryz.ntmps66 (Nat.le_of_ble_eq_true rfl) (snd_1 F_ok F_mixed) hk

/-! ### partialretro_Queue_change -/
def partialretro_Queue_change_an : Ann := .leaf
def partialretro_Queue_change_K0  (K : Value → Hp → Prop) : Exit → Env → Hp → Prop := retK Tryz.prog Tryz.f67.results.toList K
def partialretro_Queue_change_b0 (q : Option Addr) (l : Option Addr) (lL : Nat) (lC : Nat) (h : Hp)  (K : Value → Hp → Prop) : Prop :=
  sx_1 Tryz.prog F 19 (cp [] (bodyOf Tryz.f67)) (ap [] partialretro_Queue_change_an) [(0, .pointer q), (1, .slice l lL lC)] h (partialretro_Queue_change_K0  K)
theorem partialretro_Queue_change_b0_eq (q : Option Addr) (l : Option Addr) (lL : Nat) (lC : Nat) (h : Hp)  (K : Value → Hp → Prop) : partialretro_Queue_change_b0 q l lL lC h  K = (
  HCalls Tryz.prog 104 #[.slice l lL lC] h fun v1 h1 => ∃ r1 : Option Addr, ∃ r2 : Bool, v1 = .tuple #[.pointer r1, .bool r2] ∧
  cond (!r2)
  (K (.int .i64 14) h1)
  (NN r1 fun a1 =>
  ∃ (a2 : Option Addr) (L1 C1 : Nat), ∃ (a3 : Option Addr) (L2 C2 : Nat), ∃ (a4 : Option Addr) (L3 C3 : Nat), cell h1 a1 = some (.slice a2 L1 C1) ∧
  cell h1 (a1.add 1) = some (.slice a3 L2 C2) ∧
  cell h1 (a1.add 2) = some (.slice a4 L3 C3) ∧
  NN q fun a5 =>
  Wr h1 a5 (.slice a2 L1 C1) fun h2 =>
  Wr h2 (a5.add 1) (.slice a3 L2 C2) fun h3 =>
  Wr h3 (a5.add 2) (.slice a4 L3 C3) fun h4 =>
  K (.int .i64 0) h4)) := by kernel_rfl
theorem partialretro_Queue_change_call {q : Option Addr} {l : Option Addr} {lL : Nat} {lC : Nat} {h : Hp} {K : Value → Hp → Prop} (hk : partialretro_Queue_change_b0 q l lL lC h K) : HCalls Tryz.prog 67 #[.pointer q, .slice l lL lC] h K :=
  calls_of_snd partialretro_Queue_change_an Tryz.func67 (c := bodyOf Tryz.f67) rfl Tryz.ntmps67 (Nat.le_of_ble_eq_true rfl) (snd_1 F_ok F_mixed) hk

/-! ### slices_Delete_Spartialretro_action_partialretro_action -/
/-! ### slices_Clone_Spartialretro_action_partialretro_action -/
def slices_Clone_Spartialretro_action_partialretro_action_an : Ann := .leaf
def slices_Clone_Spartialretro_action_partialretro_action_K0  (K : Value → Hp → Prop) : Exit → Env → Hp → Prop := retK Tryz.prog Tryz.f69.results.toList K
def slices_Clone_Spartialretro_action_partialretro_action_b0 (s : Option Addr) (sL : Nat) (sC : Nat) (h : Hp)  (K : Value → Hp → Prop) : Prop :=
  sx_1 Tryz.prog F 8 (cp [] (bodyOf Tryz.f69)) (ap [] slices_Clone_Spartialretro_action_partialretro_action_an) [(0, .slice s sL sC)] h (slices_Clone_Spartialretro_action_partialretro_action_K0  K)
theorem slices_Clone_Spartialretro_action_partialretro_action_b0_eq (s : Option Addr) (sL : Nat) (sC : Nat) (h : Hp)  (K : Value → Hp → Prop) : slices_Clone_Spartialretro_action_partialretro_action_b0 s sL sC h  K = (
  cond (Option.isNone s)
  (K (.slice none 0 0) h)
  (New h (.cells #[] 106) fun b1 h1 =>
  appendV Tryz.prog 93 93 (.slice (some ⟨b1, 0, none⟩) 0 0) (.slice s sL sC) h1 (slK fun a1 l1 c1 h2 =>
  K (.slice a1 l1 c1) h2))) := by kernel_rfl
theorem slices_Clone_Spartialretro_action_partialretro_action_call {s : Option Addr} {sL : Nat} {sC : Nat} {h : Hp} {K : Value → Hp → Prop} (hk : slices_Clone_Spartialretro_action_partialretro_action_b0 s sL sC h K) : HCalls Tryz.prog 69 #[.slice s sL sC] h K :=
  calls_of_snd slices_Clone_Spartialretro_action_partialretro_action_an Tryz.func69 (c := bodyOf Tryz.f69) rfl Tryz.ntmps69 (Nat.le_of_ble_eq_true rfl) (snd_1 F_ok F_mixed) hk

/-! ### r35_has -/
/-! ### model_ValidOp -/
def model_ValidOp_an : Ann := .node none (.leaf) (.node none (.leaf) (.node (some [3, 5]) (.leaf) (.leaf)))
def model_ValidOp_K0  (K : Value → Hp → Prop) : Exit → Env → Hp → Prop := retK Tryz.prog Tryz.f71.results.toList K
def model_ValidOp_b0 (kind : Int) (o_0 : Int) (o_1 : Option Addr) (o_1L : Nat) (o_1C : Nat) (h : Hp)  (K : Value → Hp → Prop) : Prop :=
  sx_2 Tryz.prog F 56 (cp [] (bodyOf Tryz.f71)) (ap [] model_ValidOp_an) [(0, .int .i64 kind), (1, .agg #[.int .i64 o_0, .slice o_1 o_1L o_1C])] h (model_ValidOp_K0  K)
def model_ValidOp_b1 (o : Option Addr) (l : Option Addr) (lL : Nat) (lC : Nat) (h : Hp)  (K : Value → Hp → Prop) : Prop :=
  sx_1 Tryz.prog F 56 (cp [1, 1, 1] (bodyOf Tryz.f71)) (ap [1, 1, 1] model_ValidOp_an) [(3, .pointer o), (5, .slice l lL lC)] h (model_ValidOp_K0  K)
theorem model_ValidOp_b0_eq (kind : Int) (o_0 : Int) (o_1 : Option Addr) (o_1L : Nat) (o_1C : Nat) (h : Hp)  (K : Value → Hp → Prop) : model_ValidOp_b0 kind o_0 o_1 o_1L o_1C h  K = (
  New h (.cells #[.int .i64 o_0, .slice o_1 o_1L o_1C] 25) fun b1 h1 =>
  HCalls Tryz.prog 90 #[.int .i64 kind] h1 fun v1 h2 => ∃ (r1 : Option Addr) (rL1 rC1 : Nat), v1 = .slice r1 rL1 rC1 ∧
  ∃ n1 : Int, cell h2 ⟨b1, 0, none⟩ = some (.int .i64 n1) ∧
  cond (decide (n1 < 1))
  (K (.bool false) h2)
  (∃ n2 : Int, cell h2 ⟨b1, 0, none⟩ = some (.int .i64 n2) ∧
  cond (decide ((rL1 : Int) < n2))
  (K (.bool false) h2)
  (model_ValidOp_b1 (some ⟨b1, 0, none⟩) r1 rL1 rC1 h2  K))) := by kernel_rfl
theorem model_ValidOp_b1_eq (o : Option Addr) (l : Option Addr) (lL : Nat) (lC : Nat) (h : Hp)  (K : Value → Hp → Prop) : model_ValidOp_b1 o l lL lC h  K = (
  NN o fun a1 =>
  ∃ n3 : Int, cell h a1 = some (.int .i64 n3) ∧
  InR (n3 - 1) ∧
  (0 ≤ n3 - 1 ∧ n3 - 1 < (lL : Int)) ∧
  NN l fun a2 =>
  ∃ s1 : ByteArray, ∃ n4 : Int, ∃ b2 : Bool, cell h (a2.add (Int.toNat (n3 - 1) * 3)) = some (.string s1) ∧
  cell h ((a2.add (Int.toNat (n3 - 1) * 3)).add 1) = some (.int .i64 n4) ∧
  cell h ((a2.add (Int.toNat (n3 - 1) * 3)).add 2) = some (.bool b2) ∧
  New h (.cells #[.string (⟨#[]⟩ : ByteArray), .int .i64 0, .bool false] 143) fun b3 h3 =>
  Wr h3 ⟨b3, 0, none⟩ (.string s1) fun h4 =>
  Wr h4 ((⟨b3, 0, none⟩ : Addr).add 1) (.int .i64 n4) fun h5 =>
  Wr h5 ((⟨b3, 0, none⟩ : Addr).add 2) (.bool b2) fun h6 =>
  ∃ n5 : Int, cell h6 ((⟨b3, 0, none⟩ : Addr).add 1) = some (.int .i64 n5) ∧
  cond (decide (n5 < 0))
  (NN o fun a3 =>
  ∃ (a4 : Option Addr) (L1 C1 : Nat), cell h6 (a3.add 1) = some (.slice a4 L1 C1) ∧
  cond (decide ((1 : Int) ≤ (L1 : Int)))
  (NN o fun a5 =>
  ∃ (a6 : Option Addr) (L2 C2 : Nat), cell h6 (a5.add 1) = some (.slice a6 L2 C2) ∧
  cond (decide ((L2 : Int) ≤ 64))
  (NN o fun a7 =>
  ∃ (a8 : Option Addr) (L3 C3 : Nat), cell h6 (a7.add 1) = some (.slice a8 L3 C3) ∧
  HCalls Tryz.prog 105 #[.slice a8 L3 C3, .func (.func 106) #[] #[]] h6 fun v2 h7 => ∃ r2 : Bool, v2 = .bool r2 ∧
  K (.bool (!r2)) h7)
  (K (.bool false) h6))
  (K (.bool false) h6))
  (NN o fun a9 =>
  ∃ (a10 : Option Addr) (L4 C4 : Nat), cell h6 (a9.add 1) = some (.slice a10 L4 C4) ∧
  ∃ n6 : Int, cell h6 ((⟨b3, 0, none⟩ : Addr).add 1) = some (.int .i64 n6) ∧
  cond (decide ((L4 : Int) = n6))
  (NN o fun a11 =>
  ∃ (a12 : Option Addr) (L5 C5 : Nat), cell h6 (a11.add 1) = some (.slice a12 L5 C5) ∧
  HCalls Tryz.prog 105 #[.slice a12 L5 C5, .func (.func 108) #[] #[]] h6 fun v3 h8 => ∃ r3 : Bool, v3 = .bool r3 ∧
  K (.bool (!r3)) h8)
  (K (.bool false) h6))) := by kernel_rfl
theorem model_ValidOp_call {kind : Int} {o_0 : Int} {o_1 : Option Addr} {o_1L : Nat} {o_1C : Nat} {h : Hp} {K : Value → Hp → Prop} (hk : model_ValidOp_b0 kind o_0 o_1 o_1L o_1C h K) : HCalls Tryz.prog 71 #[.int .i64 kind, .agg #[.int .i64 o_0, .slice o_1 o_1L o_1C]] h K :=
  calls_of_snd model_ValidOp_an Tryz.func71 (c := bodyOf Tryz.f71) rfl Tryz.ntmps71 (Nat.le_of_ble_eq_true rfl) (snd_2 F_ok F_mixed) hk

/-! ### partialretro_Log_update -/
def partialretro_Log_update_an : Ann := .node none (.leaf) (.node none (.plan (.qu 0 (.qu 1 (.qu 2 (.qu 3 (.qu 4 (.qu 5 (.wo 6 (.qu 7 (.qu 8 (.qu 9 (.wo 10 (.wo 11 .fin .no) .no)))) .no)))))))) (.leaf))
def partialretro_Log_update_K0  (K : Value → Hp → Prop) : Exit → Env → Hp → Prop := retK Tryz.prog Tryz.f72.results.toList K
def partialretro_Log_update_b0 (g : Option Addr) (o_0 : Int) (o_1 : Option Addr) (o_1L : Nat) (o_1C : Nat) (h : Hp)  (K : Value → Hp → Prop) : Prop :=
  sx_1 Tryz.prog F 18 (cp [] (bodyOf Tryz.f72)) (ap [] partialretro_Log_update_an) [(0, .pointer g), (1, .agg #[.int .i64 o_0, .slice o_1 o_1L o_1C])] h (partialretro_Log_update_K0  K)
theorem partialretro_Log_update_b0_eq (g : Option Addr) (o_0 : Int) (o_1 : Option Addr) (o_1L : Nat) (o_1C : Nat) (h : Hp)  (K : Value → Hp → Prop) : partialretro_Log_update_b0 g o_0 o_1 o_1L o_1C h  K = (
  New h (.cells #[.int .i64 o_0, .slice o_1 o_1L o_1C] 25) fun b1 h1 =>
  NN g fun a1 =>
  ∃ n1 : Int, cell h1 a1 = some (.int .i64 n1) ∧
  ∃ n2 : Int, cell h1 ⟨b1, 0, none⟩ = some (.int .i64 n2) ∧
  HCalls Tryz.prog 110 #[.int .i64 n1, .int .i64 n2] h1 fun v1 h2 => ∃ r1 : Bool, ∃ r2 : Int, v1 = .tuple #[.bool r1, .int .i64 r2] ∧
  K (.bool r1) h2) := by kernel_rfl
theorem partialretro_Log_update_call {g : Option Addr} {o_0 : Int} {o_1 : Option Addr} {o_1L : Nat} {o_1C : Nat} {h : Hp} {K : Value → Hp → Prop} (hk : partialretro_Log_update_b0 g o_0 o_1 o_1L o_1C h K) : HCalls Tryz.prog 72 #[.pointer g, .agg #[.int .i64 o_0, .slice o_1 o_1L o_1C]] h K :=
  calls_of_snd partialretro_Log_update_an Tryz.func72 (c := bodyOf Tryz.f72) rfl Tryz.ntmps72 (Nat.le_of_ble_eq_true rfl) (snd_1 F_ok F_mixed) hk

/-! ### r03_Words -/
/-! ### r03_Arity -/
/-! ### r03_key -/
/-! ### r03_Copy -/
/-! ### r03_dict -/
end Go.Proofs.YtdlkohenamlnaaaGreat
