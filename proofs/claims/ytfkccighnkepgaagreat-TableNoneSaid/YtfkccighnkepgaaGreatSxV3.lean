/- Plain statements of what each block of code of this seat asks; printed by a program, checked by Lean. -/
import Derived.Test.YtfkccighnkepgaaGreatSxV0
set_option maxRecDepth 10000
namespace Go.Proofs.YtfkccighnkepgaaGreat
open Go Go.Sx

/-! ### slices_Collect_int -/
/-! ### slices_Values_Sint_int__c1 -/
/-! ### slices_Grow_Sint_int -/
/-! ### table_Valid -/
def table_Valid_an : Ann := .node none (.leaf) (.node (some [1]) (.leaf) (.node (some []) (.node none (.leaf) (.loop [1, 30] [(31, .int .i64)] (.node none (.leaf) (.node none (.leaf) (.node (some [1, 30, 31]) (.leaf) (.leaf)))))) (.leaf)))
def table_Valid_K0  (K : Value → Hp → Prop) : Exit → Env → Hp → Prop := retK Tryz.prog Tryz.f51.results.toList K
def table_Valid_K1  (K : Value → Hp → Prop) : Exit → Env → Hp → Prop := thenE (fun env h => sx_2 Tryz.prog F 47 (cp [1, 1, 1] (bodyOf Tryz.f51)) (ap [1, 1, 1] table_Valid_an) (rs [] env) h (table_Valid_K0  K)) (table_Valid_K0  K)
def table_Valid_K2  (K : Value → Hp → Prop) : Exit → Env → Hp → Prop := blockE 0 (table_Valid_K1  K)
def table_Valid_K3 (nx0 : Int × Unit → Hp → Prop) (K : Value → Hp → Prop) : Exit → Env → Hp → Prop := thenE (fun env h => getV [(31, .int .i64)] env fun s => nx0 s h) (table_Valid_K2  K)
def table_Valid_b0 (r_0 : Int) (r_1 : Int) (r_2 : Int) (r_3 : Int) (r_4 : ByteArray) (h : Hp)  (K : Value → Hp → Prop) : Prop :=
  sx_4 Tryz.prog F 47 (cp [] (bodyOf Tryz.f51)) (ap [] table_Valid_an) [(0, .agg #[.int .i64 r_0, .int .i64 r_1, .int .i64 r_2, .int .i64 r_3, .string r_4])] h (table_Valid_K0  K)
def table_Valid_b1 (r : Option Addr) (h : Hp)  (K : Value → Hp → Prop) : Prop :=
  sx_3 Tryz.prog F 47 (cp [1, 1] (bodyOf Tryz.f51)) (ap [1, 1] table_Valid_an) [(1, .pointer r)] h (table_Valid_K0  K)
def table_Valid_b2 (t31 : Int) (r : Option Addr) (t30 : Int) (h : Hp) (nx0 : Int × Unit → Hp → Prop) (K : Value → Hp → Prop) : Prop :=
  sx_2 Tryz.prog F 47 (cp [1, 1, 0, 1, 2, 2] (bodyOf Tryz.f51)) (ap [1, 1, 0, 1, 2] table_Valid_an) [(31, .int .i64 t31), (1, .pointer r), (30, .int .i64 t30)] h (table_Valid_K3 nx0 K)
def table_Valid_b3 (r : Option Addr) (t30 : Int) (t31 : Int) (h : Hp) (nx0 : Int × Unit → Hp → Prop) (K : Value → Hp → Prop) : Prop :=
  sx_1 Tryz.prog F 47 (cp [1, 1, 0, 1, 2, 2, 1, 1, 1] (bodyOf Tryz.f51)) (ap [1, 1, 0, 1, 2, 1, 1, 1] table_Valid_an) [(1, .pointer r), (30, .int .i64 t30), (31, .int .i64 t31)] h (table_Valid_K3 nx0 K)
def table_Valid_b4  (h : Hp)  (K : Value → Hp → Prop) : Prop :=
  sx_2 Tryz.prog F 47 (cp [1, 1, 1] (bodyOf Tryz.f51)) (ap [1, 1, 1] table_Valid_an) [] h (table_Valid_K0  K)
theorem table_Valid_b0_eq (r_0 : Int) (r_1 : Int) (r_2 : Int) (r_3 : Int) (r_4 : ByteArray) (h : Hp)  (K : Value → Hp → Prop) : table_Valid_b0 r_0 r_1 r_2 r_3 r_4 h  K = (
  New h (.cells #[.int .i64 r_0, .int .i64 r_1, .int .i64 r_2, .int .i64 r_3, .string r_4] 49) fun b1 h1 =>
  ∃ n1 : Int, cell h1 ⟨b1, 0, none⟩ = some (.int .i64 n1) ∧
  HCalls Tryz.prog 69 #[.int .i64 n1] h1 fun v1 h2 => ∃ r1 : Bool, v1 = .bool r1 ∧
  cond r1
  (K (.bool false) h2)
  (∃ n2 : Int, cell h2 ((⟨b1, 0, none⟩ : Addr).add 1) = some (.int .i64 n2) ∧
  HCalls Tryz.prog 69 #[.int .i64 n2] h2 fun v2 h3 => ∃ r2 : Bool, v2 = .bool r2 ∧
  cond r2
  (K (.bool false) h3)
  (∃ n3 : Int, cell h3 ((⟨b1, 0, none⟩ : Addr).add 2) = some (.int .i64 n3) ∧
  HCalls Tryz.prog 69 #[.int .i64 n3] h3 fun v3 h4 => ∃ r3 : Bool, v3 = .bool r3 ∧
  cond r3
  (K (.bool false) h4)
  (∃ n4 : Int, cell h4 ((⟨b1, 0, none⟩ : Addr).add 3) = some (.int .i64 n4) ∧
  HCalls Tryz.prog 69 #[.int .i64 n4] h4 fun v4 h5 => ∃ r4 : Bool, v4 = .bool r4 ∧
  cond r4
  (K (.bool false) h5)
  (∃ s1 : ByteArray, cell h5 ((⟨b1, 0, none⟩ : Addr).add 4) = some (.string s1) ∧
  cond (decide ((40 : Int) < (s1.size : Int)))
  (K (.bool false) h5)
  (table_Valid_b1 (some ⟨b1, 0, none⟩) h5  K)))))) := by kernel_rfl
theorem table_Valid_b1_eq (r : Option Addr) (h : Hp)  (K : Value → Hp → Prop) : table_Valid_b1 r h  K = (
  NN r fun a1 =>
  ∃ s2 : ByteArray, cell h (a1.add 4) = some (.string s2) ∧
  LoopVC ((0, ()) : Int × Unit) h (fun (nx0 : Int × Unit → Hp → Prop) (s3 : Int × Unit) h6 => table_Valid_b2 s3.1 r (s2.size : Int) h6 nx0 K)) := by kernel_rfl
theorem table_Valid_b2_eq (t31 : Int) (r : Option Addr) (t30 : Int) (h : Hp) (nx0 : Int × Unit → Hp → Prop) (K : Value → Hp → Prop) : table_Valid_b2 t31 r t30 h nx0 K = (
  cond (decide (t31 < t30))
  (NN r fun a2 =>
  ∃ s4 : ByteArray, cell h (a2.add 4) = some (.string s4) ∧
  (0 ≤ t31 ∧ t31 < (s4.size : Int)) ∧
  cond (decide (((s4.data.toList.getD (Int.toNat t31) 0).toNat : Int) < 32))
  (K (.bool false) h)
  (NN r fun a3 =>
  ∃ s5 : ByteArray, cell h (a3.add 4) = some (.string s5) ∧
  (0 ≤ t31 ∧ t31 < (s5.size : Int)) ∧
  cond (decide ((126 : Int) < ((s5.data.toList.getD (Int.toNat t31) 0).toNat : Int)))
  (K (.bool false) h)
  (table_Valid_b3 r t30 t31 h nx0 K)))
  (table_Valid_b4  h  K)) := by kernel_rfl
theorem table_Valid_b3_eq (r : Option Addr) (t30 : Int) (t31 : Int) (h : Hp) (nx0 : Int × Unit → Hp → Prop) (K : Value → Hp → Prop) : table_Valid_b3 r t30 t31 h nx0 K = (
  InR (t31 + 1) ∧
  nx0 (t31 + 1, ()) h) := by kernel_rfl
theorem table_Valid_b4_eq  (h : Hp)  (K : Value → Hp → Prop) : table_Valid_b4  h  K = (
  K (.bool true) h) := by kernel_rfl
theorem table_Valid_call {r_0 : Int} {r_1 : Int} {r_2 : Int} {r_3 : Int} {r_4 : ByteArray} {h : Hp} {K : Value → Hp → Prop} (hk : table_Valid_b0 r_0 r_1 r_2 r_3 r_4 h K) : HCalls Tryz.prog 51 #[.agg #[.int .i64 r_0, .int .i64 r_1, .int .i64 r_2, .int .i64 r_3, .string r_4]] h K :=
  calls_of_snd table_Valid_an Tryz.func51 (c := bodyOf Tryz.f51) rfl Tryz.ntmps51 (Nat.le_of_ble_eq_true rfl) (snd_4 F_ok F_mixed) hk

/-! ### table_Table_drop -/
def table_Table_drop_an : Ann := .node none (.plan (.qu 0 (.qu 1 (.qu 2 (.qu 3 (.qu 4 (.qu 5 (.qu 6 (.qu 7 (.qu 8 (.wo 9 (.qu 10 (.qu 11 (.qu 12 (.wo 13 .fin .no)))) .no))))))))))) (.leaf)
def table_Table_drop_K0  (K : Value → Hp → Prop) : Exit → Env → Hp → Prop := retK Tryz.prog Tryz.f52.results.toList K
def table_Table_drop_b0 (t : Option Addr) (id : Int) (h : Hp)  (K : Value → Hp → Prop) : Prop :=
  sx_1 Tryz.prog F 51 (cp [] (bodyOf Tryz.f52)) (ap [] table_Table_drop_an) [(0, .pointer t), (1, .int .i64 id)] h (table_Table_drop_K0  K)
theorem table_Table_drop_b0_eq (t : Option Addr) (id : Int) (h : Hp)  (K : Value → Hp → Prop) : table_Table_drop_b0 t id h  K = (
  NN t fun a1 =>
  ∃ v1 : Value, cell h (a1.add 1) = some (v1) ∧
  NN t fun a2 =>
  ∃ v2 : Value, cell h a2 = some (v2) ∧
  lookV Tryz.prog 78 v2 (.int .i64 id) false h fun v3 => ∃ r1 : Option Addr, v3 = .pointer r1 ∧
  (∃ v4 : Value, cell h (a1.add 1) = some (v4) ∧
  (v4 : Value) = v1) ∧
  NN r1 fun a3 =>
  ∃ n1 : Int, cell h a3 = some (.int .i64 n1) ∧
  mapDelV Tryz.prog 79 v1 (.int .i64 n1) h fun h1 =>
  NN t fun a4 =>
  ∃ v5 : Value, cell h1 a4 = some (v5) ∧
  mapDelV Tryz.prog 78 v5 (.int .i64 id) h1 fun h2 =>
  NN t fun a5 =>
  ∃ (a6 : Option Addr) (L1 C1 : Nat), cell h2 (a5.add 5) = some (.slice a6 L1 C1) ∧
  HCalls Tryz.prog 70 #[.slice a6 L1 C1, .int .i64 id] h2 fun v6 h3 => ∃ r2 : Int, v6 = .int .i64 r2 ∧
  cond (decide ((0 : Int) ≤ r2))
  (NN t fun a7 =>
  ∃ (a8 : Option Addr) (L2 C2 : Nat), cell h3 (a7.add 5) = some (.slice a8 L2 C2) ∧
  InR (r2 + 1) ∧
  HCalls Tryz.prog 71 #[.slice a8 L2 C2, .int .i64 r2, .int .i64 (r2 + 1)] h3 fun v7 h4 => ∃ (r3 : Option Addr) (rL1 rC1 : Nat), v7 = .slice r3 rL1 rC1 ∧
  NN t fun a9 =>
  Wr h4 (a9.add 5) (.slice r3 rL1 rC1) fun h5 =>
  K (.tuple #[]) h5)
  (NN t fun a10 =>
  ∃ v8 : Value, cell h3 ((a10.add 5).add 1) = some (v8) ∧
  mapSetV Tryz.prog 80 v8 (.int .i64 id) (.bool true) h3 fun h6 =>
  K (.tuple #[]) h6)) := by kernel_rfl
theorem table_Table_drop_call {t : Option Addr} {id : Int} {h : Hp} {K : Value → Hp → Prop} (hk : table_Table_drop_b0 t id h K) : HCalls Tryz.prog 52 #[.pointer t, .int .i64 id] h K :=
  calls_of_snd table_Table_drop_an Tryz.func52 (c := bodyOf Tryz.f52) rfl Tryz.ntmps52 (Nat.le_of_ble_eq_true rfl) (snd_1 F_ok F_mixed) hk

/-! ### table_Table_put -/
def table_Table_put_an : Ann := .node none (.leaf) (.node none (.leaf) (.node none (.tail 7) (.leaf)))
def table_Table_put_K0  (K : Value → Hp → Prop) : Exit → Env → Hp → Prop := retK Tryz.prog Tryz.f53.results.toList K
def table_Table_put_b0 (t : Option Addr) (id : Int) (r_0 : Int) (r_1 : Int) (r_2 : Int) (r_3 : Int) (r_4 : ByteArray) (h : Hp)  (K : Value → Hp → Prop) : Prop :=
  sx_1 Tryz.prog F 30 (cp [] (bodyOf Tryz.f53)) (ap [] table_Table_put_an) [(0, .pointer t), (1, .int .i64 id), (2, .agg #[.int .i64 r_0, .int .i64 r_1, .int .i64 r_2, .int .i64 r_3, .string r_4])] h (table_Table_put_K0  K)
theorem table_Table_put_b0_eq (t : Option Addr) (id : Int) (r_0 : Int) (r_1 : Int) (r_2 : Int) (r_3 : Int) (r_4 : ByteArray) (h : Hp)  (K : Value → Hp → Prop) : table_Table_put_b0 t id r_0 r_1 r_2 r_3 r_4 h  K = (
  New h (.cells #[.int .i64 r_0, .int .i64 r_1, .int .i64 r_2, .int .i64 r_3, .string r_4] 49) fun b1 h1 =>
  NN t fun a1 =>
  ∃ v1 : Value, cell h1 a1 = some (v1) ∧
  mapSetV Tryz.prog 78 v1 (.int .i64 id) (.pointer (some ⟨b1, 0, none⟩)) h1 fun h2 =>
  NN t fun a2 =>
  ∃ v2 : Value, cell h2 (a2.add 1) = some (v2) ∧
  ∃ n1 : Int, cell h2 ⟨b1, 0, none⟩ = some (.int .i64 n1) ∧
  mapSetV Tryz.prog 79 v2 (.int .i64 n1) (.int .i64 id) h2 fun h3 =>
  NN t fun a3 =>
  ∃ (a4 : Option Addr) (L1 C1 : Nat), cell h3 (a3.add 5) = some (.slice a4 L1 C1) ∧
  New h3 (.cells #[.int .i64 id] 3) fun b2 h4 =>
  appendV Tryz.prog 26 26 (.slice a4 L1 C1) (.slice (some ⟨b2, 0, none⟩) 1 1) h4 (slK fun a5 l1 c1 h5 =>
  NN t fun a6 =>
  Wr h5 (a6.add 5) (.slice a5 l1 c1) fun h6 =>
  K (.tuple #[]) h6)) := by kernel_rfl
theorem table_Table_put_call {t : Option Addr} {id : Int} {r_0 : Int} {r_1 : Int} {r_2 : Int} {r_3 : Int} {r_4 : ByteArray} {h : Hp} {K : Value → Hp → Prop} (hk : table_Table_put_b0 t id r_0 r_1 r_2 r_3 r_4 h K) : HCalls Tryz.prog 53 #[.pointer t, .int .i64 id, .agg #[.int .i64 r_0, .int .i64 r_1, .int .i64 r_2, .int .i64 r_3, .string r_4]] h K :=
  calls_of_snd table_Table_put_an Tryz.func53 (c := bodyOf Tryz.f53) rfl Tryz.ntmps53 (Nat.le_of_ble_eq_true rfl) (snd_1 F_ok F_mixed) hk

/-! ### table_Table_build -/
def table_Table_build_an : Ann := .node none (.leaf) (.node none (.node none (.plan (.qu 0 (.qu 1 (.qu 2 (.qu 3 (.qu 4 (.qu 5 (.qu 6 (.qu 7 (.qu 8 (.qu 9 (.qu 10 (.wo 11 (.qu 12 (.qu 13 .fin)) .no))))))))))))) (.leaf)) (.node none (.plan (.qu 0 (.qu 1 (.qu 2 (.qu 4 (.wo 3 (.wo 5 (.qu 6 (.qu 7 (.wo 8 (.qu 9 (.qu 10 (.wo 11 .fin .no))) .no))) .no) .no)))))) (.leaf)))
def table_Table_build_K0  (K : Value → Hp → Prop) : Exit → Env → Hp → Prop := retK Tryz.prog Tryz.f54.results.toList K
def table_Table_build_b0 (t : Option Addr) (h : Hp)  (K : Value → Hp → Prop) : Prop :=
  sx_1 Tryz.prog F 43 (cp [] (bodyOf Tryz.f54)) (ap [] table_Table_build_an) [(0, .pointer t)] h (table_Table_build_K0  K)
theorem table_Table_build_b0_eq (t : Option Addr) (h : Hp)  (K : Value → Hp → Prop) : table_Table_build_b0 t h  K = (
  New h (.cells #[.pointer t] 25) fun b1 h1 =>
  ∃ p1 : Option Addr, cell h1 ⟨b1, 0, none⟩ = some (.pointer p1) ∧
  NN p1 fun a1 =>
  ∃ (a2 : Option Addr) (L1 C1 : Nat), cell h1 (a1.add 5) = some (.slice a2 L1 C1) ∧
  ∃ p2 : Option Addr, cell h1 ⟨b1, 0, none⟩ = some (.pointer p2) ∧
  NN p2 fun a3 =>
  ∃ v1 : Value, cell h1 ((a3.add 5).add 1) = some (v1) ∧
  mapLenV v1 h1 fun n1 =>
  (∃ (a4 : Option Addr) (L2 C2 : Nat), cell h1 (a1.add 5) = some (.slice a4 L2 C2) ∧
  (.slice a4 L2 C2 : Value) = .slice a2 L1 C1) ∧
  (∃ p3 : Option Addr, cell h1 ⟨b1, 0, none⟩ = some (.pointer p3) ∧
  (.pointer p3 : Value) = .pointer p1) ∧
  InR ((L1 : Int) + n1) ∧
  cond (decide (((L1 : Int) + n1) ≤ 16))
  (K (.tuple #[]) h1)
  (∃ p4 : Option Addr, cell h1 ⟨b1, 0, none⟩ = some (.pointer p4) ∧
  ∃ p5 : Option Addr, cell h1 ⟨b1, 0, none⟩ = some (.pointer p5) ∧
  ∃ p6 : Option Addr, cell h1 ⟨b1, 0, none⟩ = some (.pointer p6) ∧
  ∃ p7 : Option Addr, cell h1 ⟨b1, 0, none⟩ = some (.pointer p7) ∧
  HCalls Tryz.prog 8 #[.pointer p6] h1 fun v2 h2 => ∃ (r1 : Option Addr) (rL1 rC1 : Nat), v2 = .slice r1 rL1 rC1 ∧
  (∃ p8 : Option Addr, cell h2 ⟨b1, 0, none⟩ = some (.pointer p8) ∧
  (.pointer p8 : Value) = .pointer p7) ∧
  (∃ p9 : Option Addr, cell h2 ⟨b1, 0, none⟩ = some (.pointer p9) ∧
  (.pointer p9 : Value) = .pointer p5) ∧
  (∃ p10 : Option Addr, cell h2 ⟨b1, 0, none⟩ = some (.pointer p10) ∧
  (.pointer p10 : Value) = .pointer p4) ∧
  HCalls Tryz.prog 8 #[.pointer p7] h2 fun v3 h3 => ∃ (r2 : Option Addr) (rL2 rC2 : Nat), v3 = .slice r2 rL2 rC2 ∧
  (∃ p11 : Option Addr, cell h3 ⟨b1, 0, none⟩ = some (.pointer p11) ∧
  (.pointer p11 : Value) = .pointer p5) ∧
  (∃ p12 : Option Addr, cell h3 ⟨b1, 0, none⟩ = some (.pointer p12) ∧
  (.pointer p12 : Value) = .pointer p4) ∧
  NN p4 fun a5 =>
  Wr h3 (a5.add 3) (.slice r1 rL1 rC1) fun h4 =>
  (∃ p13 : Option Addr, cell h4 ⟨b1, 0, none⟩ = some (.pointer p13) ∧
  (.pointer p13 : Value) = .pointer p5) ∧
  NN p5 fun a6 =>
  Wr h4 (a6.add 4) (.slice r2 rL2 rC2) fun h5 =>
  ∃ p14 : Option Addr, cell h5 ⟨b1, 0, none⟩ = some (.pointer p14) ∧
  NN p14 fun a7 =>
  ∃ (a8 : Option Addr) (L3 C3 : Nat), cell h5 (a7.add 3) = some (.slice a8 L3 C3) ∧
  HCalls Tryz.prog 40 #[.slice a8 L3 C3, .func (.func 72) #[] #[.pointer (some ⟨b1, 0, none⟩)]] h5 fun v4 h6 => v4 = .tuple #[] ∧
  ∃ p15 : Option Addr, cell h6 ⟨b1, 0, none⟩ = some (.pointer p15) ∧
  NN p15 fun a9 =>
  ∃ (a10 : Option Addr) (L4 C4 : Nat), cell h6 (a9.add 4) = some (.slice a10 L4 C4) ∧
  HCalls Tryz.prog 40 #[.slice a10 L4 C4, .func (.func 73) #[] #[.pointer (some ⟨b1, 0, none⟩)]] h6 fun v5 h7 => v5 = .tuple #[] ∧
  ∃ p16 : Option Addr, cell h7 ⟨b1, 0, none⟩ = some (.pointer p16) ∧
  New h7 (.map #[] 0) fun b2 h8 =>
  NN p16 fun a11 =>
  Wr h8 (a11.add 5) (.slice none 0 0) fun h9 =>
  Wr h9 ((a11.add 5).add 1) (.map (some b2)) fun h10 =>
  K (.tuple #[]) h10)) := by kernel_rfl
theorem table_Table_build_call {t : Option Addr} {h : Hp} {K : Value → Hp → Prop} (hk : table_Table_build_b0 t h K) : HCalls Tryz.prog 54 #[.pointer t] h K :=
  calls_of_snd table_Table_build_an Tryz.func54 (c := bodyOf Tryz.f54) rfl Tryz.ntmps54 (Nat.le_of_ble_eq_true rfl) (snd_1 F_ok F_mixed) hk

/-! ### table_Table_Batch_c1 -/
def table_Table_Batch_c1_an : Ann := .leaf
def table_Table_Batch_c1_K0  (K : Value → Hp → Prop) : Exit → Env → Hp → Prop := retK Tryz.prog Tryz.f55.results.toList K
def table_Table_Batch_c1_b0 (r_0 : Int) (r_1 : Int) (r_2 : Int) (r_3 : Int) (r_4 : ByteArray) (h : Hp)  (K : Value → Hp → Prop) : Prop :=
  sx_1 Tryz.prog F 6 (cp [] (bodyOf Tryz.f55)) (ap [] table_Table_Batch_c1_an) [(0, .agg #[.int .i64 r_0, .int .i64 r_1, .int .i64 r_2, .int .i64 r_3, .string r_4])] h (table_Table_Batch_c1_K0  K)
theorem table_Table_Batch_c1_b0_eq (r_0 : Int) (r_1 : Int) (r_2 : Int) (r_3 : Int) (r_4 : ByteArray) (h : Hp)  (K : Value → Hp → Prop) : table_Table_Batch_c1_b0 r_0 r_1 r_2 r_3 r_4 h  K = (
  New h (.cells #[.int .i64 r_0, .int .i64 r_1, .int .i64 r_2, .int .i64 r_3, .string r_4] 49) fun b1 h1 =>
  ∃ n1 : Int, ∃ n2 : Int, ∃ n3 : Int, ∃ n4 : Int, ∃ s1 : ByteArray, cell h1 ⟨b1, 0, none⟩ = some (.int .i64 n1) ∧
  cell h1 ((⟨b1, 0, none⟩ : Addr).add 1) = some (.int .i64 n2) ∧
  cell h1 ((⟨b1, 0, none⟩ : Addr).add 2) = some (.int .i64 n3) ∧
  cell h1 ((⟨b1, 0, none⟩ : Addr).add 3) = some (.int .i64 n4) ∧
  cell h1 ((⟨b1, 0, none⟩ : Addr).add 4) = some (.string s1) ∧
  HCalls Tryz.prog 51 #[.agg #[.int .i64 n1, .int .i64 n2, .int .i64 n3, .int .i64 n4, .string s1]] h1 fun v1 h2 => ∃ r1 : Bool, v1 = .bool r1 ∧
  K (.bool (!r1)) h2) := by kernel_rfl
theorem table_Table_Batch_c1_call {r_0 : Int} {r_1 : Int} {r_2 : Int} {r_3 : Int} {r_4 : ByteArray} {h : Hp} {K : Value → Hp → Prop} (hk : table_Table_Batch_c1_b0 r_0 r_1 r_2 r_3 r_4 h K) : HCalls Tryz.prog 55 #[.agg #[.int .i64 r_0, .int .i64 r_1, .int .i64 r_2, .int .i64 r_3, .string r_4]] h K :=
  calls_of_snd table_Table_Batch_c1_an Tryz.func55 (c := bodyOf Tryz.f55) rfl Tryz.ntmps55 (Nat.le_of_ble_eq_true rfl) (snd_1 F_ok F_mixed) hk

/-! ### math_bits_Mul -/
def math_bits_Mul_an : Ann := .leaf
def math_bits_Mul_K0  (K : Value → Hp → Prop) : Exit → Env → Hp → Prop := retK Tryz.prog Tryz.f56.results.toList K
def math_bits_Mul_b0 (x : Int) (y : Int) (h : Hp)  (K : Value → Hp → Prop) : Prop :=
  sx_1 Tryz.prog F 30 (cp [] (bodyOf Tryz.f56)) (ap [] math_bits_Mul_an) [(0, .int .u64 x), (1, .int .u64 y)] h (math_bits_Mul_K0  K)
theorem math_bits_Mul_b0_eq (x : Int) (y : Int) (h : Hp)  (K : Value → Hp → Prop) : math_bits_Mul_b0 x y h  K = (
  HCalls Tryz.prog 75 #[.int .u64 x, .int .u64 y] h fun v1 h1 => ∃ r1 : Int, ∃ r2 : Int, v1 = .tuple #[.int .u64 r1, .int .u64 r2] ∧
  K (.tuple #[.int .u64 r1, .int .u64 r2]) h1) := by kernel_rfl
theorem math_bits_Mul_call {x : Int} {y : Int} {h : Hp} {K : Value → Hp → Prop} (hk : math_bits_Mul_b0 x y h K) : HCalls Tryz.prog 56 #[.int .u64 x, .int .u64 y] h K :=
  calls_of_snd math_bits_Mul_an Tryz.func56 (c := bodyOf Tryz.f56) rfl Tryz.ntmps56 (Nat.le_of_ble_eq_true rfl) (snd_1 F_ok F_mixed) hk

/-! ### slices_IndexFunc_Sl50_Step_l50_Step -/
def slices_IndexFunc_Sl50_Step_l50_Step_an : Ann := .node none (.leaf) (.node (some []) (.node none (.leaf) (.loop [0, 1, 7] [(8, .int .i64)] (.node none (.leaf) (.node none (.leaf) (.node (some [0, 1, 7, 8]) (.leaf) (.leaf)))))) (.leaf))
def slices_IndexFunc_Sl50_Step_l50_Step_K0  (K : Value → Hp → Prop) : Exit → Env → Hp → Prop := retK Tryz.prog Tryz.f57.results.toList K
def slices_IndexFunc_Sl50_Step_l50_Step_K1  (K : Value → Hp → Prop) : Exit → Env → Hp → Prop := thenE (fun env h => sx_2 Tryz.prog F 19 (cp [1, 1] (bodyOf Tryz.f57)) (ap [1, 1] slices_IndexFunc_Sl50_Step_l50_Step_an) (rs [] env) h (slices_IndexFunc_Sl50_Step_l50_Step_K0  K)) (slices_IndexFunc_Sl50_Step_l50_Step_K0  K)
def slices_IndexFunc_Sl50_Step_l50_Step_K2  (K : Value → Hp → Prop) : Exit → Env → Hp → Prop := blockE 0 (slices_IndexFunc_Sl50_Step_l50_Step_K1  K)
def slices_IndexFunc_Sl50_Step_l50_Step_K3 (nx0 : Int × Unit → Hp → Prop) (K : Value → Hp → Prop) : Exit → Env → Hp → Prop := thenE (fun env h => getV [(8, .int .i64)] env fun s => nx0 s h) (slices_IndexFunc_Sl50_Step_l50_Step_K2  K)
def slices_IndexFunc_Sl50_Step_l50_Step_b0 (s : Option Addr) (sL : Nat) (sC : Nat) (f : Value) (h : Hp)  (K : Value → Hp → Prop) : Prop :=
  sx_3 Tryz.prog F 19 (cp [] (bodyOf Tryz.f57)) (ap [] slices_IndexFunc_Sl50_Step_l50_Step_an) [(0, .slice s sL sC), (1, f)] h (slices_IndexFunc_Sl50_Step_l50_Step_K0  K)
def slices_IndexFunc_Sl50_Step_l50_Step_b1 (t8 : Int) (s : Option Addr) (sL : Nat) (sC : Nat) (f : Value) (t7 : Int) (h : Hp) (nx0 : Int × Unit → Hp → Prop) (K : Value → Hp → Prop) : Prop :=
  sx_2 Tryz.prog F 19 (cp [1, 0, 1, 2, 2] (bodyOf Tryz.f57)) (ap [1, 0, 1, 2] slices_IndexFunc_Sl50_Step_l50_Step_an) [(8, .int .i64 t8), (0, .slice s sL sC), (1, f), (7, .int .i64 t7)] h (slices_IndexFunc_Sl50_Step_l50_Step_K3 nx0 K)
def slices_IndexFunc_Sl50_Step_l50_Step_b2 (s : Option Addr) (sL : Nat) (sC : Nat) (f : Value) (t7 : Int) (t8 : Int) (h : Hp) (nx0 : Int × Unit → Hp → Prop) (K : Value → Hp → Prop) : Prop :=
  sx_1 Tryz.prog F 19 (cp [1, 0, 1, 2, 2, 1, 1, 1] (bodyOf Tryz.f57)) (ap [1, 0, 1, 2, 1, 1, 1] slices_IndexFunc_Sl50_Step_l50_Step_an) [(0, .slice s sL sC), (1, f), (7, .int .i64 t7), (8, .int .i64 t8)] h (slices_IndexFunc_Sl50_Step_l50_Step_K3 nx0 K)
def slices_IndexFunc_Sl50_Step_l50_Step_b3  (h : Hp)  (K : Value → Hp → Prop) : Prop :=
  sx_2 Tryz.prog F 19 (cp [1, 1] (bodyOf Tryz.f57)) (ap [1, 1] slices_IndexFunc_Sl50_Step_l50_Step_an) [] h (slices_IndexFunc_Sl50_Step_l50_Step_K0  K)
theorem slices_IndexFunc_Sl50_Step_l50_Step_b0_eq (s : Option Addr) (sL : Nat) (sC : Nat) (f : Value) (h : Hp)  (K : Value → Hp → Prop) : slices_IndexFunc_Sl50_Step_l50_Step_b0 s sL sC f h  K = (
  LoopVC ((0, ()) : Int × Unit) h (fun (nx0 : Int × Unit → Hp → Prop) (s1 : Int × Unit) h1 => slices_IndexFunc_Sl50_Step_l50_Step_b1 s1.1 s sL sC f (sL : Int) h1 nx0 K)) := by kernel_rfl
theorem slices_IndexFunc_Sl50_Step_l50_Step_b1_eq (t8 : Int) (s : Option Addr) (sL : Nat) (sC : Nat) (f : Value) (t7 : Int) (h : Hp) (nx0 : Int × Unit → Hp → Prop) (K : Value → Hp → Prop) : slices_IndexFunc_Sl50_Step_l50_Step_b1 t8 s sL sC f t7 h nx0 K = (
  cond (decide (t8 < t7))
  ((0 ≤ t8 ∧ t8 < (sL : Int)) ∧
  NN s fun a1 =>
  ∃ n1 : Int, ∃ n2 : Int, ∃ n3 : Int, ∃ n4 : Int, ∃ n5 : Int, ∃ n6 : Int, ∃ s2 : ByteArray, ∃ (a2 : Option Addr) (L1 C1 : Nat), ∃ (a3 : Option Addr) (L2 C2 : Nat), cell h (a1.add (Int.toNat t8 * 9)) = some (.int .u8 n1) ∧
  cell h ((a1.add (Int.toNat t8 * 9)).add 1) = some (.int .i64 n2) ∧
  cell h ((a1.add (Int.toNat t8 * 9)).add 2) = some (.int .i64 n3) ∧
  cell h ((a1.add (Int.toNat t8 * 9)).add 3) = some (.int .i64 n4) ∧
  cell h ((a1.add (Int.toNat t8 * 9)).add 4) = some (.int .i64 n5) ∧
  cell h ((a1.add (Int.toNat t8 * 9)).add 5) = some (.int .i64 n6) ∧
  cell h ((a1.add (Int.toNat t8 * 9)).add 6) = some (.string s2) ∧
  cell h ((a1.add (Int.toNat t8 * 9)).add 7) = some (.slice a2 L1 C1) ∧
  cell h ((a1.add (Int.toNat t8 * 9)).add 8) = some (.slice a3 L2 C2) ∧
  funV f fun fg1 fa1 fc1 => callX Tryz.prog F fg1 (fa1 ++ (([.agg #[.int .u8 n1, .int .i64 n2, .int .i64 n3, .int .i64 n4, .int .i64 n5, .int .i64 n6, .string s2, .slice a2 L1 C1, .slice a3 L2 C2]] : List Value) ++ fc1)).toArray h fun v1 h2 => ∃ r1 : Bool, v1 = .bool r1 ∧
  cond r1
  (K (.int .i64 t8) h2)
  (slices_IndexFunc_Sl50_Step_l50_Step_b2 s sL sC f t7 t8 h2 nx0 K))
  (slices_IndexFunc_Sl50_Step_l50_Step_b3  h  K)) := by kernel_rfl
theorem slices_IndexFunc_Sl50_Step_l50_Step_b2_eq (s : Option Addr) (sL : Nat) (sC : Nat) (f : Value) (t7 : Int) (t8 : Int) (h : Hp) (nx0 : Int × Unit → Hp → Prop) (K : Value → Hp → Prop) : slices_IndexFunc_Sl50_Step_l50_Step_b2 s sL sC f t7 t8 h nx0 K = (
  InR (t8 + 1) ∧
  nx0 (t8 + 1, ()) h) := by kernel_rfl
theorem slices_IndexFunc_Sl50_Step_l50_Step_b3_eq  (h : Hp)  (K : Value → Hp → Prop) : slices_IndexFunc_Sl50_Step_l50_Step_b3  h  K = (
  K (.int .i64 (-1)) h) := by kernel_rfl
theorem slices_IndexFunc_Sl50_Step_l50_Step_call {s : Option Addr} {sL : Nat} {sC : Nat} {f : Value} {h : Hp} {K : Value → Hp → Prop} (hk : slices_IndexFunc_Sl50_Step_l50_Step_b0 s sL sC f h K) : HCalls Tryz.prog 57 #[.slice s sL sC, f] h K :=
  calls_of_snd slices_IndexFunc_Sl50_Step_l50_Step_an Tryz.func57 (c := bodyOf Tryz.f57) rfl Tryz.ntmps57 (Nat.le_of_ble_eq_true rfl) (snd_3 F_ok F_mixed) hk

/-! ### slices_IndexFunc_Sapi_Record_api_Record -/
def slices_IndexFunc_Sapi_Record_api_Record_an : Ann := .node none (.leaf) (.node (some []) (.node none (.leaf) (.loop [0, 1, 7] [(8, .int .i64)] (.node none (.leaf) (.node none (.leaf) (.node (some [0, 1, 7, 8]) (.leaf) (.leaf)))))) (.leaf))
def slices_IndexFunc_Sapi_Record_api_Record_K0  (K : Value → Hp → Prop) : Exit → Env → Hp → Prop := retK Tryz.prog Tryz.f58.results.toList K
def slices_IndexFunc_Sapi_Record_api_Record_K1  (K : Value → Hp → Prop) : Exit → Env → Hp → Prop := thenE (fun env h => sx_2 Tryz.prog F 19 (cp [1, 1] (bodyOf Tryz.f58)) (ap [1, 1] slices_IndexFunc_Sapi_Record_api_Record_an) (rs [] env) h (slices_IndexFunc_Sapi_Record_api_Record_K0  K)) (slices_IndexFunc_Sapi_Record_api_Record_K0  K)
def slices_IndexFunc_Sapi_Record_api_Record_K2  (K : Value → Hp → Prop) : Exit → Env → Hp → Prop := blockE 0 (slices_IndexFunc_Sapi_Record_api_Record_K1  K)
def slices_IndexFunc_Sapi_Record_api_Record_K3 (nx0 : Int × Unit → Hp → Prop) (K : Value → Hp → Prop) : Exit → Env → Hp → Prop := thenE (fun env h => getV [(8, .int .i64)] env fun s => nx0 s h) (slices_IndexFunc_Sapi_Record_api_Record_K2  K)
def slices_IndexFunc_Sapi_Record_api_Record_b0 (s : Option Addr) (sL : Nat) (sC : Nat) (f : Value) (h : Hp)  (K : Value → Hp → Prop) : Prop :=
  sx_3 Tryz.prog F 19 (cp [] (bodyOf Tryz.f58)) (ap [] slices_IndexFunc_Sapi_Record_api_Record_an) [(0, .slice s sL sC), (1, f)] h (slices_IndexFunc_Sapi_Record_api_Record_K0  K)
def slices_IndexFunc_Sapi_Record_api_Record_b1 (t8 : Int) (s : Option Addr) (sL : Nat) (sC : Nat) (f : Value) (t7 : Int) (h : Hp) (nx0 : Int × Unit → Hp → Prop) (K : Value → Hp → Prop) : Prop :=
  sx_2 Tryz.prog F 19 (cp [1, 0, 1, 2, 2] (bodyOf Tryz.f58)) (ap [1, 0, 1, 2] slices_IndexFunc_Sapi_Record_api_Record_an) [(8, .int .i64 t8), (0, .slice s sL sC), (1, f), (7, .int .i64 t7)] h (slices_IndexFunc_Sapi_Record_api_Record_K3 nx0 K)
def slices_IndexFunc_Sapi_Record_api_Record_b2 (s : Option Addr) (sL : Nat) (sC : Nat) (f : Value) (t7 : Int) (t8 : Int) (h : Hp) (nx0 : Int × Unit → Hp → Prop) (K : Value → Hp → Prop) : Prop :=
  sx_1 Tryz.prog F 19 (cp [1, 0, 1, 2, 2, 1, 1, 1] (bodyOf Tryz.f58)) (ap [1, 0, 1, 2, 1, 1, 1] slices_IndexFunc_Sapi_Record_api_Record_an) [(0, .slice s sL sC), (1, f), (7, .int .i64 t7), (8, .int .i64 t8)] h (slices_IndexFunc_Sapi_Record_api_Record_K3 nx0 K)
def slices_IndexFunc_Sapi_Record_api_Record_b3  (h : Hp)  (K : Value → Hp → Prop) : Prop :=
  sx_2 Tryz.prog F 19 (cp [1, 1] (bodyOf Tryz.f58)) (ap [1, 1] slices_IndexFunc_Sapi_Record_api_Record_an) [] h (slices_IndexFunc_Sapi_Record_api_Record_K0  K)
theorem slices_IndexFunc_Sapi_Record_api_Record_b0_eq (s : Option Addr) (sL : Nat) (sC : Nat) (f : Value) (h : Hp)  (K : Value → Hp → Prop) : slices_IndexFunc_Sapi_Record_api_Record_b0 s sL sC f h  K = (
  LoopVC ((0, ()) : Int × Unit) h (fun (nx0 : Int × Unit → Hp → Prop) (s1 : Int × Unit) h1 => slices_IndexFunc_Sapi_Record_api_Record_b1 s1.1 s sL sC f (sL : Int) h1 nx0 K)) := by kernel_rfl
theorem slices_IndexFunc_Sapi_Record_api_Record_b1_eq (t8 : Int) (s : Option Addr) (sL : Nat) (sC : Nat) (f : Value) (t7 : Int) (h : Hp) (nx0 : Int × Unit → Hp → Prop) (K : Value → Hp → Prop) : slices_IndexFunc_Sapi_Record_api_Record_b1 t8 s sL sC f t7 h nx0 K = (
  cond (decide (t8 < t7))
  ((0 ≤ t8 ∧ t8 < (sL : Int)) ∧
  NN s fun a1 =>
  ∃ n1 : Int, ∃ n2 : Int, ∃ n3 : Int, ∃ n4 : Int, ∃ s2 : ByteArray, cell h (a1.add (Int.toNat t8 * 5)) = some (.int .i64 n1) ∧
  cell h ((a1.add (Int.toNat t8 * 5)).add 1) = some (.int .i64 n2) ∧
  cell h ((a1.add (Int.toNat t8 * 5)).add 2) = some (.int .i64 n3) ∧
  cell h ((a1.add (Int.toNat t8 * 5)).add 3) = some (.int .i64 n4) ∧
  cell h ((a1.add (Int.toNat t8 * 5)).add 4) = some (.string s2) ∧
  funV f fun fg1 fa1 fc1 => callX Tryz.prog F fg1 (fa1 ++ (([.agg #[.int .i64 n1, .int .i64 n2, .int .i64 n3, .int .i64 n4, .string s2]] : List Value) ++ fc1)).toArray h fun v1 h2 => ∃ r1 : Bool, v1 = .bool r1 ∧
  cond r1
  (K (.int .i64 t8) h2)
  (slices_IndexFunc_Sapi_Record_api_Record_b2 s sL sC f t7 t8 h2 nx0 K))
  (slices_IndexFunc_Sapi_Record_api_Record_b3  h  K)) := by kernel_rfl
theorem slices_IndexFunc_Sapi_Record_api_Record_b2_eq (s : Option Addr) (sL : Nat) (sC : Nat) (f : Value) (t7 : Int) (t8 : Int) (h : Hp) (nx0 : Int × Unit → Hp → Prop) (K : Value → Hp → Prop) : slices_IndexFunc_Sapi_Record_api_Record_b2 s sL sC f t7 t8 h nx0 K = (
  InR (t8 + 1) ∧
  nx0 (t8 + 1, ()) h) := by kernel_rfl
theorem slices_IndexFunc_Sapi_Record_api_Record_b3_eq  (h : Hp)  (K : Value → Hp → Prop) : slices_IndexFunc_Sapi_Record_api_Record_b3  h  K = (
  K (.int .i64 (-1)) h) := by kernel_rfl
theorem slices_IndexFunc_Sapi_Record_api_Record_call {s : Option Addr} {sL : Nat} {sC : Nat} {f : Value} {h : Hp} {K : Value → Hp → Prop} (hk : slices_IndexFunc_Sapi_Record_api_Record_b0 s sL sC f h K) : HCalls Tryz.prog 58 #[.slice s sL sC, f] h K :=
  calls_of_snd slices_IndexFunc_Sapi_Record_api_Record_an Tryz.func58 (c := bodyOf Tryz.f58) rfl Tryz.ntmps58 (Nat.le_of_ble_eq_true rfl) (snd_3 F_ok F_mixed) hk

/-! ### r50_Insert -/
def r50_Insert_an : Ann := .node none (.leaf) (.node none (.leaf) (.node none (.leaf) (.node none (.leaf) (.node none (.leaf) (.node none (.leaf) (.node (some [2, 4, 7]) (.plan (.qu 1 (.qu 2 (.qu 4 (.wo 0 (.wo 3 (.wo 5 (.wo 6 (.qu 7 (.wo 8 .fin .no)) .no) .no) (.wo 5 (.wo 3 (.wo 6 (.qu 7 (.wo 8 .fin .no)) .no) .no) .no)) (.wo 5 (.wo 0 (.wo 3 (.wo 6 (.qu 7 (.wo 8 .fin .no)) .no) .no) .no) .no)))))) (.leaf)))))))
def r50_Insert_K0  (K : Value → Hp → Prop) : Exit → Env → Hp → Prop := retK Tryz.prog Tryz.f59.results.toList K
def r50_Insert_b0 (t_0 : Option Addr) (t_0L : Nat) (t_0C : Nat) (t_1 : Option Addr) (t_1L : Nat) (t_1C : Nat) (t_2 : Int) (r_0 : Int) (r_1 : Int) (r_2 : Int) (r_3 : Int) (r_4 : ByteArray) (h : Hp)  (K : Value → Hp → Prop) : Prop :=
  sx_2 Tryz.prog F 45 (cp [] (bodyOf Tryz.f59)) (ap [] r50_Insert_an) [(0, .agg #[.slice t_0 t_0L t_0C, .slice t_1 t_1L t_1C, .int .i64 t_2]), (1, .agg #[.int .i64 r_0, .int .i64 r_1, .int .i64 r_2, .int .i64 r_3, .string r_4])] h (r50_Insert_K0  K)
def r50_Insert_b1 (t : Option Addr) (t4 : Option Addr) (id : Int) (h : Hp)  (K : Value → Hp → Prop) : Prop :=
  sx_1 Tryz.prog F 45 (cp [1, 1, 1, 1, 1, 1, 1] (bodyOf Tryz.f59)) (ap [1, 1, 1, 1, 1, 1, 1] r50_Insert_an) [(2, .pointer t), (4, .pointer t4), (7, .int .i64 id)] h (r50_Insert_K0  K)
theorem r50_Insert_b0_eq (t_0 : Option Addr) (t_0L : Nat) (t_0C : Nat) (t_1 : Option Addr) (t_1L : Nat) (t_1C : Nat) (t_2 : Int) (r_0 : Int) (r_1 : Int) (r_2 : Int) (r_3 : Int) (r_4 : ByteArray) (h : Hp)  (K : Value → Hp → Prop) : r50_Insert_b0 t_0 t_0L t_0C t_1 t_1L t_1C t_2 r_0 r_1 r_2 r_3 r_4 h  K = (
  New h (.cells #[.slice t_0 t_0L t_0C, .slice t_1 t_1L t_1C, .int .i64 t_2] 29) fun b1 h1 =>
  New h1 (.cells #[.int .i64 r_0, .int .i64 r_1, .int .i64 r_2, .int .i64 r_3, .string r_4] 49) fun b2 h2 =>
  New h2 (.cells #[.slice none 0 0, .slice none 0 0, .int .i64 0] 29) fun b3 h3 =>
  ∃ n1 : Int, ∃ n2 : Int, ∃ n3 : Int, ∃ n4 : Int, ∃ s1 : ByteArray, cell h3 ⟨b2, 0, none⟩ = some (.int .i64 n1) ∧
  cell h3 ((⟨b2, 0, none⟩ : Addr).add 1) = some (.int .i64 n2) ∧
  cell h3 ((⟨b2, 0, none⟩ : Addr).add 2) = some (.int .i64 n3) ∧
  cell h3 ((⟨b2, 0, none⟩ : Addr).add 3) = some (.int .i64 n4) ∧
  cell h3 ((⟨b2, 0, none⟩ : Addr).add 4) = some (.string s1) ∧
  HCalls Tryz.prog 76 #[.agg #[.int .i64 n1, .int .i64 n2, .int .i64 n3, .int .i64 n4, .string s1]] h3 fun v1 h4 => ∃ r1 : Bool, v1 = .bool r1 ∧
  cond (!r1)
  (∃ (a1 : Option Addr) (L1 C1 : Nat), ∃ (a2 : Option Addr) (L2 C2 : Nat), ∃ n5 : Int, cell h4 ⟨b1, 0, none⟩ = some (.slice a1 L1 C1) ∧
  cell h4 ((⟨b1, 0, none⟩ : Addr).add 1) = some (.slice a2 L2 C2) ∧
  cell h4 ((⟨b1, 0, none⟩ : Addr).add 2) = some (.int .i64 n5) ∧
  Wr h4 ⟨b3, 0, none⟩ (.slice a1 L1 C1) fun h5 =>
  Wr h5 ((⟨b3, 0, none⟩ : Addr).add 1) (.slice a2 L2 C2) fun h6 =>
  Wr h6 ((⟨b3, 0, none⟩ : Addr).add 2) (.int .i64 n5) fun h7 =>
  ∃ (r2 : Option Addr) (rL1 rC1 : Nat), ∃ (r3 : Option Addr) (rL2 rC2 : Nat), ∃ r4 : Int, cell h7 ⟨b3, 0, none⟩ = some (.slice r2 rL1 rC1) ∧
  cell h7 ((⟨b3, 0, none⟩ : Addr).add 1) = some (.slice r3 rL2 rC2) ∧
  cell h7 ((⟨b3, 0, none⟩ : Addr).add 2) = some (.int .i64 r4) ∧
  K (.tuple #[.agg #[.slice r2 rL1 rC1, .slice r3 rL2 rC2, .int .i64 r4], .int .i64 0, .int .i64 1]) h7)
  (∃ (a3 : Option Addr) (L3 C3 : Nat), ∃ (a4 : Option Addr) (L4 C4 : Nat), ∃ n6 : Int, cell h4 ⟨b1, 0, none⟩ = some (.slice a3 L3 C3) ∧
  cell h4 ((⟨b1, 0, none⟩ : Addr).add 1) = some (.slice a4 L4 C4) ∧
  cell h4 ((⟨b1, 0, none⟩ : Addr).add 2) = some (.int .i64 n6) ∧
  ∃ n7 : Int, cell h4 ⟨b2, 0, none⟩ = some (.int .i64 n7) ∧
  HCalls Tryz.prog 77 #[.agg #[.slice a3 L3 C3, .slice a4 L4 C4, .int .i64 n6], .int .i64 n7, .int .i64 (-1)] h4 fun v2 h8 => ∃ r5 : Bool, v2 = .bool r5 ∧
  cond r5
  (∃ (a5 : Option Addr) (L5 C5 : Nat), ∃ (a6 : Option Addr) (L6 C6 : Nat), ∃ n8 : Int, cell h8 ⟨b1, 0, none⟩ = some (.slice a5 L5 C5) ∧
  cell h8 ((⟨b1, 0, none⟩ : Addr).add 1) = some (.slice a6 L6 C6) ∧
  cell h8 ((⟨b1, 0, none⟩ : Addr).add 2) = some (.int .i64 n8) ∧
  Wr h8 ⟨b3, 0, none⟩ (.slice a5 L5 C5) fun h9 =>
  Wr h9 ((⟨b3, 0, none⟩ : Addr).add 1) (.slice a6 L6 C6) fun h10 =>
  Wr h10 ((⟨b3, 0, none⟩ : Addr).add 2) (.int .i64 n8) fun h11 =>
  ∃ (r6 : Option Addr) (rL3 rC3 : Nat), ∃ (r7 : Option Addr) (rL4 rC4 : Nat), ∃ r8 : Int, cell h11 ⟨b3, 0, none⟩ = some (.slice r6 rL3 rC3) ∧
  cell h11 ((⟨b3, 0, none⟩ : Addr).add 1) = some (.slice r7 rL4 rC4) ∧
  cell h11 ((⟨b3, 0, none⟩ : Addr).add 2) = some (.int .i64 r8) ∧
  K (.tuple #[.agg #[.slice r6 rL3 rC3, .slice r7 rL4 rC4, .int .i64 r8], .int .i64 0, .int .i64 15]) h11)
  (∃ (a7 : Option Addr) (L7 C7 : Nat), cell h8 ⟨b1, 0, none⟩ = some (.slice a7 L7 C7) ∧
  cond (decide ((1000 : Int) ≤ (L7 : Int)))
  (∃ (a8 : Option Addr) (L8 C8 : Nat), ∃ (a9 : Option Addr) (L9 C9 : Nat), ∃ n9 : Int, cell h8 ⟨b1, 0, none⟩ = some (.slice a8 L8 C8) ∧
  cell h8 ((⟨b1, 0, none⟩ : Addr).add 1) = some (.slice a9 L9 C9) ∧
  cell h8 ((⟨b1, 0, none⟩ : Addr).add 2) = some (.int .i64 n9) ∧
  Wr h8 ⟨b3, 0, none⟩ (.slice a8 L8 C8) fun h12 =>
  Wr h12 ((⟨b3, 0, none⟩ : Addr).add 1) (.slice a9 L9 C9) fun h13 =>
  Wr h13 ((⟨b3, 0, none⟩ : Addr).add 2) (.int .i64 n9) fun h14 =>
  ∃ (r9 : Option Addr) (rL5 rC5 : Nat), ∃ (r10 : Option Addr) (rL6 rC6 : Nat), ∃ r11 : Int, cell h14 ⟨b3, 0, none⟩ = some (.slice r9 rL5 rC5) ∧
  cell h14 ((⟨b3, 0, none⟩ : Addr).add 1) = some (.slice r10 rL6 rC6) ∧
  cell h14 ((⟨b3, 0, none⟩ : Addr).add 2) = some (.int .i64 r11) ∧
  K (.tuple #[.agg #[.slice r9 rL5 rC5, .slice r10 rL6 rC6, .int .i64 r11], .int .i64 0, .int .i64 4]) h14)
  (∃ n10 : Int, cell h8 ((⟨b1, 0, none⟩ : Addr).add 2) = some (.int .i64 n10) ∧
  New h8 (.cells #[] 3) fun b4 h15 =>
  ∃ (a10 : Option Addr) (L10 C10 : Nat), cell h15 ⟨b1, 0, none⟩ = some (.slice a10 L10 C10) ∧
  appendV Tryz.prog 26 26 (.slice (some ⟨b4, 0, none⟩) 0 0) (.slice a10 L10 C10) h15 (slK fun a11 l1 c1 h16 =>
  New h16 (.cells #[.int .i64 n10] 3) fun b5 h17 =>
  appendV Tryz.prog 26 26 (.slice a11 l1 c1) (.slice (some ⟨b5, 0, none⟩) 1 1) h17 (slK fun a12 l2 c2 h18 =>
  Wr h18 ⟨b1, 0, none⟩ (.slice a12 l2 c2) fun h19 =>
  ∃ (a13 : Option Addr) (L11 C11 : Nat), cell h19 ((⟨b1, 0, none⟩ : Addr).add 1) = some (.slice a13 L11 C11) ∧
  ∃ n11 : Int, ∃ n12 : Int, ∃ n13 : Int, ∃ n14 : Int, ∃ s2 : ByteArray, cell h19 ⟨b2, 0, none⟩ = some (.int .i64 n11) ∧
  cell h19 ((⟨b2, 0, none⟩ : Addr).add 1) = some (.int .i64 n12) ∧
  cell h19 ((⟨b2, 0, none⟩ : Addr).add 2) = some (.int .i64 n13) ∧
  cell h19 ((⟨b2, 0, none⟩ : Addr).add 3) = some (.int .i64 n14) ∧
  cell h19 ((⟨b2, 0, none⟩ : Addr).add 4) = some (.string s2) ∧
  (New h19 (.cells #[] 49) fun b6 h20 =>
  (∃ n15 : Int, ∃ n16 : Int, ∃ n17 : Int, ∃ n18 : Int, ∃ s3 : ByteArray, cell h20 ⟨b2, 0, none⟩ = some (.int .i64 n15) ∧
  cell h20 ((⟨b2, 0, none⟩ : Addr).add 1) = some (.int .i64 n16) ∧
  cell h20 ((⟨b2, 0, none⟩ : Addr).add 2) = some (.int .i64 n17) ∧
  cell h20 ((⟨b2, 0, none⟩ : Addr).add 3) = some (.int .i64 n18) ∧
  cell h20 ((⟨b2, 0, none⟩ : Addr).add 4) = some (.string s3) ∧
  (.agg #[.int .i64 n15, .int .i64 n16, .int .i64 n17, .int .i64 n18, .string s3] : Value) = .agg #[.int .i64 n11, .int .i64 n12, .int .i64 n13, .int .i64 n14, .string s2]) ∧
  (∃ (a14 : Option Addr) (L12 C12 : Nat), cell h20 ((⟨b1, 0, none⟩ : Addr).add 1) = some (.slice a14 L12 C12) ∧
  (.slice a14 L12 C12 : Value) = .slice a13 L11 C11) ∧
  (appendV Tryz.prog 27 27 (.slice (some ⟨b6, 0, none⟩) 0 0) (.slice a13 L11 C11) h20 (slK fun a15 l3 c3 h21 =>
  (∃ n19 : Int, ∃ n20 : Int, ∃ n21 : Int, ∃ n22 : Int, ∃ s4 : ByteArray, cell h21 ⟨b2, 0, none⟩ = some (.int .i64 n19) ∧
  cell h21 ((⟨b2, 0, none⟩ : Addr).add 1) = some (.int .i64 n20) ∧
  cell h21 ((⟨b2, 0, none⟩ : Addr).add 2) = some (.int .i64 n21) ∧
  cell h21 ((⟨b2, 0, none⟩ : Addr).add 3) = some (.int .i64 n22) ∧
  cell h21 ((⟨b2, 0, none⟩ : Addr).add 4) = some (.string s4) ∧
  (.agg #[.int .i64 n19, .int .i64 n20, .int .i64 n21, .int .i64 n22, .string s4] : Value) = .agg #[.int .i64 n11, .int .i64 n12, .int .i64 n13, .int .i64 n14, .string s2]) ∧
  New h21 (.cells #[.int .i64 n11, .int .i64 n12, .int .i64 n13, .int .i64 n14, .string s2] 49) fun b7 h22 =>
  appendV Tryz.prog 27 27 (.slice a15 l3 c3) (.slice (some ⟨b7, 0, none⟩) 1 1) h22 (slK fun a16 l4 c4 h23 =>
  Wr h23 ((⟨b1, 0, none⟩ : Addr).add 1) (.slice a16 l4 c4) fun h24 =>
  r50_Insert_b1 (some ⟨b1, 0, none⟩) (some ⟨b3, 0, none⟩) n10 h24  K))) ∧
  (New h20 (.cells #[.int .i64 n11, .int .i64 n12, .int .i64 n13, .int .i64 n14, .string s2] 49) fun b8 h25 =>
  (∃ (a17 : Option Addr) (L13 C13 : Nat), cell h25 ((⟨b1, 0, none⟩ : Addr).add 1) = some (.slice a17 L13 C13) ∧
  (.slice a17 L13 C13 : Value) = .slice a13 L11 C11) ∧
  appendV Tryz.prog 27 27 (.slice (some ⟨b6, 0, none⟩) 0 0) (.slice a13 L11 C11) h25 (slK fun a18 l5 c5 h26 =>
  appendV Tryz.prog 27 27 (.slice a18 l5 c5) (.slice (some ⟨b8, 0, none⟩) 1 1) h26 (slK fun a19 l6 c6 h27 =>
  Wr h27 ((⟨b1, 0, none⟩ : Addr).add 1) (.slice a19 l6 c6) fun h28 =>
  r50_Insert_b1 (some ⟨b1, 0, none⟩) (some ⟨b3, 0, none⟩) n10 h28  K)))) ∧
  (New h19 (.cells #[.int .i64 n11, .int .i64 n12, .int .i64 n13, .int .i64 n14, .string s2] 49) fun b9 h29 =>
  (∃ (a20 : Option Addr) (L14 C14 : Nat), cell h29 ((⟨b1, 0, none⟩ : Addr).add 1) = some (.slice a20 L14 C14) ∧
  (.slice a20 L14 C14 : Value) = .slice a13 L11 C11) ∧
  New h29 (.cells #[] 49) fun b10 h30 =>
  (∃ (a21 : Option Addr) (L15 C15 : Nat), cell h30 ((⟨b1, 0, none⟩ : Addr).add 1) = some (.slice a21 L15 C15) ∧
  (.slice a21 L15 C15 : Value) = .slice a13 L11 C11) ∧
  appendV Tryz.prog 27 27 (.slice (some ⟨b10, 0, none⟩) 0 0) (.slice a13 L11 C11) h30 (slK fun a22 l7 c7 h31 =>
  appendV Tryz.prog 27 27 (.slice a22 l7 c7) (.slice (some ⟨b9, 0, none⟩) 1 1) h31 (slK fun a23 l8 c8 h32 =>
  Wr h32 ((⟨b1, 0, none⟩ : Addr).add 1) (.slice a23 l8 c8) fun h33 =>
  r50_Insert_b1 (some ⟨b1, 0, none⟩) (some ⟨b3, 0, none⟩) n10 h33  K))))))))) := by kernel_rfl
theorem r50_Insert_b1_eq (t : Option Addr) (t4 : Option Addr) (id : Int) (h : Hp)  (K : Value → Hp → Prop) : r50_Insert_b1 t t4 id h  K = (
  InR (id + 1) ∧
  NN t fun a24 =>
  Wr h (a24.add 2) (.int .i64 (id + 1)) fun h34 =>
  NN t fun a25 =>
  ∃ (a26 : Option Addr) (L16 C16 : Nat), ∃ (a27 : Option Addr) (L17 C17 : Nat), ∃ n23 : Int, cell h34 a25 = some (.slice a26 L16 C16) ∧
  cell h34 (a25.add 1) = some (.slice a27 L17 C17) ∧
  cell h34 (a25.add 2) = some (.int .i64 n23) ∧
  NN t4 fun a28 =>
  Wr h34 a28 (.slice a26 L16 C16) fun h35 =>
  Wr h35 (a28.add 1) (.slice a27 L17 C17) fun h36 =>
  Wr h36 (a28.add 2) (.int .i64 n23) fun h37 =>
  NN t4 fun a29 =>
  ∃ (r12 : Option Addr) (rL7 rC7 : Nat), ∃ (r13 : Option Addr) (rL8 rC8 : Nat), ∃ r14 : Int, cell h37 a29 = some (.slice r12 rL7 rC7) ∧
  cell h37 (a29.add 1) = some (.slice r13 rL8 rC8) ∧
  cell h37 (a29.add 2) = some (.int .i64 r14) ∧
  K (.tuple #[.agg #[.slice r12 rL7 rC7, .slice r13 rL8 rC8, .int .i64 r14], .int .i64 id, .int .i64 0]) h37) := by kernel_rfl
theorem r50_Insert_call {t_0 : Option Addr} {t_0L : Nat} {t_0C : Nat} {t_1 : Option Addr} {t_1L : Nat} {t_1C : Nat} {t_2 : Int} {r_0 : Int} {r_1 : Int} {r_2 : Int} {r_3 : Int} {r_4 : ByteArray} {h : Hp} {K : Value → Hp → Prop} (hk : r50_Insert_b0 t_0 t_0L t_0C t_1 t_1L t_1C t_2 r_0 r_1 r_2 r_3 r_4 h K) : HCalls Tryz.prog 59 #[.agg #[.slice t_0 t_0L t_0C, .slice t_1 t_1L t_1C, .int .i64 t_2], .agg #[.int .i64 r_0, .int .i64 r_1, .int .i64 r_2, .int .i64 r_3, .string r_4]] h K :=
  calls_of_snd r50_Insert_an Tryz.func59 (c := bodyOf Tryz.f59) rfl Tryz.ntmps59 (Nat.le_of_ble_eq_true rfl) (snd_2 F_ok F_mixed) hk

/-! ### r50_Update -/
def r50_Update_an : Ann := .leaf
def r50_Update_K0  (K : Value → Hp → Prop) : Exit → Env → Hp → Prop := retK Tryz.prog Tryz.f60.results.toList K
def r50_Update_b0 (t_0 : Option Addr) (t_0L : Nat) (t_0C : Nat) (t_1 : Option Addr) (t_1L : Nat) (t_1C : Nat) (t_2 : Int) (id : Int) (r_0 : Int) (r_1 : Int) (r_2 : Int) (r_3 : Int) (r_4 : ByteArray) (h : Hp)  (K : Value → Hp → Prop) : Prop :=
  sx_1 Tryz.prog F 36 (cp [] (bodyOf Tryz.f60)) (ap [] r50_Update_an) [(0, .agg #[.slice t_0 t_0L t_0C, .slice t_1 t_1L t_1C, .int .i64 t_2]), (1, .int .i64 id), (2, .agg #[.int .i64 r_0, .int .i64 r_1, .int .i64 r_2, .int .i64 r_3, .string r_4])] h (r50_Update_K0  K)
theorem r50_Update_b0_eq (t_0 : Option Addr) (t_0L : Nat) (t_0C : Nat) (t_1 : Option Addr) (t_1L : Nat) (t_1C : Nat) (t_2 : Int) (id : Int) (r_0 : Int) (r_1 : Int) (r_2 : Int) (r_3 : Int) (r_4 : ByteArray) (h : Hp)  (K : Value → Hp → Prop) : r50_Update_b0 t_0 t_0L t_0C t_1 t_1L t_1C t_2 id r_0 r_1 r_2 r_3 r_4 h  K = (
  New h (.cells #[.slice t_0 t_0L t_0C, .slice t_1 t_1L t_1C, .int .i64 t_2] 29) fun b1 h1 =>
  New h1 (.cells #[.int .i64 r_0, .int .i64 r_1, .int .i64 r_2, .int .i64 r_3, .string r_4] 49) fun b2 h2 =>
  New h2 (.cells #[.slice none 0 0, .slice none 0 0, .int .i64 0] 29) fun b3 h3 =>
  ∃ n1 : Int, ∃ n2 : Int, ∃ n3 : Int, ∃ n4 : Int, ∃ s1 : ByteArray, cell h3 ⟨b2, 0, none⟩ = some (.int .i64 n1) ∧
  cell h3 ((⟨b2, 0, none⟩ : Addr).add 1) = some (.int .i64 n2) ∧
  cell h3 ((⟨b2, 0, none⟩ : Addr).add 2) = some (.int .i64 n3) ∧
  cell h3 ((⟨b2, 0, none⟩ : Addr).add 3) = some (.int .i64 n4) ∧
  cell h3 ((⟨b2, 0, none⟩ : Addr).add 4) = some (.string s1) ∧
  HCalls Tryz.prog 76 #[.agg #[.int .i64 n1, .int .i64 n2, .int .i64 n3, .int .i64 n4, .string s1]] h3 fun v1 h4 => ∃ r1 : Bool, v1 = .bool r1 ∧
  cond (!r1)
  (∃ (a1 : Option Addr) (L1 C1 : Nat), ∃ (a2 : Option Addr) (L2 C2 : Nat), ∃ n5 : Int, cell h4 ⟨b1, 0, none⟩ = some (.slice a1 L1 C1) ∧
  cell h4 ((⟨b1, 0, none⟩ : Addr).add 1) = some (.slice a2 L2 C2) ∧
  cell h4 ((⟨b1, 0, none⟩ : Addr).add 2) = some (.int .i64 n5) ∧
  Wr h4 ⟨b3, 0, none⟩ (.slice a1 L1 C1) fun h5 =>
  Wr h5 ((⟨b3, 0, none⟩ : Addr).add 1) (.slice a2 L2 C2) fun h6 =>
  Wr h6 ((⟨b3, 0, none⟩ : Addr).add 2) (.int .i64 n5) fun h7 =>
  ∃ (r2 : Option Addr) (rL1 rC1 : Nat), ∃ (r3 : Option Addr) (rL2 rC2 : Nat), ∃ r4 : Int, cell h7 ⟨b3, 0, none⟩ = some (.slice r2 rL1 rC1) ∧
  cell h7 ((⟨b3, 0, none⟩ : Addr).add 1) = some (.slice r3 rL2 rC2) ∧
  cell h7 ((⟨b3, 0, none⟩ : Addr).add 2) = some (.int .i64 r4) ∧
  K (.tuple #[.agg #[.slice r2 rL1 rC1, .slice r3 rL2 rC2, .int .i64 r4], .int .i64 1]) h7)
  (∃ (a3 : Option Addr) (L3 C3 : Nat), ∃ (a4 : Option Addr) (L4 C4 : Nat), ∃ n6 : Int, cell h4 ⟨b1, 0, none⟩ = some (.slice a3 L3 C3) ∧
  cell h4 ((⟨b1, 0, none⟩ : Addr).add 1) = some (.slice a4 L4 C4) ∧
  cell h4 ((⟨b1, 0, none⟩ : Addr).add 2) = some (.int .i64 n6) ∧
  HCalls Tryz.prog 78 #[.agg #[.slice a3 L3 C3, .slice a4 L4 C4, .int .i64 n6], .int .i64 id] h4 fun v2 h8 => ∃ r5 : Int, v2 = .int .i64 r5 ∧
  cond (decide (r5 < 0))
  (∃ (a5 : Option Addr) (L5 C5 : Nat), ∃ (a6 : Option Addr) (L6 C6 : Nat), ∃ n7 : Int, cell h8 ⟨b1, 0, none⟩ = some (.slice a5 L5 C5) ∧
  cell h8 ((⟨b1, 0, none⟩ : Addr).add 1) = some (.slice a6 L6 C6) ∧
  cell h8 ((⟨b1, 0, none⟩ : Addr).add 2) = some (.int .i64 n7) ∧
  Wr h8 ⟨b3, 0, none⟩ (.slice a5 L5 C5) fun h9 =>
  Wr h9 ((⟨b3, 0, none⟩ : Addr).add 1) (.slice a6 L6 C6) fun h10 =>
  Wr h10 ((⟨b3, 0, none⟩ : Addr).add 2) (.int .i64 n7) fun h11 =>
  ∃ (r6 : Option Addr) (rL3 rC3 : Nat), ∃ (r7 : Option Addr) (rL4 rC4 : Nat), ∃ r8 : Int, cell h11 ⟨b3, 0, none⟩ = some (.slice r6 rL3 rC3) ∧
  cell h11 ((⟨b3, 0, none⟩ : Addr).add 1) = some (.slice r7 rL4 rC4) ∧
  cell h11 ((⟨b3, 0, none⟩ : Addr).add 2) = some (.int .i64 r8) ∧
  K (.tuple #[.agg #[.slice r6 rL3 rC3, .slice r7 rL4 rC4, .int .i64 r8], .int .i64 12]) h11)
  (∃ (a7 : Option Addr) (L7 C7 : Nat), ∃ (a8 : Option Addr) (L8 C8 : Nat), ∃ n8 : Int, cell h8 ⟨b1, 0, none⟩ = some (.slice a7 L7 C7) ∧
  cell h8 ((⟨b1, 0, none⟩ : Addr).add 1) = some (.slice a8 L8 C8) ∧
  cell h8 ((⟨b1, 0, none⟩ : Addr).add 2) = some (.int .i64 n8) ∧
  ∃ n9 : Int, cell h8 ⟨b2, 0, none⟩ = some (.int .i64 n9) ∧
  HCalls Tryz.prog 77 #[.agg #[.slice a7 L7 C7, .slice a8 L8 C8, .int .i64 n8], .int .i64 n9, .int .i64 id] h8 fun v3 h12 => ∃ r9 : Bool, v3 = .bool r9 ∧
  cond r9
  (∃ (a9 : Option Addr) (L9 C9 : Nat), ∃ (a10 : Option Addr) (L10 C10 : Nat), ∃ n10 : Int, cell h12 ⟨b1, 0, none⟩ = some (.slice a9 L9 C9) ∧
  cell h12 ((⟨b1, 0, none⟩ : Addr).add 1) = some (.slice a10 L10 C10) ∧
  cell h12 ((⟨b1, 0, none⟩ : Addr).add 2) = some (.int .i64 n10) ∧
  Wr h12 ⟨b3, 0, none⟩ (.slice a9 L9 C9) fun h13 =>
  Wr h13 ((⟨b3, 0, none⟩ : Addr).add 1) (.slice a10 L10 C10) fun h14 =>
  Wr h14 ((⟨b3, 0, none⟩ : Addr).add 2) (.int .i64 n10) fun h15 =>
  ∃ (r10 : Option Addr) (rL5 rC5 : Nat), ∃ (r11 : Option Addr) (rL6 rC6 : Nat), ∃ r12 : Int, cell h15 ⟨b3, 0, none⟩ = some (.slice r10 rL5 rC5) ∧
  cell h15 ((⟨b3, 0, none⟩ : Addr).add 1) = some (.slice r11 rL6 rC6) ∧
  cell h15 ((⟨b3, 0, none⟩ : Addr).add 2) = some (.int .i64 r12) ∧
  K (.tuple #[.agg #[.slice r10 rL5 rC5, .slice r11 rL6 rC6, .int .i64 r12], .int .i64 15]) h15)
  (New h12 (.cells #[] 49) fun b4 h16 =>
  ∃ (a11 : Option Addr) (L11 C11 : Nat), cell h16 ((⟨b1, 0, none⟩ : Addr).add 1) = some (.slice a11 L11 C11) ∧
  appendV Tryz.prog 27 27 (.slice (some ⟨b4, 0, none⟩) 0 0) (.slice a11 L11 C11) h16 (slK fun a12 l1 c1 h17 =>
  Wr h17 ((⟨b1, 0, none⟩ : Addr).add 1) (.slice a12 l1 c1) fun h18 =>
  ∃ (a13 : Option Addr) (L12 C12 : Nat), cell h18 ((⟨b1, 0, none⟩ : Addr).add 1) = some (.slice a13 L12 C12) ∧
  ∃ n11 : Int, ∃ n12 : Int, ∃ n13 : Int, ∃ n14 : Int, ∃ s2 : ByteArray, cell h18 ⟨b2, 0, none⟩ = some (.int .i64 n11) ∧
  cell h18 ((⟨b2, 0, none⟩ : Addr).add 1) = some (.int .i64 n12) ∧
  cell h18 ((⟨b2, 0, none⟩ : Addr).add 2) = some (.int .i64 n13) ∧
  cell h18 ((⟨b2, 0, none⟩ : Addr).add 3) = some (.int .i64 n14) ∧
  cell h18 ((⟨b2, 0, none⟩ : Addr).add 4) = some (.string s2) ∧
  (0 ≤ r5 ∧ r5 < (L12 : Int)) ∧
  NN a13 fun a14 =>
  Wr h18 (a14.add (Int.toNat r5 * 5)) (.int .i64 n11) fun h19 =>
  Wr h19 ((a14.add (Int.toNat r5 * 5)).add 1) (.int .i64 n12) fun h20 =>
  Wr h20 ((a14.add (Int.toNat r5 * 5)).add 2) (.int .i64 n13) fun h21 =>
  Wr h21 ((a14.add (Int.toNat r5 * 5)).add 3) (.int .i64 n14) fun h22 =>
  Wr h22 ((a14.add (Int.toNat r5 * 5)).add 4) (.string s2) fun h23 =>
  ∃ (a15 : Option Addr) (L13 C13 : Nat), ∃ (a16 : Option Addr) (L14 C14 : Nat), ∃ n15 : Int, cell h23 ⟨b1, 0, none⟩ = some (.slice a15 L13 C13) ∧
  cell h23 ((⟨b1, 0, none⟩ : Addr).add 1) = some (.slice a16 L14 C14) ∧
  cell h23 ((⟨b1, 0, none⟩ : Addr).add 2) = some (.int .i64 n15) ∧
  Wr h23 ⟨b3, 0, none⟩ (.slice a15 L13 C13) fun h24 =>
  Wr h24 ((⟨b3, 0, none⟩ : Addr).add 1) (.slice a16 L14 C14) fun h25 =>
  Wr h25 ((⟨b3, 0, none⟩ : Addr).add 2) (.int .i64 n15) fun h26 =>
  ∃ (r13 : Option Addr) (rL7 rC7 : Nat), ∃ (r14 : Option Addr) (rL8 rC8 : Nat), ∃ r15 : Int, cell h26 ⟨b3, 0, none⟩ = some (.slice r13 rL7 rC7) ∧
  cell h26 ((⟨b3, 0, none⟩ : Addr).add 1) = some (.slice r14 rL8 rC8) ∧
  cell h26 ((⟨b3, 0, none⟩ : Addr).add 2) = some (.int .i64 r15) ∧
  K (.tuple #[.agg #[.slice r13 rL7 rC7, .slice r14 rL8 rC8, .int .i64 r15], .int .i64 0]) h26))))) := by kernel_rfl
theorem r50_Update_call {t_0 : Option Addr} {t_0L : Nat} {t_0C : Nat} {t_1 : Option Addr} {t_1L : Nat} {t_1C : Nat} {t_2 : Int} {id : Int} {r_0 : Int} {r_1 : Int} {r_2 : Int} {r_3 : Int} {r_4 : ByteArray} {h : Hp} {K : Value → Hp → Prop} (hk : r50_Update_b0 t_0 t_0L t_0C t_1 t_1L t_1C t_2 id r_0 r_1 r_2 r_3 r_4 h K) : HCalls Tryz.prog 60 #[.agg #[.slice t_0 t_0L t_0C, .slice t_1 t_1L t_1C, .int .i64 t_2], .int .i64 id, .agg #[.int .i64 r_0, .int .i64 r_1, .int .i64 r_2, .int .i64 r_3, .string r_4]] h K :=
  calls_of_snd r50_Update_an Tryz.func60 (c := bodyOf Tryz.f60) rfl Tryz.ntmps60 (Nat.le_of_ble_eq_true rfl) (snd_1 F_ok F_mixed) hk

/-! ### r50_Delete -/
def r50_Delete_an : Ann := .node none (.leaf) (.node none (.leaf) (.node none (.leaf) (.node none (.plan (.qu 1 (.qu 2 (.qu 3 (.qu 4 (.qu 6 (.qu 7 (.qu 8 (.qu 9 (.qu 10 (.wo 0 (.wo 5 (.wo 11 (.qu 12 (.wo 13 .fin .no)) .no) .no) .no))))))))))) (.node none (.plan (.qu 1 (.qu 2 (.qu 3 (.qu 4 (.qu 6 (.qu 7 (.qu 8 (.qu 9 (.qu 10 (.wo 0 (.wo 5 (.wo 11 (.qu 12 (.wo 13 .fin .no)) .no) .no) .no))))))))))) (.leaf)))))
def r50_Delete_K0  (K : Value → Hp → Prop) : Exit → Env → Hp → Prop := retK Tryz.prog Tryz.f61.results.toList K
def r50_Delete_b0 (t_0 : Option Addr) (t_0L : Nat) (t_0C : Nat) (t_1 : Option Addr) (t_1L : Nat) (t_1C : Nat) (t_2 : Int) (id : Int) (h : Hp)  (K : Value → Hp → Prop) : Prop :=
  sx_1 Tryz.prog F 40 (cp [] (bodyOf Tryz.f61)) (ap [] r50_Delete_an) [(0, .agg #[.slice t_0 t_0L t_0C, .slice t_1 t_1L t_1C, .int .i64 t_2]), (1, .int .i64 id)] h (r50_Delete_K0  K)
theorem r50_Delete_b0_eq (t_0 : Option Addr) (t_0L : Nat) (t_0C : Nat) (t_1 : Option Addr) (t_1L : Nat) (t_1C : Nat) (t_2 : Int) (id : Int) (h : Hp)  (K : Value → Hp → Prop) : r50_Delete_b0 t_0 t_0L t_0C t_1 t_1L t_1C t_2 id h  K = (
  New h (.cells #[.slice t_0 t_0L t_0C, .slice t_1 t_1L t_1C, .int .i64 t_2] 29) fun b1 h1 =>
  New h1 (.cells #[.slice none 0 0, .slice none 0 0, .int .i64 0] 29) fun b2 h2 =>
  ∃ (a1 : Option Addr) (L1 C1 : Nat), ∃ (a2 : Option Addr) (L2 C2 : Nat), ∃ n1 : Int, cell h2 ⟨b1, 0, none⟩ = some (.slice a1 L1 C1) ∧
  cell h2 ((⟨b1, 0, none⟩ : Addr).add 1) = some (.slice a2 L2 C2) ∧
  cell h2 ((⟨b1, 0, none⟩ : Addr).add 2) = some (.int .i64 n1) ∧
  HCalls Tryz.prog 78 #[.agg #[.slice a1 L1 C1, .slice a2 L2 C2, .int .i64 n1], .int .i64 id] h2 fun v1 h3 => ∃ r1 : Int, v1 = .int .i64 r1 ∧
  cond (decide (r1 < 0))
  (∃ (a3 : Option Addr) (L3 C3 : Nat), ∃ (a4 : Option Addr) (L4 C4 : Nat), ∃ n2 : Int, cell h3 ⟨b1, 0, none⟩ = some (.slice a3 L3 C3) ∧
  cell h3 ((⟨b1, 0, none⟩ : Addr).add 1) = some (.slice a4 L4 C4) ∧
  cell h3 ((⟨b1, 0, none⟩ : Addr).add 2) = some (.int .i64 n2) ∧
  Wr h3 ⟨b2, 0, none⟩ (.slice a3 L3 C3) fun h4 =>
  Wr h4 ((⟨b2, 0, none⟩ : Addr).add 1) (.slice a4 L4 C4) fun h5 =>
  Wr h5 ((⟨b2, 0, none⟩ : Addr).add 2) (.int .i64 n2) fun h6 =>
  ∃ (r2 : Option Addr) (rL1 rC1 : Nat), ∃ (r3 : Option Addr) (rL2 rC2 : Nat), ∃ r4 : Int, cell h6 ⟨b2, 0, none⟩ = some (.slice r2 rL1 rC1) ∧
  cell h6 ((⟨b2, 0, none⟩ : Addr).add 1) = some (.slice r3 rL2 rC2) ∧
  cell h6 ((⟨b2, 0, none⟩ : Addr).add 2) = some (.int .i64 r4) ∧
  K (.tuple #[.agg #[.slice r2 rL1 rC1, .slice r3 rL2 rC2, .int .i64 r4], .int .i64 12]) h6)
  (∃ (a5 : Option Addr) (L5 C5 : Nat), cell h3 ⟨b1, 0, none⟩ = some (.slice a5 L5 C5) ∧
  (0 ≤ (0 : Int) ∧ (0 : Int) ≤ r1 ∧ r1 ≤ (C5 : Int)) ∧
  ∃ (a6 : Option Addr) (L6 C6 : Nat), cell h3 ⟨b1, 0, none⟩ = some (.slice a6 L6 C6) ∧
  InR (r1 + 1) ∧
  (0 ≤ r1 + 1 ∧ r1 + 1 ≤ (L6 : Int) ∧ (L6 : Int) ≤ (C6 : Int)) ∧
  New h3 (.cells #[] 3) fun b3 h7 =>
  ((0 ≤ r1 + 1 ∧ r1 + 1 ≤ (L6 : Int) ∧ (L6 : Int) ≤ (C6 : Int)) ∧
  (.slice (subAddr a6 C6 (Int.toNat (r1 + 1)) 1) (Int.toNat (L6 : Int) - Int.toNat (r1 + 1)) (C6 - Int.toNat (r1 + 1)) : Value) = .slice (subAddr a6 C6 (Int.toNat (r1 + 1)) 1) (Int.toNat (L6 : Int) - Int.toNat (r1 + 1)) (C6 - Int.toNat (r1 + 1))) ∧
  (∃ (a7 : Option Addr) (L7 C7 : Nat), cell h7 ⟨b1, 0, none⟩ = some (.slice a7 L7 C7) ∧
  (.slice a7 L7 C7 : Value) = .slice a6 L6 C6) ∧
  ((0 ≤ (0 : Int) ∧ (0 : Int) ≤ r1 ∧ r1 ≤ (C5 : Int)) ∧
  (.slice (subAddr a5 C5 (Int.toNat (0 : Int)) 1) (Int.toNat r1 - Int.toNat (0 : Int)) (C5 - Int.toNat (0 : Int)) : Value) = .slice (subAddr a5 C5 (Int.toNat (0 : Int)) 1) (Int.toNat r1 - Int.toNat (0 : Int)) (C5 - Int.toNat (0 : Int))) ∧
  (∃ (a8 : Option Addr) (L8 C8 : Nat), cell h7 ⟨b1, 0, none⟩ = some (.slice a8 L8 C8) ∧
  (.slice a8 L8 C8 : Value) = .slice a5 L5 C5) ∧
  appendV Tryz.prog 26 26 (.slice (some ⟨b3, 0, none⟩) 0 0) (.slice (subAddr a5 C5 (Int.toNat (0 : Int)) 1) (Int.toNat r1 - Int.toNat (0 : Int)) (C5 - Int.toNat (0 : Int))) h7 (slK fun a9 l1 c1 h8 =>
  ((0 ≤ r1 + 1 ∧ r1 + 1 ≤ (L6 : Int) ∧ (L6 : Int) ≤ (C6 : Int)) ∧
  (.slice (subAddr a6 C6 (Int.toNat (r1 + 1)) 1) (Int.toNat (L6 : Int) - Int.toNat (r1 + 1)) (C6 - Int.toNat (r1 + 1)) : Value) = .slice (subAddr a6 C6 (Int.toNat (r1 + 1)) 1) (Int.toNat (L6 : Int) - Int.toNat (r1 + 1)) (C6 - Int.toNat (r1 + 1))) ∧
  (∃ (a10 : Option Addr) (L9 C9 : Nat), cell h8 ⟨b1, 0, none⟩ = some (.slice a10 L9 C9) ∧
  (.slice a10 L9 C9 : Value) = .slice a6 L6 C6) ∧
  appendV Tryz.prog 26 26 (.slice a9 l1 c1) (.slice (subAddr a6 C6 (Int.toNat (r1 + 1)) 1) (Int.toNat (L6 : Int) - Int.toNat (r1 + 1)) (C6 - Int.toNat (r1 + 1))) h8 (slK fun a11 l2 c2 h9 =>
  Wr h9 ⟨b1, 0, none⟩ (.slice a11 l2 c2) fun h10 =>
  ∃ (a12 : Option Addr) (L10 C10 : Nat), cell h10 ((⟨b1, 0, none⟩ : Addr).add 1) = some (.slice a12 L10 C10) ∧
  (0 ≤ (0 : Int) ∧ (0 : Int) ≤ r1 ∧ r1 ≤ (C10 : Int)) ∧
  ∃ (a13 : Option Addr) (L11 C11 : Nat), cell h10 ((⟨b1, 0, none⟩ : Addr).add 1) = some (.slice a13 L11 C11) ∧
  InR (r1 + 1) ∧
  (0 ≤ r1 + 1 ∧ r1 + 1 ≤ (L11 : Int) ∧ (L11 : Int) ≤ (C11 : Int)) ∧
  New h10 (.cells #[] 49) fun b4 h11 =>
  ((0 ≤ r1 + 1 ∧ r1 + 1 ≤ (L11 : Int) ∧ (L11 : Int) ≤ (C11 : Int)) ∧
  (.slice (subAddr a13 C11 (Int.toNat (r1 + 1)) 5) (Int.toNat (L11 : Int) - Int.toNat (r1 + 1)) (C11 - Int.toNat (r1 + 1)) : Value) = .slice (subAddr a13 C11 (Int.toNat (r1 + 1)) 5) (Int.toNat (L11 : Int) - Int.toNat (r1 + 1)) (C11 - Int.toNat (r1 + 1))) ∧
  (∃ (a14 : Option Addr) (L12 C12 : Nat), cell h11 ((⟨b1, 0, none⟩ : Addr).add 1) = some (.slice a14 L12 C12) ∧
  (.slice a14 L12 C12 : Value) = .slice a13 L11 C11) ∧
  ((0 ≤ (0 : Int) ∧ (0 : Int) ≤ r1 ∧ r1 ≤ (C10 : Int)) ∧
  (.slice (subAddr a12 C10 (Int.toNat (0 : Int)) 5) (Int.toNat r1 - Int.toNat (0 : Int)) (C10 - Int.toNat (0 : Int)) : Value) = .slice (subAddr a12 C10 (Int.toNat (0 : Int)) 5) (Int.toNat r1 - Int.toNat (0 : Int)) (C10 - Int.toNat (0 : Int))) ∧
  (∃ (a15 : Option Addr) (L13 C13 : Nat), cell h11 ((⟨b1, 0, none⟩ : Addr).add 1) = some (.slice a15 L13 C13) ∧
  (.slice a15 L13 C13 : Value) = .slice a12 L10 C10) ∧
  appendV Tryz.prog 27 27 (.slice (some ⟨b4, 0, none⟩) 0 0) (.slice (subAddr a12 C10 (Int.toNat (0 : Int)) 5) (Int.toNat r1 - Int.toNat (0 : Int)) (C10 - Int.toNat (0 : Int))) h11 (slK fun a16 l3 c3 h12 =>
  ((0 ≤ r1 + 1 ∧ r1 + 1 ≤ (L11 : Int) ∧ (L11 : Int) ≤ (C11 : Int)) ∧
  (.slice (subAddr a13 C11 (Int.toNat (r1 + 1)) 5) (Int.toNat (L11 : Int) - Int.toNat (r1 + 1)) (C11 - Int.toNat (r1 + 1)) : Value) = .slice (subAddr a13 C11 (Int.toNat (r1 + 1)) 5) (Int.toNat (L11 : Int) - Int.toNat (r1 + 1)) (C11 - Int.toNat (r1 + 1))) ∧
  (∃ (a17 : Option Addr) (L14 C14 : Nat), cell h12 ((⟨b1, 0, none⟩ : Addr).add 1) = some (.slice a17 L14 C14) ∧
  (.slice a17 L14 C14 : Value) = .slice a13 L11 C11) ∧
  appendV Tryz.prog 27 27 (.slice a16 l3 c3) (.slice (subAddr a13 C11 (Int.toNat (r1 + 1)) 5) (Int.toNat (L11 : Int) - Int.toNat (r1 + 1)) (C11 - Int.toNat (r1 + 1))) h12 (slK fun a18 l4 c4 h13 =>
  Wr h13 ((⟨b1, 0, none⟩ : Addr).add 1) (.slice a18 l4 c4) fun h14 =>
  ∃ (a19 : Option Addr) (L15 C15 : Nat), ∃ (a20 : Option Addr) (L16 C16 : Nat), ∃ n3 : Int, cell h14 ⟨b1, 0, none⟩ = some (.slice a19 L15 C15) ∧
  cell h14 ((⟨b1, 0, none⟩ : Addr).add 1) = some (.slice a20 L16 C16) ∧
  cell h14 ((⟨b1, 0, none⟩ : Addr).add 2) = some (.int .i64 n3) ∧
  Wr h14 ⟨b2, 0, none⟩ (.slice a19 L15 C15) fun h15 =>
  Wr h15 ((⟨b2, 0, none⟩ : Addr).add 1) (.slice a20 L16 C16) fun h16 =>
  Wr h16 ((⟨b2, 0, none⟩ : Addr).add 2) (.int .i64 n3) fun h17 =>
  ∃ (r5 : Option Addr) (rL3 rC3 : Nat), ∃ (r6 : Option Addr) (rL4 rC4 : Nat), ∃ r7 : Int, cell h17 ⟨b2, 0, none⟩ = some (.slice r5 rL3 rC3) ∧
  cell h17 ((⟨b2, 0, none⟩ : Addr).add 1) = some (.slice r6 rL4 rC4) ∧
  cell h17 ((⟨b2, 0, none⟩ : Addr).add 2) = some (.int .i64 r7) ∧
  K (.tuple #[.agg #[.slice r5 rL3 rC3, .slice r6 rL4 rC4, .int .i64 r7], .int .i64 0]) h17)))))) := by kernel_rfl
theorem r50_Delete_call {t_0 : Option Addr} {t_0L : Nat} {t_0C : Nat} {t_1 : Option Addr} {t_1L : Nat} {t_1C : Nat} {t_2 : Int} {id : Int} {h : Hp} {K : Value → Hp → Prop} (hk : r50_Delete_b0 t_0 t_0L t_0C t_1 t_1L t_1C t_2 id h K) : HCalls Tryz.prog 61 #[.agg #[.slice t_0 t_0L t_0C, .slice t_1 t_1L t_1C, .int .i64 t_2], .int .i64 id] h K :=
  calls_of_snd r50_Delete_an Tryz.func61 (c := bodyOf Tryz.f61) rfl Tryz.ntmps61 (Nat.le_of_ble_eq_true rfl) (snd_1 F_ok F_mixed) hk

/-! ### r50_Batch -/
def r50_Batch_an : Ann := .node none (.leaf) (.node (some [1, 2, 3, 6]) (.node none (.leaf) (.loop [1, 2, 3, 6] [(9, .int .i64)] (.node none (.leaf) (.node (some [1, 2, 3, 6, 9]) (.leaf) (.leaf))))) (.node (some [1, 2, 3, 6]) (.node none (.leaf) (.loop [1, 2, 3, 6] [(10, .int .i64)] (.node none (.leaf) (.node (some [1, 2, 3, 6, 10]) (.node none (.leaf) (.loop [1, 2, 3, 6, 10] [(11, .int .i64)] (.node none (.leaf) (.node (some [1, 2, 3, 6, 10, 11]) (.leaf) (.leaf))))) (.leaf))))) (.node none (.leaf) (.node (some [2, 3, 6, 12]) (.node none (.leaf) (.loop [1, 2, 3, 6, 12] [(13, .int .i64)] (.node none (.leaf) (.node (some [1, 2, 3, 6, 12, 13]) (.node (some [1, 2, 3, 6, 12, 13, 14, 15]) (.plan (.qu 0 (.qu 1 (.qu 2 (.qu 3 (.qu 4 (.wo 5 (.qu 6 (.qu 7 (.qu 8 (.wo 9 (.wo 10 (.wo 11 .fin .no) .no) .no)))) (.wo 9 (.wo 5 (.qu 6 (.qu 7 (.qu 8 (.wo 10 (.wo 11 .fin .no) .no)))) .no) .no)))))))) (.leaf)) (.leaf))))) (.node (some [2, 3, 6, 12]) (.node none (.leaf) (.loop [2, 3, 6, 12] [(16, .int .i64)] (.node none (.leaf) (.node (some [2, 3, 6, 12, 16]) (.node none (.node none (.tail 6) (.leaf)) (.node none (.leaf) (.loop [2, 3, 6, 12, 16] [(17, .int .i64)] (.node none (.leaf) (.node (some [2, 3, 6, 12, 16, 17]) (.leaf) (.leaf)))))) (.leaf))))) (.node none (.leaf) (.node none (.leaf) (.node (some [6, 12, 18]) (.node none (.leaf) (.loop [2, 6, 12] [(18, .slice), (19, .int .i64)] (.node none (.leaf) (.node (some [2, 6, 12, 18, 19]) (.node (some [2, 6, 12, 18, 19, 20, 21]) (.plan (.qu 0 (.qu 1 (.qu 2 (.qu 3 (.qu 4 (.wo 5 (.qu 6 (.qu 7 (.qu 8 (.qu 9 (.wo 10 (.wo 11 (.wo 12 (.wo 13 .fin .no) .no) .no) .no))))) (.wo 10 (.wo 5 (.qu 6 (.qu 7 (.qu 8 (.qu 9 (.wo 11 (.wo 12 (.wo 13 .fin .no) .no) .no))))) .no) .no)))))))) (.leaf)) (.leaf))))) (.leaf)))))))))
def r50_Batch_K0  (K : Value → Hp → Prop) : Exit → Env → Hp → Prop := retK Tryz.prog Tryz.f62.results.toList K
def r50_Batch_K1  (K : Value → Hp → Prop) : Exit → Env → Hp → Prop := thenE (fun env h => sx_6 Tryz.prog F 140 (cp [1, 1] (bodyOf Tryz.f62)) (ap [1, 1] r50_Batch_an) (rs [1, 2, 3, 6] env) h (r50_Batch_K0  K)) (r50_Batch_K0  K)
def r50_Batch_K2  (K : Value → Hp → Prop) : Exit → Env → Hp → Prop := blockE 0 (r50_Batch_K1  K)
def r50_Batch_K3 (nx0 : Int × Unit → Hp → Prop) (K : Value → Hp → Prop) : Exit → Env → Hp → Prop := thenE (fun env h => getV [(9, .int .i64)] env fun s => nx0 s h) (r50_Batch_K2  K)
def r50_Batch_K4  (K : Value → Hp → Prop) : Exit → Env → Hp → Prop := thenE (fun env h => sx_5 Tryz.prog F 140 (cp [1, 1, 1] (bodyOf Tryz.f62)) (ap [1, 1, 1] r50_Batch_an) (rs [1, 2, 3, 6] env) h (r50_Batch_K0  K)) (r50_Batch_K0  K)
def r50_Batch_K5  (K : Value → Hp → Prop) : Exit → Env → Hp → Prop := blockE 2 (r50_Batch_K4  K)
def r50_Batch_K6 (nx0 : Int × Unit → Hp → Prop) (K : Value → Hp → Prop) : Exit → Env → Hp → Prop := thenE (fun env h => getV [(10, .int .i64)] env fun s => nx0 s h) (r50_Batch_K5  K)
def r50_Batch_K7 (nx0 : Int × Unit → Hp → Prop) (K : Value → Hp → Prop) : Exit → Env → Hp → Prop := thenE (fun env h => sx_4 Tryz.prog F 140 (cp [1, 1, 0, 1, 2, 2, 1, 1] (bodyOf Tryz.f62)) (ap [1, 1, 0, 1, 2, 1, 1] r50_Batch_an) (rs [1, 2, 3, 6, 10] env) h (r50_Batch_K6 nx0 K)) (r50_Batch_K6 nx0 K)
def r50_Batch_K8 (nx0 : Int × Unit → Hp → Prop) (K : Value → Hp → Prop) : Exit → Env → Hp → Prop := blockE 3 (r50_Batch_K7 nx0 K)
def r50_Batch_K9 (nx0 : Int × Unit → Hp → Prop) (K : Value → Hp → Prop) : Exit → Env → Hp → Prop := blockE 4 (r50_Batch_K8 nx0 K)
def r50_Batch_K10 (nx0 : Int × Unit → Hp → Prop) (nx1 : Int × Unit → Hp → Prop) (K : Value → Hp → Prop) : Exit → Env → Hp → Prop := thenE (fun env h => getV [(11, .int .i64)] env fun s => nx1 s h) (r50_Batch_K9 nx0 K)
def r50_Batch_K11  (K : Value → Hp → Prop) : Exit → Env → Hp → Prop := thenE (fun env h => sx_4 Tryz.prog F 140 (cp [1, 1, 1, 1, 1] (bodyOf Tryz.f62)) (ap [1, 1, 1, 1, 1] r50_Batch_an) (rs [2, 3, 6, 12] env) h (r50_Batch_K0  K)) (r50_Batch_K0  K)
def r50_Batch_K12  (K : Value → Hp → Prop) : Exit → Env → Hp → Prop := blockE 6 (r50_Batch_K11  K)
def r50_Batch_K13 (nx0 : Int × Unit → Hp → Prop) (K : Value → Hp → Prop) : Exit → Env → Hp → Prop := thenE (fun env h => getV [(13, .int .i64)] env fun s => nx0 s h) (r50_Batch_K12  K)
def r50_Batch_K14 (nx0 : Int × Unit → Hp → Prop) (K : Value → Hp → Prop) : Exit → Env → Hp → Prop := thenE (fun env h => sx_3 Tryz.prog F 140 (cp [1, 1, 1, 1, 0, 1, 2, 2, 1, 1] (bodyOf Tryz.f62)) (ap [1, 1, 1, 1, 0, 1, 2, 1, 1] r50_Batch_an) (rs [1, 2, 3, 6, 12, 13] env) h (r50_Batch_K13 nx0 K)) (r50_Batch_K13 nx0 K)
def r50_Batch_K15 (nx0 : Int × Unit → Hp → Prop) (K : Value → Hp → Prop) : Exit → Env → Hp → Prop := blockE 7 (r50_Batch_K14 nx0 K)
def r50_Batch_K16  (K : Value → Hp → Prop) : Exit → Env → Hp → Prop := thenE (fun env h => sx_3 Tryz.prog F 140 (cp [1, 1, 1, 1, 1, 1] (bodyOf Tryz.f62)) (ap [1, 1, 1, 1, 1, 1] r50_Batch_an) (rs [2, 3, 6, 12] env) h (r50_Batch_K0  K)) (r50_Batch_K0  K)
def r50_Batch_K17  (K : Value → Hp → Prop) : Exit → Env → Hp → Prop := blockE 8 (r50_Batch_K16  K)
def r50_Batch_K18 (nx0 : Int × Unit → Hp → Prop) (K : Value → Hp → Prop) : Exit → Env → Hp → Prop := thenE (fun env h => getV [(16, .int .i64)] env fun s => nx0 s h) (r50_Batch_K17  K)
def r50_Batch_K19 (nx0 : Int × Unit → Hp → Prop) (K : Value → Hp → Prop) : Exit → Env → Hp → Prop := thenE (fun env h => sx_2 Tryz.prog F 140 (cp [1, 1, 1, 1, 1, 0, 1, 2, 2, 1, 1] (bodyOf Tryz.f62)) (ap [1, 1, 1, 1, 1, 0, 1, 2, 1, 1] r50_Batch_an) (rs [2, 3, 6, 12, 16] env) h (r50_Batch_K18 nx0 K)) (r50_Batch_K18 nx0 K)
def r50_Batch_K20 (nx0 : Int × Unit → Hp → Prop) (K : Value → Hp → Prop) : Exit → Env → Hp → Prop := blockE 9 (r50_Batch_K19 nx0 K)
def r50_Batch_K21 (nx0 : Int × Unit → Hp → Prop) (K : Value → Hp → Prop) : Exit → Env → Hp → Prop := blockE 10 (r50_Batch_K20 nx0 K)
def r50_Batch_K22 (nx0 : Int × Unit → Hp → Prop) (nx1 : Int × Unit → Hp → Prop) (K : Value → Hp → Prop) : Exit → Env → Hp → Prop := thenE (fun env h => getV [(17, .int .i64)] env fun s => nx1 s h) (r50_Batch_K21 nx0 K)
def r50_Batch_K23  (K : Value → Hp → Prop) : Exit → Env → Hp → Prop := thenE (fun env h => sx_2 Tryz.prog F 140 (cp [1, 1, 1, 1, 1, 1, 1, 1, 1] (bodyOf Tryz.f62)) (ap [1, 1, 1, 1, 1, 1, 1, 1, 1] r50_Batch_an) (rs [6, 12, 18] env) h (r50_Batch_K0  K)) (r50_Batch_K0  K)
def r50_Batch_K24  (K : Value → Hp → Prop) : Exit → Env → Hp → Prop := blockE 12 (r50_Batch_K23  K)
def r50_Batch_K25 (nx0 : (Option Addr × Nat × Nat) × Int × Unit → Hp → Prop) (K : Value → Hp → Prop) : Exit → Env → Hp → Prop := thenE (fun env h => getV [(18, .slice), (19, .int .i64)] env fun s => nx0 s h) (r50_Batch_K24  K)
def r50_Batch_K26 (nx0 : (Option Addr × Nat × Nat) × Int × Unit → Hp → Prop) (K : Value → Hp → Prop) : Exit → Env → Hp → Prop := thenE (fun env h => sx_1 Tryz.prog F 140 (cp [1, 1, 1, 1, 1, 1, 1, 1, 0, 1, 2, 2, 1, 1] (bodyOf Tryz.f62)) (ap [1, 1, 1, 1, 1, 1, 1, 1, 0, 1, 2, 1, 1] r50_Batch_an) (rs [2, 6, 12, 18, 19] env) h (r50_Batch_K25 nx0 K)) (r50_Batch_K25 nx0 K)
def r50_Batch_K27 (nx0 : (Option Addr × Nat × Nat) × Int × Unit → Hp → Prop) (K : Value → Hp → Prop) : Exit → Env → Hp → Prop := blockE 13 (r50_Batch_K26 nx0 K)
def r50_Batch_b0 (t_0 : Option Addr) (t_0L : Nat) (t_0C : Nat) (t_1 : Option Addr) (t_1L : Nat) (t_1C : Nat) (t_2 : Int) (deletes : Option Addr) (deletesL : Nat) (deletesC : Nat) (inserts : Option Addr) (insertsL : Nat) (insertsC : Nat) (h : Hp)  (K : Value → Hp → Prop) : Prop :=
  sx_7 Tryz.prog F 140 (cp [] (bodyOf Tryz.f62)) (ap [] r50_Batch_an) [(0, .agg #[.slice t_0 t_0L t_0C, .slice t_1 t_1L t_1C, .int .i64 t_2]), (1, .slice deletes deletesL deletesC), (2, .slice inserts insertsL insertsC)] h (r50_Batch_K0  K)
def r50_Batch_b1 (i : Int) (deletes : Option Addr) (deletesL : Nat) (deletesC : Nat) (inserts : Option Addr) (insertsL : Nat) (insertsC : Nat) (t : Option Addr) (t6 : Option Addr) (h : Hp) (nx0 : Int × Unit → Hp → Prop) (K : Value → Hp → Prop) : Prop :=
  sx_6 Tryz.prog F 140 (cp [1, 0, 1, 2, 2] (bodyOf Tryz.f62)) (ap [1, 0, 1, 2] r50_Batch_an) [(9, .int .i64 i), (1, .slice deletes deletesL deletesC), (2, .slice inserts insertsL insertsC), (3, .pointer t), (6, .pointer t6)] h (r50_Batch_K3 nx0 K)
def r50_Batch_b2 (deletes : Option Addr) (deletesL : Nat) (deletesC : Nat) (inserts : Option Addr) (insertsL : Nat) (insertsC : Nat) (t : Option Addr) (t6 : Option Addr) (i : Int) (h : Hp) (nx0 : Int × Unit → Hp → Prop) (K : Value → Hp → Prop) : Prop :=
  sx_5 Tryz.prog F 140 (cp [1, 0, 1, 2, 2, 1, 1] (bodyOf Tryz.f62)) (ap [1, 0, 1, 2, 1, 1] r50_Batch_an) [(1, .slice deletes deletesL deletesC), (2, .slice inserts insertsL insertsC), (3, .pointer t), (6, .pointer t6), (9, .int .i64 i)] h (r50_Batch_K3 nx0 K)
def r50_Batch_b3 (deletes : Option Addr) (deletesL : Nat) (deletesC : Nat) (inserts : Option Addr) (insertsL : Nat) (insertsC : Nat) (t : Option Addr) (t6 : Option Addr) (h : Hp)  (K : Value → Hp → Prop) : Prop :=
  sx_6 Tryz.prog F 140 (cp [1, 1] (bodyOf Tryz.f62)) (ap [1, 1] r50_Batch_an) [(1, .slice deletes deletesL deletesC), (2, .slice inserts insertsL insertsC), (3, .pointer t), (6, .pointer t6)] h (r50_Batch_K0  K)
def r50_Batch_b4 (i : Int) (deletes : Option Addr) (deletesL : Nat) (deletesC : Nat) (inserts : Option Addr) (insertsL : Nat) (insertsC : Nat) (t : Option Addr) (t6 : Option Addr) (h : Hp) (nx0 : Int × Unit → Hp → Prop) (K : Value → Hp → Prop) : Prop :=
  sx_5 Tryz.prog F 140 (cp [1, 1, 0, 1, 2, 2] (bodyOf Tryz.f62)) (ap [1, 1, 0, 1, 2] r50_Batch_an) [(10, .int .i64 i), (1, .slice deletes deletesL deletesC), (2, .slice inserts insertsL insertsC), (3, .pointer t), (6, .pointer t6)] h (r50_Batch_K6 nx0 K)
def r50_Batch_b5 (k : Int) (deletes : Option Addr) (deletesL : Nat) (deletesC : Nat) (inserts : Option Addr) (insertsL : Nat) (insertsC : Nat) (t : Option Addr) (t6 : Option Addr) (i : Int) (h : Hp) (nx0 : Int × Unit → Hp → Prop) (nx1 : Int × Unit → Hp → Prop) (K : Value → Hp → Prop) : Prop :=
  sx_4 Tryz.prog F 140 (cp [1, 1, 0, 1, 2, 2, 1, 0, 2, 1, 2, 2] (bodyOf Tryz.f62)) (ap [1, 1, 0, 1, 2, 1, 0, 1, 2] r50_Batch_an) [(11, .int .i64 k), (1, .slice deletes deletesL deletesC), (2, .slice inserts insertsL insertsC), (3, .pointer t), (6, .pointer t6), (10, .int .i64 i)] h (r50_Batch_K10 nx0 nx1 K)
def r50_Batch_b6 (deletes : Option Addr) (deletesL : Nat) (deletesC : Nat) (inserts : Option Addr) (insertsL : Nat) (insertsC : Nat) (t : Option Addr) (t6 : Option Addr) (h : Hp)  (K : Value → Hp → Prop) : Prop :=
  sx_5 Tryz.prog F 140 (cp [1, 1, 1] (bodyOf Tryz.f62)) (ap [1, 1, 1] r50_Batch_an) [(1, .slice deletes deletesL deletesC), (2, .slice inserts insertsL insertsC), (3, .pointer t), (6, .pointer t6)] h (r50_Batch_K0  K)
def r50_Batch_b7 (deletes : Option Addr) (deletesL : Nat) (deletesC : Nat) (inserts : Option Addr) (insertsL : Nat) (insertsC : Nat) (t : Option Addr) (t6 : Option Addr) (i : Int) (k : Int) (h : Hp) (nx0 : Int × Unit → Hp → Prop) (nx1 : Int × Unit → Hp → Prop) (K : Value → Hp → Prop) : Prop :=
  sx_3 Tryz.prog F 140 (cp [1, 1, 0, 1, 2, 2, 1, 0, 2, 1, 2, 2, 1, 1] (bodyOf Tryz.f62)) (ap [1, 1, 0, 1, 2, 1, 0, 1, 2, 1, 1] r50_Batch_an) [(1, .slice deletes deletesL deletesC), (2, .slice inserts insertsL insertsC), (3, .pointer t), (6, .pointer t6), (10, .int .i64 i), (11, .int .i64 k)] h (r50_Batch_K10 nx0 nx1 K)
def r50_Batch_b8 (deletes : Option Addr) (deletesL : Nat) (deletesC : Nat) (inserts : Option Addr) (insertsL : Nat) (insertsC : Nat) (t : Option Addr) (t6 : Option Addr) (i : Int) (h : Hp) (nx0 : Int × Unit → Hp → Prop) (K : Value → Hp → Prop) : Prop :=
  sx_4 Tryz.prog F 140 (cp [1, 1, 0, 1, 2, 2, 1, 1] (bodyOf Tryz.f62)) (ap [1, 1, 0, 1, 2, 1, 1] r50_Batch_an) [(1, .slice deletes deletesL deletesC), (2, .slice inserts insertsL insertsC), (3, .pointer t), (6, .pointer t6), (10, .int .i64 i)] h (r50_Batch_K6 nx0 K)
def r50_Batch_b9 (i : Int) (deletes : Option Addr) (deletesL : Nat) (deletesC : Nat) (inserts : Option Addr) (insertsL : Nat) (insertsC : Nat) (t : Option Addr) (t6 : Option Addr) (u : Option Addr) (h : Hp) (nx0 : Int × Unit → Hp → Prop) (K : Value → Hp → Prop) : Prop :=
  sx_4 Tryz.prog F 140 (cp [1, 1, 1, 1, 0, 1, 2, 2] (bodyOf Tryz.f62)) (ap [1, 1, 1, 1, 0, 1, 2] r50_Batch_an) [(13, .int .i64 i), (1, .slice deletes deletesL deletesC), (2, .slice inserts insertsL insertsC), (3, .pointer t), (6, .pointer t6), (12, .pointer u)] h (r50_Batch_K13 nx0 K)
def r50_Batch_b10 (deletes : Option Addr) (deletesL : Nat) (deletesC : Nat) (inserts : Option Addr) (insertsL : Nat) (insertsC : Nat) (t : Option Addr) (t6 : Option Addr) (u : Option Addr) (i : Int) (next : Option Addr) (e : Int) (h : Hp) (nx0 : Int × Unit → Hp → Prop) (K : Value → Hp → Prop) : Prop :=
  sx_3 Tryz.prog F 140 (cp [1, 1, 1, 1, 0, 1, 2, 2, 1, 0, 2, 1] (bodyOf Tryz.f62)) (ap [1, 1, 1, 1, 0, 1, 2, 1, 0, 1] r50_Batch_an) [(1, .slice deletes deletesL deletesC), (2, .slice inserts insertsL insertsC), (3, .pointer t), (6, .pointer t6), (12, .pointer u), (13, .int .i64 i), (14, .pointer next), (15, .int .i64 e)] h (r50_Batch_K15 nx0 K)
def r50_Batch_b11 (inserts : Option Addr) (insertsL : Nat) (insertsC : Nat) (t : Option Addr) (t6 : Option Addr) (u : Option Addr) (h : Hp)  (K : Value → Hp → Prop) : Prop :=
  sx_4 Tryz.prog F 140 (cp [1, 1, 1, 1, 1] (bodyOf Tryz.f62)) (ap [1, 1, 1, 1, 1] r50_Batch_an) [(2, .slice inserts insertsL insertsC), (3, .pointer t), (6, .pointer t6), (12, .pointer u)] h (r50_Batch_K0  K)
def r50_Batch_b12 (deletes : Option Addr) (deletesL : Nat) (deletesC : Nat) (inserts : Option Addr) (insertsL : Nat) (insertsC : Nat) (t : Option Addr) (t6 : Option Addr) (u : Option Addr) (i : Int) (h : Hp) (nx0 : Int × Unit → Hp → Prop) (K : Value → Hp → Prop) : Prop :=
  sx_3 Tryz.prog F 140 (cp [1, 1, 1, 1, 0, 1, 2, 2, 1, 1] (bodyOf Tryz.f62)) (ap [1, 1, 1, 1, 0, 1, 2, 1, 1] r50_Batch_an) [(1, .slice deletes deletesL deletesC), (2, .slice inserts insertsL insertsC), (3, .pointer t), (6, .pointer t6), (12, .pointer u), (13, .int .i64 i)] h (r50_Batch_K13 nx0 K)
def r50_Batch_b13 (i : Int) (inserts : Option Addr) (insertsL : Nat) (insertsC : Nat) (t : Option Addr) (t6 : Option Addr) (u : Option Addr) (h : Hp) (nx0 : Int × Unit → Hp → Prop) (K : Value → Hp → Prop) : Prop :=
  sx_3 Tryz.prog F 140 (cp [1, 1, 1, 1, 1, 0, 1, 2, 2] (bodyOf Tryz.f62)) (ap [1, 1, 1, 1, 1, 0, 1, 2] r50_Batch_an) [(16, .int .i64 i), (2, .slice inserts insertsL insertsC), (3, .pointer t), (6, .pointer t6), (12, .pointer u)] h (r50_Batch_K18 nx0 K)
def r50_Batch_b14 (k : Int) (inserts : Option Addr) (insertsL : Nat) (insertsC : Nat) (t : Option Addr) (t6 : Option Addr) (u : Option Addr) (i : Int) (h : Hp) (nx0 : Int × Unit → Hp → Prop) (nx1 : Int × Unit → Hp → Prop) (K : Value → Hp → Prop) : Prop :=
  sx_2 Tryz.prog F 140 (cp [1, 1, 1, 1, 1, 0, 1, 2, 2, 1, 0, 2, 1, 1, 2, 2] (bodyOf Tryz.f62)) (ap [1, 1, 1, 1, 1, 0, 1, 2, 1, 0, 1, 1, 2] r50_Batch_an) [(17, .int .i64 k), (2, .slice inserts insertsL insertsC), (3, .pointer t), (6, .pointer t6), (12, .pointer u), (16, .int .i64 i)] h (r50_Batch_K22 nx0 nx1 K)
def r50_Batch_b15 (inserts : Option Addr) (insertsL : Nat) (insertsC : Nat) (t : Option Addr) (t6 : Option Addr) (u : Option Addr) (h : Hp)  (K : Value → Hp → Prop) : Prop :=
  sx_3 Tryz.prog F 140 (cp [1, 1, 1, 1, 1, 1] (bodyOf Tryz.f62)) (ap [1, 1, 1, 1, 1, 1] r50_Batch_an) [(2, .slice inserts insertsL insertsC), (3, .pointer t), (6, .pointer t6), (12, .pointer u)] h (r50_Batch_K0  K)
def r50_Batch_b16 (inserts : Option Addr) (insertsL : Nat) (insertsC : Nat) (t : Option Addr) (t6 : Option Addr) (u : Option Addr) (i : Int) (k : Int) (h : Hp) (nx0 : Int × Unit → Hp → Prop) (nx1 : Int × Unit → Hp → Prop) (K : Value → Hp → Prop) : Prop :=
  sx_1 Tryz.prog F 140 (cp [1, 1, 1, 1, 1, 0, 1, 2, 2, 1, 0, 2, 1, 1, 2, 2, 1, 1] (bodyOf Tryz.f62)) (ap [1, 1, 1, 1, 1, 0, 1, 2, 1, 0, 1, 1, 2, 1, 1] r50_Batch_an) [(2, .slice inserts insertsL insertsC), (3, .pointer t), (6, .pointer t6), (12, .pointer u), (16, .int .i64 i), (17, .int .i64 k)] h (r50_Batch_K22 nx0 nx1 K)
def r50_Batch_b17 (inserts : Option Addr) (insertsL : Nat) (insertsC : Nat) (t : Option Addr) (t6 : Option Addr) (u : Option Addr) (i : Int) (h : Hp) (nx0 : Int × Unit → Hp → Prop) (K : Value → Hp → Prop) : Prop :=
  sx_2 Tryz.prog F 140 (cp [1, 1, 1, 1, 1, 0, 1, 2, 2, 1, 1] (bodyOf Tryz.f62)) (ap [1, 1, 1, 1, 1, 0, 1, 2, 1, 1] r50_Batch_an) [(2, .slice inserts insertsL insertsC), (3, .pointer t), (6, .pointer t6), (12, .pointer u), (16, .int .i64 i)] h (r50_Batch_K18 nx0 K)
def r50_Batch_b18 (out : Option Addr) (outL : Nat) (outC : Nat) (i : Int) (inserts : Option Addr) (insertsL : Nat) (insertsC : Nat) (t6 : Option Addr) (u : Option Addr) (h : Hp) (nx0 : (Option Addr × Nat × Nat) × Int × Unit → Hp → Prop) (K : Value → Hp → Prop) : Prop :=
  sx_2 Tryz.prog F 140 (cp [1, 1, 1, 1, 1, 1, 1, 1, 0, 1, 2, 2] (bodyOf Tryz.f62)) (ap [1, 1, 1, 1, 1, 1, 1, 1, 0, 1, 2] r50_Batch_an) [(18, .slice out outL outC), (19, .int .i64 i), (2, .slice inserts insertsL insertsC), (6, .pointer t6), (12, .pointer u)] h (r50_Batch_K25 nx0 K)
def r50_Batch_b19 (inserts : Option Addr) (insertsL : Nat) (insertsC : Nat) (t6 : Option Addr) (u : Option Addr) (out : Option Addr) (outL : Nat) (outC : Nat) (i : Int) (next : Option Addr) (id : Int) (h : Hp) (nx0 : (Option Addr × Nat × Nat) × Int × Unit → Hp → Prop) (K : Value → Hp → Prop) : Prop :=
  sx_1 Tryz.prog F 140 (cp [1, 1, 1, 1, 1, 1, 1, 1, 0, 1, 2, 2, 1, 0, 2, 1] (bodyOf Tryz.f62)) (ap [1, 1, 1, 1, 1, 1, 1, 1, 0, 1, 2, 1, 0, 1] r50_Batch_an) [(2, .slice inserts insertsL insertsC), (6, .pointer t6), (12, .pointer u), (18, .slice out outL outC), (19, .int .i64 i), (20, .pointer next), (21, .int .i64 id)] h (r50_Batch_K27 nx0 K)
def r50_Batch_b20 (t6 : Option Addr) (u : Option Addr) (out : Option Addr) (outL : Nat) (outC : Nat) (h : Hp)  (K : Value → Hp → Prop) : Prop :=
  sx_2 Tryz.prog F 140 (cp [1, 1, 1, 1, 1, 1, 1, 1, 1] (bodyOf Tryz.f62)) (ap [1, 1, 1, 1, 1, 1, 1, 1, 1] r50_Batch_an) [(6, .pointer t6), (12, .pointer u), (18, .slice out outL outC)] h (r50_Batch_K0  K)
def r50_Batch_b21 (inserts : Option Addr) (insertsL : Nat) (insertsC : Nat) (t6 : Option Addr) (u : Option Addr) (out : Option Addr) (outL : Nat) (outC : Nat) (i : Int) (h : Hp) (nx0 : (Option Addr × Nat × Nat) × Int × Unit → Hp → Prop) (K : Value → Hp → Prop) : Prop :=
  sx_1 Tryz.prog F 140 (cp [1, 1, 1, 1, 1, 1, 1, 1, 0, 1, 2, 2, 1, 1] (bodyOf Tryz.f62)) (ap [1, 1, 1, 1, 1, 1, 1, 1, 0, 1, 2, 1, 1] r50_Batch_an) [(2, .slice inserts insertsL insertsC), (6, .pointer t6), (12, .pointer u), (18, .slice out outL outC), (19, .int .i64 i)] h (r50_Batch_K25 nx0 K)
theorem r50_Batch_b0_eq (t_0 : Option Addr) (t_0L : Nat) (t_0C : Nat) (t_1 : Option Addr) (t_1L : Nat) (t_1C : Nat) (t_2 : Int) (deletes : Option Addr) (deletesL : Nat) (deletesC : Nat) (inserts : Option Addr) (insertsL : Nat) (insertsC : Nat) (h : Hp)  (K : Value → Hp → Prop) : r50_Batch_b0 t_0 t_0L t_0C t_1 t_1L t_1C t_2 deletes deletesL deletesC inserts insertsL insertsC h  K = (
  New h (.cells #[.slice t_0 t_0L t_0C, .slice t_1 t_1L t_1C, .int .i64 t_2] 29) fun b1 h1 =>
  New h1 (.cells #[.slice none 0 0, .slice none 0 0, .int .i64 0] 29) fun b2 h2 =>
  LoopVC ((0, ()) : Int × Unit) h2 (fun (nx0 : Int × Unit → Hp → Prop) (s1 : Int × Unit) h3 => r50_Batch_b1 s1.1 deletes deletesL deletesC inserts insertsL insertsC (some ⟨b1, 0, none⟩) (some ⟨b2, 0, none⟩) h3 nx0 K)) := by kernel_rfl
theorem r50_Batch_b1_eq (i : Int) (deletes : Option Addr) (deletesL : Nat) (deletesC : Nat) (inserts : Option Addr) (insertsL : Nat) (insertsC : Nat) (t : Option Addr) (t6 : Option Addr) (h : Hp) (nx0 : Int × Unit → Hp → Prop) (K : Value → Hp → Prop) : r50_Batch_b1 i deletes deletesL deletesC inserts insertsL insertsC t t6 h nx0 K = (
  cond (decide (i < (insertsL : Int)))
  ((0 ≤ i ∧ i < (insertsL : Int)) ∧
  NN inserts fun a1 =>
  ∃ n1 : Int, ∃ n2 : Int, ∃ n3 : Int, ∃ n4 : Int, ∃ s2 : ByteArray, cell h (a1.add (Int.toNat i * 5)) = some (.int .i64 n1) ∧
  cell h ((a1.add (Int.toNat i * 5)).add 1) = some (.int .i64 n2) ∧
  cell h ((a1.add (Int.toNat i * 5)).add 2) = some (.int .i64 n3) ∧
  cell h ((a1.add (Int.toNat i * 5)).add 3) = some (.int .i64 n4) ∧
  cell h ((a1.add (Int.toNat i * 5)).add 4) = some (.string s2) ∧
  HCalls Tryz.prog 76 #[.agg #[.int .i64 n1, .int .i64 n2, .int .i64 n3, .int .i64 n4, .string s2]] h fun v1 h4 => ∃ r1 : Bool, v1 = .bool r1 ∧
  cond (!r1)
  (NN t fun a2 =>
  ∃ (a3 : Option Addr) (L1 C1 : Nat), ∃ (a4 : Option Addr) (L2 C2 : Nat), ∃ n5 : Int, cell h4 a2 = some (.slice a3 L1 C1) ∧
  cell h4 (a2.add 1) = some (.slice a4 L2 C2) ∧
  cell h4 (a2.add 2) = some (.int .i64 n5) ∧
  NN t6 fun a5 =>
  Wr h4 a5 (.slice a3 L1 C1) fun h5 =>
  Wr h5 (a5.add 1) (.slice a4 L2 C2) fun h6 =>
  Wr h6 (a5.add 2) (.int .i64 n5) fun h7 =>
  NN t6 fun a6 =>
  ∃ (r2 : Option Addr) (rL1 rC1 : Nat), ∃ (r3 : Option Addr) (rL2 rC2 : Nat), ∃ r4 : Int, cell h7 a6 = some (.slice r2 rL1 rC1) ∧
  cell h7 (a6.add 1) = some (.slice r3 rL2 rC2) ∧
  cell h7 (a6.add 2) = some (.int .i64 r4) ∧
  K (.tuple #[.agg #[.slice r2 rL1 rC1, .slice r3 rL2 rC2, .int .i64 r4], .slice none 0 0, .int .i64 1]) h7)
  (r50_Batch_b2 deletes deletesL deletesC inserts insertsL insertsC t t6 i h4 nx0 K))
  (r50_Batch_b3 deletes deletesL deletesC inserts insertsL insertsC t t6 h  K)) := by kernel_rfl
theorem r50_Batch_b2_eq (deletes : Option Addr) (deletesL : Nat) (deletesC : Nat) (inserts : Option Addr) (insertsL : Nat) (insertsC : Nat) (t : Option Addr) (t6 : Option Addr) (i : Int) (h : Hp) (nx0 : Int × Unit → Hp → Prop) (K : Value → Hp → Prop) : r50_Batch_b2 deletes deletesL deletesC inserts insertsL insertsC t t6 i h nx0 K = (
  InR (i + 1) ∧
  nx0 (i + 1, ()) h) := by kernel_rfl
theorem r50_Batch_b3_eq (deletes : Option Addr) (deletesL : Nat) (deletesC : Nat) (inserts : Option Addr) (insertsL : Nat) (insertsC : Nat) (t : Option Addr) (t6 : Option Addr) (h : Hp)  (K : Value → Hp → Prop) : r50_Batch_b3 deletes deletesL deletesC inserts insertsL insertsC t t6 h  K = (
  LoopVC ((0, ()) : Int × Unit) h (fun (nx0 : Int × Unit → Hp → Prop) (s3 : Int × Unit) h8 => r50_Batch_b4 s3.1 deletes deletesL deletesC inserts insertsL insertsC t t6 h8 nx0 K)) := by kernel_rfl
theorem r50_Batch_b4_eq (i : Int) (deletes : Option Addr) (deletesL : Nat) (deletesC : Nat) (inserts : Option Addr) (insertsL : Nat) (insertsC : Nat) (t : Option Addr) (t6 : Option Addr) (h : Hp) (nx0 : Int × Unit → Hp → Prop) (K : Value → Hp → Prop) : r50_Batch_b4 i deletes deletesL deletesC inserts insertsL insertsC t t6 h nx0 K = (
  cond (decide (i < (deletesL : Int)))
  (LoopVC ((0, ()) : Int × Unit) h (fun (nx1 : Int × Unit → Hp → Prop) (s4 : Int × Unit) h9 => r50_Batch_b5 s4.1 deletes deletesL deletesC inserts insertsL insertsC t t6 i h9 nx0 nx1 K))
  (r50_Batch_b6 deletes deletesL deletesC inserts insertsL insertsC t t6 h  K)) := by kernel_rfl
theorem r50_Batch_b5_eq (k : Int) (deletes : Option Addr) (deletesL : Nat) (deletesC : Nat) (inserts : Option Addr) (insertsL : Nat) (insertsC : Nat) (t : Option Addr) (t6 : Option Addr) (i : Int) (h : Hp) (nx0 : Int × Unit → Hp → Prop) (nx1 : Int × Unit → Hp → Prop) (K : Value → Hp → Prop) : r50_Batch_b5 k deletes deletesL deletesC inserts insertsL insertsC t t6 i h nx0 nx1 K = (
  cond (decide (k < i))
  ((0 ≤ k ∧ k < (deletesL : Int)) ∧
  NN deletes fun a7 =>
  ∃ n6 : Int, cell h (a7.add (Int.toNat k * 1)) = some (.int .i64 n6) ∧
  (0 ≤ i ∧ i < (deletesL : Int)) ∧
  NN deletes fun a8 =>
  ∃ n7 : Int, cell h (a8.add (Int.toNat i * 1)) = some (.int .i64 n7) ∧
  cond (decide (n6 = n7))
  (NN t fun a9 =>
  ∃ (a10 : Option Addr) (L3 C3 : Nat), ∃ (a11 : Option Addr) (L4 C4 : Nat), ∃ n8 : Int, cell h a9 = some (.slice a10 L3 C3) ∧
  cell h (a9.add 1) = some (.slice a11 L4 C4) ∧
  cell h (a9.add 2) = some (.int .i64 n8) ∧
  NN t6 fun a12 =>
  Wr h a12 (.slice a10 L3 C3) fun h10 =>
  Wr h10 (a12.add 1) (.slice a11 L4 C4) fun h11 =>
  Wr h11 (a12.add 2) (.int .i64 n8) fun h12 =>
  NN t6 fun a13 =>
  ∃ (r5 : Option Addr) (rL3 rC3 : Nat), ∃ (r6 : Option Addr) (rL4 rC4 : Nat), ∃ r7 : Int, cell h12 a13 = some (.slice r5 rL3 rC3) ∧
  cell h12 (a13.add 1) = some (.slice r6 rL4 rC4) ∧
  cell h12 (a13.add 2) = some (.int .i64 r7) ∧
  K (.tuple #[.agg #[.slice r5 rL3 rC3, .slice r6 rL4 rC4, .int .i64 r7], .slice none 0 0, .int .i64 10]) h12)
  (r50_Batch_b7 deletes deletesL deletesC inserts insertsL insertsC t t6 i k h nx0 nx1 K))
  (r50_Batch_b8 deletes deletesL deletesC inserts insertsL insertsC t t6 i h nx0 K)) := by kernel_rfl
theorem r50_Batch_b6_eq (deletes : Option Addr) (deletesL : Nat) (deletesC : Nat) (inserts : Option Addr) (insertsL : Nat) (insertsC : Nat) (t : Option Addr) (t6 : Option Addr) (h : Hp)  (K : Value → Hp → Prop) : r50_Batch_b6 deletes deletesL deletesC inserts insertsL insertsC t t6 h  K = (
  NN t fun a14 =>
  ∃ (a15 : Option Addr) (L5 C5 : Nat), ∃ (a16 : Option Addr) (L6 C6 : Nat), ∃ n9 : Int, cell h a14 = some (.slice a15 L5 C5) ∧
  cell h (a14.add 1) = some (.slice a16 L6 C6) ∧
  cell h (a14.add 2) = some (.int .i64 n9) ∧
  New h (.cells #[.slice none 0 0, .slice none 0 0, .int .i64 0] 29) fun b3 h13 =>
  Wr h13 ⟨b3, 0, none⟩ (.slice a15 L5 C5) fun h14 =>
  Wr h14 ((⟨b3, 0, none⟩ : Addr).add 1) (.slice a16 L6 C6) fun h15 =>
  Wr h15 ((⟨b3, 0, none⟩ : Addr).add 2) (.int .i64 n9) fun h16 =>
  LoopVC ((0, ()) : Int × Unit) h16 (fun (nx0 : Int × Unit → Hp → Prop) (s5 : Int × Unit) h17 => r50_Batch_b9 s5.1 deletes deletesL deletesC inserts insertsL insertsC t t6 (some ⟨b3, 0, none⟩) h17 nx0 K)) := by kernel_rfl
theorem r50_Batch_b7_eq (deletes : Option Addr) (deletesL : Nat) (deletesC : Nat) (inserts : Option Addr) (insertsL : Nat) (insertsC : Nat) (t : Option Addr) (t6 : Option Addr) (i : Int) (k : Int) (h : Hp) (nx0 : Int × Unit → Hp → Prop) (nx1 : Int × Unit → Hp → Prop) (K : Value → Hp → Prop) : r50_Batch_b7 deletes deletesL deletesC inserts insertsL insertsC t t6 i k h nx0 nx1 K = (
  InR (k + 1) ∧
  nx1 (k + 1, ()) h) := by kernel_rfl
theorem r50_Batch_b8_eq (deletes : Option Addr) (deletesL : Nat) (deletesC : Nat) (inserts : Option Addr) (insertsL : Nat) (insertsC : Nat) (t : Option Addr) (t6 : Option Addr) (i : Int) (h : Hp) (nx0 : Int × Unit → Hp → Prop) (K : Value → Hp → Prop) : r50_Batch_b8 deletes deletesL deletesC inserts insertsL insertsC t t6 i h nx0 K = (
  InR (i + 1) ∧
  nx0 (i + 1, ()) h) := by kernel_rfl
theorem r50_Batch_b9_eq (i : Int) (deletes : Option Addr) (deletesL : Nat) (deletesC : Nat) (inserts : Option Addr) (insertsL : Nat) (insertsC : Nat) (t : Option Addr) (t6 : Option Addr) (u : Option Addr) (h : Hp) (nx0 : Int × Unit → Hp → Prop) (K : Value → Hp → Prop) : r50_Batch_b9 i deletes deletesL deletesC inserts insertsL insertsC t t6 u h nx0 K = (
  cond (decide (i < (deletesL : Int)))
  (NN u fun a17 =>
  ∃ (a18 : Option Addr) (L7 C7 : Nat), ∃ (a19 : Option Addr) (L8 C8 : Nat), ∃ n10 : Int, cell h a17 = some (.slice a18 L7 C7) ∧
  cell h (a17.add 1) = some (.slice a19 L8 C8) ∧
  cell h (a17.add 2) = some (.int .i64 n10) ∧
  (0 ≤ i ∧ i < (deletesL : Int)) ∧
  NN deletes fun a20 =>
  ∃ n11 : Int, cell h (a20.add (Int.toNat i * 1)) = some (.int .i64 n11) ∧
  (HCalls Tryz.prog 61 #[.agg #[.slice a18 L7 C7, .slice a19 L8 C8, .int .i64 n10], .int .i64 n11] h fun v2 h18 => ∃ (r8 : Option Addr) (rL5 rC5 : Nat), ∃ (r9 : Option Addr) (rL6 rC6 : Nat), ∃ r10 : Int, ∃ r11 : Int, v2 = .tuple #[.agg #[.slice r8 rL5 rC5, .slice r9 rL6 rC6, .int .i64 r10], .int .i64 r11] ∧
  New h18 (.cells #[.slice none 0 0, .slice none 0 0, .int .i64 0] 29) fun b4 h19 =>
  Wr h19 ⟨b4, 0, none⟩ (.slice r8 rL5 rC5) fun h20 =>
  Wr h20 ((⟨b4, 0, none⟩ : Addr).add 1) (.slice r9 rL6 rC6) fun h21 =>
  Wr h21 ((⟨b4, 0, none⟩ : Addr).add 2) (.int .i64 r10) fun h22 =>
  r50_Batch_b10 deletes deletesL deletesC inserts insertsL insertsC t t6 u i (some ⟨b4, 0, none⟩) r11 h22 nx0 K) ∧
  (New h (.cells #[.slice none 0 0, .slice none 0 0, .int .i64 0] 29) fun b5 h23 =>
  (∃ n12 : Int, cell h23 (a20.add (Int.toNat i * 1)) = some (.int .i64 n12) ∧
  (.int .i64 n12 : Value) = .int .i64 n11) ∧
  (NN u fun a21 =>
  ∃ (a22 : Option Addr) (L9 C9 : Nat), ∃ (a23 : Option Addr) (L10 C10 : Nat), ∃ n13 : Int, cell h23 a21 = some (.slice a22 L9 C9) ∧
  cell h23 (a21.add 1) = some (.slice a23 L10 C10) ∧
  cell h23 (a21.add 2) = some (.int .i64 n13) ∧
  (.agg #[.slice a22 L9 C9, .slice a23 L10 C10, .int .i64 n13] : Value) = .agg #[.slice a18 L7 C7, .slice a19 L8 C8, .int .i64 n10]) ∧
  HCalls Tryz.prog 61 #[.agg #[.slice a18 L7 C7, .slice a19 L8 C8, .int .i64 n10], .int .i64 n11] h23 fun v3 h24 => ∃ (r12 : Option Addr) (rL7 rC7 : Nat), ∃ (r13 : Option Addr) (rL8 rC8 : Nat), ∃ r14 : Int, ∃ r15 : Int, v3 = .tuple #[.agg #[.slice r12 rL7 rC7, .slice r13 rL8 rC8, .int .i64 r14], .int .i64 r15] ∧
  Wr h24 ⟨b5, 0, none⟩ (.slice r12 rL7 rC7) fun h25 =>
  Wr h25 ((⟨b5, 0, none⟩ : Addr).add 1) (.slice r13 rL8 rC8) fun h26 =>
  Wr h26 ((⟨b5, 0, none⟩ : Addr).add 2) (.int .i64 r14) fun h27 =>
  r50_Batch_b10 deletes deletesL deletesC inserts insertsL insertsC t t6 u i (some ⟨b5, 0, none⟩) r15 h27 nx0 K))
  (r50_Batch_b11 inserts insertsL insertsC t t6 u h  K)) := by kernel_rfl
theorem r50_Batch_b10_eq (deletes : Option Addr) (deletesL : Nat) (deletesC : Nat) (inserts : Option Addr) (insertsL : Nat) (insertsC : Nat) (t : Option Addr) (t6 : Option Addr) (u : Option Addr) (i : Int) (next : Option Addr) (e : Int) (h : Hp) (nx0 : Int × Unit → Hp → Prop) (K : Value → Hp → Prop) : r50_Batch_b10 deletes deletesL deletesC inserts insertsL insertsC t t6 u i next e h nx0 K = (
  cond (!decide (e = 0))
  (NN t fun a24 =>
  ∃ (a25 : Option Addr) (L11 C11 : Nat), ∃ (a26 : Option Addr) (L12 C12 : Nat), ∃ n14 : Int, cell h a24 = some (.slice a25 L11 C11) ∧
  cell h (a24.add 1) = some (.slice a26 L12 C12) ∧
  cell h (a24.add 2) = some (.int .i64 n14) ∧
  NN t6 fun a27 =>
  Wr h a27 (.slice a25 L11 C11) fun h28 =>
  Wr h28 (a27.add 1) (.slice a26 L12 C12) fun h29 =>
  Wr h29 (a27.add 2) (.int .i64 n14) fun h30 =>
  NN t6 fun a28 =>
  ∃ (r16 : Option Addr) (rL9 rC9 : Nat), ∃ (r17 : Option Addr) (rL10 rC10 : Nat), ∃ r18 : Int, cell h30 a28 = some (.slice r16 rL9 rC9) ∧
  cell h30 (a28.add 1) = some (.slice r17 rL10 rC10) ∧
  cell h30 (a28.add 2) = some (.int .i64 r18) ∧
  K (.tuple #[.agg #[.slice r16 rL9 rC9, .slice r17 rL10 rC10, .int .i64 r18], .slice none 0 0, .int .i64 e]) h30)
  (NN next fun a29 =>
  ∃ (a30 : Option Addr) (L13 C13 : Nat), ∃ (a31 : Option Addr) (L14 C14 : Nat), ∃ n15 : Int, cell h a29 = some (.slice a30 L13 C13) ∧
  cell h (a29.add 1) = some (.slice a31 L14 C14) ∧
  cell h (a29.add 2) = some (.int .i64 n15) ∧
  NN u fun a32 =>
  Wr h a32 (.slice a30 L13 C13) fun h31 =>
  Wr h31 (a32.add 1) (.slice a31 L14 C14) fun h32 =>
  Wr h32 (a32.add 2) (.int .i64 n15) fun h33 =>
  r50_Batch_b12 deletes deletesL deletesC inserts insertsL insertsC t t6 u i h33 nx0 K)) := by kernel_rfl
theorem r50_Batch_b11_eq (inserts : Option Addr) (insertsL : Nat) (insertsC : Nat) (t : Option Addr) (t6 : Option Addr) (u : Option Addr) (h : Hp)  (K : Value → Hp → Prop) : r50_Batch_b11 inserts insertsL insertsC t t6 u h  K = (
  LoopVC ((0, ()) : Int × Unit) h (fun (nx0 : Int × Unit → Hp → Prop) (s6 : Int × Unit) h34 => r50_Batch_b13 s6.1 inserts insertsL insertsC t t6 u h34 nx0 K)) := by kernel_rfl
theorem r50_Batch_b12_eq (deletes : Option Addr) (deletesL : Nat) (deletesC : Nat) (inserts : Option Addr) (insertsL : Nat) (insertsC : Nat) (t : Option Addr) (t6 : Option Addr) (u : Option Addr) (i : Int) (h : Hp) (nx0 : Int × Unit → Hp → Prop) (K : Value → Hp → Prop) : r50_Batch_b12 deletes deletesL deletesC inserts insertsL insertsC t t6 u i h nx0 K = (
  InR (i + 1) ∧
  nx0 (i + 1, ()) h) := by kernel_rfl
theorem r50_Batch_b13_eq (i : Int) (inserts : Option Addr) (insertsL : Nat) (insertsC : Nat) (t : Option Addr) (t6 : Option Addr) (u : Option Addr) (h : Hp) (nx0 : Int × Unit → Hp → Prop) (K : Value → Hp → Prop) : r50_Batch_b13 i inserts insertsL insertsC t t6 u h nx0 K = (
  cond (decide (i < (insertsL : Int)))
  (NN u fun a33 =>
  ∃ (a34 : Option Addr) (L15 C15 : Nat), ∃ (a35 : Option Addr) (L16 C16 : Nat), ∃ n16 : Int, cell h a33 = some (.slice a34 L15 C15) ∧
  cell h (a33.add 1) = some (.slice a35 L16 C16) ∧
  cell h (a33.add 2) = some (.int .i64 n16) ∧
  (0 ≤ i ∧ i < (insertsL : Int)) ∧
  NN inserts fun a36 =>
  ∃ n17 : Int, cell h (a36.add (Int.toNat i * 5)) = some (.int .i64 n17) ∧
  HCalls Tryz.prog 77 #[.agg #[.slice a34 L15 C15, .slice a35 L16 C16, .int .i64 n16], .int .i64 n17, .int .i64 (-1)] h fun v4 h35 => ∃ r19 : Bool, v4 = .bool r19 ∧
  cond r19
  (NN t fun a37 =>
  ∃ (a38 : Option Addr) (L17 C17 : Nat), ∃ (a39 : Option Addr) (L18 C18 : Nat), ∃ n18 : Int, cell h35 a37 = some (.slice a38 L17 C17) ∧
  cell h35 (a37.add 1) = some (.slice a39 L18 C18) ∧
  cell h35 (a37.add 2) = some (.int .i64 n18) ∧
  NN t6 fun a40 =>
  Wr h35 a40 (.slice a38 L17 C17) fun h36 =>
  Wr h36 (a40.add 1) (.slice a39 L18 C18) fun h37 =>
  Wr h37 (a40.add 2) (.int .i64 n18) fun h38 =>
  NN t6 fun a41 =>
  ∃ (r20 : Option Addr) (rL11 rC11 : Nat), ∃ (r21 : Option Addr) (rL12 rC12 : Nat), ∃ r22 : Int, cell h38 a41 = some (.slice r20 rL11 rC11) ∧
  cell h38 (a41.add 1) = some (.slice r21 rL12 rC12) ∧
  cell h38 (a41.add 2) = some (.int .i64 r22) ∧
  K (.tuple #[.agg #[.slice r20 rL11 rC11, .slice r21 rL12 rC12, .int .i64 r22], .slice none 0 0, .int .i64 15]) h38)
  (LoopVC ((0, ()) : Int × Unit) h35 (fun (nx1 : Int × Unit → Hp → Prop) (s7 : Int × Unit) h39 => r50_Batch_b14 s7.1 inserts insertsL insertsC t t6 u i h39 nx0 nx1 K)))
  (r50_Batch_b15 inserts insertsL insertsC t t6 u h  K)) := by kernel_rfl
theorem r50_Batch_b14_eq (k : Int) (inserts : Option Addr) (insertsL : Nat) (insertsC : Nat) (t : Option Addr) (t6 : Option Addr) (u : Option Addr) (i : Int) (h : Hp) (nx0 : Int × Unit → Hp → Prop) (nx1 : Int × Unit → Hp → Prop) (K : Value → Hp → Prop) : r50_Batch_b14 k inserts insertsL insertsC t t6 u i h nx0 nx1 K = (
  cond (decide (k < i))
  ((0 ≤ k ∧ k < (insertsL : Int)) ∧
  NN inserts fun a42 =>
  ∃ n19 : Int, cell h (a42.add (Int.toNat k * 5)) = some (.int .i64 n19) ∧
  (0 ≤ i ∧ i < (insertsL : Int)) ∧
  NN inserts fun a43 =>
  ∃ n20 : Int, cell h (a43.add (Int.toNat i * 5)) = some (.int .i64 n20) ∧
  cond (decide (n19 = n20))
  (NN t fun a44 =>
  ∃ (a45 : Option Addr) (L19 C19 : Nat), ∃ (a46 : Option Addr) (L20 C20 : Nat), ∃ n21 : Int, cell h a44 = some (.slice a45 L19 C19) ∧
  cell h (a44.add 1) = some (.slice a46 L20 C20) ∧
  cell h (a44.add 2) = some (.int .i64 n21) ∧
  NN t6 fun a47 =>
  Wr h a47 (.slice a45 L19 C19) fun h40 =>
  Wr h40 (a47.add 1) (.slice a46 L20 C20) fun h41 =>
  Wr h41 (a47.add 2) (.int .i64 n21) fun h42 =>
  NN t6 fun a48 =>
  ∃ (r23 : Option Addr) (rL13 rC13 : Nat), ∃ (r24 : Option Addr) (rL14 rC14 : Nat), ∃ r25 : Int, cell h42 a48 = some (.slice r23 rL13 rC13) ∧
  cell h42 (a48.add 1) = some (.slice r24 rL14 rC14) ∧
  cell h42 (a48.add 2) = some (.int .i64 r25) ∧
  K (.tuple #[.agg #[.slice r23 rL13 rC13, .slice r24 rL14 rC14, .int .i64 r25], .slice none 0 0, .int .i64 15]) h42)
  (r50_Batch_b16 inserts insertsL insertsC t t6 u i k h nx0 nx1 K))
  (r50_Batch_b17 inserts insertsL insertsC t t6 u i h nx0 K)) := by kernel_rfl
theorem r50_Batch_b15_eq (inserts : Option Addr) (insertsL : Nat) (insertsC : Nat) (t : Option Addr) (t6 : Option Addr) (u : Option Addr) (h : Hp)  (K : Value → Hp → Prop) : r50_Batch_b15 inserts insertsL insertsC t t6 u h  K = (
  NN u fun a49 =>
  ∃ (a50 : Option Addr) (L21 C21 : Nat), cell h a49 = some (.slice a50 L21 C21) ∧
  InR ((L21 : Int) + (insertsL : Int)) ∧
  cond (decide ((1000 : Int) < ((L21 : Int) + (insertsL : Int))))
  (NN t fun a51 =>
  ∃ (a52 : Option Addr) (L22 C22 : Nat), ∃ (a53 : Option Addr) (L23 C23 : Nat), ∃ n22 : Int, cell h a51 = some (.slice a52 L22 C22) ∧
  cell h (a51.add 1) = some (.slice a53 L23 C23) ∧
  cell h (a51.add 2) = some (.int .i64 n22) ∧
  NN t6 fun a54 =>
  Wr h a54 (.slice a52 L22 C22) fun h43 =>
  Wr h43 (a54.add 1) (.slice a53 L23 C23) fun h44 =>
  Wr h44 (a54.add 2) (.int .i64 n22) fun h45 =>
  NN t6 fun a55 =>
  ∃ (r26 : Option Addr) (rL15 rC15 : Nat), ∃ (r27 : Option Addr) (rL16 rC16 : Nat), ∃ r28 : Int, cell h45 a55 = some (.slice r26 rL15 rC15) ∧
  cell h45 (a55.add 1) = some (.slice r27 rL16 rC16) ∧
  cell h45 (a55.add 2) = some (.int .i64 r28) ∧
  K (.tuple #[.agg #[.slice r26 rL15 rC15, .slice r27 rL16 rC16, .int .i64 r28], .slice none 0 0, .int .i64 4]) h45)
  (LoopVC (((none, 0, 0), 0, ()) : (Option Addr × Nat × Nat) × Int × Unit) h (fun (nx0 : (Option Addr × Nat × Nat) × Int × Unit → Hp → Prop) (s8 : (Option Addr × Nat × Nat) × Int × Unit) h46 => r50_Batch_b18 s8.1.1 s8.1.2.1 s8.1.2.2 s8.2.1 inserts insertsL insertsC t6 u h46 nx0 K))) := by kernel_rfl
theorem r50_Batch_b16_eq (inserts : Option Addr) (insertsL : Nat) (insertsC : Nat) (t : Option Addr) (t6 : Option Addr) (u : Option Addr) (i : Int) (k : Int) (h : Hp) (nx0 : Int × Unit → Hp → Prop) (nx1 : Int × Unit → Hp → Prop) (K : Value → Hp → Prop) : r50_Batch_b16 inserts insertsL insertsC t t6 u i k h nx0 nx1 K = (
  InR (k + 1) ∧
  nx1 (k + 1, ()) h) := by kernel_rfl
theorem r50_Batch_b17_eq (inserts : Option Addr) (insertsL : Nat) (insertsC : Nat) (t : Option Addr) (t6 : Option Addr) (u : Option Addr) (i : Int) (h : Hp) (nx0 : Int × Unit → Hp → Prop) (K : Value → Hp → Prop) : r50_Batch_b17 inserts insertsL insertsC t t6 u i h nx0 K = (
  InR (i + 1) ∧
  nx0 (i + 1, ()) h) := by kernel_rfl
theorem r50_Batch_b18_eq (out : Option Addr) (outL : Nat) (outC : Nat) (i : Int) (inserts : Option Addr) (insertsL : Nat) (insertsC : Nat) (t6 : Option Addr) (u : Option Addr) (h : Hp) (nx0 : (Option Addr × Nat × Nat) × Int × Unit → Hp → Prop) (K : Value → Hp → Prop) : r50_Batch_b18 out outL outC i inserts insertsL insertsC t6 u h nx0 K = (
  cond (decide (i < (insertsL : Int)))
  (NN u fun a56 =>
  ∃ (a57 : Option Addr) (L24 C24 : Nat), ∃ (a58 : Option Addr) (L25 C25 : Nat), ∃ n23 : Int, cell h a56 = some (.slice a57 L24 C24) ∧
  cell h (a56.add 1) = some (.slice a58 L25 C25) ∧
  cell h (a56.add 2) = some (.int .i64 n23) ∧
  (0 ≤ i ∧ i < (insertsL : Int)) ∧
  NN inserts fun a59 =>
  ∃ n24 : Int, ∃ n25 : Int, ∃ n26 : Int, ∃ n27 : Int, ∃ s9 : ByteArray, cell h (a59.add (Int.toNat i * 5)) = some (.int .i64 n24) ∧
  cell h ((a59.add (Int.toNat i * 5)).add 1) = some (.int .i64 n25) ∧
  cell h ((a59.add (Int.toNat i * 5)).add 2) = some (.int .i64 n26) ∧
  cell h ((a59.add (Int.toNat i * 5)).add 3) = some (.int .i64 n27) ∧
  cell h ((a59.add (Int.toNat i * 5)).add 4) = some (.string s9) ∧
  (HCalls Tryz.prog 59 #[.agg #[.slice a57 L24 C24, .slice a58 L25 C25, .int .i64 n23], .agg #[.int .i64 n24, .int .i64 n25, .int .i64 n26, .int .i64 n27, .string s9]] h fun v5 h47 => ∃ (r29 : Option Addr) (rL17 rC17 : Nat), ∃ (r30 : Option Addr) (rL18 rC18 : Nat), ∃ r31 : Int, ∃ r32 : Int, ∃ r33 : Int, v5 = .tuple #[.agg #[.slice r29 rL17 rC17, .slice r30 rL18 rC18, .int .i64 r31], .int .i64 r32, .int .i64 r33] ∧
  New h47 (.cells #[.slice none 0 0, .slice none 0 0, .int .i64 0] 29) fun b6 h48 =>
  Wr h48 ⟨b6, 0, none⟩ (.slice r29 rL17 rC17) fun h49 =>
  Wr h49 ((⟨b6, 0, none⟩ : Addr).add 1) (.slice r30 rL18 rC18) fun h50 =>
  Wr h50 ((⟨b6, 0, none⟩ : Addr).add 2) (.int .i64 r31) fun h51 =>
  r50_Batch_b19 inserts insertsL insertsC t6 u out outL outC i (some ⟨b6, 0, none⟩) r32 h51 nx0 K) ∧
  (New h (.cells #[.slice none 0 0, .slice none 0 0, .int .i64 0] 29) fun b7 h52 =>
  (∃ n28 : Int, ∃ n29 : Int, ∃ n30 : Int, ∃ n31 : Int, ∃ s10 : ByteArray, cell h52 (a59.add (Int.toNat i * 5)) = some (.int .i64 n28) ∧
  cell h52 ((a59.add (Int.toNat i * 5)).add 1) = some (.int .i64 n29) ∧
  cell h52 ((a59.add (Int.toNat i * 5)).add 2) = some (.int .i64 n30) ∧
  cell h52 ((a59.add (Int.toNat i * 5)).add 3) = some (.int .i64 n31) ∧
  cell h52 ((a59.add (Int.toNat i * 5)).add 4) = some (.string s10) ∧
  (.agg #[.int .i64 n28, .int .i64 n29, .int .i64 n30, .int .i64 n31, .string s10] : Value) = .agg #[.int .i64 n24, .int .i64 n25, .int .i64 n26, .int .i64 n27, .string s9]) ∧
  (NN u fun a60 =>
  ∃ (a61 : Option Addr) (L26 C26 : Nat), ∃ (a62 : Option Addr) (L27 C27 : Nat), ∃ n32 : Int, cell h52 a60 = some (.slice a61 L26 C26) ∧
  cell h52 (a60.add 1) = some (.slice a62 L27 C27) ∧
  cell h52 (a60.add 2) = some (.int .i64 n32) ∧
  (.agg #[.slice a61 L26 C26, .slice a62 L27 C27, .int .i64 n32] : Value) = .agg #[.slice a57 L24 C24, .slice a58 L25 C25, .int .i64 n23]) ∧
  HCalls Tryz.prog 59 #[.agg #[.slice a57 L24 C24, .slice a58 L25 C25, .int .i64 n23], .agg #[.int .i64 n24, .int .i64 n25, .int .i64 n26, .int .i64 n27, .string s9]] h52 fun v6 h53 => ∃ (r34 : Option Addr) (rL19 rC19 : Nat), ∃ (r35 : Option Addr) (rL20 rC20 : Nat), ∃ r36 : Int, ∃ r37 : Int, ∃ r38 : Int, v6 = .tuple #[.agg #[.slice r34 rL19 rC19, .slice r35 rL20 rC20, .int .i64 r36], .int .i64 r37, .int .i64 r38] ∧
  Wr h53 ⟨b7, 0, none⟩ (.slice r34 rL19 rC19) fun h54 =>
  Wr h54 ((⟨b7, 0, none⟩ : Addr).add 1) (.slice r35 rL20 rC20) fun h55 =>
  Wr h55 ((⟨b7, 0, none⟩ : Addr).add 2) (.int .i64 r36) fun h56 =>
  r50_Batch_b19 inserts insertsL insertsC t6 u out outL outC i (some ⟨b7, 0, none⟩) r37 h56 nx0 K))
  (r50_Batch_b20 t6 u out outL outC h  K)) := by kernel_rfl
theorem r50_Batch_b19_eq (inserts : Option Addr) (insertsL : Nat) (insertsC : Nat) (t6 : Option Addr) (u : Option Addr) (out : Option Addr) (outL : Nat) (outC : Nat) (i : Int) (next : Option Addr) (id : Int) (h : Hp) (nx0 : (Option Addr × Nat × Nat) × Int × Unit → Hp → Prop) (K : Value → Hp → Prop) : r50_Batch_b19 inserts insertsL insertsC t6 u out outL outC i next id h nx0 K = (
  NN next fun a63 =>
  ∃ (a64 : Option Addr) (L28 C28 : Nat), ∃ (a65 : Option Addr) (L29 C29 : Nat), ∃ n33 : Int, cell h a63 = some (.slice a64 L28 C28) ∧
  cell h (a63.add 1) = some (.slice a65 L29 C29) ∧
  cell h (a63.add 2) = some (.int .i64 n33) ∧
  NN u fun a66 =>
  Wr h a66 (.slice a64 L28 C28) fun h57 =>
  Wr h57 (a66.add 1) (.slice a65 L29 C29) fun h58 =>
  Wr h58 (a66.add 2) (.int .i64 n33) fun h59 =>
  New h59 (.cells #[.int .i64 id] 3) fun b8 h60 =>
  appendV Tryz.prog 26 26 (.slice out outL outC) (.slice (some ⟨b8, 0, none⟩) 1 1) h60 (slK fun a67 l1 c1 h61 =>
  r50_Batch_b21 inserts insertsL insertsC t6 u a67 l1 c1 i h61 nx0 K)) := by kernel_rfl
theorem r50_Batch_b20_eq (t6 : Option Addr) (u : Option Addr) (out : Option Addr) (outL : Nat) (outC : Nat) (h : Hp)  (K : Value → Hp → Prop) : r50_Batch_b20 t6 u out outL outC h  K = (
  NN u fun a68 =>
  ∃ (a69 : Option Addr) (L30 C30 : Nat), ∃ (a70 : Option Addr) (L31 C31 : Nat), ∃ n34 : Int, cell h a68 = some (.slice a69 L30 C30) ∧
  cell h (a68.add 1) = some (.slice a70 L31 C31) ∧
  cell h (a68.add 2) = some (.int .i64 n34) ∧
  NN t6 fun a71 =>
  Wr h a71 (.slice a69 L30 C30) fun h62 =>
  Wr h62 (a71.add 1) (.slice a70 L31 C31) fun h63 =>
  Wr h63 (a71.add 2) (.int .i64 n34) fun h64 =>
  NN t6 fun a72 =>
  ∃ (r39 : Option Addr) (rL21 rC21 : Nat), ∃ (r40 : Option Addr) (rL22 rC22 : Nat), ∃ r41 : Int, cell h64 a72 = some (.slice r39 rL21 rC21) ∧
  cell h64 (a72.add 1) = some (.slice r40 rL22 rC22) ∧
  cell h64 (a72.add 2) = some (.int .i64 r41) ∧
  K (.tuple #[.agg #[.slice r39 rL21 rC21, .slice r40 rL22 rC22, .int .i64 r41], .slice out outL outC, .int .i64 0]) h64) := by kernel_rfl
theorem r50_Batch_b21_eq (inserts : Option Addr) (insertsL : Nat) (insertsC : Nat) (t6 : Option Addr) (u : Option Addr) (out : Option Addr) (outL : Nat) (outC : Nat) (i : Int) (h : Hp) (nx0 : (Option Addr × Nat × Nat) × Int × Unit → Hp → Prop) (K : Value → Hp → Prop) : r50_Batch_b21 inserts insertsL insertsC t6 u out outL outC i h nx0 K = (
  InR (i + 1) ∧
  nx0 ((out, outL, outC), i + 1, ()) h) := by kernel_rfl
theorem r50_Batch_call {t_0 : Option Addr} {t_0L : Nat} {t_0C : Nat} {t_1 : Option Addr} {t_1L : Nat} {t_1C : Nat} {t_2 : Int} {deletes : Option Addr} {deletesL : Nat} {deletesC : Nat} {inserts : Option Addr} {insertsL : Nat} {insertsC : Nat} {h : Hp} {K : Value → Hp → Prop} (hk : r50_Batch_b0 t_0 t_0L t_0C t_1 t_1L t_1C t_2 deletes deletesL deletesC inserts insertsL insertsC h K) : HCalls Tryz.prog 62 #[.agg #[.slice t_0 t_0L t_0C, .slice t_1 t_1L t_1C, .int .i64 t_2], .slice deletes deletesL deletesC, .slice inserts insertsL insertsC] h K :=
  calls_of_snd r50_Batch_an Tryz.func62 (c := bodyOf Tryz.f62) rfl Tryz.ntmps62 (Nat.le_of_ble_eq_true rfl) (snd_7 F_ok F_mixed) hk

/-! ### slices_pdqsortCmpFunc_int -/
def slices_pdqsortCmpFunc_int_an : Ann := .node none (.leaf) (.node none (.leaf) (.loop [0, 4] [(1, .int .i64), (2, .int .i64), (3, .int .i64), (10, .bool), (11, .bool)] (.node none (.leaf) (.node none (.leaf) (.node none (.leaf) (.node (some [0, 1, 2, 3, 4, 10, 11, 12]) (.leaf) (.node none (.leaf) (.node (some [0, 1, 2, 3, 4, 10, 11, 12, 13, 14]) (.leaf) (.node (some [0, 1, 2, 3, 4, 10, 11, 12, 13]) (.leaf) (.node (some [0, 1, 2, 3, 4, 12, 13]) (.node none (.tail 13) (.leaf)) (.leaf)))))))))))
def slices_pdqsortCmpFunc_int_K0  (K : Value → Hp → Prop) : Exit → Env → Hp → Prop := retK Tryz.prog Tryz.f63.results.toList K
def slices_pdqsortCmpFunc_int_K1  (K : Value → Hp → Prop) : Exit → Env → Hp → Prop := blockE 0 (slices_pdqsortCmpFunc_int_K0  K)
def slices_pdqsortCmpFunc_int_K2 (nx0 : Int × Int × Int × Bool × Bool × Unit → Hp → Prop) (K : Value → Hp → Prop) : Exit → Env → Hp → Prop := thenE (fun env h => getV [(1, .int .i64), (2, .int .i64), (3, .int .i64), (10, .bool), (11, .bool)] env fun s => nx0 s h) (slices_pdqsortCmpFunc_int_K1  K)
def slices_pdqsortCmpFunc_int_K3 (nx0 : Int × Int × Int × Bool × Bool × Unit → Hp → Prop) (K : Value → Hp → Prop) : Exit → Env → Hp → Prop := blockE 1 (slices_pdqsortCmpFunc_int_K2 nx0 K)
def slices_pdqsortCmpFunc_int_b0 (data : Option Addr) (dataL : Nat) (dataC : Nat) (a : Int) (b : Int) (limit : Int) (cmp : Value) (h : Hp)  (K : Value → Hp → Prop) : Prop :=
  sx_6 Tryz.prog F 148 (cp [] (bodyOf Tryz.f63)) (ap [] slices_pdqsortCmpFunc_int_an) [(0, .slice data dataL dataC), (1, .int .i64 a), (2, .int .i64 b), (3, .int .i64 limit), (4, cmp)] h (slices_pdqsortCmpFunc_int_K0  K)
def slices_pdqsortCmpFunc_int_b1 (a : Int) (b : Int) (limit : Int) (wasBalanced : Bool) (wasPartitioned : Bool) (data : Option Addr) (dataL : Nat) (dataC : Nat) (cmp : Value) (h : Hp) (nx0 : Int × Int × Int × Bool × Bool × Unit → Hp → Prop) (K : Value → Hp → Prop) : Prop :=
  sx_5 Tryz.prog F 148 (cp [1, 1, 2, 2] (bodyOf Tryz.f63)) (ap [1, 1, 2] slices_pdqsortCmpFunc_int_an) [(1, .int .i64 a), (2, .int .i64 b), (3, .int .i64 limit), (10, .bool wasBalanced), (11, .bool wasPartitioned), (0, .slice data dataL dataC), (4, cmp)] h (slices_pdqsortCmpFunc_int_K2 nx0 K)
def slices_pdqsortCmpFunc_int_b2 (data : Option Addr) (dataL : Nat) (dataC : Nat) (a : Int) (b : Int) (limit : Int) (cmp : Value) (wasBalanced : Bool) (wasPartitioned : Bool) (length : Int) (h : Hp) (nx0 : Int × Int × Int × Bool × Bool × Unit → Hp → Prop) (K : Value → Hp → Prop) : Prop :=
  sx_4 Tryz.prog F 148 (cp [1, 1, 2, 2, 2, 1, 1, 1, 1] (bodyOf Tryz.f63)) (ap [1, 1, 2, 1, 1, 1, 1] slices_pdqsortCmpFunc_int_an) [(0, .slice data dataL dataC), (1, .int .i64 a), (2, .int .i64 b), (3, .int .i64 limit), (4, cmp), (10, .bool wasBalanced), (11, .bool wasPartitioned), (12, .int .i64 length)] h (slices_pdqsortCmpFunc_int_K3 nx0 K)
def slices_pdqsortCmpFunc_int_b3 (data : Option Addr) (dataL : Nat) (dataC : Nat) (a : Int) (b : Int) (limit : Int) (cmp : Value) (wasBalanced : Bool) (wasPartitioned : Bool) (length : Int) (pivot : Int) (hint : Int) (h : Hp) (nx0 : Int × Int × Int × Bool × Bool × Unit → Hp → Prop) (K : Value → Hp → Prop) : Prop :=
  sx_3 Tryz.prog F 148 (cp [1, 1, 2, 2, 2, 1, 1, 1, 1, 1, 1] (bodyOf Tryz.f63)) (ap [1, 1, 2, 1, 1, 1, 1, 1, 1] slices_pdqsortCmpFunc_int_an) [(0, .slice data dataL dataC), (1, .int .i64 a), (2, .int .i64 b), (3, .int .i64 limit), (4, cmp), (10, .bool wasBalanced), (11, .bool wasPartitioned), (12, .int .i64 length), (13, .int .i64 pivot), (14, .int .i64 hint)] h (slices_pdqsortCmpFunc_int_K3 nx0 K)
def slices_pdqsortCmpFunc_int_b4 (data : Option Addr) (dataL : Nat) (dataC : Nat) (a : Int) (b : Int) (limit : Int) (cmp : Value) (wasBalanced : Bool) (wasPartitioned : Bool) (length : Int) (pivot : Int) (h : Hp) (nx0 : Int × Int × Int × Bool × Bool × Unit → Hp → Prop) (K : Value → Hp → Prop) : Prop :=
  sx_2 Tryz.prog F 148 (cp [1, 1, 2, 2, 2, 1, 1, 1, 1, 1, 1, 1] (bodyOf Tryz.f63)) (ap [1, 1, 2, 1, 1, 1, 1, 1, 1, 1] slices_pdqsortCmpFunc_int_an) [(0, .slice data dataL dataC), (1, .int .i64 a), (2, .int .i64 b), (3, .int .i64 limit), (4, cmp), (10, .bool wasBalanced), (11, .bool wasPartitioned), (12, .int .i64 length), (13, .int .i64 pivot)] h (slices_pdqsortCmpFunc_int_K3 nx0 K)
def slices_pdqsortCmpFunc_int_b5 (data : Option Addr) (dataL : Nat) (dataC : Nat) (a : Int) (b : Int) (limit : Int) (cmp : Value) (length : Int) (pivot : Int) (h : Hp) (nx0 : Int × Int × Int × Bool × Bool × Unit → Hp → Prop) (K : Value → Hp → Prop) : Prop :=
  sx_1 Tryz.prog F 148 (cp [1, 1, 2, 2, 2, 1, 1, 1, 1, 1, 1, 1, 1] (bodyOf Tryz.f63)) (ap [1, 1, 2, 1, 1, 1, 1, 1, 1, 1, 1] slices_pdqsortCmpFunc_int_an) [(0, .slice data dataL dataC), (1, .int .i64 a), (2, .int .i64 b), (3, .int .i64 limit), (4, cmp), (12, .int .i64 length), (13, .int .i64 pivot)] h (slices_pdqsortCmpFunc_int_K3 nx0 K)
theorem slices_pdqsortCmpFunc_int_b0_eq (data : Option Addr) (dataL : Nat) (dataC : Nat) (a : Int) (b : Int) (limit : Int) (cmp : Value) (h : Hp)  (K : Value → Hp → Prop) : slices_pdqsortCmpFunc_int_b0 data dataL dataC a b limit cmp h  K = (
  LoopVC ((a, b, limit, true, true, ()) : Int × Int × Int × Bool × Bool × Unit) h (fun (nx0 : Int × Int × Int × Bool × Bool × Unit → Hp → Prop) (s1 : Int × Int × Int × Bool × Bool × Unit) h1 => slices_pdqsortCmpFunc_int_b1 s1.1 s1.2.1 s1.2.2.1 s1.2.2.2.1 s1.2.2.2.2.1 data dataL dataC cmp h1 nx0 K)) := by kernel_rfl
theorem slices_pdqsortCmpFunc_int_b1_eq (a : Int) (b : Int) (limit : Int) (wasBalanced : Bool) (wasPartitioned : Bool) (data : Option Addr) (dataL : Nat) (dataC : Nat) (cmp : Value) (h : Hp) (nx0 : Int × Int × Int × Bool × Bool × Unit → Hp → Prop) (K : Value → Hp → Prop) : slices_pdqsortCmpFunc_int_b1 a b limit wasBalanced wasPartitioned data dataL dataC cmp h nx0 K = (
  InR (b - a) ∧
  cond (decide ((b - a) ≤ 12))
  (HCalls Tryz.prog 79 #[.slice data dataL dataC, .int .i64 a, .int .i64 b, cmp] h fun v1 h2 => v1 = .tuple #[] ∧
  K (.tuple #[]) h2)
  (cond (decide (limit = 0))
  (HCalls Tryz.prog 80 #[.slice data dataL dataC, .int .i64 a, .int .i64 b, cmp] h fun v2 h3 => v2 = .tuple #[] ∧
  K (.tuple #[]) h3)
  (cond (!wasBalanced)
  (HCalls Tryz.prog 81 #[.slice data dataL dataC, .int .i64 a, .int .i64 b, cmp] h fun v3 h4 => v3 = .tuple #[] ∧
  InR (limit - 1) ∧
  slices_pdqsortCmpFunc_int_b2 data dataL dataC a b (limit - 1) cmp wasBalanced wasPartitioned (b - a) h4 nx0 K)
  (slices_pdqsortCmpFunc_int_b2 data dataL dataC a b limit cmp wasBalanced wasPartitioned (b - a) h nx0 K)))) := by kernel_rfl
theorem slices_pdqsortCmpFunc_int_b2_eq (data : Option Addr) (dataL : Nat) (dataC : Nat) (a : Int) (b : Int) (limit : Int) (cmp : Value) (wasBalanced : Bool) (wasPartitioned : Bool) (length : Int) (h : Hp) (nx0 : Int × Int × Int × Bool × Bool × Unit → Hp → Prop) (K : Value → Hp → Prop) : slices_pdqsortCmpFunc_int_b2 data dataL dataC a b limit cmp wasBalanced wasPartitioned length h nx0 K = (
  HCalls Tryz.prog 82 #[.slice data dataL dataC, .int .i64 a, .int .i64 b, cmp] h fun v4 h5 => ∃ r1 : Int, ∃ r2 : Int, v4 = .tuple #[.int .i64 r1, .int .i64 r2] ∧
  cond (decide (r2 = 2))
  (HCalls Tryz.prog 83 #[.slice data dataL dataC, .int .i64 a, .int .i64 b, cmp] h5 fun v5 h6 => v5 = .tuple #[] ∧
  InR (b - 1) ∧
  InR (r1 - a) ∧
  InR ((b - 1) - (r1 - a)) ∧
  slices_pdqsortCmpFunc_int_b3 data dataL dataC a b limit cmp wasBalanced wasPartitioned length ((b - 1) - (r1 - a)) 1 h6 nx0 K)
  (slices_pdqsortCmpFunc_int_b3 data dataL dataC a b limit cmp wasBalanced wasPartitioned length r1 r2 h5 nx0 K)) := by kernel_rfl
theorem slices_pdqsortCmpFunc_int_b3_eq (data : Option Addr) (dataL : Nat) (dataC : Nat) (a : Int) (b : Int) (limit : Int) (cmp : Value) (wasBalanced : Bool) (wasPartitioned : Bool) (length : Int) (pivot : Int) (hint : Int) (h : Hp) (nx0 : Int × Int × Int × Bool × Bool × Unit → Hp → Prop) (K : Value → Hp → Prop) : slices_pdqsortCmpFunc_int_b3 data dataL dataC a b limit cmp wasBalanced wasPartitioned length pivot hint h nx0 K = (
  cond wasBalanced
  (cond wasPartitioned
  (cond (decide (hint = 1))
  (HCalls Tryz.prog 84 #[.slice data dataL dataC, .int .i64 a, .int .i64 b, cmp] h fun v6 h7 => ∃ r3 : Bool, v6 = .bool r3 ∧
  cond r3
  (K (.tuple #[]) h7)
  (slices_pdqsortCmpFunc_int_b4 data dataL dataC a b limit cmp wasBalanced wasPartitioned length pivot h7 nx0 K))
  (slices_pdqsortCmpFunc_int_b4 data dataL dataC a b limit cmp wasBalanced wasPartitioned length pivot h nx0 K))
  (slices_pdqsortCmpFunc_int_b4 data dataL dataC a b limit cmp wasBalanced wasPartitioned length pivot h nx0 K))
  (slices_pdqsortCmpFunc_int_b4 data dataL dataC a b limit cmp wasBalanced wasPartitioned length pivot h nx0 K)) := by kernel_rfl
theorem slices_pdqsortCmpFunc_int_b4_eq (data : Option Addr) (dataL : Nat) (dataC : Nat) (a : Int) (b : Int) (limit : Int) (cmp : Value) (wasBalanced : Bool) (wasPartitioned : Bool) (length : Int) (pivot : Int) (h : Hp) (nx0 : Int × Int × Int × Bool × Bool × Unit → Hp → Prop) (K : Value → Hp → Prop) : slices_pdqsortCmpFunc_int_b4 data dataL dataC a b limit cmp wasBalanced wasPartitioned length pivot h nx0 K = (
  cond (decide ((0 : Int) < a))
  (InR (a - 1) ∧
  (0 ≤ a - 1 ∧ a - 1 < (dataL : Int)) ∧
  NN data fun a1 =>
  ∃ n1 : Int, cell h (a1.add (Int.toNat (a - 1) * 1)) = some (.int .i64 n1) ∧
  (0 ≤ pivot ∧ pivot < (dataL : Int)) ∧
  NN data fun a2 =>
  ∃ n2 : Int, cell h (a2.add (Int.toNat pivot * 1)) = some (.int .i64 n2) ∧
  funV cmp fun fg1 fa1 fc1 => callX Tryz.prog F fg1 (fa1 ++ (([.int .i64 n1, .int .i64 n2] : List Value) ++ fc1)).toArray h fun v7 h8 => ∃ r4 : Int, v7 = .int .i64 r4 ∧
  cond (!(decide (r4 < 0)))
  (HCalls Tryz.prog 85 #[.slice data dataL dataC, .int .i64 a, .int .i64 b, .int .i64 pivot, cmp] h8 fun v8 h9 => ∃ r5 : Int, v8 = .int .i64 r5 ∧
  nx0 (r5, b, limit, wasBalanced, wasPartitioned, ()) h9)
  (slices_pdqsortCmpFunc_int_b5 data dataL dataC a b limit cmp length pivot h8 nx0 K))
  (slices_pdqsortCmpFunc_int_b5 data dataL dataC a b limit cmp length pivot h nx0 K)) := by kernel_rfl
theorem slices_pdqsortCmpFunc_int_b5_eq (data : Option Addr) (dataL : Nat) (dataC : Nat) (a : Int) (b : Int) (limit : Int) (cmp : Value) (length : Int) (pivot : Int) (h : Hp) (nx0 : Int × Int × Int × Bool × Bool × Unit → Hp → Prop) (K : Value → Hp → Prop) : slices_pdqsortCmpFunc_int_b5 data dataL dataC a b limit cmp length pivot h nx0 K = (
  HCalls Tryz.prog 86 #[.slice data dataL dataC, .int .i64 a, .int .i64 b, .int .i64 pivot, cmp] h fun v9 h10 => ∃ r6 : Int, ∃ r7 : Bool, v9 = .tuple #[.int .i64 r6, .bool r7] ∧
  InR (r6 - a) ∧
  InR (b - r6) ∧
  ∃ q1 : Int, Sx.Quo .i64 length 8 q1 ∧
  cond (decide ((r6 - a) < (b - r6)))
  (HCalls Tryz.prog 63 #[.slice data dataL dataC, .int .i64 a, .int .i64 r6, .int .i64 limit, cmp] h10 fun v10 h11 => v10 = .tuple #[] ∧
  InR (r6 + 1) ∧
  nx0 (r6 + 1, b, limit, decide (q1 ≤ (r6 - a)), r7, ()) h11)
  (InR (r6 + 1) ∧
  HCalls Tryz.prog 63 #[.slice data dataL dataC, .int .i64 (r6 + 1), .int .i64 b, .int .i64 limit, cmp] h10 fun v11 h12 => v11 = .tuple #[] ∧
  nx0 (a, r6, limit, decide (q1 ≤ (b - r6)), r7, ()) h12)) := by kernel_rfl
theorem slices_pdqsortCmpFunc_int_call {data : Option Addr} {dataL : Nat} {dataC : Nat} {a : Int} {b : Int} {limit : Int} {cmp : Value} {h : Hp} {K : Value → Hp → Prop} (hk : slices_pdqsortCmpFunc_int_b0 data dataL dataC a b limit cmp h K) : HCalls Tryz.prog 63 #[.slice data dataL dataC, .int .i64 a, .int .i64 b, .int .i64 limit, cmp] h K :=
  calls_of_snd slices_pdqsortCmpFunc_int_an Tryz.func63 (c := bodyOf Tryz.f63) rfl Tryz.ntmps63 (Nat.le_of_ble_eq_true rfl) (snd_6 F_ok F_mixed) hk

/-! ### math_bits_Len -/
def math_bits_Len_an : Ann := .leaf
def math_bits_Len_K0  (K : Value → Hp → Prop) : Exit → Env → Hp → Prop := retK Tryz.prog Tryz.f64.results.toList K
def math_bits_Len_b0 (x : Int) (h : Hp)  (K : Value → Hp → Prop) : Prop :=
  sx_1 Tryz.prog F 8 (cp [] (bodyOf Tryz.f64)) (ap [] math_bits_Len_an) [(0, .int .u64 x)] h (math_bits_Len_K0  K)
theorem math_bits_Len_b0_eq (x : Int) (h : Hp)  (K : Value → Hp → Prop) : math_bits_Len_b0 x h  K = (
  HCalls Tryz.prog 88 #[.int .u64 x] h fun v1 h1 => ∃ r1 : Int, v1 = .int .i64 r1 ∧
  K (.int .i64 r1) h1) := by kernel_rfl
theorem math_bits_Len_call {x : Int} {h : Hp} {K : Value → Hp → Prop} (hk : math_bits_Len_b0 x h K) : HCalls Tryz.prog 64 #[.int .u64 x] h K :=
  calls_of_snd math_bits_Len_an Tryz.func64 (c := bodyOf Tryz.f64) rfl Tryz.ntmps64 (Nat.le_of_ble_eq_true rfl) (snd_1 F_ok F_mixed) hk

/-! ### cmp_isNaN_int -/
def cmp_isNaN_int_an : Ann := .leaf
def cmp_isNaN_int_K0  (K : Value → Hp → Prop) : Exit → Env → Hp → Prop := retK Tryz.prog Tryz.f65.results.toList K
def cmp_isNaN_int_b0 (x : Int) (h : Hp)  (K : Value → Hp → Prop) : Prop :=
  sx_1 Tryz.prog F 6 (cp [] (bodyOf Tryz.f65)) (ap [] cmp_isNaN_int_an) [(0, .int .i64 x)] h (cmp_isNaN_int_K0  K)
theorem cmp_isNaN_int_b0_eq (x : Int) (h : Hp)  (K : Value → Hp → Prop) : cmp_isNaN_int_b0 x h  K = (
  K (.bool (!decide (x = x))) h) := by kernel_rfl
theorem cmp_isNaN_int_call {x : Int} {h : Hp} {K : Value → Hp → Prop} (hk : cmp_isNaN_int_b0 x h K) : HCalls Tryz.prog 65 #[.int .i64 x] h K :=
  calls_of_snd cmp_isNaN_int_an Tryz.func65 (c := bodyOf Tryz.f65) rfl Tryz.ntmps65 (Nat.le_of_ble_eq_true rfl) (snd_1 F_ok F_mixed) hk

end Go.Proofs.YtfkccighnkepgaaGreat
