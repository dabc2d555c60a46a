/- Plain statements of what each block of code of this seat asks; printed by a program, checked by Lean. -/
import Derived.Test.YtkdmcdnfakmapaaGreatSxV0
set_option maxRecDepth 10000
namespace Go.Proofs.YtkdmcdnfakmapaaGreat
open Go Go.Sx

/-! ### btree_Tree_ceiling -/
def btree_Tree_ceiling_an : Ann := .node none (.leaf) (.node (some [4, 5, 6]) (.node none (.leaf) (.loop [0, 1] [(4, .int .i64), (5, .int .i64), (6, .bool), (7, .ptr)] (.node none (.leaf) (.node none (.leaf) (.node none (.leaf) (.node none (.leaf) (.node (some [0, 1, 4, 5, 6, 7, 8]) (.leaf) (.leaf)))))))) (.leaf))
def btree_Tree_ceiling_K0  (K : Value → Hp → Prop) : Exit → Env → Hp → Prop := retK Tryz.prog Tryz.f62.results.toList K
def btree_Tree_ceiling_K1  (K : Value → Hp → Prop) : Exit → Env → Hp → Prop := thenE (fun env h => sx_2 Tryz.prog F 74 (cp [1, 1] (bodyOf Tryz.f62)) (ap [1, 1] btree_Tree_ceiling_an) (rs [4, 5, 6] env) h (btree_Tree_ceiling_K0  K)) (btree_Tree_ceiling_K0  K)
def btree_Tree_ceiling_K2  (K : Value → Hp → Prop) : Exit → Env → Hp → Prop := blockE 0 (btree_Tree_ceiling_K1  K)
def btree_Tree_ceiling_K3 (nx0 : Int × Int × Bool × Option Addr × Unit → Hp → Prop) (K : Value → Hp → Prop) : Exit → Env → Hp → Prop := thenE (fun env h => getV [(4, .int .i64), (5, .int .i64), (6, .bool), (7, .ptr)] env fun s => nx0 s h) (btree_Tree_ceiling_K2  K)
def btree_Tree_ceiling_K4 (nx0 : Int × Int × Bool × Option Addr × Unit → Hp → Prop) (K : Value → Hp → Prop) : Exit → Env → Hp → Prop := blockE 1 (btree_Tree_ceiling_K3 nx0 K)
def btree_Tree_ceiling_b0 (t : Option Addr) (key : Int) (h : Hp)  (K : Value → Hp → Prop) : Prop :=
  sx_3 Tryz.prog F 74 (cp [] (bodyOf Tryz.f62)) (ap [] btree_Tree_ceiling_an) [(0, .pointer t), (1, .int .i64 key)] h (btree_Tree_ceiling_K0  K)
def btree_Tree_ceiling_b1 (k : Int) (v : Int) (ok : Bool) (nv : Option Addr) (t : Option Addr) (key : Int) (h : Hp) (nx0 : Int × Int × Bool × Option Addr × Unit → Hp → Prop) (K : Value → Hp → Prop) : Prop :=
  sx_2 Tryz.prog F 74 (cp [1, 0, 1, 2, 2] (bodyOf Tryz.f62)) (ap [1, 0, 1, 2] btree_Tree_ceiling_an) [(4, .int .i64 k), (5, .int .i64 v), (6, .bool ok), (7, .pointer nv), (0, .pointer t), (1, .int .i64 key)] h (btree_Tree_ceiling_K3 nx0 K)
def btree_Tree_ceiling_b2 (t : Option Addr) (key : Int) (k : Int) (v : Int) (ok : Bool) (nv : Option Addr) (i : Int) (h : Hp) (nx0 : Int × Int × Bool × Option Addr × Unit → Hp → Prop) (K : Value → Hp → Prop) : Prop :=
  sx_1 Tryz.prog F 74 (cp [1, 0, 1, 2, 2, 1, 2, 1, 1, 1, 1] (bodyOf Tryz.f62)) (ap [1, 0, 1, 2, 1, 1, 1, 1, 1] btree_Tree_ceiling_an) [(0, .pointer t), (1, .int .i64 key), (4, .int .i64 k), (5, .int .i64 v), (6, .bool ok), (7, .pointer nv), (8, .int .i64 i)] h (btree_Tree_ceiling_K4 nx0 K)
def btree_Tree_ceiling_b3 (k : Int) (v : Int) (ok : Bool) (h : Hp)  (K : Value → Hp → Prop) : Prop :=
  sx_2 Tryz.prog F 74 (cp [1, 1] (bodyOf Tryz.f62)) (ap [1, 1] btree_Tree_ceiling_an) [(4, .int .i64 k), (5, .int .i64 v), (6, .bool ok)] h (btree_Tree_ceiling_K0  K)
theorem btree_Tree_ceiling_b0_eq (t : Option Addr) (key : Int) (h : Hp)  (K : Value → Hp → Prop) : btree_Tree_ceiling_b0 t key h  K = (
  NN t fun a1 =>
  ∃ p1 : Option Addr, cell h (a1.add 2) = some (.pointer p1) ∧
  LoopVC ((0, 0, false, p1, ()) : Int × Int × Bool × Option Addr × Unit) h (fun (nx0 : Int × Int × Bool × Option Addr × Unit → Hp → Prop) (s1 : Int × Int × Bool × Option Addr × Unit) h1 => btree_Tree_ceiling_b1 s1.1 s1.2.1 s1.2.2.1 s1.2.2.2.1 t key h1 nx0 K)) := by kernel_rfl
theorem btree_Tree_ceiling_b1_eq (k : Int) (v : Int) (ok : Bool) (nv : Option Addr) (t : Option Addr) (key : Int) (h : Hp) (nx0 : Int × Int × Bool × Option Addr × Unit → Hp → Prop) (K : Value → Hp → Prop) : btree_Tree_ceiling_b1 k v ok nv t key h nx0 K = (
  cond (!nv.isNone)
  (NN t fun a2 =>
  ∃ n1 : Int, cell h (a2.add 3) = some (.int .i64 n1) ∧
  InR (n1 + 1) ∧
  NN t fun a3 =>
  Wr h (a3.add 3) (.int .i64 (n1 + 1)) fun h2 =>
  NN nv fun a4 =>
  ∃ (a5 : Option Addr) (L1 C1 : Nat), cell h2 a4 = some (.slice a5 L1 C1) ∧
  HCalls Tryz.prog 68 #[.slice a5 L1 C1, .int .i64 key] h2 fun v1 h3 => ∃ r1 : Int, ∃ r2 : Bool, v1 = .tuple #[.int .i64 r1, .bool r2] ∧
  cond r2
  (NN nv fun a6 =>
  ∃ (a7 : Option Addr) (L2 C2 : Nat), cell h3 (a6.add 1) = some (.slice a7 L2 C2) ∧
  (0 ≤ r1 ∧ r1 < (L2 : Int)) ∧
  NN a7 fun a8 =>
  ∃ n2 : Int, cell h3 (a8.add (Int.toNat r1 * 1)) = some (.int .i64 n2) ∧
  K (.tuple #[.int .i64 key, .int .i64 n2, .bool true]) h3)
  (NN nv fun a9 =>
  ∃ (a10 : Option Addr) (L3 C3 : Nat), cell h3 a9 = some (.slice a10 L3 C3) ∧
  cond (decide (r1 < (L3 : Int)))
  (NN nv fun a11 =>
  ∃ (a12 : Option Addr) (L4 C4 : Nat), cell h3 a11 = some (.slice a12 L4 C4) ∧
  (0 ≤ r1 ∧ r1 < (L4 : Int)) ∧
  NN a12 fun a13 =>
  ∃ n3 : Int, cell h3 (a13.add (Int.toNat r1 * 1)) = some (.int .i64 n3) ∧
  NN nv fun a14 =>
  ∃ (a15 : Option Addr) (L5 C5 : Nat), cell h3 (a14.add 1) = some (.slice a15 L5 C5) ∧
  (0 ≤ r1 ∧ r1 < (L5 : Int)) ∧
  NN a15 fun a16 =>
  ∃ n4 : Int, cell h3 (a16.add (Int.toNat r1 * 1)) = some (.int .i64 n4) ∧
  btree_Tree_ceiling_b2 t key n3 n4 true nv r1 h3 nx0 K)
  (btree_Tree_ceiling_b2 t key k v ok nv r1 h3 nx0 K)))
  (btree_Tree_ceiling_b3 k v ok h  K)) := by kernel_rfl
theorem btree_Tree_ceiling_b2_eq (t : Option Addr) (key : Int) (k : Int) (v : Int) (ok : Bool) (nv : Option Addr) (i : Int) (h : Hp) (nx0 : Int × Int × Bool × Option Addr × Unit → Hp → Prop) (K : Value → Hp → Prop) : btree_Tree_ceiling_b2 t key k v ok nv i h nx0 K = (
  HCalls Tryz.prog 60 #[.pointer nv] h fun v2 h4 => ∃ r3 : Bool, v2 = .bool r3 ∧
  cond r3
  (btree_Tree_ceiling_b3 k v ok h4  K)
  (NN nv fun a17 =>
  ∃ (a18 : Option Addr) (L6 C6 : Nat), cell h4 (a17.add 2) = some (.slice a18 L6 C6) ∧
  (0 ≤ i ∧ i < (L6 : Int)) ∧
  NN a18 fun a19 =>
  ∃ p2 : Option Addr, cell h4 (a19.add (Int.toNat i * 1)) = some (.pointer p2) ∧
  nx0 (k, v, ok, p2, ()) h4)) := by kernel_rfl
theorem btree_Tree_ceiling_b3_eq (k : Int) (v : Int) (ok : Bool) (h : Hp)  (K : Value → Hp → Prop) : btree_Tree_ceiling_b3 k v ok h  K = (
  K (.tuple #[.int .i64 k, .int .i64 v, .bool ok]) h) := by kernel_rfl
theorem btree_Tree_ceiling_call {t : Option Addr} {key : Int} {h : Hp} {K : Value → Hp → Prop} (hk : btree_Tree_ceiling_b0 t key h K) : HCalls Tryz.prog 62 #[.pointer t, .int .i64 key] h K :=
  calls_of_snd btree_Tree_ceiling_an Tryz.func62 (c := bodyOf Tryz.f62) rfl Tryz.ntmps62 (Nat.le_of_ble_eq_true rfl) (snd_3 F_ok F_mixed) hk

/-! ### btree_Tree_at_c1 -/
def btree_Tree_at_c1_an : Ann := .leaf
def btree_Tree_at_c1_K0  (K : Value → Hp → Prop) : Exit → Env → Hp → Prop := retK Tryz.prog Tryz.f63.results.toList K
def btree_Tree_at_c1_b0 (k : Int) (t1 : Int) (t2 : Option Addr) (t3 : Option Addr) (h : Hp)  (K : Value → Hp → Prop) : Prop :=
  sx_1 Tryz.prog F 12 (cp [] (bodyOf Tryz.f63)) (ap [] btree_Tree_at_c1_an) [(0, .int .i64 k), (1, .int .i64 t1), (2, .pointer t2), (3, .pointer t3)] h (btree_Tree_at_c1_K0  K)
theorem btree_Tree_at_c1_b0_eq (k : Int) (t1 : Int) (t2 : Option Addr) (t3 : Option Addr) (h : Hp)  (K : Value → Hp → Prop) : btree_Tree_at_c1_b0 k t1 t2 t3 h  K = (
  NN t2 fun a1 =>
  Wr h a1 (.int .i64 k) fun h1 =>
  NN t3 fun a2 =>
  ∃ n1 : Int, cell h1 a2 = some (.int .i64 n1) ∧
  InR (n1 - 1) ∧
  NN t3 fun a3 =>
  Wr h1 a3 (.int .i64 (n1 - 1)) fun h2 =>
  NN t3 fun a4 =>
  ∃ n2 : Int, cell h2 a4 = some (.int .i64 n2) ∧
  K (.bool (decide ((0 : Int) ≤ n2))) h2) := by kernel_rfl
theorem btree_Tree_at_c1_call {k : Int} {t1 : Int} {t2 : Option Addr} {t3 : Option Addr} {h : Hp} {K : Value → Hp → Prop} (hk : btree_Tree_at_c1_b0 k t1 t2 t3 h K) : HCalls Tryz.prog 63 #[.int .i64 k, .int .i64 t1, .pointer t2, .pointer t3] h K :=
  calls_of_snd btree_Tree_at_c1_an Tryz.func63 (c := bodyOf Tryz.f63) rfl Tryz.ntmps63 (Nat.le_of_ble_eq_true rfl) (snd_1 F_ok F_mixed) hk

/-! ### btree_number_c1 -/
def btree_number_c1_an : Ann := .leaf
def btree_number_c1_K0  (K : Value → Hp → Prop) : Exit → Env → Hp → Prop := retK Tryz.prog Tryz.f64.results.toList K
def btree_number_c1_b0 (nv : Int) (h : Hp)  (K : Value → Hp → Prop) : Prop :=
  sx_1 Tryz.prog F 9 (cp [] (bodyOf Tryz.f64)) (ap [] btree_number_c1_an) [(0, .int .i64 nv)] h (btree_number_c1_K0  K)
theorem btree_number_c1_b0_eq (nv : Int) (h : Hp)  (K : Value → Hp → Prop) : btree_number_c1_b0 nv h  K = (
  cond (decide (nv < (-1048576)))
  (K (.bool true) h)
  (K (.bool (decide ((1048576 : Int) < nv))) h)) := by kernel_rfl
theorem btree_number_c1_call {nv : Int} {h : Hp} {K : Value → Hp → Prop} (hk : btree_number_c1_b0 nv h K) : HCalls Tryz.prog 64 #[.int .i64 nv] h K :=
  calls_of_snd btree_number_c1_an Tryz.func64 (c := bodyOf Tryz.f64) rfl Tryz.ntmps64 (Nat.le_of_ble_eq_true rfl) (snd_1 F_ok F_mixed) hk

/-! ### slices_Insert_Sint_int -/
def slices_Insert_Sint_int_an : Ann := .node none (.leaf) (.node none (.leaf) (.node none (.leaf) (.node none (.leaf) (.node none (.leaf) (.node none (.leaf) (.node none (.node none (.leaf) (.node none (.node none (.leaf) (.node none (.leaf) (.node none (.tail 8) (.leaf)))) (.leaf))) (.node none (.leaf) (.node none (.node none (.leaf) (.node none (.node none (.tail 8) (.leaf)) (.leaf))) (.leaf)))))))))
def slices_Insert_Sint_int_K0  (K : Value → Hp → Prop) : Exit → Env → Hp → Prop := retK Tryz.prog Tryz.f65.results.toList K
def slices_Insert_Sint_int_b0 (s : Option Addr) (sL : Nat) (sC : Nat) (i : Int) (v : Option Addr) (vL : Nat) (vC : Nat) (h : Hp)  (K : Value → Hp → Prop) : Prop :=
  sx_1 Tryz.prog F 95 (cp [] (bodyOf Tryz.f65)) (ap [] slices_Insert_Sint_int_an) [(0, .slice s sL sC), (1, .int .i64 i), (2, .slice v vL vC)] h (slices_Insert_Sint_int_K0  K)
theorem slices_Insert_Sint_int_b0_eq (s : Option Addr) (sL : Nat) (sC : Nat) (i : Int) (v : Option Addr) (vL : Nat) (vC : Nat) (h : Hp)  (K : Value → Hp → Prop) : slices_Insert_Sint_int_b0 s sL sC i v vL vC h  K = (
  (0 ≤ i ∧ i ≤ (sL : Int) ∧ (sL : Int) ≤ (sC : Int)) ∧
  cond (decide ((vL : Int) = 0))
  (K (.slice s sL sC) h)
  (cond (decide (i = (sL : Int)))
  (appendV Tryz.prog 37 37 (.slice s sL sC) (.slice v vL vC) h (slK fun a1 l1 c1 h1 =>
  K (.slice a1 l1 c1) h1))
  (InR ((sL : Int) + (vL : Int)) ∧
  cond (decide ((sC : Int) < ((sL : Int) + (vL : Int))))
  ((0 ≤ (0 : Int) ∧ (0 : Int) ≤ i ∧ i ≤ (sC : Int)) ∧
  InR ((sL : Int) + (vL : Int)) ∧
  InR (((sL : Int) + (vL : Int)) - i) ∧
  appendV Tryz.prog 37 3 (.slice (subAddr s sC (Int.toNat (0 : Int)) 1) (Int.toNat i - Int.toNat (0 : Int)) (sC - Int.toNat (0 : Int))) (.int .i64 (((sL : Int) + (vL : Int)) - i)) h (slK fun a2 l2 c2 h2 =>
  (0 ≤ i ∧ i ≤ (l2 : Int) ∧ (l2 : Int) ≤ (c2 : Int)) ∧
  copyV Tryz.prog 37 (.slice (subAddr a2 c2 (Int.toNat i) 1) (Int.toNat (l2 : Int) - Int.toNat i) (c2 - Int.toNat i)) (.slice v vL vC) h2 fun v1 h3 =>
  InR (i + (vL : Int)) ∧
  (0 ≤ i + (vL : Int) ∧ i + (vL : Int) ≤ (l2 : Int) ∧ (l2 : Int) ≤ (c2 : Int)) ∧
  (0 ≤ i ∧ i ≤ (sL : Int) ∧ (sL : Int) ≤ (sC : Int)) ∧
  copyV Tryz.prog 37 (.slice (subAddr a2 c2 (Int.toNat (i + (vL : Int))) 1) (Int.toNat (l2 : Int) - Int.toNat (i + (vL : Int))) (c2 - Int.toNat (i + (vL : Int)))) (.slice (subAddr s sC (Int.toNat i) 1) (Int.toNat (sL : Int) - Int.toNat i) (sC - Int.toNat i)) h3 fun v2 h4 =>
  K (.slice a2 l2 c2) h4))
  (InR ((sL : Int) + (vL : Int)) ∧
  (0 ≤ (0 : Int) ∧ (0 : Int) ≤ (sL : Int) + (vL : Int) ∧ (sL : Int) + (vL : Int) ≤ (sC : Int)) ∧
  InR (i + (vL : Int)) ∧
  (0 ≤ i + (vL : Int) ∧ i + (vL : Int) ≤ ((Int.toNat ((sL : Int) + (vL : Int)) - Int.toNat (0 : Int) : Nat) : Int) ∧ ((Int.toNat ((sL : Int) + (vL : Int)) - Int.toNat (0 : Int) : Nat) : Int) ≤ ((sC - Int.toNat (0 : Int) : Nat) : Int)) ∧
  ExtCall Tryz.prog 88 #[.slice v vL vC, .slice (subAddr (subAddr s sC (Int.toNat (0 : Int)) 1) (sC - Int.toNat (0 : Int)) (Int.toNat (i + (vL : Int))) 1) (Int.toNat ((Int.toNat ((sL : Int) + (vL : Int)) - Int.toNat (0 : Int) : Nat) : Int) - Int.toNat (i + (vL : Int))) ((sC - Int.toNat (0 : Int)) - Int.toNat (i + (vL : Int)))] h fun v3 => ∃ r1 : Bool, v3 = .bool r1 ∧
  cond (!r1)
  (InR (i + (vL : Int)) ∧
  (0 ≤ i + (vL : Int) ∧ i + (vL : Int) ≤ ((Int.toNat ((sL : Int) + (vL : Int)) - Int.toNat (0 : Int) : Nat) : Int) ∧ ((Int.toNat ((sL : Int) + (vL : Int)) - Int.toNat (0 : Int) : Nat) : Int) ≤ ((sC - Int.toNat (0 : Int) : Nat) : Int)) ∧
  (0 ≤ i ∧ i ≤ ((Int.toNat ((sL : Int) + (vL : Int)) - Int.toNat (0 : Int) : Nat) : Int) ∧ ((Int.toNat ((sL : Int) + (vL : Int)) - Int.toNat (0 : Int) : Nat) : Int) ≤ ((sC - Int.toNat (0 : Int) : Nat) : Int)) ∧
  copyV Tryz.prog 37 (.slice (subAddr (subAddr s sC (Int.toNat (0 : Int)) 1) (sC - Int.toNat (0 : Int)) (Int.toNat (i + (vL : Int))) 1) (Int.toNat ((Int.toNat ((sL : Int) + (vL : Int)) - Int.toNat (0 : Int) : Nat) : Int) - Int.toNat (i + (vL : Int))) ((sC - Int.toNat (0 : Int)) - Int.toNat (i + (vL : Int)))) (.slice (subAddr (subAddr s sC (Int.toNat (0 : Int)) 1) (sC - Int.toNat (0 : Int)) (Int.toNat i) 1) (Int.toNat ((Int.toNat ((sL : Int) + (vL : Int)) - Int.toNat (0 : Int) : Nat) : Int) - Int.toNat i) ((sC - Int.toNat (0 : Int)) - Int.toNat i)) h fun v4 h6 =>
  (0 ≤ i ∧ i ≤ ((Int.toNat ((sL : Int) + (vL : Int)) - Int.toNat (0 : Int) : Nat) : Int) ∧ ((Int.toNat ((sL : Int) + (vL : Int)) - Int.toNat (0 : Int) : Nat) : Int) ≤ ((sC - Int.toNat (0 : Int) : Nat) : Int)) ∧
  copyV Tryz.prog 37 (.slice (subAddr (subAddr s sC (Int.toNat (0 : Int)) 1) (sC - Int.toNat (0 : Int)) (Int.toNat i) 1) (Int.toNat ((Int.toNat ((sL : Int) + (vL : Int)) - Int.toNat (0 : Int) : Nat) : Int) - Int.toNat i) ((sC - Int.toNat (0 : Int)) - Int.toNat i)) (.slice v vL vC) h6 fun v5 h7 =>
  K (.slice (subAddr s sC (Int.toNat (0 : Int)) 1) (Int.toNat ((sL : Int) + (vL : Int)) - Int.toNat (0 : Int)) (sC - Int.toNat (0 : Int))) h7)
  ((0 ≤ (sL : Int) ∧ (sL : Int) ≤ ((Int.toNat ((sL : Int) + (vL : Int)) - Int.toNat (0 : Int) : Nat) : Int) ∧ ((Int.toNat ((sL : Int) + (vL : Int)) - Int.toNat (0 : Int) : Nat) : Int) ≤ ((sC - Int.toNat (0 : Int) : Nat) : Int)) ∧
  copyV Tryz.prog 37 (.slice (subAddr (subAddr s sC (Int.toNat (0 : Int)) 1) (sC - Int.toNat (0 : Int)) (Int.toNat (sL : Int)) 1) (Int.toNat ((Int.toNat ((sL : Int) + (vL : Int)) - Int.toNat (0 : Int) : Nat) : Int) - Int.toNat (sL : Int)) ((sC - Int.toNat (0 : Int)) - Int.toNat (sL : Int))) (.slice v vL vC) h fun v6 h8 =>
  (0 ≤ i ∧ i ≤ ((Int.toNat ((sL : Int) + (vL : Int)) - Int.toNat (0 : Int) : Nat) : Int) ∧ ((Int.toNat ((sL : Int) + (vL : Int)) - Int.toNat (0 : Int) : Nat) : Int) ≤ ((sC - Int.toNat (0 : Int) : Nat) : Int)) ∧
  HCalls Tryz.prog 89 #[.slice (subAddr (subAddr s sC (Int.toNat (0 : Int)) 1) (sC - Int.toNat (0 : Int)) (Int.toNat i) 1) (Int.toNat ((Int.toNat ((sL : Int) + (vL : Int)) - Int.toNat (0 : Int) : Nat) : Int) - Int.toNat i) ((sC - Int.toNat (0 : Int)) - Int.toNat i), .int .i64 (vL : Int)] h8 fun v7 h9 => v7 = .tuple #[] ∧
  K (.slice (subAddr s sC (Int.toNat (0 : Int)) 1) (Int.toNat ((sL : Int) + (vL : Int)) - Int.toNat (0 : Int)) (sC - Int.toNat (0 : Int))) h9))))) := by kernel_rfl
theorem slices_Insert_Sint_int_call {s : Option Addr} {sL : Nat} {sC : Nat} {i : Int} {v : Option Addr} {vL : Nat} {vC : Nat} {h : Hp} {K : Value → Hp → Prop} (hk : slices_Insert_Sint_int_b0 s sL sC i v vL vC h K) : HCalls Tryz.prog 65 #[.slice s sL sC, .int .i64 i, .slice v vL vC] h K :=
  calls_of_snd slices_Insert_Sint_int_an Tryz.func65 (c := bodyOf Tryz.f65) rfl Tryz.ntmps65 (Nat.le_of_ble_eq_true rfl) (snd_1 F_ok F_mixed) hk

/-! ### slices_Insert_btree_node_btree_node -/
def slices_Insert_btree_node_btree_node_an : Ann := .node none (.leaf) (.node none (.leaf) (.node none (.leaf) (.node none (.leaf) (.node none (.leaf) (.node none (.leaf) (.node none (.node none (.leaf) (.node none (.node none (.leaf) (.node none (.leaf) (.node none (.tail 8) (.leaf)))) (.leaf))) (.node none (.leaf) (.node none (.node none (.leaf) (.node none (.node none (.tail 8) (.leaf)) (.leaf))) (.leaf)))))))))
def slices_Insert_btree_node_btree_node_K0  (K : Value → Hp → Prop) : Exit → Env → Hp → Prop := retK Tryz.prog Tryz.f66.results.toList K
def slices_Insert_btree_node_btree_node_b0 (s : Option Addr) (sL : Nat) (sC : Nat) (i : Int) (v : Option Addr) (vL : Nat) (vC : Nat) (h : Hp)  (K : Value → Hp → Prop) : Prop :=
  sx_1 Tryz.prog F 95 (cp [] (bodyOf Tryz.f66)) (ap [] slices_Insert_btree_node_btree_node_an) [(0, .slice s sL sC), (1, .int .i64 i), (2, .slice v vL vC)] h (slices_Insert_btree_node_btree_node_K0  K)
theorem slices_Insert_btree_node_btree_node_b0_eq (s : Option Addr) (sL : Nat) (sC : Nat) (i : Int) (v : Option Addr) (vL : Nat) (vC : Nat) (h : Hp)  (K : Value → Hp → Prop) : slices_Insert_btree_node_btree_node_b0 s sL sC i v vL vC h  K = (
  (0 ≤ i ∧ i ≤ (sL : Int) ∧ (sL : Int) ≤ (sC : Int)) ∧
  cond (decide ((vL : Int) = 0))
  (K (.slice s sL sC) h)
  (cond (decide (i = (sL : Int)))
  (appendV Tryz.prog 83 83 (.slice s sL sC) (.slice v vL vC) h (slK fun a1 l1 c1 h1 =>
  K (.slice a1 l1 c1) h1))
  (InR ((sL : Int) + (vL : Int)) ∧
  cond (decide ((sC : Int) < ((sL : Int) + (vL : Int))))
  ((0 ≤ (0 : Int) ∧ (0 : Int) ≤ i ∧ i ≤ (sC : Int)) ∧
  InR ((sL : Int) + (vL : Int)) ∧
  InR (((sL : Int) + (vL : Int)) - i) ∧
  appendV Tryz.prog 83 3 (.slice (subAddr s sC (Int.toNat (0 : Int)) 1) (Int.toNat i - Int.toNat (0 : Int)) (sC - Int.toNat (0 : Int))) (.int .i64 (((sL : Int) + (vL : Int)) - i)) h (slK fun a2 l2 c2 h2 =>
  (0 ≤ i ∧ i ≤ (l2 : Int) ∧ (l2 : Int) ≤ (c2 : Int)) ∧
  copyV Tryz.prog 83 (.slice (subAddr a2 c2 (Int.toNat i) 1) (Int.toNat (l2 : Int) - Int.toNat i) (c2 - Int.toNat i)) (.slice v vL vC) h2 fun v1 h3 =>
  InR (i + (vL : Int)) ∧
  (0 ≤ i + (vL : Int) ∧ i + (vL : Int) ≤ (l2 : Int) ∧ (l2 : Int) ≤ (c2 : Int)) ∧
  (0 ≤ i ∧ i ≤ (sL : Int) ∧ (sL : Int) ≤ (sC : Int)) ∧
  copyV Tryz.prog 83 (.slice (subAddr a2 c2 (Int.toNat (i + (vL : Int))) 1) (Int.toNat (l2 : Int) - Int.toNat (i + (vL : Int))) (c2 - Int.toNat (i + (vL : Int)))) (.slice (subAddr s sC (Int.toNat i) 1) (Int.toNat (sL : Int) - Int.toNat i) (sC - Int.toNat i)) h3 fun v2 h4 =>
  K (.slice a2 l2 c2) h4))
  (InR ((sL : Int) + (vL : Int)) ∧
  (0 ≤ (0 : Int) ∧ (0 : Int) ≤ (sL : Int) + (vL : Int) ∧ (sL : Int) + (vL : Int) ≤ (sC : Int)) ∧
  InR (i + (vL : Int)) ∧
  (0 ≤ i + (vL : Int) ∧ i + (vL : Int) ≤ ((Int.toNat ((sL : Int) + (vL : Int)) - Int.toNat (0 : Int) : Nat) : Int) ∧ ((Int.toNat ((sL : Int) + (vL : Int)) - Int.toNat (0 : Int) : Nat) : Int) ≤ ((sC - Int.toNat (0 : Int) : Nat) : Int)) ∧
  ExtCall Tryz.prog 90 #[.slice v vL vC, .slice (subAddr (subAddr s sC (Int.toNat (0 : Int)) 1) (sC - Int.toNat (0 : Int)) (Int.toNat (i + (vL : Int))) 1) (Int.toNat ((Int.toNat ((sL : Int) + (vL : Int)) - Int.toNat (0 : Int) : Nat) : Int) - Int.toNat (i + (vL : Int))) ((sC - Int.toNat (0 : Int)) - Int.toNat (i + (vL : Int)))] h fun v3 => ∃ r1 : Bool, v3 = .bool r1 ∧
  cond (!r1)
  (InR (i + (vL : Int)) ∧
  (0 ≤ i + (vL : Int) ∧ i + (vL : Int) ≤ ((Int.toNat ((sL : Int) + (vL : Int)) - Int.toNat (0 : Int) : Nat) : Int) ∧ ((Int.toNat ((sL : Int) + (vL : Int)) - Int.toNat (0 : Int) : Nat) : Int) ≤ ((sC - Int.toNat (0 : Int) : Nat) : Int)) ∧
  (0 ≤ i ∧ i ≤ ((Int.toNat ((sL : Int) + (vL : Int)) - Int.toNat (0 : Int) : Nat) : Int) ∧ ((Int.toNat ((sL : Int) + (vL : Int)) - Int.toNat (0 : Int) : Nat) : Int) ≤ ((sC - Int.toNat (0 : Int) : Nat) : Int)) ∧
  copyV Tryz.prog 83 (.slice (subAddr (subAddr s sC (Int.toNat (0 : Int)) 1) (sC - Int.toNat (0 : Int)) (Int.toNat (i + (vL : Int))) 1) (Int.toNat ((Int.toNat ((sL : Int) + (vL : Int)) - Int.toNat (0 : Int) : Nat) : Int) - Int.toNat (i + (vL : Int))) ((sC - Int.toNat (0 : Int)) - Int.toNat (i + (vL : Int)))) (.slice (subAddr (subAddr s sC (Int.toNat (0 : Int)) 1) (sC - Int.toNat (0 : Int)) (Int.toNat i) 1) (Int.toNat ((Int.toNat ((sL : Int) + (vL : Int)) - Int.toNat (0 : Int) : Nat) : Int) - Int.toNat i) ((sC - Int.toNat (0 : Int)) - Int.toNat i)) h fun v4 h6 =>
  (0 ≤ i ∧ i ≤ ((Int.toNat ((sL : Int) + (vL : Int)) - Int.toNat (0 : Int) : Nat) : Int) ∧ ((Int.toNat ((sL : Int) + (vL : Int)) - Int.toNat (0 : Int) : Nat) : Int) ≤ ((sC - Int.toNat (0 : Int) : Nat) : Int)) ∧
  copyV Tryz.prog 83 (.slice (subAddr (subAddr s sC (Int.toNat (0 : Int)) 1) (sC - Int.toNat (0 : Int)) (Int.toNat i) 1) (Int.toNat ((Int.toNat ((sL : Int) + (vL : Int)) - Int.toNat (0 : Int) : Nat) : Int) - Int.toNat i) ((sC - Int.toNat (0 : Int)) - Int.toNat i)) (.slice v vL vC) h6 fun v5 h7 =>
  K (.slice (subAddr s sC (Int.toNat (0 : Int)) 1) (Int.toNat ((sL : Int) + (vL : Int)) - Int.toNat (0 : Int)) (sC - Int.toNat (0 : Int))) h7)
  ((0 ≤ (sL : Int) ∧ (sL : Int) ≤ ((Int.toNat ((sL : Int) + (vL : Int)) - Int.toNat (0 : Int) : Nat) : Int) ∧ ((Int.toNat ((sL : Int) + (vL : Int)) - Int.toNat (0 : Int) : Nat) : Int) ≤ ((sC - Int.toNat (0 : Int) : Nat) : Int)) ∧
  copyV Tryz.prog 83 (.slice (subAddr (subAddr s sC (Int.toNat (0 : Int)) 1) (sC - Int.toNat (0 : Int)) (Int.toNat (sL : Int)) 1) (Int.toNat ((Int.toNat ((sL : Int) + (vL : Int)) - Int.toNat (0 : Int) : Nat) : Int) - Int.toNat (sL : Int)) ((sC - Int.toNat (0 : Int)) - Int.toNat (sL : Int))) (.slice v vL vC) h fun v6 h8 =>
  (0 ≤ i ∧ i ≤ ((Int.toNat ((sL : Int) + (vL : Int)) - Int.toNat (0 : Int) : Nat) : Int) ∧ ((Int.toNat ((sL : Int) + (vL : Int)) - Int.toNat (0 : Int) : Nat) : Int) ≤ ((sC - Int.toNat (0 : Int) : Nat) : Int)) ∧
  HCalls Tryz.prog 91 #[.slice (subAddr (subAddr s sC (Int.toNat (0 : Int)) 1) (sC - Int.toNat (0 : Int)) (Int.toNat i) 1) (Int.toNat ((Int.toNat ((sL : Int) + (vL : Int)) - Int.toNat (0 : Int) : Nat) : Int) - Int.toNat i) ((sC - Int.toNat (0 : Int)) - Int.toNat i), .int .i64 (vL : Int)] h8 fun v7 h9 => v7 = .tuple #[] ∧
  K (.slice (subAddr s sC (Int.toNat (0 : Int)) 1) (Int.toNat ((sL : Int) + (vL : Int)) - Int.toNat (0 : Int)) (sC - Int.toNat (0 : Int))) h9))))) := by kernel_rfl
theorem slices_Insert_btree_node_btree_node_call {s : Option Addr} {sL : Nat} {sC : Nat} {i : Int} {v : Option Addr} {vL : Nat} {vC : Nat} {h : Hp} {K : Value → Hp → Prop} (hk : slices_Insert_btree_node_btree_node_b0 s sL sC i v vL vC h K) : HCalls Tryz.prog 66 #[.slice s sL sC, .int .i64 i, .slice v vL vC] h K :=
  calls_of_snd slices_Insert_btree_node_btree_node_an Tryz.func66 (c := bodyOf Tryz.f66) rfl Tryz.ntmps66 (Nat.le_of_ble_eq_true rfl) (snd_1 F_ok F_mixed) hk

/-! ### btree_split -/
def btree_split_an : Ann := .node none (.leaf) (.node none (.leaf) (.node none (.leaf) (.node none (.plan (.qu 0 (.qu 1 (.qu 2 (.qu 3 (.qu 4 (.qu 5 (.qu 6 (.qu 8 (.qu 9 (.qu 10 (.qu 11 (.qu 12 (.qu 13 (.qu 14 (.wo 7 (.wo 15 (.qu 16 (.wo 17 (.wo 18 .fin .no) .no)) .no) .no)))))))))))))))) (.node (some [0, 5, 6, 7, 8]) (.leaf) (.node none (.plan (.qu 0 (.qu 1 (.qu 2 (.qu 3 (.qu 4 (.qu 5 (.qu 6 (.qu 7 (.qu 9 (.qu 10 (.qu 11 (.qu 12 (.qu 13 (.qu 14 (.wo 8 (.wo 15 (.qu 16 (.qu 17 (.wo 18 (.qu 19 (.qu 20 (.wo 21 .fin .no))) .no))) .no) .no)))))))))))))))) (.leaf))))))
def btree_split_K0  (K : Value → Hp → Prop) : Exit → Env → Hp → Prop := retK Tryz.prog Tryz.f67.results.toList K
def btree_split_b0 (nv : Option Addr) (h : Hp)  (K : Value → Hp → Prop) : Prop :=
  sx_2 Tryz.prog F 95 (cp [] (bodyOf Tryz.f67)) (ap [] btree_split_an) [(0, .pointer nv)] h (btree_split_K0  K)
def btree_split_b1 (nv : Option Addr) (m : Int) (key : Int) (value : Int) (right : Option Addr) (h : Hp)  (K : Value → Hp → Prop) : Prop :=
  sx_1 Tryz.prog F 95 (cp [1, 1, 1, 1, 1] (bodyOf Tryz.f67)) (ap [1, 1, 1, 1, 1] btree_split_an) [(0, .pointer nv), (5, .int .i64 m), (6, .int .i64 key), (7, .int .i64 value), (8, .pointer right)] h (btree_split_K0  K)
theorem btree_split_b0_eq (nv : Option Addr) (h : Hp)  (K : Value → Hp → Prop) : btree_split_b0 nv h  K = (
  NN nv fun a1 =>
  ∃ (a2 : Option Addr) (L1 C1 : Nat), cell h a1 = some (.slice a2 L1 C1) ∧
  ∃ q1 : Int, Sx.Quo .i64 (L1 : Int) 2 q1 ∧
  NN nv fun a3 =>
  ∃ (a4 : Option Addr) (L2 C2 : Nat), cell h a3 = some (.slice a4 L2 C2) ∧
  (0 ≤ q1 ∧ q1 < (L2 : Int)) ∧
  NN a4 fun a5 =>
  ∃ n1 : Int, cell h (a5.add (Int.toNat q1 * 1)) = some (.int .i64 n1) ∧
  NN nv fun a6 =>
  ∃ (a7 : Option Addr) (L3 C3 : Nat), cell h (a6.add 1) = some (.slice a7 L3 C3) ∧
  (0 ≤ q1 ∧ q1 < (L3 : Int)) ∧
  NN a7 fun a8 =>
  ∃ n2 : Int, cell h (a8.add (Int.toNat q1 * 1)) = some (.int .i64 n2) ∧
  NN nv fun a9 =>
  ∃ (a10 : Option Addr) (L4 C4 : Nat), cell h a9 = some (.slice a10 L4 C4) ∧
  InR (q1 + 1) ∧
  (0 ≤ q1 + 1 ∧ q1 + 1 ≤ (L4 : Int) ∧ (L4 : Int) ≤ (C4 : Int)) ∧
  NN nv fun a11 =>
  ∃ (a12 : Option Addr) (L5 C5 : Nat), cell h (a11.add 1) = some (.slice a12 L5 C5) ∧
  InR (q1 + 1) ∧
  (0 ≤ q1 + 1 ∧ q1 + 1 ≤ (L5 : Int) ∧ (L5 : Int) ≤ (C5 : Int)) ∧
  HCalls Tryz.prog 40 #[.slice (subAddr a10 C4 (Int.toNat (q1 + 1)) 1) (Int.toNat (L4 : Int) - Int.toNat (q1 + 1)) (C4 - Int.toNat (q1 + 1))] h fun v1 h1 => ∃ (r1 : Option Addr) (rL1 rC1 : Nat), v1 = .slice r1 rL1 rC1 ∧
  ((0 ≤ q1 + 1 ∧ q1 + 1 ≤ (L5 : Int) ∧ (L5 : Int) ≤ (C5 : Int)) ∧
  (.slice (subAddr a12 C5 (Int.toNat (q1 + 1)) 1) (Int.toNat (L5 : Int) - Int.toNat (q1 + 1)) (C5 - Int.toNat (q1 + 1)) : Value) = .slice (subAddr a12 C5 (Int.toNat (q1 + 1)) 1) (Int.toNat (L5 : Int) - Int.toNat (q1 + 1)) (C5 - Int.toNat (q1 + 1))) ∧
  (∃ (a13 : Option Addr) (L6 C6 : Nat), cell h1 (a11.add 1) = some (.slice a13 L6 C6) ∧
  (.slice a13 L6 C6 : Value) = .slice a12 L5 C5) ∧
  HCalls Tryz.prog 40 #[.slice (subAddr a12 C5 (Int.toNat (q1 + 1)) 1) (Int.toNat (L5 : Int) - Int.toNat (q1 + 1)) (C5 - Int.toNat (q1 + 1))] h1 fun v2 h2 => ∃ (r2 : Option Addr) (rL2 rC2 : Nat), v2 = .slice r2 rL2 rC2 ∧
  New h2 (.cells #[.slice r1 rL1 rC1, .slice r2 rL2 rC2, .slice none 0 0] 86) fun b1 h3 =>
  HCalls Tryz.prog 60 #[.pointer nv] h3 fun v3 h4 => ∃ r3 : Bool, v3 = .bool r3 ∧
  cond (!r3)
  (NN nv fun a14 =>
  ∃ (a15 : Option Addr) (L7 C7 : Nat), cell h4 (a14.add 2) = some (.slice a15 L7 C7) ∧
  InR (q1 + 1) ∧
  (0 ≤ q1 + 1 ∧ q1 + 1 ≤ (L7 : Int) ∧ (L7 : Int) ≤ (C7 : Int)) ∧
  HCalls Tryz.prog 92 #[.slice (subAddr a15 C7 (Int.toNat (q1 + 1)) 1) (Int.toNat (L7 : Int) - Int.toNat (q1 + 1)) (C7 - Int.toNat (q1 + 1))] h4 fun v4 h5 => ∃ (r4 : Option Addr) (rL3 rC3 : Nat), v4 = .slice r4 rL3 rC3 ∧
  Wr h5 ((⟨b1, 0, none⟩ : Addr).add 2) (.slice r4 rL3 rC3) fun h6 =>
  NN nv fun a16 =>
  ∃ (a17 : Option Addr) (L8 C8 : Nat), cell h6 (a16.add 2) = some (.slice a17 L8 C8) ∧
  InR (q1 + 1) ∧
  (0 ≤ (0 : Int) ∧ (0 : Int) ≤ q1 + 1 ∧ q1 + 1 ≤ (C8 : Int)) ∧
  HCalls Tryz.prog 92 #[.slice (subAddr a17 C8 (Int.toNat (0 : Int)) 1) (Int.toNat (q1 + 1) - Int.toNat (0 : Int)) (C8 - Int.toNat (0 : Int))] h6 fun v5 h7 => ∃ (r5 : Option Addr) (rL4 rC4 : Nat), v5 = .slice r5 rL4 rC4 ∧
  NN nv fun a18 =>
  Wr h7 (a18.add 2) (.slice r5 rL4 rC4) fun h8 =>
  btree_split_b1 nv q1 n1 n2 (some ⟨b1, 0, none⟩) h8  K)
  (btree_split_b1 nv q1 n1 n2 (some ⟨b1, 0, none⟩) h4  K)) := by kernel_rfl
theorem btree_split_b1_eq (nv : Option Addr) (m : Int) (key : Int) (value : Int) (right : Option Addr) (h : Hp)  (K : Value → Hp → Prop) : btree_split_b1 nv m key value right h  K = (
  NN nv fun a19 =>
  ∃ (a20 : Option Addr) (L9 C9 : Nat), cell h a19 = some (.slice a20 L9 C9) ∧
  (0 ≤ (0 : Int) ∧ (0 : Int) ≤ m ∧ m ≤ (C9 : Int)) ∧
  NN nv fun a21 =>
  ∃ (a22 : Option Addr) (L10 C10 : Nat), cell h (a21.add 1) = some (.slice a22 L10 C10) ∧
  (0 ≤ (0 : Int) ∧ (0 : Int) ≤ m ∧ m ≤ (C10 : Int)) ∧
  HCalls Tryz.prog 40 #[.slice (subAddr a20 C9 (Int.toNat (0 : Int)) 1) (Int.toNat m - Int.toNat (0 : Int)) (C9 - Int.toNat (0 : Int))] h fun v6 h9 => ∃ (r6 : Option Addr) (rL5 rC5 : Nat), v6 = .slice r6 rL5 rC5 ∧
  ((0 ≤ (0 : Int) ∧ (0 : Int) ≤ m ∧ m ≤ (C10 : Int)) ∧
  (.slice (subAddr a22 C10 (Int.toNat (0 : Int)) 1) (Int.toNat m - Int.toNat (0 : Int)) (C10 - Int.toNat (0 : Int)) : Value) = .slice (subAddr a22 C10 (Int.toNat (0 : Int)) 1) (Int.toNat m - Int.toNat (0 : Int)) (C10 - Int.toNat (0 : Int))) ∧
  (∃ (a23 : Option Addr) (L11 C11 : Nat), cell h9 (a21.add 1) = some (.slice a23 L11 C11) ∧
  (.slice a23 L11 C11 : Value) = .slice a22 L10 C10) ∧
  HCalls Tryz.prog 40 #[.slice (subAddr a22 C10 (Int.toNat (0 : Int)) 1) (Int.toNat m - Int.toNat (0 : Int)) (C10 - Int.toNat (0 : Int))] h9 fun v7 h10 => ∃ (r7 : Option Addr) (rL6 rC6 : Nat), v7 = .slice r7 rL6 rC6 ∧
  NN nv fun a24 =>
  Wr h10 a24 (.slice r6 rL5 rC5) fun h11 =>
  NN nv fun a25 =>
  Wr h11 (a25.add 1) (.slice r7 rL6 rC6) fun h12 =>
  K (.tuple #[.int .i64 key, .int .i64 value, .pointer right]) h12) := by kernel_rfl
theorem btree_split_call {nv : Option Addr} {h : Hp} {K : Value → Hp → Prop} (hk : btree_split_b0 nv h K) : HCalls Tryz.prog 67 #[.pointer nv] h K :=
  calls_of_snd btree_split_an Tryz.func67 (c := bodyOf Tryz.f67) rfl Tryz.ntmps67 (Nat.le_of_ble_eq_true rfl) (snd_2 F_ok F_mixed) hk

/-! ### slices_BinarySearch_Sint_int -/
def slices_BinarySearch_Sint_int_an : Ann := .node none (.leaf) (.node none (.leaf) (.node none (.leaf) (.node (some [0, 1, 6, 7]) (.loop [0, 1, 6] [(7, .int .i64), (8, .int .i64)] (.leaf)) (.leaf))))
def slices_BinarySearch_Sint_int_K0  (K : Value → Hp → Prop) : Exit → Env → Hp → Prop := retK Tryz.prog Tryz.f68.results.toList K
def slices_BinarySearch_Sint_int_K1  (K : Value → Hp → Prop) : Exit → Env → Hp → Prop := thenE (fun env h => sx_1 Tryz.prog F 54 (cp [1, 1, 1, 1] (bodyOf Tryz.f68)) (ap [1, 1, 1, 1] slices_BinarySearch_Sint_int_an) (rs [0, 1, 6, 7] env) h (slices_BinarySearch_Sint_int_K0  K)) (slices_BinarySearch_Sint_int_K0  K)
def slices_BinarySearch_Sint_int_K2  (K : Value → Hp → Prop) : Exit → Env → Hp → Prop := blockE 0 (slices_BinarySearch_Sint_int_K1  K)
def slices_BinarySearch_Sint_int_K3 (nx0 : Int × Int × Unit → Hp → Prop) (K : Value → Hp → Prop) : Exit → Env → Hp → Prop := thenE (fun env h => getV [(7, .int .i64), (8, .int .i64)] env fun s => nx0 s h) (slices_BinarySearch_Sint_int_K2  K)
def slices_BinarySearch_Sint_int_b0 (x : Option Addr) (xL : Nat) (xC : Nat) (target : Int) (h : Hp)  (K : Value → Hp → Prop) : Prop :=
  sx_2 Tryz.prog F 54 (cp [] (bodyOf Tryz.f68)) (ap [] slices_BinarySearch_Sint_int_an) [(0, .slice x xL xC), (1, .int .i64 target)] h (slices_BinarySearch_Sint_int_K0  K)
def slices_BinarySearch_Sint_int_b1 (i : Int) (j : Int) (x : Option Addr) (xL : Nat) (xC : Nat) (target : Int) (nv : Int) (h : Hp) (nx0 : Int × Int × Unit → Hp → Prop) (K : Value → Hp → Prop) : Prop :=
  sx_1 Tryz.prog F 54 (cp [1, 1, 1, 0, 2, 2] (bodyOf Tryz.f68)) (ap [1, 1, 1, 0, 2] slices_BinarySearch_Sint_int_an) [(7, .int .i64 i), (8, .int .i64 j), (0, .slice x xL xC), (1, .int .i64 target), (6, .int .i64 nv)] h (slices_BinarySearch_Sint_int_K3 nx0 K)
def slices_BinarySearch_Sint_int_b2 (x : Option Addr) (xL : Nat) (xC : Nat) (target : Int) (nv : Int) (i : Int) (h : Hp)  (K : Value → Hp → Prop) : Prop :=
  sx_1 Tryz.prog F 54 (cp [1, 1, 1, 1] (bodyOf Tryz.f68)) (ap [1, 1, 1, 1] slices_BinarySearch_Sint_int_an) [(0, .slice x xL xC), (1, .int .i64 target), (6, .int .i64 nv), (7, .int .i64 i)] h (slices_BinarySearch_Sint_int_K0  K)
theorem slices_BinarySearch_Sint_int_b0_eq (x : Option Addr) (xL : Nat) (xC : Nat) (target : Int) (h : Hp)  (K : Value → Hp → Prop) : slices_BinarySearch_Sint_int_b0 x xL xC target h  K = (
  LoopVC ((0, (xL : Int), ()) : Int × Int × Unit) h (fun (nx0 : Int × Int × Unit → Hp → Prop) (s1 : Int × Int × Unit) h1 => slices_BinarySearch_Sint_int_b1 s1.1 s1.2.1 x xL xC target (xL : Int) h1 nx0 K)) := by kernel_rfl
theorem slices_BinarySearch_Sint_int_b1_eq (i : Int) (j : Int) (x : Option Addr) (xL : Nat) (xC : Nat) (target : Int) (nv : Int) (h : Hp) (nx0 : Int × Int × Unit → Hp → Prop) (K : Value → Hp → Prop) : slices_BinarySearch_Sint_int_b1 i j x xL xC target nv h nx0 K = (
  cond (decide (i < j))
  (InR (i + j) ∧
  ∃ sr1 : Int, Sx.Shr .u64 (IntKind.u64.wrap (i + j)) 1 sr1 ∧
  InR sr1 ∧
  (0 ≤ sr1 ∧ sr1 < (xL : Int)) ∧
  NN x fun a1 =>
  ∃ n1 : Int, cell h (a1.add (Int.toNat sr1 * 1)) = some (.int .i64 n1) ∧
  HCalls Tryz.prog 93 #[.int .i64 n1, .int .i64 target] h fun v1 h2 => ∃ r1 : Bool, v1 = .bool r1 ∧
  cond r1
  (InR (sr1 + 1) ∧
  nx0 (sr1 + 1, j, ()) h2)
  (nx0 (i, sr1, ()) h2))
  (slices_BinarySearch_Sint_int_b2 x xL xC target nv i h  K)) := by kernel_rfl
theorem slices_BinarySearch_Sint_int_b2_eq (x : Option Addr) (xL : Nat) (xC : Nat) (target : Int) (nv : Int) (i : Int) (h : Hp)  (K : Value → Hp → Prop) : slices_BinarySearch_Sint_int_b2 x xL xC target nv i h  K = (
  cond (decide (i < nv))
  ((0 ≤ i ∧ i < (xL : Int)) ∧
  NN x fun a2 =>
  ∃ n2 : Int, cell h (a2.add (Int.toNat i * 1)) = some (.int .i64 n2) ∧
  cond (decide (n2 = target))
  (K (.tuple #[.int .i64 i, .bool true]) h)
  ((0 ≤ i ∧ i < (xL : Int)) ∧
  NN x fun a3 =>
  ∃ n3 : Int, cell h (a3.add (Int.toNat i * 1)) = some (.int .i64 n3) ∧
  HCalls Tryz.prog 94 #[.int .i64 n3] h fun v2 h3 => ∃ r2 : Bool, v2 = .bool r2 ∧
  cond r2
  (HCalls Tryz.prog 94 #[.int .i64 target] h3 fun v3 h4 => ∃ r3 : Bool, v3 = .bool r3 ∧
  K (.tuple #[.int .i64 i, .bool r3]) h4)
  (K (.tuple #[.int .i64 i, .bool false]) h3)))
  (K (.tuple #[.int .i64 i, .bool false]) h)) := by kernel_rfl
theorem slices_BinarySearch_Sint_int_call {x : Option Addr} {xL : Nat} {xC : Nat} {target : Int} {h : Hp} {K : Value → Hp → Prop} (hk : slices_BinarySearch_Sint_int_b0 x xL xC target h K) : HCalls Tryz.prog 68 #[.slice x xL xC, .int .i64 target] h K :=
  calls_of_snd slices_BinarySearch_Sint_int_an Tryz.func68 (c := bodyOf Tryz.f68) rfl Tryz.ntmps68 (Nat.le_of_ble_eq_true rfl) (snd_2 F_ok F_mixed) hk

/-! ### r43_node -/
def r43_node_an : Ann := .node none (.leaf) (.node (some []) (.leaf) (.leaf))
def r43_node_K0  (K : Value → Hp → Prop) : Exit → Env → Hp → Prop := retK Tryz.prog Tryz.f69.results.toList K
def r43_node_b0 (order : Int) (l : Option Addr) (lL : Nat) (lC : Nat) (root : Bool) (h : Hp)  (K : Value → Hp → Prop) : Prop :=
  sx_2 Tryz.prog F 31 (cp [] (bodyOf Tryz.f69)) (ap [] r43_node_an) [(0, .int .i64 order), (1, .slice l lL lC), (2, .bool root)] h (r43_node_K0  K)
def r43_node_b1  (h : Hp)  (K : Value → Hp → Prop) : Prop :=
  sx_1 Tryz.prog F 31 (cp [1, 1] (bodyOf Tryz.f69)) (ap [1, 1] r43_node_an) [] h (r43_node_K0  K)
theorem r43_node_b0_eq (order : Int) (l : Option Addr) (lL : Nat) (lC : Nat) (root : Bool) (h : Hp)  (K : Value → Hp → Prop) : r43_node_b0 order l lL lC root h  K = (
  InR (order - 1) ∧
  cond (decide ((order - 1) < (lL : Int)))
  (K (.bool false) h)
  (cond (decide ((lL : Int) < 1))
  (cond root
  (K (.bool false) h)
  (HCalls Tryz.prog 95 #[.int .i64 order] h fun v1 h1 => ∃ r1 : Int, v1 = .int .i64 r1 ∧
  cond (decide ((lL : Int) < r1))
  (cond (!root)
  (K (.bool false) h1)
  (r43_node_b1  h1  K))
  (r43_node_b1  h1  K)))
  (HCalls Tryz.prog 95 #[.int .i64 order] h fun v2 h2 => ∃ r2 : Int, v2 = .int .i64 r2 ∧
  cond (decide ((lL : Int) < r2))
  (cond (!root)
  (K (.bool false) h2)
  (r43_node_b1  h2  K))
  (r43_node_b1  h2  K)))) := by kernel_rfl
theorem r43_node_b1_eq  (h : Hp)  (K : Value → Hp → Prop) : r43_node_b1  h  K = (
  K (.bool true) h) := by kernel_rfl
theorem r43_node_call {order : Int} {l : Option Addr} {lL : Nat} {lC : Nat} {root : Bool} {h : Hp} {K : Value → Hp → Prop} (hk : r43_node_b0 order l lL lC root h K) : HCalls Tryz.prog 69 #[.int .i64 order, .slice l lL lC, .bool root] h K :=
  calls_of_snd r43_node_an Tryz.func69 (c := bodyOf Tryz.f69) rfl Tryz.ntmps69 (Nat.le_of_ble_eq_true rfl) (snd_2 F_ok F_mixed) hk

/-! ### model_width -/
def model_width_an : Ann := .node none (.leaf) (.node (some []) (.leaf) (.leaf))
def model_width_K0  (K : Value → Hp → Prop) : Exit → Env → Hp → Prop := retK Tryz.prog Tryz.f70.results.toList K
def model_width_b0 (kind : Int) (h : Hp)  (K : Value → Hp → Prop) : Prop :=
  sx_2 Tryz.prog F 11 (cp [] (bodyOf Tryz.f70)) (ap [] model_width_an) [(0, .int .i64 kind)] h (model_width_K0  K)
def model_width_b1  (h : Hp)  (K : Value → Hp → Prop) : Prop :=
  sx_1 Tryz.prog F 11 (cp [1, 1] (bodyOf Tryz.f70)) (ap [1, 1] model_width_an) [] h (model_width_K0  K)
theorem model_width_b0_eq (kind : Int) (h : Hp)  (K : Value → Hp → Prop) : model_width_b0 kind h  K = (
  cond (decide (kind = 1))
  (K (.tuple #[.int .i64 2, .int .i64 1]) h)
  (cond (decide (kind = 5))
  (K (.tuple #[.int .i64 3, .int .i64 2]) h)
  (cond (decide (kind = 2))
  (K (.tuple #[.int .i64 1, .int .i64 1]) h)
  (model_width_b1  h  K)))) := by kernel_rfl
theorem model_width_b1_eq  (h : Hp)  (K : Value → Hp → Prop) : model_width_b1  h  K = (
  K (.tuple #[.int .i64 1, .int .i64 0]) h) := by kernel_rfl
theorem model_width_call {kind : Int} {h : Hp} {K : Value → Hp → Prop} (hk : model_width_b0 kind h K) : HCalls Tryz.prog 70 #[.int .i64 kind] h K :=
  calls_of_snd model_width_an Tryz.func70 (c := bodyOf Tryz.f70) rfl Tryz.ntmps70 (Nat.le_of_ble_eq_true rfl) (snd_2 F_ok F_mixed) hk

/-! ### slices_Compare_Sint_int -/
def slices_Compare_Sint_int_an : Ann := .node none (.leaf) (.node (some [0, 1]) (.node none (.leaf) (.loop [0, 1, 9, 10] [(11, .int .i64)] (.node none (.leaf) (.node none (.leaf) (.node (some [0, 1, 9, 10, 11]) (.leaf) (.leaf)))))) (.leaf))
def slices_Compare_Sint_int_K0  (K : Value → Hp → Prop) : Exit → Env → Hp → Prop := retK Tryz.prog Tryz.f72.results.toList K
def slices_Compare_Sint_int_K1  (K : Value → Hp → Prop) : Exit → Env → Hp → Prop := thenE (fun env h => sx_2 Tryz.prog F 36 (cp [1, 1] (bodyOf Tryz.f72)) (ap [1, 1] slices_Compare_Sint_int_an) (rs [0, 1] env) h (slices_Compare_Sint_int_K0  K)) (slices_Compare_Sint_int_K0  K)
def slices_Compare_Sint_int_K2  (K : Value → Hp → Prop) : Exit → Env → Hp → Prop := blockE 0 (slices_Compare_Sint_int_K1  K)
def slices_Compare_Sint_int_K3 (nx0 : Int × Unit → Hp → Prop) (K : Value → Hp → Prop) : Exit → Env → Hp → Prop := thenE (fun env h => getV [(11, .int .i64)] env fun s => nx0 s h) (slices_Compare_Sint_int_K2  K)
def slices_Compare_Sint_int_b0 (s1 : Option Addr) (s1L : Nat) (s1C : Nat) (s2 : Option Addr) (s2L : Nat) (s2C : Nat) (h : Hp)  (K : Value → Hp → Prop) : Prop :=
  sx_3 Tryz.prog F 36 (cp [] (bodyOf Tryz.f72)) (ap [] slices_Compare_Sint_int_an) [(0, .slice s1 s1L s1C), (1, .slice s2 s2L s2C)] h (slices_Compare_Sint_int_K0  K)
def slices_Compare_Sint_int_b1 (t11 : Int) (s1 : Option Addr) (s1L : Nat) (s1C : Nat) (s2 : Option Addr) (s2L : Nat) (s2C : Nat) (t9 : Option Addr) (t9L : Nat) (t9C : Nat) (t10 : Int) (h : Hp) (nx0 : Int × Unit → Hp → Prop) (K : Value → Hp → Prop) : Prop :=
  sx_2 Tryz.prog F 36 (cp [1, 0, 1, 2, 2] (bodyOf Tryz.f72)) (ap [1, 0, 1, 2] slices_Compare_Sint_int_an) [(11, .int .i64 t11), (0, .slice s1 s1L s1C), (1, .slice s2 s2L s2C), (9, .slice t9 t9L t9C), (10, .int .i64 t10)] h (slices_Compare_Sint_int_K3 nx0 K)
def slices_Compare_Sint_int_b2 (s1 : Option Addr) (s1L : Nat) (s1C : Nat) (s2 : Option Addr) (s2L : Nat) (s2C : Nat) (t9 : Option Addr) (t9L : Nat) (t9C : Nat) (t10 : Int) (t11 : Int) (h : Hp) (nx0 : Int × Unit → Hp → Prop) (K : Value → Hp → Prop) : Prop :=
  sx_1 Tryz.prog F 36 (cp [1, 0, 1, 2, 2, 1, 1, 1] (bodyOf Tryz.f72)) (ap [1, 0, 1, 2, 1, 1, 1] slices_Compare_Sint_int_an) [(0, .slice s1 s1L s1C), (1, .slice s2 s2L s2C), (9, .slice t9 t9L t9C), (10, .int .i64 t10), (11, .int .i64 t11)] h (slices_Compare_Sint_int_K3 nx0 K)
def slices_Compare_Sint_int_b3 (s1 : Option Addr) (s1L : Nat) (s1C : Nat) (s2 : Option Addr) (s2L : Nat) (s2C : Nat) (h : Hp)  (K : Value → Hp → Prop) : Prop :=
  sx_2 Tryz.prog F 36 (cp [1, 1] (bodyOf Tryz.f72)) (ap [1, 1] slices_Compare_Sint_int_an) [(0, .slice s1 s1L s1C), (1, .slice s2 s2L s2C)] h (slices_Compare_Sint_int_K0  K)
theorem slices_Compare_Sint_int_b0_eq (s1 : Option Addr) (s1L : Nat) (s1C : Nat) (s2 : Option Addr) (s2L : Nat) (s2C : Nat) (h : Hp)  (K : Value → Hp → Prop) : slices_Compare_Sint_int_b0 s1 s1L s1C s2 s2L s2C h  K = (
  LoopVC ((0, ()) : Int × Unit) h (fun (nx0 : Int × Unit → Hp → Prop) (s3 : Int × Unit) h1 => slices_Compare_Sint_int_b1 s3.1 s1 s1L s1C s2 s2L s2C s1 s1L s1C (s1L : Int) h1 nx0 K)) := by kernel_rfl
theorem slices_Compare_Sint_int_b1_eq (t11 : Int) (s1 : Option Addr) (s1L : Nat) (s1C : Nat) (s2 : Option Addr) (s2L : Nat) (s2C : Nat) (t9 : Option Addr) (t9L : Nat) (t9C : Nat) (t10 : Int) (h : Hp) (nx0 : Int × Unit → Hp → Prop) (K : Value → Hp → Prop) : slices_Compare_Sint_int_b1 t11 s1 s1L s1C s2 s2L s2C t9 t9L t9C t10 h nx0 K = (
  cond (decide (t11 < t10))
  ((0 ≤ t11 ∧ t11 < (t9L : Int)) ∧
  NN t9 fun a1 =>
  ∃ n1 : Int, cell h (a1.add (Int.toNat t11 * 1)) = some (.int .i64 n1) ∧
  cond (decide ((s2L : Int) ≤ t11))
  (K (.int .i64 1) h)
  ((0 ≤ t11 ∧ t11 < (s2L : Int)) ∧
  NN s2 fun a2 =>
  ∃ n2 : Int, cell h (a2.add (Int.toNat t11 * 1)) = some (.int .i64 n2) ∧
  HCalls Tryz.prog 96 #[.int .i64 n1, .int .i64 n2] h fun v1 h2 => ∃ r1 : Int, v1 = .int .i64 r1 ∧
  cond (!decide (r1 = 0))
  (K (.int .i64 r1) h2)
  (slices_Compare_Sint_int_b2 s1 s1L s1C s2 s2L s2C t9 t9L t9C t10 t11 h2 nx0 K)))
  (slices_Compare_Sint_int_b3 s1 s1L s1C s2 s2L s2C h  K)) := by kernel_rfl
theorem slices_Compare_Sint_int_b2_eq (s1 : Option Addr) (s1L : Nat) (s1C : Nat) (s2 : Option Addr) (s2L : Nat) (s2C : Nat) (t9 : Option Addr) (t9L : Nat) (t9C : Nat) (t10 : Int) (t11 : Int) (h : Hp) (nx0 : Int × Unit → Hp → Prop) (K : Value → Hp → Prop) : slices_Compare_Sint_int_b2 s1 s1L s1C s2 s2L s2C t9 t9L t9C t10 t11 h nx0 K = (
  InR (t11 + 1) ∧
  nx0 (t11 + 1, ()) h) := by kernel_rfl
theorem slices_Compare_Sint_int_b3_eq (s1 : Option Addr) (s1L : Nat) (s1C : Nat) (s2 : Option Addr) (s2L : Nat) (s2C : Nat) (h : Hp)  (K : Value → Hp → Prop) : slices_Compare_Sint_int_b3 s1 s1L s1C s2 s2L s2C h  K = (
  cond (decide ((s1L : Int) < (s2L : Int)))
  (K (.int .i64 (-1)) h)
  (K (.int .i64 0) h)) := by kernel_rfl
theorem slices_Compare_Sint_int_call {s1 : Option Addr} {s1L : Nat} {s1C : Nat} {s2 : Option Addr} {s2L : Nat} {s2C : Nat} {h : Hp} {K : Value → Hp → Prop} (hk : slices_Compare_Sint_int_b0 s1 s1L s1C s2 s2L s2C h K) : HCalls Tryz.prog 72 #[.slice s1 s1L s1C, .slice s2 s2L s2C] h K :=
  calls_of_snd slices_Compare_Sint_int_an Tryz.func72 (c := bodyOf Tryz.f72) rfl Tryz.ntmps72 (Nat.le_of_ble_eq_true rfl) (snd_3 F_ok F_mixed) hk

/-! ### slices_IndexFunc_Sint_int -/
def slices_IndexFunc_Sint_int_an : Ann := .node none (.leaf) (.node (some []) (.node none (.leaf) (.loop [0, 1, 7] [(8, .int .i64)] (.node none (.leaf) (.node none (.leaf) (.node (some [0, 1, 7, 8]) (.leaf) (.leaf)))))) (.leaf))
def slices_IndexFunc_Sint_int_K0  (K : Value → Hp → Prop) : Exit → Env → Hp → Prop := retK Tryz.prog Tryz.f74.results.toList K
def slices_IndexFunc_Sint_int_K1  (K : Value → Hp → Prop) : Exit → Env → Hp → Prop := thenE (fun env h => sx_2 Tryz.prog F 19 (cp [1, 1] (bodyOf Tryz.f74)) (ap [1, 1] slices_IndexFunc_Sint_int_an) (rs [] env) h (slices_IndexFunc_Sint_int_K0  K)) (slices_IndexFunc_Sint_int_K0  K)
def slices_IndexFunc_Sint_int_K2  (K : Value → Hp → Prop) : Exit → Env → Hp → Prop := blockE 0 (slices_IndexFunc_Sint_int_K1  K)
def slices_IndexFunc_Sint_int_K3 (nx0 : Int × Unit → Hp → Prop) (K : Value → Hp → Prop) : Exit → Env → Hp → Prop := thenE (fun env h => getV [(8, .int .i64)] env fun s => nx0 s h) (slices_IndexFunc_Sint_int_K2  K)
def slices_IndexFunc_Sint_int_b0 (s : Option Addr) (sL : Nat) (sC : Nat) (f : Value) (h : Hp)  (K : Value → Hp → Prop) : Prop :=
  sx_3 Tryz.prog F 19 (cp [] (bodyOf Tryz.f74)) (ap [] slices_IndexFunc_Sint_int_an) [(0, .slice s sL sC), (1, f)] h (slices_IndexFunc_Sint_int_K0  K)
def slices_IndexFunc_Sint_int_b1 (t8 : Int) (s : Option Addr) (sL : Nat) (sC : Nat) (f : Value) (t7 : Int) (h : Hp) (nx0 : Int × Unit → Hp → Prop) (K : Value → Hp → Prop) : Prop :=
  sx_2 Tryz.prog F 19 (cp [1, 0, 1, 2, 2] (bodyOf Tryz.f74)) (ap [1, 0, 1, 2] slices_IndexFunc_Sint_int_an) [(8, .int .i64 t8), (0, .slice s sL sC), (1, f), (7, .int .i64 t7)] h (slices_IndexFunc_Sint_int_K3 nx0 K)
def slices_IndexFunc_Sint_int_b2 (s : Option Addr) (sL : Nat) (sC : Nat) (f : Value) (t7 : Int) (t8 : Int) (h : Hp) (nx0 : Int × Unit → Hp → Prop) (K : Value → Hp → Prop) : Prop :=
  sx_1 Tryz.prog F 19 (cp [1, 0, 1, 2, 2, 1, 1, 1] (bodyOf Tryz.f74)) (ap [1, 0, 1, 2, 1, 1, 1] slices_IndexFunc_Sint_int_an) [(0, .slice s sL sC), (1, f), (7, .int .i64 t7), (8, .int .i64 t8)] h (slices_IndexFunc_Sint_int_K3 nx0 K)
def slices_IndexFunc_Sint_int_b3  (h : Hp)  (K : Value → Hp → Prop) : Prop :=
  sx_2 Tryz.prog F 19 (cp [1, 1] (bodyOf Tryz.f74)) (ap [1, 1] slices_IndexFunc_Sint_int_an) [] h (slices_IndexFunc_Sint_int_K0  K)
theorem slices_IndexFunc_Sint_int_b0_eq (s : Option Addr) (sL : Nat) (sC : Nat) (f : Value) (h : Hp)  (K : Value → Hp → Prop) : slices_IndexFunc_Sint_int_b0 s sL sC f h  K = (
  LoopVC ((0, ()) : Int × Unit) h (fun (nx0 : Int × Unit → Hp → Prop) (s1 : Int × Unit) h1 => slices_IndexFunc_Sint_int_b1 s1.1 s sL sC f (sL : Int) h1 nx0 K)) := by kernel_rfl
theorem slices_IndexFunc_Sint_int_b1_eq (t8 : Int) (s : Option Addr) (sL : Nat) (sC : Nat) (f : Value) (t7 : Int) (h : Hp) (nx0 : Int × Unit → Hp → Prop) (K : Value → Hp → Prop) : slices_IndexFunc_Sint_int_b1 t8 s sL sC f t7 h nx0 K = (
  cond (decide (t8 < t7))
  ((0 ≤ t8 ∧ t8 < (sL : Int)) ∧
  NN s fun a1 =>
  ∃ n1 : Int, cell h (a1.add (Int.toNat t8 * 1)) = some (.int .i64 n1) ∧
  funV f fun fg1 fa1 fc1 => callX Tryz.prog F fg1 (fa1 ++ (([.int .i64 n1] : List Value) ++ fc1)).toArray h fun v1 h2 => ∃ r1 : Bool, v1 = .bool r1 ∧
  cond r1
  (K (.int .i64 t8) h2)
  (slices_IndexFunc_Sint_int_b2 s sL sC f t7 t8 h2 nx0 K))
  (slices_IndexFunc_Sint_int_b3  h  K)) := by kernel_rfl
theorem slices_IndexFunc_Sint_int_b2_eq (s : Option Addr) (sL : Nat) (sC : Nat) (f : Value) (t7 : Int) (t8 : Int) (h : Hp) (nx0 : Int × Unit → Hp → Prop) (K : Value → Hp → Prop) : slices_IndexFunc_Sint_int_b2 s sL sC f t7 t8 h nx0 K = (
  InR (t8 + 1) ∧
  nx0 (t8 + 1, ()) h) := by kernel_rfl
theorem slices_IndexFunc_Sint_int_b3_eq  (h : Hp)  (K : Value → Hp → Prop) : slices_IndexFunc_Sint_int_b3  h  K = (
  K (.int .i64 (-1)) h) := by kernel_rfl
theorem slices_IndexFunc_Sint_int_call {s : Option Addr} {sL : Nat} {sC : Nat} {f : Value} {h : Hp} {K : Value → Hp → Prop} (hk : slices_IndexFunc_Sint_int_b0 s sL sC f h K) : HCalls Tryz.prog 74 #[.slice s sL sC, f] h K :=
  calls_of_snd slices_IndexFunc_Sint_int_an Tryz.func74 (c := bodyOf Tryz.f74) rfl Tryz.ntmps74 (Nat.le_of_ble_eq_true rfl) (snd_3 F_ok F_mixed) hk

/-! ### model_result -/
def model_result_an : Ann := .leaf
def model_result_K0  (K : Value → Hp → Prop) : Exit → Env → Hp → Prop := retK Tryz.prog Tryz.f75.results.toList K
def model_result_b0 (nv : Int) (h : Hp)  (K : Value → Hp → Prop) : Prop :=
  sx_1 Tryz.prog F 5 (cp [] (bodyOf Tryz.f75)) (ap [] model_result_an) [(0, .int .i64 nv)] h (model_result_K0  K)
theorem model_result_b0_eq (nv : Int) (h : Hp)  (K : Value → Hp → Prop) : model_result_b0 nv h  K = (
  New h (.cells #[.int .i64 0, .int .i64 0, .slice none 0 0] 41) fun b1 h1 =>
  Wr h1 ⟨b1, 0, none⟩ (.int .i64 0) fun h2 =>
  Wr h2 ((⟨b1, 0, none⟩ : Addr).add 1) (.int .i64 nv) fun h3 =>
  Wr h3 ((⟨b1, 0, none⟩ : Addr).add 2) (.slice none 0 0) fun h4 =>
  ∃ r1 : Int, ∃ r2 : Int, ∃ (r3 : Option Addr) (rL1 rC1 : Nat), cell h4 ⟨b1, 0, none⟩ = some (.int .i64 r1) ∧
  cell h4 ((⟨b1, 0, none⟩ : Addr).add 1) = some (.int .i64 r2) ∧
  cell h4 ((⟨b1, 0, none⟩ : Addr).add 2) = some (.slice r3 rL1 rC1) ∧
  K (.agg #[.int .i64 r1, .int .i64 r2, .slice r3 rL1 rC1]) h4) := by kernel_rfl
theorem model_result_call {nv : Int} {h : Hp} {K : Value → Hp → Prop} (hk : model_result_b0 nv h K) : HCalls Tryz.prog 75 #[.int .i64 nv] h K :=
  calls_of_snd model_result_an Tryz.func75 (c := bodyOf Tryz.f75) rfl Tryz.ntmps75 (Nat.le_of_ble_eq_true rfl) (snd_1 F_ok F_mixed) hk

/-! ### model_failed -/
def model_failed_an : Ann := .leaf
def model_failed_K0  (K : Value → Hp → Prop) : Exit → Env → Hp → Prop := retK Tryz.prog Tryz.f76.results.toList K
def model_failed_b0 (e : Int) (h : Hp)  (K : Value → Hp → Prop) : Prop :=
  sx_1 Tryz.prog F 5 (cp [] (bodyOf Tryz.f76)) (ap [] model_failed_an) [(0, .int .i64 e)] h (model_failed_K0  K)
theorem model_failed_b0_eq (e : Int) (h : Hp)  (K : Value → Hp → Prop) : model_failed_b0 e h  K = (
  New h (.cells #[.int .i64 0, .int .i64 0, .slice none 0 0] 41) fun b1 h1 =>
  Wr h1 ⟨b1, 0, none⟩ (.int .i64 e) fun h2 =>
  Wr h2 ((⟨b1, 0, none⟩ : Addr).add 1) (.int .i64 0) fun h3 =>
  Wr h3 ((⟨b1, 0, none⟩ : Addr).add 2) (.slice none 0 0) fun h4 =>
  ∃ r1 : Int, ∃ r2 : Int, ∃ (r3 : Option Addr) (rL1 rC1 : Nat), cell h4 ⟨b1, 0, none⟩ = some (.int .i64 r1) ∧
  cell h4 ((⟨b1, 0, none⟩ : Addr).add 1) = some (.int .i64 r2) ∧
  cell h4 ((⟨b1, 0, none⟩ : Addr).add 2) = some (.slice r3 rL1 rC1) ∧
  K (.agg #[.int .i64 r1, .int .i64 r2, .slice r3 rL1 rC1]) h4) := by kernel_rfl
theorem model_failed_call {e : Int} {h : Hp} {K : Value → Hp → Prop} (hk : model_failed_b0 e h K) : HCalls Tryz.prog 76 #[.int .i64 e] h K :=
  calls_of_snd model_failed_an Tryz.func76 (c := bodyOf Tryz.f76) rfl Tryz.ntmps76 (Nat.le_of_ble_eq_true rfl) (snd_1 F_ok F_mixed) hk

/-! ### model_find -/
def model_find_an : Ann := .leaf
def model_find_K0  (K : Value → Hp → Prop) : Exit → Env → Hp → Prop := retK Tryz.prog Tryz.f77.results.toList K
def model_find_b0 (rows : Option Addr) (rowsL : Nat) (rowsC : Nat) (key : Option Addr) (keyL : Nat) (keyC : Nat) (h : Hp)  (K : Value → Hp → Prop) : Prop :=
  sx_1 Tryz.prog F 11 (cp [] (bodyOf Tryz.f77)) (ap [] model_find_an) [(0, .slice rows rowsL rowsC), (1, .slice key keyL keyC)] h (model_find_K0  K)
theorem model_find_b0_eq (rows : Option Addr) (rowsL : Nat) (rowsC : Nat) (key : Option Addr) (keyL : Nat) (keyC : Nat) (h : Hp)  (K : Value → Hp → Prop) : model_find_b0 rows rowsL rowsC key keyL keyC h  K = (
  HCalls Tryz.prog 99 #[.slice rows rowsL rowsC, .slice key keyL keyC, .func (.func 100) #[] #[]] h fun v1 h1 => ∃ r1 : Int, ∃ r2 : Bool, v1 = .tuple #[.int .i64 r1, .bool r2] ∧
  K (.tuple #[.int .i64 r1, .bool r2]) h1) := by kernel_rfl
theorem model_find_call {rows : Option Addr} {rowsL : Nat} {rowsC : Nat} {key : Option Addr} {keyL : Nat} {keyC : Nat} {h : Hp} {K : Value → Hp → Prop} (hk : model_find_b0 rows rowsL rowsC key keyL keyC h K) : HCalls Tryz.prog 77 #[.slice rows rowsL rowsC, .slice key keyL keyC] h K :=
  calls_of_snd model_find_an Tryz.func77 (c := bodyOf Tryz.f77) rfl Tryz.ntmps77 (Nat.le_of_ble_eq_true rfl) (snd_1 F_ok F_mixed) hk

/-! ### slices_Insert_Sint_Sint -/
def slices_Insert_Sint_Sint_an : Ann := .node none (.leaf) (.node none (.leaf) (.node none (.leaf) (.node none (.leaf) (.node none (.leaf) (.node none (.leaf) (.node none (.node none (.leaf) (.node none (.node none (.leaf) (.node none (.leaf) (.node none (.tail 8) (.leaf)))) (.leaf))) (.node none (.leaf) (.node none (.node none (.leaf) (.node none (.node none (.tail 8) (.leaf)) (.leaf))) (.leaf)))))))))
def slices_Insert_Sint_Sint_K0  (K : Value → Hp → Prop) : Exit → Env → Hp → Prop := retK Tryz.prog Tryz.f78.results.toList K
def slices_Insert_Sint_Sint_b0 (s : Option Addr) (sL : Nat) (sC : Nat) (i : Int) (v : Option Addr) (vL : Nat) (vC : Nat) (h : Hp)  (K : Value → Hp → Prop) : Prop :=
  sx_1 Tryz.prog F 95 (cp [] (bodyOf Tryz.f78)) (ap [] slices_Insert_Sint_Sint_an) [(0, .slice s sL sC), (1, .int .i64 i), (2, .slice v vL vC)] h (slices_Insert_Sint_Sint_K0  K)
theorem slices_Insert_Sint_Sint_b0_eq (s : Option Addr) (sL : Nat) (sC : Nat) (i : Int) (v : Option Addr) (vL : Nat) (vC : Nat) (h : Hp)  (K : Value → Hp → Prop) : slices_Insert_Sint_Sint_b0 s sL sC i v vL vC h  K = (
  (0 ≤ i ∧ i ≤ (sL : Int) ∧ (sL : Int) ≤ (sC : Int)) ∧
  cond (decide ((vL : Int) = 0))
  (K (.slice s sL sC) h)
  (cond (decide (i = (sL : Int)))
  (appendV Tryz.prog 29 29 (.slice s sL sC) (.slice v vL vC) h (slK fun a1 l1 c1 h1 =>
  K (.slice a1 l1 c1) h1))
  (InR ((sL : Int) + (vL : Int)) ∧
  cond (decide ((sC : Int) < ((sL : Int) + (vL : Int))))
  ((0 ≤ (0 : Int) ∧ (0 : Int) ≤ i ∧ i ≤ (sC : Int)) ∧
  InR ((sL : Int) + (vL : Int)) ∧
  InR (((sL : Int) + (vL : Int)) - i) ∧
  appendV Tryz.prog 29 3 (.slice (subAddr s sC (Int.toNat (0 : Int)) 1) (Int.toNat i - Int.toNat (0 : Int)) (sC - Int.toNat (0 : Int))) (.int .i64 (((sL : Int) + (vL : Int)) - i)) h (slK fun a2 l2 c2 h2 =>
  (0 ≤ i ∧ i ≤ (l2 : Int) ∧ (l2 : Int) ≤ (c2 : Int)) ∧
  copyV Tryz.prog 29 (.slice (subAddr a2 c2 (Int.toNat i) 1) (Int.toNat (l2 : Int) - Int.toNat i) (c2 - Int.toNat i)) (.slice v vL vC) h2 fun v1 h3 =>
  InR (i + (vL : Int)) ∧
  (0 ≤ i + (vL : Int) ∧ i + (vL : Int) ≤ (l2 : Int) ∧ (l2 : Int) ≤ (c2 : Int)) ∧
  (0 ≤ i ∧ i ≤ (sL : Int) ∧ (sL : Int) ≤ (sC : Int)) ∧
  copyV Tryz.prog 29 (.slice (subAddr a2 c2 (Int.toNat (i + (vL : Int))) 1) (Int.toNat (l2 : Int) - Int.toNat (i + (vL : Int))) (c2 - Int.toNat (i + (vL : Int)))) (.slice (subAddr s sC (Int.toNat i) 1) (Int.toNat (sL : Int) - Int.toNat i) (sC - Int.toNat i)) h3 fun v2 h4 =>
  K (.slice a2 l2 c2) h4))
  (InR ((sL : Int) + (vL : Int)) ∧
  (0 ≤ (0 : Int) ∧ (0 : Int) ≤ (sL : Int) + (vL : Int) ∧ (sL : Int) + (vL : Int) ≤ (sC : Int)) ∧
  InR (i + (vL : Int)) ∧
  (0 ≤ i + (vL : Int) ∧ i + (vL : Int) ≤ ((Int.toNat ((sL : Int) + (vL : Int)) - Int.toNat (0 : Int) : Nat) : Int) ∧ ((Int.toNat ((sL : Int) + (vL : Int)) - Int.toNat (0 : Int) : Nat) : Int) ≤ ((sC - Int.toNat (0 : Int) : Nat) : Int)) ∧
  ExtCall Tryz.prog 101 #[.slice v vL vC, .slice (subAddr (subAddr s sC (Int.toNat (0 : Int)) 1) (sC - Int.toNat (0 : Int)) (Int.toNat (i + (vL : Int))) 1) (Int.toNat ((Int.toNat ((sL : Int) + (vL : Int)) - Int.toNat (0 : Int) : Nat) : Int) - Int.toNat (i + (vL : Int))) ((sC - Int.toNat (0 : Int)) - Int.toNat (i + (vL : Int)))] h fun v3 => ∃ r1 : Bool, v3 = .bool r1 ∧
  cond (!r1)
  (InR (i + (vL : Int)) ∧
  (0 ≤ i + (vL : Int) ∧ i + (vL : Int) ≤ ((Int.toNat ((sL : Int) + (vL : Int)) - Int.toNat (0 : Int) : Nat) : Int) ∧ ((Int.toNat ((sL : Int) + (vL : Int)) - Int.toNat (0 : Int) : Nat) : Int) ≤ ((sC - Int.toNat (0 : Int) : Nat) : Int)) ∧
  (0 ≤ i ∧ i ≤ ((Int.toNat ((sL : Int) + (vL : Int)) - Int.toNat (0 : Int) : Nat) : Int) ∧ ((Int.toNat ((sL : Int) + (vL : Int)) - Int.toNat (0 : Int) : Nat) : Int) ≤ ((sC - Int.toNat (0 : Int) : Nat) : Int)) ∧
  copyV Tryz.prog 29 (.slice (subAddr (subAddr s sC (Int.toNat (0 : Int)) 1) (sC - Int.toNat (0 : Int)) (Int.toNat (i + (vL : Int))) 1) (Int.toNat ((Int.toNat ((sL : Int) + (vL : Int)) - Int.toNat (0 : Int) : Nat) : Int) - Int.toNat (i + (vL : Int))) ((sC - Int.toNat (0 : Int)) - Int.toNat (i + (vL : Int)))) (.slice (subAddr (subAddr s sC (Int.toNat (0 : Int)) 1) (sC - Int.toNat (0 : Int)) (Int.toNat i) 1) (Int.toNat ((Int.toNat ((sL : Int) + (vL : Int)) - Int.toNat (0 : Int) : Nat) : Int) - Int.toNat i) ((sC - Int.toNat (0 : Int)) - Int.toNat i)) h fun v4 h6 =>
  (0 ≤ i ∧ i ≤ ((Int.toNat ((sL : Int) + (vL : Int)) - Int.toNat (0 : Int) : Nat) : Int) ∧ ((Int.toNat ((sL : Int) + (vL : Int)) - Int.toNat (0 : Int) : Nat) : Int) ≤ ((sC - Int.toNat (0 : Int) : Nat) : Int)) ∧
  copyV Tryz.prog 29 (.slice (subAddr (subAddr s sC (Int.toNat (0 : Int)) 1) (sC - Int.toNat (0 : Int)) (Int.toNat i) 1) (Int.toNat ((Int.toNat ((sL : Int) + (vL : Int)) - Int.toNat (0 : Int) : Nat) : Int) - Int.toNat i) ((sC - Int.toNat (0 : Int)) - Int.toNat i)) (.slice v vL vC) h6 fun v5 h7 =>
  K (.slice (subAddr s sC (Int.toNat (0 : Int)) 1) (Int.toNat ((sL : Int) + (vL : Int)) - Int.toNat (0 : Int)) (sC - Int.toNat (0 : Int))) h7)
  ((0 ≤ (sL : Int) ∧ (sL : Int) ≤ ((Int.toNat ((sL : Int) + (vL : Int)) - Int.toNat (0 : Int) : Nat) : Int) ∧ ((Int.toNat ((sL : Int) + (vL : Int)) - Int.toNat (0 : Int) : Nat) : Int) ≤ ((sC - Int.toNat (0 : Int) : Nat) : Int)) ∧
  copyV Tryz.prog 29 (.slice (subAddr (subAddr s sC (Int.toNat (0 : Int)) 1) (sC - Int.toNat (0 : Int)) (Int.toNat (sL : Int)) 1) (Int.toNat ((Int.toNat ((sL : Int) + (vL : Int)) - Int.toNat (0 : Int) : Nat) : Int) - Int.toNat (sL : Int)) ((sC - Int.toNat (0 : Int)) - Int.toNat (sL : Int))) (.slice v vL vC) h fun v6 h8 =>
  (0 ≤ i ∧ i ≤ ((Int.toNat ((sL : Int) + (vL : Int)) - Int.toNat (0 : Int) : Nat) : Int) ∧ ((Int.toNat ((sL : Int) + (vL : Int)) - Int.toNat (0 : Int) : Nat) : Int) ≤ ((sC - Int.toNat (0 : Int) : Nat) : Int)) ∧
  HCalls Tryz.prog 102 #[.slice (subAddr (subAddr s sC (Int.toNat (0 : Int)) 1) (sC - Int.toNat (0 : Int)) (Int.toNat i) 1) (Int.toNat ((Int.toNat ((sL : Int) + (vL : Int)) - Int.toNat (0 : Int) : Nat) : Int) - Int.toNat i) ((sC - Int.toNat (0 : Int)) - Int.toNat i), .int .i64 (vL : Int)] h8 fun v7 h9 => v7 = .tuple #[] ∧
  K (.slice (subAddr s sC (Int.toNat (0 : Int)) 1) (Int.toNat ((sL : Int) + (vL : Int)) - Int.toNat (0 : Int)) (sC - Int.toNat (0 : Int))) h9))))) := by kernel_rfl
theorem slices_Insert_Sint_Sint_call {s : Option Addr} {sL : Nat} {sC : Nat} {i : Int} {v : Option Addr} {vL : Nat} {vC : Nat} {h : Hp} {K : Value → Hp → Prop} (hk : slices_Insert_Sint_Sint_b0 s sL sC i v vL vC h K) : HCalls Tryz.prog 78 #[.slice s sL sC, .int .i64 i, .slice v vL vC] h K :=
  calls_of_snd slices_Insert_Sint_Sint_an Tryz.func78 (c := bodyOf Tryz.f78) rfl Tryz.ntmps78 (Nat.le_of_ble_eq_true rfl) (snd_1 F_ok F_mixed) hk

/-! ### slices_Delete_Sint_Sint -/
def slices_Delete_Sint_Sint_an : Ann := .node none (.leaf) (.node none (.leaf) (.node none (.leaf) (.node none (.leaf) (.node none (.tail 6) (.leaf)))))
def slices_Delete_Sint_Sint_K0  (K : Value → Hp → Prop) : Exit → Env → Hp → Prop := retK Tryz.prog Tryz.f79.results.toList K
def slices_Delete_Sint_Sint_b0 (s : Option Addr) (sL : Nat) (sC : Nat) (i : Int) (j : Int) (h : Hp)  (K : Value → Hp → Prop) : Prop :=
  sx_1 Tryz.prog F 33 (cp [] (bodyOf Tryz.f79)) (ap [] slices_Delete_Sint_Sint_an) [(0, .slice s sL sC), (1, .int .i64 i), (2, .int .i64 j)] h (slices_Delete_Sint_Sint_K0  K)
theorem slices_Delete_Sint_Sint_b0_eq (s : Option Addr) (sL : Nat) (sC : Nat) (i : Int) (j : Int) (h : Hp)  (K : Value → Hp → Prop) : slices_Delete_Sint_Sint_b0 s sL sC i j h  K = (
  ∃ (a1 : Option Addr) (l1 c1 : Nat), slC Tryz.prog 29 (.slice s sL sC) (some (.int .i64 i)) (some (.int .i64 j)) (.int .i64 (sL : Int)) h a1 l1 c1 ∧
  cond (decide (i = j))
  (K (.slice s sL sC) h)
  ((0 ≤ (0 : Int) ∧ (0 : Int) ≤ i ∧ i ≤ (sC : Int)) ∧
  (0 ≤ j ∧ j ≤ (sL : Int) ∧ (sL : Int) ≤ (sC : Int)) ∧
  appendV Tryz.prog 29 29 (.slice (subAddr s sC (Int.toNat (0 : Int)) 1) (Int.toNat i - Int.toNat (0 : Int)) (sC - Int.toNat (0 : Int))) (.slice (subAddr s sC (Int.toNat j) 1) (Int.toNat (sL : Int) - Int.toNat j) (sC - Int.toNat j)) h (slK fun a2 l2 c2 h1 =>
  (0 ≤ (l2 : Int) ∧ (l2 : Int) ≤ (sL : Int) ∧ (sL : Int) ≤ (c2 : Int)) ∧
  clearV Tryz.prog 29 (.slice (subAddr a2 c2 (Int.toNat (l2 : Int)) 1) (Int.toNat (sL : Int) - Int.toNat (l2 : Int)) (c2 - Int.toNat (l2 : Int))) h1 fun h2 =>
  K (.slice a2 l2 c2) h2))) := by kernel_rfl
theorem slices_Delete_Sint_Sint_call {s : Option Addr} {sL : Nat} {sC : Nat} {i : Int} {j : Int} {h : Hp} {K : Value → Hp → Prop} (hk : slices_Delete_Sint_Sint_b0 s sL sC i j h K) : HCalls Tryz.prog 79 #[.slice s sL sC, .int .i64 i, .int .i64 j] h K :=
  calls_of_snd slices_Delete_Sint_Sint_an Tryz.func79 (c := bodyOf Tryz.f79) rfl Tryz.ntmps79 (Nat.le_of_ble_eq_true rfl) (snd_1 F_ok F_mixed) hk

/-! ### slices_Delete_Sint_int -/
def slices_Delete_Sint_int_an : Ann := .node none (.leaf) (.node none (.leaf) (.node none (.leaf) (.node none (.leaf) (.node none (.tail 6) (.leaf)))))
def slices_Delete_Sint_int_K0  (K : Value → Hp → Prop) : Exit → Env → Hp → Prop := retK Tryz.prog Tryz.f84.results.toList K
def slices_Delete_Sint_int_b0 (s : Option Addr) (sL : Nat) (sC : Nat) (i : Int) (j : Int) (h : Hp)  (K : Value → Hp → Prop) : Prop :=
  sx_1 Tryz.prog F 33 (cp [] (bodyOf Tryz.f84)) (ap [] slices_Delete_Sint_int_an) [(0, .slice s sL sC), (1, .int .i64 i), (2, .int .i64 j)] h (slices_Delete_Sint_int_K0  K)
theorem slices_Delete_Sint_int_b0_eq (s : Option Addr) (sL : Nat) (sC : Nat) (i : Int) (j : Int) (h : Hp)  (K : Value → Hp → Prop) : slices_Delete_Sint_int_b0 s sL sC i j h  K = (
  ∃ (a1 : Option Addr) (l1 c1 : Nat), slC Tryz.prog 37 (.slice s sL sC) (some (.int .i64 i)) (some (.int .i64 j)) (.int .i64 (sL : Int)) h a1 l1 c1 ∧
  cond (decide (i = j))
  (K (.slice s sL sC) h)
  ((0 ≤ (0 : Int) ∧ (0 : Int) ≤ i ∧ i ≤ (sC : Int)) ∧
  (0 ≤ j ∧ j ≤ (sL : Int) ∧ (sL : Int) ≤ (sC : Int)) ∧
  appendV Tryz.prog 37 37 (.slice (subAddr s sC (Int.toNat (0 : Int)) 1) (Int.toNat i - Int.toNat (0 : Int)) (sC - Int.toNat (0 : Int))) (.slice (subAddr s sC (Int.toNat j) 1) (Int.toNat (sL : Int) - Int.toNat j) (sC - Int.toNat j)) h (slK fun a2 l2 c2 h1 =>
  (0 ≤ (l2 : Int) ∧ (l2 : Int) ≤ (sL : Int) ∧ (sL : Int) ≤ (c2 : Int)) ∧
  clearV Tryz.prog 37 (.slice (subAddr a2 c2 (Int.toNat (l2 : Int)) 1) (Int.toNat (sL : Int) - Int.toNat (l2 : Int)) (c2 - Int.toNat (l2 : Int))) h1 fun h2 =>
  K (.slice a2 l2 c2) h2))) := by kernel_rfl
theorem slices_Delete_Sint_int_call {s : Option Addr} {sL : Nat} {sC : Nat} {i : Int} {j : Int} {h : Hp} {K : Value → Hp → Prop} (hk : slices_Delete_Sint_int_b0 s sL sC i j h K) : HCalls Tryz.prog 84 #[.slice s sL sC, .int .i64 i, .int .i64 j] h K :=
  calls_of_snd slices_Delete_Sint_int_an Tryz.func84 (c := bodyOf Tryz.f84) rfl Tryz.ntmps84 (Nat.le_of_ble_eq_true rfl) (snd_1 F_ok F_mixed) hk

/-! ### btree_fromLeft -/
def btree_fromLeft_an : Ann := .node none (.leaf) (.node none (.leaf) (.node (some [0, 1, 4, 5, 6]) (.plan (.qu 0 (.qu 1 (.qu 2 (.qu 3 (.qu 4 (.qu 5 (.qu 6 (.qu 7 (.qu 8 (.qu 9 (.qu 10 (.qu 11 (.qu 12 (.qu 13 (.qu 16 (.qu 17 (.qu 18 (.qu 19 (.qu 20 (.qu 21 (.qu 22 (.qu 23 (.qu 24 (.qu 25 (.qu 26 (.qu 27 (.wo 14 (.wo 15 (.wo 28 (.wo 29 (.qu 30 (.qu 31 (.wo 32 (.qu 33 (.qu 34 (.wo 35 .fin .no))) .no))) .no) .no) (.wo 28 (.wo 15 (.wo 29 (.qu 30 (.qu 31 (.wo 32 (.qu 33 (.qu 34 (.wo 35 .fin .no))) .no))) .no) .no) .no)) (.wo 28 (.wo 14 (.wo 15 (.wo 29 (.qu 30 (.qu 31 (.wo 32 (.qu 33 (.qu 34 (.wo 35 .fin .no))) .no))) .no) .no) .no) .no))))))))))))))))))))))))))))) (.node none (.plan (.qu 0 (.qu 1 (.qu 2 (.qu 3 (.qu 4 (.qu 5 (.qu 6 (.qu 7 (.qu 8 (.qu 9 (.qu 10 (.qu 11 (.qu 12 (.qu 13 (.qu 14 (.qu 15 (.qu 16 (.qu 17 (.qu 18 (.qu 19 (.qu 20 (.qu 21 (.qu 22 (.qu 23 (.qu 24 (.qu 25 (.qu 26 (.wo 27 (.qu 28 (.wo 29 .fin .no)) .no))))))))))))))))))))))))))))) (.node none (.plan (.qu 0 (.qu 1 (.qu 2 (.qu 3 (.qu 4 (.qu 5 (.qu 6 (.qu 7 (.qu 8 (.qu 9 (.qu 10 (.qu 11 (.qu 12 (.qu 13 (.qu 14 (.qu 15 (.wo 16 (.qu 17 (.qu 18 (.wo 19 .fin .no))) .no)))))))))))))))))) (.node none (.leaf) (.node none (.node none (.plan (.qu 0 (.qu 1 (.qu 2 (.qu 3 (.qu 4 (.qu 5 (.qu 6 (.qu 7 (.qu 8 (.qu 9 (.qu 10 (.qu 11 (.qu 12 (.wo 13 (.wo 14 (.qu 15 (.qu 16 (.wo 17 .fin .no))) .no) .no))))))))))))))) (.leaf)) (.leaf)))))))
def btree_fromLeft_K0  (K : Value → Hp → Prop) : Exit → Env → Hp → Prop := retK Tryz.prog Tryz.f85.results.toList K
def btree_fromLeft_b0 (p : Option Addr) (i : Int) (h : Hp)  (K : Value → Hp → Prop) : Prop :=
  sx_2 Tryz.prog F 140 (cp [] (bodyOf Tryz.f85)) (ap [] btree_fromLeft_an) [(0, .pointer p), (1, .int .i64 i)] h (btree_fromLeft_K0  K)
def btree_fromLeft_b1 (p : Option Addr) (i : Int) (l : Option Addr) (nv : Option Addr) (k : Int) (h : Hp)  (K : Value → Hp → Prop) : Prop :=
  sx_1 Tryz.prog F 140 (cp [1, 1, 1] (bodyOf Tryz.f85)) (ap [1, 1, 1] btree_fromLeft_an) [(0, .pointer p), (1, .int .i64 i), (4, .pointer l), (5, .pointer nv), (6, .int .i64 k)] h (btree_fromLeft_K0  K)
theorem btree_fromLeft_b0_eq (p : Option Addr) (i : Int) (h : Hp)  (K : Value → Hp → Prop) : btree_fromLeft_b0 p i h  K = (
  NN p fun a1 =>
  ∃ (a2 : Option Addr) (L1 C1 : Nat), cell h (a1.add 2) = some (.slice a2 L1 C1) ∧
  InR (i - 1) ∧
  (0 ≤ i - 1 ∧ i - 1 < (L1 : Int)) ∧
  NN a2 fun a3 =>
  ∃ p1 : Option Addr, cell h (a3.add (Int.toNat (i - 1) * 1)) = some (.pointer p1) ∧
  NN p fun a4 =>
  ∃ (a5 : Option Addr) (L2 C2 : Nat), cell h (a4.add 2) = some (.slice a5 L2 C2) ∧
  (0 ≤ i ∧ i < (L2 : Int)) ∧
  NN a5 fun a6 =>
  ∃ p2 : Option Addr, cell h (a6.add (Int.toNat i * 1)) = some (.pointer p2) ∧
  NN p1 fun a7 =>
  ∃ (a8 : Option Addr) (L3 C3 : Nat), cell h a7 = some (.slice a8 L3 C3) ∧
  InR ((L3 : Int) - 1) ∧
  NN p2 fun a9 =>
  ∃ (a10 : Option Addr) (L4 C4 : Nat), cell h a9 = some (.slice a10 L4 C4) ∧
  NN p fun a11 =>
  ∃ (a12 : Option Addr) (L5 C5 : Nat), cell h a11 = some (.slice a12 L5 C5) ∧
  InR (i - 1) ∧
  (0 ≤ i - 1 ∧ i - 1 < (L5 : Int)) ∧
  NN a12 fun a13 =>
  ∃ n1 : Int, cell h (a13.add (Int.toNat (i - 1) * 1)) = some (.int .i64 n1) ∧
  NN p2 fun a14 =>
  ∃ (a15 : Option Addr) (L6 C6 : Nat), cell h (a14.add 1) = some (.slice a15 L6 C6) ∧
  NN p fun a16 =>
  ∃ (a17 : Option Addr) (L7 C7 : Nat), cell h (a16.add 1) = some (.slice a17 L7 C7) ∧
  InR (i - 1) ∧
  (0 ≤ i - 1 ∧ i - 1 < (L7 : Int)) ∧
  NN a17 fun a18 =>
  ∃ n2 : Int, cell h (a18.add (Int.toNat (i - 1) * 1)) = some (.int .i64 n2) ∧
  (New h (.cells #[.int .i64 n1] 3) fun b1 h1 =>
  (∃ n3 : Int, cell h1 (a18.add (Int.toNat (i - 1) * 1)) = some (.int .i64 n3) ∧
  (.int .i64 n3 : Value) = .int .i64 n2) ∧
  (∃ (a19 : Option Addr) (L8 C8 : Nat), cell h1 (a16.add 1) = some (.slice a19 L8 C8) ∧
  (.slice a19 L8 C8 : Value) = .slice a17 L7 C7) ∧
  (∃ (a20 : Option Addr) (L9 C9 : Nat), cell h1 (a14.add 1) = some (.slice a20 L9 C9) ∧
  (.slice a20 L9 C9 : Value) = .slice a15 L6 C6) ∧
  (∃ (a21 : Option Addr) (L10 C10 : Nat), cell h1 a9 = some (.slice a21 L10 C10) ∧
  (.slice a21 L10 C10 : Value) = .slice a10 L4 C4) ∧
  (HCalls Tryz.prog 65 #[.slice a10 L4 C4, .int .i64 0, .slice (some ⟨b1, 0, none⟩) 1 1] h1 fun v1 h2 => ∃ (r1 : Option Addr) (rL1 rC1 : Nat), v1 = .slice r1 rL1 rC1 ∧
  (∃ n4 : Int, cell h2 (a18.add (Int.toNat (i - 1) * 1)) = some (.int .i64 n4) ∧
  (.int .i64 n4 : Value) = .int .i64 n2) ∧
  (∃ (a22 : Option Addr) (L11 C11 : Nat), cell h2 (a16.add 1) = some (.slice a22 L11 C11) ∧
  (.slice a22 L11 C11 : Value) = .slice a17 L7 C7) ∧
  (∃ (a23 : Option Addr) (L12 C12 : Nat), cell h2 (a14.add 1) = some (.slice a23 L12 C12) ∧
  (.slice a23 L12 C12 : Value) = .slice a15 L6 C6) ∧
  New h2 (.cells #[.int .i64 n2] 3) fun b2 h3 =>
  (∃ (a24 : Option Addr) (L13 C13 : Nat), cell h3 (a14.add 1) = some (.slice a24 L13 C13) ∧
  (.slice a24 L13 C13 : Value) = .slice a15 L6 C6) ∧
  HCalls Tryz.prog 65 #[.slice a15 L6 C6, .int .i64 0, .slice (some ⟨b2, 0, none⟩) 1 1] h3 fun v2 h4 => ∃ (r2 : Option Addr) (rL2 rC2 : Nat), v2 = .slice r2 rL2 rC2 ∧
  NN p2 fun a25 =>
  Wr h4 a25 (.slice r1 rL1 rC1) fun h5 =>
  NN p2 fun a26 =>
  Wr h5 (a26.add 1) (.slice r2 rL2 rC2) fun h6 =>
  btree_fromLeft_b1 p i p1 p2 ((L3 : Int) - 1) h6  K) ∧
  (New h1 (.cells #[.int .i64 n2] 3) fun b3 h7 =>
  (∃ (a27 : Option Addr) (L14 C14 : Nat), cell h7 (a14.add 1) = some (.slice a27 L14 C14) ∧
  (.slice a27 L14 C14 : Value) = .slice a15 L6 C6) ∧
  (∃ (a28 : Option Addr) (L15 C15 : Nat), cell h7 a9 = some (.slice a28 L15 C15) ∧
  (.slice a28 L15 C15 : Value) = .slice a10 L4 C4) ∧
  HCalls Tryz.prog 65 #[.slice a10 L4 C4, .int .i64 0, .slice (some ⟨b1, 0, none⟩) 1 1] h7 fun v3 h8 => ∃ (r3 : Option Addr) (rL3 rC3 : Nat), v3 = .slice r3 rL3 rC3 ∧
  (∃ (a29 : Option Addr) (L16 C16 : Nat), cell h8 (a14.add 1) = some (.slice a29 L16 C16) ∧
  (.slice a29 L16 C16 : Value) = .slice a15 L6 C6) ∧
  HCalls Tryz.prog 65 #[.slice a15 L6 C6, .int .i64 0, .slice (some ⟨b3, 0, none⟩) 1 1] h8 fun v4 h9 => ∃ (r4 : Option Addr) (rL4 rC4 : Nat), v4 = .slice r4 rL4 rC4 ∧
  NN p2 fun a30 =>
  Wr h9 a30 (.slice r3 rL3 rC3) fun h10 =>
  NN p2 fun a31 =>
  Wr h10 (a31.add 1) (.slice r4 rL4 rC4) fun h11 =>
  btree_fromLeft_b1 p i p1 p2 ((L3 : Int) - 1) h11  K)) ∧
  (New h (.cells #[.int .i64 n2] 3) fun b4 h12 =>
  (∃ (a32 : Option Addr) (L17 C17 : Nat), cell h12 (a14.add 1) = some (.slice a32 L17 C17) ∧
  (.slice a32 L17 C17 : Value) = .slice a15 L6 C6) ∧
  (∃ n5 : Int, cell h12 (a13.add (Int.toNat (i - 1) * 1)) = some (.int .i64 n5) ∧
  (.int .i64 n5 : Value) = .int .i64 n1) ∧
  (∃ (a33 : Option Addr) (L18 C18 : Nat), cell h12 a11 = some (.slice a33 L18 C18) ∧
  (.slice a33 L18 C18 : Value) = .slice a12 L5 C5) ∧
  (∃ (a34 : Option Addr) (L19 C19 : Nat), cell h12 a9 = some (.slice a34 L19 C19) ∧
  (.slice a34 L19 C19 : Value) = .slice a10 L4 C4) ∧
  New h12 (.cells #[.int .i64 n1] 3) fun b5 h13 =>
  (∃ (a35 : Option Addr) (L20 C20 : Nat), cell h13 (a14.add 1) = some (.slice a35 L20 C20) ∧
  (.slice a35 L20 C20 : Value) = .slice a15 L6 C6) ∧
  (∃ (a36 : Option Addr) (L21 C21 : Nat), cell h13 a9 = some (.slice a36 L21 C21) ∧
  (.slice a36 L21 C21 : Value) = .slice a10 L4 C4) ∧
  HCalls Tryz.prog 65 #[.slice a10 L4 C4, .int .i64 0, .slice (some ⟨b5, 0, none⟩) 1 1] h13 fun v5 h14 => ∃ (r5 : Option Addr) (rL5 rC5 : Nat), v5 = .slice r5 rL5 rC5 ∧
  (∃ (a37 : Option Addr) (L22 C22 : Nat), cell h14 (a14.add 1) = some (.slice a37 L22 C22) ∧
  (.slice a37 L22 C22 : Value) = .slice a15 L6 C6) ∧
  HCalls Tryz.prog 65 #[.slice a15 L6 C6, .int .i64 0, .slice (some ⟨b4, 0, none⟩) 1 1] h14 fun v6 h15 => ∃ (r6 : Option Addr) (rL6 rC6 : Nat), v6 = .slice r6 rL6 rC6 ∧
  NN p2 fun a38 =>
  Wr h15 a38 (.slice r5 rL5 rC5) fun h16 =>
  NN p2 fun a39 =>
  Wr h16 (a39.add 1) (.slice r6 rL6 rC6) fun h17 =>
  btree_fromLeft_b1 p i p1 p2 ((L3 : Int) - 1) h17  K)) := by kernel_rfl
theorem btree_fromLeft_b1_eq (p : Option Addr) (i : Int) (l : Option Addr) (nv : Option Addr) (k : Int) (h : Hp)  (K : Value → Hp → Prop) : btree_fromLeft_b1 p i l nv k h  K = (
  NN p fun a40 =>
  ∃ (a41 : Option Addr) (L23 C23 : Nat), cell h a40 = some (.slice a41 L23 C23) ∧
  InR (i - 1) ∧
  NN p fun a42 =>
  ∃ (a43 : Option Addr) (L24 C24 : Nat), cell h (a42.add 1) = some (.slice a43 L24 C24) ∧
  InR (i - 1) ∧
  NN l fun a44 =>
  ∃ (a45 : Option Addr) (L25 C25 : Nat), cell h a44 = some (.slice a45 L25 C25) ∧
  (0 ≤ k ∧ k < (L25 : Int)) ∧
  NN a45 fun a46 =>
  ∃ n6 : Int, cell h (a46.add (Int.toNat k * 1)) = some (.int .i64 n6) ∧
  NN l fun a47 =>
  ∃ (a48 : Option Addr) (L26 C26 : Nat), cell h (a47.add 1) = some (.slice a48 L26 C26) ∧
  (0 ≤ k ∧ k < (L26 : Int)) ∧
  NN a48 fun a49 =>
  ∃ n7 : Int, cell h (a49.add (Int.toNat k * 1)) = some (.int .i64 n7) ∧
  (0 ≤ i - 1 ∧ i - 1 < (L23 : Int)) ∧
  NN a41 fun a50 =>
  Wr h (a50.add (Int.toNat (i - 1) * 1)) (.int .i64 n6) fun h18 =>
  (0 ≤ i - 1 ∧ i - 1 < (L24 : Int)) ∧
  NN a43 fun a51 =>
  Wr h18 (a51.add (Int.toNat (i - 1) * 1)) (.int .i64 n7) fun h19 =>
  NN l fun a52 =>
  ∃ (a53 : Option Addr) (L27 C27 : Nat), cell h19 a52 = some (.slice a53 L27 C27) ∧
  (0 ≤ (0 : Int) ∧ (0 : Int) ≤ k ∧ k ≤ (C27 : Int)) ∧
  NN l fun a54 =>
  ∃ (a55 : Option Addr) (L28 C28 : Nat), cell h19 (a54.add 1) = some (.slice a55 L28 C28) ∧
  (0 ≤ (0 : Int) ∧ (0 : Int) ≤ k ∧ k ≤ (C28 : Int)) ∧
  NN l fun a56 =>
  Wr h19 a56 (.slice (subAddr a53 C27 (Int.toNat (0 : Int)) 1) (Int.toNat k - Int.toNat (0 : Int)) (C27 - Int.toNat (0 : Int))) fun h20 =>
  ((0 ≤ (0 : Int) ∧ (0 : Int) ≤ k ∧ k ≤ (C28 : Int)) ∧
  (.slice (subAddr a55 C28 (Int.toNat (0 : Int)) 1) (Int.toNat k - Int.toNat (0 : Int)) (C28 - Int.toNat (0 : Int)) : Value) = .slice (subAddr a55 C28 (Int.toNat (0 : Int)) 1) (Int.toNat k - Int.toNat (0 : Int)) (C28 - Int.toNat (0 : Int))) ∧
  NN l fun a57 =>
  Wr h20 (a57.add 1) (.slice (subAddr a55 C28 (Int.toNat (0 : Int)) 1) (Int.toNat k - Int.toNat (0 : Int)) (C28 - Int.toNat (0 : Int))) fun h21 =>
  HCalls Tryz.prog 60 #[.pointer l] h21 fun v7 h22 => ∃ r7 : Bool, v7 = .bool r7 ∧
  cond (!r7)
  (NN nv fun a58 =>
  ∃ (a59 : Option Addr) (L29 C29 : Nat), cell h22 (a58.add 2) = some (.slice a59 L29 C29) ∧
  NN l fun a60 =>
  ∃ (a61 : Option Addr) (L30 C30 : Nat), cell h22 (a60.add 2) = some (.slice a61 L30 C30) ∧
  InR (k + 1) ∧
  (0 ≤ k + 1 ∧ k + 1 < (L30 : Int)) ∧
  NN a61 fun a62 =>
  ∃ p3 : Option Addr, cell h22 (a62.add (Int.toNat (k + 1) * 1)) = some (.pointer p3) ∧
  New h22 (.cells #[.pointer p3] 60) fun b6 h23 =>
  (∃ (a63 : Option Addr) (L31 C31 : Nat), cell h23 (a58.add 2) = some (.slice a63 L31 C31) ∧
  (.slice a63 L31 C31 : Value) = .slice a59 L29 C29) ∧
  HCalls Tryz.prog 66 #[.slice a59 L29 C29, .int .i64 0, .slice (some ⟨b6, 0, none⟩) 1 1] h23 fun v8 h24 => ∃ (r8 : Option Addr) (rL7 rC7 : Nat), v8 = .slice r8 rL7 rC7 ∧
  NN nv fun a64 =>
  Wr h24 (a64.add 2) (.slice r8 rL7 rC7) fun h25 =>
  NN l fun a65 =>
  ∃ (a66 : Option Addr) (L32 C32 : Nat), cell h25 (a65.add 2) = some (.slice a66 L32 C32) ∧
  InR (k + 1) ∧
  InR (k + 2) ∧
  HCalls Tryz.prog 106 #[.slice a66 L32 C32, .int .i64 (k + 1), .int .i64 (k + 2)] h25 fun v9 h26 => ∃ (r9 : Option Addr) (rL8 rC8 : Nat), v9 = .slice r9 rL8 rC8 ∧
  NN l fun a67 =>
  Wr h26 (a67.add 2) (.slice r9 rL8 rC8) fun h27 =>
  K (.tuple #[]) h27)
  (K (.tuple #[]) h22)) := by kernel_rfl
theorem btree_fromLeft_call {p : Option Addr} {i : Int} {h : Hp} {K : Value → Hp → Prop} (hk : btree_fromLeft_b0 p i h K) : HCalls Tryz.prog 85 #[.pointer p, .int .i64 i] h K :=
  calls_of_snd btree_fromLeft_an Tryz.func85 (c := bodyOf Tryz.f85) rfl Tryz.ntmps85 (Nat.le_of_ble_eq_true rfl) (snd_2 F_ok F_mixed) hk

/-! ### btree_fromRight -/
def btree_fromRight_an : Ann := .node none (.leaf) (.node (some [0, 1, 4, 5]) (.plan (.qu 0 (.qu 1 (.qu 2 (.qu 3 (.qu 4 (.qu 5 (.qu 6 (.qu 7 (.qu 8 (.qu 9 (.qu 10 (.qu 11 (.qu 12 (.qu 15 (.qu 16 (.qu 17 (.qu 18 (.qu 19 (.qu 20 (.qu 21 (.qu 22 (.qu 23 (.qu 24 (.qu 25 (.wo 13 (.wo 14 (.wo 26 (.wo 27 (.qu 28 (.qu 29 (.wo 30 (.qu 31 (.qu 32 (.wo 33 .fin .no))) .no))) .no) .no) (.wo 26 (.wo 14 (.wo 27 (.qu 28 (.qu 29 (.wo 30 (.qu 31 (.qu 32 (.wo 33 .fin .no))) .no))) .no) .no) .no)) (.wo 26 (.wo 13 (.wo 14 (.wo 27 (.qu 28 (.qu 29 (.wo 30 (.qu 31 (.qu 32 (.wo 33 .fin .no))) .no))) .no) .no) .no) .no))))))))))))))))))))))))))) (.node none (.plan (.qu 0 (.qu 1 (.qu 2 (.qu 3 (.qu 4 (.qu 5 (.qu 6 (.qu 7 (.qu 8 (.qu 9 (.qu 10 (.qu 11 (.qu 12 (.qu 13 (.qu 14 (.qu 15 (.qu 16 (.qu 17 (.qu 18 (.qu 19 (.qu 20 (.qu 21 (.qu 22 (.wo 23 (.qu 24 (.wo 25 .fin .no)) .no))))))))))))))))))))))))) (.node none (.plan (.qu 0 (.qu 1 (.qu 2 (.qu 3 (.qu 4 (.qu 5 (.qu 7 (.qu 8 (.qu 9 (.qu 10 (.wo 6 (.wo 11 (.qu 12 (.qu 13 (.wo 14 (.qu 15 (.qu 16 (.wo 17 .fin .no))) .no))) .no) .no)))))))))))) (.node none (.leaf) (.node none (.node none (.plan (.qu 0 (.qu 1 (.qu 2 (.qu 3 (.qu 4 (.qu 5 (.qu 6 (.qu 7 (.qu 8 (.qu 9 (.qu 10 (.wo 11 (.wo 12 (.qu 13 (.qu 14 (.wo 15 .fin .no))) .no) .no))))))))))))) (.leaf)) (.leaf))))))
def btree_fromRight_K0  (K : Value → Hp → Prop) : Exit → Env → Hp → Prop := retK Tryz.prog Tryz.f86.results.toList K
def btree_fromRight_b0 (p : Option Addr) (i : Int) (h : Hp)  (K : Value → Hp → Prop) : Prop :=
  sx_2 Tryz.prog F 119 (cp [] (bodyOf Tryz.f86)) (ap [] btree_fromRight_an) [(0, .pointer p), (1, .int .i64 i)] h (btree_fromRight_K0  K)
def btree_fromRight_b1 (p : Option Addr) (i : Int) (nv : Option Addr) (r : Option Addr) (h : Hp)  (K : Value → Hp → Prop) : Prop :=
  sx_1 Tryz.prog F 119 (cp [1, 1] (bodyOf Tryz.f86)) (ap [1, 1] btree_fromRight_an) [(0, .pointer p), (1, .int .i64 i), (4, .pointer nv), (5, .pointer r)] h (btree_fromRight_K0  K)
theorem btree_fromRight_b0_eq (p : Option Addr) (i : Int) (h : Hp)  (K : Value → Hp → Prop) : btree_fromRight_b0 p i h  K = (
  NN p fun a1 =>
  ∃ (a2 : Option Addr) (L1 C1 : Nat), cell h (a1.add 2) = some (.slice a2 L1 C1) ∧
  (0 ≤ i ∧ i < (L1 : Int)) ∧
  NN a2 fun a3 =>
  ∃ p1 : Option Addr, cell h (a3.add (Int.toNat i * 1)) = some (.pointer p1) ∧
  NN p fun a4 =>
  ∃ (a5 : Option Addr) (L2 C2 : Nat), cell h (a4.add 2) = some (.slice a5 L2 C2) ∧
  InR (i + 1) ∧
  (0 ≤ i + 1 ∧ i + 1 < (L2 : Int)) ∧
  NN a5 fun a6 =>
  ∃ p2 : Option Addr, cell h (a6.add (Int.toNat (i + 1) * 1)) = some (.pointer p2) ∧
  NN p1 fun a7 =>
  ∃ (a8 : Option Addr) (L3 C3 : Nat), cell h a7 = some (.slice a8 L3 C3) ∧
  NN p fun a9 =>
  ∃ (a10 : Option Addr) (L4 C4 : Nat), cell h a9 = some (.slice a10 L4 C4) ∧
  (0 ≤ i ∧ i < (L4 : Int)) ∧
  NN a10 fun a11 =>
  ∃ n1 : Int, cell h (a11.add (Int.toNat i * 1)) = some (.int .i64 n1) ∧
  NN p1 fun a12 =>
  ∃ (a13 : Option Addr) (L5 C5 : Nat), cell h (a12.add 1) = some (.slice a13 L5 C5) ∧
  NN p fun a14 =>
  ∃ (a15 : Option Addr) (L6 C6 : Nat), cell h (a14.add 1) = some (.slice a15 L6 C6) ∧
  (0 ≤ i ∧ i < (L6 : Int)) ∧
  NN a15 fun a16 =>
  ∃ n2 : Int, cell h (a16.add (Int.toNat i * 1)) = some (.int .i64 n2) ∧
  (New h (.cells #[.int .i64 n1] 3) fun b1 h1 =>
  (∃ n3 : Int, cell h1 (a16.add (Int.toNat i * 1)) = some (.int .i64 n3) ∧
  (.int .i64 n3 : Value) = .int .i64 n2) ∧
  (∃ (a17 : Option Addr) (L7 C7 : Nat), cell h1 (a14.add 1) = some (.slice a17 L7 C7) ∧
  (.slice a17 L7 C7 : Value) = .slice a15 L6 C6) ∧
  (∃ (a18 : Option Addr) (L8 C8 : Nat), cell h1 (a12.add 1) = some (.slice a18 L8 C8) ∧
  (.slice a18 L8 C8 : Value) = .slice a13 L5 C5) ∧
  (∃ (a19 : Option Addr) (L9 C9 : Nat), cell h1 a7 = some (.slice a19 L9 C9) ∧
  (.slice a19 L9 C9 : Value) = .slice a8 L3 C3) ∧
  (appendV Tryz.prog 37 37 (.slice a8 L3 C3) (.slice (some ⟨b1, 0, none⟩) 1 1) h1 (slK fun a20 l1 c1 h2 =>
  (∃ n4 : Int, cell h2 (a16.add (Int.toNat i * 1)) = some (.int .i64 n4) ∧
  (.int .i64 n4 : Value) = .int .i64 n2) ∧
  (∃ (a21 : Option Addr) (L10 C10 : Nat), cell h2 (a14.add 1) = some (.slice a21 L10 C10) ∧
  (.slice a21 L10 C10 : Value) = .slice a15 L6 C6) ∧
  (∃ (a22 : Option Addr) (L11 C11 : Nat), cell h2 (a12.add 1) = some (.slice a22 L11 C11) ∧
  (.slice a22 L11 C11 : Value) = .slice a13 L5 C5) ∧
  New h2 (.cells #[.int .i64 n2] 3) fun b2 h3 =>
  (∃ (a23 : Option Addr) (L12 C12 : Nat), cell h3 (a12.add 1) = some (.slice a23 L12 C12) ∧
  (.slice a23 L12 C12 : Value) = .slice a13 L5 C5) ∧
  appendV Tryz.prog 37 37 (.slice a13 L5 C5) (.slice (some ⟨b2, 0, none⟩) 1 1) h3 (slK fun a24 l2 c2 h4 =>
  NN p1 fun a25 =>
  Wr h4 a25 (.slice a20 l1 c1) fun h5 =>
  NN p1 fun a26 =>
  Wr h5 (a26.add 1) (.slice a24 l2 c2) fun h6 =>
  btree_fromRight_b1 p i p1 p2 h6  K))) ∧
  (New h1 (.cells #[.int .i64 n2] 3) fun b3 h7 =>
  (∃ (a27 : Option Addr) (L13 C13 : Nat), cell h7 (a12.add 1) = some (.slice a27 L13 C13) ∧
  (.slice a27 L13 C13 : Value) = .slice a13 L5 C5) ∧
  (∃ (a28 : Option Addr) (L14 C14 : Nat), cell h7 a7 = some (.slice a28 L14 C14) ∧
  (.slice a28 L14 C14 : Value) = .slice a8 L3 C3) ∧
  appendV Tryz.prog 37 37 (.slice a8 L3 C3) (.slice (some ⟨b1, 0, none⟩) 1 1) h7 (slK fun a29 l3 c3 h8 =>
  (∃ (a30 : Option Addr) (L15 C15 : Nat), cell h8 (a12.add 1) = some (.slice a30 L15 C15) ∧
  (.slice a30 L15 C15 : Value) = .slice a13 L5 C5) ∧
  appendV Tryz.prog 37 37 (.slice a13 L5 C5) (.slice (some ⟨b3, 0, none⟩) 1 1) h8 (slK fun a31 l4 c4 h9 =>
  NN p1 fun a32 =>
  Wr h9 a32 (.slice a29 l3 c3) fun h10 =>
  NN p1 fun a33 =>
  Wr h10 (a33.add 1) (.slice a31 l4 c4) fun h11 =>
  btree_fromRight_b1 p i p1 p2 h11  K)))) ∧
  (New h (.cells #[.int .i64 n2] 3) fun b4 h12 =>
  (∃ (a34 : Option Addr) (L16 C16 : Nat), cell h12 (a12.add 1) = some (.slice a34 L16 C16) ∧
  (.slice a34 L16 C16 : Value) = .slice a13 L5 C5) ∧
  (∃ n5 : Int, cell h12 (a11.add (Int.toNat i * 1)) = some (.int .i64 n5) ∧
  (.int .i64 n5 : Value) = .int .i64 n1) ∧
  (∃ (a35 : Option Addr) (L17 C17 : Nat), cell h12 a9 = some (.slice a35 L17 C17) ∧
  (.slice a35 L17 C17 : Value) = .slice a10 L4 C4) ∧
  (∃ (a36 : Option Addr) (L18 C18 : Nat), cell h12 a7 = some (.slice a36 L18 C18) ∧
  (.slice a36 L18 C18 : Value) = .slice a8 L3 C3) ∧
  New h12 (.cells #[.int .i64 n1] 3) fun b5 h13 =>
  (∃ (a37 : Option Addr) (L19 C19 : Nat), cell h13 (a12.add 1) = some (.slice a37 L19 C19) ∧
  (.slice a37 L19 C19 : Value) = .slice a13 L5 C5) ∧
  (∃ (a38 : Option Addr) (L20 C20 : Nat), cell h13 a7 = some (.slice a38 L20 C20) ∧
  (.slice a38 L20 C20 : Value) = .slice a8 L3 C3) ∧
  appendV Tryz.prog 37 37 (.slice a8 L3 C3) (.slice (some ⟨b5, 0, none⟩) 1 1) h13 (slK fun a39 l5 c5 h14 =>
  (∃ (a40 : Option Addr) (L21 C21 : Nat), cell h14 (a12.add 1) = some (.slice a40 L21 C21) ∧
  (.slice a40 L21 C21 : Value) = .slice a13 L5 C5) ∧
  appendV Tryz.prog 37 37 (.slice a13 L5 C5) (.slice (some ⟨b4, 0, none⟩) 1 1) h14 (slK fun a41 l6 c6 h15 =>
  NN p1 fun a42 =>
  Wr h15 a42 (.slice a39 l5 c5) fun h16 =>
  NN p1 fun a43 =>
  Wr h16 (a43.add 1) (.slice a41 l6 c6) fun h17 =>
  btree_fromRight_b1 p i p1 p2 h17  K)))) := by kernel_rfl
theorem btree_fromRight_b1_eq (p : Option Addr) (i : Int) (nv : Option Addr) (r : Option Addr) (h : Hp)  (K : Value → Hp → Prop) : btree_fromRight_b1 p i nv r h  K = (
  NN p fun a44 =>
  ∃ (a45 : Option Addr) (L22 C22 : Nat), cell h a44 = some (.slice a45 L22 C22) ∧
  NN p fun a46 =>
  ∃ (a47 : Option Addr) (L23 C23 : Nat), cell h (a46.add 1) = some (.slice a47 L23 C23) ∧
  NN r fun a48 =>
  ∃ (a49 : Option Addr) (L24 C24 : Nat), cell h a48 = some (.slice a49 L24 C24) ∧
  (0 ≤ (0 : Int) ∧ (0 : Int) < (L24 : Int)) ∧
  NN a49 fun a50 =>
  ∃ n6 : Int, cell h (a50.add (Int.toNat (0 : Int) * 1)) = some (.int .i64 n6) ∧
  NN r fun a51 =>
  ∃ (a52 : Option Addr) (L25 C25 : Nat), cell h (a51.add 1) = some (.slice a52 L25 C25) ∧
  (0 ≤ (0 : Int) ∧ (0 : Int) < (L25 : Int)) ∧
  NN a52 fun a53 =>
  ∃ n7 : Int, cell h (a53.add (Int.toNat (0 : Int) * 1)) = some (.int .i64 n7) ∧
  (0 ≤ i ∧ i < (L22 : Int)) ∧
  NN a45 fun a54 =>
  Wr h (a54.add (Int.toNat i * 1)) (.int .i64 n6) fun h18 =>
  (0 ≤ i ∧ i < (L23 : Int)) ∧
  NN a47 fun a55 =>
  Wr h18 (a55.add (Int.toNat i * 1)) (.int .i64 n7) fun h19 =>
  NN r fun a56 =>
  ∃ (a57 : Option Addr) (L26 C26 : Nat), cell h19 a56 = some (.slice a57 L26 C26) ∧
  NN r fun a58 =>
  ∃ (a59 : Option Addr) (L27 C27 : Nat), cell h19 (a58.add 1) = some (.slice a59 L27 C27) ∧
  HCalls Tryz.prog 84 #[.slice a57 L26 C26, .int .i64 0, .int .i64 1] h19 fun v1 h20 => ∃ (r1 : Option Addr) (rL1 rC1 : Nat), v1 = .slice r1 rL1 rC1 ∧
  (∃ (a60 : Option Addr) (L28 C28 : Nat), cell h20 (a58.add 1) = some (.slice a60 L28 C28) ∧
  (.slice a60 L28 C28 : Value) = .slice a59 L27 C27) ∧
  HCalls Tryz.prog 84 #[.slice a59 L27 C27, .int .i64 0, .int .i64 1] h20 fun v2 h21 => ∃ (r2 : Option Addr) (rL2 rC2 : Nat), v2 = .slice r2 rL2 rC2 ∧
  NN r fun a61 =>
  Wr h21 a61 (.slice r1 rL1 rC1) fun h22 =>
  NN r fun a62 =>
  Wr h22 (a62.add 1) (.slice r2 rL2 rC2) fun h23 =>
  HCalls Tryz.prog 60 #[.pointer r] h23 fun v3 h24 => ∃ r3 : Bool, v3 = .bool r3 ∧
  cond (!r3)
  (NN nv fun a63 =>
  ∃ (a64 : Option Addr) (L29 C29 : Nat), cell h24 (a63.add 2) = some (.slice a64 L29 C29) ∧
  NN r fun a65 =>
  ∃ (a66 : Option Addr) (L30 C30 : Nat), cell h24 (a65.add 2) = some (.slice a66 L30 C30) ∧
  (0 ≤ (0 : Int) ∧ (0 : Int) < (L30 : Int)) ∧
  NN a66 fun a67 =>
  ∃ p3 : Option Addr, cell h24 (a67.add (Int.toNat (0 : Int) * 1)) = some (.pointer p3) ∧
  New h24 (.cells #[.pointer p3] 60) fun b6 h25 =>
  (∃ (a68 : Option Addr) (L31 C31 : Nat), cell h25 (a63.add 2) = some (.slice a68 L31 C31) ∧
  (.slice a68 L31 C31 : Value) = .slice a64 L29 C29) ∧
  appendV Tryz.prog 83 83 (.slice a64 L29 C29) (.slice (some ⟨b6, 0, none⟩) 1 1) h25 (slK fun a69 l7 c7 h26 =>
  NN nv fun a70 =>
  Wr h26 (a70.add 2) (.slice a69 l7 c7) fun h27 =>
  NN r fun a71 =>
  ∃ (a72 : Option Addr) (L32 C32 : Nat), cell h27 (a71.add 2) = some (.slice a72 L32 C32) ∧
  HCalls Tryz.prog 106 #[.slice a72 L32 C32, .int .i64 0, .int .i64 1] h27 fun v4 h28 => ∃ (r4 : Option Addr) (rL3 rC3 : Nat), v4 = .slice r4 rL3 rC3 ∧
  NN r fun a73 =>
  Wr h28 (a73.add 2) (.slice r4 rL3 rC3) fun h29 =>
  K (.tuple #[]) h29))
  (K (.tuple #[]) h24)) := by kernel_rfl
theorem btree_fromRight_call {p : Option Addr} {i : Int} {h : Hp} {K : Value → Hp → Prop} (hk : btree_fromRight_b0 p i h K) : HCalls Tryz.prog 86 #[.pointer p, .int .i64 i] h K :=
  calls_of_snd btree_fromRight_an Tryz.func86 (c := bodyOf Tryz.f86) rfl Tryz.ntmps86 (Nat.le_of_ble_eq_true rfl) (snd_2 F_ok F_mixed) hk

/-! ### btree_merge -/
def btree_merge_an : Ann := .node none (.leaf) (.node none (.plan (.qu 0 (.qu 1 (.qu 2 (.qu 3 (.qu 4 (.qu 5 (.qu 6 (.qu 7 (.qu 8 (.qu 9 (.qu 10 (.qu 11 (.qu 14 (.qu 15 (.qu 16 (.qu 17 (.wo 12 (.wo 13 (.wo 18 (.qu 19 (.qu 20 (.wo 21 .fin .no))) .no) .no) .no)))))))))))))))))) (.node none (.plan (.qu 0 (.qu 1 (.qu 2 (.qu 3 (.qu 4 (.qu 5 (.qu 6 (.qu 7 (.qu 8 (.qu 9 (.qu 10 (.qu 11 (.qu 14 (.qu 15 (.qu 16 (.qu 17 (.wo 12 (.wo 13 (.wo 18 (.qu 19 (.qu 20 (.wo 21 .fin .no))) .no) .no) .no)))))))))))))))))) (.node none (.plan (.qu 0 (.qu 1 (.qu 2 (.qu 3 (.qu 4 (.qu 5 (.qu 6 (.qu 7 (.qu 8 (.wo 9 (.qu 10 (.qu 11 (.wo 12 .fin .no))) .no))))))))))) (.node none (.plan (.qu 0 (.qu 1 (.qu 2 (.qu 3 (.qu 4 (.qu 5 (.qu 6 (.qu 7 (.qu 8 (.qu 10 (.qu 11 (.qu 12 (.qu 13 (.qu 14 (.qu 15 (.qu 16 (.wo 9 (.wo 17 (.qu 18 (.qu 19 (.wo 20 (.qu 21 (.qu 22 (.wo 23 .fin .no))) .no))) .no) .no)))))))))))))))))) (.leaf)))))
def btree_merge_K0  (K : Value → Hp → Prop) : Exit → Env → Hp → Prop := retK Tryz.prog Tryz.f87.results.toList K
def btree_merge_b0 (p : Option Addr) (i : Int) (h : Hp)  (K : Value → Hp → Prop) : Prop :=
  sx_1 Tryz.prog F 109 (cp [] (bodyOf Tryz.f87)) (ap [] btree_merge_an) [(0, .pointer p), (1, .int .i64 i)] h (btree_merge_K0  K)
theorem btree_merge_b0_eq (p : Option Addr) (i : Int) (h : Hp)  (K : Value → Hp → Prop) : btree_merge_b0 p i h  K = (
  NN p fun a1 =>
  ∃ (a2 : Option Addr) (L1 C1 : Nat), cell h (a1.add 2) = some (.slice a2 L1 C1) ∧
  (0 ≤ i ∧ i < (L1 : Int)) ∧
  NN a2 fun a3 =>
  ∃ p1 : Option Addr, cell h (a3.add (Int.toNat i * 1)) = some (.pointer p1) ∧
  NN p fun a4 =>
  ∃ (a5 : Option Addr) (L2 C2 : Nat), cell h (a4.add 2) = some (.slice a5 L2 C2) ∧
  InR (i + 1) ∧
  (0 ≤ i + 1 ∧ i + 1 < (L2 : Int)) ∧
  NN a5 fun a6 =>
  ∃ p2 : Option Addr, cell h (a6.add (Int.toNat (i + 1) * 1)) = some (.pointer p2) ∧
  NN p1 fun a7 =>
  ∃ (a8 : Option Addr) (L3 C3 : Nat), cell h a7 = some (.slice a8 L3 C3) ∧
  NN p fun a9 =>
  ∃ (a10 : Option Addr) (L4 C4 : Nat), cell h a9 = some (.slice a10 L4 C4) ∧
  (0 ≤ i ∧ i < (L4 : Int)) ∧
  NN a10 fun a11 =>
  ∃ n1 : Int, cell h (a11.add (Int.toNat i * 1)) = some (.int .i64 n1) ∧
  NN p2 fun a12 =>
  ∃ (a13 : Option Addr) (L5 C5 : Nat), cell h a12 = some (.slice a13 L5 C5) ∧
  New h (.cells #[.int .i64 n1] 3) fun b1 h1 =>
  (∃ (a14 : Option Addr) (L6 C6 : Nat), cell h1 a12 = some (.slice a14 L6 C6) ∧
  (.slice a14 L6 C6 : Value) = .slice a13 L5 C5) ∧
  (∃ (a15 : Option Addr) (L7 C7 : Nat), cell h1 a7 = some (.slice a15 L7 C7) ∧
  (.slice a15 L7 C7 : Value) = .slice a8 L3 C3) ∧
  appendV Tryz.prog 37 37 (.slice a8 L3 C3) (.slice (some ⟨b1, 0, none⟩) 1 1) h1 (slK fun a16 l1 c1 h2 =>
  (∃ (a17 : Option Addr) (L8 C8 : Nat), cell h2 a12 = some (.slice a17 L8 C8) ∧
  (.slice a17 L8 C8 : Value) = .slice a13 L5 C5) ∧
  appendV Tryz.prog 37 37 (.slice a16 l1 c1) (.slice a13 L5 C5) h2 (slK fun a18 l2 c2 h3 =>
  NN p1 fun a19 =>
  Wr h3 a19 (.slice a18 l2 c2) fun h4 =>
  NN p1 fun a20 =>
  ∃ (a21 : Option Addr) (L9 C9 : Nat), cell h4 (a20.add 1) = some (.slice a21 L9 C9) ∧
  NN p fun a22 =>
  ∃ (a23 : Option Addr) (L10 C10 : Nat), cell h4 (a22.add 1) = some (.slice a23 L10 C10) ∧
  (0 ≤ i ∧ i < (L10 : Int)) ∧
  NN a23 fun a24 =>
  ∃ n2 : Int, cell h4 (a24.add (Int.toNat i * 1)) = some (.int .i64 n2) ∧
  NN p2 fun a25 =>
  ∃ (a26 : Option Addr) (L11 C11 : Nat), cell h4 (a25.add 1) = some (.slice a26 L11 C11) ∧
  New h4 (.cells #[.int .i64 n2] 3) fun b2 h5 =>
  (∃ (a27 : Option Addr) (L12 C12 : Nat), cell h5 (a25.add 1) = some (.slice a27 L12 C12) ∧
  (.slice a27 L12 C12 : Value) = .slice a26 L11 C11) ∧
  (∃ (a28 : Option Addr) (L13 C13 : Nat), cell h5 (a20.add 1) = some (.slice a28 L13 C13) ∧
  (.slice a28 L13 C13 : Value) = .slice a21 L9 C9) ∧
  appendV Tryz.prog 37 37 (.slice a21 L9 C9) (.slice (some ⟨b2, 0, none⟩) 1 1) h5 (slK fun a29 l3 c3 h6 =>
  (∃ (a30 : Option Addr) (L14 C14 : Nat), cell h6 (a25.add 1) = some (.slice a30 L14 C14) ∧
  (.slice a30 L14 C14 : Value) = .slice a26 L11 C11) ∧
  appendV Tryz.prog 37 37 (.slice a29 l3 c3) (.slice a26 L11 C11) h6 (slK fun a31 l4 c4 h7 =>
  NN p1 fun a32 =>
  Wr h7 (a32.add 1) (.slice a31 l4 c4) fun h8 =>
  NN p1 fun a33 =>
  ∃ (a34 : Option Addr) (L15 C15 : Nat), cell h8 (a33.add 2) = some (.slice a34 L15 C15) ∧
  NN p2 fun a35 =>
  ∃ (a36 : Option Addr) (L16 C16 : Nat), cell h8 (a35.add 2) = some (.slice a36 L16 C16) ∧
  appendV Tryz.prog 83 83 (.slice a34 L15 C15) (.slice a36 L16 C16) h8 (slK fun a37 l5 c5 h9 =>
  NN p1 fun a38 =>
  Wr h9 (a38.add 2) (.slice a37 l5 c5) fun h10 =>
  NN p fun a39 =>
  ∃ (a40 : Option Addr) (L17 C17 : Nat), cell h10 a39 = some (.slice a40 L17 C17) ∧
  InR (i + 1) ∧
  NN p fun a41 =>
  ∃ (a42 : Option Addr) (L18 C18 : Nat), cell h10 (a41.add 1) = some (.slice a42 L18 C18) ∧
  InR (i + 1) ∧
  HCalls Tryz.prog 84 #[.slice a40 L17 C17, .int .i64 i, .int .i64 (i + 1)] h10 fun v1 h11 => ∃ (r1 : Option Addr) (rL1 rC1 : Nat), v1 = .slice r1 rL1 rC1 ∧
  (∃ (a43 : Option Addr) (L19 C19 : Nat), cell h11 (a41.add 1) = some (.slice a43 L19 C19) ∧
  (.slice a43 L19 C19 : Value) = .slice a42 L18 C18) ∧
  HCalls Tryz.prog 84 #[.slice a42 L18 C18, .int .i64 i, .int .i64 (i + 1)] h11 fun v2 h12 => ∃ (r2 : Option Addr) (rL2 rC2 : Nat), v2 = .slice r2 rL2 rC2 ∧
  NN p fun a44 =>
  Wr h12 a44 (.slice r1 rL1 rC1) fun h13 =>
  NN p fun a45 =>
  Wr h13 (a45.add 1) (.slice r2 rL2 rC2) fun h14 =>
  NN p fun a46 =>
  ∃ (a47 : Option Addr) (L20 C20 : Nat), cell h14 (a46.add 2) = some (.slice a47 L20 C20) ∧
  InR (i + 1) ∧
  InR (i + 2) ∧
  HCalls Tryz.prog 106 #[.slice a47 L20 C20, .int .i64 (i + 1), .int .i64 (i + 2)] h14 fun v3 h15 => ∃ (r3 : Option Addr) (rL3 rC3 : Nat), v3 = .slice r3 rL3 rC3 ∧
  NN p fun a48 =>
  Wr h15 (a48.add 2) (.slice r3 rL3 rC3) fun h16 =>
  K (.tuple #[]) h16)))))) := by kernel_rfl
theorem btree_merge_call {p : Option Addr} {i : Int} {h : Hp} {K : Value → Hp → Prop} (hk : btree_merge_b0 p i h K) : HCalls Tryz.prog 87 #[.pointer p, .int .i64 i] h K :=
  calls_of_snd btree_merge_an Tryz.func87 (c := bodyOf Tryz.f87) rfl Tryz.ntmps87 (Nat.le_of_ble_eq_true rfl) (snd_1 F_ok F_mixed) hk


/-! ### slices_Clone_btree_node_btree_node -/
def slices_Clone_btree_node_btree_node_an : Ann := .leaf
def slices_Clone_btree_node_btree_node_K0  (K : Value → Hp → Prop) : Exit → Env → Hp → Prop := retK Tryz.prog Tryz.f92.results.toList K
def slices_Clone_btree_node_btree_node_b0 (s : Option Addr) (sL : Nat) (sC : Nat) (h : Hp)  (K : Value → Hp → Prop) : Prop :=
  sx_1 Tryz.prog F 8 (cp [] (bodyOf Tryz.f92)) (ap [] slices_Clone_btree_node_btree_node_an) [(0, .slice s sL sC)] h (slices_Clone_btree_node_btree_node_K0  K)
theorem slices_Clone_btree_node_btree_node_b0_eq (s : Option Addr) (sL : Nat) (sC : Nat) (h : Hp)  (K : Value → Hp → Prop) : slices_Clone_btree_node_btree_node_b0 s sL sC h  K = (
  cond (Option.isNone s)
  (K (.slice none 0 0) h)
  (New h (.cells #[] 60) fun b1 h1 =>
  appendV Tryz.prog 83 83 (.slice (some ⟨b1, 0, none⟩) 0 0) (.slice s sL sC) h1 (slK fun a1 l1 c1 h2 =>
  K (.slice a1 l1 c1) h2))) := by kernel_rfl
theorem slices_Clone_btree_node_btree_node_call {s : Option Addr} {sL : Nat} {sC : Nat} {h : Hp} {K : Value → Hp → Prop} (hk : slices_Clone_btree_node_btree_node_b0 s sL sC h K) : HCalls Tryz.prog 92 #[.slice s sL sC] h K :=
  calls_of_snd slices_Clone_btree_node_btree_node_an Tryz.func92 (c := bodyOf Tryz.f92) rfl Tryz.ntmps92 (Nat.le_of_ble_eq_true rfl) (snd_1 F_ok F_mixed) hk

/-! ### cmp_Less_int -/
def cmp_Less_int_an : Ann := .leaf
def cmp_Less_int_K0  (K : Value → Hp → Prop) : Exit → Env → Hp → Prop := retK Tryz.prog Tryz.f93.results.toList K
def cmp_Less_int_b0 (x : Int) (y : Int) (h : Hp)  (K : Value → Hp → Prop) : Prop :=
  sx_1 Tryz.prog F 17 (cp [] (bodyOf Tryz.f93)) (ap [] cmp_Less_int_an) [(0, .int .i64 x), (1, .int .i64 y)] h (cmp_Less_int_K0  K)
theorem cmp_Less_int_b0_eq (x : Int) (y : Int) (h : Hp)  (K : Value → Hp → Prop) : cmp_Less_int_b0 x y h  K = (
  HCalls Tryz.prog 109 #[.int .i64 x] h fun v1 h1 => ∃ r1 : Bool, v1 = .bool r1 ∧
  cond r1
  (HCalls Tryz.prog 109 #[.int .i64 y] h1 fun v2 h2 => ∃ r2 : Bool, v2 = .bool r2 ∧
  cond (!r2)
  (K (.bool true) h2)
  (K (.bool (decide (x < y))) h2))
  (K (.bool (decide (x < y))) h1)) := by kernel_rfl
theorem cmp_Less_int_call {x : Int} {y : Int} {h : Hp} {K : Value → Hp → Prop} (hk : cmp_Less_int_b0 x y h K) : HCalls Tryz.prog 93 #[.int .i64 x, .int .i64 y] h K :=
  calls_of_snd cmp_Less_int_an Tryz.func93 (c := bodyOf Tryz.f93) rfl Tryz.ntmps93 (Nat.le_of_ble_eq_true rfl) (snd_1 F_ok F_mixed) hk

/-! ### slices_isNaN_int -/
def slices_isNaN_int_an : Ann := .leaf
def slices_isNaN_int_K0  (K : Value → Hp → Prop) : Exit → Env → Hp → Prop := retK Tryz.prog Tryz.f94.results.toList K
def slices_isNaN_int_b0 (x : Int) (h : Hp)  (K : Value → Hp → Prop) : Prop :=
  sx_1 Tryz.prog F 6 (cp [] (bodyOf Tryz.f94)) (ap [] slices_isNaN_int_an) [(0, .int .i64 x)] h (slices_isNaN_int_K0  K)
theorem slices_isNaN_int_b0_eq (x : Int) (h : Hp)  (K : Value → Hp → Prop) : slices_isNaN_int_b0 x h  K = (
  K (.bool (!decide (x = x))) h) := by kernel_rfl
theorem slices_isNaN_int_call {x : Int} {h : Hp} {K : Value → Hp → Prop} (hk : slices_isNaN_int_b0 x h K) : HCalls Tryz.prog 94 #[.int .i64 x] h K :=
  calls_of_snd slices_isNaN_int_an Tryz.func94 (c := bodyOf Tryz.f94) rfl Tryz.ntmps94 (Nat.le_of_ble_eq_true rfl) (snd_1 F_ok F_mixed) hk

/-! ### r43_Least -/
def r43_Least_an : Ann := .leaf
def r43_Least_K0  (K : Value → Hp → Prop) : Exit → Env → Hp → Prop := retK Tryz.prog Tryz.f95.results.toList K
def r43_Least_b0 (order : Int) (h : Hp)  (K : Value → Hp → Prop) : Prop :=
  sx_1 Tryz.prog F 7 (cp [] (bodyOf Tryz.f95)) (ap [] r43_Least_an) [(0, .int .i64 order)] h (r43_Least_K0  K)
theorem r43_Least_b0_eq (order : Int) (h : Hp)  (K : Value → Hp → Prop) : r43_Least_b0 order h  K = (
  InR (order + 1) ∧
  ∃ q1 : Int, Sx.Quo .i64 (order + 1) 2 q1 ∧
  InR (q1 - 1) ∧
  K (.int .i64 (q1 - 1)) h) := by kernel_rfl
theorem r43_Least_call {order : Int} {h : Hp} {K : Value → Hp → Prop} (hk : r43_Least_b0 order h K) : HCalls Tryz.prog 95 #[.int .i64 order] h K :=
  calls_of_snd r43_Least_an Tryz.func95 (c := bodyOf Tryz.f95) rfl Tryz.ntmps95 (Nat.le_of_ble_eq_true rfl) (snd_1 F_ok F_mixed) hk

/-! ### cmp_Compare_int -/
def cmp_Compare_int_an : Ann := .leaf
def cmp_Compare_int_K0  (K : Value → Hp → Prop) : Exit → Env → Hp → Prop := retK Tryz.prog Tryz.f96.results.toList K
def cmp_Compare_int_b0 (x : Int) (y : Int) (h : Hp)  (K : Value → Hp → Prop) : Prop :=
  sx_1 Tryz.prog F 20 (cp [] (bodyOf Tryz.f96)) (ap [] cmp_Compare_int_an) [(0, .int .i64 x), (1, .int .i64 y)] h (cmp_Compare_int_K0  K)
theorem cmp_Compare_int_b0_eq (x : Int) (y : Int) (h : Hp)  (K : Value → Hp → Prop) : cmp_Compare_int_b0 x y h  K = (
  HCalls Tryz.prog 109 #[.int .i64 x] h fun v1 h1 => ∃ r1 : Bool, v1 = .bool r1 ∧
  HCalls Tryz.prog 109 #[.int .i64 y] h1 fun v2 h2 => ∃ r2 : Bool, v2 = .bool r2 ∧
  cond r1
  (cond r2
  (K (.int .i64 0) h2)
  (K (.int .i64 (-1)) h2))
  (cond r2
  (K (.int .i64 1) h2)
  (cond (decide (x < y))
  (K (.int .i64 (-1)) h2)
  (cond (decide (y < x))
  (K (.int .i64 1) h2)
  (K (.int .i64 0) h2))))) := by kernel_rfl
theorem cmp_Compare_int_call {x : Int} {y : Int} {h : Hp} {K : Value → Hp → Prop} (hk : cmp_Compare_int_b0 x y h K) : HCalls Tryz.prog 96 #[.int .i64 x, .int .i64 y] h K :=
  calls_of_snd cmp_Compare_int_an Tryz.func96 (c := bodyOf Tryz.f96) rfl Tryz.ntmps96 (Nat.le_of_ble_eq_true rfl) (snd_1 F_ok F_mixed) hk


end Go.Proofs.YtkdmcdnfakmapaaGreat
