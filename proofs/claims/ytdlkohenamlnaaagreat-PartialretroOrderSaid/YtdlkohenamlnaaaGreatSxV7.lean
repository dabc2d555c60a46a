/- Plain statements of what each block of code of this seat asks; printed by a program, checked by Lean. -/
import Derived.Test.YtdlkohenamlnaaaGreatSxV0
set_option maxRecDepth 10000
namespace Go.Proofs.YtdlkohenamlnaaaGreat
open Go Go.Sx

/-! ### partialretro_replay -/
def partialretro_replay_an : Ann := .node none (.leaf) (.node none (.leaf) (.node none (.leaf) (.node (some [0, 4, 5]) (.node none (.leaf) (.loop [0, 4, 5, 21, 22] [(23, .int .i64)] (.node none (.leaf) (.node none (.leaf) (.node (some [0, 4, 5, 21, 22, 23]) (.node none (.leaf) (.node none (.leaf) (.node none (.leaf) (.node none (.plan (.qu 0 (.qu 1 (.qu 2 (.qu 3 (.qu 4 (.wo 5 (.qu 6 (.qu 7 (.qu 8 (.wo 9 (.wo 10 .fin .no) .no)))) .no))))))) (.plan (.qu 0 (.qu 1 (.qu 2 (.qu 3 (.qu 4 (.qu 5 (.qu 6 (.wo 7 (.wo 8 (.qu 9 (.qu 10 (.wo 11 .fin .no))) .no) .no))))))))))))) (.leaf)))))) (.node none (.leaf) (.node (some [4]) (.node none (.leaf) (.loop [4, 5, 87, 88] [(11, .int .i64), (89, .int .i64)] (.node none (.leaf) (.node none (.leaf) (.node (some [4, 5, 11, 87, 88, 89]) (.node none (.leaf) (.node none (.leaf) (.node none (.leaf) (.node none (.plan (.qu 0 (.qu 1 (.qu 2 (.qu 3 (.qu 4 (.qu 5 (.qu 6 (.wo 7 (.wo 8 (.qu 9 (.qu 10 (.wo 11 .fin .no))) .no) .no))))))))) (.leaf))))) (.leaf)))))) (.leaf))))))
def partialretro_replay_K0  (K : Value → Hp → Prop) : Exit → Env → Hp → Prop := retK Tryz.prog Tryz.f104.results.toList K
def partialretro_replay_K1  (K : Value → Hp → Prop) : Exit → Env → Hp → Prop := thenE (fun env h => sx_3 Tryz.prog F 115 (cp [1, 1, 1, 1] (bodyOf Tryz.f104)) (ap [1, 1, 1, 1] partialretro_replay_an) (rs [0, 4, 5] env) h (partialretro_replay_K0  K)) (partialretro_replay_K0  K)
def partialretro_replay_K2  (K : Value → Hp → Prop) : Exit → Env → Hp → Prop := blockE 0 (partialretro_replay_K1  K)
def partialretro_replay_K3 (nx0 : Int × Unit → Hp → Prop) (K : Value → Hp → Prop) : Exit → Env → Hp → Prop := thenE (fun env h => getV [(23, .int .i64)] env fun s => nx0 s h) (partialretro_replay_K2  K)
def partialretro_replay_K4  (K : Value → Hp → Prop) : Exit → Env → Hp → Prop := thenE (fun env h => sx_2 Tryz.prog F 115 (cp [1, 1, 1, 1, 1, 1] (bodyOf Tryz.f104)) (ap [1, 1, 1, 1, 1, 1] partialretro_replay_an) (rs [4] env) h (partialretro_replay_K0  K)) (partialretro_replay_K0  K)
def partialretro_replay_K5  (K : Value → Hp → Prop) : Exit → Env → Hp → Prop := blockE 2 (partialretro_replay_K4  K)
def partialretro_replay_K6 (nx0 : Int × Int × Unit → Hp → Prop) (K : Value → Hp → Prop) : Exit → Env → Hp → Prop := thenE (fun env h => getV [(11, .int .i64), (89, .int .i64)] env fun s => nx0 s h) (partialretro_replay_K5  K)
def partialretro_replay_b0 (l : Option Addr) (lL : Nat) (lC : Nat) (h : Hp)  (K : Value → Hp → Prop) : Prop :=
  sx_4 Tryz.prog F 115 (cp [] (bodyOf Tryz.f104)) (ap [] partialretro_replay_an) [(0, .slice l lL lC)] h (partialretro_replay_K0  K)
def partialretro_replay_b1 (t23 : Int) (l : Option Addr) (lL : Nat) (lC : Nat) (q : Option Addr) (openv : Option Addr) (openvL : Nat) (openvC : Nat) (t21 : Option Addr) (t21L : Nat) (t21C : Nat) (t22 : Int) (h : Hp) (nx0 : Int × Unit → Hp → Prop) (K : Value → Hp → Prop) : Prop :=
  sx_3 Tryz.prog F 115 (cp [1, 1, 1, 0, 1, 2, 2] (bodyOf Tryz.f104)) (ap [1, 1, 1, 0, 1, 2] partialretro_replay_an) [(23, .int .i64 t23), (0, .slice l lL lC), (4, .pointer q), (5, .slice openv openvL openvC), (21, .slice t21 t21L t21C), (22, .int .i64 t22)] h (partialretro_replay_K3 nx0 K)
def partialretro_replay_b2 (l : Option Addr) (lL : Nat) (lC : Nat) (q : Option Addr) (openv : Option Addr) (openvL : Nat) (openvC : Nat) (t21 : Option Addr) (t21L : Nat) (t21C : Nat) (t22 : Int) (t23 : Int) (h : Hp) (nx0 : Int × Unit → Hp → Prop) (K : Value → Hp → Prop) : Prop :=
  sx_2 Tryz.prog F 115 (cp [1, 1, 1, 0, 1, 2, 2, 1, 1, 1] (bodyOf Tryz.f104)) (ap [1, 1, 1, 0, 1, 2, 1, 1, 1] partialretro_replay_an) [(0, .slice l lL lC), (4, .pointer q), (5, .slice openv openvL openvC), (21, .slice t21 t21L t21C), (22, .int .i64 t22), (23, .int .i64 t23)] h (partialretro_replay_K3 nx0 K)
def partialretro_replay_b3 (l : Option Addr) (lL : Nat) (lC : Nat) (q : Option Addr) (openv : Option Addr) (openvL : Nat) (openvC : Nat) (h : Hp)  (K : Value → Hp → Prop) : Prop :=
  sx_3 Tryz.prog F 115 (cp [1, 1, 1, 1] (bodyOf Tryz.f104)) (ap [1, 1, 1, 1] partialretro_replay_an) [(0, .slice l lL lC), (4, .pointer q), (5, .slice openv openvL openvC)] h (partialretro_replay_K0  K)
def partialretro_replay_b4 (nv : Int) (t89 : Int) (q : Option Addr) (openv : Option Addr) (openvL : Nat) (openvC : Nat) (t87 : Option Addr) (t87L : Nat) (t87C : Nat) (t88 : Int) (h : Hp) (nx0 : Int × Int × Unit → Hp → Prop) (K : Value → Hp → Prop) : Prop :=
  sx_2 Tryz.prog F 115 (cp [1, 1, 1, 1, 1, 0, 1, 2, 2] (bodyOf Tryz.f104)) (ap [1, 1, 1, 1, 1, 0, 1, 2] partialretro_replay_an) [(11, .int .i64 nv), (89, .int .i64 t89), (4, .pointer q), (5, .slice openv openvL openvC), (87, .slice t87 t87L t87C), (88, .int .i64 t88)] h (partialretro_replay_K6 nx0 K)
def partialretro_replay_b5 (q : Option Addr) (openv : Option Addr) (openvL : Nat) (openvC : Nat) (nv : Int) (t87 : Option Addr) (t87L : Nat) (t87C : Nat) (t88 : Int) (t89 : Int) (h : Hp) (nx0 : Int × Int × Unit → Hp → Prop) (K : Value → Hp → Prop) : Prop :=
  sx_1 Tryz.prog F 115 (cp [1, 1, 1, 1, 1, 0, 1, 2, 2, 1, 1, 1] (bodyOf Tryz.f104)) (ap [1, 1, 1, 1, 1, 0, 1, 2, 1, 1, 1] partialretro_replay_an) [(4, .pointer q), (5, .slice openv openvL openvC), (11, .int .i64 nv), (87, .slice t87 t87L t87C), (88, .int .i64 t88), (89, .int .i64 t89)] h (partialretro_replay_K6 nx0 K)
def partialretro_replay_b6 (q : Option Addr) (h : Hp)  (K : Value → Hp → Prop) : Prop :=
  sx_2 Tryz.prog F 115 (cp [1, 1, 1, 1, 1, 1] (bodyOf Tryz.f104)) (ap [1, 1, 1, 1, 1, 1] partialretro_replay_an) [(4, .pointer q)] h (partialretro_replay_K0  K)
theorem partialretro_replay_b0_eq (l : Option Addr) (lL : Nat) (lC : Nat) (h : Hp)  (K : Value → Hp → Prop) : partialretro_replay_b0 l lL lC h  K = (
  New h (.cells #[.slice l lL lC, .slice none 0 0, .slice none 0 0] 96) fun b1 h1 =>
  InR ((lL : Int) + 1) ∧
  (0 ≤ (lL : Int) + 1 ∧ (lL : Int) + 1 ≤ (lL : Int) + 1 ∧ (lL : Int) + 1 ≤ 281474976710656 ∧ ((lL : Int) + 1) * ((8 : Nat) : Int) ≤ 281474976710656) ∧
  New h1 (.cells (repL (Int.toNat ((lL : Int) + 1) * 1) [.int .i64 0]).toArray 3) fun b2 h2 =>
  LoopVC ((0, ()) : Int × Unit) h2 (fun (nx0 : Int × Unit → Hp → Prop) (s1 : Int × Unit) h3 => partialretro_replay_b1 s1.1 l lL lC (some ⟨b1, 0, none⟩) (some ⟨b2, 0, none⟩) (Int.toNat ((lL : Int) + 1)) (Int.toNat ((lL : Int) + 1)) l lL lC (lL : Int) h3 nx0 K)) := by kernel_rfl
theorem partialretro_replay_b1_eq (t23 : Int) (l : Option Addr) (lL : Nat) (lC : Nat) (q : Option Addr) (openv : Option Addr) (openvL : Nat) (openvC : Nat) (t21 : Option Addr) (t21L : Nat) (t21C : Nat) (t22 : Int) (h : Hp) (nx0 : Int × Unit → Hp → Prop) (K : Value → Hp → Prop) : partialretro_replay_b1 t23 l lL lC q openv openvL openvC t21 t21L t21C t22 h nx0 K = (
  cond (decide (t23 < t22))
  ((0 ≤ t23 ∧ t23 < (t21L : Int)) ∧
  NN t21 fun a1 =>
  ∃ n1 : Int, ∃ n2 : Int, ∃ b3 : Bool, cell h (a1.add (Int.toNat t23 * 3)) = some (.int .i64 n1) ∧
  cell h ((a1.add (Int.toNat t23 * 3)).add 1) = some (.int .i64 n2) ∧
  cell h ((a1.add (Int.toNat t23 * 3)).add 2) = some (.bool b3) ∧
  New h (.cells #[.int .i64 0, .int .i64 0, .bool false] 106) fun b4 h4 =>
  Wr h4 ⟨b4, 0, none⟩ (.int .i64 n1) fun h5 =>
  Wr h5 ((⟨b4, 0, none⟩ : Addr).add 1) (.int .i64 n2) fun h6 =>
  Wr h6 ((⟨b4, 0, none⟩ : Addr).add 2) (.bool b3) fun h7 =>
  ∃ b5 : Bool, cell h7 ((⟨b4, 0, none⟩ : Addr).add 2) = some (.bool b5) ∧
  cond b5
  (NN q fun a2 =>
  ∃ (a3 : Option Addr) (L1 C1 : Nat), cell h7 (a2.add 1) = some (.slice a3 L1 C1) ∧
  cond (decide ((L1 : Int) = 0))
  (K (.tuple #[.pointer none, .bool false]) h7)
  (NN q fun a4 =>
  ∃ (a5 : Option Addr) (L2 C2 : Nat), cell h7 (a4.add 1) = some (.slice a5 L2 C2) ∧
  (0 ≤ (0 : Int) ∧ (0 : Int) < (L2 : Int)) ∧
  NN a5 fun a6 =>
  ∃ n3 : Int, cell h7 ((a6.add (Int.toNat (0 : Int) * 2)).add 1) = some (.int .i64 n3) ∧
  (0 ≤ n3 ∧ n3 < (openvL : Int)) ∧
  NN openv fun a7 =>
  ∃ n4 : Int, cell h7 (a7.add (Int.toNat n3 * 1)) = some (.int .i64 n4) ∧
  InR (n4 + 1) ∧
  (0 ≤ n3 ∧ n3 < (openvL : Int)) ∧
  NN openv fun a8 =>
  Wr h7 (a8.add (Int.toNat n3 * 1)) (.int .i64 (n4 + 1)) fun h8 =>
  (0 ≤ t23 ∧ t23 < (openvL : Int)) ∧
  NN openv fun a9 =>
  ∃ n5 : Int, cell h8 (a9.add (Int.toNat t23 * 1)) = some (.int .i64 n5) ∧
  InR (n5 - 1) ∧
  (0 ≤ t23 ∧ t23 < (openvL : Int)) ∧
  NN openv fun a10 =>
  Wr h8 (a10.add (Int.toNat t23 * 1)) (.int .i64 (n5 - 1)) fun h9 =>
  NN q fun a11 =>
  ∃ (a12 : Option Addr) (L3 C3 : Nat), cell h9 (a11.add 1) = some (.slice a12 L3 C3) ∧
  HCalls Tryz.prog 146 #[.slice a12 L3 C3, .int .i64 0, .int .i64 1] h9 fun v1 h10 => ∃ (r1 : Option Addr) (rL1 rC1 : Nat), v1 = .slice r1 rL1 rC1 ∧
  NN q fun a13 =>
  Wr h10 (a13.add 1) (.slice r1 rL1 rC1) fun h11 =>
  partialretro_replay_b2 l lL lC q openv openvL openvC t21 t21L t21C t22 t23 h11 nx0 K))
  (∃ n6 : Int, cell h7 ((⟨b4, 0, none⟩ : Addr).add 1) = some (.int .i64 n6) ∧
  New h7 (.cells #[.int .i64 0, .int .i64 0] 101) fun b6 h12 =>
  Wr h12 ⟨b6, 0, none⟩ (.int .i64 n6) fun h13 =>
  Wr h13 ((⟨b6, 0, none⟩ : Addr).add 1) (.int .i64 t23) fun h14 =>
  NN q fun a14 =>
  ∃ (a15 : Option Addr) (L4 C4 : Nat), cell h14 (a14.add 1) = some (.slice a15 L4 C4) ∧
  ∃ n7 : Int, ∃ n8 : Int, cell h14 ⟨b6, 0, none⟩ = some (.int .i64 n7) ∧
  cell h14 ((⟨b6, 0, none⟩ : Addr).add 1) = some (.int .i64 n8) ∧
  HCalls Tryz.prog 147 #[.slice a15 L4 C4, .agg #[.int .i64 n7, .int .i64 n8], .func (.func 148) #[] #[]] h14 fun v2 h15 => ∃ r2 : Int, ∃ r3 : Bool, v2 = .tuple #[.int .i64 r2, .bool r3] ∧
  NN q fun a16 =>
  ∃ (a17 : Option Addr) (L5 C5 : Nat), cell h15 (a16.add 1) = some (.slice a17 L5 C5) ∧
  ∃ n9 : Int, ∃ n10 : Int, cell h15 ⟨b6, 0, none⟩ = some (.int .i64 n9) ∧
  cell h15 ((⟨b6, 0, none⟩ : Addr).add 1) = some (.int .i64 n10) ∧
  New h15 (.cells #[.int .i64 n9, .int .i64 n10] 101) fun b7 h16 =>
  (∃ (a18 : Option Addr) (L6 C6 : Nat), cell h16 (a16.add 1) = some (.slice a18 L6 C6) ∧
  (.slice a18 L6 C6 : Value) = .slice a17 L5 C5) ∧
  HCalls Tryz.prog 149 #[.slice a17 L5 C5, .int .i64 r2, .slice (some ⟨b7, 0, none⟩) 1 1] h16 fun v3 h17 => ∃ (r4 : Option Addr) (rL2 rC2 : Nat), v3 = .slice r4 rL2 rC2 ∧
  NN q fun a19 =>
  Wr h17 (a19.add 1) (.slice r4 rL2 rC2) fun h18 =>
  partialretro_replay_b2 l lL lC q openv openvL openvC t21 t21L t21C t22 t23 h18 nx0 K))
  (partialretro_replay_b3 l lL lC q openv openvL openvC h  K)) := by kernel_rfl
theorem partialretro_replay_b2_eq (l : Option Addr) (lL : Nat) (lC : Nat) (q : Option Addr) (openv : Option Addr) (openvL : Nat) (openvC : Nat) (t21 : Option Addr) (t21L : Nat) (t21C : Nat) (t22 : Int) (t23 : Int) (h : Hp) (nx0 : Int × Unit → Hp → Prop) (K : Value → Hp → Prop) : partialretro_replay_b2 l lL lC q openv openvL openvC t21 t21L t21C t22 t23 h nx0 K = (
  InR (t23 + 1) ∧
  nx0 (t23 + 1, ()) h) := by kernel_rfl
theorem partialretro_replay_b3_eq (l : Option Addr) (lL : Nat) (lC : Nat) (q : Option Addr) (openv : Option Addr) (openvL : Nat) (openvC : Nat) (h : Hp)  (K : Value → Hp → Prop) : partialretro_replay_b3 l lL lC q openv openvL openvC h  K = (
  LoopVC ((0, 0, ()) : Int × Int × Unit) h (fun (nx0 : Int × Int × Unit → Hp → Prop) (s2 : Int × Int × Unit) h19 => partialretro_replay_b4 s2.1 s2.2.1 q openv openvL openvC l lL lC (lL : Int) h19 nx0 K)) := by kernel_rfl
theorem partialretro_replay_b4_eq (nv : Int) (t89 : Int) (q : Option Addr) (openv : Option Addr) (openvL : Nat) (openvC : Nat) (t87 : Option Addr) (t87L : Nat) (t87C : Nat) (t88 : Int) (h : Hp) (nx0 : Int × Int × Unit → Hp → Prop) (K : Value → Hp → Prop) : partialretro_replay_b4 nv t89 q openv openvL openvC t87 t87L t87C t88 h nx0 K = (
  cond (decide (t89 < t88))
  ((0 ≤ t89 ∧ t89 < (t87L : Int)) ∧
  NN t87 fun a20 =>
  ∃ n11 : Int, ∃ n12 : Int, ∃ b8 : Bool, cell h (a20.add (Int.toNat t89 * 3)) = some (.int .i64 n11) ∧
  cell h ((a20.add (Int.toNat t89 * 3)).add 1) = some (.int .i64 n12) ∧
  cell h ((a20.add (Int.toNat t89 * 3)).add 2) = some (.bool b8) ∧
  New h (.cells #[.int .i64 0, .int .i64 0, .bool false] 106) fun b9 h20 =>
  Wr h20 ⟨b9, 0, none⟩ (.int .i64 n11) fun h21 =>
  Wr h21 ((⟨b9, 0, none⟩ : Addr).add 1) (.int .i64 n12) fun h22 =>
  Wr h22 ((⟨b9, 0, none⟩ : Addr).add 2) (.bool b8) fun h23 =>
  (0 ≤ t89 ∧ t89 < (openvL : Int)) ∧
  NN openv fun a21 =>
  ∃ n13 : Int, cell h23 (a21.add (Int.toNat t89 * 1)) = some (.int .i64 n13) ∧
  InR (nv + n13) ∧
  cond (decide ((nv + n13) = 0))
  (NN q fun a22 =>
  ∃ (a23 : Option Addr) (L7 C7 : Nat), cell h23 (a22.add 2) = some (.slice a23 L7 C7) ∧
  ∃ n14 : Int, cell h23 ⟨b9, 0, none⟩ = some (.int .i64 n14) ∧
  New h23 (.cells #[.int .i64 n14] 3) fun b10 h24 =>
  (∃ (a24 : Option Addr) (L8 C8 : Nat), cell h24 (a22.add 2) = some (.slice a24 L8 C8) ∧
  (.slice a24 L8 C8 : Value) = .slice a23 L7 C7) ∧
  appendV Tryz.prog 23 23 (.slice a23 L7 C7) (.slice (some ⟨b10, 0, none⟩) 1 1) h24 (slK fun a25 l1 c1 h25 =>
  NN q fun a26 =>
  Wr h25 (a26.add 2) (.slice a25 l1 c1) fun h26 =>
  partialretro_replay_b5 q openv openvL openvC (nv + n13) t87 t87L t87C t88 t89 h26 nx0 K))
  (partialretro_replay_b5 q openv openvL openvC (nv + n13) t87 t87L t87C t88 t89 h23 nx0 K))
  (partialretro_replay_b6 q h  K)) := by kernel_rfl
theorem partialretro_replay_b5_eq (q : Option Addr) (openv : Option Addr) (openvL : Nat) (openvC : Nat) (nv : Int) (t87 : Option Addr) (t87L : Nat) (t87C : Nat) (t88 : Int) (t89 : Int) (h : Hp) (nx0 : Int × Int × Unit → Hp → Prop) (K : Value → Hp → Prop) : partialretro_replay_b5 q openv openvL openvC nv t87 t87L t87C t88 t89 h nx0 K = (
  InR (t89 + 1) ∧
  nx0 (nv, t89 + 1, ()) h) := by kernel_rfl
theorem partialretro_replay_b6_eq (q : Option Addr) (h : Hp)  (K : Value → Hp → Prop) : partialretro_replay_b6 q h  K = (
  K (.tuple #[.pointer q, .bool true]) h) := by kernel_rfl
theorem partialretro_replay_call {l : Option Addr} {lL : Nat} {lC : Nat} {h : Hp} {K : Value → Hp → Prop} (hk : partialretro_replay_b0 l lL lC h K) : HCalls Tryz.prog 104 #[.slice l lL lC] h K :=
  calls_of_snd partialretro_replay_an Tryz.func104 (c := bodyOf Tryz.f104) rfl Tryz.ntmps104 (Nat.le_of_ble_eq_true rfl) (snd_4 F_ok F_mixed) hk

/-! ### slices_ContainsFunc_Sint_int -/
def slices_ContainsFunc_Sint_int_an : Ann := .leaf
def slices_ContainsFunc_Sint_int_K0  (K : Value → Hp → Prop) : Exit → Env → Hp → Prop := retK Tryz.prog Tryz.f105.results.toList K
def slices_ContainsFunc_Sint_int_b0 (s : Option Addr) (sL : Nat) (sC : Nat) (f : Value) (h : Hp)  (K : Value → Hp → Prop) : Prop :=
  sx_1 Tryz.prog F 9 (cp [] (bodyOf Tryz.f105)) (ap [] slices_ContainsFunc_Sint_int_an) [(0, .slice s sL sC), (1, f)] h (slices_ContainsFunc_Sint_int_K0  K)
theorem slices_ContainsFunc_Sint_int_b0_eq (s : Option Addr) (sL : Nat) (sC : Nat) (f : Value) (h : Hp)  (K : Value → Hp → Prop) : slices_ContainsFunc_Sint_int_b0 s sL sC f h  K = (
  HCalls Tryz.prog 150 #[.slice s sL sC, f] h fun v1 h1 => ∃ r1 : Int, v1 = .int .i64 r1 ∧
  K (.bool (decide ((0 : Int) ≤ r1))) h1) := by kernel_rfl
theorem slices_ContainsFunc_Sint_int_call {s : Option Addr} {sL : Nat} {sC : Nat} {f : Value} {h : Hp} {K : Value → Hp → Prop} (hk : slices_ContainsFunc_Sint_int_b0 s sL sC f h K) : HCalls Tryz.prog 105 #[.slice s sL sC, f] h K :=
  calls_of_snd slices_ContainsFunc_Sint_int_an Tryz.func105 (c := bodyOf Tryz.f105) rfl Tryz.ntmps105 (Nat.le_of_ble_eq_true rfl) (snd_1 F_ok F_mixed) hk

/-! ### model_ValidOp_c1 -/
def model_ValidOp_c1_an : Ann := .leaf
def model_ValidOp_c1_K0  (K : Value → Hp → Prop) : Exit → Env → Hp → Prop := retK Tryz.prog Tryz.f106.results.toList K
def model_ValidOp_c1_b0 (c : Int) (h : Hp)  (K : Value → Hp → Prop) : Prop :=
  sx_1 Tryz.prog F 6 (cp [] (bodyOf Tryz.f106)) (ap [] model_ValidOp_c1_an) [(0, .int .i64 c)] h (model_ValidOp_c1_K0  K)
theorem model_ValidOp_c1_b0_eq (c : Int) (h : Hp)  (K : Value → Hp → Prop) : model_ValidOp_c1_b0 c h  K = (
  HCalls Tryz.prog 107 #[.int .i64 c] h fun v1 h1 => ∃ r1 : Bool, v1 = .bool r1 ∧
  K (.bool (!r1)) h1) := by kernel_rfl
theorem model_ValidOp_c1_call {c : Int} {h : Hp} {K : Value → Hp → Prop} (hk : model_ValidOp_c1_b0 c h K) : HCalls Tryz.prog 106 #[.int .i64 c] h K :=
  calls_of_snd model_ValidOp_c1_an Tryz.func106 (c := bodyOf Tryz.f106) rfl Tryz.ntmps106 (Nat.le_of_ble_eq_true rfl) (snd_1 F_ok F_mixed) hk

/-! ### model_character -/
def model_character_an : Ann := .leaf
def model_character_K0  (K : Value → Hp → Prop) : Exit → Env → Hp → Prop := retK Tryz.prog Tryz.f107.results.toList K
def model_character_b0 (nv : Int) (h : Hp)  (K : Value → Hp → Prop) : Prop :=
  sx_1 Tryz.prog F 9 (cp [] (bodyOf Tryz.f107)) (ap [] model_character_an) [(0, .int .i64 nv)] h (model_character_K0  K)
theorem model_character_b0_eq (nv : Int) (h : Hp)  (K : Value → Hp → Prop) : model_character_b0 nv h  K = (
  cond (decide ((0 : Int) ≤ nv))
  (K (.bool (decide (nv ≤ 255))) h)
  (K (.bool false) h)) := by kernel_rfl
theorem model_character_call {nv : Int} {h : Hp} {K : Value → Hp → Prop} (hk : model_character_b0 nv h K) : HCalls Tryz.prog 107 #[.int .i64 nv] h K :=
  calls_of_snd model_character_an Tryz.func107 (c := bodyOf Tryz.f107) rfl Tryz.ntmps107 (Nat.le_of_ble_eq_true rfl) (snd_1 F_ok F_mixed) hk

/-! ### model_ValidOp_c2 -/
def model_ValidOp_c2_an : Ann := .leaf
def model_ValidOp_c2_K0  (K : Value → Hp → Prop) : Exit → Env → Hp → Prop := retK Tryz.prog Tryz.f108.results.toList K
def model_ValidOp_c2_b0 (nv : Int) (h : Hp)  (K : Value → Hp → Prop) : Prop :=
  sx_1 Tryz.prog F 6 (cp [] (bodyOf Tryz.f108)) (ap [] model_ValidOp_c2_an) [(0, .int .i64 nv)] h (model_ValidOp_c2_K0  K)
theorem model_ValidOp_c2_b0_eq (nv : Int) (h : Hp)  (K : Value → Hp → Prop) : model_ValidOp_c2_b0 nv h  K = (
  HCalls Tryz.prog 109 #[.int .i64 nv] h fun v1 h1 => ∃ r1 : Bool, v1 = .bool r1 ∧
  K (.bool (!r1)) h1) := by kernel_rfl
theorem model_ValidOp_c2_call {nv : Int} {h : Hp} {K : Value → Hp → Prop} (hk : model_ValidOp_c2_b0 nv h K) : HCalls Tryz.prog 108 #[.int .i64 nv] h K :=
  calls_of_snd model_ValidOp_c2_an Tryz.func108 (c := bodyOf Tryz.f108) rfl Tryz.ntmps108 (Nat.le_of_ble_eq_true rfl) (snd_1 F_ok F_mixed) hk

/-! ### model_number -/
def model_number_an : Ann := .leaf
def model_number_K0  (K : Value → Hp → Prop) : Exit → Env → Hp → Prop := retK Tryz.prog Tryz.f109.results.toList K
def model_number_b0 (nv : Int) (h : Hp)  (K : Value → Hp → Prop) : Prop :=
  sx_1 Tryz.prog F 9 (cp [] (bodyOf Tryz.f109)) (ap [] model_number_an) [(0, .int .i64 nv)] h (model_number_K0  K)
theorem model_number_b0_eq (nv : Int) (h : Hp)  (K : Value → Hp → Prop) : model_number_b0 nv h  K = (
  cond (decide (((-1048576) : Int) ≤ nv))
  (K (.bool (decide (nv ≤ 1048576))) h)
  (K (.bool false) h)) := by kernel_rfl
theorem model_number_call {nv : Int} {h : Hp} {K : Value → Hp → Prop} (hk : model_number_b0 nv h K) : HCalls Tryz.prog 109 #[.int .i64 nv] h K :=
  calls_of_snd model_number_an Tryz.func109 (c := bodyOf Tryz.f109) rfl Tryz.ntmps109 (Nat.le_of_ble_eq_true rfl) (snd_1 F_ok F_mixed) hk

/-! ### model_IsUpdate -/
def model_IsUpdate_an : Ann := .node none (.leaf) (.node none (.leaf) (.node (some [1, 6]) (.leaf) (.leaf)))
def model_IsUpdate_K0  (K : Value → Hp → Prop) : Exit → Env → Hp → Prop := retK Tryz.prog Tryz.f110.results.toList K
def model_IsUpdate_b0 (kind : Int) (code : Int) (h : Hp)  (K : Value → Hp → Prop) : Prop :=
  sx_2 Tryz.prog F 27 (cp [] (bodyOf Tryz.f110)) (ap [] model_IsUpdate_an) [(0, .int .i64 kind), (1, .int .i64 code)] h (model_IsUpdate_K0  K)
def model_IsUpdate_b1 (code : Int) (l : Option Addr) (lL : Nat) (lC : Nat) (h : Hp)  (K : Value → Hp → Prop) : Prop :=
  sx_1 Tryz.prog F 27 (cp [1, 1, 1] (bodyOf Tryz.f110)) (ap [1, 1, 1] model_IsUpdate_an) [(1, .int .i64 code), (6, .slice l lL lC)] h (model_IsUpdate_K0  K)
theorem model_IsUpdate_b0_eq (kind : Int) (code : Int) (h : Hp)  (K : Value → Hp → Prop) : model_IsUpdate_b0 kind code h  K = (
  HCalls Tryz.prog 90 #[.int .i64 kind] h fun v1 h1 => ∃ (r1 : Option Addr) (rL1 rC1 : Nat), v1 = .slice r1 rL1 rC1 ∧
  cond (Option.isNone r1)
  (K (.tuple #[.bool false, .int .i64 1]) h1)
  (cond (decide (code < 1))
  (K (.tuple #[.bool false, .int .i64 2]) h1)
  (cond (decide ((rL1 : Int) < code))
  (K (.tuple #[.bool false, .int .i64 2]) h1)
  (model_IsUpdate_b1 code r1 rL1 rC1 h1  K)))) := by kernel_rfl
theorem model_IsUpdate_b1_eq (code : Int) (l : Option Addr) (lL : Nat) (lC : Nat) (h : Hp)  (K : Value → Hp → Prop) : model_IsUpdate_b1 code l lL lC h  K = (
  InR (code - 1) ∧
  (0 ≤ code - 1 ∧ code - 1 < (lL : Int)) ∧
  NN l fun a1 =>
  ∃ b1 : Bool, cell h ((a1.add (Int.toNat (code - 1) * 3)).add 2) = some (.bool b1) ∧
  K (.tuple #[.bool b1, .int .i64 0]) h) := by kernel_rfl
theorem model_IsUpdate_call {kind : Int} {code : Int} {h : Hp} {K : Value → Hp → Prop} (hk : model_IsUpdate_b0 kind code h K) : HCalls Tryz.prog 110 #[.int .i64 kind, .int .i64 code] h K :=
  calls_of_snd model_IsUpdate_an Tryz.func110 (c := bodyOf Tryz.f110) rfl Tryz.ntmps110 (Nat.le_of_ble_eq_true rfl) (snd_2 F_ok F_mixed) hk

/-! ### r03_row -/
/-! ### r03_yield -/
/-! ### r03_fail -/
/-! ### r03_put -/
/-! ### r03_cut -/
/-! ### r03_Size -/
/-! ### r03_class -/
/-! ### r03_merged -/
/-! ### r03_before -/
/-! ### r03_occurs -/
/-! ### model_Run -/
def model_Run_an : Ann := .node none (.leaf) (.node (some [1, 2, 4]) (.leaf) (.node none (.leaf) (.node none (.leaf) (.node none (.leaf) (.node (some [2, 4, 7, 8]) (.node none (.leaf) (.loop [2, 4, 29, 30] [(7, .slice), (8, .slice), (31, .int .i64)] (.node none (.leaf) (.node none (.leaf) (.node (some [2, 4, 7, 8, 29, 30, 31]) (.leaf) (.leaf)))))) (.leaf))))))
def model_Run_K0  (K : Value → Hp → Prop) : Exit → Env → Hp → Prop := retK Tryz.prog Tryz.f121.results.toList K
def model_Run_K1  (K : Value → Hp → Prop) : Exit → Env → Hp → Prop := thenE (fun env h => sx_2 Tryz.prog F 54 (cp [1, 1, 1, 1, 1, 1] (bodyOf Tryz.f121)) (ap [1, 1, 1, 1, 1, 1] model_Run_an) (rs [2, 4, 7, 8] env) h (model_Run_K0  K)) (model_Run_K0  K)
def model_Run_K2  (K : Value → Hp → Prop) : Exit → Env → Hp → Prop := blockE 0 (model_Run_K1  K)
def model_Run_K3 (nx0 : (Option Addr × Nat × Nat) × (Option Addr × Nat × Nat) × Int × Unit → Hp → Prop) (K : Value → Hp → Prop) : Exit → Env → Hp → Prop := thenE (fun env h => getV [(7, .slice), (8, .slice), (31, .int .i64)] env fun s => nx0 s h) (model_Run_K2  K)
def model_Run_b0 (s_0 : Int) (s_1 : Option Addr) (s_1L : Nat) (s_1C : Nat) (l : Option Addr) (lL : Nat) (lC : Nat) (h : Hp)  (K : Value → Hp → Prop) : Prop :=
  sx_4 Tryz.prog F 54 (cp [] (bodyOf Tryz.f121)) (ap [] model_Run_an) [(0, .agg #[.int .i64 s_0, .slice s_1 s_1L s_1C]), (1, .slice l lL lC)] h (model_Run_K0  K)
def model_Run_b1 (l : Option Addr) (lL : Nat) (lC : Nat) (s : Option Addr) (t4 : Option Addr) (h : Hp)  (K : Value → Hp → Prop) : Prop :=
  sx_3 Tryz.prog F 54 (cp [1, 1] (bodyOf Tryz.f121)) (ap [1, 1] model_Run_an) [(1, .slice l lL lC), (2, .pointer s), (4, .pointer t4)] h (model_Run_K0  K)
def model_Run_b2 (rows : Option Addr) (rowsL : Nat) (rowsC : Nat) (out : Option Addr) (outL : Nat) (outC : Nat) (t31 : Int) (s : Option Addr) (t4 : Option Addr) (t29 : Option Addr) (t29L : Nat) (t29C : Nat) (t30 : Int) (h : Hp) (nx0 : (Option Addr × Nat × Nat) × (Option Addr × Nat × Nat) × Int × Unit → Hp → Prop) (K : Value → Hp → Prop) : Prop :=
  sx_2 Tryz.prog F 54 (cp [1, 1, 1, 1, 1, 0, 1, 2, 2] (bodyOf Tryz.f121)) (ap [1, 1, 1, 1, 1, 0, 1, 2] model_Run_an) [(7, .slice rows rowsL rowsC), (8, .slice out outL outC), (31, .int .i64 t31), (2, .pointer s), (4, .pointer t4), (29, .slice t29 t29L t29C), (30, .int .i64 t30)] h (model_Run_K3 nx0 K)
def model_Run_b3 (s : Option Addr) (t4 : Option Addr) (rows : Option Addr) (rowsL : Nat) (rowsC : Nat) (out : Option Addr) (outL : Nat) (outC : Nat) (t29 : Option Addr) (t29L : Nat) (t29C : Nat) (t30 : Int) (t31 : Int) (h : Hp) (nx0 : (Option Addr × Nat × Nat) × (Option Addr × Nat × Nat) × Int × Unit → Hp → Prop) (K : Value → Hp → Prop) : Prop :=
  sx_1 Tryz.prog F 54 (cp [1, 1, 1, 1, 1, 0, 1, 2, 2, 1, 1, 1] (bodyOf Tryz.f121)) (ap [1, 1, 1, 1, 1, 0, 1, 2, 1, 1, 1] model_Run_an) [(2, .pointer s), (4, .pointer t4), (7, .slice rows rowsL rowsC), (8, .slice out outL outC), (29, .slice t29 t29L t29C), (30, .int .i64 t30), (31, .int .i64 t31)] h (model_Run_K3 nx0 K)
def model_Run_b4 (s : Option Addr) (t4 : Option Addr) (rows : Option Addr) (rowsL : Nat) (rowsC : Nat) (out : Option Addr) (outL : Nat) (outC : Nat) (h : Hp)  (K : Value → Hp → Prop) : Prop :=
  sx_2 Tryz.prog F 54 (cp [1, 1, 1, 1, 1, 1] (bodyOf Tryz.f121)) (ap [1, 1, 1, 1, 1, 1] model_Run_an) [(2, .pointer s), (4, .pointer t4), (7, .slice rows rowsL rowsC), (8, .slice out outL outC)] h (model_Run_K0  K)
theorem model_Run_b0_eq (s_0 : Int) (s_1 : Option Addr) (s_1L : Nat) (s_1C : Nat) (l : Option Addr) (lL : Nat) (lC : Nat) (h : Hp)  (K : Value → Hp → Prop) : model_Run_b0 s_0 s_1 s_1L s_1C l lL lC h  K = (
  New h (.cells #[.int .i64 s_0, .slice s_1 s_1L s_1C] 66) fun b1 h1 =>
  New h1 (.cells #[.int .i64 0, .slice none 0 0] 66) fun b2 h2 =>
  ∃ n1 : Int, ∃ (a1 : Option Addr) (L1 C1 : Nat), cell h2 ⟨b1, 0, none⟩ = some (.int .i64 n1) ∧
  cell h2 ((⟨b1, 0, none⟩ : Addr).add 1) = some (.slice a1 L1 C1) ∧
  HCalls Tryz.prog 91 #[.agg #[.int .i64 n1, .slice a1 L1 C1]] h2 fun v1 h3 => ∃ r1 : Bool, v1 = .bool r1 ∧
  cond (!r1)
  (Wr h3 ⟨b2, 0, none⟩ (.int .i64 0) fun h4 =>
  Wr h4 ((⟨b2, 0, none⟩ : Addr).add 1) (.slice none 0 0) fun h5 =>
  ∃ r2 : Int, ∃ (r3 : Option Addr) (rL1 rC1 : Nat), cell h5 ⟨b2, 0, none⟩ = some (.int .i64 r2) ∧
  cell h5 ((⟨b2, 0, none⟩ : Addr).add 1) = some (.slice r3 rL1 rC1) ∧
  K (.tuple #[.agg #[.int .i64 r2, .slice r3 rL1 rC1], .slice none 0 0, .int .i64 1]) h5)
  (HCalls Tryz.prog 151 #[.slice l lL lC, .func (.func 152) #[] #[.pointer (some ⟨b1, 0, none⟩)]] h3 fun v2 h6 => ∃ r4 : Bool, v2 = .bool r4 ∧
  cond r4
  (Wr h6 ⟨b2, 0, none⟩ (.int .i64 0) fun h7 =>
  Wr h7 ((⟨b2, 0, none⟩ : Addr).add 1) (.slice none 0 0) fun h8 =>
  ∃ r5 : Int, ∃ (r6 : Option Addr) (rL2 rC2 : Nat), cell h8 ⟨b2, 0, none⟩ = some (.int .i64 r5) ∧
  cell h8 ((⟨b2, 0, none⟩ : Addr).add 1) = some (.slice r6 rL2 rC2) ∧
  K (.tuple #[.agg #[.int .i64 r5, .slice r6 rL2 rC2], .slice none 0 0, .int .i64 1]) h8)
  (model_Run_b1 l lL lC (some ⟨b1, 0, none⟩) (some ⟨b2, 0, none⟩) h6  K))) := by kernel_rfl
theorem model_Run_b1_eq (l : Option Addr) (lL : Nat) (lC : Nat) (s : Option Addr) (t4 : Option Addr) (h : Hp)  (K : Value → Hp → Prop) : model_Run_b1 l lL lC s t4 h  K = (
  cond (decide ((2000 : Int) < (lL : Int)))
  (NN t4 fun a2 =>
  Wr h a2 (.int .i64 0) fun h9 =>
  Wr h9 (a2.add 1) (.slice none 0 0) fun h10 =>
  NN t4 fun a3 =>
  ∃ r7 : Int, ∃ (r8 : Option Addr) (rL3 rC3 : Nat), cell h10 a3 = some (.int .i64 r7) ∧
  cell h10 (a3.add 1) = some (.slice r8 rL3 rC3) ∧
  K (.tuple #[.agg #[.int .i64 r7, .slice r8 rL3 rC3], .slice none 0 0, .int .i64 4]) h10)
  (NN s fun a4 =>
  ∃ (a5 : Option Addr) (L2 C2 : Nat), cell h (a4.add 1) = some (.slice a5 L2 C2) ∧
  HCalls Tryz.prog 93 #[.slice a5 L2 C2] h fun v3 h11 => ∃ (r9 : Option Addr) (rL4 rC4 : Nat), v3 = .slice r9 rL4 rC4 ∧
  LoopVC (((r9, rL4, rC4), (none, 0, 0), 0, ()) : (Option Addr × Nat × Nat) × (Option Addr × Nat × Nat) × Int × Unit) h11 (fun (nx0 : (Option Addr × Nat × Nat) × (Option Addr × Nat × Nat) × Int × Unit → Hp → Prop) (s1 : (Option Addr × Nat × Nat) × (Option Addr × Nat × Nat) × Int × Unit) h12 => model_Run_b2 s1.1.1 s1.1.2.1 s1.1.2.2 s1.2.1.1 s1.2.1.2.1 s1.2.1.2.2 s1.2.2.1 s t4 l lL lC (lL : Int) h12 nx0 K))) := by kernel_rfl
theorem model_Run_b2_eq (rows : Option Addr) (rowsL : Nat) (rowsC : Nat) (out : Option Addr) (outL : Nat) (outC : Nat) (t31 : Int) (s : Option Addr) (t4 : Option Addr) (t29 : Option Addr) (t29L : Nat) (t29C : Nat) (t30 : Int) (h : Hp) (nx0 : (Option Addr × Nat × Nat) × (Option Addr × Nat × Nat) × Int × Unit → Hp → Prop) (K : Value → Hp → Prop) : model_Run_b2 rows rowsL rowsC out outL outC t31 s t4 t29 t29L t29C t30 h nx0 K = (
  cond (decide (t31 < t30))
  ((0 ≤ t31 ∧ t31 < (t29L : Int)) ∧
  NN t29 fun a6 =>
  ∃ n2 : Int, ∃ (a7 : Option Addr) (L3 C3 : Nat), cell h (a6.add (Int.toNat t31 * 2)) = some (.int .i64 n2) ∧
  cell h ((a6.add (Int.toNat t31 * 2)).add 1) = some (.slice a7 L3 C3) ∧
  New h (.cells #[.int .i64 0, .slice none 0 0] 25) fun b3 h13 =>
  Wr h13 ⟨b3, 0, none⟩ (.int .i64 n2) fun h14 =>
  Wr h14 ((⟨b3, 0, none⟩ : Addr).add 1) (.slice a7 L3 C3) fun h15 =>
  NN s fun a8 =>
  ∃ n3 : Int, cell h15 a8 = some (.int .i64 n3) ∧
  ∃ n4 : Int, ∃ (a9 : Option Addr) (L4 C4 : Nat), cell h15 ⟨b3, 0, none⟩ = some (.int .i64 n4) ∧
  cell h15 ((⟨b3, 0, none⟩ : Addr).add 1) = some (.slice a9 L4 C4) ∧
  HCalls Tryz.prog 92 #[.int .i64 n3, .slice rows rowsL rowsC, .agg #[.int .i64 n4, .slice a9 L4 C4]] h15 fun v4 h16 => ∃ (r10 : Option Addr) (rL5 rC5 : Nat), ∃ r11 : Int, ∃ r12 : Int, ∃ (r13 : Option Addr) (rL6 rC6 : Nat), v4 = .tuple #[.slice r10 rL5 rC5, .agg #[.int .i64 r11, .int .i64 r12, .slice r13 rL6 rC6]] ∧
  New h16 (.cells #[.int .i64 0, .int .i64 0, .slice none 0 0] 61) fun b4 h17 =>
  Wr h17 ⟨b4, 0, none⟩ (.int .i64 r11) fun h18 =>
  Wr h18 ((⟨b4, 0, none⟩ : Addr).add 1) (.int .i64 r12) fun h19 =>
  Wr h19 ((⟨b4, 0, none⟩ : Addr).add 2) (.slice r13 rL6 rC6) fun h20 =>
  ∃ n5 : Int, ∃ n6 : Int, ∃ (a10 : Option Addr) (L5 C5 : Nat), cell h20 ⟨b4, 0, none⟩ = some (.int .i64 n5) ∧
  cell h20 ((⟨b4, 0, none⟩ : Addr).add 1) = some (.int .i64 n6) ∧
  cell h20 ((⟨b4, 0, none⟩ : Addr).add 2) = some (.slice a10 L5 C5) ∧
  New h20 (.cells #[.int .i64 n5, .int .i64 n6, .slice a10 L5 C5] 61) fun b5 h21 =>
  appendV Tryz.prog 156 156 (.slice out outL outC) (.slice (some ⟨b5, 0, none⟩) 1 1) h21 (slK fun a11 l1 c1 h22 =>
  model_Run_b3 s t4 r10 rL5 rC5 a11 l1 c1 t29 t29L t29C t30 t31 h22 nx0 K))
  (model_Run_b4 s t4 rows rowsL rowsC out outL outC h  K)) := by kernel_rfl
theorem model_Run_b3_eq (s : Option Addr) (t4 : Option Addr) (rows : Option Addr) (rowsL : Nat) (rowsC : Nat) (out : Option Addr) (outL : Nat) (outC : Nat) (t29 : Option Addr) (t29L : Nat) (t29C : Nat) (t30 : Int) (t31 : Int) (h : Hp) (nx0 : (Option Addr × Nat × Nat) × (Option Addr × Nat × Nat) × Int × Unit → Hp → Prop) (K : Value → Hp → Prop) : model_Run_b3 s t4 rows rowsL rowsC out outL outC t29 t29L t29C t30 t31 h nx0 K = (
  InR (t31 + 1) ∧
  nx0 ((rows, rowsL, rowsC), (out, outL, outC), t31 + 1, ()) h) := by kernel_rfl
theorem model_Run_b4_eq (s : Option Addr) (t4 : Option Addr) (rows : Option Addr) (rowsL : Nat) (rowsC : Nat) (out : Option Addr) (outL : Nat) (outC : Nat) (h : Hp)  (K : Value → Hp → Prop) : model_Run_b4 s t4 rows rowsL rowsC out outL outC h  K = (
  NN s fun a12 =>
  ∃ n7 : Int, cell h a12 = some (.int .i64 n7) ∧
  NN t4 fun a13 =>
  Wr h a13 (.int .i64 n7) fun h23 =>
  Wr h23 (a13.add 1) (.slice rows rowsL rowsC) fun h24 =>
  NN t4 fun a14 =>
  ∃ r14 : Int, ∃ (r15 : Option Addr) (rL7 rC7 : Nat), cell h24 a14 = some (.int .i64 r14) ∧
  cell h24 (a14.add 1) = some (.slice r15 rL7 rC7) ∧
  K (.tuple #[.agg #[.int .i64 r14, .slice r15 rL7 rC7], .slice out outL outC, .int .i64 0]) h24) := by kernel_rfl
theorem model_Run_call {s_0 : Int} {s_1 : Option Addr} {s_1L : Nat} {s_1C : Nat} {l : Option Addr} {lL : Nat} {lC : Nat} {h : Hp} {K : Value → Hp → Prop} (hk : model_Run_b0 s_0 s_1 s_1L s_1C l lL lC h K) : HCalls Tryz.prog 121 #[.agg #[.int .i64 s_0, .slice s_1 s_1L s_1C], .slice l lL lC] h K :=
  calls_of_snd model_Run_an Tryz.func121 (c := bodyOf Tryz.f121) rfl Tryz.ntmps121 (Nat.le_of_ble_eq_true rfl) (snd_4 F_ok F_mixed) hk


/-! ### slices_rotateRight_api_Op -/
/-! ### slices_insertionSortCmpFunc_l35_Step -/
def slices_insertionSortCmpFunc_l35_Step_an : Ann := .node none (.leaf) (.loop [0, 1, 2, 3] [(8, .int .i64)] (.node none (.leaf) (.node (some [0, 1, 2, 3, 8]) (.node none (.leaf) (.loop [0, 1, 2, 3, 8] [(9, .int .i64)] (.node (some [0, 1, 2, 3, 8, 9]) (.node none (.tail 14) (.leaf)) (.node (some [0, 1, 2, 3, 8, 9]) (.plan (.qu 0 (.qu 1 (.qu 2 (.qu 3 (.qu 4 (.qu 5 (.qu 6 (.qu 7 (.qu 8 (.qu 9 (.qu 10 (.qu 11 (.qu 12 (.qu 13 (.qu 14 (.wo 15 (.qu 16 (.wo 17 .fin .no)) .no))))))))))))))))) (.leaf))))) (.leaf))))
def slices_insertionSortCmpFunc_l35_Step_K0  (K : Value → Hp → Prop) : Exit → Env → Hp → Prop := retK Tryz.prog Tryz.f124.results.toList K
def slices_insertionSortCmpFunc_l35_Step_K1  (K : Value → Hp → Prop) : Exit → Env → Hp → Prop := blockE 0 (slices_insertionSortCmpFunc_l35_Step_K0  K)
def slices_insertionSortCmpFunc_l35_Step_K2 (nx0 : Int × Unit → Hp → Prop) (K : Value → Hp → Prop) : Exit → Env → Hp → Prop := thenE (fun env h => getV [(8, .int .i64)] env fun s => nx0 s h) (slices_insertionSortCmpFunc_l35_Step_K1  K)
def slices_insertionSortCmpFunc_l35_Step_K3 (nx0 : Int × Unit → Hp → Prop) (K : Value → Hp → Prop) : Exit → Env → Hp → Prop := thenE (fun env h => sx_3 Tryz.prog F 53 (cp [1, 2, 2, 1, 1] (bodyOf Tryz.f124)) (ap [1, 2, 1, 1] slices_insertionSortCmpFunc_l35_Step_an) (rs [0, 1, 2, 3, 8] env) h (slices_insertionSortCmpFunc_l35_Step_K2 nx0 K)) (slices_insertionSortCmpFunc_l35_Step_K2 nx0 K)
def slices_insertionSortCmpFunc_l35_Step_K4 (nx0 : Int × Unit → Hp → Prop) (K : Value → Hp → Prop) : Exit → Env → Hp → Prop := blockE 1 (slices_insertionSortCmpFunc_l35_Step_K3 nx0 K)
def slices_insertionSortCmpFunc_l35_Step_K5 (nx0 : Int × Unit → Hp → Prop) (K : Value → Hp → Prop) : Exit → Env → Hp → Prop := blockE 2 (slices_insertionSortCmpFunc_l35_Step_K4 nx0 K)
def slices_insertionSortCmpFunc_l35_Step_K6 (nx0 : Int × Unit → Hp → Prop) (nx1 : Int × Unit → Hp → Prop) (K : Value → Hp → Prop) : Exit → Env → Hp → Prop := thenE (fun env h => getV [(9, .int .i64)] env fun s => nx1 s h) (slices_insertionSortCmpFunc_l35_Step_K5 nx0 K)
def slices_insertionSortCmpFunc_l35_Step_b0 (data : Option Addr) (dataL : Nat) (dataC : Nat) (a : Int) (b : Int) (cmp : Value) (h : Hp)  (K : Value → Hp → Prop) : Prop :=
  sx_5 Tryz.prog F 53 (cp [] (bodyOf Tryz.f124)) (ap [] slices_insertionSortCmpFunc_l35_Step_an) [(0, .slice data dataL dataC), (1, .int .i64 a), (2, .int .i64 b), (3, cmp)] h (slices_insertionSortCmpFunc_l35_Step_K0  K)
def slices_insertionSortCmpFunc_l35_Step_b1 (i : Int) (data : Option Addr) (dataL : Nat) (dataC : Nat) (a : Int) (b : Int) (cmp : Value) (h : Hp) (nx0 : Int × Unit → Hp → Prop) (K : Value → Hp → Prop) : Prop :=
  sx_4 Tryz.prog F 53 (cp [1, 2, 2] (bodyOf Tryz.f124)) (ap [1, 2] slices_insertionSortCmpFunc_l35_Step_an) [(8, .int .i64 i), (0, .slice data dataL dataC), (1, .int .i64 a), (2, .int .i64 b), (3, cmp)] h (slices_insertionSortCmpFunc_l35_Step_K2 nx0 K)
def slices_insertionSortCmpFunc_l35_Step_b2 (j : Int) (data : Option Addr) (dataL : Nat) (dataC : Nat) (a : Int) (b : Int) (cmp : Value) (i : Int) (h : Hp) (nx0 : Int × Unit → Hp → Prop) (nx1 : Int × Unit → Hp → Prop) (K : Value → Hp → Prop) : Prop :=
  sx_3 Tryz.prog F 53 (cp [1, 2, 2, 1, 0, 2, 1, 2, 2] (bodyOf Tryz.f124)) (ap [1, 2, 1, 0, 1, 2] slices_insertionSortCmpFunc_l35_Step_an) [(9, .int .i64 j), (0, .slice data dataL dataC), (1, .int .i64 a), (2, .int .i64 b), (3, cmp), (8, .int .i64 i)] h (slices_insertionSortCmpFunc_l35_Step_K6 nx0 nx1 K)
def slices_insertionSortCmpFunc_l35_Step_b3 (data : Option Addr) (dataL : Nat) (dataC : Nat) (a : Int) (b : Int) (cmp : Value) (i : Int) (j : Int) (h : Hp) (nx0 : Int × Unit → Hp → Prop) (nx1 : Int × Unit → Hp → Prop) (K : Value → Hp → Prop) : Prop :=
  sx_2 Tryz.prog F 53 (cp [1, 2, 2, 1, 0, 2, 1, 2, 2, 1] (bodyOf Tryz.f124)) (ap [1, 2, 1, 0, 1, 2, 1] slices_insertionSortCmpFunc_l35_Step_an) [(0, .slice data dataL dataC), (1, .int .i64 a), (2, .int .i64 b), (3, cmp), (8, .int .i64 i), (9, .int .i64 j)] h (slices_insertionSortCmpFunc_l35_Step_K6 nx0 nx1 K)
def slices_insertionSortCmpFunc_l35_Step_b4 (data : Option Addr) (dataL : Nat) (dataC : Nat) (a : Int) (b : Int) (cmp : Value) (i : Int) (h : Hp) (nx0 : Int × Unit → Hp → Prop) (K : Value → Hp → Prop) : Prop :=
  sx_3 Tryz.prog F 53 (cp [1, 2, 2, 1, 1] (bodyOf Tryz.f124)) (ap [1, 2, 1, 1] slices_insertionSortCmpFunc_l35_Step_an) [(0, .slice data dataL dataC), (1, .int .i64 a), (2, .int .i64 b), (3, cmp), (8, .int .i64 i)] h (slices_insertionSortCmpFunc_l35_Step_K2 nx0 K)
def slices_insertionSortCmpFunc_l35_Step_b5 (data : Option Addr) (dataL : Nat) (dataC : Nat) (a : Int) (b : Int) (cmp : Value) (i : Int) (j : Int) (h : Hp) (nx0 : Int × Unit → Hp → Prop) (nx1 : Int × Unit → Hp → Prop) (K : Value → Hp → Prop) : Prop :=
  sx_1 Tryz.prog F 53 (cp [1, 2, 2, 1, 0, 2, 1, 2, 2, 1, 1] (bodyOf Tryz.f124)) (ap [1, 2, 1, 0, 1, 2, 1, 1] slices_insertionSortCmpFunc_l35_Step_an) [(0, .slice data dataL dataC), (1, .int .i64 a), (2, .int .i64 b), (3, cmp), (8, .int .i64 i), (9, .int .i64 j)] h (slices_insertionSortCmpFunc_l35_Step_K6 nx0 nx1 K)
theorem slices_insertionSortCmpFunc_l35_Step_b0_eq (data : Option Addr) (dataL : Nat) (dataC : Nat) (a : Int) (b : Int) (cmp : Value) (h : Hp)  (K : Value → Hp → Prop) : slices_insertionSortCmpFunc_l35_Step_b0 data dataL dataC a b cmp h  K = (
  InR (a + 1) ∧
  LoopVC ((a + 1, ()) : Int × Unit) h (fun (nx0 : Int × Unit → Hp → Prop) (s1 : Int × Unit) h1 => slices_insertionSortCmpFunc_l35_Step_b1 s1.1 data dataL dataC a b cmp h1 nx0 K)) := by kernel_rfl
theorem slices_insertionSortCmpFunc_l35_Step_b1_eq (i : Int) (data : Option Addr) (dataL : Nat) (dataC : Nat) (a : Int) (b : Int) (cmp : Value) (h : Hp) (nx0 : Int × Unit → Hp → Prop) (K : Value → Hp → Prop) : slices_insertionSortCmpFunc_l35_Step_b1 i data dataL dataC a b cmp h nx0 K = (
  cond (decide (i < b))
  (LoopVC ((i, ()) : Int × Unit) h (fun (nx1 : Int × Unit → Hp → Prop) (s2 : Int × Unit) h2 => slices_insertionSortCmpFunc_l35_Step_b2 s2.1 data dataL dataC a b cmp i h2 nx0 nx1 K))
  (K (.tuple #[]) h)) := by kernel_rfl
theorem slices_insertionSortCmpFunc_l35_Step_b2_eq (j : Int) (data : Option Addr) (dataL : Nat) (dataC : Nat) (a : Int) (b : Int) (cmp : Value) (i : Int) (h : Hp) (nx0 : Int × Unit → Hp → Prop) (nx1 : Int × Unit → Hp → Prop) (K : Value → Hp → Prop) : slices_insertionSortCmpFunc_l35_Step_b2 j data dataL dataC a b cmp i h nx0 nx1 K = (
  cond (decide (a < j))
  ((0 ≤ j ∧ j < (dataL : Int)) ∧
  NN data fun a1 =>
  ∃ n1 : Int, ∃ n2 : Int, ∃ n3 : Int, ∃ n4 : Int, ∃ (a2 : Option Addr) (L1 C1 : Nat), cell h (a1.add (Int.toNat j * 5)) = some (.int .i64 n1) ∧
  cell h ((a1.add (Int.toNat j * 5)).add 1) = some (.int .i64 n2) ∧
  cell h ((a1.add (Int.toNat j * 5)).add 2) = some (.int .i64 n3) ∧
  cell h ((a1.add (Int.toNat j * 5)).add 3) = some (.int .i64 n4) ∧
  cell h ((a1.add (Int.toNat j * 5)).add 4) = some (.slice a2 L1 C1) ∧
  InR (j - 1) ∧
  (0 ≤ j - 1 ∧ j - 1 < (dataL : Int)) ∧
  NN data fun a3 =>
  ∃ n5 : Int, ∃ n6 : Int, ∃ n7 : Int, ∃ n8 : Int, ∃ (a4 : Option Addr) (L2 C2 : Nat), cell h (a3.add (Int.toNat (j - 1) * 5)) = some (.int .i64 n5) ∧
  cell h ((a3.add (Int.toNat (j - 1) * 5)).add 1) = some (.int .i64 n6) ∧
  cell h ((a3.add (Int.toNat (j - 1) * 5)).add 2) = some (.int .i64 n7) ∧
  cell h ((a3.add (Int.toNat (j - 1) * 5)).add 3) = some (.int .i64 n8) ∧
  cell h ((a3.add (Int.toNat (j - 1) * 5)).add 4) = some (.slice a4 L2 C2) ∧
  funV cmp fun fg1 fa1 fc1 => callX Tryz.prog F fg1 (fa1 ++ (([.agg #[.int .i64 n1, .int .i64 n2, .int .i64 n3, .int .i64 n4, .slice a2 L1 C1], .agg #[.int .i64 n5, .int .i64 n6, .int .i64 n7, .int .i64 n8, .slice a4 L2 C2]] : List Value) ++ fc1)).toArray h fun v1 h3 => ∃ r1 : Int, v1 = .int .i64 r1 ∧
  cond (decide (r1 < 0))
  (slices_insertionSortCmpFunc_l35_Step_b3 data dataL dataC a b cmp i j h3 nx0 nx1 K)
  (slices_insertionSortCmpFunc_l35_Step_b4 data dataL dataC a b cmp i h3 nx0 K))
  (slices_insertionSortCmpFunc_l35_Step_b4 data dataL dataC a b cmp i h nx0 K)) := by kernel_rfl
theorem slices_insertionSortCmpFunc_l35_Step_b3_eq (data : Option Addr) (dataL : Nat) (dataC : Nat) (a : Int) (b : Int) (cmp : Value) (i : Int) (j : Int) (h : Hp) (nx0 : Int × Unit → Hp → Prop) (nx1 : Int × Unit → Hp → Prop) (K : Value → Hp → Prop) : slices_insertionSortCmpFunc_l35_Step_b3 data dataL dataC a b cmp i j h nx0 nx1 K = (
  InR (j - 1) ∧
  InR (j - 1) ∧
  (0 ≤ j - 1 ∧ j - 1 < (dataL : Int)) ∧
  NN data fun a5 =>
  ∃ n9 : Int, ∃ n10 : Int, ∃ n11 : Int, ∃ n12 : Int, ∃ (a6 : Option Addr) (L3 C3 : Nat), cell h (a5.add (Int.toNat (j - 1) * 5)) = some (.int .i64 n9) ∧
  cell h ((a5.add (Int.toNat (j - 1) * 5)).add 1) = some (.int .i64 n10) ∧
  cell h ((a5.add (Int.toNat (j - 1) * 5)).add 2) = some (.int .i64 n11) ∧
  cell h ((a5.add (Int.toNat (j - 1) * 5)).add 3) = some (.int .i64 n12) ∧
  cell h ((a5.add (Int.toNat (j - 1) * 5)).add 4) = some (.slice a6 L3 C3) ∧
  (0 ≤ j ∧ j < (dataL : Int)) ∧
  NN data fun a7 =>
  ∃ n13 : Int, ∃ n14 : Int, ∃ n15 : Int, ∃ n16 : Int, ∃ (a8 : Option Addr) (L4 C4 : Nat), cell h (a7.add (Int.toNat j * 5)) = some (.int .i64 n13) ∧
  cell h ((a7.add (Int.toNat j * 5)).add 1) = some (.int .i64 n14) ∧
  cell h ((a7.add (Int.toNat j * 5)).add 2) = some (.int .i64 n15) ∧
  cell h ((a7.add (Int.toNat j * 5)).add 3) = some (.int .i64 n16) ∧
  cell h ((a7.add (Int.toNat j * 5)).add 4) = some (.slice a8 L4 C4) ∧
  (0 ≤ j ∧ j < (dataL : Int)) ∧
  NN data fun a9 =>
  Wr h (a9.add (Int.toNat j * 5)) (.int .i64 n9) fun h4 =>
  Wr h4 ((a9.add (Int.toNat j * 5)).add 1) (.int .i64 n10) fun h5 =>
  Wr h5 ((a9.add (Int.toNat j * 5)).add 2) (.int .i64 n11) fun h6 =>
  Wr h6 ((a9.add (Int.toNat j * 5)).add 3) (.int .i64 n12) fun h7 =>
  Wr h7 ((a9.add (Int.toNat j * 5)).add 4) (.slice a6 L3 C3) fun h8 =>
  (0 ≤ j - 1 ∧ j - 1 < (dataL : Int)) ∧
  NN data fun a10 =>
  Wr h8 (a10.add (Int.toNat (j - 1) * 5)) (.int .i64 n13) fun h9 =>
  Wr h9 ((a10.add (Int.toNat (j - 1) * 5)).add 1) (.int .i64 n14) fun h10 =>
  Wr h10 ((a10.add (Int.toNat (j - 1) * 5)).add 2) (.int .i64 n15) fun h11 =>
  Wr h11 ((a10.add (Int.toNat (j - 1) * 5)).add 3) (.int .i64 n16) fun h12 =>
  Wr h12 ((a10.add (Int.toNat (j - 1) * 5)).add 4) (.slice a8 L4 C4) fun h13 =>
  slices_insertionSortCmpFunc_l35_Step_b5 data dataL dataC a b cmp i j h13 nx0 nx1 K) := by kernel_rfl
theorem slices_insertionSortCmpFunc_l35_Step_b4_eq (data : Option Addr) (dataL : Nat) (dataC : Nat) (a : Int) (b : Int) (cmp : Value) (i : Int) (h : Hp) (nx0 : Int × Unit → Hp → Prop) (K : Value → Hp → Prop) : slices_insertionSortCmpFunc_l35_Step_b4 data dataL dataC a b cmp i h nx0 K = (
  InR (i + 1) ∧
  nx0 (i + 1, ()) h) := by kernel_rfl
theorem slices_insertionSortCmpFunc_l35_Step_b5_eq (data : Option Addr) (dataL : Nat) (dataC : Nat) (a : Int) (b : Int) (cmp : Value) (i : Int) (j : Int) (h : Hp) (nx0 : Int × Unit → Hp → Prop) (nx1 : Int × Unit → Hp → Prop) (K : Value → Hp → Prop) : slices_insertionSortCmpFunc_l35_Step_b5 data dataL dataC a b cmp i j h nx0 nx1 K = (
  InR (j - 1) ∧
  nx1 (j - 1, ()) h) := by kernel_rfl
theorem slices_insertionSortCmpFunc_l35_Step_call {data : Option Addr} {dataL : Nat} {dataC : Nat} {a : Int} {b : Int} {cmp : Value} {h : Hp} {K : Value → Hp → Prop} (hk : slices_insertionSortCmpFunc_l35_Step_b0 data dataL dataC a b cmp h K) : HCalls Tryz.prog 124 #[.slice data dataL dataC, .int .i64 a, .int .i64 b, cmp] h K :=
  calls_of_snd slices_insertionSortCmpFunc_l35_Step_an Tryz.func124 (c := bodyOf Tryz.f124) rfl Tryz.ntmps124 (Nat.le_of_ble_eq_true rfl) (snd_5 F_ok F_mixed) hk

/-! ### slices_heapSortCmpFunc_l35_Step -/
def slices_heapSortCmpFunc_l35_Step_an : Ann := .node none (.leaf) (.node none (.leaf) (.node none (.leaf) (.node (some [0, 3, 8, 9, 10]) (.node none (.leaf) (.loop [0, 3, 8, 9, 10] [(11, .int .i64)] (.node none (.leaf) (.node (some [0, 3, 8, 9, 10, 11]) (.leaf) (.leaf))))) (.node none (.leaf) (.loop [0, 3, 8, 9] [(12, .int .i64)] (.node none (.leaf) (.node (some [0, 3, 8, 9, 12]) (.node none (.plan (.qu 0 (.qu 1 (.qu 2 (.qu 3 (.qu 4 (.qu 5 (.qu 6 (.qu 7 (.qu 8 (.qu 9 (.qu 10 (.qu 11 (.qu 12 (.qu 13 (.qu 14 (.qu 15 (.qu 16 (.wo 17 (.qu 18 (.wo 19 .fin .no)) .no))))))))))))))))))) (.leaf)) (.leaf))))))))
def slices_heapSortCmpFunc_l35_Step_K0  (K : Value → Hp → Prop) : Exit → Env → Hp → Prop := retK Tryz.prog Tryz.f125.results.toList K
def slices_heapSortCmpFunc_l35_Step_K1  (K : Value → Hp → Prop) : Exit → Env → Hp → Prop := thenE (fun env h => sx_3 Tryz.prog F 60 (cp [1, 1, 1, 1] (bodyOf Tryz.f125)) (ap [1, 1, 1, 1] slices_heapSortCmpFunc_l35_Step_an) (rs [0, 3, 8, 9, 10] env) h (slices_heapSortCmpFunc_l35_Step_K0  K)) (slices_heapSortCmpFunc_l35_Step_K0  K)
def slices_heapSortCmpFunc_l35_Step_K2  (K : Value → Hp → Prop) : Exit → Env → Hp → Prop := blockE 0 (slices_heapSortCmpFunc_l35_Step_K1  K)
def slices_heapSortCmpFunc_l35_Step_K3 (nx0 : Int × Unit → Hp → Prop) (K : Value → Hp → Prop) : Exit → Env → Hp → Prop := thenE (fun env h => getV [(11, .int .i64)] env fun s => nx0 s h) (slices_heapSortCmpFunc_l35_Step_K2  K)
def slices_heapSortCmpFunc_l35_Step_K4  (K : Value → Hp → Prop) : Exit → Env → Hp → Prop := blockE 2 (slices_heapSortCmpFunc_l35_Step_K0  K)
def slices_heapSortCmpFunc_l35_Step_K5 (nx0 : Int × Unit → Hp → Prop) (K : Value → Hp → Prop) : Exit → Env → Hp → Prop := thenE (fun env h => getV [(12, .int .i64)] env fun s => nx0 s h) (slices_heapSortCmpFunc_l35_Step_K4  K)
def slices_heapSortCmpFunc_l35_Step_b0 (data : Option Addr) (dataL : Nat) (dataC : Nat) (a : Int) (b : Int) (cmp : Value) (h : Hp)  (K : Value → Hp → Prop) : Prop :=
  sx_4 Tryz.prog F 60 (cp [] (bodyOf Tryz.f125)) (ap [] slices_heapSortCmpFunc_l35_Step_an) [(0, .slice data dataL dataC), (1, .int .i64 a), (2, .int .i64 b), (3, cmp)] h (slices_heapSortCmpFunc_l35_Step_K0  K)
def slices_heapSortCmpFunc_l35_Step_b1 (i : Int) (data : Option Addr) (dataL : Nat) (dataC : Nat) (cmp : Value) (first : Int) (lo : Int) (hi : Int) (h : Hp) (nx0 : Int × Unit → Hp → Prop) (K : Value → Hp → Prop) : Prop :=
  sx_3 Tryz.prog F 60 (cp [1, 1, 1, 0, 1, 2, 2] (bodyOf Tryz.f125)) (ap [1, 1, 1, 0, 1, 2] slices_heapSortCmpFunc_l35_Step_an) [(11, .int .i64 i), (0, .slice data dataL dataC), (3, cmp), (8, .int .i64 first), (9, .int .i64 lo), (10, .int .i64 hi)] h (slices_heapSortCmpFunc_l35_Step_K3 nx0 K)
def slices_heapSortCmpFunc_l35_Step_b2 (data : Option Addr) (dataL : Nat) (dataC : Nat) (cmp : Value) (first : Int) (lo : Int) (hi : Int) (i : Int) (h : Hp) (nx0 : Int × Unit → Hp → Prop) (K : Value → Hp → Prop) : Prop :=
  sx_2 Tryz.prog F 60 (cp [1, 1, 1, 0, 1, 2, 2, 1, 1] (bodyOf Tryz.f125)) (ap [1, 1, 1, 0, 1, 2, 1, 1] slices_heapSortCmpFunc_l35_Step_an) [(0, .slice data dataL dataC), (3, cmp), (8, .int .i64 first), (9, .int .i64 lo), (10, .int .i64 hi), (11, .int .i64 i)] h (slices_heapSortCmpFunc_l35_Step_K3 nx0 K)
def slices_heapSortCmpFunc_l35_Step_b3 (data : Option Addr) (dataL : Nat) (dataC : Nat) (cmp : Value) (first : Int) (lo : Int) (hi : Int) (h : Hp)  (K : Value → Hp → Prop) : Prop :=
  sx_3 Tryz.prog F 60 (cp [1, 1, 1, 1] (bodyOf Tryz.f125)) (ap [1, 1, 1, 1] slices_heapSortCmpFunc_l35_Step_an) [(0, .slice data dataL dataC), (3, cmp), (8, .int .i64 first), (9, .int .i64 lo), (10, .int .i64 hi)] h (slices_heapSortCmpFunc_l35_Step_K0  K)
def slices_heapSortCmpFunc_l35_Step_b4 (i : Int) (data : Option Addr) (dataL : Nat) (dataC : Nat) (cmp : Value) (first : Int) (lo : Int) (h : Hp) (nx0 : Int × Unit → Hp → Prop) (K : Value → Hp → Prop) : Prop :=
  sx_2 Tryz.prog F 60 (cp [1, 1, 1, 1, 1, 2, 2] (bodyOf Tryz.f125)) (ap [1, 1, 1, 1, 1, 2] slices_heapSortCmpFunc_l35_Step_an) [(12, .int .i64 i), (0, .slice data dataL dataC), (3, cmp), (8, .int .i64 first), (9, .int .i64 lo)] h (slices_heapSortCmpFunc_l35_Step_K5 nx0 K)
def slices_heapSortCmpFunc_l35_Step_b5 (data : Option Addr) (dataL : Nat) (dataC : Nat) (cmp : Value) (first : Int) (lo : Int) (i : Int) (h : Hp) (nx0 : Int × Unit → Hp → Prop) (K : Value → Hp → Prop) : Prop :=
  sx_1 Tryz.prog F 60 (cp [1, 1, 1, 1, 1, 2, 2, 1, 1] (bodyOf Tryz.f125)) (ap [1, 1, 1, 1, 1, 2, 1, 1] slices_heapSortCmpFunc_l35_Step_an) [(0, .slice data dataL dataC), (3, cmp), (8, .int .i64 first), (9, .int .i64 lo), (12, .int .i64 i)] h (slices_heapSortCmpFunc_l35_Step_K5 nx0 K)
theorem slices_heapSortCmpFunc_l35_Step_b0_eq (data : Option Addr) (dataL : Nat) (dataC : Nat) (a : Int) (b : Int) (cmp : Value) (h : Hp)  (K : Value → Hp → Prop) : slices_heapSortCmpFunc_l35_Step_b0 data dataL dataC a b cmp h  K = (
  InR (b - a) ∧
  InR ((b - a) - 1) ∧
  ∃ q1 : Int, Sx.Quo .i64 ((b - a) - 1) 2 q1 ∧
  LoopVC ((q1, ()) : Int × Unit) h (fun (nx0 : Int × Unit → Hp → Prop) (s1 : Int × Unit) h1 => slices_heapSortCmpFunc_l35_Step_b1 s1.1 data dataL dataC cmp a 0 (b - a) h1 nx0 K)) := by kernel_rfl
theorem slices_heapSortCmpFunc_l35_Step_b1_eq (i : Int) (data : Option Addr) (dataL : Nat) (dataC : Nat) (cmp : Value) (first : Int) (lo : Int) (hi : Int) (h : Hp) (nx0 : Int × Unit → Hp → Prop) (K : Value → Hp → Prop) : slices_heapSortCmpFunc_l35_Step_b1 i data dataL dataC cmp first lo hi h nx0 K = (
  cond (decide ((0 : Int) ≤ i))
  (HCalls Tryz.prog 154 #[.slice data dataL dataC, .int .i64 i, .int .i64 hi, .int .i64 first, cmp] h fun v1 h2 => v1 = .tuple #[] ∧
  slices_heapSortCmpFunc_l35_Step_b2 data dataL dataC cmp first lo hi i h2 nx0 K)
  (slices_heapSortCmpFunc_l35_Step_b3 data dataL dataC cmp first lo hi h  K)) := by kernel_rfl
theorem slices_heapSortCmpFunc_l35_Step_b2_eq (data : Option Addr) (dataL : Nat) (dataC : Nat) (cmp : Value) (first : Int) (lo : Int) (hi : Int) (i : Int) (h : Hp) (nx0 : Int × Unit → Hp → Prop) (K : Value → Hp → Prop) : slices_heapSortCmpFunc_l35_Step_b2 data dataL dataC cmp first lo hi i h nx0 K = (
  InR (i - 1) ∧
  nx0 (i - 1, ()) h) := by kernel_rfl
theorem slices_heapSortCmpFunc_l35_Step_b3_eq (data : Option Addr) (dataL : Nat) (dataC : Nat) (cmp : Value) (first : Int) (lo : Int) (hi : Int) (h : Hp)  (K : Value → Hp → Prop) : slices_heapSortCmpFunc_l35_Step_b3 data dataL dataC cmp first lo hi h  K = (
  InR (hi - 1) ∧
  LoopVC ((hi - 1, ()) : Int × Unit) h (fun (nx0 : Int × Unit → Hp → Prop) (s2 : Int × Unit) h3 => slices_heapSortCmpFunc_l35_Step_b4 s2.1 data dataL dataC cmp first lo h3 nx0 K)) := by kernel_rfl
theorem slices_heapSortCmpFunc_l35_Step_b4_eq (i : Int) (data : Option Addr) (dataL : Nat) (dataC : Nat) (cmp : Value) (first : Int) (lo : Int) (h : Hp) (nx0 : Int × Unit → Hp → Prop) (K : Value → Hp → Prop) : slices_heapSortCmpFunc_l35_Step_b4 i data dataL dataC cmp first lo h nx0 K = (
  cond (decide ((0 : Int) ≤ i))
  (InR (first + i) ∧
  InR (first + i) ∧
  (0 ≤ first + i ∧ first + i < (dataL : Int)) ∧
  NN data fun a1 =>
  ∃ n1 : Int, ∃ n2 : Int, ∃ n3 : Int, ∃ n4 : Int, ∃ (a2 : Option Addr) (L1 C1 : Nat), cell h (a1.add (Int.toNat (first + i) * 5)) = some (.int .i64 n1) ∧
  cell h ((a1.add (Int.toNat (first + i) * 5)).add 1) = some (.int .i64 n2) ∧
  cell h ((a1.add (Int.toNat (first + i) * 5)).add 2) = some (.int .i64 n3) ∧
  cell h ((a1.add (Int.toNat (first + i) * 5)).add 3) = some (.int .i64 n4) ∧
  cell h ((a1.add (Int.toNat (first + i) * 5)).add 4) = some (.slice a2 L1 C1) ∧
  (0 ≤ first ∧ first < (dataL : Int)) ∧
  NN data fun a3 =>
  ∃ n5 : Int, ∃ n6 : Int, ∃ n7 : Int, ∃ n8 : Int, ∃ (a4 : Option Addr) (L2 C2 : Nat), cell h (a3.add (Int.toNat first * 5)) = some (.int .i64 n5) ∧
  cell h ((a3.add (Int.toNat first * 5)).add 1) = some (.int .i64 n6) ∧
  cell h ((a3.add (Int.toNat first * 5)).add 2) = some (.int .i64 n7) ∧
  cell h ((a3.add (Int.toNat first * 5)).add 3) = some (.int .i64 n8) ∧
  cell h ((a3.add (Int.toNat first * 5)).add 4) = some (.slice a4 L2 C2) ∧
  (0 ≤ first ∧ first < (dataL : Int)) ∧
  NN data fun a5 =>
  Wr h (a5.add (Int.toNat first * 5)) (.int .i64 n1) fun h4 =>
  Wr h4 ((a5.add (Int.toNat first * 5)).add 1) (.int .i64 n2) fun h5 =>
  Wr h5 ((a5.add (Int.toNat first * 5)).add 2) (.int .i64 n3) fun h6 =>
  Wr h6 ((a5.add (Int.toNat first * 5)).add 3) (.int .i64 n4) fun h7 =>
  Wr h7 ((a5.add (Int.toNat first * 5)).add 4) (.slice a2 L1 C1) fun h8 =>
  (0 ≤ first + i ∧ first + i < (dataL : Int)) ∧
  NN data fun a6 =>
  Wr h8 (a6.add (Int.toNat (first + i) * 5)) (.int .i64 n5) fun h9 =>
  Wr h9 ((a6.add (Int.toNat (first + i) * 5)).add 1) (.int .i64 n6) fun h10 =>
  Wr h10 ((a6.add (Int.toNat (first + i) * 5)).add 2) (.int .i64 n7) fun h11 =>
  Wr h11 ((a6.add (Int.toNat (first + i) * 5)).add 3) (.int .i64 n8) fun h12 =>
  Wr h12 ((a6.add (Int.toNat (first + i) * 5)).add 4) (.slice a4 L2 C2) fun h13 =>
  HCalls Tryz.prog 154 #[.slice data dataL dataC, .int .i64 lo, .int .i64 i, .int .i64 first, cmp] h13 fun v2 h14 => v2 = .tuple #[] ∧
  slices_heapSortCmpFunc_l35_Step_b5 data dataL dataC cmp first lo i h14 nx0 K)
  (K (.tuple #[]) h)) := by kernel_rfl
theorem slices_heapSortCmpFunc_l35_Step_b5_eq (data : Option Addr) (dataL : Nat) (dataC : Nat) (cmp : Value) (first : Int) (lo : Int) (i : Int) (h : Hp) (nx0 : Int × Unit → Hp → Prop) (K : Value → Hp → Prop) : slices_heapSortCmpFunc_l35_Step_b5 data dataL dataC cmp first lo i h nx0 K = (
  InR (i - 1) ∧
  nx0 (i - 1, ()) h) := by kernel_rfl
theorem slices_heapSortCmpFunc_l35_Step_call {data : Option Addr} {dataL : Nat} {dataC : Nat} {a : Int} {b : Int} {cmp : Value} {h : Hp} {K : Value → Hp → Prop} (hk : slices_heapSortCmpFunc_l35_Step_b0 data dataL dataC a b cmp h K) : HCalls Tryz.prog 125 #[.slice data dataL dataC, .int .i64 a, .int .i64 b, cmp] h K :=
  calls_of_snd slices_heapSortCmpFunc_l35_Step_an Tryz.func125 (c := bodyOf Tryz.f125) rfl Tryz.ntmps125 (Nat.le_of_ble_eq_true rfl) (snd_4 F_ok F_mixed) hk

/-! ### slices_breakPatternsCmpFunc_l35_Step -/
def slices_breakPatternsCmpFunc_l35_Step_an : Ann := .node none (.leaf) (.node none (.leaf) (.node none (.node none (.leaf) (.node none (.leaf) (.node none (.leaf) (.loop [0, 1, 8, 9, 10] [(11, .int .i64)] (.node none (.leaf) (.node (some [0, 1, 8, 9, 10, 11]) (.node none (.leaf) (.node (some [0, 1, 8, 9, 10, 11, 12]) (.leaf) (.plan (.qu 0 (.qu 1 (.qu 2 (.qu 3 (.qu 4 (.qu 5 (.qu 6 (.qu 7 (.qu 8 (.qu 9 (.qu 10 (.qu 11 (.qu 12 (.qu 13 (.qu 14 (.qu 15 (.qu 16 (.wo 17 (.qu 18 (.wo 19 .fin .no)) .no))))))))))))))))))))) (.leaf))))))) (.leaf)))
def slices_breakPatternsCmpFunc_l35_Step_K0  (K : Value → Hp → Prop) : Exit → Env → Hp → Prop := retK Tryz.prog Tryz.f126.results.toList K
def slices_breakPatternsCmpFunc_l35_Step_K1  (K : Value → Hp → Prop) : Exit → Env → Hp → Prop := blockE 0 (slices_breakPatternsCmpFunc_l35_Step_K0  K)
def slices_breakPatternsCmpFunc_l35_Step_K2 (nx0 : Int × Unit → Hp → Prop) (K : Value → Hp → Prop) : Exit → Env → Hp → Prop := thenE (fun env h => getV [(11, .int .i64)] env fun s => nx0 s h) (slices_breakPatternsCmpFunc_l35_Step_K1  K)
def slices_breakPatternsCmpFunc_l35_Step_K3 (nx0 : Int × Unit → Hp → Prop) (K : Value → Hp → Prop) : Exit → Env → Hp → Prop := thenE (fun env h => sx_1 Tryz.prog F 67 (cp [1, 1, 0, 1, 1, 1, 2, 2, 1, 1] (bodyOf Tryz.f126)) (ap [1, 1, 0, 1, 1, 1, 2, 1, 1] slices_breakPatternsCmpFunc_l35_Step_an) (rs [0, 1, 8, 9, 10, 11] env) h (slices_breakPatternsCmpFunc_l35_Step_K2 nx0 K)) (slices_breakPatternsCmpFunc_l35_Step_K2 nx0 K)
def slices_breakPatternsCmpFunc_l35_Step_K4 (nx0 : Int × Unit → Hp → Prop) (K : Value → Hp → Prop) : Exit → Env → Hp → Prop := blockE 1 (slices_breakPatternsCmpFunc_l35_Step_K3 nx0 K)
def slices_breakPatternsCmpFunc_l35_Step_b0 (data : Option Addr) (dataL : Nat) (dataC : Nat) (a : Int) (b : Int) (cmp : Value) (h : Hp)  (K : Value → Hp → Prop) : Prop :=
  sx_3 Tryz.prog F 67 (cp [] (bodyOf Tryz.f126)) (ap [] slices_breakPatternsCmpFunc_l35_Step_an) [(0, .slice data dataL dataC), (1, .int .i64 a), (2, .int .i64 b), (3, cmp)] h (slices_breakPatternsCmpFunc_l35_Step_K0  K)
def slices_breakPatternsCmpFunc_l35_Step_b1 (idx : Int) (data : Option Addr) (dataL : Nat) (dataC : Nat) (a : Int) (length : Int) (random : Option Addr) (modulus : Int) (h : Hp) (nx0 : Int × Unit → Hp → Prop) (K : Value → Hp → Prop) : Prop :=
  sx_2 Tryz.prog F 67 (cp [1, 1, 0, 1, 1, 1, 2, 2] (bodyOf Tryz.f126)) (ap [1, 1, 0, 1, 1, 1, 2] slices_breakPatternsCmpFunc_l35_Step_an) [(11, .int .i64 idx), (0, .slice data dataL dataC), (1, .int .i64 a), (8, .int .i64 length), (9, .pointer random), (10, .int .u64 modulus)] h (slices_breakPatternsCmpFunc_l35_Step_K2 nx0 K)
def slices_breakPatternsCmpFunc_l35_Step_b2 (data : Option Addr) (dataL : Nat) (dataC : Nat) (a : Int) (length : Int) (random : Option Addr) (modulus : Int) (idx : Int) (other : Int) (h : Hp) (nx0 : Int × Unit → Hp → Prop) (K : Value → Hp → Prop) : Prop :=
  sx_1 Tryz.prog F 67 (cp [1, 1, 0, 1, 1, 1, 2, 2, 1, 0, 2, 1, 1] (bodyOf Tryz.f126)) (ap [1, 1, 0, 1, 1, 1, 2, 1, 0, 1, 1] slices_breakPatternsCmpFunc_l35_Step_an) [(0, .slice data dataL dataC), (1, .int .i64 a), (8, .int .i64 length), (9, .pointer random), (10, .int .u64 modulus), (11, .int .i64 idx), (12, .int .i64 other)] h (slices_breakPatternsCmpFunc_l35_Step_K4 nx0 K)
def slices_breakPatternsCmpFunc_l35_Step_b3 (data : Option Addr) (dataL : Nat) (dataC : Nat) (a : Int) (length : Int) (random : Option Addr) (modulus : Int) (idx : Int) (h : Hp) (nx0 : Int × Unit → Hp → Prop) (K : Value → Hp → Prop) : Prop :=
  sx_1 Tryz.prog F 67 (cp [1, 1, 0, 1, 1, 1, 2, 2, 1, 1] (bodyOf Tryz.f126)) (ap [1, 1, 0, 1, 1, 1, 2, 1, 1] slices_breakPatternsCmpFunc_l35_Step_an) [(0, .slice data dataL dataC), (1, .int .i64 a), (8, .int .i64 length), (9, .pointer random), (10, .int .u64 modulus), (11, .int .i64 idx)] h (slices_breakPatternsCmpFunc_l35_Step_K2 nx0 K)
theorem slices_breakPatternsCmpFunc_l35_Step_b0_eq (data : Option Addr) (dataL : Nat) (dataC : Nat) (a : Int) (b : Int) (cmp : Value) (h : Hp)  (K : Value → Hp → Prop) : slices_breakPatternsCmpFunc_l35_Step_b0 data dataL dataC a b cmp h  K = (
  InR (b - a) ∧
  cond (decide ((8 : Int) ≤ (b - a)))
  (New h (.cells #[.int .u64 0] 183) fun b1 h1 =>
  Wr h1 ⟨b1, 0, none⟩ (.int .u64 (IntKind.u64.wrap (b - a))) fun h2 =>
  HCalls Tryz.prog 155 #[.int .i64 (b - a)] h2 fun v1 h3 => ∃ r1 : Int, v1 = .int .u64 r1 ∧
  ∃ q1 : Int, Sx.Quo .i64 (b - a) 4 q1 ∧
  InR (q1 * 2) ∧
  InR (a + (q1 * 2)) ∧
  InR ((a + (q1 * 2)) - 1) ∧
  LoopVC (((a + (q1 * 2)) - 1, ()) : Int × Unit) h3 (fun (nx0 : Int × Unit → Hp → Prop) (s1 : Int × Unit) h4 => slices_breakPatternsCmpFunc_l35_Step_b1 s1.1 data dataL dataC a (b - a) (some ⟨b1, 0, none⟩) r1 h4 nx0 K))
  (K (.tuple #[]) h)) := by kernel_rfl
theorem slices_breakPatternsCmpFunc_l35_Step_b1_eq (idx : Int) (data : Option Addr) (dataL : Nat) (dataC : Nat) (a : Int) (length : Int) (random : Option Addr) (modulus : Int) (h : Hp) (nx0 : Int × Unit → Hp → Prop) (K : Value → Hp → Prop) : slices_breakPatternsCmpFunc_l35_Step_b1 idx data dataL dataC a length random modulus h nx0 K = (
  ∃ q2 : Int, Sx.Quo .i64 length 4 q2 ∧
  InR (q2 * 2) ∧
  InR (a + (q2 * 2)) ∧
  InR ((a + (q2 * 2)) + 1) ∧
  cond (decide (idx ≤ ((a + (q2 * 2)) + 1)))
  (HCalls Tryz.prog 156 #[.pointer random] h fun v2 h5 => ∃ r2 : Int, v2 = .int .u64 r2 ∧
  ∃ an1 : Int, Sx.And .u64 r2 (IntKind.u64.wrap (modulus - 1)) an1 ∧
  InR an1 ∧
  cond (decide (length ≤ an1))
  (InR (an1 - length) ∧
  slices_breakPatternsCmpFunc_l35_Step_b2 data dataL dataC a length random modulus idx (an1 - length) h5 nx0 K)
  (slices_breakPatternsCmpFunc_l35_Step_b2 data dataL dataC a length random modulus idx an1 h5 nx0 K))
  (K (.tuple #[]) h)) := by kernel_rfl
theorem slices_breakPatternsCmpFunc_l35_Step_b2_eq (data : Option Addr) (dataL : Nat) (dataC : Nat) (a : Int) (length : Int) (random : Option Addr) (modulus : Int) (idx : Int) (other : Int) (h : Hp) (nx0 : Int × Unit → Hp → Prop) (K : Value → Hp → Prop) : slices_breakPatternsCmpFunc_l35_Step_b2 data dataL dataC a length random modulus idx other h nx0 K = (
  InR (a + other) ∧
  InR (a + other) ∧
  (0 ≤ a + other ∧ a + other < (dataL : Int)) ∧
  NN data fun a1 =>
  ∃ n1 : Int, ∃ n2 : Int, ∃ n3 : Int, ∃ n4 : Int, ∃ (a2 : Option Addr) (L1 C1 : Nat), cell h (a1.add (Int.toNat (a + other) * 5)) = some (.int .i64 n1) ∧
  cell h ((a1.add (Int.toNat (a + other) * 5)).add 1) = some (.int .i64 n2) ∧
  cell h ((a1.add (Int.toNat (a + other) * 5)).add 2) = some (.int .i64 n3) ∧
  cell h ((a1.add (Int.toNat (a + other) * 5)).add 3) = some (.int .i64 n4) ∧
  cell h ((a1.add (Int.toNat (a + other) * 5)).add 4) = some (.slice a2 L1 C1) ∧
  (0 ≤ idx ∧ idx < (dataL : Int)) ∧
  NN data fun a3 =>
  ∃ n5 : Int, ∃ n6 : Int, ∃ n7 : Int, ∃ n8 : Int, ∃ (a4 : Option Addr) (L2 C2 : Nat), cell h (a3.add (Int.toNat idx * 5)) = some (.int .i64 n5) ∧
  cell h ((a3.add (Int.toNat idx * 5)).add 1) = some (.int .i64 n6) ∧
  cell h ((a3.add (Int.toNat idx * 5)).add 2) = some (.int .i64 n7) ∧
  cell h ((a3.add (Int.toNat idx * 5)).add 3) = some (.int .i64 n8) ∧
  cell h ((a3.add (Int.toNat idx * 5)).add 4) = some (.slice a4 L2 C2) ∧
  (0 ≤ idx ∧ idx < (dataL : Int)) ∧
  NN data fun a5 =>
  Wr h (a5.add (Int.toNat idx * 5)) (.int .i64 n1) fun h6 =>
  Wr h6 ((a5.add (Int.toNat idx * 5)).add 1) (.int .i64 n2) fun h7 =>
  Wr h7 ((a5.add (Int.toNat idx * 5)).add 2) (.int .i64 n3) fun h8 =>
  Wr h8 ((a5.add (Int.toNat idx * 5)).add 3) (.int .i64 n4) fun h9 =>
  Wr h9 ((a5.add (Int.toNat idx * 5)).add 4) (.slice a2 L1 C1) fun h10 =>
  (0 ≤ a + other ∧ a + other < (dataL : Int)) ∧
  NN data fun a6 =>
  Wr h10 (a6.add (Int.toNat (a + other) * 5)) (.int .i64 n5) fun h11 =>
  Wr h11 ((a6.add (Int.toNat (a + other) * 5)).add 1) (.int .i64 n6) fun h12 =>
  Wr h12 ((a6.add (Int.toNat (a + other) * 5)).add 2) (.int .i64 n7) fun h13 =>
  Wr h13 ((a6.add (Int.toNat (a + other) * 5)).add 3) (.int .i64 n8) fun h14 =>
  Wr h14 ((a6.add (Int.toNat (a + other) * 5)).add 4) (.slice a4 L2 C2) fun h15 =>
  slices_breakPatternsCmpFunc_l35_Step_b3 data dataL dataC a length random modulus idx h15 nx0 K) := by kernel_rfl
theorem slices_breakPatternsCmpFunc_l35_Step_b3_eq (data : Option Addr) (dataL : Nat) (dataC : Nat) (a : Int) (length : Int) (random : Option Addr) (modulus : Int) (idx : Int) (h : Hp) (nx0 : Int × Unit → Hp → Prop) (K : Value → Hp → Prop) : slices_breakPatternsCmpFunc_l35_Step_b3 data dataL dataC a length random modulus idx h nx0 K = (
  InR (idx + 1) ∧
  nx0 (idx + 1, ()) h) := by kernel_rfl
theorem slices_breakPatternsCmpFunc_l35_Step_call {data : Option Addr} {dataL : Nat} {dataC : Nat} {a : Int} {b : Int} {cmp : Value} {h : Hp} {K : Value → Hp → Prop} (hk : slices_breakPatternsCmpFunc_l35_Step_b0 data dataL dataC a b cmp h K) : HCalls Tryz.prog 126 #[.slice data dataL dataC, .int .i64 a, .int .i64 b, cmp] h K :=
  calls_of_snd slices_breakPatternsCmpFunc_l35_Step_an Tryz.func126 (c := bodyOf Tryz.f126) rfl Tryz.ntmps126 (Nat.le_of_ble_eq_true rfl) (snd_3 F_ok F_mixed) hk

/-! ### slices_choosePivotCmpFunc_l35_Step -/
def slices_choosePivotCmpFunc_l35_Step_an : Ann := .node none (.leaf) (.node none (.leaf) (.node none (.leaf) (.node none (.leaf) (.node none (.leaf) (.node none (.leaf) (.node (some [11, 13]) (.node none (.leaf) (.node none (.node (some [0, 3, 11, 12, 13, 14]) (.leaf) (.leaf)) (.leaf))) (.leaf)))))))
def slices_choosePivotCmpFunc_l35_Step_K0  (K : Value → Hp → Prop) : Exit → Env → Hp → Prop := retK Tryz.prog Tryz.f127.results.toList K
def slices_choosePivotCmpFunc_l35_Step_K1  (K : Value → Hp → Prop) : Exit → Env → Hp → Prop := thenE (fun env h => sx_1 Tryz.prog F 63 (cp [1, 1, 1, 1, 1, 1, 1] (bodyOf Tryz.f127)) (ap [1, 1, 1, 1, 1, 1, 1] slices_choosePivotCmpFunc_l35_Step_an) (rs [11, 13] env) h (slices_choosePivotCmpFunc_l35_Step_K0  K)) (slices_choosePivotCmpFunc_l35_Step_K0  K)
def slices_choosePivotCmpFunc_l35_Step_b0 (data : Option Addr) (dataL : Nat) (dataC : Nat) (a : Int) (b : Int) (cmp : Value) (h : Hp)  (K : Value → Hp → Prop) : Prop :=
  sx_2 Tryz.prog F 63 (cp [] (bodyOf Tryz.f127)) (ap [] slices_choosePivotCmpFunc_l35_Step_an) [(0, .slice data dataL dataC), (1, .int .i64 a), (2, .int .i64 b), (3, cmp)] h (slices_choosePivotCmpFunc_l35_Step_K0  K)
def slices_choosePivotCmpFunc_l35_Step_b1 (data : Option Addr) (dataL : Nat) (dataC : Nat) (cmp : Value) (swaps : Option Addr) (i : Int) (j : Int) (k : Int) (h : Hp)  (K : Value → Hp → Prop) : Prop :=
  sx_1 Tryz.prog F 63 (cp [1, 1, 1, 1, 1, 1, 0, 1, 0, 1] (bodyOf Tryz.f127)) (ap [1, 1, 1, 1, 1, 1, 0, 1, 0, 1] slices_choosePivotCmpFunc_l35_Step_an) [(0, .slice data dataL dataC), (3, cmp), (11, .pointer swaps), (12, .int .i64 i), (13, .int .i64 j), (14, .int .i64 k)] h (slices_choosePivotCmpFunc_l35_Step_K1  K)
def slices_choosePivotCmpFunc_l35_Step_b2 (swaps : Option Addr) (j : Int) (h : Hp)  (K : Value → Hp → Prop) : Prop :=
  sx_1 Tryz.prog F 63 (cp [1, 1, 1, 1, 1, 1, 1] (bodyOf Tryz.f127)) (ap [1, 1, 1, 1, 1, 1, 1] slices_choosePivotCmpFunc_l35_Step_an) [(11, .pointer swaps), (13, .int .i64 j)] h (slices_choosePivotCmpFunc_l35_Step_K0  K)
theorem slices_choosePivotCmpFunc_l35_Step_b0_eq (data : Option Addr) (dataL : Nat) (dataC : Nat) (a : Int) (b : Int) (cmp : Value) (h : Hp)  (K : Value → Hp → Prop) : slices_choosePivotCmpFunc_l35_Step_b0 data dataL dataC a b cmp h  K = (
  InR (b - a) ∧
  New h (.cells #[.int .i64 0] 3) fun b1 h1 =>
  ∃ q1 : Int, Sx.Quo .i64 (b - a) 4 q1 ∧
  InR (q1 * 1) ∧
  InR (a + (q1 * 1)) ∧
  ∃ q2 : Int, Sx.Quo .i64 (b - a) 4 q2 ∧
  InR (q2 * 2) ∧
  InR (a + (q2 * 2)) ∧
  ∃ q3 : Int, Sx.Quo .i64 (b - a) 4 q3 ∧
  InR (q3 * 3) ∧
  InR (a + (q3 * 3)) ∧
  cond (decide ((8 : Int) ≤ (b - a)))
  (cond (decide ((50 : Int) ≤ (b - a)))
  (HCalls Tryz.prog 157 #[.slice data dataL dataC, .int .i64 (a + (q1 * 1)), .pointer (some ⟨b1, 0, none⟩), cmp] h1 fun v1 h2 => ∃ r1 : Int, v1 = .int .i64 r1 ∧
  HCalls Tryz.prog 157 #[.slice data dataL dataC, .int .i64 (a + (q2 * 2)), .pointer (some ⟨b1, 0, none⟩), cmp] h2 fun v2 h3 => ∃ r2 : Int, v2 = .int .i64 r2 ∧
  HCalls Tryz.prog 157 #[.slice data dataL dataC, .int .i64 (a + (q3 * 3)), .pointer (some ⟨b1, 0, none⟩), cmp] h3 fun v3 h4 => ∃ r3 : Int, v3 = .int .i64 r3 ∧
  slices_choosePivotCmpFunc_l35_Step_b1 data dataL dataC cmp (some ⟨b1, 0, none⟩) r1 r2 r3 h4  K)
  (slices_choosePivotCmpFunc_l35_Step_b1 data dataL dataC cmp (some ⟨b1, 0, none⟩) (a + (q1 * 1)) (a + (q2 * 2)) (a + (q3 * 3)) h1  K))
  (slices_choosePivotCmpFunc_l35_Step_b2 (some ⟨b1, 0, none⟩) (a + (q2 * 2)) h1  K)) := by kernel_rfl
theorem slices_choosePivotCmpFunc_l35_Step_b1_eq (data : Option Addr) (dataL : Nat) (dataC : Nat) (cmp : Value) (swaps : Option Addr) (i : Int) (j : Int) (k : Int) (h : Hp)  (K : Value → Hp → Prop) : slices_choosePivotCmpFunc_l35_Step_b1 data dataL dataC cmp swaps i j k h  K = (
  HCalls Tryz.prog 158 #[.slice data dataL dataC, .int .i64 i, .int .i64 j, .int .i64 k, .pointer swaps, cmp] h fun v4 h5 => ∃ r4 : Int, v4 = .int .i64 r4 ∧
  slices_choosePivotCmpFunc_l35_Step_b2 swaps r4 h5  K) := by kernel_rfl
theorem slices_choosePivotCmpFunc_l35_Step_b2_eq (swaps : Option Addr) (j : Int) (h : Hp)  (K : Value → Hp → Prop) : slices_choosePivotCmpFunc_l35_Step_b2 swaps j h  K = (
  NN swaps fun a1 =>
  ∃ n1 : Int, cell h a1 = some (.int .i64 n1) ∧
  cond (decide (n1 = 0))
  (K (.tuple #[.int .i64 j, .int .i64 1]) h)
  (cond (decide (n1 = 12))
  (K (.tuple #[.int .i64 j, .int .i64 2]) h)
  (K (.tuple #[.int .i64 j, .int .i64 0]) h))) := by kernel_rfl
theorem slices_choosePivotCmpFunc_l35_Step_call {data : Option Addr} {dataL : Nat} {dataC : Nat} {a : Int} {b : Int} {cmp : Value} {h : Hp} {K : Value → Hp → Prop} (hk : slices_choosePivotCmpFunc_l35_Step_b0 data dataL dataC a b cmp h K) : HCalls Tryz.prog 127 #[.slice data dataL dataC, .int .i64 a, .int .i64 b, cmp] h K :=
  calls_of_snd slices_choosePivotCmpFunc_l35_Step_an Tryz.func127 (c := bodyOf Tryz.f127) rfl Tryz.ntmps127 (Nat.le_of_ble_eq_true rfl) (snd_2 F_ok F_mixed) hk

/-! ### slices_reverseRangeCmpFunc_l35_Step -/
def slices_reverseRangeCmpFunc_l35_Step_an : Ann := .node none (.leaf) (.node none (.leaf) (.loop [0] [(8, .int .i64), (9, .int .i64)] (.node none (.leaf) (.node none (.plan (.qu 0 (.qu 1 (.qu 2 (.qu 3 (.qu 4 (.qu 5 (.qu 6 (.qu 7 (.qu 8 (.qu 9 (.qu 10 (.qu 11 (.qu 12 (.wo 13 (.qu 14 (.wo 15 .fin .no)) .no))))))))))))))) (.leaf)))))
def slices_reverseRangeCmpFunc_l35_Step_K0  (K : Value → Hp → Prop) : Exit → Env → Hp → Prop := retK Tryz.prog Tryz.f128.results.toList K
def slices_reverseRangeCmpFunc_l35_Step_K1  (K : Value → Hp → Prop) : Exit → Env → Hp → Prop := blockE 0 (slices_reverseRangeCmpFunc_l35_Step_K0  K)
def slices_reverseRangeCmpFunc_l35_Step_K2 (nx0 : Int × Int × Unit → Hp → Prop) (K : Value → Hp → Prop) : Exit → Env → Hp → Prop := thenE (fun env h => getV [(8, .int .i64), (9, .int .i64)] env fun s => nx0 s h) (slices_reverseRangeCmpFunc_l35_Step_K1  K)
def slices_reverseRangeCmpFunc_l35_Step_b0 (data : Option Addr) (dataL : Nat) (dataC : Nat) (a : Int) (b : Int) (cmp : Value) (h : Hp)  (K : Value → Hp → Prop) : Prop :=
  sx_2 Tryz.prog F 34 (cp [] (bodyOf Tryz.f128)) (ap [] slices_reverseRangeCmpFunc_l35_Step_an) [(0, .slice data dataL dataC), (1, .int .i64 a), (2, .int .i64 b), (3, cmp)] h (slices_reverseRangeCmpFunc_l35_Step_K0  K)
def slices_reverseRangeCmpFunc_l35_Step_b1 (i : Int) (j : Int) (data : Option Addr) (dataL : Nat) (dataC : Nat) (h : Hp) (nx0 : Int × Int × Unit → Hp → Prop) (K : Value → Hp → Prop) : Prop :=
  sx_1 Tryz.prog F 34 (cp [1, 1, 2, 2] (bodyOf Tryz.f128)) (ap [1, 1, 2] slices_reverseRangeCmpFunc_l35_Step_an) [(8, .int .i64 i), (9, .int .i64 j), (0, .slice data dataL dataC)] h (slices_reverseRangeCmpFunc_l35_Step_K2 nx0 K)
theorem slices_reverseRangeCmpFunc_l35_Step_b0_eq (data : Option Addr) (dataL : Nat) (dataC : Nat) (a : Int) (b : Int) (cmp : Value) (h : Hp)  (K : Value → Hp → Prop) : slices_reverseRangeCmpFunc_l35_Step_b0 data dataL dataC a b cmp h  K = (
  InR (b - 1) ∧
  LoopVC ((a, b - 1, ()) : Int × Int × Unit) h (fun (nx0 : Int × Int × Unit → Hp → Prop) (s1 : Int × Int × Unit) h1 => slices_reverseRangeCmpFunc_l35_Step_b1 s1.1 s1.2.1 data dataL dataC h1 nx0 K)) := by kernel_rfl
theorem slices_reverseRangeCmpFunc_l35_Step_b1_eq (i : Int) (j : Int) (data : Option Addr) (dataL : Nat) (dataC : Nat) (h : Hp) (nx0 : Int × Int × Unit → Hp → Prop) (K : Value → Hp → Prop) : slices_reverseRangeCmpFunc_l35_Step_b1 i j data dataL dataC h nx0 K = (
  cond (decide (i < j))
  ((0 ≤ j ∧ j < (dataL : Int)) ∧
  NN data fun a1 =>
  ∃ n1 : Int, ∃ n2 : Int, ∃ n3 : Int, ∃ n4 : Int, ∃ (a2 : Option Addr) (L1 C1 : Nat), cell h (a1.add (Int.toNat j * 5)) = some (.int .i64 n1) ∧
  cell h ((a1.add (Int.toNat j * 5)).add 1) = some (.int .i64 n2) ∧
  cell h ((a1.add (Int.toNat j * 5)).add 2) = some (.int .i64 n3) ∧
  cell h ((a1.add (Int.toNat j * 5)).add 3) = some (.int .i64 n4) ∧
  cell h ((a1.add (Int.toNat j * 5)).add 4) = some (.slice a2 L1 C1) ∧
  (0 ≤ i ∧ i < (dataL : Int)) ∧
  NN data fun a3 =>
  ∃ n5 : Int, ∃ n6 : Int, ∃ n7 : Int, ∃ n8 : Int, ∃ (a4 : Option Addr) (L2 C2 : Nat), cell h (a3.add (Int.toNat i * 5)) = some (.int .i64 n5) ∧
  cell h ((a3.add (Int.toNat i * 5)).add 1) = some (.int .i64 n6) ∧
  cell h ((a3.add (Int.toNat i * 5)).add 2) = some (.int .i64 n7) ∧
  cell h ((a3.add (Int.toNat i * 5)).add 3) = some (.int .i64 n8) ∧
  cell h ((a3.add (Int.toNat i * 5)).add 4) = some (.slice a4 L2 C2) ∧
  (0 ≤ i ∧ i < (dataL : Int)) ∧
  NN data fun a5 =>
  Wr h (a5.add (Int.toNat i * 5)) (.int .i64 n1) fun h2 =>
  Wr h2 ((a5.add (Int.toNat i * 5)).add 1) (.int .i64 n2) fun h3 =>
  Wr h3 ((a5.add (Int.toNat i * 5)).add 2) (.int .i64 n3) fun h4 =>
  Wr h4 ((a5.add (Int.toNat i * 5)).add 3) (.int .i64 n4) fun h5 =>
  Wr h5 ((a5.add (Int.toNat i * 5)).add 4) (.slice a2 L1 C1) fun h6 =>
  (0 ≤ j ∧ j < (dataL : Int)) ∧
  NN data fun a6 =>
  Wr h6 (a6.add (Int.toNat j * 5)) (.int .i64 n5) fun h7 =>
  Wr h7 ((a6.add (Int.toNat j * 5)).add 1) (.int .i64 n6) fun h8 =>
  Wr h8 ((a6.add (Int.toNat j * 5)).add 2) (.int .i64 n7) fun h9 =>
  Wr h9 ((a6.add (Int.toNat j * 5)).add 3) (.int .i64 n8) fun h10 =>
  Wr h10 ((a6.add (Int.toNat j * 5)).add 4) (.slice a4 L2 C2) fun h11 =>
  InR (i + 1) ∧
  InR (j - 1) ∧
  nx0 (i + 1, j - 1, ()) h11)
  (K (.tuple #[]) h)) := by kernel_rfl
theorem slices_reverseRangeCmpFunc_l35_Step_call {data : Option Addr} {dataL : Nat} {dataC : Nat} {a : Int} {b : Int} {cmp : Value} {h : Hp} {K : Value → Hp → Prop} (hk : slices_reverseRangeCmpFunc_l35_Step_b0 data dataL dataC a b cmp h K) : HCalls Tryz.prog 128 #[.slice data dataL dataC, .int .i64 a, .int .i64 b, cmp] h K :=
  calls_of_snd slices_reverseRangeCmpFunc_l35_Step_an Tryz.func128 (c := bodyOf Tryz.f128) rfl Tryz.ntmps128 (Nat.le_of_ble_eq_true rfl) (snd_2 F_ok F_mixed) hk

end Go.Proofs.YtdlkohenamlnaaaGreat
