/- Plain statements of what each block of code of this seat asks; printed by a program, checked by Lean. -/
import Derived.Test.YtbfejfejahoblaaSxV0
set_option maxRecDepth 10000
namespace Go.Proofs.Ytbfejfejahoblaa
open Go Go.Sx

/-! ### l31_RangetreeEffort -/
/-! ### l31_RangetreeBack -/
/-! ### l31_RangetreeOrder -/
/-! ### l31_RangetreeNil -/
def l31_RangetreeNil_an : Ann := .node none (.leaf) (.node none (.leaf) (.node none (.leaf) (.node none (.leaf) (.node none (.leaf) (.node none (.leaf) (.node none (.leaf) (.node (some [0, 1]) (.leaf) (.node none (.leaf) (.node (some [0, 1, 14]) (.node none (.leaf) (.loop [0, 1] [(14, .slice), (100, .int .i64)] (.node none (.leaf) (.node none (.leaf) (.node (some [0, 1, 14, 100]) (.leaf) (.leaf)))))) (.node none (.leaf) (.node (some [0, 1, 5]) (.leaf) (.node none (.leaf) (.node none (.leaf) (.node (some [5, 16, 17]) (.leaf) (.leaf)))))))))))))))
def l31_RangetreeNil_K0  (K : Value → Hp → Prop) : Exit → Env → Hp → Prop := retK Try.prog Try.f6.results.toList K
def l31_RangetreeNil_K1  (K : Value → Hp → Prop) : Exit → Env → Hp → Prop := thenE (fun env h => sx_3 Try.prog F 159 (cp [1, 1, 1, 1, 1, 1, 1, 1, 1, 1] (bodyOf Try.f6)) (ap [1, 1, 1, 1, 1, 1, 1, 1, 1, 1] l31_RangetreeNil_an) (rs [0, 1, 14] env) h (l31_RangetreeNil_K0  K)) (l31_RangetreeNil_K0  K)
def l31_RangetreeNil_K2  (K : Value → Hp → Prop) : Exit → Env → Hp → Prop := blockE 0 (l31_RangetreeNil_K1  K)
def l31_RangetreeNil_K3 (nx0 : (Option Addr × Nat × Nat) × Int × Unit → Hp → Prop) (K : Value → Hp → Prop) : Exit → Env → Hp → Prop := thenE (fun env h => getV [(14, .slice), (100, .int .i64)] env fun s => nx0 s h) (l31_RangetreeNil_K2  K)
def l31_RangetreeNil_b0 (x : Int) (y : Int) (h : Hp)  (K : Value → Hp → Prop) : Prop :=
  sx_5 Try.prog F 159 (cp [] (bodyOf Try.f6)) (ap [] l31_RangetreeNil_an) [(0, .int .u16 x), (1, .int .u16 y)] h (l31_RangetreeNil_K0  K)
def l31_RangetreeNil_b1 (x : Int) (y : Int) (h : Hp)  (K : Value → Hp → Prop) : Prop :=
  sx_4 Try.prog F 159 (cp [1, 1, 1, 1, 1, 1, 1, 1] (bodyOf Try.f6)) (ap [1, 1, 1, 1, 1, 1, 1, 1] l31_RangetreeNil_an) [(0, .int .u16 x), (1, .int .u16 y)] h (l31_RangetreeNil_K0  K)
def l31_RangetreeNil_b2 (l : Option Addr) (lL : Nat) (lC : Nat) (t100 : Int) (x : Int) (y : Int) (h : Hp) (nx0 : (Option Addr × Nat × Nat) × Int × Unit → Hp → Prop) (K : Value → Hp → Prop) : Prop :=
  sx_3 Try.prog F 159 (cp [1, 1, 1, 1, 1, 1, 1, 1, 1, 0, 1, 2, 2] (bodyOf Try.f6)) (ap [1, 1, 1, 1, 1, 1, 1, 1, 1, 0, 1, 2] l31_RangetreeNil_an) [(14, .slice l lL lC), (100, .int .i64 t100), (0, .int .u16 x), (1, .int .u16 y)] h (l31_RangetreeNil_K3 nx0 K)
def l31_RangetreeNil_b3 (x : Int) (y : Int) (l : Option Addr) (lL : Nat) (lC : Nat) (t100 : Int) (h : Hp) (nx0 : (Option Addr × Nat × Nat) × Int × Unit → Hp → Prop) (K : Value → Hp → Prop) : Prop :=
  sx_2 Try.prog F 159 (cp [1, 1, 1, 1, 1, 1, 1, 1, 1, 0, 1, 2, 2, 1, 1, 1] (bodyOf Try.f6)) (ap [1, 1, 1, 1, 1, 1, 1, 1, 1, 0, 1, 2, 1, 1, 1] l31_RangetreeNil_an) [(0, .int .u16 x), (1, .int .u16 y), (14, .slice l lL lC), (100, .int .i64 t100)] h (l31_RangetreeNil_K3 nx0 K)
def l31_RangetreeNil_b4 (x : Int) (y : Int) (l : Option Addr) (lL : Nat) (lC : Nat) (h : Hp)  (K : Value → Hp → Prop) : Prop :=
  sx_3 Try.prog F 159 (cp [1, 1, 1, 1, 1, 1, 1, 1, 1, 1] (bodyOf Try.f6)) (ap [1, 1, 1, 1, 1, 1, 1, 1, 1, 1] l31_RangetreeNil_an) [(0, .int .u16 x), (1, .int .u16 y), (14, .slice l lL lC)] h (l31_RangetreeNil_K0  K)
def l31_RangetreeNil_b5 (x : Int) (y : Int) (t : Option Addr) (h : Hp)  (K : Value → Hp → Prop) : Prop :=
  sx_2 Try.prog F 159 (cp [1, 1, 1, 1, 1, 1, 1, 1, 1, 1, 1, 1] (bodyOf Try.f6)) (ap [1, 1, 1, 1, 1, 1, 1, 1, 1, 1, 1, 1] l31_RangetreeNil_an) [(0, .int .u16 x), (1, .int .u16 y), (5, .pointer t)] h (l31_RangetreeNil_K0  K)
def l31_RangetreeNil_b6 (t : Option Addr) (p : Option Addr) (want : Int) (h : Hp)  (K : Value → Hp → Prop) : Prop :=
  sx_1 Try.prog F 159 (cp [1, 1, 1, 1, 1, 1, 1, 1, 1, 1, 1, 1, 1, 1, 1] (bodyOf Try.f6)) (ap [1, 1, 1, 1, 1, 1, 1, 1, 1, 1, 1, 1, 1, 1, 1] l31_RangetreeNil_an) [(5, .pointer t), (16, .pointer p), (17, .int .i64 want)] h (l31_RangetreeNil_K0  K)
theorem l31_RangetreeNil_b0_eq (x : Int) (y : Int) (h : Hp)  (K : Value → Hp → Prop) : l31_RangetreeNil_b0 x y h  K = (
  HCalls Try.prog 9 #[] h fun v1 h1 => ∃ r1 : Bool, v1 = .bool r1 ∧
  cond (!r1)
  (K (.bool false) h1)
  (HCalls Try.prog 16 #[.pointer none, .int .i64 0, .int .i64 1, .int .i64 0, .int .i64 1] h1 fun v2 h2 => ∃ r2 : Int, ∃ r3 : Int, v2 = .tuple #[.int .i64 r2, .int .i64 r3] ∧
  HCalls Try.prog 20 #[.pointer none, .int .i64 0, .int .i64 1, .int .i64 0, .int .i64 1] h2 fun v3 h3 => ∃ r4 : Int, ∃ r5 : Int, v3 = .tuple #[.int .i64 r4, .int .i64 r5] ∧
  HCalls Try.prog 19 #[.pointer none, .int .i64 0, .int .i64 1, .int .i64 0, .int .i64 1] h3 fun v4 h4 => ∃ (r6 : Option Addr) (rL1 rC1 : Nat), ∃ r7 : Int, v4 = .tuple #[.slice r6 rL1 rC1, .int .i64 r7] ∧
  HCalls Try.prog 22 #[.pointer none, .int .i64 0, .int .i64 0, .int .i64 1] h4 fun v5 h5 => ∃ r8 : Int, ∃ r9 : Int, ∃ r10 : Int, ∃ r11 : Int, v5 = .tuple #[.agg #[.int .i64 r8, .int .i64 r9, .int .i64 r10], .int .i64 r11] ∧
  New h5 (.cells #[.int .i64 0, .int .i64 0, .int .i64 0] 33) fun b1 h6 =>
  Wr h6 ⟨b1, 0, none⟩ (.int .i64 r8) fun h7 =>
  Wr h7 ((⟨b1, 0, none⟩ : Addr).add 1) (.int .i64 r9) fun h8 =>
  Wr h8 ((⟨b1, 0, none⟩ : Addr).add 2) (.int .i64 r10) fun h9 =>
  HCalls Try.prog 14 #[.pointer none, .agg #[.int .i64 0, .int .i64 0, .int .i64 0]] h9 fun v6 h10 => ∃ r12 : Int, v6 = .int .i64 r12 ∧
  cond (!decide (r12 = 1))
  (K (.bool false) h10)
  (HCalls Try.prog 13 #[.pointer none, .int .i64 0, .int .i64 0] h10 fun v7 h11 => ∃ r13 : Int, v7 = .int .i64 r13 ∧
  cond (!decide (r13 = 1))
  (K (.bool false) h11)
  (cond (!decide (r2 = 0))
  (K (.bool false) h11)
  (cond (!decide (r3 = 1))
  (K (.bool false) h11)
  (cond (!decide (r4 = 0))
  (K (.bool false) h11)
  (cond (!decide (r5 = 1))
  (K (.bool false) h11)
  (cond (!decide ((rL1 : Int) = 0))
  (K (.bool false) h11)
  (cond (!decide (r7 = 1))
  (K (.bool false) h11)
  (∃ n1 : Int, ∃ n2 : Int, ∃ n3 : Int, cell h11 ⟨b1, 0, none⟩ = some (.int .i64 n1) ∧
  cell h11 ((⟨b1, 0, none⟩ : Addr).add 1) = some (.int .i64 n2) ∧
  cell h11 ((⟨b1, 0, none⟩ : Addr).add 2) = some (.int .i64 n3) ∧
  ∃ b2 : Bool, eqC Try.prog .neq 33 (.tmp 76) (.tmp 77) (.agg #[.int .i64 n1, .int .i64 n2, .int .i64 n3]) (.agg #[.int .i64 0, .int .i64 0, .int .i64 0]) h11 b2 ∧
  cond b2
  (K (.bool false) h11)
  (cond (!decide (r11 = 1))
  (K (.bool false) h11)
  (HCalls Try.prog 17 #[.pointer none] h11 fun v8 h12 => ∃ r14 : Int, v8 = .int .i64 r14 ∧
  cond (!decide (r14 = 0))
  (K (.bool false) h12)
  (HCalls Try.prog 15 #[.pointer none] h12 fun v9 h13 => ∃ (r15 : Option Addr) (rL2 rC2 : Nat), v9 = .slice r15 rL2 rC2 ∧
  cond (!decide ((rL2 : Int) = 0))
  (K (.bool false) h13)
  (HCalls Try.prog 11 #[.pointer none] h13 fun v10 h14 => ∃ r16 : Int, v10 = .int .i64 r16 ∧
  cond (!decide (r16 = 0))
  (K (.bool false) h14)
  (l31_RangetreeNil_b1 x y h14  K))))))))))))))) := by kernel_rfl
theorem l31_RangetreeNil_b1_eq (x : Int) (y : Int) (h : Hp)  (K : Value → Hp → Prop) : l31_RangetreeNil_b1 x y h  K = (
  LoopVC (((none, 0, 0), 0, ()) : (Option Addr × Nat × Nat) × Int × Unit) h (fun (nx0 : (Option Addr × Nat × Nat) × Int × Unit → Hp → Prop) (s1 : (Option Addr × Nat × Nat) × Int × Unit) h15 => l31_RangetreeNil_b2 s1.1.1 s1.1.2.1 s1.1.2.2 s1.2.1 x y h15 nx0 K)) := by kernel_rfl
theorem l31_RangetreeNil_b2_eq (l : Option Addr) (lL : Nat) (lC : Nat) (t100 : Int) (x : Int) (y : Int) (h : Hp) (nx0 : (Option Addr × Nat × Nat) × Int × Unit → Hp → Prop) (K : Value → Hp → Prop) : l31_RangetreeNil_b2 l lL lC t100 x y h nx0 K = (
  cond (decide (t100 < 1000))
  (∃ r17 : Int, Sx.Rem t100 50 r17 ∧
  ∃ q1 : Int, Sx.Quo .i64 t100 50 q1 ∧
  New h (.cells #[.int .i64 r17, .int .i64 q1, .int .i64 1] 33) fun b3 h16 =>
  appendV Try.prog 22 22 (.slice l lL lC) (.slice (some ⟨b3, 0, none⟩) 1 1) h16 (slK fun a1 l1 c1 h17 =>
  l31_RangetreeNil_b3 x y a1 l1 c1 t100 h17 nx0 K))
  (l31_RangetreeNil_b4 x y l lL lC h  K)) := by kernel_rfl
theorem l31_RangetreeNil_b3_eq (x : Int) (y : Int) (l : Option Addr) (lL : Nat) (lC : Nat) (t100 : Int) (h : Hp) (nx0 : (Option Addr × Nat × Nat) × Int × Unit → Hp → Prop) (K : Value → Hp → Prop) : l31_RangetreeNil_b3 x y l lL lC t100 h nx0 K = (
  InR (t100 + 1) ∧
  nx0 ((l, lL, lC), t100 + 1, ()) h) := by kernel_rfl
theorem l31_RangetreeNil_b4_eq (x : Int) (y : Int) (l : Option Addr) (lL : Nat) (lC : Nat) (h : Hp)  (K : Value → Hp → Prop) : l31_RangetreeNil_b4 x y l lL lC h  K = (
  HCalls Try.prog 10 #[.slice l lL lC] h fun v11 h18 => ∃ r18 : Option Addr, ∃ r19 : Int, v11 = .tuple #[.pointer r18, .int .i64 r19] ∧
  cond r18.isNone
  (K (.bool false) h18)
  (cond (!decide (r19 = 0))
  (K (.bool false) h18)
  (l31_RangetreeNil_b5 x y r18 h18  K))) := by kernel_rfl
theorem l31_RangetreeNil_b5_eq (x : Int) (y : Int) (t : Option Addr) (h : Hp)  (K : Value → Hp → Prop) : l31_RangetreeNil_b5 x y t h  K = (
  InR x ∧
  InR y ∧
  New h (.cells #[.int .i64 0, .int .i64 0, .int .i64 0] 33) fun b4 h19 =>
  Wr h19 ⟨b4, 0, none⟩ (.int .i64 x) fun h20 =>
  Wr h20 ((⟨b4, 0, none⟩ : Addr).add 1) (.int .i64 y) fun h21 =>
  Wr h21 ((⟨b4, 0, none⟩ : Addr).add 2) (.int .i64 0) fun h22 =>
  ∃ n4 : Int, cell h22 ⟨b4, 0, none⟩ = some (.int .i64 n4) ∧
  cond (decide (n4 < 50))
  (∃ n5 : Int, cell h22 ((⟨b4, 0, none⟩ : Addr).add 1) = some (.int .i64 n5) ∧
  cond (decide (n5 < 20))
  (l31_RangetreeNil_b6 t (some ⟨b4, 0, none⟩) 15 h22  K)
  (l31_RangetreeNil_b6 t (some ⟨b4, 0, none⟩) 4 h22  K))
  (l31_RangetreeNil_b6 t (some ⟨b4, 0, none⟩) 4 h22  K)) := by kernel_rfl
theorem l31_RangetreeNil_b6_eq (t : Option Addr) (p : Option Addr) (want : Int) (h : Hp)  (K : Value → Hp → Prop) : l31_RangetreeNil_b6 t p want h  K = (
  HCalls Try.prog 16 #[.pointer t, .int .i64 0, .int .i64 49, .int .i64 0, .int .i64 9] h fun v12 h23 => ∃ r20 : Int, ∃ r21 : Int, v12 = .tuple #[.int .i64 r20, .int .i64 r21] ∧
  NN p fun a2 =>
  ∃ n6 : Int, ∃ n7 : Int, ∃ n8 : Int, cell h23 a2 = some (.int .i64 n6) ∧
  cell h23 (a2.add 1) = some (.int .i64 n7) ∧
  cell h23 (a2.add 2) = some (.int .i64 n8) ∧
  HCalls Try.prog 14 #[.pointer t, .agg #[.int .i64 n6, .int .i64 n7, .int .i64 n8]] h23 fun v13 h24 => ∃ r22 : Int, v13 = .int .i64 r22 ∧
  cond (decide (r22 = want))
  (cond (decide (r21 = 0))
  (cond (decide (r20 = 500))
  (HCalls Try.prog 17 #[.pointer t] h24 fun v14 h25 => ∃ r23 : Int, v14 = .int .i64 r23 ∧
  K (.bool (decide (r23 = 1000))) h25)
  (K (.bool false) h24))
  (K (.bool false) h24))
  (K (.bool false) h24)) := by kernel_rfl
theorem l31_RangetreeNil_call {x : Int} {y : Int} {h : Hp} {K : Value → Hp → Prop} (hk : l31_RangetreeNil_b0 x y h K) : HCalls Try.prog 6 #[.int .u16 x, .int .u16 y] h K :=
  calls_of_snd l31_RangetreeNil_an Try.func6 (c := bodyOf Try.f6) rfl Try.ntmps6 (Nat.le_of_ble_eq_true rfl) (snd_5 F_ok F_mixed) hk

/-! ### l31_RangetreePlays -/
/-! ### l31_RangetreeSums -/
/-! ### l31_awake -/
def l31_awake_an : Ann := .node none (.leaf) (.node none (.leaf) (.node (some [1]) (.leaf) (.leaf)))
def l31_awake_K0  (K : Value → Hp → Prop) : Exit → Env → Hp → Prop := retK Try.prog Try.f9.results.toList K
def l31_awake_b0  (h : Hp)  (K : Value → Hp → Prop) : Prop :=
  sx_2 Try.prog F 66 (cp [] (bodyOf Try.f9)) (ap [] l31_awake_an) [] h (l31_awake_K0  K)
def l31_awake_b1 (t : Option Addr) (h : Hp)  (K : Value → Hp → Prop) : Prop :=
  sx_1 Try.prog F 66 (cp [1, 1, 1] (bodyOf Try.f9)) (ap [1, 1, 1] l31_awake_an) [(1, .pointer t)] h (l31_awake_K0  K)
theorem l31_awake_b0_eq  (h : Hp)  (K : Value → Hp → Prop) : l31_awake_b0  h  K = (
  New h (.cells #[.int .i64 3, .int .i64 7, .int .i64 (-1), .int .i64 1, .int .i64 5, .int .i64 2, .int .i64 3, .int .i64 1, .int .i64 4] 33) fun b1 h1 =>
  HCalls Try.prog 10 #[.slice (some ⟨b1, 0, none⟩) 3 3] h1 fun v1 h2 => ∃ r1 : Option Addr, ∃ r2 : Int, v1 = .tuple #[.pointer r1, .int .i64 r2] ∧
  cond (!decide (r2 = 0))
  (K (.bool false) h2)
  (cond r1.isNone
  (K (.bool false) h2)
  (l31_awake_b1 r1 h2  K))) := by kernel_rfl
theorem l31_awake_b1_eq (t : Option Addr) (h : Hp)  (K : Value → Hp → Prop) : l31_awake_b1 t h  K = (
  HCalls Try.prog 16 #[.pointer t, .int .i64 1, .int .i64 3, .int .i64 1, .int .i64 5] h fun v2 h3 => ∃ r3 : Int, ∃ r4 : Int, v2 = .tuple #[.int .i64 r3, .int .i64 r4] ∧
  HCalls Try.prog 20 #[.pointer t, .int .i64 0, .int .i64 9, .int .i64 0, .int .i64 9] h3 fun v3 h4 => ∃ r5 : Int, ∃ r6 : Int, v3 = .tuple #[.int .i64 r5, .int .i64 r6] ∧
  HCalls Try.prog 22 #[.pointer t, .int .i64 2, .int .i64 2, .int .i64 9] h4 fun v4 h5 => ∃ r7 : Int, ∃ r8 : Int, ∃ r9 : Int, ∃ r10 : Int, v4 = .tuple #[.agg #[.int .i64 r7, .int .i64 r8, .int .i64 r9], .int .i64 r10] ∧
  New h5 (.cells #[.int .i64 0, .int .i64 0, .int .i64 0] 33) fun b2 h6 =>
  Wr h6 ⟨b2, 0, none⟩ (.int .i64 r7) fun h7 =>
  Wr h7 ((⟨b2, 0, none⟩ : Addr).add 1) (.int .i64 r8) fun h8 =>
  Wr h8 ((⟨b2, 0, none⟩ : Addr).add 2) (.int .i64 r9) fun h9 =>
  HCalls Try.prog 17 #[.pointer t] h9 fun v5 h10 => ∃ r11 : Int, v5 = .int .i64 r11 ∧
  cond (decide (r11 = 3))
  (cond (decide (r3 = 2))
  (cond (decide (r4 = 0))
  (cond (decide (r5 = 5))
  (cond (decide (r6 = 0))
  (∃ n1 : Int, ∃ n2 : Int, ∃ n3 : Int, cell h10 ⟨b2, 0, none⟩ = some (.int .i64 n1) ∧
  cell h10 ((⟨b2, 0, none⟩ : Addr).add 1) = some (.int .i64 n2) ∧
  cell h10 ((⟨b2, 0, none⟩ : Addr).add 2) = some (.int .i64 n3) ∧
  ∃ b3 : Bool, eqC Try.prog .eql 33 (.tmp 58) (.tmp 59) (.agg #[.int .i64 n1, .int .i64 n2, .int .i64 n3]) (.agg #[.int .i64 3, .int .i64 7, .int .i64 (-1)]) h10 b3 ∧
  cond b3
  (K (.bool (decide (r10 = 0))) h10)
  (K (.bool false) h10))
  (K (.bool false) h10))
  (K (.bool false) h10))
  (K (.bool false) h10))
  (K (.bool false) h10))
  (K (.bool false) h10)) := by kernel_rfl
theorem l31_awake_call  {h : Hp} {K : Value → Hp → Prop} (hk : l31_awake_b0  h K) : HCalls Try.prog 9 #[] h K :=
  calls_of_snd l31_awake_an Try.func9 (c := bodyOf Try.f9) rfl Try.ntmps9 (Nat.le_of_ble_eq_true rfl) (snd_2 F_ok F_mixed) hk

/-! ### rangetree_Make -/
def rangetree_Make_an : Ann := .node none (.leaf) (.node none (.leaf) (.node none (.leaf) (.node (some [0, 4]) (.node none (.leaf) (.loop [0, 4, 12, 13] [(14, .int .i64)] (.node none (.leaf) (.node none (.leaf) (.node (some [0, 4, 12, 13, 14]) (.node none (.leaf) (.tail 11)) (.leaf)))))) (.node (some [4]) (.leaf) (.leaf)))))
def rangetree_Make_K0  (K : Value → Hp → Prop) : Exit → Env → Hp → Prop := retK Try.prog Try.f10.results.toList K
def rangetree_Make_K1  (K : Value → Hp → Prop) : Exit → Env → Hp → Prop := thenE (fun env h => sx_2 Try.prog F 46 (cp [1, 1, 1, 1] (bodyOf Try.f10)) (ap [1, 1, 1, 1] rangetree_Make_an) (rs [0, 4] env) h (rangetree_Make_K0  K)) (rangetree_Make_K0  K)
def rangetree_Make_K2  (K : Value → Hp → Prop) : Exit → Env → Hp → Prop := blockE 0 (rangetree_Make_K1  K)
def rangetree_Make_K3 (nx0 : Int × Unit → Hp → Prop) (K : Value → Hp → Prop) : Exit → Env → Hp → Prop := thenE (fun env h => getV [(14, .int .i64)] env fun s => nx0 s h) (rangetree_Make_K2  K)
def rangetree_Make_b0 (l : Option Addr) (lL : Nat) (lC : Nat) (h : Hp)  (K : Value → Hp → Prop) : Prop :=
  sx_3 Try.prog F 46 (cp [] (bodyOf Try.f10)) (ap [] rangetree_Make_an) [(0, .slice l lL lC)] h (rangetree_Make_K0  K)
def rangetree_Make_b1 (t14 : Int) (l : Option Addr) (lL : Nat) (lC : Nat) (t : Option Addr) (t12 : Option Addr) (t12L : Nat) (t12C : Nat) (t13 : Int) (h : Hp) (nx0 : Int × Unit → Hp → Prop) (K : Value → Hp → Prop) : Prop :=
  sx_2 Try.prog F 46 (cp [1, 1, 1, 0, 1, 2, 2] (bodyOf Try.f10)) (ap [1, 1, 1, 0, 1, 2] rangetree_Make_an) [(14, .int .i64 t14), (0, .slice l lL lC), (4, .pointer t), (12, .slice t12 t12L t12C), (13, .int .i64 t13)] h (rangetree_Make_K3 nx0 K)
def rangetree_Make_b2 (l : Option Addr) (lL : Nat) (lC : Nat) (t : Option Addr) (t12 : Option Addr) (t12L : Nat) (t12C : Nat) (t13 : Int) (t14 : Int) (h : Hp) (nx0 : Int × Unit → Hp → Prop) (K : Value → Hp → Prop) : Prop :=
  sx_1 Try.prog F 46 (cp [1, 1, 1, 0, 1, 2, 2, 1, 1, 1] (bodyOf Try.f10)) (ap [1, 1, 1, 0, 1, 2, 1, 1, 1] rangetree_Make_an) [(0, .slice l lL lC), (4, .pointer t), (12, .slice t12 t12L t12C), (13, .int .i64 t13), (14, .int .i64 t14)] h (rangetree_Make_K3 nx0 K)
def rangetree_Make_b3 (l : Option Addr) (lL : Nat) (lC : Nat) (t : Option Addr) (h : Hp)  (K : Value → Hp → Prop) : Prop :=
  sx_2 Try.prog F 46 (cp [1, 1, 1, 1] (bodyOf Try.f10)) (ap [1, 1, 1, 1] rangetree_Make_an) [(0, .slice l lL lC), (4, .pointer t)] h (rangetree_Make_K0  K)
def rangetree_Make_b4 (t : Option Addr) (h : Hp)  (K : Value → Hp → Prop) : Prop :=
  sx_1 Try.prog F 46 (cp [1, 1, 1, 1, 1] (bodyOf Try.f10)) (ap [1, 1, 1, 1, 1] rangetree_Make_an) [(4, .pointer t)] h (rangetree_Make_K0  K)
theorem rangetree_Make_b0_eq (l : Option Addr) (lL : Nat) (lC : Nat) (h : Hp)  (K : Value → Hp → Prop) : rangetree_Make_b0 l lL lC h  K = (
  HCalls Try.prog 26 #[.slice l lL lC, .func (.func 27) #[] #[]] h fun v1 h1 => ∃ r1 : Bool, v1 = .bool r1 ∧
  cond r1
  (K (.tuple #[.pointer none, .int .i64 1]) h1)
  (New h1 (.map #[] 0) fun b1 h2 =>
  New h2 (.cells #[.map (some b1), .slice none 0 0, .slice none 0 0, .int .i64 0, .int .i64 0] 68) fun b2 h3 =>
  LoopVC ((0, ()) : Int × Unit) h3 (fun (nx0 : Int × Unit → Hp → Prop) (s1 : Int × Unit) h4 => rangetree_Make_b1 s1.1 l lL lC (some ⟨b2, 0, none⟩) l lL lC (lL : Int) h4 nx0 K))) := by kernel_rfl
theorem rangetree_Make_b1_eq (t14 : Int) (l : Option Addr) (lL : Nat) (lC : Nat) (t : Option Addr) (t12 : Option Addr) (t12L : Nat) (t12C : Nat) (t13 : Int) (h : Hp) (nx0 : Int × Unit → Hp → Prop) (K : Value → Hp → Prop) : rangetree_Make_b1 t14 l lL lC t t12 t12L t12C t13 h nx0 K = (
  cond (decide (t14 < t13))
  ((0 ≤ t14 ∧ t14 < (t12L : Int)) ∧
  NN t12 fun a1 =>
  ∃ n1 : Int, ∃ n2 : Int, ∃ n3 : Int, cell h (a1.add (Int.toNat t14 * 3)) = some (.int .i64 n1) ∧
  cell h ((a1.add (Int.toNat t14 * 3)).add 1) = some (.int .i64 n2) ∧
  cell h ((a1.add (Int.toNat t14 * 3)).add 2) = some (.int .i64 n3) ∧
  New h (.cells #[.int .i64 0, .int .i64 0, .int .i64 0] 33) fun b3 h5 =>
  Wr h5 ⟨b3, 0, none⟩ (.int .i64 n1) fun h6 =>
  Wr h6 ((⟨b3, 0, none⟩ : Addr).add 1) (.int .i64 n2) fun h7 =>
  Wr h7 ((⟨b3, 0, none⟩ : Addr).add 2) (.int .i64 n3) fun h8 =>
  NN t fun a2 =>
  ∃ v2 : Value, cell h8 a2 = some (v2) ∧
  ∃ n4 : Int, cell h8 ⟨b3, 0, none⟩ = some (.int .i64 n4) ∧
  ∃ n5 : Int, cell h8 ((⟨b3, 0, none⟩ : Addr).add 1) = some (.int .i64 n5) ∧
  ∃ n6 : Int, cell h8 ((⟨b3, 0, none⟩ : Addr).add 2) = some (.int .i64 n6) ∧
  mapSetV Try.prog 65 v2 (.agg #[.int .i64 n4, .int .i64 n5]) (.int .i64 n6) h8 fun h9 =>
  rangetree_Make_b2 l lL lC t t12 t12L t12C t13 t14 h9 nx0 K)
  (rangetree_Make_b3 l lL lC t h  K)) := by kernel_rfl
theorem rangetree_Make_b2_eq (l : Option Addr) (lL : Nat) (lC : Nat) (t : Option Addr) (t12 : Option Addr) (t12L : Nat) (t12C : Nat) (t13 : Int) (t14 : Int) (h : Hp) (nx0 : Int × Unit → Hp → Prop) (K : Value → Hp → Prop) : rangetree_Make_b2 l lL lC t t12 t12L t12C t13 t14 h nx0 K = (
  InR (t14 + 1) ∧
  nx0 (t14 + 1, ()) h) := by kernel_rfl
theorem rangetree_Make_b3_eq (l : Option Addr) (lL : Nat) (lC : Nat) (t : Option Addr) (h : Hp)  (K : Value → Hp → Prop) : rangetree_Make_b3 l lL lC t h  K = (
  NN t fun a3 =>
  ∃ v3 : Value, cell h a3 = some (v3) ∧
  mapLenV v3 h fun n7 =>
  cond (decide (n7 < (lL : Int)))
  (K (.tuple #[.pointer none, .int .i64 10]) h)
  (cond (decide ((1000 : Int) < (lL : Int)))
  (K (.tuple #[.pointer none, .int .i64 4]) h)
  (rangetree_Make_b4 t h  K))) := by kernel_rfl
theorem rangetree_Make_b4_eq (t : Option Addr) (h : Hp)  (K : Value → Hp → Prop) : rangetree_Make_b4 t h  K = (
  HCalls Try.prog 29 #[.pointer t] h fun v4 h10 => v4 = .tuple #[] ∧
  K (.tuple #[.pointer t, .int .i64 0]) h10) := by kernel_rfl
theorem rangetree_Make_call {l : Option Addr} {lL : Nat} {lC : Nat} {h : Hp} {K : Value → Hp → Prop} (hk : rangetree_Make_b0 l lL lC h K) : HCalls Try.prog 10 #[.slice l lL lC] h K :=
  calls_of_snd rangetree_Make_an Try.func10 (c := bodyOf Try.f10) rfl Try.ntmps10 (Nat.le_of_ble_eq_true rfl) (snd_3 F_ok F_mixed) hk

/-! ### rangetree_Tree_Built -/
def rangetree_Tree_Built_an : Ann := .leaf
def rangetree_Tree_Built_K0  (K : Value → Hp → Prop) : Exit → Env → Hp → Prop := retK Try.prog Try.f11.results.toList K
def rangetree_Tree_Built_b0 (t : Option Addr) (h : Hp)  (K : Value → Hp → Prop) : Prop :=
  sx_1 Try.prog F 9 (cp [] (bodyOf Try.f11)) (ap [] rangetree_Tree_Built_an) [(0, .pointer t)] h (rangetree_Tree_Built_K0  K)
theorem rangetree_Tree_Built_b0_eq (t : Option Addr) (h : Hp)  (K : Value → Hp → Prop) : rangetree_Tree_Built_b0 t h  K = (
  cond t.isNone
  (K (.int .i64 0) h)
  (NN t fun a1 =>
  ∃ n1 : Int, cell h (a1.add 4) = some (.int .i64 n1) ∧
  K (.int .i64 n1) h)) := by kernel_rfl
theorem rangetree_Tree_Built_call {t : Option Addr} {h : Hp} {K : Value → Hp → Prop} (hk : rangetree_Tree_Built_b0 t h K) : HCalls Try.prog 11 #[.pointer t] h K :=
  calls_of_snd rangetree_Tree_Built_an Try.func11 (c := bodyOf Try.f11) rfl Try.ntmps11 (Nat.le_of_ble_eq_true rfl) (snd_1 F_ok F_mixed) hk

/-! ### r31_Bound -/
/-! ### rangetree_Tree_Remove -/
def rangetree_Tree_Remove_an : Ann := .node none (.leaf) (.node none (.leaf) (.node none (.leaf) (.node none (.leaf) (.node none (.leaf) (.node none (.leaf) (.node (some []) (.leaf) (.leaf)))))))
def rangetree_Tree_Remove_K0  (K : Value → Hp → Prop) : Exit → Env → Hp → Prop := retK Try.prog Try.f13.results.toList K
def rangetree_Tree_Remove_b0 (t : Option Addr) (x : Int) (y : Int) (h : Hp)  (K : Value → Hp → Prop) : Prop :=
  sx_2 Try.prog F 57 (cp [] (bodyOf Try.f13)) (ap [] rangetree_Tree_Remove_an) [(0, .pointer t), (1, .int .i64 x), (2, .int .i64 y)] h (rangetree_Tree_Remove_K0  K)
def rangetree_Tree_Remove_b1  (h : Hp)  (K : Value → Hp → Prop) : Prop :=
  sx_1 Try.prog F 57 (cp [1, 1, 1, 1, 1, 1, 1] (bodyOf Try.f13)) (ap [1, 1, 1, 1, 1, 1, 1] rangetree_Tree_Remove_an) [] h (rangetree_Tree_Remove_K0  K)
theorem rangetree_Tree_Remove_b0_eq (t : Option Addr) (x : Int) (y : Int) (h : Hp)  (K : Value → Hp → Prop) : rangetree_Tree_Remove_b0 t x y h  K = (
  cond t.isNone
  (K (.int .i64 1) h)
  (NN t fun a1 =>
  ∃ v1 : Value, cell h a1 = some (v1) ∧
  lookV Try.prog 65 v1 (.agg #[.int .i64 x, .int .i64 y]) true h fun v2 => ∃ r1 : Int, ∃ r2 : Bool, v2 = .tuple #[.int .i64 r1, .bool r2] ∧
  cond (!r2)
  (K (.int .i64 12) h)
  (NN t fun a2 =>
  ∃ v3 : Value, cell h a2 = some (v3) ∧
  mapDelV Try.prog 65 v3 (.agg #[.int .i64 x, .int .i64 y]) h fun h1 =>
  NN t fun a3 =>
  ∃ (a4 : Option Addr) (L1 C1 : Nat), cell h1 (a3.add 2) = some (.slice a4 L1 C1) ∧
  New h1 (.cells #[.int .i64 x, .int .i64 y, .int .i64 r1] 33) fun b1 h2 =>
  appendV Try.prog 22 22 (.slice a4 L1 C1) (.slice (some ⟨b1, 0, none⟩) 1 1) h2 (slK fun a5 l1 c1 h3 =>
  NN t fun a6 =>
  Wr h3 (a6.add 2) (.slice a5 l1 c1) fun h4 =>
  NN t fun a7 =>
  ∃ (a8 : Option Addr) (L2 C2 : Nat), cell h4 (a7.add 2) = some (.slice a8 L2 C2) ∧
  InR (2 * (L2 : Int)) ∧
  NN t fun a9 =>
  ∃ n1 : Int, cell h4 (a9.add 3) = some (.int .i64 n1) ∧
  cond (decide (n1 ≤ (2 * (L2 : Int))))
  (HCalls Try.prog 29 #[.pointer t] h4 fun v4 h5 => v4 = .tuple #[] ∧
  rangetree_Tree_Remove_b1  h5  K)
  (rangetree_Tree_Remove_b1  h4  K))))) := by kernel_rfl
theorem rangetree_Tree_Remove_call {t : Option Addr} {x : Int} {y : Int} {h : Hp} {K : Value → Hp → Prop} (hk : rangetree_Tree_Remove_b0 t x y h K) : HCalls Try.prog 13 #[.pointer t, .int .i64 x, .int .i64 y] h K :=
  calls_of_snd rangetree_Tree_Remove_an Try.func13 (c := bodyOf Try.f13) rfl Try.ntmps13 (Nat.le_of_ble_eq_true rfl) (snd_2 F_ok F_mixed) hk

/-! ### rangetree_Tree_Add -/
def rangetree_Tree_Add_an : Ann := .node none (.leaf) (.node (some [0, 3]) (.leaf) (.node none (.leaf) (.node none (.node none (.plan (.qu 0 (.qu 1 (.qu 2 (.qu 3 (.qu 4 (.wo 5 (.qu 6 (.qu 7 (.qu 8 (.wo 9 (.wo 10 .fin .no) .no)))) .no))))))) (.leaf)) (.node none (.leaf) (.node none (.tail 7) (.node none (.leaf) (.node (some [0, 8]) (.node none (.leaf) (.loop [0] [(8, .slice), (9, .int .i64)] (.node (some [0, 8, 9]) (.leaf) (.node (some [0, 8, 9]) (.node none (.leaf) (.node none (.tail 19) (.leaf))) (.leaf))))) (.leaf))))))))
def rangetree_Tree_Add_K0  (K : Value → Hp → Prop) : Exit → Env → Hp → Prop := retK Try.prog Try.f14.results.toList K
def rangetree_Tree_Add_K1  (K : Value → Hp → Prop) : Exit → Env → Hp → Prop := thenE (fun env h => sx_3 Try.prog F 118 (cp [1, 1, 1, 1, 1, 1, 1, 1] (bodyOf Try.f14)) (ap [1, 1, 1, 1, 1, 1, 1, 1] rangetree_Tree_Add_an) (rs [0, 8] env) h (rangetree_Tree_Add_K0  K)) (rangetree_Tree_Add_K0  K)
def rangetree_Tree_Add_K2  (K : Value → Hp → Prop) : Exit → Env → Hp → Prop := blockE 0 (rangetree_Tree_Add_K1  K)
def rangetree_Tree_Add_K3 (nx0 : (Option Addr × Nat × Nat) × Int × Unit → Hp → Prop) (K : Value → Hp → Prop) : Exit → Env → Hp → Prop := thenE (fun env h => getV [(8, .slice), (9, .int .i64)] env fun s => nx0 s h) (rangetree_Tree_Add_K2  K)
def rangetree_Tree_Add_b0 (t : Option Addr) (p_0 : Int) (p_1 : Int) (p_2 : Int) (h : Hp)  (K : Value → Hp → Prop) : Prop :=
  sx_5 Try.prog F 118 (cp [] (bodyOf Try.f14)) (ap [] rangetree_Tree_Add_an) [(0, .pointer t), (1, .agg #[.int .i64 p_0, .int .i64 p_1, .int .i64 p_2])] h (rangetree_Tree_Add_K0  K)
def rangetree_Tree_Add_b1 (t : Option Addr) (p : Option Addr) (h : Hp)  (K : Value → Hp → Prop) : Prop :=
  sx_4 Try.prog F 118 (cp [1, 1] (bodyOf Try.f14)) (ap [1, 1] rangetree_Tree_Add_an) [(0, .pointer t), (3, .pointer p)] h (rangetree_Tree_Add_K0  K)
def rangetree_Tree_Add_b2 (l : Option Addr) (lL : Nat) (lC : Nat) (nv : Int) (t : Option Addr) (h : Hp) (nx0 : (Option Addr × Nat × Nat) × Int × Unit → Hp → Prop) (K : Value → Hp → Prop) : Prop :=
  sx_3 Try.prog F 118 (cp [1, 1, 1, 1, 1, 1, 1, 0, 1, 2, 2] (bodyOf Try.f14)) (ap [1, 1, 1, 1, 1, 1, 1, 0, 1, 2] rangetree_Tree_Add_an) [(8, .slice l lL lC), (9, .int .i64 nv), (0, .pointer t)] h (rangetree_Tree_Add_K3 nx0 K)
def rangetree_Tree_Add_b3 (t : Option Addr) (l : Option Addr) (lL : Nat) (lC : Nat) (nv : Int) (h : Hp) (nx0 : (Option Addr × Nat × Nat) × Int × Unit → Hp → Prop) (K : Value → Hp → Prop) : Prop :=
  sx_2 Try.prog F 118 (cp [1, 1, 1, 1, 1, 1, 1, 0, 1, 2, 2, 1] (bodyOf Try.f14)) (ap [1, 1, 1, 1, 1, 1, 1, 0, 1, 2, 1] rangetree_Tree_Add_an) [(0, .pointer t), (8, .slice l lL lC), (9, .int .i64 nv)] h (rangetree_Tree_Add_K3 nx0 K)
def rangetree_Tree_Add_b4 (t : Option Addr) (l : Option Addr) (lL : Nat) (lC : Nat) (h : Hp)  (K : Value → Hp → Prop) : Prop :=
  sx_3 Try.prog F 118 (cp [1, 1, 1, 1, 1, 1, 1, 1] (bodyOf Try.f14)) (ap [1, 1, 1, 1, 1, 1, 1, 1] rangetree_Tree_Add_an) [(0, .pointer t), (8, .slice l lL lC)] h (rangetree_Tree_Add_K0  K)
def rangetree_Tree_Add_b5 (t : Option Addr) (l : Option Addr) (lL : Nat) (lC : Nat) (nv : Int) (h : Hp) (nx0 : (Option Addr × Nat × Nat) × Int × Unit → Hp → Prop) (K : Value → Hp → Prop) : Prop :=
  sx_1 Try.prog F 118 (cp [1, 1, 1, 1, 1, 1, 1, 0, 1, 2, 2, 1, 1] (bodyOf Try.f14)) (ap [1, 1, 1, 1, 1, 1, 1, 0, 1, 2, 1, 1] rangetree_Tree_Add_an) [(0, .pointer t), (8, .slice l lL lC), (9, .int .i64 nv)] h (rangetree_Tree_Add_K3 nx0 K)
theorem rangetree_Tree_Add_b0_eq (t : Option Addr) (p_0 : Int) (p_1 : Int) (p_2 : Int) (h : Hp)  (K : Value → Hp → Prop) : rangetree_Tree_Add_b0 t p_0 p_1 p_2 h  K = (
  New h (.cells #[.int .i64 p_0, .int .i64 p_1, .int .i64 p_2] 33) fun b1 h1 =>
  cond t.isNone
  (K (.int .i64 1) h1)
  (∃ n1 : Int, ∃ n2 : Int, ∃ n3 : Int, cell h1 ⟨b1, 0, none⟩ = some (.int .i64 n1) ∧
  cell h1 ((⟨b1, 0, none⟩ : Addr).add 1) = some (.int .i64 n2) ∧
  cell h1 ((⟨b1, 0, none⟩ : Addr).add 2) = some (.int .i64 n3) ∧
  HCalls Try.prog 28 #[.agg #[.int .i64 n1, .int .i64 n2, .int .i64 n3]] h1 fun v1 h2 => ∃ r1 : Bool, v1 = .bool r1 ∧
  cond (!r1)
  (K (.int .i64 1) h2)
  (rangetree_Tree_Add_b1 t (some ⟨b1, 0, none⟩) h2  K))) := by kernel_rfl
theorem rangetree_Tree_Add_b1_eq (t : Option Addr) (p : Option Addr) (h : Hp)  (K : Value → Hp → Prop) : rangetree_Tree_Add_b1 t p h  K = (
  NN p fun a1 =>
  ∃ n4 : Int, cell h a1 = some (.int .i64 n4) ∧
  NN p fun a2 =>
  ∃ n5 : Int, cell h (a2.add 1) = some (.int .i64 n5) ∧
  New h (.cells #[.int .i64 0, .int .i64 0] 70) fun b2 h3 =>
  Wr h3 ⟨b2, 0, none⟩ (.int .i64 n4) fun h4 =>
  Wr h4 ((⟨b2, 0, none⟩ : Addr).add 1) (.int .i64 n5) fun h5 =>
  NN t fun a3 =>
  ∃ v2 : Value, cell h5 a3 = some (v2) ∧
  ∃ n6 : Int, ∃ n7 : Int, cell h5 ⟨b2, 0, none⟩ = some (.int .i64 n6) ∧
  cell h5 ((⟨b2, 0, none⟩ : Addr).add 1) = some (.int .i64 n7) ∧
  lookV Try.prog 65 v2 (.agg #[.int .i64 n6, .int .i64 n7]) true h5 fun v3 => ∃ r2 : Int, ∃ r3 : Bool, v3 = .tuple #[.int .i64 r2, .bool r3] ∧
  cond r3
  (K (.int .i64 15) h5)
  (NN t fun a4 =>
  ∃ v4 : Value, cell h5 a4 = some (v4) ∧
  mapLenV v4 h5 fun n8 =>
  cond (decide ((1000 : Int) ≤ n8))
  (K (.int .i64 4) h5)
  (NN t fun a5 =>
  ∃ v5 : Value, cell h5 a5 = some (v5) ∧
  ∃ n9 : Int, ∃ n10 : Int, cell h5 ⟨b2, 0, none⟩ = some (.int .i64 n9) ∧
  cell h5 ((⟨b2, 0, none⟩ : Addr).add 1) = some (.int .i64 n10) ∧
  NN p fun a6 =>
  ∃ n11 : Int, cell h5 (a6.add 2) = some (.int .i64 n11) ∧
  mapSetV Try.prog 65 v5 (.agg #[.int .i64 n9, .int .i64 n10]) (.int .i64 n11) h5 fun h6 =>
  NN p fun a7 =>
  ∃ n12 : Int, ∃ n13 : Int, ∃ n14 : Int, cell h6 a7 = some (.int .i64 n12) ∧
  cell h6 (a7.add 1) = some (.int .i64 n13) ∧
  cell h6 (a7.add 2) = some (.int .i64 n14) ∧
  New h6 (.cells #[.int .i64 n12, .int .i64 n13, .int .i64 n14] 33) fun b3 h7 =>
  NN t fun a8 =>
  ∃ (a9 : Option Addr) (L1 C1 : Nat), cell h7 (a8.add 1) = some (.slice a9 L1 C1) ∧
  LoopVC (((some ⟨b3, 0, none⟩, 1, 1), (L1 : Int), ()) : (Option Addr × Nat × Nat) × Int × Unit) h7 (fun (nx0 : (Option Addr × Nat × Nat) × Int × Unit → Hp → Prop) (s1 : (Option Addr × Nat × Nat) × Int × Unit) h8 => rangetree_Tree_Add_b2 s1.1.1 s1.1.2.1 s1.1.2.2 s1.2.1 t h8 nx0 K)))) := by kernel_rfl
theorem rangetree_Tree_Add_b2_eq (l : Option Addr) (lL : Nat) (lC : Nat) (nv : Int) (t : Option Addr) (h : Hp) (nx0 : (Option Addr × Nat × Nat) × Int × Unit → Hp → Prop) (K : Value → Hp → Prop) : rangetree_Tree_Add_b2 l lL lC nv t h nx0 K = (
  cond (decide ((0 : Int) < nv))
  (NN t fun a10 =>
  ∃ (a11 : Option Addr) (L2 C2 : Nat), cell h (a10.add 1) = some (.slice a11 L2 C2) ∧
  InR (nv - 1) ∧
  (0 ≤ nv - 1 ∧ nv - 1 < (L2 : Int)) ∧
  NN a11 fun a12 =>
  ∃ p1 : Option Addr, cell h (a12.add (Int.toNat (nv - 1) * 1)) = some (.pointer p1) ∧
  NN p1 fun a13 =>
  ∃ (a14 : Option Addr) (L3 C3 : Nat), cell h a13 = some (.slice a14 L3 C3) ∧
  cond (decide ((L3 : Int) ≤ (lL : Int)))
  (rangetree_Tree_Add_b3 t l lL lC nv h nx0 K)
  (rangetree_Tree_Add_b4 t l lL lC h  K))
  (rangetree_Tree_Add_b4 t l lL lC h  K)) := by kernel_rfl
theorem rangetree_Tree_Add_b3_eq (t : Option Addr) (l : Option Addr) (lL : Nat) (lC : Nat) (nv : Int) (h : Hp) (nx0 : (Option Addr × Nat × Nat) × Int × Unit → Hp → Prop) (K : Value → Hp → Prop) : rangetree_Tree_Add_b3 t l lL lC nv h nx0 K = (
  NN t fun a15 =>
  ∃ (a16 : Option Addr) (L4 C4 : Nat), cell h (a15.add 1) = some (.slice a16 L4 C4) ∧
  InR (nv - 1) ∧
  (0 ≤ nv - 1 ∧ nv - 1 < (L4 : Int)) ∧
  NN a16 fun a17 =>
  ∃ p2 : Option Addr, cell h (a17.add (Int.toNat (nv - 1) * 1)) = some (.pointer p2) ∧
  NN p2 fun a18 =>
  ∃ (a19 : Option Addr) (L5 C5 : Nat), cell h a18 = some (.slice a19 L5 C5) ∧
  appendV Try.prog 22 22 (.slice l lL lC) (.slice a19 L5 C5) h (slK fun a20 l1 c1 h9 =>
  NN t fun a21 =>
  ∃ n15 : Int, cell h9 (a21.add 3) = some (.int .i64 n15) ∧
  NN t fun a22 =>
  ∃ (a23 : Option Addr) (L6 C6 : Nat), cell h9 (a22.add 1) = some (.slice a23 L6 C6) ∧
  InR (nv - 1) ∧
  (0 ≤ nv - 1 ∧ nv - 1 < (L6 : Int)) ∧
  NN a23 fun a24 =>
  ∃ p3 : Option Addr, cell h9 (a24.add (Int.toNat (nv - 1) * 1)) = some (.pointer p3) ∧
  NN p3 fun a25 =>
  ∃ (a26 : Option Addr) (L7 C7 : Nat), cell h9 a25 = some (.slice a26 L7 C7) ∧
  InR (n15 - (L7 : Int)) ∧
  NN t fun a27 =>
  Wr h9 (a27.add 3) (.int .i64 (n15 - (L7 : Int))) fun h10 =>
  NN t fun a28 =>
  ∃ (a29 : Option Addr) (L8 C8 : Nat), cell h10 (a28.add 1) = some (.slice a29 L8 C8) ∧
  InR (nv - 1) ∧
  (0 ≤ (0 : Int) ∧ (0 : Int) ≤ nv - 1 ∧ nv - 1 ≤ (C8 : Int)) ∧
  NN t fun a30 =>
  Wr h10 (a30.add 1) (.slice (subAddr a29 C8 (Int.toNat (0 : Int)) 1) (Int.toNat (nv - 1) - Int.toNat (0 : Int)) (C8 - Int.toNat (0 : Int))) fun h11 =>
  rangetree_Tree_Add_b5 t a20 l1 c1 nv h11 nx0 K)) := by kernel_rfl
theorem rangetree_Tree_Add_b4_eq (t : Option Addr) (l : Option Addr) (lL : Nat) (lC : Nat) (h : Hp)  (K : Value → Hp → Prop) : rangetree_Tree_Add_b4 t l lL lC h  K = (
  HCalls Try.prog 30 #[.pointer t, .slice l lL lC] h fun v6 h12 => v6 = .tuple #[] ∧
  K (.int .i64 0) h12) := by kernel_rfl
theorem rangetree_Tree_Add_b5_eq (t : Option Addr) (l : Option Addr) (lL : Nat) (lC : Nat) (nv : Int) (h : Hp) (nx0 : (Option Addr × Nat × Nat) × Int × Unit → Hp → Prop) (K : Value → Hp → Prop) : rangetree_Tree_Add_b5 t l lL lC nv h nx0 K = (
  InR (nv - 1) ∧
  nx0 ((l, lL, lC), nv - 1, ()) h) := by kernel_rfl
theorem rangetree_Tree_Add_call {t : Option Addr} {p_0 : Int} {p_1 : Int} {p_2 : Int} {h : Hp} {K : Value → Hp → Prop} (hk : rangetree_Tree_Add_b0 t p_0 p_1 p_2 h K) : HCalls Try.prog 14 #[.pointer t, .agg #[.int .i64 p_0, .int .i64 p_1, .int .i64 p_2]] h K :=
  calls_of_snd rangetree_Tree_Add_an Try.func14 (c := bodyOf Try.f14) rfl Try.ntmps14 (Nat.le_of_ble_eq_true rfl) (snd_5 F_ok F_mixed) hk

/-! ### rangetree_Tree_List -/
def rangetree_Tree_List_an : Ann := .node none (.leaf) (.node none (.leaf) (.node none (.leaf) (.node (some [3]) (.node none (.leaf) (.loop [12] [(3, .slice)] (.leaf))) (.leaf))))
def rangetree_Tree_List_K0  (K : Value → Hp → Prop) : Exit → Env → Hp → Prop := retK Try.prog Try.f15.results.toList K
def rangetree_Tree_List_K1  (K : Value → Hp → Prop) : Exit → Env → Hp → Prop := thenE (fun env h => sx_1 Try.prog F 30 (cp [1, 1, 1, 1] (bodyOf Try.f15)) (ap [1, 1, 1, 1] rangetree_Tree_List_an) (rs [3] env) h (rangetree_Tree_List_K0  K)) (rangetree_Tree_List_K0  K)
def rangetree_Tree_List_K2  (K : Value → Hp → Prop) : Exit → Env → Hp → Prop := blockE 0 (rangetree_Tree_List_K1  K)
def rangetree_Tree_List_K3 (nx0 : (Option Addr × Nat × Nat) × Unit → Hp → Prop) (K : Value → Hp → Prop) : Exit → Env → Hp → Prop := thenE (fun env h => getV [(3, .slice)] env fun s => nx0 s h) (rangetree_Tree_List_K2  K)
def rangetree_Tree_List_b0 (t : Option Addr) (h : Hp)  (K : Value → Hp → Prop) : Prop :=
  sx_2 Try.prog F 30 (cp [] (bodyOf Try.f15)) (ap [] rangetree_Tree_List_an) [(0, .pointer t)] h (rangetree_Tree_List_K0  K)
def rangetree_Tree_List_b1 (out : Option Addr) (outL : Nat) (outC : Nat) (t12 : Value) (h : Hp) (nx0 : (Option Addr × Nat × Nat) × Unit → Hp → Prop) (K : Value → Hp → Prop) : Prop :=
  sx_1 Try.prog F 30 (cp [1, 1, 1, 0, 1, 2, 2] (bodyOf Try.f15)) (ap [1, 1, 1, 0, 1, 2] rangetree_Tree_List_an) [(3, .slice out outL outC), (12, t12)] h (rangetree_Tree_List_K3 nx0 K)
def rangetree_Tree_List_b2 (out : Option Addr) (outL : Nat) (outC : Nat) (h : Hp)  (K : Value → Hp → Prop) : Prop :=
  sx_1 Try.prog F 30 (cp [1, 1, 1, 1] (bodyOf Try.f15)) (ap [1, 1, 1, 1] rangetree_Tree_List_an) [(3, .slice out outL outC)] h (rangetree_Tree_List_K0  K)
theorem rangetree_Tree_List_b0_eq (t : Option Addr) (h : Hp)  (K : Value → Hp → Prop) : rangetree_Tree_List_b0 t h  K = (
  cond t.isNone
  (K (.slice none 0 0) h)
  (NN t fun a1 =>
  ∃ v1 : Value, cell h a1 = some (v1) ∧
  rangeV Try.prog 65 v1 h fun it1 h1 =>
  LoopVC (((none, 0, 0), ()) : (Option Addr × Nat × Nat) × Unit) h1 (fun (nx0 : (Option Addr × Nat × Nat) × Unit → Hp → Prop) (s1 : (Option Addr × Nat × Nat) × Unit) h2 => rangetree_Tree_List_b1 s1.1.1 s1.1.2.1 s1.1.2.2 (.pointer (some ⟨it1, 0, none⟩)) h2 nx0 K))) := by kernel_rfl
theorem rangetree_Tree_List_b1_eq (out : Option Addr) (outL : Nat) (outC : Nat) (t12 : Value) (h : Hp) (nx0 : (Option Addr × Nat × Nat) × Unit → Hp → Prop) (K : Value → Hp → Prop) : rangetree_Tree_List_b1 out outL outC t12 h nx0 K = (
  nextV Try.prog t12 false h (fun h3 =>
  rangetree_Tree_List_b2 out outL outC h3  K) fun x1 y1 h4 =>
  entryV Try.prog t12 h4 fun v2 => ∃ k1 : Int, ∃ k2 : Int, ∃ e1 : Int, v2 = .tuple #[.agg #[.int .i64 k1, .int .i64 k2], .int .i64 e1] ∧
  New h4 (.cells #[.int .i64 0, .int .i64 0] 70) fun b1 h5 =>
  Wr h5 ⟨b1, 0, none⟩ (.int .i64 k1) fun h6 =>
  Wr h6 ((⟨b1, 0, none⟩ : Addr).add 1) (.int .i64 k2) fun h7 =>
  ∃ n1 : Int, cell h7 ⟨b1, 0, none⟩ = some (.int .i64 n1) ∧
  ∃ n2 : Int, cell h7 ((⟨b1, 0, none⟩ : Addr).add 1) = some (.int .i64 n2) ∧
  New h7 (.cells #[.int .i64 n1, .int .i64 n2, .int .i64 e1] 33) fun b2 h8 =>
  appendV Try.prog 22 22 (.slice out outL outC) (.slice (some ⟨b2, 0, none⟩) 1 1) h8 (slK fun a2 l1 c1 h9 =>
  nx0 ((a2, l1, c1), ()) h9)) := by kernel_rfl
theorem rangetree_Tree_List_b2_eq (out : Option Addr) (outL : Nat) (outC : Nat) (h : Hp)  (K : Value → Hp → Prop) : rangetree_Tree_List_b2 out outL outC h  K = (
  HCalls Try.prog 31 #[.slice out outL outC, .func (.func 32) #[] #[]] h fun v3 h10 => v3 = .tuple #[] ∧
  K (.slice out outL outC) h10) := by kernel_rfl
theorem rangetree_Tree_List_call {t : Option Addr} {h : Hp} {K : Value → Hp → Prop} (hk : rangetree_Tree_List_b0 t h K) : HCalls Try.prog 15 #[.pointer t] h K :=
  calls_of_snd rangetree_Tree_List_an Try.func15 (c := bodyOf Try.f15) rfl Try.ntmps15 (Nat.le_of_ble_eq_true rfl) (snd_2 F_ok F_mixed) hk

/-! ### rangetree_Tree_Count -/
def rangetree_Tree_Count_an : Ann := .leaf
def rangetree_Tree_Count_K0  (K : Value → Hp → Prop) : Exit → Env → Hp → Prop := retK Try.prog Try.f16.results.toList K
def rangetree_Tree_Count_b0 (t : Option Addr) (x1 : Int) (x2 : Int) (y1 : Int) (y2 : Int) (h : Hp)  (K : Value → Hp → Prop) : Prop :=
  sx_1 Try.prog F 26 (cp [] (bodyOf Try.f16)) (ap [] rangetree_Tree_Count_an) [(0, .pointer t), (1, .int .i64 x1), (2, .int .i64 x2), (3, .int .i64 y1), (4, .int .i64 y2)] h (rangetree_Tree_Count_K0  K)
theorem rangetree_Tree_Count_b0_eq (t : Option Addr) (x1 : Int) (x2 : Int) (y1 : Int) (y2 : Int) (h : Hp)  (K : Value → Hp → Prop) : rangetree_Tree_Count_b0 t x1 x2 y1 y2 h  K = (
  cond t.isNone
  (K (.tuple #[.int .i64 0, .int .i64 1]) h)
  (HCalls Try.prog 33 #[.pointer t, .int .i64 x1, .int .i64 x2, .int .i64 y1, .int .i64 y2] h fun v1 h1 => ∃ r1 : Int, ∃ r2 : Int, v1 = .tuple #[.int .i64 r1, .int .i64 r2] ∧
  K (.tuple #[.int .i64 r1, .int .i64 0]) h1)) := by kernel_rfl
theorem rangetree_Tree_Count_call {t : Option Addr} {x1 : Int} {x2 : Int} {y1 : Int} {y2 : Int} {h : Hp} {K : Value → Hp → Prop} (hk : rangetree_Tree_Count_b0 t x1 x2 y1 y2 h K) : HCalls Try.prog 16 #[.pointer t, .int .i64 x1, .int .i64 x2, .int .i64 y1, .int .i64 y2] h K :=
  calls_of_snd rangetree_Tree_Count_an Try.func16 (c := bodyOf Try.f16) rfl Try.ntmps16 (Nat.le_of_ble_eq_true rfl) (snd_1 F_ok F_mixed) hk

/-! ### rangetree_Tree_Len -/
def rangetree_Tree_Len_an : Ann := .leaf
def rangetree_Tree_Len_K0  (K : Value → Hp → Prop) : Exit → Env → Hp → Prop := retK Try.prog Try.f17.results.toList K
def rangetree_Tree_Len_b0 (t : Option Addr) (h : Hp)  (K : Value → Hp → Prop) : Prop :=
  sx_1 Try.prog F 10 (cp [] (bodyOf Try.f17)) (ap [] rangetree_Tree_Len_an) [(0, .pointer t)] h (rangetree_Tree_Len_K0  K)
theorem rangetree_Tree_Len_b0_eq (t : Option Addr) (h : Hp)  (K : Value → Hp → Prop) : rangetree_Tree_Len_b0 t h  K = (
  cond t.isNone
  (K (.int .i64 0) h)
  (NN t fun a1 =>
  ∃ v1 : Value, cell h a1 = some (v1) ∧
  mapLenV v1 h fun n1 =>
  K (.int .i64 n1) h)) := by kernel_rfl
theorem rangetree_Tree_Len_call {t : Option Addr} {h : Hp} {K : Value → Hp → Prop} (hk : rangetree_Tree_Len_b0 t h K) : HCalls Try.prog 17 #[.pointer t] h K :=
  calls_of_snd rangetree_Tree_Len_an Try.func17 (c := bodyOf Try.f17) rfl Try.ntmps17 (Nat.le_of_ble_eq_true rfl) (snd_1 F_ok F_mixed) hk

/-! ### slices_Equal_Sapi_Point_api_Point -/
/-! ### rangetree_Tree_Report -/
def rangetree_Tree_Report_an : Ann := .leaf
def rangetree_Tree_Report_K0  (K : Value → Hp → Prop) : Exit → Env → Hp → Prop := retK Try.prog Try.f19.results.toList K
def rangetree_Tree_Report_b0 (t : Option Addr) (x1 : Int) (x2 : Int) (y1 : Int) (y2 : Int) (h : Hp)  (K : Value → Hp → Prop) : Prop :=
  sx_1 Try.prog F 18 (cp [] (bodyOf Try.f19)) (ap [] rangetree_Tree_Report_an) [(0, .pointer t), (1, .int .i64 x1), (2, .int .i64 x2), (3, .int .i64 y1), (4, .int .i64 y2)] h (rangetree_Tree_Report_K0  K)
theorem rangetree_Tree_Report_b0_eq (t : Option Addr) (x1 : Int) (x2 : Int) (y1 : Int) (y2 : Int) (h : Hp)  (K : Value → Hp → Prop) : rangetree_Tree_Report_b0 t x1 x2 y1 y2 h  K = (
  New h (.cells #[.int .i64 x1] 3) fun b1 h1 =>
  New h1 (.cells #[.int .i64 x2] 3) fun b2 h2 =>
  New h2 (.cells #[.int .i64 y1] 3) fun b3 h3 =>
  New h3 (.cells #[.int .i64 y2] 3) fun b4 h4 =>
  cond t.isNone
  (K (.tuple #[.slice none 0 0, .int .i64 1]) h4)
  (HCalls Try.prog 15 #[.pointer t] h4 fun v1 h5 => ∃ (r1 : Option Addr) (rL1 rC1 : Nat), v1 = .slice r1 rL1 rC1 ∧
  HCalls Try.prog 34 #[.slice r1 rL1 rC1, .func (.func 35) #[] #[.pointer (some ⟨b1, 0, none⟩), .pointer (some ⟨b2, 0, none⟩), .pointer (some ⟨b3, 0, none⟩), .pointer (some ⟨b4, 0, none⟩)]] h5 fun v2 h6 => ∃ (r2 : Option Addr) (rL2 rC2 : Nat), v2 = .slice r2 rL2 rC2 ∧
  K (.tuple #[.slice r2 rL2 rC2, .int .i64 0]) h6)) := by kernel_rfl
theorem rangetree_Tree_Report_call {t : Option Addr} {x1 : Int} {x2 : Int} {y1 : Int} {y2 : Int} {h : Hp} {K : Value → Hp → Prop} (hk : rangetree_Tree_Report_b0 t x1 x2 y1 y2 h K) : HCalls Try.prog 19 #[.pointer t, .int .i64 x1, .int .i64 x2, .int .i64 y1, .int .i64 y2] h K :=
  calls_of_snd rangetree_Tree_Report_an Try.func19 (c := bodyOf Try.f19) rfl Try.ntmps19 (Nat.le_of_ble_eq_true rfl) (snd_1 F_ok F_mixed) hk

/-! ### rangetree_Tree_Sum -/
def rangetree_Tree_Sum_an : Ann := .leaf
def rangetree_Tree_Sum_K0  (K : Value → Hp → Prop) : Exit → Env → Hp → Prop := retK Try.prog Try.f20.results.toList K
def rangetree_Tree_Sum_b0 (t : Option Addr) (x1 : Int) (x2 : Int) (y1 : Int) (y2 : Int) (h : Hp)  (K : Value → Hp → Prop) : Prop :=
  sx_1 Try.prog F 26 (cp [] (bodyOf Try.f20)) (ap [] rangetree_Tree_Sum_an) [(0, .pointer t), (1, .int .i64 x1), (2, .int .i64 x2), (3, .int .i64 y1), (4, .int .i64 y2)] h (rangetree_Tree_Sum_K0  K)
theorem rangetree_Tree_Sum_b0_eq (t : Option Addr) (x1 : Int) (x2 : Int) (y1 : Int) (y2 : Int) (h : Hp)  (K : Value → Hp → Prop) : rangetree_Tree_Sum_b0 t x1 x2 y1 y2 h  K = (
  cond t.isNone
  (K (.tuple #[.int .i64 0, .int .i64 1]) h)
  (HCalls Try.prog 33 #[.pointer t, .int .i64 x1, .int .i64 x2, .int .i64 y1, .int .i64 y2] h fun v1 h1 => ∃ r1 : Int, ∃ r2 : Int, v1 = .tuple #[.int .i64 r1, .int .i64 r2] ∧
  K (.tuple #[.int .i64 r2, .int .i64 0]) h1)) := by kernel_rfl
theorem rangetree_Tree_Sum_call {t : Option Addr} {x1 : Int} {x2 : Int} {y1 : Int} {y2 : Int} {h : Hp} {K : Value → Hp → Prop} (hk : rangetree_Tree_Sum_b0 t x1 x2 y1 y2 h K) : HCalls Try.prog 20 #[.pointer t, .int .i64 x1, .int .i64 x2, .int .i64 y1, .int .i64 y2] h K :=
  calls_of_snd rangetree_Tree_Sum_an Try.func20 (c := bodyOf Try.f20) rfl Try.ntmps20 (Nat.le_of_ble_eq_true rfl) (snd_1 F_ok F_mixed) hk

/-! ### r31_Sum -/
/-! ### rangetree_Tree_Leftmost -/
def rangetree_Tree_Leftmost_an : Ann := .node none (.leaf) (.node none (.leaf) (.node (some [8]) (.node none (.leaf) (.loop [1, 2, 3, 8, 16, 17] [(18, .int .i64)] (.node none (.leaf) (.node none (.leaf) (.node (some [1, 2, 3, 8, 16, 17, 18]) (.leaf) (.leaf)))))) (.leaf)))
def rangetree_Tree_Leftmost_K0  (K : Value → Hp → Prop) : Exit → Env → Hp → Prop := retK Try.prog Try.f22.results.toList K
def rangetree_Tree_Leftmost_K1  (K : Value → Hp → Prop) : Exit → Env → Hp → Prop := thenE (fun env h => sx_2 Try.prog F 41 (cp [1, 1, 1] (bodyOf Try.f22)) (ap [1, 1, 1] rangetree_Tree_Leftmost_an) (rs [8] env) h (rangetree_Tree_Leftmost_K0  K)) (rangetree_Tree_Leftmost_K0  K)
def rangetree_Tree_Leftmost_K2  (K : Value → Hp → Prop) : Exit → Env → Hp → Prop := blockE 0 (rangetree_Tree_Leftmost_K1  K)
def rangetree_Tree_Leftmost_K3 (nx0 : Int × Unit → Hp → Prop) (K : Value → Hp → Prop) : Exit → Env → Hp → Prop := thenE (fun env h => getV [(18, .int .i64)] env fun s => nx0 s h) (rangetree_Tree_Leftmost_K2  K)
def rangetree_Tree_Leftmost_b0 (t : Option Addr) (x1 : Int) (y1 : Int) (y2 : Int) (h : Hp)  (K : Value → Hp → Prop) : Prop :=
  sx_3 Try.prog F 41 (cp [] (bodyOf Try.f22)) (ap [] rangetree_Tree_Leftmost_an) [(0, .pointer t), (1, .int .i64 x1), (2, .int .i64 y1), (3, .int .i64 y2)] h (rangetree_Tree_Leftmost_K0  K)
def rangetree_Tree_Leftmost_b1 (t18 : Int) (x1 : Int) (y1 : Int) (y2 : Int) (t8 : Option Addr) (t16 : Option Addr) (t16L : Nat) (t16C : Nat) (t17 : Int) (h : Hp) (nx0 : Int × Unit → Hp → Prop) (K : Value → Hp → Prop) : Prop :=
  sx_2 Try.prog F 41 (cp [1, 1, 0, 1, 2, 2] (bodyOf Try.f22)) (ap [1, 1, 0, 1, 2] rangetree_Tree_Leftmost_an) [(18, .int .i64 t18), (1, .int .i64 x1), (2, .int .i64 y1), (3, .int .i64 y2), (8, .pointer t8), (16, .slice t16 t16L t16C), (17, .int .i64 t17)] h (rangetree_Tree_Leftmost_K3 nx0 K)
def rangetree_Tree_Leftmost_b2 (x1 : Int) (y1 : Int) (y2 : Int) (t8 : Option Addr) (t16 : Option Addr) (t16L : Nat) (t16C : Nat) (t17 : Int) (t18 : Int) (h : Hp) (nx0 : Int × Unit → Hp → Prop) (K : Value → Hp → Prop) : Prop :=
  sx_1 Try.prog F 41 (cp [1, 1, 0, 1, 2, 2, 1, 1, 1] (bodyOf Try.f22)) (ap [1, 1, 0, 1, 2, 1, 1, 1] rangetree_Tree_Leftmost_an) [(1, .int .i64 x1), (2, .int .i64 y1), (3, .int .i64 y2), (8, .pointer t8), (16, .slice t16 t16L t16C), (17, .int .i64 t17), (18, .int .i64 t18)] h (rangetree_Tree_Leftmost_K3 nx0 K)
def rangetree_Tree_Leftmost_b3 (t8 : Option Addr) (h : Hp)  (K : Value → Hp → Prop) : Prop :=
  sx_2 Try.prog F 41 (cp [1, 1, 1] (bodyOf Try.f22)) (ap [1, 1, 1] rangetree_Tree_Leftmost_an) [(8, .pointer t8)] h (rangetree_Tree_Leftmost_K0  K)
theorem rangetree_Tree_Leftmost_b0_eq (t : Option Addr) (x1 : Int) (y1 : Int) (y2 : Int) (h : Hp)  (K : Value → Hp → Prop) : rangetree_Tree_Leftmost_b0 t x1 y1 y2 h  K = (
  New h (.cells #[.int .i64 0, .int .i64 0, .int .i64 0] 33) fun b1 h1 =>
  cond t.isNone
  (Wr h1 ⟨b1, 0, none⟩ (.int .i64 0) fun h2 =>
  Wr h2 ((⟨b1, 0, none⟩ : Addr).add 1) (.int .i64 0) fun h3 =>
  Wr h3 ((⟨b1, 0, none⟩ : Addr).add 2) (.int .i64 0) fun h4 =>
  ∃ r1 : Int, ∃ r2 : Int, ∃ r3 : Int, cell h4 ⟨b1, 0, none⟩ = some (.int .i64 r1) ∧
  cell h4 ((⟨b1, 0, none⟩ : Addr).add 1) = some (.int .i64 r2) ∧
  cell h4 ((⟨b1, 0, none⟩ : Addr).add 2) = some (.int .i64 r3) ∧
  K (.tuple #[.agg #[.int .i64 r1, .int .i64 r2, .int .i64 r3], .int .i64 1]) h4)
  (HCalls Try.prog 15 #[.pointer t] h1 fun v1 h5 => ∃ (r4 : Option Addr) (rL1 rC1 : Nat), v1 = .slice r4 rL1 rC1 ∧
  LoopVC ((0, ()) : Int × Unit) h5 (fun (nx0 : Int × Unit → Hp → Prop) (s1 : Int × Unit) h6 => rangetree_Tree_Leftmost_b1 s1.1 x1 y1 y2 (some ⟨b1, 0, none⟩) r4 rL1 rC1 (rL1 : Int) h6 nx0 K))) := by kernel_rfl
theorem rangetree_Tree_Leftmost_b1_eq (t18 : Int) (x1 : Int) (y1 : Int) (y2 : Int) (t8 : Option Addr) (t16 : Option Addr) (t16L : Nat) (t16C : Nat) (t17 : Int) (h : Hp) (nx0 : Int × Unit → Hp → Prop) (K : Value → Hp → Prop) : rangetree_Tree_Leftmost_b1 t18 x1 y1 y2 t8 t16 t16L t16C t17 h nx0 K = (
  cond (decide (t18 < t17))
  ((0 ≤ t18 ∧ t18 < (t16L : Int)) ∧
  NN t16 fun a1 =>
  ∃ n1 : Int, ∃ n2 : Int, ∃ n3 : Int, cell h (a1.add (Int.toNat t18 * 3)) = some (.int .i64 n1) ∧
  cell h ((a1.add (Int.toNat t18 * 3)).add 1) = some (.int .i64 n2) ∧
  cell h ((a1.add (Int.toNat t18 * 3)).add 2) = some (.int .i64 n3) ∧
  New h (.cells #[.int .i64 0, .int .i64 0, .int .i64 0] 33) fun b2 h7 =>
  Wr h7 ⟨b2, 0, none⟩ (.int .i64 n1) fun h8 =>
  Wr h8 ((⟨b2, 0, none⟩ : Addr).add 1) (.int .i64 n2) fun h9 =>
  Wr h9 ((⟨b2, 0, none⟩ : Addr).add 2) (.int .i64 n3) fun h10 =>
  ∃ n4 : Int, cell h10 ⟨b2, 0, none⟩ = some (.int .i64 n4) ∧
  cond (decide (x1 ≤ n4))
  (∃ n5 : Int, cell h10 ((⟨b2, 0, none⟩ : Addr).add 1) = some (.int .i64 n5) ∧
  cond (decide (y1 ≤ n5))
  (∃ n6 : Int, cell h10 ((⟨b2, 0, none⟩ : Addr).add 1) = some (.int .i64 n6) ∧
  cond (decide (n6 ≤ y2))
  (∃ n7 : Int, ∃ n8 : Int, ∃ n9 : Int, cell h10 ⟨b2, 0, none⟩ = some (.int .i64 n7) ∧
  cell h10 ((⟨b2, 0, none⟩ : Addr).add 1) = some (.int .i64 n8) ∧
  cell h10 ((⟨b2, 0, none⟩ : Addr).add 2) = some (.int .i64 n9) ∧
  NN t8 fun a2 =>
  Wr h10 a2 (.int .i64 n7) fun h11 =>
  Wr h11 (a2.add 1) (.int .i64 n8) fun h12 =>
  Wr h12 (a2.add 2) (.int .i64 n9) fun h13 =>
  NN t8 fun a3 =>
  ∃ r5 : Int, ∃ r6 : Int, ∃ r7 : Int, cell h13 a3 = some (.int .i64 r5) ∧
  cell h13 (a3.add 1) = some (.int .i64 r6) ∧
  cell h13 (a3.add 2) = some (.int .i64 r7) ∧
  K (.tuple #[.agg #[.int .i64 r5, .int .i64 r6, .int .i64 r7], .int .i64 0]) h13)
  (rangetree_Tree_Leftmost_b2 x1 y1 y2 t8 t16 t16L t16C t17 t18 h10 nx0 K))
  (rangetree_Tree_Leftmost_b2 x1 y1 y2 t8 t16 t16L t16C t17 t18 h10 nx0 K))
  (rangetree_Tree_Leftmost_b2 x1 y1 y2 t8 t16 t16L t16C t17 t18 h10 nx0 K))
  (rangetree_Tree_Leftmost_b3 t8 h  K)) := by kernel_rfl
theorem rangetree_Tree_Leftmost_b2_eq (x1 : Int) (y1 : Int) (y2 : Int) (t8 : Option Addr) (t16 : Option Addr) (t16L : Nat) (t16C : Nat) (t17 : Int) (t18 : Int) (h : Hp) (nx0 : Int × Unit → Hp → Prop) (K : Value → Hp → Prop) : rangetree_Tree_Leftmost_b2 x1 y1 y2 t8 t16 t16L t16C t17 t18 h nx0 K = (
  InR (t18 + 1) ∧
  nx0 (t18 + 1, ()) h) := by kernel_rfl
theorem rangetree_Tree_Leftmost_b3_eq (t8 : Option Addr) (h : Hp)  (K : Value → Hp → Prop) : rangetree_Tree_Leftmost_b3 t8 h  K = (
  NN t8 fun a4 =>
  Wr h a4 (.int .i64 0) fun h14 =>
  Wr h14 (a4.add 1) (.int .i64 0) fun h15 =>
  Wr h15 (a4.add 2) (.int .i64 0) fun h16 =>
  NN t8 fun a5 =>
  ∃ r8 : Int, ∃ r9 : Int, ∃ r10 : Int, cell h16 a5 = some (.int .i64 r8) ∧
  cell h16 (a5.add 1) = some (.int .i64 r9) ∧
  cell h16 (a5.add 2) = some (.int .i64 r10) ∧
  K (.tuple #[.agg #[.int .i64 r8, .int .i64 r9, .int .i64 r10], .int .i64 12]) h16) := by kernel_rfl
theorem rangetree_Tree_Leftmost_call {t : Option Addr} {x1 : Int} {y1 : Int} {y2 : Int} {h : Hp} {K : Value → Hp → Prop} (hk : rangetree_Tree_Leftmost_b0 t x1 y1 y2 h K) : HCalls Try.prog 22 #[.pointer t, .int .i64 x1, .int .i64 y1, .int .i64 y2] h K :=
  calls_of_snd rangetree_Tree_Leftmost_an Try.func22 (c := bodyOf Try.f22) rfl Try.ntmps22 (Nat.le_of_ble_eq_true rfl) (snd_3 F_ok F_mixed) hk

end Go.Proofs.Ytbfejfejahoblaa
