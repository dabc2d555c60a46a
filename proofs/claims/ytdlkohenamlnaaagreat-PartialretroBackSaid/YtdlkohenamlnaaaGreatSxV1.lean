/- Plain statements of what each block of code of this seat asks; printed by a program, checked by Lean. -/
import Derived.Test.YtdlkohenamlnaaaGreatSxV0
set_option maxRecDepth 10000
namespace Go.Proofs.YtdlkohenamlnaaaGreat
open Go Go.Sx

/-! ### l35_PartialretroQueue -/
def l35_PartialretroQueue_an : Ann := .node none (.leaf) (.node (some [0]) (.leaf) (.node none (.leaf) (.node none (.leaf) (.node (some []) (.node none (.leaf) (.loop [3, 20, 21] [(4, .slice), (22, .int .i64)] (.node none (.leaf) (.node none (.leaf) (.node (some [3, 4, 20, 21, 22]) (.node none (.leaf) (.node none (.leaf) (.node none (.leaf) (.node none (.leaf) (.node none (.leaf) (.node (some [3, 4, 8, 9, 10, 20, 21, 22]) (.leaf) (.leaf))))))) (.leaf)))))) (.leaf)))))
def l35_PartialretroQueue_K0  (K : Value → Hp → Prop) : Exit → Env → Hp → Prop := retK Tryz.prog Tryz.f5.results.toList K
def l35_PartialretroQueue_K1  (K : Value → Hp → Prop) : Exit → Env → Hp → Prop := thenE (fun env h => sx_2 Tryz.prog F 82 (cp [1, 1, 1, 1, 1] (bodyOf Tryz.f5)) (ap [1, 1, 1, 1, 1] l35_PartialretroQueue_an) (rs [] env) h (l35_PartialretroQueue_K0  K)) (l35_PartialretroQueue_K0  K)
def l35_PartialretroQueue_K2  (K : Value → Hp → Prop) : Exit → Env → Hp → Prop := blockE 0 (l35_PartialretroQueue_K1  K)
def l35_PartialretroQueue_K3 (nx0 : (Option Addr × Nat × Nat) × Int × Unit → Hp → Prop) (K : Value → Hp → Prop) : Exit → Env → Hp → Prop := thenE (fun env h => getV [(4, .slice), (22, .int .i64)] env fun s => nx0 s h) (l35_PartialretroQueue_K2  K)
def l35_PartialretroQueue_K4 (nx0 : (Option Addr × Nat × Nat) × Int × Unit → Hp → Prop) (K : Value → Hp → Prop) : Exit → Env → Hp → Prop := thenE (fun env h => sx_1 Tryz.prog F 82 (cp [1, 1, 1, 1, 0, 1, 2, 2, 1, 1, 1] (bodyOf Tryz.f5)) (ap [1, 1, 1, 1, 0, 1, 2, 1, 1, 1] l35_PartialretroQueue_an) (rs [3, 4, 20, 21, 22] env) h (l35_PartialretroQueue_K3 nx0 K)) (l35_PartialretroQueue_K3 nx0 K)
def l35_PartialretroQueue_K5 (nx0 : (Option Addr × Nat × Nat) × Int × Unit → Hp → Prop) (K : Value → Hp → Prop) : Exit → Env → Hp → Prop := blockE 1 (l35_PartialretroQueue_K4 nx0 K)
def l35_PartialretroQueue_b0 (l : Option Addr) (lL : Nat) (lC : Nat) (h : Hp)  (K : Value → Hp → Prop) : Prop :=
  sx_4 Tryz.prog F 82 (cp [] (bodyOf Tryz.f5)) (ap [] l35_PartialretroQueue_an) [(0, .slice l lL lC)] h (l35_PartialretroQueue_K0  K)
def l35_PartialretroQueue_b1 (l : Option Addr) (lL : Nat) (lC : Nat) (h : Hp)  (K : Value → Hp → Prop) : Prop :=
  sx_3 Tryz.prog F 82 (cp [1, 1] (bodyOf Tryz.f5)) (ap [1, 1] l35_PartialretroQueue_an) [(0, .slice l lL lC)] h (l35_PartialretroQueue_K0  K)
def l35_PartialretroQueue_b2 (m : Option Addr) (mL : Nat) (mC : Nat) (t22 : Int) (q : Option Addr) (t20 : Option Addr) (t20L : Nat) (t20C : Nat) (t21 : Int) (h : Hp) (nx0 : (Option Addr × Nat × Nat) × Int × Unit → Hp → Prop) (K : Value → Hp → Prop) : Prop :=
  sx_2 Tryz.prog F 82 (cp [1, 1, 1, 1, 0, 1, 2, 2] (bodyOf Tryz.f5)) (ap [1, 1, 1, 1, 0, 1, 2] l35_PartialretroQueue_an) [(4, .slice m mL mC), (22, .int .i64 t22), (3, .pointer q), (20, .slice t20 t20L t20C), (21, .int .i64 t21)] h (l35_PartialretroQueue_K3 nx0 K)
def l35_PartialretroQueue_b3 (q : Option Addr) (m : Option Addr) (mL : Nat) (mC : Nat) (keys : Option Addr) (keysL : Nat) (keysC : Nat) (least : Int) (e : Int) (t20 : Option Addr) (t20L : Nat) (t20C : Nat) (t21 : Int) (t22 : Int) (h : Hp) (nx0 : (Option Addr × Nat × Nat) × Int × Unit → Hp → Prop) (K : Value → Hp → Prop) : Prop :=
  sx_1 Tryz.prog F 82 (cp [1, 1, 1, 1, 0, 1, 2, 2, 1, 1, 0, 2, 1, 1, 1, 1, 1, 1] (bodyOf Tryz.f5)) (ap [1, 1, 1, 1, 0, 1, 2, 1, 1, 0, 1, 1, 1, 1, 1, 1] l35_PartialretroQueue_an) [(3, .pointer q), (4, .slice m mL mC), (8, .slice keys keysL keysC), (9, .int .i64 least), (10, .int .i64 e), (20, .slice t20 t20L t20C), (21, .int .i64 t21), (22, .int .i64 t22)] h (l35_PartialretroQueue_K5 nx0 K)
def l35_PartialretroQueue_b4  (h : Hp)  (K : Value → Hp → Prop) : Prop :=
  sx_2 Tryz.prog F 82 (cp [1, 1, 1, 1, 1] (bodyOf Tryz.f5)) (ap [1, 1, 1, 1, 1] l35_PartialretroQueue_an) [] h (l35_PartialretroQueue_K0  K)
def l35_PartialretroQueue_b5 (q : Option Addr) (m : Option Addr) (mL : Nat) (mC : Nat) (t20 : Option Addr) (t20L : Nat) (t20C : Nat) (t21 : Int) (t22 : Int) (h : Hp) (nx0 : (Option Addr × Nat × Nat) × Int × Unit → Hp → Prop) (K : Value → Hp → Prop) : Prop :=
  sx_1 Tryz.prog F 82 (cp [1, 1, 1, 1, 0, 1, 2, 2, 1, 1, 1] (bodyOf Tryz.f5)) (ap [1, 1, 1, 1, 0, 1, 2, 1, 1, 1] l35_PartialretroQueue_an) [(3, .pointer q), (4, .slice m mL mC), (20, .slice t20 t20L t20C), (21, .int .i64 t21), (22, .int .i64 t22)] h (l35_PartialretroQueue_K3 nx0 K)
theorem l35_PartialretroQueue_b0_eq (l : Option Addr) (lL : Nat) (lC : Nat) (h : Hp)  (K : Value → Hp → Prop) : l35_PartialretroQueue_b0 l lL lC h  K = (
  HCalls Tryz.prog 9 #[] h fun v1 h1 => ∃ r1 : Bool, v1 = .bool r1 ∧
  cond (!r1)
  (HCalls Tryz.prog 9 #[] h1 fun v2 h2 => ∃ r2 : Bool, v2 = .bool r2 ∧
  K (.bool r2) h2)
  (HCalls Tryz.prog 10 #[.slice l lL lC] h1 fun v3 h3 => ∃ r3 : Bool, v3 = .bool r3 ∧
  cond (!r3)
  (HCalls Tryz.prog 9 #[] h3 fun v4 h4 => ∃ r4 : Bool, v4 = .bool r4 ∧
  K (.bool r4) h4)
  (l35_PartialretroQueue_b1 l lL lC h3  K))) := by kernel_rfl
theorem l35_PartialretroQueue_b1_eq (l : Option Addr) (lL : Nat) (lC : Nat) (h : Hp)  (K : Value → Hp → Prop) : l35_PartialretroQueue_b1 l lL lC h  K = (
  HCalls Tryz.prog 13 #[] h fun v5 h5 => ∃ r5 : Option Addr, v5 = .pointer r5 ∧
  LoopVC (((none, 0, 0), 0, ()) : (Option Addr × Nat × Nat) × Int × Unit) h5 (fun (nx0 : (Option Addr × Nat × Nat) × Int × Unit → Hp → Prop) (s1 : (Option Addr × Nat × Nat) × Int × Unit) h6 => l35_PartialretroQueue_b2 s1.1.1 s1.1.2.1 s1.1.2.2 s1.2.1 r5 l lL lC (lL : Int) h6 nx0 K)) := by kernel_rfl
theorem l35_PartialretroQueue_b2_eq (m : Option Addr) (mL : Nat) (mC : Nat) (t22 : Int) (q : Option Addr) (t20 : Option Addr) (t20L : Nat) (t20C : Nat) (t21 : Int) (h : Hp) (nx0 : (Option Addr × Nat × Nat) × Int × Unit → Hp → Prop) (K : Value → Hp → Prop) : l35_PartialretroQueue_b2 m mL mC t22 q t20 t20L t20C t21 h nx0 K = (
  cond (decide (t22 < t21))
  ((0 ≤ t22 ∧ t22 < (t20L : Int)) ∧
  NN t20 fun a1 =>
  ∃ n1 : Int, ∃ n2 : Int, ∃ n3 : Int, ∃ n4 : Int, ∃ (a2 : Option Addr) (L1 C1 : Nat), cell h (a1.add (Int.toNat t22 * 5)) = some (.int .i64 n1) ∧
  cell h ((a1.add (Int.toNat t22 * 5)).add 1) = some (.int .i64 n2) ∧
  cell h ((a1.add (Int.toNat t22 * 5)).add 2) = some (.int .i64 n3) ∧
  cell h ((a1.add (Int.toNat t22 * 5)).add 3) = some (.int .i64 n4) ∧
  cell h ((a1.add (Int.toNat t22 * 5)).add 4) = some (.slice a2 L1 C1) ∧
  New h (.cells #[.int .i64 0, .int .i64 0, .int .i64 0, .int .i64 0, .slice none 0 0] 27) fun b1 h7 =>
  Wr h7 ⟨b1, 0, none⟩ (.int .i64 n1) fun h8 =>
  Wr h8 ((⟨b1, 0, none⟩ : Addr).add 1) (.int .i64 n2) fun h9 =>
  Wr h9 ((⟨b1, 0, none⟩ : Addr).add 2) (.int .i64 n3) fun h10 =>
  Wr h10 ((⟨b1, 0, none⟩ : Addr).add 3) (.int .i64 n4) fun h11 =>
  Wr h11 ((⟨b1, 0, none⟩ : Addr).add 4) (.slice a2 L1 C1) fun h12 =>
  ∃ n5 : Int, ∃ n6 : Int, ∃ n7 : Int, ∃ n8 : Int, ∃ (a3 : Option Addr) (L2 C2 : Nat), cell h12 ⟨b1, 0, none⟩ = some (.int .i64 n5) ∧
  cell h12 ((⟨b1, 0, none⟩ : Addr).add 1) = some (.int .i64 n6) ∧
  cell h12 ((⟨b1, 0, none⟩ : Addr).add 2) = some (.int .i64 n7) ∧
  cell h12 ((⟨b1, 0, none⟩ : Addr).add 3) = some (.int .i64 n8) ∧
  cell h12 ((⟨b1, 0, none⟩ : Addr).add 4) = some (.slice a3 L2 C2) ∧
  HCalls Tryz.prog 14 #[.pointer q, .slice m mL mC, .agg #[.int .i64 n5, .int .i64 n6, .int .i64 n7, .int .i64 n8, .slice a3 L2 C2]] h12 fun v6 h13 => ∃ (r6 : Option Addr) (rL1 rC1 : Nat), ∃ r7 : Bool, v6 = .tuple #[.slice r6 rL1 rC1, .bool r7] ∧
  cond (!r7)
  (K (.bool false) h13)
  (HCalls Tryz.prog 30 #[.slice r6 rL1 rC1] h13 fun v7 h14 => ∃ (r8 : Option Addr) (rL2 rC2 : Nat), v7 = .slice r8 rL2 rC2 ∧
  HCalls Tryz.prog 31 #[.pointer q] h14 fun v8 h15 => ∃ r9 : Int, ∃ r10 : Int, v8 = .tuple #[.int .i64 r9, .int .i64 r10] ∧
  HCalls Tryz.prog 16 #[.pointer q] h15 fun v9 h16 => ∃ (r11 : Option Addr) (rL3 rC3 : Nat), v9 = .slice r11 rL3 rC3 ∧
  HCalls Tryz.prog 22 #[.slice r11 rL3 rC3, .slice r8 rL2 rC2] h16 fun v10 h17 => ∃ r12 : Bool, v10 = .bool r12 ∧
  cond (!r12)
  (K (.bool false) h17)
  (HCalls Tryz.prog 27 #[.pointer q] h17 fun v11 h18 => ∃ (r13 : Option Addr) (rL4 rC4 : Nat), v11 = .slice r13 rL4 rC4 ∧
  HCalls Tryz.prog 32 #[.slice r6 rL1 rC1] h18 fun v12 h19 => ∃ (r14 : Option Addr) (rL5 rC5 : Nat), v12 = .slice r14 rL5 rC5 ∧
  HCalls Tryz.prog 22 #[.slice r13 rL4 rC4, .slice r14 rL5 rC5] h19 fun v13 h20 => ∃ r15 : Bool, v13 = .bool r15 ∧
  cond (!r15)
  (K (.bool false) h20)
  (HCalls Tryz.prog 17 #[.pointer q] h20 fun v14 h21 => ∃ (r16 : Option Addr) (rL6 rC6 : Nat), v14 = .slice r16 rL6 rC6 ∧
  HCalls Tryz.prog 33 #[.slice r6 rL1 rC1] h21 fun v15 h22 => ∃ (r17 : Option Addr) (rL7 rC7 : Nat), v15 = .slice r17 rL7 rC7 ∧
  HCalls Tryz.prog 22 #[.slice r16 rL6 rC6, .slice r17 rL7 rC7] h22 fun v16 h23 => ∃ r18 : Bool, v16 = .bool r18 ∧
  cond (!r18)
  (K (.bool false) h23)
  (l35_PartialretroQueue_b3 q r6 rL1 rC1 r8 rL2 rC2 r9 r10 t20 t20L t20C t21 t22 h23 nx0 K)))))
  (l35_PartialretroQueue_b4  h  K)) := by kernel_rfl
theorem l35_PartialretroQueue_b3_eq (q : Option Addr) (m : Option Addr) (mL : Nat) (mC : Nat) (keys : Option Addr) (keysL : Nat) (keysC : Nat) (least : Int) (e : Int) (t20 : Option Addr) (t20L : Nat) (t20C : Nat) (t21 : Int) (t22 : Int) (h : Hp) (nx0 : (Option Addr × Nat × Nat) × Int × Unit → Hp → Prop) (K : Value → Hp → Prop) : l35_PartialretroQueue_b3 q m mL mC keys keysL keysC least e t20 t20L t20C t21 t22 h nx0 K = (
  cond (decide ((keysL : Int) = 0))
  (cond (!decide (least = 0))
  (K (.bool false) h)
  (cond (!decide (e = 14))
  (K (.bool false) h)
  (l35_PartialretroQueue_b5 q m mL mC t20 t20L t20C t21 t22 h nx0 K)))
  ((0 ≤ (0 : Int) ∧ (0 : Int) < (keysL : Int)) ∧
  NN keys fun a4 =>
  ∃ n9 : Int, cell h (a4.add (Int.toNat (0 : Int) * 1)) = some (.int .i64 n9) ∧
  cond (!decide (least = n9))
  (K (.bool false) h)
  (cond (!decide (e = 0))
  (K (.bool false) h)
  (l35_PartialretroQueue_b5 q m mL mC t20 t20L t20C t21 t22 h nx0 K)))) := by kernel_rfl
theorem l35_PartialretroQueue_b4_eq  (h : Hp)  (K : Value → Hp → Prop) : l35_PartialretroQueue_b4  h  K = (
  K (.bool true) h) := by kernel_rfl
theorem l35_PartialretroQueue_b5_eq (q : Option Addr) (m : Option Addr) (mL : Nat) (mC : Nat) (t20 : Option Addr) (t20L : Nat) (t20C : Nat) (t21 : Int) (t22 : Int) (h : Hp) (nx0 : (Option Addr × Nat × Nat) × Int × Unit → Hp → Prop) (K : Value → Hp → Prop) : l35_PartialretroQueue_b5 q m mL mC t20 t20L t20C t21 t22 h nx0 K = (
  InR (t22 + 1) ∧
  nx0 ((m, mL, mC), t22 + 1, ()) h) := by kernel_rfl
theorem l35_PartialretroQueue_call {l : Option Addr} {lL : Nat} {lC : Nat} {h : Hp} {K : Value → Hp → Prop} (hk : l35_PartialretroQueue_b0 l lL lC h K) : HCalls Tryz.prog 5 #[.slice l lL lC] h K :=
  calls_of_snd l35_PartialretroQueue_an Tryz.func5 (c := bodyOf Tryz.f5) rfl Tryz.ntmps5 (Nat.le_of_ble_eq_true rfl) (snd_4 F_ok F_mixed) hk

/-! ### l35_PartialretroNil -/
def l35_PartialretroNil_an : Ann := .node none (.leaf) (.node (some [0, 1, 5]) (.leaf) (.leaf))
def l35_PartialretroNil_K0  (K : Value → Hp → Prop) : Exit → Env → Hp → Prop := retK Tryz.prog Tryz.f7.results.toList K
def l35_PartialretroNil_b0 (time : Int) (key : Int) (o_0 : Int) (o_1 : Option Addr) (o_1L : Nat) (o_1C : Nat) (h : Hp)  (K : Value → Hp → Prop) : Prop :=
  sx_2 Tryz.prog F 119 (cp [] (bodyOf Tryz.f7)) (ap [] l35_PartialretroNil_an) [(0, .int .i64 time), (1, .int .i64 key), (2, .agg #[.int .i64 o_0, .slice o_1 o_1L o_1C])] h (l35_PartialretroNil_K0  K)
def l35_PartialretroNil_b1 (time : Int) (key : Int) (o : Option Addr) (h : Hp)  (K : Value → Hp → Prop) : Prop :=
  sx_1 Tryz.prog F 119 (cp [1, 1] (bodyOf Tryz.f7)) (ap [1, 1] l35_PartialretroNil_an) [(0, .int .i64 time), (1, .int .i64 key), (5, .pointer o)] h (l35_PartialretroNil_K0  K)
theorem l35_PartialretroNil_b0_eq (time : Int) (key : Int) (o_0 : Int) (o_1 : Option Addr) (o_1L : Nat) (o_1C : Nat) (h : Hp)  (K : Value → Hp → Prop) : l35_PartialretroNil_b0 time key o_0 o_1 o_1L o_1C h  K = (
  New h (.cells #[.int .i64 o_0, .slice o_1 o_1L o_1C] 25) fun b1 h1 =>
  HCalls Tryz.prog 9 #[] h1 fun v1 h2 => ∃ r1 : Bool, v1 = .bool r1 ∧
  cond (!r1)
  (HCalls Tryz.prog 9 #[] h2 fun v2 h3 => ∃ r2 : Bool, v2 = .bool r2 ∧
  K (.bool r2) h3)
  (∃ (a1 : Option Addr) (L1 C1 : Nat), cell h2 ((⟨b1, 0, none⟩ : Addr).add 1) = some (.slice a1 L1 C1) ∧
  cond (decide ((70 : Int) < (L1 : Int)))
  (HCalls Tryz.prog 9 #[] h2 fun v3 h4 => ∃ r3 : Bool, v3 = .bool r3 ∧
  K (.bool r3) h4)
  (l35_PartialretroNil_b1 time key (some ⟨b1, 0, none⟩) h2  K))) := by kernel_rfl
theorem l35_PartialretroNil_b1_eq (time : Int) (key : Int) (o : Option Addr) (h : Hp)  (K : Value → Hp → Prop) : l35_PartialretroNil_b1 time key o h  K = (
  HCalls Tryz.prog 31 #[.pointer none] h fun v4 h5 => ∃ r4 : Int, ∃ r5 : Int, v4 = .tuple #[.int .i64 r4, .int .i64 r5] ∧
  NN o fun a2 =>
  ∃ n1 : Int, ∃ (a3 : Option Addr) (L2 C2 : Nat), cell h5 a2 = some (.int .i64 n1) ∧
  cell h5 (a2.add 1) = some (.slice a3 L2 C2) ∧
  HCalls Tryz.prog 35 #[.pointer none, .agg #[.int .i64 n1, .slice a3 L2 C2]] h5 fun v5 h6 => ∃ r6 : Int, ∃ r7 : Int, ∃ (r8 : Option Addr) (rL1 rC1 : Nat), ∃ r9 : Int, v5 = .tuple #[.agg #[.int .i64 r6, .int .i64 r7, .slice r8 rL1 rC1], .int .i64 r9] ∧
  New h6 (.cells #[.int .i64 0, .int .i64 0, .slice none 0 0] 61) fun b2 h7 =>
  Wr h7 ⟨b2, 0, none⟩ (.int .i64 r6) fun h8 =>
  Wr h8 ((⟨b2, 0, none⟩ : Addr).add 1) (.int .i64 r7) fun h9 =>
  Wr h9 ((⟨b2, 0, none⟩ : Addr).add 2) (.slice r8 rL1 rC1) fun h10 =>
  HCalls Tryz.prog 47 #[.pointer none] h10 fun v6 h11 => ∃ r10 : Int, ∃ r11 : Int, v6 = .tuple #[.int .i64 r10, .int .i64 r11] ∧
  HCalls Tryz.prog 20 #[.pointer none, .int .i64 time, .int .i64 key] h11 fun v7 h12 => ∃ r12 : Int, v7 = .int .i64 r12 ∧
  cond (decide (r12 = 1))
  (HCalls Tryz.prog 25 #[.pointer none, .int .i64 time] h12 fun v8 h13 => ∃ r13 : Int, v8 = .int .i64 r13 ∧
  cond (decide (r13 = 1))
  (HCalls Tryz.prog 29 #[.pointer none, .int .i64 time] h13 fun v9 h14 => ∃ r14 : Int, v9 = .int .i64 r14 ∧
  cond (decide (r14 = 1))
  (cond (decide (r4 = 0))
  (cond (decide (r5 = 1))
  (HCalls Tryz.prog 16 #[.pointer none] h14 fun v10 h15 => ∃ (r15 : Option Addr) (rL2 rC2 : Nat), v10 = .slice r15 rL2 rC2 ∧
  cond (decide ((rL2 : Int) = 0))
  (HCalls Tryz.prog 27 #[.pointer none] h15 fun v11 h16 => ∃ (r16 : Option Addr) (rL3 rC3 : Nat), v11 = .slice r16 rL3 rC3 ∧
  cond (decide ((rL3 : Int) = 0))
  (HCalls Tryz.prog 17 #[.pointer none] h16 fun v12 h17 => ∃ (r17 : Option Addr) (rL4 rC4 : Nat), v12 = .slice r17 rL4 rC4 ∧
  cond (decide ((rL4 : Int) = 0))
  (NN o fun a4 =>
  ∃ n2 : Int, ∃ (a5 : Option Addr) (L3 C3 : Nat), cell h17 a4 = some (.int .i64 n2) ∧
  cell h17 (a4.add 1) = some (.slice a5 L3 C3) ∧
  HCalls Tryz.prog 41 #[.pointer none, .int .i64 time, .agg #[.int .i64 n2, .slice a5 L3 C3]] h17 fun v13 h18 => ∃ r18 : Int, v13 = .int .i64 r18 ∧
  cond (decide (r18 = 1))
  (HCalls Tryz.prog 44 #[.pointer none, .int .i64 time] h18 fun v14 h19 => ∃ r19 : Int, v14 = .int .i64 r19 ∧
  cond (decide (r19 = 1))
  (∃ n3 : Int, ∃ n4 : Int, ∃ (a6 : Option Addr) (L4 C4 : Nat), cell h19 ⟨b2, 0, none⟩ = some (.int .i64 n3) ∧
  cell h19 ((⟨b2, 0, none⟩ : Addr).add 1) = some (.int .i64 n4) ∧
  cell h19 ((⟨b2, 0, none⟩ : Addr).add 2) = some (.slice a6 L4 C4) ∧
  HCalls Tryz.prog 40 #[.agg #[.int .i64 n3, .int .i64 n4, .slice a6 L4 C4], .agg #[.int .i64 0, .int .i64 0, .slice none 0 0]] h19 fun v15 h20 => ∃ r20 : Bool, v15 = .bool r20 ∧
  cond r20
  (cond (decide (r9 = 1))
  (HCalls Tryz.prog 49 #[.pointer none] h20 fun v16 h21 => ∃ r21 : Int, ∃ (r22 : Option Addr) (rL5 rC5 : Nat), v16 = .agg #[.int .i64 r21, .slice r22 rL5 rC5] ∧
  HCalls Tryz.prog 48 #[.agg #[.int .i64 r21, .slice r22 rL5 rC5], .agg #[.int .i64 0, .slice none 0 0]] h21 fun v17 h22 => ∃ r23 : Bool, v17 = .bool r23 ∧
  cond r23
  (cond (decide (r10 = 0))
  (K (.bool (decide (r11 = 1))) h22)
  (K (.bool false) h22))
  (K (.bool false) h22))
  (K (.bool false) h20))
  (K (.bool false) h20))
  (K (.bool false) h19))
  (K (.bool false) h18))
  (K (.bool false) h17))
  (K (.bool false) h16))
  (K (.bool false) h15))
  (K (.bool false) h14))
  (K (.bool false) h14))
  (K (.bool false) h14))
  (K (.bool false) h13))
  (K (.bool false) h12)) := by kernel_rfl
theorem l35_PartialretroNil_call {time : Int} {key : Int} {o_0 : Int} {o_1 : Option Addr} {o_1L : Nat} {o_1C : Nat} {h : Hp} {K : Value → Hp → Prop} (hk : l35_PartialretroNil_b0 time key o_0 o_1 o_1L o_1C h K) : HCalls Tryz.prog 7 #[.int .i64 time, .int .i64 key, .agg #[.int .i64 o_0, .slice o_1 o_1L o_1C]] h K :=
  calls_of_snd l35_PartialretroNil_an Tryz.func7 (c := bodyOf Tryz.f7) rfl Tryz.ntmps7 (Nat.le_of_ble_eq_true rfl) (snd_2 F_ok F_mixed) hk

/-! ### l35_awake -/
def l35_awake_an : Ann := .node none (.leaf) (.node none (.leaf) (.node (some [1]) (.leaf) (.node (some [1]) (.leaf) (.leaf))))
def l35_awake_K0  (K : Value → Hp → Prop) : Exit → Env → Hp → Prop := retK Tryz.prog Tryz.f9.results.toList K
def l35_awake_b0  (h : Hp)  (K : Value → Hp → Prop) : Prop :=
  sx_3 Tryz.prog F 79 (cp [] (bodyOf Tryz.f9)) (ap [] l35_awake_an) [] h (l35_awake_K0  K)
def l35_awake_b1 (q : Option Addr) (h : Hp)  (K : Value → Hp → Prop) : Prop :=
  sx_2 Tryz.prog F 79 (cp [1, 1, 1] (bodyOf Tryz.f9)) (ap [1, 1, 1] l35_awake_an) [(1, .pointer q)] h (l35_awake_K0  K)
def l35_awake_b2 (q : Option Addr) (h : Hp)  (K : Value → Hp → Prop) : Prop :=
  sx_1 Tryz.prog F 79 (cp [1, 1, 1, 1] (bodyOf Tryz.f9)) (ap [1, 1, 1, 1] l35_awake_an) [(1, .pointer q)] h (l35_awake_K0  K)
theorem l35_awake_b0_eq  (h : Hp)  (K : Value → Hp → Prop) : l35_awake_b0  h  K = (
  HCalls Tryz.prog 13 #[] h fun v1 h1 => ∃ r1 : Option Addr, v1 = .pointer r1 ∧
  cond r1.isNone
  (K (.bool false) h1)
  (HCalls Tryz.prog 20 #[.pointer r1, .int .i64 1, .int .i64 5] h1 fun v2 h2 => ∃ r2 : Int, v2 = .int .i64 r2 ∧
  cond (!decide (r2 = 0))
  (K (.bool false) h2)
  (HCalls Tryz.prog 20 #[.pointer r1, .int .i64 2, .int .i64 3] h2 fun v3 h3 => ∃ r3 : Int, v3 = .int .i64 r3 ∧
  cond (!decide (r3 = 0))
  (K (.bool false) h3)
  (HCalls Tryz.prog 20 #[.pointer r1, .int .i64 4, .int .i64 8] h3 fun v4 h4 => ∃ r4 : Int, v4 = .int .i64 r4 ∧
  cond (!decide (r4 = 0))
  (K (.bool false) h4)
  (HCalls Tryz.prog 25 #[.pointer r1, .int .i64 3] h4 fun v5 h5 => ∃ r5 : Int, v5 = .int .i64 r5 ∧
  cond (!decide (r5 = 0))
  (K (.bool false) h5)
  (HCalls Tryz.prog 25 #[.pointer r1, .int .i64 6] h5 fun v6 h6 => ∃ r6 : Int, v6 = .int .i64 r6 ∧
  cond (!decide (r6 = 0))
  (K (.bool false) h6)
  (l35_awake_b1 r1 h6  K))))))) := by kernel_rfl
theorem l35_awake_b1_eq (q : Option Addr) (h : Hp)  (K : Value → Hp → Prop) : l35_awake_b1 q h  K = (
  HCalls Tryz.prog 16 #[.pointer q] h fun v7 h7 => ∃ (r7 : Option Addr) (rL1 rC1 : Nat), v7 = .slice r7 rL1 rC1 ∧
  New h7 (.cells #[.int .i64 8] 3) fun b1 h8 =>
  HCalls Tryz.prog 22 #[.slice r7 rL1 rC1, .slice (some ⟨b1, 0, none⟩) 1 1] h8 fun v8 h9 => ∃ r8 : Bool, v8 = .bool r8 ∧
  cond (!r8)
  (K (.bool false) h9)
  (HCalls Tryz.prog 17 #[.pointer q] h9 fun v9 h10 => ∃ (r9 : Option Addr) (rL2 rC2 : Nat), v9 = .slice r9 rL2 rC2 ∧
  New h10 (.cells #[.int .i64 6] 3) fun b2 h11 =>
  HCalls Tryz.prog 22 #[.slice r9 rL2 rC2, .slice (some ⟨b2, 0, none⟩) 1 1] h11 fun v10 h12 => ∃ r10 : Bool, v10 = .bool r10 ∧
  cond (!r10)
  (K (.bool false) h12)
  (HCalls Tryz.prog 20 #[.pointer q, .int .i64 5, .int .i64 4] h12 fun v11 h13 => ∃ r11 : Int, v11 = .int .i64 r11 ∧
  cond (!decide (r11 = 0))
  (K (.bool false) h13)
  (l35_awake_b2 q h13  K)))) := by kernel_rfl
theorem l35_awake_b2_eq (q : Option Addr) (h : Hp)  (K : Value → Hp → Prop) : l35_awake_b2 q h  K = (
  HCalls Tryz.prog 34 #[.int .i64 1] h fun v12 h14 => ∃ r12 : Option Addr, ∃ r13 : Int, v12 = .tuple #[.pointer r12, .int .i64 r13] ∧
  HCalls Tryz.prog 16 #[.pointer q] h14 fun v13 h15 => ∃ (r14 : Option Addr) (rL3 rC3 : Nat), v13 = .slice r14 rL3 rC3 ∧
  New h15 (.cells #[.int .i64 5, .int .i64 8] 3) fun b3 h16 =>
  HCalls Tryz.prog 22 #[.slice r14 rL3 rC3, .slice (some ⟨b3, 0, none⟩) 2 2] h16 fun v14 h17 => ∃ r15 : Bool, v14 = .bool r15 ∧
  cond r15
  (cond (decide (r13 = 0))
  (cond (!r12.isNone)
  (New h17 (.cells #[.int .i64 1, .int .i64 2] 3) fun b4 h18 =>
  HCalls Tryz.prog 41 #[.pointer r12, .int .i64 3, .agg #[.int .i64 1, .slice (some ⟨b4, 0, none⟩) 2 2]] h18 fun v15 h19 => ∃ r16 : Int, v15 = .int .i64 r16 ∧
  cond (decide (r16 = 0))
  (New h19 (.cells #[.int .i64 1] 3) fun b5 h20 =>
  HCalls Tryz.prog 41 #[.pointer r12, .int .i64 2, .agg #[.int .i64 3, .slice (some ⟨b5, 0, none⟩) 1 1]] h20 fun v16 h21 => ∃ r17 : Int, v16 = .int .i64 r17 ∧
  K (.bool (decide (r17 = 13))) h21)
  (K (.bool false) h19))
  (K (.bool false) h17))
  (K (.bool false) h17))
  (K (.bool false) h17)) := by kernel_rfl
theorem l35_awake_call  {h : Hp} {K : Value → Hp → Prop} (hk : l35_awake_b0  h K) : HCalls Tryz.prog 9 #[] h K :=
  calls_of_snd l35_awake_an Tryz.func9 (c := bodyOf Tryz.f9) rfl Tryz.ntmps9 (Nat.le_of_ble_eq_true rfl) (snd_3 F_ok F_mixed) hk

/-! ### l35_few -/
def l35_few_an : Ann := .leaf
def l35_few_K0  (K : Value → Hp → Prop) : Exit → Env → Hp → Prop := retK Tryz.prog Tryz.f10.results.toList K
def l35_few_b0 (l : Option Addr) (lL : Nat) (lC : Nat) (h : Hp)  (K : Value → Hp → Prop) : Prop :=
  sx_1 Tryz.prog F 11 (cp [] (bodyOf Tryz.f10)) (ap [] l35_few_an) [(0, .slice l lL lC)] h (l35_few_K0  K)
theorem l35_few_b0_eq (l : Option Addr) (lL : Nat) (lC : Nat) (h : Hp)  (K : Value → Hp → Prop) : l35_few_b0 l lL lC h  K = (
  cond (decide ((lL : Int) ≤ 30))
  (HCalls Tryz.prog 54 #[.slice l lL lC, .func (.func 55) #[] #[]] h fun v1 h1 => ∃ r1 : Bool, v1 = .bool r1 ∧
  K (.bool (!r1)) h1)
  (K (.bool false) h)) := by kernel_rfl
theorem l35_few_call {l : Option Addr} {lL : Nat} {lC : Nat} {h : Hp} {K : Value → Hp → Prop} (hk : l35_few_b0 l lL lC h K) : HCalls Tryz.prog 10 #[.slice l lL lC] h K :=
  calls_of_snd l35_few_an Tryz.func10 (c := bodyOf Tryz.f10) rfl Tryz.ntmps10 (Nat.le_of_ble_eq_true rfl) (snd_1 F_ok F_mixed) hk

end Go.Proofs.YtdlkohenamlnaaaGreat
