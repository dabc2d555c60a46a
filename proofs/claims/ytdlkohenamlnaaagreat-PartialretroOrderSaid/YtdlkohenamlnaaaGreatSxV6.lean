/- Plain statements of what each block of code of this seat asks; printed by a program, checked by Lean. -/
import Derived.Test.YtdlkohenamlnaaaGreatSxV0
set_option maxRecDepth 10000
namespace Go.Proofs.YtdlkohenamlnaaaGreat
open Go Go.Sx

/-! ### r03_text -/
/-! ### r03_SameList -/
/-! ### partialretro_Log_change -/
def partialretro_Log_change_an : Ann := .node none (.leaf) (.node none (.leaf) (.node none (.leaf) (.node none (.leaf) (.node (some [0, 1, 2, 9]) (.node none (.leaf) (.loop [0, 1, 2, 9, 32, 33] [(34, .int .i64)] (.node none (.leaf) (.node none (.leaf) (.node (some [0, 1, 2, 9, 32, 33, 34]) (.node none (.leaf) (.node none (.leaf) (.node none (.node none (.plan (.qu 0 (.qu 1 (.qu 2 (.qu 3 (.qu 4 (.qu 5 (.qu 6 (.qu 7 (.qu 8 (.qu 9 (.wo 10 (.qu 11 (.qu 12 (.wo 13 .fin .no))) .no)))))))))))) (.leaf)) (.leaf)))) (.leaf)))))) (.node none (.plan (.qu 0 (.qu 1 (.qu 2 (.qu 3 (.qu 4 (.qu 5 (.qu 6 (.qu 7 (.wo 8 (.qu 9 (.qu 10 (.wo 11 (.qu 12 (.qu 13 (.wo 14 .fin .no))) .no))) .no)))))))))) (.leaf))))))
def partialretro_Log_change_K0  (K : Value → Hp → Prop) : Exit → Env → Hp → Prop := retK Tryz.prog Tryz.f84.results.toList K
def partialretro_Log_change_K1  (K : Value → Hp → Prop) : Exit → Env → Hp → Prop := thenE (fun env h => sx_2 Tryz.prog F 67 (cp [1, 1, 1, 1, 1] (bodyOf Tryz.f84)) (ap [1, 1, 1, 1, 1] partialretro_Log_change_an) (rs [0, 1, 2, 9] env) h (partialretro_Log_change_K0  K)) (partialretro_Log_change_K0  K)
def partialretro_Log_change_K2  (K : Value → Hp → Prop) : Exit → Env → Hp → Prop := blockE 0 (partialretro_Log_change_K1  K)
def partialretro_Log_change_K3 (nx0 : Int × Unit → Hp → Prop) (K : Value → Hp → Prop) : Exit → Env → Hp → Prop := thenE (fun env h => getV [(34, .int .i64)] env fun s => nx0 s h) (partialretro_Log_change_K2  K)
def partialretro_Log_change_b0 (g : Option Addr) (times : Option Addr) (timesL : Nat) (timesC : Nat) (ops : Option Addr) (opsL : Nat) (opsC : Nat) (h : Hp)  (K : Value → Hp → Prop) : Prop :=
  sx_3 Tryz.prog F 67 (cp [] (bodyOf Tryz.f84)) (ap [] partialretro_Log_change_an) [(0, .pointer g), (1, .slice times timesL timesC), (2, .slice ops opsL opsC)] h (partialretro_Log_change_K0  K)
def partialretro_Log_change_b1 (t34 : Int) (g : Option Addr) (times : Option Addr) (timesL : Nat) (timesC : Nat) (ops : Option Addr) (opsL : Nat) (opsC : Nat) (next : Option Addr) (t32 : Option Addr) (t32L : Nat) (t32C : Nat) (t33 : Int) (h : Hp) (nx0 : Int × Unit → Hp → Prop) (K : Value → Hp → Prop) : Prop :=
  sx_2 Tryz.prog F 67 (cp [1, 1, 1, 1, 0, 1, 2, 2] (bodyOf Tryz.f84)) (ap [1, 1, 1, 1, 0, 1, 2] partialretro_Log_change_an) [(34, .int .i64 t34), (0, .pointer g), (1, .slice times timesL timesC), (2, .slice ops opsL opsC), (9, .pointer next), (32, .slice t32 t32L t32C), (33, .int .i64 t33)] h (partialretro_Log_change_K3 nx0 K)
def partialretro_Log_change_b2 (g : Option Addr) (times : Option Addr) (timesL : Nat) (timesC : Nat) (ops : Option Addr) (opsL : Nat) (opsC : Nat) (next : Option Addr) (t32 : Option Addr) (t32L : Nat) (t32C : Nat) (t33 : Int) (t34 : Int) (h : Hp) (nx0 : Int × Unit → Hp → Prop) (K : Value → Hp → Prop) : Prop :=
  sx_1 Tryz.prog F 67 (cp [1, 1, 1, 1, 0, 1, 2, 2, 1, 1, 1] (bodyOf Tryz.f84)) (ap [1, 1, 1, 1, 0, 1, 2, 1, 1, 1] partialretro_Log_change_an) [(0, .pointer g), (1, .slice times timesL timesC), (2, .slice ops opsL opsC), (9, .pointer next), (32, .slice t32 t32L t32C), (33, .int .i64 t33), (34, .int .i64 t34)] h (partialretro_Log_change_K3 nx0 K)
def partialretro_Log_change_b3 (g : Option Addr) (times : Option Addr) (timesL : Nat) (timesC : Nat) (ops : Option Addr) (opsL : Nat) (opsC : Nat) (next : Option Addr) (h : Hp)  (K : Value → Hp → Prop) : Prop :=
  sx_2 Tryz.prog F 67 (cp [1, 1, 1, 1, 1] (bodyOf Tryz.f84)) (ap [1, 1, 1, 1, 1] partialretro_Log_change_an) [(0, .pointer g), (1, .slice times timesL timesC), (2, .slice ops opsL opsC), (9, .pointer next)] h (partialretro_Log_change_K0  K)
theorem partialretro_Log_change_b0_eq (g : Option Addr) (times : Option Addr) (timesL : Nat) (timesC : Nat) (ops : Option Addr) (opsL : Nat) (opsC : Nat) (h : Hp)  (K : Value → Hp → Prop) : partialretro_Log_change_b0 g times timesL timesC ops opsL opsC h  K = (
  NN g fun a1 =>
  ∃ n1 : Int, cell h a1 = some (.int .i64 n1) ∧
  HCalls Tryz.prog 52 #[.int .i64 n1] h fun v1 h1 => ∃ r1 : Int, ∃ (r2 : Option Addr) (rL1 rC1 : Nat), ∃ r3 : Int, v1 = .tuple #[.agg #[.int .i64 r1, .slice r2 rL1 rC1], .int .i64 r3] ∧
  New h1 (.cells #[.int .i64 0, .slice none 0 0] 66) fun b1 h2 =>
  Wr h2 ⟨b1, 0, none⟩ (.int .i64 r1) fun h3 =>
  Wr h3 ((⟨b1, 0, none⟩ : Addr).add 1) (.slice r2 rL1 rC1) fun h4 =>
  ∃ n2 : Int, ∃ (a2 : Option Addr) (L1 C1 : Nat), cell h4 ⟨b1, 0, none⟩ = some (.int .i64 n2) ∧
  cell h4 ((⟨b1, 0, none⟩ : Addr).add 1) = some (.slice a2 L1 C1) ∧
  HCalls Tryz.prog 121 #[.agg #[.int .i64 n2, .slice a2 L1 C1], .slice ops opsL opsC] h4 fun v2 h5 => ∃ r4 : Int, ∃ (r5 : Option Addr) (rL2 rC2 : Nat), ∃ (r6 : Option Addr) (rL3 rC3 : Nat), ∃ r7 : Int, v2 = .tuple #[.agg #[.int .i64 r4, .slice r5 rL2 rC2], .slice r6 rL3 rC3, .int .i64 r7] ∧
  New h5 (.cells #[.int .i64 0, .slice none 0 0] 66) fun b2 h6 =>
  Wr h6 ⟨b2, 0, none⟩ (.int .i64 r4) fun h7 =>
  Wr h7 ((⟨b2, 0, none⟩ : Addr).add 1) (.slice r5 rL2 rC2) fun h8 =>
  cond (!decide (r7 = 0))
  (K (.int .i64 r7) h8)
  (LoopVC ((0, ()) : Int × Unit) h8 (fun (nx0 : Int × Unit → Hp → Prop) (s1 : Int × Unit) h9 => partialretro_Log_change_b1 s1.1 g times timesL timesC ops opsL opsC (some ⟨b2, 0, none⟩) r6 rL3 rC3 (rL3 : Int) h9 nx0 K))) := by kernel_rfl
theorem partialretro_Log_change_b1_eq (t34 : Int) (g : Option Addr) (times : Option Addr) (timesL : Nat) (timesC : Nat) (ops : Option Addr) (opsL : Nat) (opsC : Nat) (next : Option Addr) (t32 : Option Addr) (t32L : Nat) (t32C : Nat) (t33 : Int) (h : Hp) (nx0 : Int × Unit → Hp → Prop) (K : Value → Hp → Prop) : partialretro_Log_change_b1 t34 g times timesL timesC ops opsL opsC next t32 t32L t32C t33 h nx0 K = (
  cond (decide (t34 < t33))
  ((0 ≤ t34 ∧ t34 < (t32L : Int)) ∧
  NN t32 fun a3 =>
  ∃ n3 : Int, ∃ n4 : Int, ∃ (a4 : Option Addr) (L2 C2 : Nat), cell h (a3.add (Int.toNat t34 * 3)) = some (.int .i64 n3) ∧
  cell h ((a3.add (Int.toNat t34 * 3)).add 1) = some (.int .i64 n4) ∧
  cell h ((a3.add (Int.toNat t34 * 3)).add 2) = some (.slice a4 L2 C2) ∧
  New h (.cells #[.int .i64 0, .int .i64 0, .slice none 0 0] 61) fun b3 h10 =>
  Wr h10 ⟨b3, 0, none⟩ (.int .i64 n3) fun h11 =>
  Wr h11 ((⟨b3, 0, none⟩ : Addr).add 1) (.int .i64 n4) fun h12 =>
  Wr h12 ((⟨b3, 0, none⟩ : Addr).add 2) (.slice a4 L2 C2) fun h13 =>
  ∃ n5 : Int, cell h13 ⟨b3, 0, none⟩ = some (.int .i64 n5) ∧
  cond (!decide (n5 = 0))
  ((0 ≤ t34 ∧ t34 < (timesL : Int)) ∧
  NN times fun a5 =>
  ∃ n6 : Int, cell h13 (a5.add (Int.toNat t34 * 1)) = some (.int .i64 n6) ∧
  ∃ n7 : Int, cell h13 ⟨b3, 0, none⟩ = some (.int .i64 n7) ∧
  NN g fun a6 =>
  Wr h13 (a6.add 5) (.int .i64 n6) fun h14 =>
  (∃ n8 : Int, cell h14 ⟨b3, 0, none⟩ = some (.int .i64 n8) ∧
  (.int .i64 n8 : Value) = .int .i64 n7) ∧
  NN g fun a7 =>
  Wr h14 (a7.add 6) (.int .i64 n7) fun h15 =>
  K (.int .i64 13) h15)
  (partialretro_Log_change_b2 g times timesL timesC ops opsL opsC next t32 t32L t32C t33 t34 h13 nx0 K))
  (partialretro_Log_change_b3 g times timesL timesC ops opsL opsC next h  K)) := by kernel_rfl
theorem partialretro_Log_change_b2_eq (g : Option Addr) (times : Option Addr) (timesL : Nat) (timesC : Nat) (ops : Option Addr) (opsL : Nat) (opsC : Nat) (next : Option Addr) (t32 : Option Addr) (t32L : Nat) (t32C : Nat) (t33 : Int) (t34 : Int) (h : Hp) (nx0 : Int × Unit → Hp → Prop) (K : Value → Hp → Prop) : partialretro_Log_change_b2 g times timesL timesC ops opsL opsC next t32 t32L t32C t33 t34 h nx0 K = (
  InR (t34 + 1) ∧
  nx0 (t34 + 1, ()) h) := by kernel_rfl
theorem partialretro_Log_change_b3_eq (g : Option Addr) (times : Option Addr) (timesL : Nat) (timesC : Nat) (ops : Option Addr) (opsL : Nat) (opsC : Nat) (next : Option Addr) (h : Hp)  (K : Value → Hp → Prop) : partialretro_Log_change_b3 g times timesL timesC ops opsL opsC next h  K = (
  NN next fun a8 =>
  ∃ n9 : Int, ∃ (a9 : Option Addr) (L3 C3 : Nat), cell h a8 = some (.int .i64 n9) ∧
  cell h (a8.add 1) = some (.slice a9 L3 C3) ∧
  NN g fun a10 =>
  Wr h (a10.add 1) (.slice times timesL timesC) fun h16 =>
  (NN next fun a11 =>
  ∃ n10 : Int, ∃ (a12 : Option Addr) (L4 C4 : Nat), cell h16 a11 = some (.int .i64 n10) ∧
  cell h16 (a11.add 1) = some (.slice a12 L4 C4) ∧
  (.agg #[.int .i64 n10, .slice a12 L4 C4] : Value) = .agg #[.int .i64 n9, .slice a9 L3 C3]) ∧
  NN g fun a13 =>
  Wr h16 (a13.add 2) (.slice ops opsL opsC) fun h17 =>
  (NN next fun a14 =>
  ∃ n11 : Int, ∃ (a15 : Option Addr) (L5 C5 : Nat), cell h17 a14 = some (.int .i64 n11) ∧
  cell h17 (a14.add 1) = some (.slice a15 L5 C5) ∧
  (.agg #[.int .i64 n11, .slice a15 L5 C5] : Value) = .agg #[.int .i64 n9, .slice a9 L3 C3]) ∧
  NN g fun a16 =>
  Wr h17 (a16.add 3) (.int .i64 n9) fun h18 =>
  Wr h18 ((a16.add 3).add 1) (.slice a9 L3 C3) fun h19 =>
  K (.int .i64 0) h19) := by kernel_rfl
theorem partialretro_Log_change_call {g : Option Addr} {times : Option Addr} {timesL : Nat} {timesC : Nat} {ops : Option Addr} {opsL : Nat} {opsC : Nat} {h : Hp} {K : Value → Hp → Prop} (hk : partialretro_Log_change_b0 g times timesL timesC ops opsL opsC h K) : HCalls Tryz.prog 84 #[.pointer g, .slice times timesL timesC, .slice ops opsL opsC] h K :=
  calls_of_snd partialretro_Log_change_an Tryz.func84 (c := bodyOf Tryz.f84) rfl Tryz.ntmps84 (Nat.le_of_ble_eq_true rfl) (snd_3 F_ok F_mixed) hk

/-! ### slices_Insert_Sapi_Op_api_Op -/
def slices_Insert_Sapi_Op_api_Op_an : Ann := .node none (.leaf) (.node none (.leaf) (.node none (.leaf) (.node none (.leaf) (.node none (.leaf) (.node none (.leaf) (.node none (.node none (.leaf) (.node none (.node none (.leaf) (.node none (.leaf) (.node none (.tail 8) (.leaf)))) (.leaf))) (.node none (.leaf) (.node none (.node none (.leaf) (.node none (.node none (.tail 8) (.leaf)) (.leaf))) (.leaf)))))))))
def slices_Insert_Sapi_Op_api_Op_K0  (K : Value → Hp → Prop) : Exit → Env → Hp → Prop := retK Tryz.prog Tryz.f85.results.toList K
def slices_Insert_Sapi_Op_api_Op_b0 (s : Option Addr) (sL : Nat) (sC : Nat) (i : Int) (v : Option Addr) (vL : Nat) (vC : Nat) (h : Hp)  (K : Value → Hp → Prop) : Prop :=
  sx_1 Tryz.prog F 95 (cp [] (bodyOf Tryz.f85)) (ap [] slices_Insert_Sapi_Op_api_Op_an) [(0, .slice s sL sC), (1, .int .i64 i), (2, .slice v vL vC)] h (slices_Insert_Sapi_Op_api_Op_K0  K)
theorem slices_Insert_Sapi_Op_api_Op_b0_eq (s : Option Addr) (sL : Nat) (sC : Nat) (i : Int) (v : Option Addr) (vL : Nat) (vC : Nat) (h : Hp)  (K : Value → Hp → Prop) : slices_Insert_Sapi_Op_api_Op_b0 s sL sC i v vL vC h  K = (
  (0 ≤ i ∧ i ≤ (sL : Int) ∧ (sL : Int) ≤ (sC : Int)) ∧
  cond (decide ((vL : Int) = 0))
  (K (.slice s sL sC) h)
  (cond (decide (i = (sL : Int)))
  (appendV Tryz.prog 113 113 (.slice s sL sC) (.slice v vL vC) h (slK fun a1 l1 c1 h1 =>
  K (.slice a1 l1 c1) h1))
  (InR ((sL : Int) + (vL : Int)) ∧
  cond (decide ((sC : Int) < ((sL : Int) + (vL : Int))))
  ((0 ≤ (0 : Int) ∧ (0 : Int) ≤ i ∧ i ≤ (sC : Int)) ∧
  InR ((sL : Int) + (vL : Int)) ∧
  InR (((sL : Int) + (vL : Int)) - i) ∧
  appendV Tryz.prog 113 3 (.slice (subAddr s sC (Int.toNat (0 : Int)) 2) (Int.toNat i - Int.toNat (0 : Int)) (sC - Int.toNat (0 : Int))) (.int .i64 (((sL : Int) + (vL : Int)) - i)) h (slK fun a2 l2 c2 h2 =>
  (0 ≤ i ∧ i ≤ (l2 : Int) ∧ (l2 : Int) ≤ (c2 : Int)) ∧
  copyV Tryz.prog 113 (.slice (subAddr a2 c2 (Int.toNat i) 2) (Int.toNat (l2 : Int) - Int.toNat i) (c2 - Int.toNat i)) (.slice v vL vC) h2 fun v1 h3 =>
  InR (i + (vL : Int)) ∧
  (0 ≤ i + (vL : Int) ∧ i + (vL : Int) ≤ (l2 : Int) ∧ (l2 : Int) ≤ (c2 : Int)) ∧
  (0 ≤ i ∧ i ≤ (sL : Int) ∧ (sL : Int) ≤ (sC : Int)) ∧
  copyV Tryz.prog 113 (.slice (subAddr a2 c2 (Int.toNat (i + (vL : Int))) 2) (Int.toNat (l2 : Int) - Int.toNat (i + (vL : Int))) (c2 - Int.toNat (i + (vL : Int)))) (.slice (subAddr s sC (Int.toNat i) 2) (Int.toNat (sL : Int) - Int.toNat i) (sC - Int.toNat i)) h3 fun v2 h4 =>
  K (.slice a2 l2 c2) h4))
  (InR ((sL : Int) + (vL : Int)) ∧
  (0 ≤ (0 : Int) ∧ (0 : Int) ≤ (sL : Int) + (vL : Int) ∧ (sL : Int) + (vL : Int) ≤ (sC : Int)) ∧
  InR (i + (vL : Int)) ∧
  (0 ≤ i + (vL : Int) ∧ i + (vL : Int) ≤ ((Int.toNat ((sL : Int) + (vL : Int)) - Int.toNat (0 : Int) : Nat) : Int) ∧ ((Int.toNat ((sL : Int) + (vL : Int)) - Int.toNat (0 : Int) : Nat) : Int) ≤ ((sC - Int.toNat (0 : Int) : Nat) : Int)) ∧
  ExtCall Tryz.prog 122 #[.slice v vL vC, .slice (subAddr (subAddr s sC (Int.toNat (0 : Int)) 2) (sC - Int.toNat (0 : Int)) (Int.toNat (i + (vL : Int))) 2) (Int.toNat ((Int.toNat ((sL : Int) + (vL : Int)) - Int.toNat (0 : Int) : Nat) : Int) - Int.toNat (i + (vL : Int))) ((sC - Int.toNat (0 : Int)) - Int.toNat (i + (vL : Int)))] h fun v3 => ∃ r1 : Bool, v3 = .bool r1 ∧
  cond (!r1)
  (InR (i + (vL : Int)) ∧
  (0 ≤ i + (vL : Int) ∧ i + (vL : Int) ≤ ((Int.toNat ((sL : Int) + (vL : Int)) - Int.toNat (0 : Int) : Nat) : Int) ∧ ((Int.toNat ((sL : Int) + (vL : Int)) - Int.toNat (0 : Int) : Nat) : Int) ≤ ((sC - Int.toNat (0 : Int) : Nat) : Int)) ∧
  (0 ≤ i ∧ i ≤ ((Int.toNat ((sL : Int) + (vL : Int)) - Int.toNat (0 : Int) : Nat) : Int) ∧ ((Int.toNat ((sL : Int) + (vL : Int)) - Int.toNat (0 : Int) : Nat) : Int) ≤ ((sC - Int.toNat (0 : Int) : Nat) : Int)) ∧
  copyV Tryz.prog 113 (.slice (subAddr (subAddr s sC (Int.toNat (0 : Int)) 2) (sC - Int.toNat (0 : Int)) (Int.toNat (i + (vL : Int))) 2) (Int.toNat ((Int.toNat ((sL : Int) + (vL : Int)) - Int.toNat (0 : Int) : Nat) : Int) - Int.toNat (i + (vL : Int))) ((sC - Int.toNat (0 : Int)) - Int.toNat (i + (vL : Int)))) (.slice (subAddr (subAddr s sC (Int.toNat (0 : Int)) 2) (sC - Int.toNat (0 : Int)) (Int.toNat i) 2) (Int.toNat ((Int.toNat ((sL : Int) + (vL : Int)) - Int.toNat (0 : Int) : Nat) : Int) - Int.toNat i) ((sC - Int.toNat (0 : Int)) - Int.toNat i)) h fun v4 h6 =>
  (0 ≤ i ∧ i ≤ ((Int.toNat ((sL : Int) + (vL : Int)) - Int.toNat (0 : Int) : Nat) : Int) ∧ ((Int.toNat ((sL : Int) + (vL : Int)) - Int.toNat (0 : Int) : Nat) : Int) ≤ ((sC - Int.toNat (0 : Int) : Nat) : Int)) ∧
  copyV Tryz.prog 113 (.slice (subAddr (subAddr s sC (Int.toNat (0 : Int)) 2) (sC - Int.toNat (0 : Int)) (Int.toNat i) 2) (Int.toNat ((Int.toNat ((sL : Int) + (vL : Int)) - Int.toNat (0 : Int) : Nat) : Int) - Int.toNat i) ((sC - Int.toNat (0 : Int)) - Int.toNat i)) (.slice v vL vC) h6 fun v5 h7 =>
  K (.slice (subAddr s sC (Int.toNat (0 : Int)) 2) (Int.toNat ((sL : Int) + (vL : Int)) - Int.toNat (0 : Int)) (sC - Int.toNat (0 : Int))) h7)
  ((0 ≤ (sL : Int) ∧ (sL : Int) ≤ ((Int.toNat ((sL : Int) + (vL : Int)) - Int.toNat (0 : Int) : Nat) : Int) ∧ ((Int.toNat ((sL : Int) + (vL : Int)) - Int.toNat (0 : Int) : Nat) : Int) ≤ ((sC - Int.toNat (0 : Int) : Nat) : Int)) ∧
  copyV Tryz.prog 113 (.slice (subAddr (subAddr s sC (Int.toNat (0 : Int)) 2) (sC - Int.toNat (0 : Int)) (Int.toNat (sL : Int)) 2) (Int.toNat ((Int.toNat ((sL : Int) + (vL : Int)) - Int.toNat (0 : Int) : Nat) : Int) - Int.toNat (sL : Int)) ((sC - Int.toNat (0 : Int)) - Int.toNat (sL : Int))) (.slice v vL vC) h fun v6 h8 =>
  (0 ≤ i ∧ i ≤ ((Int.toNat ((sL : Int) + (vL : Int)) - Int.toNat (0 : Int) : Nat) : Int) ∧ ((Int.toNat ((sL : Int) + (vL : Int)) - Int.toNat (0 : Int) : Nat) : Int) ≤ ((sC - Int.toNat (0 : Int) : Nat) : Int)) ∧
  HCalls Tryz.prog 123 #[.slice (subAddr (subAddr s sC (Int.toNat (0 : Int)) 2) (sC - Int.toNat (0 : Int)) (Int.toNat i) 2) (Int.toNat ((Int.toNat ((sL : Int) + (vL : Int)) - Int.toNat (0 : Int) : Nat) : Int) - Int.toNat i) ((sC - Int.toNat (0 : Int)) - Int.toNat i), .int .i64 (vL : Int)] h8 fun v7 h9 => v7 = .tuple #[] ∧
  K (.slice (subAddr s sC (Int.toNat (0 : Int)) 2) (Int.toNat ((sL : Int) + (vL : Int)) - Int.toNat (0 : Int)) (sC - Int.toNat (0 : Int))) h9))))) := by kernel_rfl
theorem slices_Insert_Sapi_Op_api_Op_call {s : Option Addr} {sL : Nat} {sC : Nat} {i : Int} {v : Option Addr} {vL : Nat} {vC : Nat} {h : Hp} {K : Value → Hp → Prop} (hk : slices_Insert_Sapi_Op_api_Op_b0 s sL sC i v vL vC h K) : HCalls Tryz.prog 85 #[.slice s sL sC, .int .i64 i, .slice v vL vC] h K :=
  calls_of_snd slices_Insert_Sapi_Op_api_Op_an Tryz.func85 (c := bodyOf Tryz.f85) rfl Tryz.ntmps85 (Nat.le_of_ble_eq_true rfl) (snd_1 F_ok F_mixed) hk

/-! ### slices_Clone_Sapi_Op_api_Op -/
def slices_Clone_Sapi_Op_api_Op_an : Ann := .leaf
def slices_Clone_Sapi_Op_api_Op_K0  (K : Value → Hp → Prop) : Exit → Env → Hp → Prop := retK Tryz.prog Tryz.f86.results.toList K
def slices_Clone_Sapi_Op_api_Op_b0 (s : Option Addr) (sL : Nat) (sC : Nat) (h : Hp)  (K : Value → Hp → Prop) : Prop :=
  sx_1 Tryz.prog F 8 (cp [] (bodyOf Tryz.f86)) (ap [] slices_Clone_Sapi_Op_api_Op_an) [(0, .slice s sL sC)] h (slices_Clone_Sapi_Op_api_Op_K0  K)
theorem slices_Clone_Sapi_Op_api_Op_b0_eq (s : Option Addr) (sL : Nat) (sC : Nat) (h : Hp)  (K : Value → Hp → Prop) : slices_Clone_Sapi_Op_api_Op_b0 s sL sC h  K = (
  cond (Option.isNone s)
  (K (.slice none 0 0) h)
  (New h (.cells #[] 25) fun b1 h1 =>
  appendV Tryz.prog 113 113 (.slice (some ⟨b1, 0, none⟩) 0 0) (.slice s sL sC) h1 (slK fun a1 l1 c1 h2 =>
  K (.slice a1 l1 c1) h2))) := by kernel_rfl
theorem slices_Clone_Sapi_Op_api_Op_call {s : Option Addr} {sL : Nat} {sC : Nat} {h : Hp} {K : Value → Hp → Prop} (hk : slices_Clone_Sapi_Op_api_Op_b0 s sL sC h K) : HCalls Tryz.prog 86 #[.slice s sL sC] h K :=
  calls_of_snd slices_Clone_Sapi_Op_api_Op_an Tryz.func86 (c := bodyOf Tryz.f86) rfl Tryz.ntmps86 (Nat.le_of_ble_eq_true rfl) (snd_1 F_ok F_mixed) hk

/-! ### slices_Delete_Sapi_Op_api_Op -/
/-! ### slices_pdqsortCmpFunc_l35_Step -/
def slices_pdqsortCmpFunc_l35_Step_an : Ann := .node none (.leaf) (.node none (.leaf) (.loop [0, 4] [(1, .int .i64), (2, .int .i64), (3, .int .i64), (10, .bool), (11, .bool)] (.node none (.leaf) (.node none (.leaf) (.node none (.leaf) (.node (some [0, 1, 2, 3, 4, 10, 11, 12]) (.leaf) (.node none (.leaf) (.node (some [0, 1, 2, 3, 4, 10, 11, 12, 13, 14]) (.leaf) (.node (some [0, 1, 2, 3, 4, 10, 11, 12, 13]) (.leaf) (.node (some [0, 1, 2, 3, 4, 12, 13]) (.node none (.tail 13) (.leaf)) (.leaf)))))))))))
def slices_pdqsortCmpFunc_l35_Step_K0  (K : Value → Hp → Prop) : Exit → Env → Hp → Prop := retK Tryz.prog Tryz.f88.results.toList K
def slices_pdqsortCmpFunc_l35_Step_K1  (K : Value → Hp → Prop) : Exit → Env → Hp → Prop := blockE 0 (slices_pdqsortCmpFunc_l35_Step_K0  K)
def slices_pdqsortCmpFunc_l35_Step_K2 (nx0 : Int × Int × Int × Bool × Bool × Unit → Hp → Prop) (K : Value → Hp → Prop) : Exit → Env → Hp → Prop := thenE (fun env h => getV [(1, .int .i64), (2, .int .i64), (3, .int .i64), (10, .bool), (11, .bool)] env fun s => nx0 s h) (slices_pdqsortCmpFunc_l35_Step_K1  K)
def slices_pdqsortCmpFunc_l35_Step_K3 (nx0 : Int × Int × Int × Bool × Bool × Unit → Hp → Prop) (K : Value → Hp → Prop) : Exit → Env → Hp → Prop := blockE 1 (slices_pdqsortCmpFunc_l35_Step_K2 nx0 K)
def slices_pdqsortCmpFunc_l35_Step_b0 (data : Option Addr) (dataL : Nat) (dataC : Nat) (a : Int) (b : Int) (limit : Int) (cmp : Value) (h : Hp)  (K : Value → Hp → Prop) : Prop :=
  sx_6 Tryz.prog F 148 (cp [] (bodyOf Tryz.f88)) (ap [] slices_pdqsortCmpFunc_l35_Step_an) [(0, .slice data dataL dataC), (1, .int .i64 a), (2, .int .i64 b), (3, .int .i64 limit), (4, cmp)] h (slices_pdqsortCmpFunc_l35_Step_K0  K)
def slices_pdqsortCmpFunc_l35_Step_b1 (a : Int) (b : Int) (limit : Int) (wasBalanced : Bool) (wasPartitioned : Bool) (data : Option Addr) (dataL : Nat) (dataC : Nat) (cmp : Value) (h : Hp) (nx0 : Int × Int × Int × Bool × Bool × Unit → Hp → Prop) (K : Value → Hp → Prop) : Prop :=
  sx_5 Tryz.prog F 148 (cp [1, 1, 2, 2] (bodyOf Tryz.f88)) (ap [1, 1, 2] slices_pdqsortCmpFunc_l35_Step_an) [(1, .int .i64 a), (2, .int .i64 b), (3, .int .i64 limit), (10, .bool wasBalanced), (11, .bool wasPartitioned), (0, .slice data dataL dataC), (4, cmp)] h (slices_pdqsortCmpFunc_l35_Step_K2 nx0 K)
def slices_pdqsortCmpFunc_l35_Step_b2 (data : Option Addr) (dataL : Nat) (dataC : Nat) (a : Int) (b : Int) (limit : Int) (cmp : Value) (wasBalanced : Bool) (wasPartitioned : Bool) (length : Int) (h : Hp) (nx0 : Int × Int × Int × Bool × Bool × Unit → Hp → Prop) (K : Value → Hp → Prop) : Prop :=
  sx_4 Tryz.prog F 148 (cp [1, 1, 2, 2, 2, 1, 1, 1, 1] (bodyOf Tryz.f88)) (ap [1, 1, 2, 1, 1, 1, 1] slices_pdqsortCmpFunc_l35_Step_an) [(0, .slice data dataL dataC), (1, .int .i64 a), (2, .int .i64 b), (3, .int .i64 limit), (4, cmp), (10, .bool wasBalanced), (11, .bool wasPartitioned), (12, .int .i64 length)] h (slices_pdqsortCmpFunc_l35_Step_K3 nx0 K)
def slices_pdqsortCmpFunc_l35_Step_b3 (data : Option Addr) (dataL : Nat) (dataC : Nat) (a : Int) (b : Int) (limit : Int) (cmp : Value) (wasBalanced : Bool) (wasPartitioned : Bool) (length : Int) (pivot : Int) (hint : Int) (h : Hp) (nx0 : Int × Int × Int × Bool × Bool × Unit → Hp → Prop) (K : Value → Hp → Prop) : Prop :=
  sx_3 Tryz.prog F 148 (cp [1, 1, 2, 2, 2, 1, 1, 1, 1, 1, 1] (bodyOf Tryz.f88)) (ap [1, 1, 2, 1, 1, 1, 1, 1, 1] slices_pdqsortCmpFunc_l35_Step_an) [(0, .slice data dataL dataC), (1, .int .i64 a), (2, .int .i64 b), (3, .int .i64 limit), (4, cmp), (10, .bool wasBalanced), (11, .bool wasPartitioned), (12, .int .i64 length), (13, .int .i64 pivot), (14, .int .i64 hint)] h (slices_pdqsortCmpFunc_l35_Step_K3 nx0 K)
def slices_pdqsortCmpFunc_l35_Step_b4 (data : Option Addr) (dataL : Nat) (dataC : Nat) (a : Int) (b : Int) (limit : Int) (cmp : Value) (wasBalanced : Bool) (wasPartitioned : Bool) (length : Int) (pivot : Int) (h : Hp) (nx0 : Int × Int × Int × Bool × Bool × Unit → Hp → Prop) (K : Value → Hp → Prop) : Prop :=
  sx_2 Tryz.prog F 148 (cp [1, 1, 2, 2, 2, 1, 1, 1, 1, 1, 1, 1] (bodyOf Tryz.f88)) (ap [1, 1, 2, 1, 1, 1, 1, 1, 1, 1] slices_pdqsortCmpFunc_l35_Step_an) [(0, .slice data dataL dataC), (1, .int .i64 a), (2, .int .i64 b), (3, .int .i64 limit), (4, cmp), (10, .bool wasBalanced), (11, .bool wasPartitioned), (12, .int .i64 length), (13, .int .i64 pivot)] h (slices_pdqsortCmpFunc_l35_Step_K3 nx0 K)
def slices_pdqsortCmpFunc_l35_Step_b5 (data : Option Addr) (dataL : Nat) (dataC : Nat) (a : Int) (b : Int) (limit : Int) (cmp : Value) (length : Int) (pivot : Int) (h : Hp) (nx0 : Int × Int × Int × Bool × Bool × Unit → Hp → Prop) (K : Value → Hp → Prop) : Prop :=
  sx_1 Tryz.prog F 148 (cp [1, 1, 2, 2, 2, 1, 1, 1, 1, 1, 1, 1, 1] (bodyOf Tryz.f88)) (ap [1, 1, 2, 1, 1, 1, 1, 1, 1, 1, 1] slices_pdqsortCmpFunc_l35_Step_an) [(0, .slice data dataL dataC), (1, .int .i64 a), (2, .int .i64 b), (3, .int .i64 limit), (4, cmp), (12, .int .i64 length), (13, .int .i64 pivot)] h (slices_pdqsortCmpFunc_l35_Step_K3 nx0 K)
theorem slices_pdqsortCmpFunc_l35_Step_b0_eq (data : Option Addr) (dataL : Nat) (dataC : Nat) (a : Int) (b : Int) (limit : Int) (cmp : Value) (h : Hp)  (K : Value → Hp → Prop) : slices_pdqsortCmpFunc_l35_Step_b0 data dataL dataC a b limit cmp h  K = (
  LoopVC ((a, b, limit, true, true, ()) : Int × Int × Int × Bool × Bool × Unit) h (fun (nx0 : Int × Int × Int × Bool × Bool × Unit → Hp → Prop) (s1 : Int × Int × Int × Bool × Bool × Unit) h1 => slices_pdqsortCmpFunc_l35_Step_b1 s1.1 s1.2.1 s1.2.2.1 s1.2.2.2.1 s1.2.2.2.2.1 data dataL dataC cmp h1 nx0 K)) := by kernel_rfl
theorem slices_pdqsortCmpFunc_l35_Step_b1_eq (a : Int) (b : Int) (limit : Int) (wasBalanced : Bool) (wasPartitioned : Bool) (data : Option Addr) (dataL : Nat) (dataC : Nat) (cmp : Value) (h : Hp) (nx0 : Int × Int × Int × Bool × Bool × Unit → Hp → Prop) (K : Value → Hp → Prop) : slices_pdqsortCmpFunc_l35_Step_b1 a b limit wasBalanced wasPartitioned data dataL dataC cmp h nx0 K = (
  InR (b - a) ∧
  cond (decide ((b - a) ≤ 12))
  (HCalls Tryz.prog 124 #[.slice data dataL dataC, .int .i64 a, .int .i64 b, cmp] h fun v1 h2 => v1 = .tuple #[] ∧
  K (.tuple #[]) h2)
  (cond (decide (limit = 0))
  (HCalls Tryz.prog 125 #[.slice data dataL dataC, .int .i64 a, .int .i64 b, cmp] h fun v2 h3 => v2 = .tuple #[] ∧
  K (.tuple #[]) h3)
  (cond (!wasBalanced)
  (HCalls Tryz.prog 126 #[.slice data dataL dataC, .int .i64 a, .int .i64 b, cmp] h fun v3 h4 => v3 = .tuple #[] ∧
  InR (limit - 1) ∧
  slices_pdqsortCmpFunc_l35_Step_b2 data dataL dataC a b (limit - 1) cmp wasBalanced wasPartitioned (b - a) h4 nx0 K)
  (slices_pdqsortCmpFunc_l35_Step_b2 data dataL dataC a b limit cmp wasBalanced wasPartitioned (b - a) h nx0 K)))) := by kernel_rfl
theorem slices_pdqsortCmpFunc_l35_Step_b2_eq (data : Option Addr) (dataL : Nat) (dataC : Nat) (a : Int) (b : Int) (limit : Int) (cmp : Value) (wasBalanced : Bool) (wasPartitioned : Bool) (length : Int) (h : Hp) (nx0 : Int × Int × Int × Bool × Bool × Unit → Hp → Prop) (K : Value → Hp → Prop) : slices_pdqsortCmpFunc_l35_Step_b2 data dataL dataC a b limit cmp wasBalanced wasPartitioned length h nx0 K = (
  HCalls Tryz.prog 127 #[.slice data dataL dataC, .int .i64 a, .int .i64 b, cmp] h fun v4 h5 => ∃ r1 : Int, ∃ r2 : Int, v4 = .tuple #[.int .i64 r1, .int .i64 r2] ∧
  cond (decide (r2 = 2))
  (HCalls Tryz.prog 128 #[.slice data dataL dataC, .int .i64 a, .int .i64 b, cmp] h5 fun v5 h6 => v5 = .tuple #[] ∧
  InR (b - 1) ∧
  InR (r1 - a) ∧
  InR ((b - 1) - (r1 - a)) ∧
  slices_pdqsortCmpFunc_l35_Step_b3 data dataL dataC a b limit cmp wasBalanced wasPartitioned length ((b - 1) - (r1 - a)) 1 h6 nx0 K)
  (slices_pdqsortCmpFunc_l35_Step_b3 data dataL dataC a b limit cmp wasBalanced wasPartitioned length r1 r2 h5 nx0 K)) := by kernel_rfl
theorem slices_pdqsortCmpFunc_l35_Step_b3_eq (data : Option Addr) (dataL : Nat) (dataC : Nat) (a : Int) (b : Int) (limit : Int) (cmp : Value) (wasBalanced : Bool) (wasPartitioned : Bool) (length : Int) (pivot : Int) (hint : Int) (h : Hp) (nx0 : Int × Int × Int × Bool × Bool × Unit → Hp → Prop) (K : Value → Hp → Prop) : slices_pdqsortCmpFunc_l35_Step_b3 data dataL dataC a b limit cmp wasBalanced wasPartitioned length pivot hint h nx0 K = (
  cond wasBalanced
  (cond wasPartitioned
  (cond (decide (hint = 1))
  (HCalls Tryz.prog 129 #[.slice data dataL dataC, .int .i64 a, .int .i64 b, cmp] h fun v6 h7 => ∃ r3 : Bool, v6 = .bool r3 ∧
  cond r3
  (K (.tuple #[]) h7)
  (slices_pdqsortCmpFunc_l35_Step_b4 data dataL dataC a b limit cmp wasBalanced wasPartitioned length pivot h7 nx0 K))
  (slices_pdqsortCmpFunc_l35_Step_b4 data dataL dataC a b limit cmp wasBalanced wasPartitioned length pivot h nx0 K))
  (slices_pdqsortCmpFunc_l35_Step_b4 data dataL dataC a b limit cmp wasBalanced wasPartitioned length pivot h nx0 K))
  (slices_pdqsortCmpFunc_l35_Step_b4 data dataL dataC a b limit cmp wasBalanced wasPartitioned length pivot h nx0 K)) := by kernel_rfl
theorem slices_pdqsortCmpFunc_l35_Step_b4_eq (data : Option Addr) (dataL : Nat) (dataC : Nat) (a : Int) (b : Int) (limit : Int) (cmp : Value) (wasBalanced : Bool) (wasPartitioned : Bool) (length : Int) (pivot : Int) (h : Hp) (nx0 : Int × Int × Int × Bool × Bool × Unit → Hp → Prop) (K : Value → Hp → Prop) : slices_pdqsortCmpFunc_l35_Step_b4 data dataL dataC a b limit cmp wasBalanced wasPartitioned length pivot h nx0 K = (
  cond (decide ((0 : Int) < a))
  (InR (a - 1) ∧
  (0 ≤ a - 1 ∧ a - 1 < (dataL : Int)) ∧
  NN data fun a1 =>
  ∃ n1 : Int, ∃ n2 : Int, ∃ n3 : Int, ∃ n4 : Int, ∃ (a2 : Option Addr) (L1 C1 : Nat), cell h (a1.add (Int.toNat (a - 1) * 5)) = some (.int .i64 n1) ∧
  cell h ((a1.add (Int.toNat (a - 1) * 5)).add 1) = some (.int .i64 n2) ∧
  cell h ((a1.add (Int.toNat (a - 1) * 5)).add 2) = some (.int .i64 n3) ∧
  cell h ((a1.add (Int.toNat (a - 1) * 5)).add 3) = some (.int .i64 n4) ∧
  cell h ((a1.add (Int.toNat (a - 1) * 5)).add 4) = some (.slice a2 L1 C1) ∧
  (0 ≤ pivot ∧ pivot < (dataL : Int)) ∧
  NN data fun a3 =>
  ∃ n5 : Int, ∃ n6 : Int, ∃ n7 : Int, ∃ n8 : Int, ∃ (a4 : Option Addr) (L2 C2 : Nat), cell h (a3.add (Int.toNat pivot * 5)) = some (.int .i64 n5) ∧
  cell h ((a3.add (Int.toNat pivot * 5)).add 1) = some (.int .i64 n6) ∧
  cell h ((a3.add (Int.toNat pivot * 5)).add 2) = some (.int .i64 n7) ∧
  cell h ((a3.add (Int.toNat pivot * 5)).add 3) = some (.int .i64 n8) ∧
  cell h ((a3.add (Int.toNat pivot * 5)).add 4) = some (.slice a4 L2 C2) ∧
  funV cmp fun fg1 fa1 fc1 => callX Tryz.prog F fg1 (fa1 ++ (([.agg #[.int .i64 n1, .int .i64 n2, .int .i64 n3, .int .i64 n4, .slice a2 L1 C1], .agg #[.int .i64 n5, .int .i64 n6, .int .i64 n7, .int .i64 n8, .slice a4 L2 C2]] : List Value) ++ fc1)).toArray h fun v7 h8 => ∃ r4 : Int, v7 = .int .i64 r4 ∧
  cond (!(decide (r4 < 0)))
  (HCalls Tryz.prog 130 #[.slice data dataL dataC, .int .i64 a, .int .i64 b, .int .i64 pivot, cmp] h8 fun v8 h9 => ∃ r5 : Int, v8 = .int .i64 r5 ∧
  nx0 (r5, b, limit, wasBalanced, wasPartitioned, ()) h9)
  (slices_pdqsortCmpFunc_l35_Step_b5 data dataL dataC a b limit cmp length pivot h8 nx0 K))
  (slices_pdqsortCmpFunc_l35_Step_b5 data dataL dataC a b limit cmp length pivot h nx0 K)) := by kernel_rfl
theorem slices_pdqsortCmpFunc_l35_Step_b5_eq (data : Option Addr) (dataL : Nat) (dataC : Nat) (a : Int) (b : Int) (limit : Int) (cmp : Value) (length : Int) (pivot : Int) (h : Hp) (nx0 : Int × Int × Int × Bool × Bool × Unit → Hp → Prop) (K : Value → Hp → Prop) : slices_pdqsortCmpFunc_l35_Step_b5 data dataL dataC a b limit cmp length pivot h nx0 K = (
  HCalls Tryz.prog 131 #[.slice data dataL dataC, .int .i64 a, .int .i64 b, .int .i64 pivot, cmp] h fun v9 h10 => ∃ r6 : Int, ∃ r7 : Bool, v9 = .tuple #[.int .i64 r6, .bool r7] ∧
  InR (r6 - a) ∧
  InR (b - r6) ∧
  ∃ q1 : Int, Sx.Quo .i64 length 8 q1 ∧
  cond (decide ((r6 - a) < (b - r6)))
  (HCalls Tryz.prog 88 #[.slice data dataL dataC, .int .i64 a, .int .i64 r6, .int .i64 limit, cmp] h10 fun v10 h11 => v10 = .tuple #[] ∧
  InR (r6 + 1) ∧
  nx0 (r6 + 1, b, limit, decide (q1 ≤ (r6 - a)), r7, ()) h11)
  (InR (r6 + 1) ∧
  HCalls Tryz.prog 88 #[.slice data dataL dataC, .int .i64 (r6 + 1), .int .i64 b, .int .i64 limit, cmp] h10 fun v11 h12 => v11 = .tuple #[] ∧
  nx0 (a, r6, limit, decide (q1 ≤ (b - r6)), r7, ()) h12)) := by kernel_rfl
theorem slices_pdqsortCmpFunc_l35_Step_call {data : Option Addr} {dataL : Nat} {dataC : Nat} {a : Int} {b : Int} {limit : Int} {cmp : Value} {h : Hp} {K : Value → Hp → Prop} (hk : slices_pdqsortCmpFunc_l35_Step_b0 data dataL dataC a b limit cmp h K) : HCalls Tryz.prog 88 #[.slice data dataL dataC, .int .i64 a, .int .i64 b, .int .i64 limit, cmp] h K :=
  calls_of_snd slices_pdqsortCmpFunc_l35_Step_an Tryz.func88 (c := bodyOf Tryz.f88) rfl Tryz.ntmps88 (Nat.le_of_ble_eq_true rfl) (snd_6 F_ok F_mixed) hk

/-! ### math_bits_Len -/
def math_bits_Len_an : Ann := .leaf
def math_bits_Len_K0  (K : Value → Hp → Prop) : Exit → Env → Hp → Prop := retK Tryz.prog Tryz.f89.results.toList K
def math_bits_Len_b0 (x : Int) (h : Hp)  (K : Value → Hp → Prop) : Prop :=
  sx_1 Tryz.prog F 8 (cp [] (bodyOf Tryz.f89)) (ap [] math_bits_Len_an) [(0, .int .u64 x)] h (math_bits_Len_K0  K)
theorem math_bits_Len_b0_eq (x : Int) (h : Hp)  (K : Value → Hp → Prop) : math_bits_Len_b0 x h  K = (
  HCalls Tryz.prog 133 #[.int .u64 x] h fun v1 h1 => ∃ r1 : Int, v1 = .int .i64 r1 ∧
  K (.int .i64 r1) h1) := by kernel_rfl
theorem math_bits_Len_call {x : Int} {h : Hp} {K : Value → Hp → Prop} (hk : math_bits_Len_b0 x h K) : HCalls Tryz.prog 89 #[.int .u64 x] h K :=
  calls_of_snd math_bits_Len_an Tryz.func89 (c := bodyOf Tryz.f89) rfl Tryz.ntmps89 (Nat.le_of_ble_eq_true rfl) (snd_1 F_ok F_mixed) hk

/-! ### model_words -/
def model_words_an : Ann := .node none (.leaf) (.node (some []) (.leaf) (.leaf))
def model_words_K0  (K : Value → Hp → Prop) : Exit → Env → Hp → Prop := retK Tryz.prog Tryz.f90.results.toList K
def model_words_b0 (kind : Int) (h : Hp)  (K : Value → Hp → Prop) : Prop :=
  sx_2 Tryz.prog F 55 (cp [] (bodyOf Tryz.f90)) (ap [] model_words_an) [(0, .int .i64 kind)] h (model_words_K0  K)
def model_words_b1  (h : Hp)  (K : Value → Hp → Prop) : Prop :=
  sx_1 Tryz.prog F 55 (cp [1, 1] (bodyOf Tryz.f90)) (ap [1, 1] model_words_an) [] h (model_words_K0  K)
theorem model_words_b0_eq (kind : Int) (h : Hp)  (K : Value → Hp → Prop) : model_words_b0 kind h  K = (
  cond (decide (kind = 1))
  (New h (.cells #[.string (⟨#[112, 117, 116]⟩ : ByteArray), .int .i64 2, .bool true, .string (⟨#[103, 101, 116]⟩ : ByteArray), .int .i64 1, .bool false, .string (⟨#[114, 101, 109, 111, 118, 101]⟩ : ByteArray), .int .i64 1, .bool true, .string (⟨#[102, 108, 111, 111, 114]⟩ : ByteArray), .int .i64 1, .bool false, .string (⟨#[99, 101, 105, 108, 105, 110, 103]⟩ : ByteArray), .int .i64 1, .bool false, .string (⟨#[114, 97, 110, 107]⟩ : ByteArray), .int .i64 1, .bool false, .string (⟨#[115, 101, 108, 101, 99, 116]⟩ : ByteArray), .int .i64 1, .bool false, .string (⟨#[115, 105, 122, 101]⟩ : ByteArray), .int .i64 0, .bool false] 143) fun b1 h1 =>
  K (.slice (some ⟨b1, 0, none⟩) 8 8) h1)
  (cond (decide (kind = 2))
  (New h (.cells #[.string (⟨#[105, 110, 115, 101, 114, 116]⟩ : ByteArray), .int .i64 1, .bool true, .string (⟨#[109, 105, 110]⟩ : ByteArray), .int .i64 0, .bool false, .string (⟨#[100, 101, 108, 101, 116, 101, 109, 105, 110]⟩ : ByteArray), .int .i64 0, .bool true, .string (⟨#[115, 105, 122, 101]⟩ : ByteArray), .int .i64 0, .bool false] 143) fun b2 h2 =>
  K (.slice (some ⟨b2, 0, none⟩) 4 4) h2)
  (cond (decide (kind = 3))
  (New h (.cells #[.string (⟨#[105, 110, 115, 101, 114, 116]⟩ : ByteArray), .int .i64 2, .bool true, .string (⟨#[114, 101, 109, 111, 118, 101]⟩ : ByteArray), .int .i64 1, .bool true, .string (⟨#[103, 101, 116]⟩ : ByteArray), .int .i64 1, .bool false, .string (⟨#[115, 101, 116]⟩ : ByteArray), .int .i64 2, .bool true, .string (⟨#[115, 117, 109]⟩ : ByteArray), .int .i64 2, .bool false, .string (⟨#[114, 101, 118, 101, 114, 115, 101]⟩ : ByteArray), .int .i64 2, .bool true, .string (⟨#[115, 105, 122, 101]⟩ : ByteArray), .int .i64 0, .bool false] 143) fun b3 h3 =>
  K (.slice (some ⟨b3, 0, none⟩) 7 7) h3)
  (cond (decide (kind = 4))
  (New h (.cells #[.string (⟨#[109, 97, 107, 101]⟩ : ByteArray), .int .i64 0, .bool true, .string (⟨#[117, 110, 105, 111, 110]⟩ : ByteArray), .int .i64 2, .bool true, .string (⟨#[115, 97, 109, 101]⟩ : ByteArray), .int .i64 2, .bool false, .string (⟨#[115, 105, 122, 101]⟩ : ByteArray), .int .i64 1, .bool false, .string (⟨#[99, 111, 117, 110, 116]⟩ : ByteArray), .int .i64 0, .bool false] 143) fun b4 h4 =>
  K (.slice (some ⟨b4, 0, none⟩) 5 5) h4)
  (cond (decide (kind = 5))
  (New h (.cells #[.string (⟨#[97, 100, 100]⟩ : ByteArray), .int .i64 3, .bool true, .string (⟨#[114, 101, 109, 111, 118, 101]⟩ : ByteArray), .int .i64 2, .bool true, .string (⟨#[99, 111, 117, 110, 116]⟩ : ByteArray), .int .i64 4, .bool false, .string (⟨#[115, 117, 109]⟩ : ByteArray), .int .i64 4, .bool false, .string (⟨#[115, 105, 122, 101]⟩ : ByteArray), .int .i64 0, .bool false] 143) fun b5 h5 =>
  K (.slice (some ⟨b5, 0, none⟩) 5 5) h5)
  (cond (decide (kind = 6))
  (New h (.cells #[.string (⟨#[97, 112, 112, 101, 110, 100]⟩ : ByteArray), .int .i64 (-1), .bool true, .string (⟨#[99, 111, 117, 110, 116]⟩ : ByteArray), .int .i64 (-1), .bool false, .string (⟨#[102, 105, 110, 100]⟩ : ByteArray), .int .i64 (-1), .bool false, .string (⟨#[115, 105, 122, 101]⟩ : ByteArray), .int .i64 0, .bool false] 143) fun b6 h6 =>
  K (.slice (some ⟨b6, 0, none⟩) 4 4) h6)
  (model_words_b1  h  K))))))) := by kernel_rfl
theorem model_words_b1_eq  (h : Hp)  (K : Value → Hp → Prop) : model_words_b1  h  K = (
  K (.slice none 0 0) h) := by kernel_rfl
theorem model_words_call {kind : Int} {h : Hp} {K : Value → Hp → Prop} (hk : model_words_b0 kind h K) : HCalls Tryz.prog 90 #[.int .i64 kind] h K :=
  calls_of_snd model_words_an Tryz.func90 (c := bodyOf Tryz.f90) rfl Tryz.ntmps90 (Nat.le_of_ble_eq_true rfl) (snd_2 F_ok F_mixed) hk

/-! ### model_Valid -/
def model_Valid_an : Ann := .node none (.leaf) (.node (some []) (.node none (.leaf) (.node (some [1, 4, 5]) (.leaf) (.leaf))) (.leaf))
def model_Valid_K0  (K : Value → Hp → Prop) : Exit → Env → Hp → Prop := retK Tryz.prog Tryz.f91.results.toList K
def model_Valid_K1  (K : Value → Hp → Prop) : Exit → Env → Hp → Prop := thenE (fun env h => sx_1 Tryz.prog F 53 (cp [1, 1] (bodyOf Tryz.f91)) (ap [1, 1] model_Valid_an) (rs [] env) h (model_Valid_K0  K)) (model_Valid_K0  K)
def model_Valid_K2  (K : Value → Hp → Prop) : Exit → Env → Hp → Prop := blockE 0 (model_Valid_K1  K)
def model_Valid_b0 (s_0 : Int) (s_1 : Option Addr) (s_1L : Nat) (s_1C : Nat) (h : Hp)  (K : Value → Hp → Prop) : Prop :=
  sx_2 Tryz.prog F 53 (cp [] (bodyOf Tryz.f91)) (ap [] model_Valid_an) [(0, .agg #[.int .i64 s_0, .slice s_1 s_1L s_1C])] h (model_Valid_K0  K)
def model_Valid_b1 (s : Option Addr) (t4 : Int) (t5 : Bool) (h : Hp)  (K : Value → Hp → Prop) : Prop :=
  sx_1 Tryz.prog F 53 (cp [1, 0, 1, 2, 1] (bodyOf Tryz.f91)) (ap [1, 0, 1, 1] model_Valid_an) [(1, .pointer s), (4, .int .i64 t4), (5, .bool t5)] h (model_Valid_K2  K)
def model_Valid_b2  (h : Hp)  (K : Value → Hp → Prop) : Prop :=
  sx_1 Tryz.prog F 53 (cp [1, 1] (bodyOf Tryz.f91)) (ap [1, 1] model_Valid_an) [] h (model_Valid_K0  K)
theorem model_Valid_b0_eq (s_0 : Int) (s_1 : Option Addr) (s_1L : Nat) (s_1C : Nat) (h : Hp)  (K : Value → Hp → Prop) : model_Valid_b0 s_0 s_1 s_1L s_1C h  K = (
  New h (.cells #[.int .i64 s_0, .slice s_1 s_1L s_1C] 66) fun b1 h1 =>
  ∃ n1 : Int, cell h1 ⟨b1, 0, none⟩ = some (.int .i64 n1) ∧
  cond (decide (n1 = 1))
  (model_Valid_b1 (some ⟨b1, 0, none⟩) n1 (decide (n1 = 1)) h1  K)
  (cond (decide (n1 = 2))
  (model_Valid_b1 (some ⟨b1, 0, none⟩) n1 (decide (n1 = 2)) h1  K)
  (cond (decide (n1 = 3))
  (model_Valid_b1 (some ⟨b1, 0, none⟩) n1 (decide (n1 = 3)) h1  K)
  (model_Valid_b1 (some ⟨b1, 0, none⟩) n1 (decide (n1 = 5)) h1  K)))) := by kernel_rfl
theorem model_Valid_b1_eq (s : Option Addr) (t4 : Int) (t5 : Bool) (h : Hp)  (K : Value → Hp → Prop) : model_Valid_b1 s t4 t5 h  K = (
  cond t5
  (NN s fun a1 =>
  ∃ n2 : Int, ∃ (a2 : Option Addr) (L1 C1 : Nat), cell h a1 = some (.int .i64 n2) ∧
  cell h (a1.add 1) = some (.slice a2 L1 C1) ∧
  HCalls Tryz.prog 134 #[.agg #[.int .i64 n2, .slice a2 L1 C1]] h fun v1 h2 => ∃ r1 : Bool, v1 = .bool r1 ∧
  K (.bool r1) h2)
  (cond (decide (t4 = 4))
  (NN s fun a3 =>
  ∃ (a4 : Option Addr) (L2 C2 : Nat), cell h (a3.add 1) = some (.slice a4 L2 C2) ∧
  HCalls Tryz.prog 135 #[.slice a4 L2 C2] h fun v2 h3 => ∃ r2 : Bool, v2 = .bool r2 ∧
  K (.bool r2) h3)
  (cond (decide (t4 = 6))
  (NN s fun a5 =>
  ∃ (a6 : Option Addr) (L3 C3 : Nat), cell h (a5.add 1) = some (.slice a6 L3 C3) ∧
  cond (decide ((L3 : Int) = 0))
  (K (.bool true) h)
  (NN s fun a7 =>
  ∃ (a8 : Option Addr) (L4 C4 : Nat), cell h (a7.add 1) = some (.slice a8 L4 C4) ∧
  cond (decide ((L4 : Int) = 1))
  (NN s fun a9 =>
  ∃ (a10 : Option Addr) (L5 C5 : Nat), cell h (a9.add 1) = some (.slice a10 L5 C5) ∧
  (0 ≤ (0 : Int) ∧ (0 : Int) < (L5 : Int)) ∧
  NN a10 fun a11 =>
  ∃ (a12 : Option Addr) (L6 C6 : Nat), cell h (a11.add (Int.toNat (0 : Int) * 1)) = some (.slice a12 L6 C6) ∧
  cond (decide ((0 : Int) < (L6 : Int)))
  (NN s fun a13 =>
  ∃ (a14 : Option Addr) (L7 C7 : Nat), cell h (a13.add 1) = some (.slice a14 L7 C7) ∧
  (0 ≤ (0 : Int) ∧ (0 : Int) < (L7 : Int)) ∧
  NN a14 fun a15 =>
  ∃ (a16 : Option Addr) (L8 C8 : Nat), cell h (a15.add (Int.toNat (0 : Int) * 1)) = some (.slice a16 L8 C8) ∧
  cond (decide ((L8 : Int) ≤ 500))
  (NN s fun a17 =>
  ∃ (a18 : Option Addr) (L9 C9 : Nat), cell h (a17.add 1) = some (.slice a18 L9 C9) ∧
  (0 ≤ (0 : Int) ∧ (0 : Int) < (L9 : Int)) ∧
  NN a18 fun a19 =>
  ∃ (a20 : Option Addr) (L10 C10 : Nat), cell h (a19.add (Int.toNat (0 : Int) * 1)) = some (.slice a20 L10 C10) ∧
  HCalls Tryz.prog 105 #[.slice a20 L10 C10, .func (.func 136) #[] #[]] h fun v3 h4 => ∃ r3 : Bool, v3 = .bool r3 ∧
  K (.bool (!r3)) h4)
  (K (.bool false) h))
  (K (.bool false) h))
  (K (.bool false) h)))
  (model_Valid_b2  h  K)))) := by kernel_rfl
theorem model_Valid_call {s_0 : Int} {s_1 : Option Addr} {s_1L : Nat} {s_1C : Nat} {h : Hp} {K : Value → Hp → Prop} (hk : model_Valid_b0 s_0 s_1 s_1L s_1C h K) : HCalls Tryz.prog 91 #[.agg #[.int .i64 s_0, .slice s_1 s_1L s_1C]] h K :=
  calls_of_snd model_Valid_an Tryz.func91 (c := bodyOf Tryz.f91) rfl Tryz.ntmps91 (Nat.le_of_ble_eq_true rfl) (snd_2 F_ok F_mixed) hk

/-! ### model_apply -/
def model_apply_an : Ann := .node none (.leaf) (.node (some [1, 5, 7]) (.leaf) (.leaf))
def model_apply_K0  (K : Value → Hp → Prop) : Exit → Env → Hp → Prop := retK Tryz.prog Tryz.f92.results.toList K
def model_apply_b0 (kind : Int) (rows : Option Addr) (rowsL : Nat) (rowsC : Nat) (o_0 : Int) (o_1 : Option Addr) (o_1L : Nat) (o_1C : Nat) (h : Hp)  (K : Value → Hp → Prop) : Prop :=
  sx_2 Tryz.prog F 49 (cp [] (bodyOf Tryz.f92)) (ap [] model_apply_an) [(0, .int .i64 kind), (1, .slice rows rowsL rowsC), (2, .agg #[.int .i64 o_0, .slice o_1 o_1L o_1C])] h (model_apply_K0  K)
def model_apply_b1 (rows : Option Addr) (rowsL : Nat) (rowsC : Nat) (o : Option Addr) (t7 : Option Addr) (h : Hp)  (K : Value → Hp → Prop) : Prop :=
  sx_1 Tryz.prog F 49 (cp [1, 1] (bodyOf Tryz.f92)) (ap [1, 1] model_apply_an) [(1, .slice rows rowsL rowsC), (5, .pointer o), (7, .pointer t7)] h (model_apply_K0  K)
theorem model_apply_b0_eq (kind : Int) (rows : Option Addr) (rowsL : Nat) (rowsC : Nat) (o_0 : Int) (o_1 : Option Addr) (o_1L : Nat) (o_1C : Nat) (h : Hp)  (K : Value → Hp → Prop) : model_apply_b0 kind rows rowsL rowsC o_0 o_1 o_1L o_1C h  K = (
  New h (.cells #[.int .i64 o_0, .slice o_1 o_1L o_1C] 25) fun b1 h1 =>
  New h1 (.cells #[.int .i64 0, .int .i64 0, .slice none 0 0] 61) fun b2 h2 =>
  cond (decide (kind = 1))
  (∃ n1 : Int, ∃ (a1 : Option Addr) (L1 C1 : Nat), cell h2 ⟨b1, 0, none⟩ = some (.int .i64 n1) ∧
  cell h2 ((⟨b1, 0, none⟩ : Addr).add 1) = some (.slice a1 L1 C1) ∧
  HCalls Tryz.prog 137 #[.slice rows rowsL rowsC, .agg #[.int .i64 n1, .slice a1 L1 C1]] h2 fun v1 h3 => ∃ (r1 : Option Addr) (rL1 rC1 : Nat), ∃ r2 : Int, ∃ r3 : Int, ∃ (r4 : Option Addr) (rL2 rC2 : Nat), v1 = .tuple #[.slice r1 rL1 rC1, .agg #[.int .i64 r2, .int .i64 r3, .slice r4 rL2 rC2]] ∧
  Wr h3 ⟨b2, 0, none⟩ (.int .i64 r2) fun h4 =>
  Wr h4 ((⟨b2, 0, none⟩ : Addr).add 1) (.int .i64 r3) fun h5 =>
  Wr h5 ((⟨b2, 0, none⟩ : Addr).add 2) (.slice r4 rL2 rC2) fun h6 =>
  ∃ r5 : Int, ∃ r6 : Int, ∃ (r7 : Option Addr) (rL3 rC3 : Nat), cell h6 ⟨b2, 0, none⟩ = some (.int .i64 r5) ∧
  cell h6 ((⟨b2, 0, none⟩ : Addr).add 1) = some (.int .i64 r6) ∧
  cell h6 ((⟨b2, 0, none⟩ : Addr).add 2) = some (.slice r7 rL3 rC3) ∧
  K (.tuple #[.slice r1 rL1 rC1, .agg #[.int .i64 r5, .int .i64 r6, .slice r7 rL3 rC3]]) h6)
  (cond (decide (kind = 2))
  (∃ n2 : Int, ∃ (a2 : Option Addr) (L2 C2 : Nat), cell h2 ⟨b1, 0, none⟩ = some (.int .i64 n2) ∧
  cell h2 ((⟨b1, 0, none⟩ : Addr).add 1) = some (.slice a2 L2 C2) ∧
  HCalls Tryz.prog 138 #[.slice rows rowsL rowsC, .agg #[.int .i64 n2, .slice a2 L2 C2]] h2 fun v2 h7 => ∃ (r8 : Option Addr) (rL4 rC4 : Nat), ∃ r9 : Int, ∃ r10 : Int, ∃ (r11 : Option Addr) (rL5 rC5 : Nat), v2 = .tuple #[.slice r8 rL4 rC4, .agg #[.int .i64 r9, .int .i64 r10, .slice r11 rL5 rC5]] ∧
  Wr h7 ⟨b2, 0, none⟩ (.int .i64 r9) fun h8 =>
  Wr h8 ((⟨b2, 0, none⟩ : Addr).add 1) (.int .i64 r10) fun h9 =>
  Wr h9 ((⟨b2, 0, none⟩ : Addr).add 2) (.slice r11 rL5 rC5) fun h10 =>
  ∃ r12 : Int, ∃ r13 : Int, ∃ (r14 : Option Addr) (rL6 rC6 : Nat), cell h10 ⟨b2, 0, none⟩ = some (.int .i64 r12) ∧
  cell h10 ((⟨b2, 0, none⟩ : Addr).add 1) = some (.int .i64 r13) ∧
  cell h10 ((⟨b2, 0, none⟩ : Addr).add 2) = some (.slice r14 rL6 rC6) ∧
  K (.tuple #[.slice r8 rL4 rC4, .agg #[.int .i64 r12, .int .i64 r13, .slice r14 rL6 rC6]]) h10)
  (cond (decide (kind = 3))
  (∃ n3 : Int, ∃ (a3 : Option Addr) (L3 C3 : Nat), cell h2 ⟨b1, 0, none⟩ = some (.int .i64 n3) ∧
  cell h2 ((⟨b1, 0, none⟩ : Addr).add 1) = some (.slice a3 L3 C3) ∧
  HCalls Tryz.prog 139 #[.slice rows rowsL rowsC, .agg #[.int .i64 n3, .slice a3 L3 C3]] h2 fun v3 h11 => ∃ (r15 : Option Addr) (rL7 rC7 : Nat), ∃ r16 : Int, ∃ r17 : Int, ∃ (r18 : Option Addr) (rL8 rC8 : Nat), v3 = .tuple #[.slice r15 rL7 rC7, .agg #[.int .i64 r16, .int .i64 r17, .slice r18 rL8 rC8]] ∧
  Wr h11 ⟨b2, 0, none⟩ (.int .i64 r16) fun h12 =>
  Wr h12 ((⟨b2, 0, none⟩ : Addr).add 1) (.int .i64 r17) fun h13 =>
  Wr h13 ((⟨b2, 0, none⟩ : Addr).add 2) (.slice r18 rL8 rC8) fun h14 =>
  ∃ r19 : Int, ∃ r20 : Int, ∃ (r21 : Option Addr) (rL9 rC9 : Nat), cell h14 ⟨b2, 0, none⟩ = some (.int .i64 r19) ∧
  cell h14 ((⟨b2, 0, none⟩ : Addr).add 1) = some (.int .i64 r20) ∧
  cell h14 ((⟨b2, 0, none⟩ : Addr).add 2) = some (.slice r21 rL9 rC9) ∧
  K (.tuple #[.slice r15 rL7 rC7, .agg #[.int .i64 r19, .int .i64 r20, .slice r21 rL9 rC9]]) h14)
  (cond (decide (kind = 4))
  (∃ n4 : Int, ∃ (a4 : Option Addr) (L4 C4 : Nat), cell h2 ⟨b1, 0, none⟩ = some (.int .i64 n4) ∧
  cell h2 ((⟨b1, 0, none⟩ : Addr).add 1) = some (.slice a4 L4 C4) ∧
  HCalls Tryz.prog 140 #[.slice rows rowsL rowsC, .agg #[.int .i64 n4, .slice a4 L4 C4]] h2 fun v4 h15 => ∃ (r22 : Option Addr) (rL10 rC10 : Nat), ∃ r23 : Int, ∃ r24 : Int, ∃ (r25 : Option Addr) (rL11 rC11 : Nat), v4 = .tuple #[.slice r22 rL10 rC10, .agg #[.int .i64 r23, .int .i64 r24, .slice r25 rL11 rC11]] ∧
  Wr h15 ⟨b2, 0, none⟩ (.int .i64 r23) fun h16 =>
  Wr h16 ((⟨b2, 0, none⟩ : Addr).add 1) (.int .i64 r24) fun h17 =>
  Wr h17 ((⟨b2, 0, none⟩ : Addr).add 2) (.slice r25 rL11 rC11) fun h18 =>
  ∃ r26 : Int, ∃ r27 : Int, ∃ (r28 : Option Addr) (rL12 rC12 : Nat), cell h18 ⟨b2, 0, none⟩ = some (.int .i64 r26) ∧
  cell h18 ((⟨b2, 0, none⟩ : Addr).add 1) = some (.int .i64 r27) ∧
  cell h18 ((⟨b2, 0, none⟩ : Addr).add 2) = some (.slice r28 rL12 rC12) ∧
  K (.tuple #[.slice r22 rL10 rC10, .agg #[.int .i64 r26, .int .i64 r27, .slice r28 rL12 rC12]]) h18)
  (cond (decide (kind = 5))
  (∃ n5 : Int, ∃ (a5 : Option Addr) (L5 C5 : Nat), cell h2 ⟨b1, 0, none⟩ = some (.int .i64 n5) ∧
  cell h2 ((⟨b1, 0, none⟩ : Addr).add 1) = some (.slice a5 L5 C5) ∧
  HCalls Tryz.prog 141 #[.slice rows rowsL rowsC, .agg #[.int .i64 n5, .slice a5 L5 C5]] h2 fun v5 h19 => ∃ (r29 : Option Addr) (rL13 rC13 : Nat), ∃ r30 : Int, ∃ r31 : Int, ∃ (r32 : Option Addr) (rL14 rC14 : Nat), v5 = .tuple #[.slice r29 rL13 rC13, .agg #[.int .i64 r30, .int .i64 r31, .slice r32 rL14 rC14]] ∧
  Wr h19 ⟨b2, 0, none⟩ (.int .i64 r30) fun h20 =>
  Wr h20 ((⟨b2, 0, none⟩ : Addr).add 1) (.int .i64 r31) fun h21 =>
  Wr h21 ((⟨b2, 0, none⟩ : Addr).add 2) (.slice r32 rL14 rC14) fun h22 =>
  ∃ r33 : Int, ∃ r34 : Int, ∃ (r35 : Option Addr) (rL15 rC15 : Nat), cell h22 ⟨b2, 0, none⟩ = some (.int .i64 r33) ∧
  cell h22 ((⟨b2, 0, none⟩ : Addr).add 1) = some (.int .i64 r34) ∧
  cell h22 ((⟨b2, 0, none⟩ : Addr).add 2) = some (.slice r35 rL15 rC15) ∧
  K (.tuple #[.slice r29 rL13 rC13, .agg #[.int .i64 r33, .int .i64 r34, .slice r35 rL15 rC15]]) h22)
  (model_apply_b1 rows rowsL rowsC (some ⟨b1, 0, none⟩) (some ⟨b2, 0, none⟩) h2  K)))))) := by kernel_rfl
theorem model_apply_call {kind : Int} {rows : Option Addr} {rowsL : Nat} {rowsC : Nat} {o_0 : Int} {o_1 : Option Addr} {o_1L : Nat} {o_1C : Nat} {h : Hp} {K : Value → Hp → Prop} (hk : model_apply_b0 kind rows rowsL rowsC o_0 o_1 o_1L o_1C h K) : HCalls Tryz.prog 92 #[.int .i64 kind, .slice rows rowsL rowsC, .agg #[.int .i64 o_0, .slice o_1 o_1L o_1C]] h K :=
  calls_of_snd model_apply_an Tryz.func92 (c := bodyOf Tryz.f92) rfl Tryz.ntmps92 (Nat.le_of_ble_eq_true rfl) (snd_2 F_ok F_mixed) hk

/-! ### model_copied -/
def model_copied_an : Ann := .node none (.leaf) (.node none (.leaf) (.node (some [3]) (.node none (.leaf) (.loop [6, 7] [(3, .slice), (8, .int .i64)] (.node none (.leaf) (.node none (.leaf) (.node (some [3, 6, 7, 8]) (.leaf) (.leaf)))))) (.leaf)))
def model_copied_K0  (K : Value → Hp → Prop) : Exit → Env → Hp → Prop := retK Tryz.prog Tryz.f93.results.toList K
def model_copied_K1  (K : Value → Hp → Prop) : Exit → Env → Hp → Prop := thenE (fun env h => sx_2 Tryz.prog F 19 (cp [1, 1, 1] (bodyOf Tryz.f93)) (ap [1, 1, 1] model_copied_an) (rs [3] env) h (model_copied_K0  K)) (model_copied_K0  K)
def model_copied_K2  (K : Value → Hp → Prop) : Exit → Env → Hp → Prop := blockE 0 (model_copied_K1  K)
def model_copied_K3 (nx0 : (Option Addr × Nat × Nat) × Int × Unit → Hp → Prop) (K : Value → Hp → Prop) : Exit → Env → Hp → Prop := thenE (fun env h => getV [(3, .slice), (8, .int .i64)] env fun s => nx0 s h) (model_copied_K2  K)
def model_copied_b0 (rows : Option Addr) (rowsL : Nat) (rowsC : Nat) (h : Hp)  (K : Value → Hp → Prop) : Prop :=
  sx_3 Tryz.prog F 19 (cp [] (bodyOf Tryz.f93)) (ap [] model_copied_an) [(0, .slice rows rowsL rowsC)] h (model_copied_K0  K)
def model_copied_b1 (out : Option Addr) (outL : Nat) (outC : Nat) (t8 : Int) (t6 : Option Addr) (t6L : Nat) (t6C : Nat) (t7 : Int) (h : Hp) (nx0 : (Option Addr × Nat × Nat) × Int × Unit → Hp → Prop) (K : Value → Hp → Prop) : Prop :=
  sx_2 Tryz.prog F 19 (cp [1, 1, 0, 1, 2, 2] (bodyOf Tryz.f93)) (ap [1, 1, 0, 1, 2] model_copied_an) [(3, .slice out outL outC), (8, .int .i64 t8), (6, .slice t6 t6L t6C), (7, .int .i64 t7)] h (model_copied_K3 nx0 K)
def model_copied_b2 (out : Option Addr) (outL : Nat) (outC : Nat) (t6 : Option Addr) (t6L : Nat) (t6C : Nat) (t7 : Int) (t8 : Int) (h : Hp) (nx0 : (Option Addr × Nat × Nat) × Int × Unit → Hp → Prop) (K : Value → Hp → Prop) : Prop :=
  sx_1 Tryz.prog F 19 (cp [1, 1, 0, 1, 2, 2, 1, 1, 1] (bodyOf Tryz.f93)) (ap [1, 1, 0, 1, 2, 1, 1, 1] model_copied_an) [(3, .slice out outL outC), (6, .slice t6 t6L t6C), (7, .int .i64 t7), (8, .int .i64 t8)] h (model_copied_K3 nx0 K)
def model_copied_b3 (out : Option Addr) (outL : Nat) (outC : Nat) (h : Hp)  (K : Value → Hp → Prop) : Prop :=
  sx_2 Tryz.prog F 19 (cp [1, 1, 1] (bodyOf Tryz.f93)) (ap [1, 1, 1] model_copied_an) [(3, .slice out outL outC)] h (model_copied_K0  K)
theorem model_copied_b0_eq (rows : Option Addr) (rowsL : Nat) (rowsC : Nat) (h : Hp)  (K : Value → Hp → Prop) : model_copied_b0 rows rowsL rowsC h  K = (
  LoopVC (((none, 0, 0), 0, ()) : (Option Addr × Nat × Nat) × Int × Unit) h (fun (nx0 : (Option Addr × Nat × Nat) × Int × Unit → Hp → Prop) (s1 : (Option Addr × Nat × Nat) × Int × Unit) h1 => model_copied_b1 s1.1.1 s1.1.2.1 s1.1.2.2 s1.2.1 rows rowsL rowsC (rowsL : Int) h1 nx0 K)) := by kernel_rfl
theorem model_copied_b1_eq (out : Option Addr) (outL : Nat) (outC : Nat) (t8 : Int) (t6 : Option Addr) (t6L : Nat) (t6C : Nat) (t7 : Int) (h : Hp) (nx0 : (Option Addr × Nat × Nat) × Int × Unit → Hp → Prop) (K : Value → Hp → Prop) : model_copied_b1 out outL outC t8 t6 t6L t6C t7 h nx0 K = (
  cond (decide (t8 < t7))
  ((0 ≤ t8 ∧ t8 < (t6L : Int)) ∧
  NN t6 fun a1 =>
  ∃ (a2 : Option Addr) (L1 C1 : Nat), cell h (a1.add (Int.toNat t8 * 1)) = some (.slice a2 L1 C1) ∧
  HCalls Tryz.prog 24 #[.slice a2 L1 C1] h fun v1 h2 => ∃ (r1 : Option Addr) (rL1 rC1 : Nat), v1 = .slice r1 rL1 rC1 ∧
  New h2 (.cells #[.slice r1 rL1 rC1] 23) fun b1 h3 =>
  appendV Tryz.prog 64 64 (.slice out outL outC) (.slice (some ⟨b1, 0, none⟩) 1 1) h3 (slK fun a3 l1 c1 h4 =>
  model_copied_b2 a3 l1 c1 t6 t6L t6C t7 t8 h4 nx0 K))
  (model_copied_b3 out outL outC h  K)) := by kernel_rfl
theorem model_copied_b2_eq (out : Option Addr) (outL : Nat) (outC : Nat) (t6 : Option Addr) (t6L : Nat) (t6C : Nat) (t7 : Int) (t8 : Int) (h : Hp) (nx0 : (Option Addr × Nat × Nat) × Int × Unit → Hp → Prop) (K : Value → Hp → Prop) : model_copied_b2 out outL outC t6 t6L t6C t7 t8 h nx0 K = (
  InR (t8 + 1) ∧
  nx0 ((out, outL, outC), t8 + 1, ()) h) := by kernel_rfl
theorem model_copied_b3_eq (out : Option Addr) (outL : Nat) (outC : Nat) (h : Hp)  (K : Value → Hp → Prop) : model_copied_b3 out outL outC h  K = (
  K (.slice out outL outC) h) := by kernel_rfl
theorem model_copied_call {rows : Option Addr} {rowsL : Nat} {rowsC : Nat} {h : Hp} {K : Value → Hp → Prop} (hk : model_copied_b0 rows rowsL rowsC h K) : HCalls Tryz.prog 93 #[.slice rows rowsL rowsC] h K :=
  calls_of_snd model_copied_an Tryz.func93 (c := bodyOf Tryz.f93) rfl Tryz.ntmps93 (Nat.le_of_ble_eq_true rfl) (snd_3 F_ok F_mixed) hk

/-! ### slices_IndexFunc_Sl35_Step_l35_Step -/
def slices_IndexFunc_Sl35_Step_l35_Step_an : Ann := .node none (.leaf) (.node (some []) (.node none (.leaf) (.loop [0, 1, 7] [(8, .int .i64)] (.node none (.leaf) (.node none (.leaf) (.node (some [0, 1, 7, 8]) (.leaf) (.leaf)))))) (.leaf))
def slices_IndexFunc_Sl35_Step_l35_Step_K0  (K : Value → Hp → Prop) : Exit → Env → Hp → Prop := retK Tryz.prog Tryz.f94.results.toList K
def slices_IndexFunc_Sl35_Step_l35_Step_K1  (K : Value → Hp → Prop) : Exit → Env → Hp → Prop := thenE (fun env h => sx_2 Tryz.prog F 19 (cp [1, 1] (bodyOf Tryz.f94)) (ap [1, 1] slices_IndexFunc_Sl35_Step_l35_Step_an) (rs [] env) h (slices_IndexFunc_Sl35_Step_l35_Step_K0  K)) (slices_IndexFunc_Sl35_Step_l35_Step_K0  K)
def slices_IndexFunc_Sl35_Step_l35_Step_K2  (K : Value → Hp → Prop) : Exit → Env → Hp → Prop := blockE 0 (slices_IndexFunc_Sl35_Step_l35_Step_K1  K)
def slices_IndexFunc_Sl35_Step_l35_Step_K3 (nx0 : Int × Unit → Hp → Prop) (K : Value → Hp → Prop) : Exit → Env → Hp → Prop := thenE (fun env h => getV [(8, .int .i64)] env fun s => nx0 s h) (slices_IndexFunc_Sl35_Step_l35_Step_K2  K)
def slices_IndexFunc_Sl35_Step_l35_Step_b0 (s : Option Addr) (sL : Nat) (sC : Nat) (f : Value) (h : Hp)  (K : Value → Hp → Prop) : Prop :=
  sx_3 Tryz.prog F 19 (cp [] (bodyOf Tryz.f94)) (ap [] slices_IndexFunc_Sl35_Step_l35_Step_an) [(0, .slice s sL sC), (1, f)] h (slices_IndexFunc_Sl35_Step_l35_Step_K0  K)
def slices_IndexFunc_Sl35_Step_l35_Step_b1 (t8 : Int) (s : Option Addr) (sL : Nat) (sC : Nat) (f : Value) (t7 : Int) (h : Hp) (nx0 : Int × Unit → Hp → Prop) (K : Value → Hp → Prop) : Prop :=
  sx_2 Tryz.prog F 19 (cp [1, 0, 1, 2, 2] (bodyOf Tryz.f94)) (ap [1, 0, 1, 2] slices_IndexFunc_Sl35_Step_l35_Step_an) [(8, .int .i64 t8), (0, .slice s sL sC), (1, f), (7, .int .i64 t7)] h (slices_IndexFunc_Sl35_Step_l35_Step_K3 nx0 K)
def slices_IndexFunc_Sl35_Step_l35_Step_b2 (s : Option Addr) (sL : Nat) (sC : Nat) (f : Value) (t7 : Int) (t8 : Int) (h : Hp) (nx0 : Int × Unit → Hp → Prop) (K : Value → Hp → Prop) : Prop :=
  sx_1 Tryz.prog F 19 (cp [1, 0, 1, 2, 2, 1, 1, 1] (bodyOf Tryz.f94)) (ap [1, 0, 1, 2, 1, 1, 1] slices_IndexFunc_Sl35_Step_l35_Step_an) [(0, .slice s sL sC), (1, f), (7, .int .i64 t7), (8, .int .i64 t8)] h (slices_IndexFunc_Sl35_Step_l35_Step_K3 nx0 K)
def slices_IndexFunc_Sl35_Step_l35_Step_b3  (h : Hp)  (K : Value → Hp → Prop) : Prop :=
  sx_2 Tryz.prog F 19 (cp [1, 1] (bodyOf Tryz.f94)) (ap [1, 1] slices_IndexFunc_Sl35_Step_l35_Step_an) [] h (slices_IndexFunc_Sl35_Step_l35_Step_K0  K)
theorem slices_IndexFunc_Sl35_Step_l35_Step_b0_eq (s : Option Addr) (sL : Nat) (sC : Nat) (f : Value) (h : Hp)  (K : Value → Hp → Prop) : slices_IndexFunc_Sl35_Step_l35_Step_b0 s sL sC f h  K = (
  LoopVC ((0, ()) : Int × Unit) h (fun (nx0 : Int × Unit → Hp → Prop) (s1 : Int × Unit) h1 => slices_IndexFunc_Sl35_Step_l35_Step_b1 s1.1 s sL sC f (sL : Int) h1 nx0 K)) := by kernel_rfl
theorem slices_IndexFunc_Sl35_Step_l35_Step_b1_eq (t8 : Int) (s : Option Addr) (sL : Nat) (sC : Nat) (f : Value) (t7 : Int) (h : Hp) (nx0 : Int × Unit → Hp → Prop) (K : Value → Hp → Prop) : slices_IndexFunc_Sl35_Step_l35_Step_b1 t8 s sL sC f t7 h nx0 K = (
  cond (decide (t8 < t7))
  ((0 ≤ t8 ∧ t8 < (sL : Int)) ∧
  NN s fun a1 =>
  ∃ n1 : Int, ∃ n2 : Int, ∃ n3 : Int, ∃ n4 : Int, ∃ (a2 : Option Addr) (L1 C1 : Nat), cell h (a1.add (Int.toNat t8 * 5)) = some (.int .i64 n1) ∧
  cell h ((a1.add (Int.toNat t8 * 5)).add 1) = some (.int .i64 n2) ∧
  cell h ((a1.add (Int.toNat t8 * 5)).add 2) = some (.int .i64 n3) ∧
  cell h ((a1.add (Int.toNat t8 * 5)).add 3) = some (.int .i64 n4) ∧
  cell h ((a1.add (Int.toNat t8 * 5)).add 4) = some (.slice a2 L1 C1) ∧
  funV f fun fg1 fa1 fc1 => callX Tryz.prog F fg1 (fa1 ++ (([.agg #[.int .i64 n1, .int .i64 n2, .int .i64 n3, .int .i64 n4, .slice a2 L1 C1]] : List Value) ++ fc1)).toArray h fun v1 h2 => ∃ r1 : Bool, v1 = .bool r1 ∧
  cond r1
  (K (.int .i64 t8) h2)
  (slices_IndexFunc_Sl35_Step_l35_Step_b2 s sL sC f t7 t8 h2 nx0 K))
  (slices_IndexFunc_Sl35_Step_l35_Step_b3  h  K)) := by kernel_rfl
theorem slices_IndexFunc_Sl35_Step_l35_Step_b2_eq (s : Option Addr) (sL : Nat) (sC : Nat) (f : Value) (t7 : Int) (t8 : Int) (h : Hp) (nx0 : Int × Unit → Hp → Prop) (K : Value → Hp → Prop) : slices_IndexFunc_Sl35_Step_l35_Step_b2 s sL sC f t7 t8 h nx0 K = (
  InR (t8 + 1) ∧
  nx0 (t8 + 1, ()) h) := by kernel_rfl
theorem slices_IndexFunc_Sl35_Step_l35_Step_b3_eq  (h : Hp)  (K : Value → Hp → Prop) : slices_IndexFunc_Sl35_Step_l35_Step_b3  h  K = (
  K (.int .i64 (-1)) h) := by kernel_rfl
theorem slices_IndexFunc_Sl35_Step_l35_Step_call {s : Option Addr} {sL : Nat} {sC : Nat} {f : Value} {h : Hp} {K : Value → Hp → Prop} (hk : slices_IndexFunc_Sl35_Step_l35_Step_b0 s sL sC f h K) : HCalls Tryz.prog 94 #[.slice s sL sC, f] h K :=
  calls_of_snd slices_IndexFunc_Sl35_Step_l35_Step_an Tryz.func94 (c := bodyOf Tryz.f94) rfl Tryz.ntmps94 (Nat.le_of_ble_eq_true rfl) (snd_3 F_ok F_mixed) hk

/-! ### r35_Change -/
/-! ### r35_With -/
/-! ### r35_Without -/
/-! ### slices_Insert_Spartialretro_action_partialretro_action -/
def slices_Insert_Spartialretro_action_partialretro_action_an : Ann := .node none (.leaf) (.node none (.leaf) (.node none (.leaf) (.node none (.leaf) (.node none (.leaf) (.node none (.leaf) (.node none (.node none (.leaf) (.node none (.node none (.leaf) (.node none (.leaf) (.node none (.tail 8) (.leaf)))) (.leaf))) (.node none (.leaf) (.node none (.node none (.leaf) (.node none (.node none (.tail 8) (.leaf)) (.leaf))) (.leaf)))))))))
def slices_Insert_Spartialretro_action_partialretro_action_K0  (K : Value → Hp → Prop) : Exit → Env → Hp → Prop := retK Tryz.prog Tryz.f98.results.toList K
def slices_Insert_Spartialretro_action_partialretro_action_b0 (s : Option Addr) (sL : Nat) (sC : Nat) (i : Int) (v : Option Addr) (vL : Nat) (vC : Nat) (h : Hp)  (K : Value → Hp → Prop) : Prop :=
  sx_1 Tryz.prog F 95 (cp [] (bodyOf Tryz.f98)) (ap [] slices_Insert_Spartialretro_action_partialretro_action_an) [(0, .slice s sL sC), (1, .int .i64 i), (2, .slice v vL vC)] h (slices_Insert_Spartialretro_action_partialretro_action_K0  K)
theorem slices_Insert_Spartialretro_action_partialretro_action_b0_eq (s : Option Addr) (sL : Nat) (sC : Nat) (i : Int) (v : Option Addr) (vL : Nat) (vC : Nat) (h : Hp)  (K : Value → Hp → Prop) : slices_Insert_Spartialretro_action_partialretro_action_b0 s sL sC i v vL vC h  K = (
  (0 ≤ i ∧ i ≤ (sL : Int) ∧ (sL : Int) ≤ (sC : Int)) ∧
  cond (decide ((vL : Int) = 0))
  (K (.slice s sL sC) h)
  (cond (decide (i = (sL : Int)))
  (appendV Tryz.prog 93 93 (.slice s sL sC) (.slice v vL vC) h (slK fun a1 l1 c1 h1 =>
  K (.slice a1 l1 c1) h1))
  (InR ((sL : Int) + (vL : Int)) ∧
  cond (decide ((sC : Int) < ((sL : Int) + (vL : Int))))
  ((0 ≤ (0 : Int) ∧ (0 : Int) ≤ i ∧ i ≤ (sC : Int)) ∧
  InR ((sL : Int) + (vL : Int)) ∧
  InR (((sL : Int) + (vL : Int)) - i) ∧
  appendV Tryz.prog 93 3 (.slice (subAddr s sC (Int.toNat (0 : Int)) 3) (Int.toNat i - Int.toNat (0 : Int)) (sC - Int.toNat (0 : Int))) (.int .i64 (((sL : Int) + (vL : Int)) - i)) h (slK fun a2 l2 c2 h2 =>
  (0 ≤ i ∧ i ≤ (l2 : Int) ∧ (l2 : Int) ≤ (c2 : Int)) ∧
  copyV Tryz.prog 93 (.slice (subAddr a2 c2 (Int.toNat i) 3) (Int.toNat (l2 : Int) - Int.toNat i) (c2 - Int.toNat i)) (.slice v vL vC) h2 fun v1 h3 =>
  InR (i + (vL : Int)) ∧
  (0 ≤ i + (vL : Int) ∧ i + (vL : Int) ≤ (l2 : Int) ∧ (l2 : Int) ≤ (c2 : Int)) ∧
  (0 ≤ i ∧ i ≤ (sL : Int) ∧ (sL : Int) ≤ (sC : Int)) ∧
  copyV Tryz.prog 93 (.slice (subAddr a2 c2 (Int.toNat (i + (vL : Int))) 3) (Int.toNat (l2 : Int) - Int.toNat (i + (vL : Int))) (c2 - Int.toNat (i + (vL : Int)))) (.slice (subAddr s sC (Int.toNat i) 3) (Int.toNat (sL : Int) - Int.toNat i) (sC - Int.toNat i)) h3 fun v2 h4 =>
  K (.slice a2 l2 c2) h4))
  (InR ((sL : Int) + (vL : Int)) ∧
  (0 ≤ (0 : Int) ∧ (0 : Int) ≤ (sL : Int) + (vL : Int) ∧ (sL : Int) + (vL : Int) ≤ (sC : Int)) ∧
  InR (i + (vL : Int)) ∧
  (0 ≤ i + (vL : Int) ∧ i + (vL : Int) ≤ ((Int.toNat ((sL : Int) + (vL : Int)) - Int.toNat (0 : Int) : Nat) : Int) ∧ ((Int.toNat ((sL : Int) + (vL : Int)) - Int.toNat (0 : Int) : Nat) : Int) ≤ ((sC - Int.toNat (0 : Int) : Nat) : Int)) ∧
  ExtCall Tryz.prog 143 #[.slice v vL vC, .slice (subAddr (subAddr s sC (Int.toNat (0 : Int)) 3) (sC - Int.toNat (0 : Int)) (Int.toNat (i + (vL : Int))) 3) (Int.toNat ((Int.toNat ((sL : Int) + (vL : Int)) - Int.toNat (0 : Int) : Nat) : Int) - Int.toNat (i + (vL : Int))) ((sC - Int.toNat (0 : Int)) - Int.toNat (i + (vL : Int)))] h fun v3 => ∃ r1 : Bool, v3 = .bool r1 ∧
  cond (!r1)
  (InR (i + (vL : Int)) ∧
  (0 ≤ i + (vL : Int) ∧ i + (vL : Int) ≤ ((Int.toNat ((sL : Int) + (vL : Int)) - Int.toNat (0 : Int) : Nat) : Int) ∧ ((Int.toNat ((sL : Int) + (vL : Int)) - Int.toNat (0 : Int) : Nat) : Int) ≤ ((sC - Int.toNat (0 : Int) : Nat) : Int)) ∧
  (0 ≤ i ∧ i ≤ ((Int.toNat ((sL : Int) + (vL : Int)) - Int.toNat (0 : Int) : Nat) : Int) ∧ ((Int.toNat ((sL : Int) + (vL : Int)) - Int.toNat (0 : Int) : Nat) : Int) ≤ ((sC - Int.toNat (0 : Int) : Nat) : Int)) ∧
  copyV Tryz.prog 93 (.slice (subAddr (subAddr s sC (Int.toNat (0 : Int)) 3) (sC - Int.toNat (0 : Int)) (Int.toNat (i + (vL : Int))) 3) (Int.toNat ((Int.toNat ((sL : Int) + (vL : Int)) - Int.toNat (0 : Int) : Nat) : Int) - Int.toNat (i + (vL : Int))) ((sC - Int.toNat (0 : Int)) - Int.toNat (i + (vL : Int)))) (.slice (subAddr (subAddr s sC (Int.toNat (0 : Int)) 3) (sC - Int.toNat (0 : Int)) (Int.toNat i) 3) (Int.toNat ((Int.toNat ((sL : Int) + (vL : Int)) - Int.toNat (0 : Int) : Nat) : Int) - Int.toNat i) ((sC - Int.toNat (0 : Int)) - Int.toNat i)) h fun v4 h6 =>
  (0 ≤ i ∧ i ≤ ((Int.toNat ((sL : Int) + (vL : Int)) - Int.toNat (0 : Int) : Nat) : Int) ∧ ((Int.toNat ((sL : Int) + (vL : Int)) - Int.toNat (0 : Int) : Nat) : Int) ≤ ((sC - Int.toNat (0 : Int) : Nat) : Int)) ∧
  copyV Tryz.prog 93 (.slice (subAddr (subAddr s sC (Int.toNat (0 : Int)) 3) (sC - Int.toNat (0 : Int)) (Int.toNat i) 3) (Int.toNat ((Int.toNat ((sL : Int) + (vL : Int)) - Int.toNat (0 : Int) : Nat) : Int) - Int.toNat i) ((sC - Int.toNat (0 : Int)) - Int.toNat i)) (.slice v vL vC) h6 fun v5 h7 =>
  K (.slice (subAddr s sC (Int.toNat (0 : Int)) 3) (Int.toNat ((sL : Int) + (vL : Int)) - Int.toNat (0 : Int)) (sC - Int.toNat (0 : Int))) h7)
  ((0 ≤ (sL : Int) ∧ (sL : Int) ≤ ((Int.toNat ((sL : Int) + (vL : Int)) - Int.toNat (0 : Int) : Nat) : Int) ∧ ((Int.toNat ((sL : Int) + (vL : Int)) - Int.toNat (0 : Int) : Nat) : Int) ≤ ((sC - Int.toNat (0 : Int) : Nat) : Int)) ∧
  copyV Tryz.prog 93 (.slice (subAddr (subAddr s sC (Int.toNat (0 : Int)) 3) (sC - Int.toNat (0 : Int)) (Int.toNat (sL : Int)) 3) (Int.toNat ((Int.toNat ((sL : Int) + (vL : Int)) - Int.toNat (0 : Int) : Nat) : Int) - Int.toNat (sL : Int)) ((sC - Int.toNat (0 : Int)) - Int.toNat (sL : Int))) (.slice v vL vC) h fun v6 h8 =>
  (0 ≤ i ∧ i ≤ ((Int.toNat ((sL : Int) + (vL : Int)) - Int.toNat (0 : Int) : Nat) : Int) ∧ ((Int.toNat ((sL : Int) + (vL : Int)) - Int.toNat (0 : Int) : Nat) : Int) ≤ ((sC - Int.toNat (0 : Int) : Nat) : Int)) ∧
  HCalls Tryz.prog 144 #[.slice (subAddr (subAddr s sC (Int.toNat (0 : Int)) 3) (sC - Int.toNat (0 : Int)) (Int.toNat i) 3) (Int.toNat ((Int.toNat ((sL : Int) + (vL : Int)) - Int.toNat (0 : Int) : Nat) : Int) - Int.toNat i) ((sC - Int.toNat (0 : Int)) - Int.toNat i), .int .i64 (vL : Int)] h8 fun v7 h9 => v7 = .tuple #[] ∧
  K (.slice (subAddr s sC (Int.toNat (0 : Int)) 3) (Int.toNat ((sL : Int) + (vL : Int)) - Int.toNat (0 : Int)) (sC - Int.toNat (0 : Int))) h9))))) := by kernel_rfl
theorem slices_Insert_Spartialretro_action_partialretro_action_call {s : Option Addr} {sL : Nat} {sC : Nat} {i : Int} {v : Option Addr} {vL : Nat} {vC : Nat} {h : Hp} {K : Value → Hp → Prop} (hk : slices_Insert_Spartialretro_action_partialretro_action_b0 s sL sC i v vL vC h K) : HCalls Tryz.prog 98 #[.slice s sL sC, .int .i64 i, .slice v vL vC] h K :=
  calls_of_snd slices_Insert_Spartialretro_action_partialretro_action_an Tryz.func98 (c := bodyOf Tryz.f98) rfl Tryz.ntmps98 (Nat.le_of_ble_eq_true rfl) (snd_1 F_ok F_mixed) hk

/-! ### cmp_isNaN_int -/
def cmp_isNaN_int_an : Ann := .leaf
def cmp_isNaN_int_K0  (K : Value → Hp → Prop) : Exit → Env → Hp → Prop := retK Tryz.prog Tryz.f99.results.toList K
def cmp_isNaN_int_b0 (x : Int) (h : Hp)  (K : Value → Hp → Prop) : Prop :=
  sx_1 Tryz.prog F 6 (cp [] (bodyOf Tryz.f99)) (ap [] cmp_isNaN_int_an) [(0, .int .i64 x)] h (cmp_isNaN_int_K0  K)
theorem cmp_isNaN_int_b0_eq (x : Int) (h : Hp)  (K : Value → Hp → Prop) : cmp_isNaN_int_b0 x h  K = (
  K (.bool (!decide (x = x))) h) := by kernel_rfl
theorem cmp_isNaN_int_call {x : Int} {h : Hp} {K : Value → Hp → Prop} (hk : cmp_isNaN_int_b0 x h K) : HCalls Tryz.prog 99 #[.int .i64 x] h K :=
  calls_of_snd cmp_isNaN_int_an Tryz.func99 (c := bodyOf Tryz.f99) rfl Tryz.ntmps99 (Nat.le_of_ble_eq_true rfl) (snd_1 F_ok F_mixed) hk

/-! ### slices_rotateLeft_int -/
/-! ### slices_BinarySearchFunc_Spartialretro_action_partialretro_action_int -/
def slices_BinarySearchFunc_Spartialretro_action_partialretro_action_int_an : Ann := .node none (.leaf) (.node none (.leaf) (.node none (.leaf) (.node (some [0, 1, 2, 8, 9]) (.loop [0, 1, 2, 8] [(9, .int .i64), (10, .int .i64)] (.leaf)) (.leaf))))
def slices_BinarySearchFunc_Spartialretro_action_partialretro_action_int_K0  (K : Value → Hp → Prop) : Exit → Env → Hp → Prop := retK Tryz.prog Tryz.f101.results.toList K
def slices_BinarySearchFunc_Spartialretro_action_partialretro_action_int_K1  (K : Value → Hp → Prop) : Exit → Env → Hp → Prop := thenE (fun env h => sx_1 Tryz.prog F 49 (cp [1, 1, 1, 1] (bodyOf Tryz.f101)) (ap [1, 1, 1, 1] slices_BinarySearchFunc_Spartialretro_action_partialretro_action_int_an) (rs [0, 1, 2, 8, 9] env) h (slices_BinarySearchFunc_Spartialretro_action_partialretro_action_int_K0  K)) (slices_BinarySearchFunc_Spartialretro_action_partialretro_action_int_K0  K)
def slices_BinarySearchFunc_Spartialretro_action_partialretro_action_int_K2  (K : Value → Hp → Prop) : Exit → Env → Hp → Prop := blockE 0 (slices_BinarySearchFunc_Spartialretro_action_partialretro_action_int_K1  K)
def slices_BinarySearchFunc_Spartialretro_action_partialretro_action_int_K3 (nx0 : Int × Int × Unit → Hp → Prop) (K : Value → Hp → Prop) : Exit → Env → Hp → Prop := thenE (fun env h => getV [(9, .int .i64), (10, .int .i64)] env fun s => nx0 s h) (slices_BinarySearchFunc_Spartialretro_action_partialretro_action_int_K2  K)
def slices_BinarySearchFunc_Spartialretro_action_partialretro_action_int_b0 (x : Option Addr) (xL : Nat) (xC : Nat) (target : Int) (cmp : Value) (h : Hp)  (K : Value → Hp → Prop) : Prop :=
  sx_2 Tryz.prog F 49 (cp [] (bodyOf Tryz.f101)) (ap [] slices_BinarySearchFunc_Spartialretro_action_partialretro_action_int_an) [(0, .slice x xL xC), (1, .int .i64 target), (2, cmp)] h (slices_BinarySearchFunc_Spartialretro_action_partialretro_action_int_K0  K)
def slices_BinarySearchFunc_Spartialretro_action_partialretro_action_int_b1 (i : Int) (j : Int) (x : Option Addr) (xL : Nat) (xC : Nat) (target : Int) (cmp : Value) (nv : Int) (h : Hp) (nx0 : Int × Int × Unit → Hp → Prop) (K : Value → Hp → Prop) : Prop :=
  sx_1 Tryz.prog F 49 (cp [1, 1, 1, 0, 2, 2] (bodyOf Tryz.f101)) (ap [1, 1, 1, 0, 2] slices_BinarySearchFunc_Spartialretro_action_partialretro_action_int_an) [(9, .int .i64 i), (10, .int .i64 j), (0, .slice x xL xC), (1, .int .i64 target), (2, cmp), (8, .int .i64 nv)] h (slices_BinarySearchFunc_Spartialretro_action_partialretro_action_int_K3 nx0 K)
def slices_BinarySearchFunc_Spartialretro_action_partialretro_action_int_b2 (x : Option Addr) (xL : Nat) (xC : Nat) (target : Int) (cmp : Value) (nv : Int) (i : Int) (h : Hp)  (K : Value → Hp → Prop) : Prop :=
  sx_1 Tryz.prog F 49 (cp [1, 1, 1, 1] (bodyOf Tryz.f101)) (ap [1, 1, 1, 1] slices_BinarySearchFunc_Spartialretro_action_partialretro_action_int_an) [(0, .slice x xL xC), (1, .int .i64 target), (2, cmp), (8, .int .i64 nv), (9, .int .i64 i)] h (slices_BinarySearchFunc_Spartialretro_action_partialretro_action_int_K0  K)
theorem slices_BinarySearchFunc_Spartialretro_action_partialretro_action_int_b0_eq (x : Option Addr) (xL : Nat) (xC : Nat) (target : Int) (cmp : Value) (h : Hp)  (K : Value → Hp → Prop) : slices_BinarySearchFunc_Spartialretro_action_partialretro_action_int_b0 x xL xC target cmp h  K = (
  LoopVC ((0, (xL : Int), ()) : Int × Int × Unit) h (fun (nx0 : Int × Int × Unit → Hp → Prop) (s1 : Int × Int × Unit) h1 => slices_BinarySearchFunc_Spartialretro_action_partialretro_action_int_b1 s1.1 s1.2.1 x xL xC target cmp (xL : Int) h1 nx0 K)) := by kernel_rfl
theorem slices_BinarySearchFunc_Spartialretro_action_partialretro_action_int_b1_eq (i : Int) (j : Int) (x : Option Addr) (xL : Nat) (xC : Nat) (target : Int) (cmp : Value) (nv : Int) (h : Hp) (nx0 : Int × Int × Unit → Hp → Prop) (K : Value → Hp → Prop) : slices_BinarySearchFunc_Spartialretro_action_partialretro_action_int_b1 i j x xL xC target cmp nv h nx0 K = (
  cond (decide (i < j))
  (InR (i + j) ∧
  ∃ sr1 : Int, Sx.Shr .u64 (IntKind.u64.wrap (i + j)) 1 sr1 ∧
  InR sr1 ∧
  (0 ≤ sr1 ∧ sr1 < (xL : Int)) ∧
  NN x fun a1 =>
  ∃ n1 : Int, ∃ n2 : Int, ∃ b1 : Bool, cell h (a1.add (Int.toNat sr1 * 3)) = some (.int .i64 n1) ∧
  cell h ((a1.add (Int.toNat sr1 * 3)).add 1) = some (.int .i64 n2) ∧
  cell h ((a1.add (Int.toNat sr1 * 3)).add 2) = some (.bool b1) ∧
  funV cmp fun fg1 fa1 fc1 => callX Tryz.prog F fg1 (fa1 ++ (([.agg #[.int .i64 n1, .int .i64 n2, .bool b1], .int .i64 target] : List Value) ++ fc1)).toArray h fun v1 h2 => ∃ r1 : Int, v1 = .int .i64 r1 ∧
  cond (decide (r1 < 0))
  (InR (sr1 + 1) ∧
  nx0 (sr1 + 1, j, ()) h2)
  (nx0 (i, sr1, ()) h2))
  (slices_BinarySearchFunc_Spartialretro_action_partialretro_action_int_b2 x xL xC target cmp nv i h  K)) := by kernel_rfl
theorem slices_BinarySearchFunc_Spartialretro_action_partialretro_action_int_b2_eq (x : Option Addr) (xL : Nat) (xC : Nat) (target : Int) (cmp : Value) (nv : Int) (i : Int) (h : Hp)  (K : Value → Hp → Prop) : slices_BinarySearchFunc_Spartialretro_action_partialretro_action_int_b2 x xL xC target cmp nv i h  K = (
  cond (decide (i < nv))
  ((0 ≤ i ∧ i < (xL : Int)) ∧
  NN x fun a2 =>
  ∃ n3 : Int, ∃ n4 : Int, ∃ b2 : Bool, cell h (a2.add (Int.toNat i * 3)) = some (.int .i64 n3) ∧
  cell h ((a2.add (Int.toNat i * 3)).add 1) = some (.int .i64 n4) ∧
  cell h ((a2.add (Int.toNat i * 3)).add 2) = some (.bool b2) ∧
  funV cmp fun fg2 fa2 fc2 => callX Tryz.prog F fg2 (fa2 ++ (([.agg #[.int .i64 n3, .int .i64 n4, .bool b2], .int .i64 target] : List Value) ++ fc2)).toArray h fun v2 h3 => ∃ r2 : Int, v2 = .int .i64 r2 ∧
  K (.tuple #[.int .i64 i, .bool (decide (r2 = 0))]) h3)
  (K (.tuple #[.int .i64 i, .bool false]) h)) := by kernel_rfl
theorem slices_BinarySearchFunc_Spartialretro_action_partialretro_action_int_call {x : Option Addr} {xL : Nat} {xC : Nat} {target : Int} {cmp : Value} {h : Hp} {K : Value → Hp → Prop} (hk : slices_BinarySearchFunc_Spartialretro_action_partialretro_action_int_b0 x xL xC target cmp h K) : HCalls Tryz.prog 101 #[.slice x xL xC, .int .i64 target, cmp] h K :=
  calls_of_snd slices_BinarySearchFunc_Spartialretro_action_partialretro_action_int_an Tryz.func101 (c := bodyOf Tryz.f101) rfl Tryz.ntmps101 (Nat.le_of_ble_eq_true rfl) (snd_2 F_ok F_mixed) hk

/-! ### partialretro_Queue_find_c1 -/
def partialretro_Queue_find_c1_an : Ann := .leaf
def partialretro_Queue_find_c1_K0  (K : Value → Hp → Prop) : Exit → Env → Hp → Prop := retK Tryz.prog Tryz.f102.results.toList K
def partialretro_Queue_find_c1_b0 (a_0 : Int) (a_1 : Int) (a_2 : Bool) (t : Int) (h : Hp)  (K : Value → Hp → Prop) : Prop :=
  sx_1 Tryz.prog F 9 (cp [] (bodyOf Tryz.f102)) (ap [] partialretro_Queue_find_c1_an) [(0, .agg #[.int .i64 a_0, .int .i64 a_1, .bool a_2]), (1, .int .i64 t)] h (partialretro_Queue_find_c1_K0  K)
theorem partialretro_Queue_find_c1_b0_eq (a_0 : Int) (a_1 : Int) (a_2 : Bool) (t : Int) (h : Hp)  (K : Value → Hp → Prop) : partialretro_Queue_find_c1_b0 a_0 a_1 a_2 t h  K = (
  New h (.cells #[.int .i64 a_0, .int .i64 a_1, .bool a_2] 106) fun b1 h1 =>
  ∃ n1 : Int, cell h1 ⟨b1, 0, none⟩ = some (.int .i64 n1) ∧
  HCalls Tryz.prog 103 #[.int .i64 n1, .int .i64 t] h1 fun v1 h2 => ∃ r1 : Int, v1 = .int .i64 r1 ∧
  K (.int .i64 r1) h2) := by kernel_rfl
theorem partialretro_Queue_find_c1_call {a_0 : Int} {a_1 : Int} {a_2 : Bool} {t : Int} {h : Hp} {K : Value → Hp → Prop} (hk : partialretro_Queue_find_c1_b0 a_0 a_1 a_2 t h K) : HCalls Tryz.prog 102 #[.agg #[.int .i64 a_0, .int .i64 a_1, .bool a_2], .int .i64 t] h K :=
  calls_of_snd partialretro_Queue_find_c1_an Tryz.func102 (c := bodyOf Tryz.f102) rfl Tryz.ntmps102 (Nat.le_of_ble_eq_true rfl) (snd_1 F_ok F_mixed) hk

/-! ### cmp_Compare_int -/
def cmp_Compare_int_an : Ann := .leaf
def cmp_Compare_int_K0  (K : Value → Hp → Prop) : Exit → Env → Hp → Prop := retK Tryz.prog Tryz.f103.results.toList K
def cmp_Compare_int_b0 (x : Int) (y : Int) (h : Hp)  (K : Value → Hp → Prop) : Prop :=
  sx_1 Tryz.prog F 20 (cp [] (bodyOf Tryz.f103)) (ap [] cmp_Compare_int_an) [(0, .int .i64 x), (1, .int .i64 y)] h (cmp_Compare_int_K0  K)
theorem cmp_Compare_int_b0_eq (x : Int) (y : Int) (h : Hp)  (K : Value → Hp → Prop) : cmp_Compare_int_b0 x y h  K = (
  HCalls Tryz.prog 99 #[.int .i64 x] h fun v1 h1 => ∃ r1 : Bool, v1 = .bool r1 ∧
  HCalls Tryz.prog 99 #[.int .i64 y] h1 fun v2 h2 => ∃ r2 : Bool, v2 = .bool r2 ∧
  cond r1
  (cond r2
  (K (.int .i64 0) h2)
  (K (.int .i64 (-1)) h2))
  (cond r2
  (K (.int .i64 1) h2)
  (cond (decide (x < y))
  (K (.int .i64 (-1)) h2)
  (cond (decide (y < x))
  (K (.int .i64 1) h2)
  (K (.int .i64 0) h2))))) := by kernel_rfl
theorem cmp_Compare_int_call {x : Int} {y : Int} {h : Hp} {K : Value → Hp → Prop} (hk : cmp_Compare_int_b0 x y h K) : HCalls Tryz.prog 103 #[.int .i64 x, .int .i64 y] h K :=
  calls_of_snd cmp_Compare_int_an Tryz.func103 (c := bodyOf Tryz.f103) rfl Tryz.ntmps103 (Nat.le_of_ble_eq_true rfl) (snd_1 F_ok F_mixed) hk

end Go.Proofs.YtdlkohenamlnaaaGreat
