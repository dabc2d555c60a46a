/- Plain statements of what each block of code of this seat asks; printed by a program, checked by Lean. -/
import Derived.Test.YtfkimbdjgadelaaSxV0
set_option maxRecDepth 10000
namespace Go.Proofs.Ytfkimbdjgadelaa
open Go Go.Sx

/-! ### wavelet_Tree_Get -/
def wavelet_Tree_Get_an : Ann := .node none (.leaf) (.node (some [0, 1]) (.leaf) (.node none (.leaf) (.node (some [6]) (.loop [0, 6] [] (.leaf)) (.leaf))))
def wavelet_Tree_Get_K0  (K : Value → Hp → Prop) : Exit → Env → Hp → Prop := retK Try.prog Try.f23.results.toList K
def wavelet_Tree_Get_K1  (K : Value → Hp → Prop) : Exit → Env → Hp → Prop := thenE (fun env h => sx_1 Try.prog F 50 (cp [1, 1, 1, 1] (bodyOf Try.f23)) (ap [1, 1, 1, 1] wavelet_Tree_Get_an) (rs [6] env) h (wavelet_Tree_Get_K0  K)) (wavelet_Tree_Get_K0  K)
def wavelet_Tree_Get_K2  (K : Value → Hp → Prop) : Exit → Env → Hp → Prop := blockE 1 (wavelet_Tree_Get_K1  K)
def wavelet_Tree_Get_K3 (nx0 : Unit → Hp → Prop) (K : Value → Hp → Prop) : Exit → Env → Hp → Prop := thenE (fun env h => getV [] env fun s => nx0 s h) (wavelet_Tree_Get_K2  K)
def wavelet_Tree_Get_b0 (t : Option Addr) (i : Int) (h : Hp)  (K : Value → Hp → Prop) : Prop :=
  sx_3 Try.prog F 50 (cp [] (bodyOf Try.f23)) (ap [] wavelet_Tree_Get_an) [(0, .pointer t), (1, .int .i64 i)] h (wavelet_Tree_Get_K0  K)
def wavelet_Tree_Get_b1 (t : Option Addr) (i : Int) (h : Hp)  (K : Value → Hp → Prop) : Prop :=
  sx_2 Try.prog F 50 (cp [1, 1] (bodyOf Try.f23)) (ap [1, 1] wavelet_Tree_Get_an) [(0, .pointer t), (1, .int .i64 i)] h (wavelet_Tree_Get_K0  K)
def wavelet_Tree_Get_b2 (t : Option Addr) (x : Option Addr) (h : Hp) (nx0 : Unit → Hp → Prop) (K : Value → Hp → Prop) : Prop :=
  sx_1 Try.prog F 50 (cp [1, 1, 1, 0, 2, 2] (bodyOf Try.f23)) (ap [1, 1, 1, 0, 2] wavelet_Tree_Get_an) [(0, .pointer t), (6, .pointer x)] h (wavelet_Tree_Get_K3 nx0 K)
def wavelet_Tree_Get_b3 (x : Option Addr) (h : Hp)  (K : Value → Hp → Prop) : Prop :=
  sx_1 Try.prog F 50 (cp [1, 1, 1, 1] (bodyOf Try.f23)) (ap [1, 1, 1, 1] wavelet_Tree_Get_an) [(6, .pointer x)] h (wavelet_Tree_Get_K0  K)
theorem wavelet_Tree_Get_b0_eq (t : Option Addr) (i : Int) (h : Hp)  (K : Value → Hp → Prop) : wavelet_Tree_Get_b0 t i h  K = (
  cond t.isNone
  (K (.tuple #[.int .i64 0, .int .i64 1]) h)
  (cond (decide (i < 0))
  (K (.tuple #[.int .i64 0, .int .i64 2]) h)
  (NN t fun a1 =>
  ∃ n1 : Int, cell h a1 = some (.int .i64 n1) ∧
  cond (decide (n1 ≤ i))
  (K (.tuple #[.int .i64 0, .int .i64 2]) h)
  (wavelet_Tree_Get_b1 t i h  K)))) := by kernel_rfl
theorem wavelet_Tree_Get_b1_eq (t : Option Addr) (i : Int) (h : Hp)  (K : Value → Hp → Prop) : wavelet_Tree_Get_b1 t i h  K = (
  InR (i + 1) ∧
  HCalls Try.prog 35 #[.pointer t, .int .i64 i, .int .i64 (i + 1)] h fun v1 h1 => ∃ r1 : Int, ∃ r2 : Int, ∃ r3 : Int, ∃ r4 : Int, ∃ r5 : Int, ∃ r6 : Int, v1 = .agg #[.int .i64 r1, .int .i64 r2, .int .i64 r3, .int .i64 r4, .int .i64 r5, .int .i64 r6] ∧
  New h1 (.cells #[.int .i64 0, .int .i64 0, .int .i64 0, .int .i64 0, .int .i64 0, .int .i64 0] 60) fun b1 h2 =>
  Wr h2 ⟨b1, 0, none⟩ (.int .i64 r1) fun h3 =>
  Wr h3 ((⟨b1, 0, none⟩ : Addr).add 1) (.int .i64 r2) fun h4 =>
  Wr h4 ((⟨b1, 0, none⟩ : Addr).add 2) (.int .i64 r3) fun h5 =>
  Wr h5 ((⟨b1, 0, none⟩ : Addr).add 3) (.int .i64 r4) fun h6 =>
  Wr h6 ((⟨b1, 0, none⟩ : Addr).add 4) (.int .i64 r5) fun h7 =>
  Wr h7 ((⟨b1, 0, none⟩ : Addr).add 5) (.int .i64 r6) fun h8 =>
  LoopVC (() : Unit) h8 (fun (nx0 : Unit → Hp → Prop) (s1 : Unit) h9 => wavelet_Tree_Get_b2 t (some ⟨b1, 0, none⟩) h9 nx0 K)) := by kernel_rfl
theorem wavelet_Tree_Get_b2_eq (t : Option Addr) (x : Option Addr) (h : Hp) (nx0 : Unit → Hp → Prop) (K : Value → Hp → Prop) : wavelet_Tree_Get_b2 t x h nx0 K = (
  NN x fun a2 =>
  ∃ n2 : Int, cell h a2 = some (.int .i64 n2) ∧
  NN t fun a3 =>
  ∃ n3 : Int, cell h (a3.add 2) = some (.int .i64 n3) ∧
  cond (decide (n2 < n3))
  (NN x fun a4 =>
  ∃ n4 : Int, ∃ n5 : Int, ∃ n6 : Int, ∃ n7 : Int, ∃ n8 : Int, ∃ n9 : Int, cell h a4 = some (.int .i64 n4) ∧
  cell h (a4.add 1) = some (.int .i64 n5) ∧
  cell h (a4.add 2) = some (.int .i64 n6) ∧
  cell h (a4.add 3) = some (.int .i64 n7) ∧
  cell h (a4.add 4) = some (.int .i64 n8) ∧
  cell h (a4.add 5) = some (.int .i64 n9) ∧
  HCalls Try.prog 36 #[.pointer t, .agg #[.int .i64 n4, .int .i64 n5, .int .i64 n6, .int .i64 n7, .int .i64 n8, .int .i64 n9]] h fun v2 h10 => ∃ r7 : Int, ∃ r8 : Int, ∃ r9 : Int, ∃ r10 : Int, ∃ r11 : Int, ∃ r12 : Int, ∃ r13 : Int, ∃ r14 : Int, ∃ r15 : Int, ∃ r16 : Int, ∃ r17 : Int, ∃ r18 : Int, v2 = .tuple #[.agg #[.int .i64 r7, .int .i64 r8, .int .i64 r9, .int .i64 r10, .int .i64 r11, .int .i64 r12], .agg #[.int .i64 r13, .int .i64 r14, .int .i64 r15, .int .i64 r16, .int .i64 r17, .int .i64 r18]] ∧
  New h10 (.cells #[.int .i64 0, .int .i64 0, .int .i64 0, .int .i64 0, .int .i64 0, .int .i64 0] 60) fun b2 h11 =>
  New h11 (.cells #[.int .i64 0, .int .i64 0, .int .i64 0, .int .i64 0, .int .i64 0, .int .i64 0] 60) fun b3 h12 =>
  Wr h12 ⟨b2, 0, none⟩ (.int .i64 r7) fun h13 =>
  Wr h13 ((⟨b2, 0, none⟩ : Addr).add 1) (.int .i64 r8) fun h14 =>
  Wr h14 ((⟨b2, 0, none⟩ : Addr).add 2) (.int .i64 r9) fun h15 =>
  Wr h15 ((⟨b2, 0, none⟩ : Addr).add 3) (.int .i64 r10) fun h16 =>
  Wr h16 ((⟨b2, 0, none⟩ : Addr).add 4) (.int .i64 r11) fun h17 =>
  Wr h17 ((⟨b2, 0, none⟩ : Addr).add 5) (.int .i64 r12) fun h18 =>
  Wr h18 ⟨b3, 0, none⟩ (.int .i64 r13) fun h19 =>
  Wr h19 ((⟨b3, 0, none⟩ : Addr).add 1) (.int .i64 r14) fun h20 =>
  Wr h20 ((⟨b3, 0, none⟩ : Addr).add 2) (.int .i64 r15) fun h21 =>
  Wr h21 ((⟨b3, 0, none⟩ : Addr).add 3) (.int .i64 r16) fun h22 =>
  Wr h22 ((⟨b3, 0, none⟩ : Addr).add 4) (.int .i64 r17) fun h23 =>
  Wr h23 ((⟨b3, 0, none⟩ : Addr).add 5) (.int .i64 r18) fun h24 =>
  ∃ n10 : Int, ∃ n11 : Int, ∃ n12 : Int, ∃ n13 : Int, ∃ n14 : Int, ∃ n15 : Int, cell h24 ⟨b2, 0, none⟩ = some (.int .i64 n10) ∧
  cell h24 ((⟨b2, 0, none⟩ : Addr).add 1) = some (.int .i64 n11) ∧
  cell h24 ((⟨b2, 0, none⟩ : Addr).add 2) = some (.int .i64 n12) ∧
  cell h24 ((⟨b2, 0, none⟩ : Addr).add 3) = some (.int .i64 n13) ∧
  cell h24 ((⟨b2, 0, none⟩ : Addr).add 4) = some (.int .i64 n14) ∧
  cell h24 ((⟨b2, 0, none⟩ : Addr).add 5) = some (.int .i64 n15) ∧
  NN x fun a5 =>
  Wr h24 a5 (.int .i64 n10) fun h25 =>
  Wr h25 (a5.add 1) (.int .i64 n11) fun h26 =>
  Wr h26 (a5.add 2) (.int .i64 n12) fun h27 =>
  Wr h27 (a5.add 3) (.int .i64 n13) fun h28 =>
  Wr h28 (a5.add 4) (.int .i64 n14) fun h29 =>
  Wr h29 (a5.add 5) (.int .i64 n15) fun h30 =>
  ∃ n16 : Int, cell h30 ((⟨b2, 0, none⟩ : Addr).add 3) = some (.int .i64 n16) ∧
  ∃ n17 : Int, cell h30 ((⟨b2, 0, none⟩ : Addr).add 4) = some (.int .i64 n17) ∧
  cond (decide (n16 = n17))
  (∃ n18 : Int, ∃ n19 : Int, ∃ n20 : Int, ∃ n21 : Int, ∃ n22 : Int, ∃ n23 : Int, cell h30 ⟨b3, 0, none⟩ = some (.int .i64 n18) ∧
  cell h30 ((⟨b3, 0, none⟩ : Addr).add 1) = some (.int .i64 n19) ∧
  cell h30 ((⟨b3, 0, none⟩ : Addr).add 2) = some (.int .i64 n20) ∧
  cell h30 ((⟨b3, 0, none⟩ : Addr).add 3) = some (.int .i64 n21) ∧
  cell h30 ((⟨b3, 0, none⟩ : Addr).add 4) = some (.int .i64 n22) ∧
  cell h30 ((⟨b3, 0, none⟩ : Addr).add 5) = some (.int .i64 n23) ∧
  NN x fun a6 =>
  Wr h30 a6 (.int .i64 n18) fun h31 =>
  Wr h31 (a6.add 1) (.int .i64 n19) fun h32 =>
  Wr h32 (a6.add 2) (.int .i64 n20) fun h33 =>
  Wr h33 (a6.add 3) (.int .i64 n21) fun h34 =>
  Wr h34 (a6.add 4) (.int .i64 n22) fun h35 =>
  Wr h35 (a6.add 5) (.int .i64 n23) fun h36 =>
  nx0 () h36)
  (nx0 () h30))
  (wavelet_Tree_Get_b3 x h  K)) := by kernel_rfl
theorem wavelet_Tree_Get_b3_eq (x : Option Addr) (h : Hp)  (K : Value → Hp → Prop) : wavelet_Tree_Get_b3 x h  K = (
  NN x fun a7 =>
  ∃ n24 : Int, cell h (a7.add 5) = some (.int .i64 n24) ∧
  K (.tuple #[.int .i64 n24, .int .i64 0]) h) := by kernel_rfl
theorem wavelet_Tree_Get_call {t : Option Addr} {i : Int} {h : Hp} {K : Value → Hp → Prop} (hk : wavelet_Tree_Get_b0 t i h K) : HCalls Try.prog 23 #[.pointer t, .int .i64 i] h K :=
  calls_of_snd wavelet_Tree_Get_an Try.func23 (c := bodyOf Try.f23) rfl Try.ntmps23 (Nat.le_of_ble_eq_true rfl) (snd_3 F_ok F_mixed) hk

/-! ### r22_Get -/
/-! ### wavelet_Tree_Rank -/
def wavelet_Tree_Rank_an : Ann := .node none (.leaf) (.node (some [0, 1, 2]) (.leaf) (.leaf))
def wavelet_Tree_Rank_K0  (K : Value → Hp → Prop) : Exit → Env → Hp → Prop := retK Try.prog Try.f25.results.toList K
def wavelet_Tree_Rank_b0 (t : Option Addr) (v : Int) (i : Int) (h : Hp)  (K : Value → Hp → Prop) : Prop :=
  sx_2 Try.prog F 44 (cp [] (bodyOf Try.f25)) (ap [] wavelet_Tree_Rank_an) [(0, .pointer t), (1, .int .i64 v), (2, .int .i64 i)] h (wavelet_Tree_Rank_K0  K)
def wavelet_Tree_Rank_b1 (t : Option Addr) (v : Int) (i : Int) (h : Hp)  (K : Value → Hp → Prop) : Prop :=
  sx_1 Try.prog F 44 (cp [1, 1] (bodyOf Try.f25)) (ap [1, 1] wavelet_Tree_Rank_an) [(0, .pointer t), (1, .int .i64 v), (2, .int .i64 i)] h (wavelet_Tree_Rank_K0  K)
theorem wavelet_Tree_Rank_b0_eq (t : Option Addr) (v : Int) (i : Int) (h : Hp)  (K : Value → Hp → Prop) : wavelet_Tree_Rank_b0 t v i h  K = (
  cond t.isNone
  (K (.tuple #[.int .i64 0, .int .i64 1]) h)
  (cond (decide (v < 0))
  (K (.tuple #[.int .i64 0, .int .i64 2]) h)
  (NN t fun a1 =>
  ∃ n1 : Int, cell h (a1.add 1) = some (.int .i64 n1) ∧
  cond (decide (n1 ≤ v))
  (K (.tuple #[.int .i64 0, .int .i64 2]) h)
  (cond (decide (i < 0))
  (K (.tuple #[.int .i64 0, .int .i64 2]) h)
  (NN t fun a2 =>
  ∃ n2 : Int, cell h a2 = some (.int .i64 n2) ∧
  cond (decide (n2 < i))
  (K (.tuple #[.int .i64 0, .int .i64 2]) h)
  (wavelet_Tree_Rank_b1 t v i h  K)))))) := by kernel_rfl
theorem wavelet_Tree_Rank_b1_eq (t : Option Addr) (v : Int) (i : Int) (h : Hp)  (K : Value → Hp → Prop) : wavelet_Tree_Rank_b1 t v i h  K = (
  HCalls Try.prog 44 #[.pointer t, .int .i64 v, .int .i64 0, .int .i64 i] h fun v1 h1 => ∃ r1 : Int, ∃ r2 : Int, ∃ r3 : Int, ∃ r4 : Int, ∃ r5 : Int, ∃ r6 : Int, v1 = .agg #[.int .i64 r1, .int .i64 r2, .int .i64 r3, .int .i64 r4, .int .i64 r5, .int .i64 r6] ∧
  New h1 (.cells #[.int .i64 0, .int .i64 0, .int .i64 0, .int .i64 0, .int .i64 0, .int .i64 0] 60) fun b1 h2 =>
  Wr h2 ⟨b1, 0, none⟩ (.int .i64 r1) fun h3 =>
  Wr h3 ((⟨b1, 0, none⟩ : Addr).add 1) (.int .i64 r2) fun h4 =>
  Wr h4 ((⟨b1, 0, none⟩ : Addr).add 2) (.int .i64 r3) fun h5 =>
  Wr h5 ((⟨b1, 0, none⟩ : Addr).add 3) (.int .i64 r4) fun h6 =>
  Wr h6 ((⟨b1, 0, none⟩ : Addr).add 4) (.int .i64 r5) fun h7 =>
  Wr h7 ((⟨b1, 0, none⟩ : Addr).add 5) (.int .i64 r6) fun h8 =>
  ∃ n3 : Int, cell h8 ((⟨b1, 0, none⟩ : Addr).add 4) = some (.int .i64 n3) ∧
  ∃ n4 : Int, cell h8 ((⟨b1, 0, none⟩ : Addr).add 3) = some (.int .i64 n4) ∧
  InR (n3 - n4) ∧
  K (.tuple #[.int .i64 (n3 - n4), .int .i64 0]) h8) := by kernel_rfl
theorem wavelet_Tree_Rank_call {t : Option Addr} {v : Int} {i : Int} {h : Hp} {K : Value → Hp → Prop} (hk : wavelet_Tree_Rank_b0 t v i h K) : HCalls Try.prog 25 #[.pointer t, .int .i64 v, .int .i64 i] h K :=
  calls_of_snd wavelet_Tree_Rank_an Try.func25 (c := bodyOf Try.f25) rfl Try.ntmps25 (Nat.le_of_ble_eq_true rfl) (snd_2 F_ok F_mixed) hk

/-! ### r22_Rank -/
/-! ### wavelet_Tree_Select -/
def wavelet_Tree_Select_an : Ann := .node none (.leaf) (.node (some [0, 1, 2]) (.leaf) (.node none (.leaf) (.node none (.leaf) (.node (some [10]) (.loop [0, 1, 2] [(10, .int .i64), (11, .int .i64)] (.leaf)) (.leaf)))))
def wavelet_Tree_Select_K0  (K : Value → Hp → Prop) : Exit → Env → Hp → Prop := retK Try.prog Try.f27.results.toList K
def wavelet_Tree_Select_K1  (K : Value → Hp → Prop) : Exit → Env → Hp → Prop := thenE (fun env h => sx_1 Try.prog F 72 (cp [1, 1, 1, 1, 1] (bodyOf Try.f27)) (ap [1, 1, 1, 1, 1] wavelet_Tree_Select_an) (rs [10] env) h (wavelet_Tree_Select_K0  K)) (wavelet_Tree_Select_K0  K)
def wavelet_Tree_Select_K2  (K : Value → Hp → Prop) : Exit → Env → Hp → Prop := blockE 1 (wavelet_Tree_Select_K1  K)
def wavelet_Tree_Select_K3 (nx0 : Int × Int × Unit → Hp → Prop) (K : Value → Hp → Prop) : Exit → Env → Hp → Prop := thenE (fun env h => getV [(10, .int .i64), (11, .int .i64)] env fun s => nx0 s h) (wavelet_Tree_Select_K2  K)
def wavelet_Tree_Select_b0 (t : Option Addr) (v : Int) (k : Int) (h : Hp)  (K : Value → Hp → Prop) : Prop :=
  sx_3 Try.prog F 72 (cp [] (bodyOf Try.f27)) (ap [] wavelet_Tree_Select_an) [(0, .pointer t), (1, .int .i64 v), (2, .int .i64 k)] h (wavelet_Tree_Select_K0  K)
def wavelet_Tree_Select_b1 (t : Option Addr) (v : Int) (k : Int) (h : Hp)  (K : Value → Hp → Prop) : Prop :=
  sx_2 Try.prog F 72 (cp [1, 1] (bodyOf Try.f27)) (ap [1, 1] wavelet_Tree_Select_an) [(0, .pointer t), (1, .int .i64 v), (2, .int .i64 k)] h (wavelet_Tree_Select_K0  K)
def wavelet_Tree_Select_b2 (low : Int) (high : Int) (t : Option Addr) (v : Int) (k : Int) (h : Hp) (nx0 : Int × Int × Unit → Hp → Prop) (K : Value → Hp → Prop) : Prop :=
  sx_1 Try.prog F 72 (cp [1, 1, 1, 1, 0, 2, 2] (bodyOf Try.f27)) (ap [1, 1, 1, 1, 0, 2] wavelet_Tree_Select_an) [(10, .int .i64 low), (11, .int .i64 high), (0, .pointer t), (1, .int .i64 v), (2, .int .i64 k)] h (wavelet_Tree_Select_K3 nx0 K)
def wavelet_Tree_Select_b3 (low : Int) (h : Hp)  (K : Value → Hp → Prop) : Prop :=
  sx_1 Try.prog F 72 (cp [1, 1, 1, 1, 1] (bodyOf Try.f27)) (ap [1, 1, 1, 1, 1] wavelet_Tree_Select_an) [(10, .int .i64 low)] h (wavelet_Tree_Select_K0  K)
theorem wavelet_Tree_Select_b0_eq (t : Option Addr) (v : Int) (k : Int) (h : Hp)  (K : Value → Hp → Prop) : wavelet_Tree_Select_b0 t v k h  K = (
  cond t.isNone
  (K (.tuple #[.int .i64 0, .int .i64 1]) h)
  (cond (decide (v < 0))
  (K (.tuple #[.int .i64 0, .int .i64 2]) h)
  (NN t fun a1 =>
  ∃ n1 : Int, cell h (a1.add 1) = some (.int .i64 n1) ∧
  cond (decide (n1 ≤ v))
  (K (.tuple #[.int .i64 0, .int .i64 2]) h)
  (cond (decide (k < 0))
  (K (.tuple #[.int .i64 0, .int .i64 2]) h)
  (wavelet_Tree_Select_b1 t v k h  K))))) := by kernel_rfl
theorem wavelet_Tree_Select_b1_eq (t : Option Addr) (v : Int) (k : Int) (h : Hp)  (K : Value → Hp → Prop) : wavelet_Tree_Select_b1 t v k h  K = (
  NN t fun a2 =>
  ∃ n2 : Int, cell h a2 = some (.int .i64 n2) ∧
  HCalls Try.prog 25 #[.pointer t, .int .i64 v, .int .i64 n2] h fun v1 h1 => ∃ r1 : Int, ∃ r2 : Int, v1 = .tuple #[.int .i64 r1, .int .i64 r2] ∧
  cond (decide (r1 ≤ k))
  (K (.tuple #[.int .i64 0, .int .i64 12]) h1)
  (NN t fun a3 =>
  ∃ n3 : Int, cell h1 a3 = some (.int .i64 n3) ∧
  LoopVC ((0, n3, ()) : Int × Int × Unit) h1 (fun (nx0 : Int × Int × Unit → Hp → Prop) (s1 : Int × Int × Unit) h2 => wavelet_Tree_Select_b2 s1.1 s1.2.1 t v k h2 nx0 K))) := by kernel_rfl
theorem wavelet_Tree_Select_b2_eq (low : Int) (high : Int) (t : Option Addr) (v : Int) (k : Int) (h : Hp) (nx0 : Int × Int × Unit → Hp → Prop) (K : Value → Hp → Prop) : wavelet_Tree_Select_b2 low high t v k h nx0 K = (
  cond (decide (low < high))
  (InR (low + high) ∧
  ∃ q1 : Int, Sx.Quo .i64 (low + high) 2 q1 ∧
  HCalls Try.prog 25 #[.pointer t, .int .i64 v, .int .i64 q1] h fun v2 h3 => ∃ r3 : Int, ∃ r4 : Int, v2 = .tuple #[.int .i64 r3, .int .i64 r4] ∧
  cond (decide (k < r3))
  (nx0 (low, q1, ()) h3)
  (InR (q1 + 1) ∧
  nx0 (q1 + 1, high, ()) h3))
  (wavelet_Tree_Select_b3 low h  K)) := by kernel_rfl
theorem wavelet_Tree_Select_b3_eq (low : Int) (h : Hp)  (K : Value → Hp → Prop) : wavelet_Tree_Select_b3 low h  K = (
  InR (low - 1) ∧
  K (.tuple #[.int .i64 (low - 1), .int .i64 0]) h) := by kernel_rfl
theorem wavelet_Tree_Select_call {t : Option Addr} {v : Int} {k : Int} {h : Hp} {K : Value → Hp → Prop} (hk : wavelet_Tree_Select_b0 t v k h K) : HCalls Try.prog 27 #[.pointer t, .int .i64 v, .int .i64 k] h K :=
  calls_of_snd wavelet_Tree_Select_an Try.func27 (c := bodyOf Try.f27) rfl Try.ntmps27 (Nat.le_of_ble_eq_true rfl) (snd_3 F_ok F_mixed) hk

/-! ### r22_Select -/
/-! ### wavelet_Tree_Len -/
def wavelet_Tree_Len_an : Ann := .leaf
def wavelet_Tree_Len_K0  (K : Value → Hp → Prop) : Exit → Env → Hp → Prop := retK Try.prog Try.f29.results.toList K
def wavelet_Tree_Len_b0 (t : Option Addr) (h : Hp)  (K : Value → Hp → Prop) : Prop :=
  sx_1 Try.prog F 9 (cp [] (bodyOf Try.f29)) (ap [] wavelet_Tree_Len_an) [(0, .pointer t)] h (wavelet_Tree_Len_K0  K)
theorem wavelet_Tree_Len_b0_eq (t : Option Addr) (h : Hp)  (K : Value → Hp → Prop) : wavelet_Tree_Len_b0 t h  K = (
  cond t.isNone
  (K (.int .i64 0) h)
  (NN t fun a1 =>
  ∃ n1 : Int, cell h a1 = some (.int .i64 n1) ∧
  K (.int .i64 n1) h)) := by kernel_rfl
theorem wavelet_Tree_Len_call {t : Option Addr} {h : Hp} {K : Value → Hp → Prop} (hk : wavelet_Tree_Len_b0 t h K) : HCalls Try.prog 29 #[.pointer t] h K :=
  calls_of_snd wavelet_Tree_Len_an Try.func29 (c := bodyOf Try.f29) rfl Try.ntmps29 (Nat.le_of_ble_eq_true rfl) (snd_1 F_ok F_mixed) hk

/-! ### wavelet_Tree_Space -/
def wavelet_Tree_Space_an : Ann := .leaf
def wavelet_Tree_Space_K0  (K : Value → Hp → Prop) : Exit → Env → Hp → Prop := retK Try.prog Try.f30.results.toList K
def wavelet_Tree_Space_b0 (t : Option Addr) (h : Hp)  (K : Value → Hp → Prop) : Prop :=
  sx_1 Try.prog F 14 (cp [] (bodyOf Try.f30)) (ap [] wavelet_Tree_Space_an) [(0, .pointer t)] h (wavelet_Tree_Space_K0  K)
theorem wavelet_Tree_Space_b0_eq (t : Option Addr) (h : Hp)  (K : Value → Hp → Prop) : wavelet_Tree_Space_b0 t h  K = (
  cond t.isNone
  (K (.int .i64 0) h)
  (NN t fun a1 =>
  ∃ n1 : Int, cell h a1 = some (.int .i64 n1) ∧
  NN t fun a2 =>
  ∃ n2 : Int, cell h (a2.add 2) = some (.int .i64 n2) ∧
  InR (n1 * n2) ∧
  K (.int .i64 (n1 * n2)) h)) := by kernel_rfl
theorem wavelet_Tree_Space_call {t : Option Addr} {h : Hp} {K : Value → Hp → Prop} (hk : wavelet_Tree_Space_b0 t h K) : HCalls Try.prog 30 #[.pointer t] h K :=
  calls_of_snd wavelet_Tree_Space_an Try.func30 (c := bodyOf Try.f30) rfl Try.ntmps30 (Nat.le_of_ble_eq_true rfl) (snd_1 F_ok F_mixed) hk

/-! ### r22_Height -/
/-! ### slices_Clone_Sint_int -/
def slices_Clone_Sint_int_an : Ann := .leaf
def slices_Clone_Sint_int_K0  (K : Value → Hp → Prop) : Exit → Env → Hp → Prop := retK Try.prog Try.f32.results.toList K
def slices_Clone_Sint_int_b0 (s : Option Addr) (sL : Nat) (sC : Nat) (h : Hp)  (K : Value → Hp → Prop) : Prop :=
  sx_1 Try.prog F 8 (cp [] (bodyOf Try.f32)) (ap [] slices_Clone_Sint_int_an) [(0, .slice s sL sC)] h (slices_Clone_Sint_int_K0  K)
theorem slices_Clone_Sint_int_b0_eq (s : Option Addr) (sL : Nat) (sC : Nat) (h : Hp)  (K : Value → Hp → Prop) : slices_Clone_Sint_int_b0 s sL sC h  K = (
  cond (Option.isNone s)
  (K (.slice none 0 0) h)
  (New h (.cells #[] 3) fun b1 h1 =>
  appendV Try.prog 22 22 (.slice (some ⟨b1, 0, none⟩) 0 0) (.slice s sL sC) h1 (slK fun a1 l1 c1 h2 =>
  K (.slice a1 l1 c1) h2))) := by kernel_rfl
theorem slices_Clone_Sint_int_call {s : Option Addr} {sL : Nat} {sC : Nat} {h : Hp} {K : Value → Hp → Prop} (hk : slices_Clone_Sint_int_b0 s sL sC h K) : HCalls Try.prog 32 #[.slice s sL sC] h K :=
  calls_of_snd slices_Clone_Sint_int_an Try.func32 (c := bodyOf Try.f32) rfl Try.ntmps32 (Nat.le_of_ble_eq_true rfl) (snd_1 F_ok F_mixed) hk

/-! ### wavelet_Make -/
def wavelet_Make_an : Ann := .node none (.leaf) (.node (some [0, 3]) (.leaf) (.node none (.leaf) (.node none (.leaf) (.node (some [0, 6]) (.loop [0, 3, 6] [] (.leaf)) (.node none (.leaf) (.node (some [6]) (.node none (.leaf) (.loop [0, 6, 52] [(53, .int .i64)] (.node none (.leaf) (.node none (.leaf) (.node (some [0, 6, 52, 53]) (.node none (.leaf) (.node none (.leaf) (.node none (.leaf) (.node (some [0, 6, 8, 9, 52, 53]) (.node none (.leaf) (.loop [0, 6, 8, 9, 52, 53, 66, 67] [(68, .int .i64)] (.node none (.leaf) (.node none (.leaf) (.node (some [0, 6, 8, 9, 52, 53, 66, 67, 68]) (.leaf) (.leaf)))))) (.leaf))))) (.leaf)))))) (.leaf)))))))
def wavelet_Make_K0  (K : Value → Hp → Prop) : Exit → Env → Hp → Prop := retK Try.prog Try.f33.results.toList K
def wavelet_Make_K1  (K : Value → Hp → Prop) : Exit → Env → Hp → Prop := thenE (fun env h => sx_4 Try.prog F 105 (cp [1, 1, 1, 1, 1] (bodyOf Try.f33)) (ap [1, 1, 1, 1, 1] wavelet_Make_an) (rs [0, 6] env) h (wavelet_Make_K0  K)) (wavelet_Make_K0  K)
def wavelet_Make_K2  (K : Value → Hp → Prop) : Exit → Env → Hp → Prop := blockE 0 (wavelet_Make_K1  K)
def wavelet_Make_K3 (nx0 : Unit → Hp → Prop) (K : Value → Hp → Prop) : Exit → Env → Hp → Prop := thenE (fun env h => getV [] env fun s => nx0 s h) (wavelet_Make_K2  K)
def wavelet_Make_K4  (K : Value → Hp → Prop) : Exit → Env → Hp → Prop := thenE (fun env h => sx_3 Try.prog F 105 (cp [1, 1, 1, 1, 1, 1, 1] (bodyOf Try.f33)) (ap [1, 1, 1, 1, 1, 1, 1] wavelet_Make_an) (rs [6] env) h (wavelet_Make_K0  K)) (wavelet_Make_K0  K)
def wavelet_Make_K5  (K : Value → Hp → Prop) : Exit → Env → Hp → Prop := blockE 2 (wavelet_Make_K4  K)
def wavelet_Make_K6 (nx0 : Int × Unit → Hp → Prop) (K : Value → Hp → Prop) : Exit → Env → Hp → Prop := thenE (fun env h => getV [(53, .int .i64)] env fun s => nx0 s h) (wavelet_Make_K5  K)
def wavelet_Make_K7 (nx0 : Int × Unit → Hp → Prop) (K : Value → Hp → Prop) : Exit → Env → Hp → Prop := thenE (fun env h => sx_2 Try.prog F 105 (cp [1, 1, 1, 1, 1, 1, 0, 1, 2, 2, 1, 1, 1] (bodyOf Try.f33)) (ap [1, 1, 1, 1, 1, 1, 0, 1, 2, 1, 1, 1] wavelet_Make_an) (rs [0, 6, 52, 53] env) h (wavelet_Make_K6 nx0 K)) (wavelet_Make_K6 nx0 K)
def wavelet_Make_K8 (nx0 : Int × Unit → Hp → Prop) (K : Value → Hp → Prop) : Exit → Env → Hp → Prop := blockE 3 (wavelet_Make_K7 nx0 K)
def wavelet_Make_K9 (nx0 : Int × Unit → Hp → Prop) (K : Value → Hp → Prop) : Exit → Env → Hp → Prop := thenE (fun env h => sx_2 Try.prog F 105 (cp [1, 1, 1, 1, 1, 1, 0, 1, 2, 2, 1, 1, 0, 2, 1, 1, 1, 1] (bodyOf Try.f33)) (ap [1, 1, 1, 1, 1, 1, 0, 1, 2, 1, 1, 0, 1, 1, 1, 1] wavelet_Make_an) (rs [0, 6, 8, 9, 52, 53] env) h (wavelet_Make_K8 nx0 K)) (wavelet_Make_K8 nx0 K)
def wavelet_Make_K10 (nx0 : Int × Unit → Hp → Prop) (K : Value → Hp → Prop) : Exit → Env → Hp → Prop := blockE 4 (wavelet_Make_K9 nx0 K)
def wavelet_Make_K11 (nx0 : Int × Unit → Hp → Prop) (nx1 : Int × Unit → Hp → Prop) (K : Value → Hp → Prop) : Exit → Env → Hp → Prop := thenE (fun env h => getV [(68, .int .i64)] env fun s => nx1 s h) (wavelet_Make_K10 nx0 K)
def wavelet_Make_b0 (l : Option Addr) (lL : Nat) (lC : Nat) (sigma : Int) (h : Hp)  (K : Value → Hp → Prop) : Prop :=
  sx_6 Try.prog F 105 (cp [] (bodyOf Try.f33)) (ap [] wavelet_Make_an) [(0, .slice l lL lC), (1, .int .i64 sigma)] h (wavelet_Make_K0  K)
def wavelet_Make_b1 (l : Option Addr) (lL : Nat) (lC : Nat) (sigma : Option Addr) (h : Hp)  (K : Value → Hp → Prop) : Prop :=
  sx_5 Try.prog F 105 (cp [1, 1] (bodyOf Try.f33)) (ap [1, 1] wavelet_Make_an) [(0, .slice l lL lC), (3, .pointer sigma)] h (wavelet_Make_K0  K)
def wavelet_Make_b2 (l : Option Addr) (lL : Nat) (lC : Nat) (sigma : Option Addr) (t : Option Addr) (h : Hp) (nx0 : Unit → Hp → Prop) (K : Value → Hp → Prop) : Prop :=
  sx_4 Try.prog F 105 (cp [1, 1, 1, 1, 0, 2, 2] (bodyOf Try.f33)) (ap [1, 1, 1, 1, 0, 2] wavelet_Make_an) [(0, .slice l lL lC), (3, .pointer sigma), (6, .pointer t)] h (wavelet_Make_K3 nx0 K)
def wavelet_Make_b3 (l : Option Addr) (lL : Nat) (lC : Nat) (t : Option Addr) (h : Hp)  (K : Value → Hp → Prop) : Prop :=
  sx_4 Try.prog F 105 (cp [1, 1, 1, 1, 1] (bodyOf Try.f33)) (ap [1, 1, 1, 1, 1] wavelet_Make_an) [(0, .slice l lL lC), (6, .pointer t)] h (wavelet_Make_K0  K)
def wavelet_Make_b4 (t53 : Int) (l : Option Addr) (lL : Nat) (lC : Nat) (t : Option Addr) (t52 : Int) (h : Hp) (nx0 : Int × Unit → Hp → Prop) (K : Value → Hp → Prop) : Prop :=
  sx_3 Try.prog F 105 (cp [1, 1, 1, 1, 1, 1, 0, 1, 2, 2] (bodyOf Try.f33)) (ap [1, 1, 1, 1, 1, 1, 0, 1, 2] wavelet_Make_an) [(53, .int .i64 t53), (0, .slice l lL lC), (6, .pointer t), (52, .int .i64 t52)] h (wavelet_Make_K6 nx0 K)
def wavelet_Make_b5 (t68 : Int) (l : Option Addr) (lL : Nat) (lC : Nat) (t : Option Addr) (shift : Option Addr) (bits : Option Addr) (bitsL : Nat) (bitsC : Nat) (t52 : Int) (t53 : Int) (t66 : Option Addr) (t66L : Nat) (t66C : Nat) (t67 : Int) (h : Hp) (nx0 : Int × Unit → Hp → Prop) (nx1 : Int × Unit → Hp → Prop) (K : Value → Hp → Prop) : Prop :=
  sx_2 Try.prog F 105 (cp [1, 1, 1, 1, 1, 1, 0, 1, 2, 2, 1, 1, 0, 2, 1, 1, 1, 0, 1, 2, 2] (bodyOf Try.f33)) (ap [1, 1, 1, 1, 1, 1, 0, 1, 2, 1, 1, 0, 1, 1, 1, 0, 1, 2] wavelet_Make_an) [(68, .int .i64 t68), (0, .slice l lL lC), (6, .pointer t), (8, .pointer shift), (9, .slice bits bitsL bitsC), (52, .int .i64 t52), (53, .int .i64 t53), (66, .slice t66 t66L t66C), (67, .int .i64 t67)] h (wavelet_Make_K11 nx0 nx1 K)
def wavelet_Make_b6 (t : Option Addr) (h : Hp)  (K : Value → Hp → Prop) : Prop :=
  sx_3 Try.prog F 105 (cp [1, 1, 1, 1, 1, 1, 1] (bodyOf Try.f33)) (ap [1, 1, 1, 1, 1, 1, 1] wavelet_Make_an) [(6, .pointer t)] h (wavelet_Make_K0  K)
def wavelet_Make_b7 (l : Option Addr) (lL : Nat) (lC : Nat) (t : Option Addr) (shift : Option Addr) (bits : Option Addr) (bitsL : Nat) (bitsC : Nat) (t52 : Int) (t53 : Int) (t66 : Option Addr) (t66L : Nat) (t66C : Nat) (t67 : Int) (t68 : Int) (h : Hp) (nx0 : Int × Unit → Hp → Prop) (nx1 : Int × Unit → Hp → Prop) (K : Value → Hp → Prop) : Prop :=
  sx_1 Try.prog F 105 (cp [1, 1, 1, 1, 1, 1, 0, 1, 2, 2, 1, 1, 0, 2, 1, 1, 1, 0, 1, 2, 2, 1, 1, 1] (bodyOf Try.f33)) (ap [1, 1, 1, 1, 1, 1, 0, 1, 2, 1, 1, 0, 1, 1, 1, 0, 1, 2, 1, 1, 1] wavelet_Make_an) [(0, .slice l lL lC), (6, .pointer t), (8, .pointer shift), (9, .slice bits bitsL bitsC), (52, .int .i64 t52), (53, .int .i64 t53), (66, .slice t66 t66L t66C), (67, .int .i64 t67), (68, .int .i64 t68)] h (wavelet_Make_K11 nx0 nx1 K)
def wavelet_Make_b8 (l : Option Addr) (lL : Nat) (lC : Nat) (t : Option Addr) (shift : Option Addr) (bits : Option Addr) (bitsL : Nat) (bitsC : Nat) (t52 : Int) (t53 : Int) (h : Hp) (nx0 : Int × Unit → Hp → Prop) (K : Value → Hp → Prop) : Prop :=
  sx_2 Try.prog F 105 (cp [1, 1, 1, 1, 1, 1, 0, 1, 2, 2, 1, 1, 0, 2, 1, 1, 1, 1] (bodyOf Try.f33)) (ap [1, 1, 1, 1, 1, 1, 0, 1, 2, 1, 1, 0, 1, 1, 1, 1] wavelet_Make_an) [(0, .slice l lL lC), (6, .pointer t), (8, .pointer shift), (9, .slice bits bitsL bitsC), (52, .int .i64 t52), (53, .int .i64 t53)] h (wavelet_Make_K8 nx0 K)
def wavelet_Make_b9 (l : Option Addr) (lL : Nat) (lC : Nat) (t : Option Addr) (t52 : Int) (t53 : Int) (h : Hp) (nx0 : Int × Unit → Hp → Prop) (K : Value → Hp → Prop) : Prop :=
  sx_2 Try.prog F 105 (cp [1, 1, 1, 1, 1, 1, 0, 1, 2, 2, 1, 1, 1] (bodyOf Try.f33)) (ap [1, 1, 1, 1, 1, 1, 0, 1, 2, 1, 1, 1] wavelet_Make_an) [(0, .slice l lL lC), (6, .pointer t), (52, .int .i64 t52), (53, .int .i64 t53)] h (wavelet_Make_K6 nx0 K)
theorem wavelet_Make_b0_eq (l : Option Addr) (lL : Nat) (lC : Nat) (sigma : Int) (h : Hp)  (K : Value → Hp → Prop) : wavelet_Make_b0 l lL lC sigma h  K = (
  New h (.cells #[.int .i64 sigma] 3) fun b1 h1 =>
  ∃ n1 : Int, cell h1 ⟨b1, 0, none⟩ = some (.int .i64 n1) ∧
  cond (decide (n1 < 1))
  (K (.tuple #[.pointer none, .int .i64 2]) h1)
  (∃ n2 : Int, cell h1 ⟨b1, 0, none⟩ = some (.int .i64 n2) ∧
  cond (decide ((1024 : Int) < n2))
  (K (.tuple #[.pointer none, .int .i64 2]) h1)
  (HCalls Try.prog 45 #[.slice l lL lC, .func (.func 46) #[] #[.pointer (some ⟨b1, 0, none⟩)]] h1 fun v1 h2 => ∃ r1 : Bool, v1 = .bool r1 ∧
  cond r1
  (K (.tuple #[.pointer none, .int .i64 2]) h2)
  (wavelet_Make_b1 l lL lC (some ⟨b1, 0, none⟩) h2  K)))) := by kernel_rfl
theorem wavelet_Make_b1_eq (l : Option Addr) (lL : Nat) (lC : Nat) (sigma : Option Addr) (h : Hp)  (K : Value → Hp → Prop) : wavelet_Make_b1 l lL lC sigma h  K = (
  cond (decide ((4096 : Int) < (lL : Int)))
  (K (.tuple #[.pointer none, .int .i64 4]) h)
  (NN sigma fun a1 =>
  ∃ n3 : Int, cell h a1 = some (.int .i64 n3) ∧
  New h (.cells #[.int .i64 (lL : Int), .int .i64 n3, .int .i64 0, .slice none 0 0] 64) fun b2 h3 =>
  LoopVC (() : Unit) h3 (fun (nx0 : Unit → Hp → Prop) (s1 : Unit) h4 => wavelet_Make_b2 l lL lC sigma (some ⟨b2, 0, none⟩) h4 nx0 K))) := by kernel_rfl
theorem wavelet_Make_b2_eq (l : Option Addr) (lL : Nat) (lC : Nat) (sigma : Option Addr) (t : Option Addr) (h : Hp) (nx0 : Unit → Hp → Prop) (K : Value → Hp → Prop) : wavelet_Make_b2 l lL lC sigma t h nx0 K = (
  NN t fun a2 =>
  ∃ n4 : Int, cell h (a2.add 2) = some (.int .i64 n4) ∧
  ∃ sl1 : Int, Sx.Shl .i64 1 n4 sl1 ∧
  NN sigma fun a3 =>
  ∃ n5 : Int, cell h a3 = some (.int .i64 n5) ∧
  cond (decide (sl1 < n5))
  (NN t fun a4 =>
  ∃ n6 : Int, cell h (a4.add 2) = some (.int .i64 n6) ∧
  InR (n6 + 1) ∧
  NN t fun a5 =>
  Wr h (a5.add 2) (.int .i64 (n6 + 1)) fun h5 =>
  nx0 () h5)
  (wavelet_Make_b3 l lL lC t h  K)) := by kernel_rfl
theorem wavelet_Make_b3_eq (l : Option Addr) (lL : Nat) (lC : Nat) (t : Option Addr) (h : Hp)  (K : Value → Hp → Prop) : wavelet_Make_b3 l lL lC t h  K = (
  HCalls Try.prog 32 #[.slice l lL lC] h fun v2 h6 => ∃ (r2 : Option Addr) (rL1 rC1 : Nat), v2 = .slice r2 rL1 rC1 ∧
  NN t fun a6 =>
  ∃ n7 : Int, cell h6 (a6.add 2) = some (.int .i64 n7) ∧
  LoopVC ((0, ()) : Int × Unit) h6 (fun (nx0 : Int × Unit → Hp → Prop) (s2 : Int × Unit) h7 => wavelet_Make_b4 s2.1 r2 rL1 rC1 t n7 h7 nx0 K)) := by kernel_rfl
theorem wavelet_Make_b4_eq (t53 : Int) (l : Option Addr) (lL : Nat) (lC : Nat) (t : Option Addr) (t52 : Int) (h : Hp) (nx0 : Int × Unit → Hp → Prop) (K : Value → Hp → Prop) : wavelet_Make_b4 t53 l lL lC t t52 h nx0 K = (
  cond (decide (t53 < t52))
  (NN t fun a7 =>
  ∃ n8 : Int, cell h (a7.add 2) = some (.int .i64 n8) ∧
  InR (n8 - 1) ∧
  InR ((n8 - 1) - t53) ∧
  New h (.cells #[.int .i64 0] 3) fun b3 h8 =>
  Wr h8 ⟨b3, 0, none⟩ (.int .i64 ((n8 - 1) - t53)) fun h9 =>
  (0 ≤ (lL : Int) ∧ (lL : Int) ≤ (lL : Int) ∧ (lL : Int) ≤ 281474976710656 ∧ (lL : Int) * ((1 : Nat) : Int) ≤ 281474976710656) ∧
  New h9 (.cells (repL (Int.toNat (lL : Int) * 1) [.bool false]).toArray 4) fun b4 h10 =>
  LoopVC ((0, ()) : Int × Unit) h10 (fun (nx1 : Int × Unit → Hp → Prop) (s3 : Int × Unit) h11 => wavelet_Make_b5 s3.1 l lL lC t (some ⟨b3, 0, none⟩) (some ⟨b4, 0, none⟩) (Int.toNat (lL : Int)) (Int.toNat (lL : Int)) t52 t53 l lL lC (lL : Int) h11 nx0 nx1 K))
  (wavelet_Make_b6 t h  K)) := by kernel_rfl
theorem wavelet_Make_b5_eq (t68 : Int) (l : Option Addr) (lL : Nat) (lC : Nat) (t : Option Addr) (shift : Option Addr) (bits : Option Addr) (bitsL : Nat) (bitsC : Nat) (t52 : Int) (t53 : Int) (t66 : Option Addr) (t66L : Nat) (t66C : Nat) (t67 : Int) (h : Hp) (nx0 : Int × Unit → Hp → Prop) (nx1 : Int × Unit → Hp → Prop) (K : Value → Hp → Prop) : wavelet_Make_b5 t68 l lL lC t shift bits bitsL bitsC t52 t53 t66 t66L t66C t67 h nx0 nx1 K = (
  cond (decide (t68 < t67))
  ((0 ≤ t68 ∧ t68 < (t66L : Int)) ∧
  NN t66 fun a8 =>
  ∃ n9 : Int, cell h (a8.add (Int.toNat t68 * 1)) = some (.int .i64 n9) ∧
  NN shift fun a9 =>
  ∃ n10 : Int, cell h a9 = some (.int .i64 n10) ∧
  ∃ sr1 : Int, Sx.Shr .i64 n9 n10 sr1 ∧
  ∃ an1 : Int, Sx.And .i64 sr1 1 an1 ∧
  (0 ≤ t68 ∧ t68 < (bitsL : Int)) ∧
  NN bits fun a10 =>
  Wr h (a10.add (Int.toNat t68 * 1)) (.bool (decide (an1 = 1))) fun h12 =>
  wavelet_Make_b7 l lL lC t shift bits bitsL bitsC t52 t53 t66 t66L t66C t67 t68 h12 nx0 nx1 K)
  (wavelet_Make_b8 l lL lC t shift bits bitsL bitsC t52 t53 h nx0 K)) := by kernel_rfl
theorem wavelet_Make_b6_eq (t : Option Addr) (h : Hp)  (K : Value → Hp → Prop) : wavelet_Make_b6 t h  K = (
  K (.tuple #[.pointer t, .int .i64 0]) h) := by kernel_rfl
theorem wavelet_Make_b7_eq (l : Option Addr) (lL : Nat) (lC : Nat) (t : Option Addr) (shift : Option Addr) (bits : Option Addr) (bitsL : Nat) (bitsC : Nat) (t52 : Int) (t53 : Int) (t66 : Option Addr) (t66L : Nat) (t66C : Nat) (t67 : Int) (t68 : Int) (h : Hp) (nx0 : Int × Unit → Hp → Prop) (nx1 : Int × Unit → Hp → Prop) (K : Value → Hp → Prop) : wavelet_Make_b7 l lL lC t shift bits bitsL bitsC t52 t53 t66 t66L t66C t67 t68 h nx0 nx1 K = (
  InR (t68 + 1) ∧
  nx1 (t68 + 1, ()) h) := by kernel_rfl
theorem wavelet_Make_b8_eq (l : Option Addr) (lL : Nat) (lC : Nat) (t : Option Addr) (shift : Option Addr) (bits : Option Addr) (bitsL : Nat) (bitsC : Nat) (t52 : Int) (t53 : Int) (h : Hp) (nx0 : Int × Unit → Hp → Prop) (K : Value → Hp → Prop) : wavelet_Make_b8 l lL lC t shift bits bitsL bitsC t52 t53 h nx0 K = (
  HCalls Try.prog 47 #[.slice bits bitsL bitsC] h fun v3 h13 => ∃ r3 : Option Addr, ∃ r4 : Int, v3 = .tuple #[.pointer r3, .int .i64 r4] ∧
  cond (!decide (r4 = 0))
  (K (.tuple #[.pointer none, .int .i64 r4]) h13)
  (NN t fun a11 =>
  ∃ (a12 : Option Addr) (L1 C1 : Nat), cell h13 (a11.add 3) = some (.slice a12 L1 C1) ∧
  New h13 (.cells #[.pointer r3] 78) fun b5 h14 =>
  appendV Try.prog 62 62 (.slice a12 L1 C1) (.slice (some ⟨b5, 0, none⟩) 1 1) h14 (slK fun a13 l1 c1 h15 =>
  NN t fun a14 =>
  Wr h15 (a14.add 3) (.slice a13 l1 c1) fun h16 =>
  HCalls Try.prog 48 #[.slice l lL lC, .func (.func 49) #[] #[.pointer shift]] h16 fun v4 h17 => v4 = .tuple #[] ∧
  wavelet_Make_b9 l lL lC t t52 t53 h17 nx0 K))) := by kernel_rfl
theorem wavelet_Make_b9_eq (l : Option Addr) (lL : Nat) (lC : Nat) (t : Option Addr) (t52 : Int) (t53 : Int) (h : Hp) (nx0 : Int × Unit → Hp → Prop) (K : Value → Hp → Prop) : wavelet_Make_b9 l lL lC t t52 t53 h nx0 K = (
  InR (t53 + 1) ∧
  nx0 (t53 + 1, ()) h) := by kernel_rfl
theorem wavelet_Make_call {l : Option Addr} {lL : Nat} {lC : Nat} {sigma : Int} {h : Hp} {K : Value → Hp → Prop} (hk : wavelet_Make_b0 l lL lC sigma h K) : HCalls Try.prog 33 #[.slice l lL lC, .int .i64 sigma] h K :=
  calls_of_snd wavelet_Make_an Try.func33 (c := bodyOf Try.f33) rfl Try.ntmps33 (Nat.le_of_ble_eq_true rfl) (snd_6 F_ok F_mixed) hk

/-! ### wavelet_Tree_inside -/
def wavelet_Tree_inside_an : Ann := .leaf
def wavelet_Tree_inside_K0  (K : Value → Hp → Prop) : Exit → Env → Hp → Prop := retK Try.prog Try.f34.results.toList K
def wavelet_Tree_inside_b0 (t : Option Addr) (fromv : Int) (to : Int) (h : Hp)  (K : Value → Hp → Prop) : Prop :=
  sx_1 Try.prog F 22 (cp [] (bodyOf Try.f34)) (ap [] wavelet_Tree_inside_an) [(0, .pointer t), (1, .int .i64 fromv), (2, .int .i64 to)] h (wavelet_Tree_inside_K0  K)
theorem wavelet_Tree_inside_b0_eq (t : Option Addr) (fromv : Int) (to : Int) (h : Hp)  (K : Value → Hp → Prop) : wavelet_Tree_inside_b0 t fromv to h  K = (
  cond (decide ((0 : Int) ≤ fromv))
  (cond (decide (fromv ≤ to))
  (NN t fun a1 =>
  ∃ n1 : Int, cell h a1 = some (.int .i64 n1) ∧
  K (.bool (decide (to ≤ n1))) h)
  (K (.bool false) h))
  (K (.bool false) h)) := by kernel_rfl
theorem wavelet_Tree_inside_call {t : Option Addr} {fromv : Int} {to : Int} {h : Hp} {K : Value → Hp → Prop} (hk : wavelet_Tree_inside_b0 t fromv to h K) : HCalls Try.prog 34 #[.pointer t, .int .i64 fromv, .int .i64 to] h K :=
  calls_of_snd wavelet_Tree_inside_an Try.func34 (c := bodyOf Try.f34) rfl Try.ntmps34 (Nat.le_of_ble_eq_true rfl) (snd_1 F_ok F_mixed) hk

/-! ### wavelet_Tree_root -/
def wavelet_Tree_root_an : Ann := .leaf
def wavelet_Tree_root_K0  (K : Value → Hp → Prop) : Exit → Env → Hp → Prop := retK Try.prog Try.f35.results.toList K
def wavelet_Tree_root_b0 (t : Option Addr) (fromv : Int) (to : Int) (h : Hp)  (K : Value → Hp → Prop) : Prop :=
  sx_1 Try.prog F 14 (cp [] (bodyOf Try.f35)) (ap [] wavelet_Tree_root_an) [(0, .pointer t), (1, .int .i64 fromv), (2, .int .i64 to)] h (wavelet_Tree_root_K0  K)
theorem wavelet_Tree_root_b0_eq (t : Option Addr) (fromv : Int) (to : Int) (h : Hp)  (K : Value → Hp → Prop) : wavelet_Tree_root_b0 t fromv to h  K = (
  New h (.cells #[.int .i64 0, .int .i64 0, .int .i64 0, .int .i64 0, .int .i64 0, .int .i64 0] 60) fun b1 h1 =>
  NN t fun a1 =>
  ∃ n1 : Int, cell h1 a1 = some (.int .i64 n1) ∧
  Wr h1 ⟨b1, 0, none⟩ (.int .i64 0) fun h2 =>
  Wr h2 ((⟨b1, 0, none⟩ : Addr).add 1) (.int .i64 0) fun h3 =>
  Wr h3 ((⟨b1, 0, none⟩ : Addr).add 2) (.int .i64 n1) fun h4 =>
  Wr h4 ((⟨b1, 0, none⟩ : Addr).add 3) (.int .i64 fromv) fun h5 =>
  Wr h5 ((⟨b1, 0, none⟩ : Addr).add 4) (.int .i64 to) fun h6 =>
  Wr h6 ((⟨b1, 0, none⟩ : Addr).add 5) (.int .i64 0) fun h7 =>
  ∃ r1 : Int, ∃ r2 : Int, ∃ r3 : Int, ∃ r4 : Int, ∃ r5 : Int, ∃ r6 : Int, cell h7 ⟨b1, 0, none⟩ = some (.int .i64 r1) ∧
  cell h7 ((⟨b1, 0, none⟩ : Addr).add 1) = some (.int .i64 r2) ∧
  cell h7 ((⟨b1, 0, none⟩ : Addr).add 2) = some (.int .i64 r3) ∧
  cell h7 ((⟨b1, 0, none⟩ : Addr).add 3) = some (.int .i64 r4) ∧
  cell h7 ((⟨b1, 0, none⟩ : Addr).add 4) = some (.int .i64 r5) ∧
  cell h7 ((⟨b1, 0, none⟩ : Addr).add 5) = some (.int .i64 r6) ∧
  K (.agg #[.int .i64 r1, .int .i64 r2, .int .i64 r3, .int .i64 r4, .int .i64 r5, .int .i64 r6]) h7) := by kernel_rfl
theorem wavelet_Tree_root_call {t : Option Addr} {fromv : Int} {to : Int} {h : Hp} {K : Value → Hp → Prop} (hk : wavelet_Tree_root_b0 t fromv to h K) : HCalls Try.prog 35 #[.pointer t, .int .i64 fromv, .int .i64 to] h K :=
  calls_of_snd wavelet_Tree_root_an Try.func35 (c := bodyOf Try.f35) rfl Try.ntmps35 (Nat.le_of_ble_eq_true rfl) (snd_1 F_ok F_mixed) hk

/-! ### wavelet_Tree_children -/
def wavelet_Tree_children_an : Ann := .node none (.leaf) (.node none (.leaf) (.node none (.leaf) (.node none (.plan (.qu 0 (.qu 1 (.qu 2 (.qu 3 (.qu 4 (.wo 5 (.qu 6 (.wo 7 .fin .no)) .no))))))) (.node none (.leaf) (.node (some [3, 4, 5, 7, 8, 10]) (.plan (.qu 0 (.qu 1 (.qu 2 (.qu 3 (.qu 4 (.qu 5 (.qu 6 (.qu 7 (.qu 8 (.qu 9 (.qu 10 (.qu 13 (.qu 14 (.qu 15 (.qu 16 (.qu 17 (.qu 20 (.qu 21 (.qu 22 (.wo 11 (.qu 12 (.wo 18 (.qu 19 (.qu 23 (.wo 24 (.wo 25 .fin .no) .no))) (.wo 24 (.wo 18 (.qu 19 (.qu 23 (.wo 25 .fin .no))) .no) .no))) (.wo 24 (.wo 11 (.qu 12 (.wo 18 (.qu 19 (.qu 23 (.wo 25 .fin .no))) .no)) .no) .no)))))))))))))))))))))) (.node (some [4, 5, 10, 11]) (.plan (.qu 0 (.qu 1 (.qu 2 (.qu 3 (.qu 4 (.qu 5 (.qu 6 (.qu 7 (.qu 8 (.qu 9 (.qu 12 (.qu 13 (.qu 14 (.qu 15 (.qu 18 (.qu 19 (.qu 20 (.qu 21 (.wo 10 (.qu 11 (.wo 16 (.qu 17 (.qu 22 (.wo 23 (.wo 24 .fin .no) .no))) (.wo 23 (.wo 16 (.qu 17 (.qu 22 (.wo 24 .fin .no))) .no) .no))) (.wo 23 (.wo 10 (.qu 11 (.wo 16 (.qu 17 (.qu 22 (.wo 24 .fin .no))) .no)) .no) .no))))))))))))))))))))) (.node none (.plan (.qu 0 (.qu 1 (.wo 2 (.wo 3 .fin .no) .no)))) (.leaf))))))))
def wavelet_Tree_children_K0  (K : Value → Hp → Prop) : Exit → Env → Hp → Prop := retK Try.prog Try.f36.results.toList K
def wavelet_Tree_children_b0 (t : Option Addr) (x_0 : Int) (x_1 : Int) (x_2 : Int) (x_3 : Int) (x_4 : Int) (x_5 : Int) (h : Hp)  (K : Value → Hp → Prop) : Prop :=
  sx_3 Try.prog F 76 (cp [] (bodyOf Try.f36)) (ap [] wavelet_Tree_children_an) [(0, .pointer t), (1, .agg #[.int .i64 x_0, .int .i64 x_1, .int .i64 x_2, .int .i64 x_3, .int .i64 x_4, .int .i64 x_5])] h (wavelet_Tree_children_K0  K)
def wavelet_Tree_children_b1 (x : Option Addr) (t4 : Option Addr) (t5 : Option Addr) (ones : Option Addr) (middle : Int) (left : Option Addr) (h : Hp)  (K : Value → Hp → Prop) : Prop :=
  sx_2 Try.prog F 76 (cp [1, 1, 1, 1, 1, 1] (bodyOf Try.f36)) (ap [1, 1, 1, 1, 1, 1] wavelet_Tree_children_an) [(3, .pointer x), (4, .pointer t4), (5, .pointer t5), (7, .pointer ones), (8, .int .i64 middle), (10, .pointer left)] h (wavelet_Tree_children_K0  K)
def wavelet_Tree_children_b2 (t4 : Option Addr) (t5 : Option Addr) (left : Option Addr) (right : Option Addr) (h : Hp)  (K : Value → Hp → Prop) : Prop :=
  sx_1 Try.prog F 76 (cp [1, 1, 1, 1, 1, 1, 1] (bodyOf Try.f36)) (ap [1, 1, 1, 1, 1, 1, 1] wavelet_Tree_children_an) [(4, .pointer t4), (5, .pointer t5), (10, .pointer left), (11, .pointer right)] h (wavelet_Tree_children_K0  K)
theorem wavelet_Tree_children_b0_eq (t : Option Addr) (x_0 : Int) (x_1 : Int) (x_2 : Int) (x_3 : Int) (x_4 : Int) (x_5 : Int) (h : Hp)  (K : Value → Hp → Prop) : wavelet_Tree_children_b0 t x_0 x_1 x_2 x_3 x_4 x_5 h  K = (
  New h (.cells #[.pointer t] 25) fun b1 h1 =>
  New h1 (.cells #[.int .i64 x_0, .int .i64 x_1, .int .i64 x_2, .int .i64 x_3, .int .i64 x_4, .int .i64 x_5] 60) fun b2 h2 =>
  New h2 (.cells #[.int .i64 0, .int .i64 0, .int .i64 0, .int .i64 0, .int .i64 0, .int .i64 0] 60) fun b3 h3 =>
  New h3 (.cells #[.int .i64 0, .int .i64 0, .int .i64 0, .int .i64 0, .int .i64 0, .int .i64 0] 60) fun b4 h4 =>
  ∃ p1 : Option Addr, cell h4 ⟨b1, 0, none⟩ = some (.pointer p1) ∧
  ∃ n1 : Int, cell h4 ⟨b2, 0, none⟩ = some (.int .i64 n1) ∧
  ∃ n2 : Int, cell h4 ((⟨b2, 0, none⟩ : Addr).add 1) = some (.int .i64 n2) ∧
  HCalls Try.prog 50 #[.pointer p1, .int .i64 n1, .int .i64 n2] h4 fun v1 h5 => ∃ r1 : Int, v1 = .int .i64 r1 ∧
  New h5 (.cells #[.int .i64 0] 3) fun b5 h6 =>
  Wr h6 ⟨b5, 0, none⟩ (.int .i64 r1) fun h7 =>
  New h7 (.cells #[.nilFunc] 51) fun b6 h8 =>
  Wr h8 ⟨b6, 0, none⟩ (.func (.func 51) #[] #[.pointer (some ⟨b1, 0, none⟩), .pointer (some ⟨b2, 0, none⟩), .pointer (some ⟨b5, 0, none⟩)]) fun h9 =>
  ∃ n3 : Int, cell h9 ((⟨b2, 0, none⟩ : Addr).add 2) = some (.int .i64 n3) ∧
  ∃ v2 : Value, cell h9 ⟨b6, 0, none⟩ = some (v2) ∧
  ∃ n4 : Int, cell h9 ((⟨b2, 0, none⟩ : Addr).add 2) = some (.int .i64 n4) ∧
  funV v2 fun fg1 fa1 fc1 => callX Try.prog F fg1 (fa1 ++ (([.int .i64 n4] : List Value) ++ fc1)).toArray h9 fun v3 h10 => ∃ r2 : Int, v3 = .int .i64 r2 ∧
  (∃ n5 : Int, cell h10 ((⟨b2, 0, none⟩ : Addr).add 2) = some (.int .i64 n5) ∧
  (.int .i64 n5 : Value) = .int .i64 n3) ∧
  InR (n3 - r2) ∧
  ∃ n6 : Int, cell h10 ⟨b2, 0, none⟩ = some (.int .i64 n6) ∧
  InR (n6 + 1) ∧
  ∃ n7 : Int, cell h10 ((⟨b2, 0, none⟩ : Addr).add 1) = some (.int .i64 n7) ∧
  ∃ n8 : Int, cell h10 ((⟨b2, 0, none⟩ : Addr).add 1) = some (.int .i64 n8) ∧
  ∃ n9 : Int, cell h10 ((⟨b2, 0, none⟩ : Addr).add 3) = some (.int .i64 n9) ∧
  ∃ n10 : Int, cell h10 ((⟨b2, 0, none⟩ : Addr).add 1) = some (.int .i64 n10) ∧
  ∃ n11 : Int, cell h10 ((⟨b2, 0, none⟩ : Addr).add 4) = some (.int .i64 n11) ∧
  ∃ n12 : Int, cell h10 ((⟨b2, 0, none⟩ : Addr).add 5) = some (.int .i64 n12) ∧
  InR (2 * n12) ∧
  (HCalls Try.prog 52 #[.int .i64 n9, .pointer (some ⟨b2, 0, none⟩), .pointer (some ⟨b6, 0, none⟩)] h10 fun v4 h11 => ∃ r3 : Int, v4 = .int .i64 r3 ∧
  (∃ n13 : Int, cell h11 ((⟨b2, 0, none⟩ : Addr).add 5) = some (.int .i64 n13) ∧
  (.int .i64 n13 : Value) = .int .i64 n12) ∧
  (∃ n14 : Int, cell h11 ((⟨b2, 0, none⟩ : Addr).add 4) = some (.int .i64 n14) ∧
  (.int .i64 n14 : Value) = .int .i64 n11) ∧
  (∃ n15 : Int, cell h11 ((⟨b2, 0, none⟩ : Addr).add 1) = some (.int .i64 n15) ∧
  (.int .i64 n15 : Value) = .int .i64 n10) ∧
  (∃ n16 : Int, cell h11 ((⟨b2, 0, none⟩ : Addr).add 1) = some (.int .i64 n16) ∧
  (.int .i64 n16 : Value) = .int .i64 n8) ∧
  (∃ n17 : Int, cell h11 ((⟨b2, 0, none⟩ : Addr).add 1) = some (.int .i64 n17) ∧
  (.int .i64 n17 : Value) = .int .i64 n7) ∧
  (∃ n18 : Int, cell h11 ⟨b2, 0, none⟩ = some (.int .i64 n18) ∧
  (.int .i64 n18 : Value) = .int .i64 n6) ∧
  InR (n8 + r3) ∧
  (HCalls Try.prog 52 #[.int .i64 n11, .pointer (some ⟨b2, 0, none⟩), .pointer (some ⟨b6, 0, none⟩)] h11 fun v5 h12 => ∃ r4 : Int, v5 = .int .i64 r4 ∧
  (∃ n19 : Int, cell h12 ((⟨b2, 0, none⟩ : Addr).add 5) = some (.int .i64 n19) ∧
  (.int .i64 n19 : Value) = .int .i64 n12) ∧
  (∃ n20 : Int, cell h12 ((⟨b2, 0, none⟩ : Addr).add 1) = some (.int .i64 n20) ∧
  (.int .i64 n20 : Value) = .int .i64 n10) ∧
  (∃ n21 : Int, cell h12 ((⟨b2, 0, none⟩ : Addr).add 1) = some (.int .i64 n21) ∧
  (.int .i64 n21 : Value) = .int .i64 n8) ∧
  (∃ n22 : Int, cell h12 ((⟨b2, 0, none⟩ : Addr).add 1) = some (.int .i64 n22) ∧
  (.int .i64 n22 : Value) = .int .i64 n7) ∧
  (∃ n23 : Int, cell h12 ⟨b2, 0, none⟩ = some (.int .i64 n23) ∧
  (.int .i64 n23 : Value) = .int .i64 n6) ∧
  InR (n10 + r4) ∧
  New h12 (.cells #[.int .i64 0, .int .i64 0, .int .i64 0, .int .i64 0, .int .i64 0, .int .i64 0] 60) fun b7 h13 =>
  ((.agg #[.int .i64 (n6 + 1), .int .i64 n7, .int .i64 (n3 - r2), .int .i64 (n8 + r3), .int .i64 (n10 + r4), .int .i64 (2 * n12)] : Value) = .agg #[.int .i64 (n6 + 1), .int .i64 n7, .int .i64 (n3 - r2), .int .i64 (n8 + r3), .int .i64 (n10 + r4), .int .i64 (2 * n12)]) ∧
  (∃ n24 : Int, cell h13 ((⟨b2, 0, none⟩ : Addr).add 5) = some (.int .i64 n24) ∧
  (.int .i64 n24 : Value) = .int .i64 n12) ∧
  (∃ n25 : Int, cell h13 ((⟨b2, 0, none⟩ : Addr).add 1) = some (.int .i64 n25) ∧
  (.int .i64 n25 : Value) = .int .i64 n10) ∧
  (∃ n26 : Int, cell h13 ((⟨b2, 0, none⟩ : Addr).add 1) = some (.int .i64 n26) ∧
  (.int .i64 n26 : Value) = .int .i64 n8) ∧
  (∃ n27 : Int, cell h13 ((⟨b2, 0, none⟩ : Addr).add 1) = some (.int .i64 n27) ∧
  (.int .i64 n27 : Value) = .int .i64 n7) ∧
  (∃ n28 : Int, cell h13 ⟨b2, 0, none⟩ = some (.int .i64 n28) ∧
  (.int .i64 n28 : Value) = .int .i64 n6) ∧
  Wr h13 ⟨b7, 0, none⟩ (.int .i64 (n6 + 1)) fun h14 =>
  Wr h14 ((⟨b7, 0, none⟩ : Addr).add 1) (.int .i64 n7) fun h15 =>
  Wr h15 ((⟨b7, 0, none⟩ : Addr).add 2) (.int .i64 (n3 - r2)) fun h16 =>
  Wr h16 ((⟨b7, 0, none⟩ : Addr).add 3) (.int .i64 (n8 + r3)) fun h17 =>
  Wr h17 ((⟨b7, 0, none⟩ : Addr).add 4) (.int .i64 (n10 + r4)) fun h18 =>
  Wr h18 ((⟨b7, 0, none⟩ : Addr).add 5) (.int .i64 (2 * n12)) fun h19 =>
  wavelet_Tree_children_b1 (some ⟨b2, 0, none⟩) (some ⟨b3, 0, none⟩) (some ⟨b4, 0, none⟩) (some ⟨b6, 0, none⟩) (n3 - r2) (some ⟨b7, 0, none⟩) h19  K) ∧
  (New h11 (.cells #[.int .i64 0, .int .i64 0, .int .i64 0, .int .i64 0, .int .i64 0, .int .i64 0] 60) fun b8 h20 =>
  (∃ n29 : Int, cell h20 ((⟨b2, 0, none⟩ : Addr).add 5) = some (.int .i64 n29) ∧
  (.int .i64 n29 : Value) = .int .i64 n12) ∧
  (∃ n30 : Int, cell h20 ((⟨b2, 0, none⟩ : Addr).add 4) = some (.int .i64 n30) ∧
  (.int .i64 n30 : Value) = .int .i64 n11) ∧
  (∃ n31 : Int, cell h20 ((⟨b2, 0, none⟩ : Addr).add 1) = some (.int .i64 n31) ∧
  (.int .i64 n31 : Value) = .int .i64 n10) ∧
  (∃ n32 : Int, cell h20 ((⟨b2, 0, none⟩ : Addr).add 1) = some (.int .i64 n32) ∧
  (.int .i64 n32 : Value) = .int .i64 n8) ∧
  (∃ n33 : Int, cell h20 ((⟨b2, 0, none⟩ : Addr).add 1) = some (.int .i64 n33) ∧
  (.int .i64 n33 : Value) = .int .i64 n7) ∧
  (∃ n34 : Int, cell h20 ⟨b2, 0, none⟩ = some (.int .i64 n34) ∧
  (.int .i64 n34 : Value) = .int .i64 n6) ∧
  HCalls Try.prog 52 #[.int .i64 n11, .pointer (some ⟨b2, 0, none⟩), .pointer (some ⟨b6, 0, none⟩)] h20 fun v6 h21 => ∃ r5 : Int, v6 = .int .i64 r5 ∧
  (∃ n35 : Int, cell h21 ((⟨b2, 0, none⟩ : Addr).add 5) = some (.int .i64 n35) ∧
  (.int .i64 n35 : Value) = .int .i64 n12) ∧
  (∃ n36 : Int, cell h21 ((⟨b2, 0, none⟩ : Addr).add 1) = some (.int .i64 n36) ∧
  (.int .i64 n36 : Value) = .int .i64 n10) ∧
  (∃ n37 : Int, cell h21 ((⟨b2, 0, none⟩ : Addr).add 1) = some (.int .i64 n37) ∧
  (.int .i64 n37 : Value) = .int .i64 n8) ∧
  (∃ n38 : Int, cell h21 ((⟨b2, 0, none⟩ : Addr).add 1) = some (.int .i64 n38) ∧
  (.int .i64 n38 : Value) = .int .i64 n7) ∧
  (∃ n39 : Int, cell h21 ⟨b2, 0, none⟩ = some (.int .i64 n39) ∧
  (.int .i64 n39 : Value) = .int .i64 n6) ∧
  InR (n10 + r5) ∧
  Wr h21 ⟨b8, 0, none⟩ (.int .i64 (n6 + 1)) fun h22 =>
  Wr h22 ((⟨b8, 0, none⟩ : Addr).add 1) (.int .i64 n7) fun h23 =>
  Wr h23 ((⟨b8, 0, none⟩ : Addr).add 2) (.int .i64 (n3 - r2)) fun h24 =>
  Wr h24 ((⟨b8, 0, none⟩ : Addr).add 3) (.int .i64 (n8 + r3)) fun h25 =>
  Wr h25 ((⟨b8, 0, none⟩ : Addr).add 4) (.int .i64 (n10 + r5)) fun h26 =>
  Wr h26 ((⟨b8, 0, none⟩ : Addr).add 5) (.int .i64 (2 * n12)) fun h27 =>
  wavelet_Tree_children_b1 (some ⟨b2, 0, none⟩) (some ⟨b3, 0, none⟩) (some ⟨b4, 0, none⟩) (some ⟨b6, 0, none⟩) (n3 - r2) (some ⟨b8, 0, none⟩) h27  K)) ∧
  (New h10 (.cells #[.int .i64 0, .int .i64 0, .int .i64 0, .int .i64 0, .int .i64 0, .int .i64 0] 60) fun b9 h28 =>
  (∃ n40 : Int, cell h28 ((⟨b2, 0, none⟩ : Addr).add 5) = some (.int .i64 n40) ∧
  (.int .i64 n40 : Value) = .int .i64 n12) ∧
  (∃ n41 : Int, cell h28 ((⟨b2, 0, none⟩ : Addr).add 4) = some (.int .i64 n41) ∧
  (.int .i64 n41 : Value) = .int .i64 n11) ∧
  (∃ n42 : Int, cell h28 ((⟨b2, 0, none⟩ : Addr).add 1) = some (.int .i64 n42) ∧
  (.int .i64 n42 : Value) = .int .i64 n10) ∧
  (∃ n43 : Int, cell h28 ((⟨b2, 0, none⟩ : Addr).add 3) = some (.int .i64 n43) ∧
  (.int .i64 n43 : Value) = .int .i64 n9) ∧
  (∃ n44 : Int, cell h28 ((⟨b2, 0, none⟩ : Addr).add 1) = some (.int .i64 n44) ∧
  (.int .i64 n44 : Value) = .int .i64 n8) ∧
  (∃ n45 : Int, cell h28 ((⟨b2, 0, none⟩ : Addr).add 1) = some (.int .i64 n45) ∧
  (.int .i64 n45 : Value) = .int .i64 n7) ∧
  (∃ n46 : Int, cell h28 ⟨b2, 0, none⟩ = some (.int .i64 n46) ∧
  (.int .i64 n46 : Value) = .int .i64 n6) ∧
  HCalls Try.prog 52 #[.int .i64 n9, .pointer (some ⟨b2, 0, none⟩), .pointer (some ⟨b6, 0, none⟩)] h28 fun v7 h29 => ∃ r6 : Int, v7 = .int .i64 r6 ∧
  (∃ n47 : Int, cell h29 ((⟨b2, 0, none⟩ : Addr).add 5) = some (.int .i64 n47) ∧
  (.int .i64 n47 : Value) = .int .i64 n12) ∧
  (∃ n48 : Int, cell h29 ((⟨b2, 0, none⟩ : Addr).add 4) = some (.int .i64 n48) ∧
  (.int .i64 n48 : Value) = .int .i64 n11) ∧
  (∃ n49 : Int, cell h29 ((⟨b2, 0, none⟩ : Addr).add 1) = some (.int .i64 n49) ∧
  (.int .i64 n49 : Value) = .int .i64 n10) ∧
  (∃ n50 : Int, cell h29 ((⟨b2, 0, none⟩ : Addr).add 1) = some (.int .i64 n50) ∧
  (.int .i64 n50 : Value) = .int .i64 n8) ∧
  (∃ n51 : Int, cell h29 ((⟨b2, 0, none⟩ : Addr).add 1) = some (.int .i64 n51) ∧
  (.int .i64 n51 : Value) = .int .i64 n7) ∧
  (∃ n52 : Int, cell h29 ⟨b2, 0, none⟩ = some (.int .i64 n52) ∧
  (.int .i64 n52 : Value) = .int .i64 n6) ∧
  InR (n8 + r6) ∧
  HCalls Try.prog 52 #[.int .i64 n11, .pointer (some ⟨b2, 0, none⟩), .pointer (some ⟨b6, 0, none⟩)] h29 fun v8 h30 => ∃ r7 : Int, v8 = .int .i64 r7 ∧
  (∃ n53 : Int, cell h30 ((⟨b2, 0, none⟩ : Addr).add 5) = some (.int .i64 n53) ∧
  (.int .i64 n53 : Value) = .int .i64 n12) ∧
  (∃ n54 : Int, cell h30 ((⟨b2, 0, none⟩ : Addr).add 1) = some (.int .i64 n54) ∧
  (.int .i64 n54 : Value) = .int .i64 n10) ∧
  (∃ n55 : Int, cell h30 ((⟨b2, 0, none⟩ : Addr).add 1) = some (.int .i64 n55) ∧
  (.int .i64 n55 : Value) = .int .i64 n8) ∧
  (∃ n56 : Int, cell h30 ((⟨b2, 0, none⟩ : Addr).add 1) = some (.int .i64 n56) ∧
  (.int .i64 n56 : Value) = .int .i64 n7) ∧
  (∃ n57 : Int, cell h30 ⟨b2, 0, none⟩ = some (.int .i64 n57) ∧
  (.int .i64 n57 : Value) = .int .i64 n6) ∧
  InR (n10 + r7) ∧
  Wr h30 ⟨b9, 0, none⟩ (.int .i64 (n6 + 1)) fun h31 =>
  Wr h31 ((⟨b9, 0, none⟩ : Addr).add 1) (.int .i64 n7) fun h32 =>
  Wr h32 ((⟨b9, 0, none⟩ : Addr).add 2) (.int .i64 (n3 - r2)) fun h33 =>
  Wr h33 ((⟨b9, 0, none⟩ : Addr).add 3) (.int .i64 (n8 + r6)) fun h34 =>
  Wr h34 ((⟨b9, 0, none⟩ : Addr).add 4) (.int .i64 (n10 + r7)) fun h35 =>
  Wr h35 ((⟨b9, 0, none⟩ : Addr).add 5) (.int .i64 (2 * n12)) fun h36 =>
  wavelet_Tree_children_b1 (some ⟨b2, 0, none⟩) (some ⟨b3, 0, none⟩) (some ⟨b4, 0, none⟩) (some ⟨b6, 0, none⟩) (n3 - r2) (some ⟨b9, 0, none⟩) h36  K)) := by kernel_rfl
theorem wavelet_Tree_children_b1_eq (x : Option Addr) (t4 : Option Addr) (t5 : Option Addr) (ones : Option Addr) (middle : Int) (left : Option Addr) (h : Hp)  (K : Value → Hp → Prop) : wavelet_Tree_children_b1 x t4 t5 ones middle left h  K = (
  NN x fun a1 =>
  ∃ n58 : Int, cell h a1 = some (.int .i64 n58) ∧
  InR (n58 + 1) ∧
  NN x fun a2 =>
  ∃ n59 : Int, cell h (a2.add 2) = some (.int .i64 n59) ∧
  NN ones fun a3 =>
  ∃ v9 : Value, cell h a3 = some (v9) ∧
  NN x fun a4 =>
  ∃ n60 : Int, cell h (a4.add 3) = some (.int .i64 n60) ∧
  NN ones fun a5 =>
  ∃ v10 : Value, cell h a5 = some (v10) ∧
  NN x fun a6 =>
  ∃ n61 : Int, cell h (a6.add 4) = some (.int .i64 n61) ∧
  NN x fun a7 =>
  ∃ n62 : Int, cell h (a7.add 5) = some (.int .i64 n62) ∧
  InR (2 * n62) ∧
  InR ((2 * n62) + 1) ∧
  (funV v9 fun fg2 fa2 fc2 => callX Try.prog F fg2 (fa2 ++ (([.int .i64 n60] : List Value) ++ fc2)).toArray h fun v11 h37 => ∃ r8 : Int, v11 = .int .i64 r8 ∧
  (∃ n63 : Int, cell h37 (a7.add 5) = some (.int .i64 n63) ∧
  (.int .i64 n63 : Value) = .int .i64 n62) ∧
  (∃ n64 : Int, cell h37 (a6.add 4) = some (.int .i64 n64) ∧
  (.int .i64 n64 : Value) = .int .i64 n61) ∧
  (NN ones fun a8 =>
  ∃ v12 : Value, cell h37 a8 = some (v12) ∧
  (v12 : Value) = v10) ∧
  (∃ n65 : Int, cell h37 (a2.add 2) = some (.int .i64 n65) ∧
  (.int .i64 n65 : Value) = .int .i64 n59) ∧
  (∃ n66 : Int, cell h37 a1 = some (.int .i64 n66) ∧
  (.int .i64 n66 : Value) = .int .i64 n58) ∧
  InR (middle + r8) ∧
  (funV v10 fun fg3 fa3 fc3 => callX Try.prog F fg3 (fa3 ++ (([.int .i64 n61] : List Value) ++ fc3)).toArray h37 fun v13 h38 => ∃ r9 : Int, v13 = .int .i64 r9 ∧
  (∃ n67 : Int, cell h38 (a7.add 5) = some (.int .i64 n67) ∧
  (.int .i64 n67 : Value) = .int .i64 n62) ∧
  (∃ n68 : Int, cell h38 (a2.add 2) = some (.int .i64 n68) ∧
  (.int .i64 n68 : Value) = .int .i64 n59) ∧
  (∃ n69 : Int, cell h38 a1 = some (.int .i64 n69) ∧
  (.int .i64 n69 : Value) = .int .i64 n58) ∧
  InR (middle + r9) ∧
  New h38 (.cells #[.int .i64 0, .int .i64 0, .int .i64 0, .int .i64 0, .int .i64 0, .int .i64 0] 60) fun b10 h39 =>
  ((.agg #[.int .i64 (n58 + 1), .int .i64 middle, .int .i64 n59, .int .i64 (middle + r8), .int .i64 (middle + r9), .int .i64 ((2 * n62) + 1)] : Value) = .agg #[.int .i64 (n58 + 1), .int .i64 middle, .int .i64 n59, .int .i64 (middle + r8), .int .i64 (middle + r9), .int .i64 ((2 * n62) + 1)]) ∧
  (∃ n70 : Int, cell h39 (a7.add 5) = some (.int .i64 n70) ∧
  (.int .i64 n70 : Value) = .int .i64 n62) ∧
  (∃ n71 : Int, cell h39 (a2.add 2) = some (.int .i64 n71) ∧
  (.int .i64 n71 : Value) = .int .i64 n59) ∧
  (∃ n72 : Int, cell h39 a1 = some (.int .i64 n72) ∧
  (.int .i64 n72 : Value) = .int .i64 n58) ∧
  Wr h39 ⟨b10, 0, none⟩ (.int .i64 (n58 + 1)) fun h40 =>
  Wr h40 ((⟨b10, 0, none⟩ : Addr).add 1) (.int .i64 middle) fun h41 =>
  Wr h41 ((⟨b10, 0, none⟩ : Addr).add 2) (.int .i64 n59) fun h42 =>
  Wr h42 ((⟨b10, 0, none⟩ : Addr).add 3) (.int .i64 (middle + r8)) fun h43 =>
  Wr h43 ((⟨b10, 0, none⟩ : Addr).add 4) (.int .i64 (middle + r9)) fun h44 =>
  Wr h44 ((⟨b10, 0, none⟩ : Addr).add 5) (.int .i64 ((2 * n62) + 1)) fun h45 =>
  wavelet_Tree_children_b2 t4 t5 left (some ⟨b10, 0, none⟩) h45  K) ∧
  (New h37 (.cells #[.int .i64 0, .int .i64 0, .int .i64 0, .int .i64 0, .int .i64 0, .int .i64 0] 60) fun b11 h46 =>
  (∃ n73 : Int, cell h46 (a7.add 5) = some (.int .i64 n73) ∧
  (.int .i64 n73 : Value) = .int .i64 n62) ∧
  (∃ n74 : Int, cell h46 (a6.add 4) = some (.int .i64 n74) ∧
  (.int .i64 n74 : Value) = .int .i64 n61) ∧
  (NN ones fun a9 =>
  ∃ v14 : Value, cell h46 a9 = some (v14) ∧
  (v14 : Value) = v10) ∧
  (∃ n75 : Int, cell h46 (a2.add 2) = some (.int .i64 n75) ∧
  (.int .i64 n75 : Value) = .int .i64 n59) ∧
  (∃ n76 : Int, cell h46 a1 = some (.int .i64 n76) ∧
  (.int .i64 n76 : Value) = .int .i64 n58) ∧
  funV v10 fun fg4 fa4 fc4 => callX Try.prog F fg4 (fa4 ++ (([.int .i64 n61] : List Value) ++ fc4)).toArray h46 fun v15 h47 => ∃ r10 : Int, v15 = .int .i64 r10 ∧
  (∃ n77 : Int, cell h47 (a7.add 5) = some (.int .i64 n77) ∧
  (.int .i64 n77 : Value) = .int .i64 n62) ∧
  (∃ n78 : Int, cell h47 (a2.add 2) = some (.int .i64 n78) ∧
  (.int .i64 n78 : Value) = .int .i64 n59) ∧
  (∃ n79 : Int, cell h47 a1 = some (.int .i64 n79) ∧
  (.int .i64 n79 : Value) = .int .i64 n58) ∧
  InR (middle + r10) ∧
  Wr h47 ⟨b11, 0, none⟩ (.int .i64 (n58 + 1)) fun h48 =>
  Wr h48 ((⟨b11, 0, none⟩ : Addr).add 1) (.int .i64 middle) fun h49 =>
  Wr h49 ((⟨b11, 0, none⟩ : Addr).add 2) (.int .i64 n59) fun h50 =>
  Wr h50 ((⟨b11, 0, none⟩ : Addr).add 3) (.int .i64 (middle + r8)) fun h51 =>
  Wr h51 ((⟨b11, 0, none⟩ : Addr).add 4) (.int .i64 (middle + r10)) fun h52 =>
  Wr h52 ((⟨b11, 0, none⟩ : Addr).add 5) (.int .i64 ((2 * n62) + 1)) fun h53 =>
  wavelet_Tree_children_b2 t4 t5 left (some ⟨b11, 0, none⟩) h53  K)) ∧
  (New h (.cells #[.int .i64 0, .int .i64 0, .int .i64 0, .int .i64 0, .int .i64 0, .int .i64 0] 60) fun b12 h54 =>
  (∃ n80 : Int, cell h54 (a7.add 5) = some (.int .i64 n80) ∧
  (.int .i64 n80 : Value) = .int .i64 n62) ∧
  (∃ n81 : Int, cell h54 (a6.add 4) = some (.int .i64 n81) ∧
  (.int .i64 n81 : Value) = .int .i64 n61) ∧
  (NN ones fun a10 =>
  ∃ v16 : Value, cell h54 a10 = some (v16) ∧
  (v16 : Value) = v10) ∧
  (∃ n82 : Int, cell h54 (a4.add 3) = some (.int .i64 n82) ∧
  (.int .i64 n82 : Value) = .int .i64 n60) ∧
  (NN ones fun a11 =>
  ∃ v17 : Value, cell h54 a11 = some (v17) ∧
  (v17 : Value) = v9) ∧
  (∃ n83 : Int, cell h54 (a2.add 2) = some (.int .i64 n83) ∧
  (.int .i64 n83 : Value) = .int .i64 n59) ∧
  (∃ n84 : Int, cell h54 a1 = some (.int .i64 n84) ∧
  (.int .i64 n84 : Value) = .int .i64 n58) ∧
  funV v9 fun fg5 fa5 fc5 => callX Try.prog F fg5 (fa5 ++ (([.int .i64 n60] : List Value) ++ fc5)).toArray h54 fun v18 h55 => ∃ r11 : Int, v18 = .int .i64 r11 ∧
  (∃ n85 : Int, cell h55 (a7.add 5) = some (.int .i64 n85) ∧
  (.int .i64 n85 : Value) = .int .i64 n62) ∧
  (∃ n86 : Int, cell h55 (a6.add 4) = some (.int .i64 n86) ∧
  (.int .i64 n86 : Value) = .int .i64 n61) ∧
  (NN ones fun a12 =>
  ∃ v19 : Value, cell h55 a12 = some (v19) ∧
  (v19 : Value) = v10) ∧
  (∃ n87 : Int, cell h55 (a2.add 2) = some (.int .i64 n87) ∧
  (.int .i64 n87 : Value) = .int .i64 n59) ∧
  (∃ n88 : Int, cell h55 a1 = some (.int .i64 n88) ∧
  (.int .i64 n88 : Value) = .int .i64 n58) ∧
  InR (middle + r11) ∧
  funV v10 fun fg6 fa6 fc6 => callX Try.prog F fg6 (fa6 ++ (([.int .i64 n61] : List Value) ++ fc6)).toArray h55 fun v20 h56 => ∃ r12 : Int, v20 = .int .i64 r12 ∧
  (∃ n89 : Int, cell h56 (a7.add 5) = some (.int .i64 n89) ∧
  (.int .i64 n89 : Value) = .int .i64 n62) ∧
  (∃ n90 : Int, cell h56 (a2.add 2) = some (.int .i64 n90) ∧
  (.int .i64 n90 : Value) = .int .i64 n59) ∧
  (∃ n91 : Int, cell h56 a1 = some (.int .i64 n91) ∧
  (.int .i64 n91 : Value) = .int .i64 n58) ∧
  InR (middle + r12) ∧
  Wr h56 ⟨b12, 0, none⟩ (.int .i64 (n58 + 1)) fun h57 =>
  Wr h57 ((⟨b12, 0, none⟩ : Addr).add 1) (.int .i64 middle) fun h58 =>
  Wr h58 ((⟨b12, 0, none⟩ : Addr).add 2) (.int .i64 n59) fun h59 =>
  Wr h59 ((⟨b12, 0, none⟩ : Addr).add 3) (.int .i64 (middle + r11)) fun h60 =>
  Wr h60 ((⟨b12, 0, none⟩ : Addr).add 4) (.int .i64 (middle + r12)) fun h61 =>
  Wr h61 ((⟨b12, 0, none⟩ : Addr).add 5) (.int .i64 ((2 * n62) + 1)) fun h62 =>
  wavelet_Tree_children_b2 t4 t5 left (some ⟨b12, 0, none⟩) h62  K)) := by kernel_rfl
theorem wavelet_Tree_children_b2_eq (t4 : Option Addr) (t5 : Option Addr) (left : Option Addr) (right : Option Addr) (h : Hp)  (K : Value → Hp → Prop) : wavelet_Tree_children_b2 t4 t5 left right h  K = (
  NN left fun a13 =>
  ∃ n92 : Int, ∃ n93 : Int, ∃ n94 : Int, ∃ n95 : Int, ∃ n96 : Int, ∃ n97 : Int, cell h a13 = some (.int .i64 n92) ∧
  cell h (a13.add 1) = some (.int .i64 n93) ∧
  cell h (a13.add 2) = some (.int .i64 n94) ∧
  cell h (a13.add 3) = some (.int .i64 n95) ∧
  cell h (a13.add 4) = some (.int .i64 n96) ∧
  cell h (a13.add 5) = some (.int .i64 n97) ∧
  NN right fun a14 =>
  ∃ n98 : Int, ∃ n99 : Int, ∃ n100 : Int, ∃ n101 : Int, ∃ n102 : Int, ∃ n103 : Int, cell h a14 = some (.int .i64 n98) ∧
  cell h (a14.add 1) = some (.int .i64 n99) ∧
  cell h (a14.add 2) = some (.int .i64 n100) ∧
  cell h (a14.add 3) = some (.int .i64 n101) ∧
  cell h (a14.add 4) = some (.int .i64 n102) ∧
  cell h (a14.add 5) = some (.int .i64 n103) ∧
  NN t4 fun a15 =>
  Wr h a15 (.int .i64 n92) fun h63 =>
  Wr h63 (a15.add 1) (.int .i64 n93) fun h64 =>
  Wr h64 (a15.add 2) (.int .i64 n94) fun h65 =>
  Wr h65 (a15.add 3) (.int .i64 n95) fun h66 =>
  Wr h66 (a15.add 4) (.int .i64 n96) fun h67 =>
  Wr h67 (a15.add 5) (.int .i64 n97) fun h68 =>
  (NN right fun a16 =>
  ∃ n104 : Int, ∃ n105 : Int, ∃ n106 : Int, ∃ n107 : Int, ∃ n108 : Int, ∃ n109 : Int, cell h68 a16 = some (.int .i64 n104) ∧
  cell h68 (a16.add 1) = some (.int .i64 n105) ∧
  cell h68 (a16.add 2) = some (.int .i64 n106) ∧
  cell h68 (a16.add 3) = some (.int .i64 n107) ∧
  cell h68 (a16.add 4) = some (.int .i64 n108) ∧
  cell h68 (a16.add 5) = some (.int .i64 n109) ∧
  (.agg #[.int .i64 n104, .int .i64 n105, .int .i64 n106, .int .i64 n107, .int .i64 n108, .int .i64 n109] : Value) = .agg #[.int .i64 n98, .int .i64 n99, .int .i64 n100, .int .i64 n101, .int .i64 n102, .int .i64 n103]) ∧
  NN t5 fun a17 =>
  Wr h68 a17 (.int .i64 n98) fun h69 =>
  Wr h69 (a17.add 1) (.int .i64 n99) fun h70 =>
  Wr h70 (a17.add 2) (.int .i64 n100) fun h71 =>
  Wr h71 (a17.add 3) (.int .i64 n101) fun h72 =>
  Wr h72 (a17.add 4) (.int .i64 n102) fun h73 =>
  Wr h73 (a17.add 5) (.int .i64 n103) fun h74 =>
  NN t4 fun a18 =>
  ∃ r13 : Int, ∃ r14 : Int, ∃ r15 : Int, ∃ r16 : Int, ∃ r17 : Int, ∃ r18 : Int, cell h74 a18 = some (.int .i64 r13) ∧
  cell h74 (a18.add 1) = some (.int .i64 r14) ∧
  cell h74 (a18.add 2) = some (.int .i64 r15) ∧
  cell h74 (a18.add 3) = some (.int .i64 r16) ∧
  cell h74 (a18.add 4) = some (.int .i64 r17) ∧
  cell h74 (a18.add 5) = some (.int .i64 r18) ∧
  NN t5 fun a19 =>
  ∃ r19 : Int, ∃ r20 : Int, ∃ r21 : Int, ∃ r22 : Int, ∃ r23 : Int, ∃ r24 : Int, cell h74 a19 = some (.int .i64 r19) ∧
  cell h74 (a19.add 1) = some (.int .i64 r20) ∧
  cell h74 (a19.add 2) = some (.int .i64 r21) ∧
  cell h74 (a19.add 3) = some (.int .i64 r22) ∧
  cell h74 (a19.add 4) = some (.int .i64 r23) ∧
  cell h74 (a19.add 5) = some (.int .i64 r24) ∧
  K (.tuple #[.agg #[.int .i64 r13, .int .i64 r14, .int .i64 r15, .int .i64 r16, .int .i64 r17, .int .i64 r18], .agg #[.int .i64 r19, .int .i64 r20, .int .i64 r21, .int .i64 r22, .int .i64 r23, .int .i64 r24]]) h74) := by kernel_rfl
theorem wavelet_Tree_children_call {t : Option Addr} {x_0 : Int} {x_1 : Int} {x_2 : Int} {x_3 : Int} {x_4 : Int} {x_5 : Int} {h : Hp} {K : Value → Hp → Prop} (hk : wavelet_Tree_children_b0 t x_0 x_1 x_2 x_3 x_4 x_5 h K) : HCalls Try.prog 36 #[.pointer t, .agg #[.int .i64 x_0, .int .i64 x_1, .int .i64 x_2, .int .i64 x_3, .int .i64 x_4, .int .i64 x_5]] h K :=
  calls_of_snd wavelet_Tree_children_an Try.func36 (c := bodyOf Try.f36) rfl Try.ntmps36 (Nat.le_of_ble_eq_true rfl) (snd_3 F_ok F_mixed) hk

/-! ### r22_Sorted -/
/-! ### wavelet_Tree_leaves -/
def wavelet_Tree_leaves_an : Ann := .leaf
def wavelet_Tree_leaves_K0  (K : Value → Hp → Prop) : Exit → Env → Hp → Prop := retK Try.prog Try.f38.results.toList K
def wavelet_Tree_leaves_b0 (t : Option Addr) (fromv : Int) (to : Int) (low : Int) (high : Int) (h : Hp)  (K : Value → Hp → Prop) : Prop :=
  sx_1 Try.prog F 12 (cp [] (bodyOf Try.f38)) (ap [] wavelet_Tree_leaves_an) [(0, .pointer t), (1, .int .i64 fromv), (2, .int .i64 to), (3, .int .i64 low), (4, .int .i64 high)] h (wavelet_Tree_leaves_K0  K)
theorem wavelet_Tree_leaves_b0_eq (t : Option Addr) (fromv : Int) (to : Int) (low : Int) (high : Int) (h : Hp)  (K : Value → Hp → Prop) : wavelet_Tree_leaves_b0 t fromv to low high h  K = (
  New h (.cells #[.pointer t] 25) fun b1 h1 =>
  New h1 (.cells #[.int .i64 fromv] 3) fun b2 h2 =>
  New h2 (.cells #[.int .i64 to] 3) fun b3 h3 =>
  New h3 (.cells #[.int .i64 low] 3) fun b4 h4 =>
  New h4 (.cells #[.int .i64 high] 3) fun b5 h5 =>
  K (.func (.func 53) #[] #[.pointer (some ⟨b1, 0, none⟩), .pointer (some ⟨b4, 0, none⟩), .pointer (some ⟨b5, 0, none⟩), .pointer (some ⟨b2, 0, none⟩), .pointer (some ⟨b3, 0, none⟩)]) h5) := by kernel_rfl
theorem wavelet_Tree_leaves_call {t : Option Addr} {fromv : Int} {to : Int} {low : Int} {high : Int} {h : Hp} {K : Value → Hp → Prop} (hk : wavelet_Tree_leaves_b0 t fromv to low high h K) : HCalls Try.prog 38 #[.pointer t, .int .i64 fromv, .int .i64 to, .int .i64 low, .int .i64 high] h K :=
  calls_of_snd wavelet_Tree_leaves_an Try.func38 (c := bodyOf Try.f38) rfl Try.ntmps38 (Nat.le_of_ble_eq_true rfl) (snd_1 F_ok F_mixed) hk

/-! ### slices_SortFunc_2_int_2_int -/
def slices_SortFunc_2_int_2_int_an : Ann := .leaf
def slices_SortFunc_2_int_2_int_K0  (K : Value → Hp → Prop) : Exit → Env → Hp → Prop := retK Try.prog Try.f39.results.toList K
def slices_SortFunc_2_int_2_int_b0 (x : Option Addr) (xL : Nat) (xC : Nat) (cmp : Value) (h : Hp)  (K : Value → Hp → Prop) : Prop :=
  sx_1 Try.prog F 14 (cp [] (bodyOf Try.f39)) (ap [] slices_SortFunc_2_int_2_int_an) [(0, .slice x xL xC), (1, cmp)] h (slices_SortFunc_2_int_2_int_K0  K)
theorem slices_SortFunc_2_int_2_int_b0_eq (x : Option Addr) (xL : Nat) (xC : Nat) (cmp : Value) (h : Hp)  (K : Value → Hp → Prop) : slices_SortFunc_2_int_2_int_b0 x xL xC cmp h  K = (
  HCalls Try.prog 56 #[.int .u64 (IntKind.u64.wrap (xL : Int))] h fun v1 h1 => ∃ r1 : Int, v1 = .int .i64 r1 ∧
  HCalls Try.prog 55 #[.slice x xL xC, .int .i64 0, .int .i64 (xL : Int), .int .i64 r1, cmp] h1 fun v2 h2 => v2 = .tuple #[] ∧
  K (.tuple #[]) h2) := by kernel_rfl
theorem slices_SortFunc_2_int_2_int_call {x : Option Addr} {xL : Nat} {xC : Nat} {cmp : Value} {h : Hp} {K : Value → Hp → Prop} (hk : slices_SortFunc_2_int_2_int_b0 x xL xC cmp h K) : HCalls Try.prog 39 #[.slice x xL xC, cmp] h K :=
  calls_of_snd slices_SortFunc_2_int_2_int_an Try.func39 (c := bodyOf Try.f39) rfl Try.ntmps39 (Nat.le_of_ble_eq_true rfl) (snd_1 F_ok F_mixed) hk

/-! ### wavelet_Tree_Top_c1 -/
def wavelet_Tree_Top_c1_an : Ann := .node none (.leaf) (.node none (.tail 10) (.leaf))
def wavelet_Tree_Top_c1_K0  (K : Value → Hp → Prop) : Exit → Env → Hp → Prop := retK Try.prog Try.f40.results.toList K
def wavelet_Tree_Top_c1_b0 (a_0 : Int) (a_1 : Int) (b_0 : Int) (b_1 : Int) (h : Hp)  (K : Value → Hp → Prop) : Prop :=
  sx_1 Try.prog F 17 (cp [] (bodyOf Try.f40)) (ap [] wavelet_Tree_Top_c1_an) [(0, .agg #[.int .i64 a_0, .int .i64 a_1]), (1, .agg #[.int .i64 b_0, .int .i64 b_1])] h (wavelet_Tree_Top_c1_K0  K)
theorem wavelet_Tree_Top_c1_b0_eq (a_0 : Int) (a_1 : Int) (b_0 : Int) (b_1 : Int) (h : Hp)  (K : Value → Hp → Prop) : wavelet_Tree_Top_c1_b0 a_0 a_1 b_0 b_1 h  K = (
  New h (.cells #[.int .i64 a_0, .int .i64 a_1] 42) fun b1 h1 =>
  New h1 (.cells #[.int .i64 b_0, .int .i64 b_1] 42) fun b2 h2 =>
  (0 ≤ (1 : Int) ∧ (1 : Int) < ((2 : Nat) : Int)) ∧
  ∃ n1 : Int, cell h2 ((⟨b2, 0, none⟩ : Addr).add (Int.toNat (1 : Int) * 1)) = some (.int .i64 n1) ∧
  (0 ≤ (1 : Int) ∧ (1 : Int) < ((2 : Nat) : Int)) ∧
  ∃ n2 : Int, cell h2 ((⟨b1, 0, none⟩ : Addr).add (Int.toNat (1 : Int) * 1)) = some (.int .i64 n2) ∧
  ∃ r1 : Int, HCalls Try.prog 42 #[.int .i64 n1, .int .i64 n2] h2 (fun v1 h3 => v1 = .int .i64 r1 ∧ h3 = h2) ∧
  (0 ≤ (0 : Int) ∧ (0 : Int) < ((2 : Nat) : Int)) ∧
  ∃ n3 : Int, cell h2 ((⟨b1, 0, none⟩ : Addr).add (Int.toNat (0 : Int) * 1)) = some (.int .i64 n3) ∧
  (0 ≤ (0 : Int) ∧ (0 : Int) < ((2 : Nat) : Int)) ∧
  ∃ n4 : Int, cell h2 ((⟨b2, 0, none⟩ : Addr).add (Int.toNat (0 : Int) * 1)) = some (.int .i64 n4) ∧
  ∃ r2 : Int, HCalls Try.prog 42 #[.int .i64 n3, .int .i64 n4] h2 (fun v2 h4 => v2 = .int .i64 r2 ∧ h4 = h2) ∧
  New h2 (.cells #[.int .i64 r1, .int .i64 r2] 3) fun b3 h5 =>
  HCalls Try.prog 41 #[.slice (some ⟨b3, 0, none⟩) 2 2] h5 fun v3 h6 => ∃ r3 : Int, v3 = .int .i64 r3 ∧
  K (.int .i64 r3) h6) := by kernel_rfl
theorem wavelet_Tree_Top_c1_call {a_0 : Int} {a_1 : Int} {b_0 : Int} {b_1 : Int} {h : Hp} {K : Value → Hp → Prop} (hk : wavelet_Tree_Top_c1_b0 a_0 a_1 b_0 b_1 h K) : HCalls Try.prog 40 #[.agg #[.int .i64 a_0, .int .i64 a_1], .agg #[.int .i64 b_0, .int .i64 b_1]] h K :=
  calls_of_snd wavelet_Tree_Top_c1_an Try.func40 (c := bodyOf Try.f40) rfl Try.ntmps40 (Nat.le_of_ble_eq_true rfl) (snd_1 F_ok F_mixed) hk

/-! ### cmp_Or_int -/
def cmp_Or_int_an : Ann := .node none (.leaf) (.node none (.leaf) (.node (some [3]) (.node none (.leaf) (.loop [3, 6, 7] [(8, .int .i64)] (.node none (.leaf) (.node none (.leaf) (.node (some [3, 6, 7, 8]) (.leaf) (.leaf)))))) (.leaf)))
def cmp_Or_int_K0  (K : Value → Hp → Prop) : Exit → Env → Hp → Prop := retK Try.prog Try.f41.results.toList K
def cmp_Or_int_K1  (K : Value → Hp → Prop) : Exit → Env → Hp → Prop := thenE (fun env h => sx_2 Try.prog F 18 (cp [1, 1, 1] (bodyOf Try.f41)) (ap [1, 1, 1] cmp_Or_int_an) (rs [3] env) h (cmp_Or_int_K0  K)) (cmp_Or_int_K0  K)
def cmp_Or_int_K2  (K : Value → Hp → Prop) : Exit → Env → Hp → Prop := blockE 0 (cmp_Or_int_K1  K)
def cmp_Or_int_K3 (nx0 : Int × Unit → Hp → Prop) (K : Value → Hp → Prop) : Exit → Env → Hp → Prop := thenE (fun env h => getV [(8, .int .i64)] env fun s => nx0 s h) (cmp_Or_int_K2  K)
def cmp_Or_int_b0 (vals : Option Addr) (valsL : Nat) (valsC : Nat) (h : Hp)  (K : Value → Hp → Prop) : Prop :=
  sx_3 Try.prog F 18 (cp [] (bodyOf Try.f41)) (ap [] cmp_Or_int_an) [(0, .slice vals valsL valsC)] h (cmp_Or_int_K0  K)
def cmp_Or_int_b1 (t8 : Int) (zero : Int) (t6 : Option Addr) (t6L : Nat) (t6C : Nat) (t7 : Int) (h : Hp) (nx0 : Int × Unit → Hp → Prop) (K : Value → Hp → Prop) : Prop :=
  sx_2 Try.prog F 18 (cp [1, 1, 0, 1, 2, 2] (bodyOf Try.f41)) (ap [1, 1, 0, 1, 2] cmp_Or_int_an) [(8, .int .i64 t8), (3, .int .i64 zero), (6, .slice t6 t6L t6C), (7, .int .i64 t7)] h (cmp_Or_int_K3 nx0 K)
def cmp_Or_int_b2 (zero : Int) (t6 : Option Addr) (t6L : Nat) (t6C : Nat) (t7 : Int) (t8 : Int) (h : Hp) (nx0 : Int × Unit → Hp → Prop) (K : Value → Hp → Prop) : Prop :=
  sx_1 Try.prog F 18 (cp [1, 1, 0, 1, 2, 2, 1, 1, 1] (bodyOf Try.f41)) (ap [1, 1, 0, 1, 2, 1, 1, 1] cmp_Or_int_an) [(3, .int .i64 zero), (6, .slice t6 t6L t6C), (7, .int .i64 t7), (8, .int .i64 t8)] h (cmp_Or_int_K3 nx0 K)
def cmp_Or_int_b3 (zero : Int) (h : Hp)  (K : Value → Hp → Prop) : Prop :=
  sx_2 Try.prog F 18 (cp [1, 1, 1] (bodyOf Try.f41)) (ap [1, 1, 1] cmp_Or_int_an) [(3, .int .i64 zero)] h (cmp_Or_int_K0  K)
theorem cmp_Or_int_b0_eq (vals : Option Addr) (valsL : Nat) (valsC : Nat) (h : Hp)  (K : Value → Hp → Prop) : cmp_Or_int_b0 vals valsL valsC h  K = (
  LoopVC ((0, ()) : Int × Unit) h (fun (nx0 : Int × Unit → Hp → Prop) (s1 : Int × Unit) h1 => cmp_Or_int_b1 s1.1 0 vals valsL valsC (valsL : Int) h1 nx0 K)) := by kernel_rfl
theorem cmp_Or_int_b1_eq (t8 : Int) (zero : Int) (t6 : Option Addr) (t6L : Nat) (t6C : Nat) (t7 : Int) (h : Hp) (nx0 : Int × Unit → Hp → Prop) (K : Value → Hp → Prop) : cmp_Or_int_b1 t8 zero t6 t6L t6C t7 h nx0 K = (
  cond (decide (t8 < t7))
  ((0 ≤ t8 ∧ t8 < (t6L : Int)) ∧
  NN t6 fun a1 =>
  ∃ n1 : Int, cell h (a1.add (Int.toNat t8 * 1)) = some (.int .i64 n1) ∧
  cond (!decide (n1 = zero))
  (K (.int .i64 n1) h)
  (cmp_Or_int_b2 zero t6 t6L t6C t7 t8 h nx0 K))
  (cmp_Or_int_b3 zero h  K)) := by kernel_rfl
theorem cmp_Or_int_b2_eq (zero : Int) (t6 : Option Addr) (t6L : Nat) (t6C : Nat) (t7 : Int) (t8 : Int) (h : Hp) (nx0 : Int × Unit → Hp → Prop) (K : Value → Hp → Prop) : cmp_Or_int_b2 zero t6 t6L t6C t7 t8 h nx0 K = (
  InR (t8 + 1) ∧
  nx0 (t8 + 1, ()) h) := by kernel_rfl
theorem cmp_Or_int_b3_eq (zero : Int) (h : Hp)  (K : Value → Hp → Prop) : cmp_Or_int_b3 zero h  K = (
  K (.int .i64 zero) h) := by kernel_rfl
theorem cmp_Or_int_call {vals : Option Addr} {valsL : Nat} {valsC : Nat} {h : Hp} {K : Value → Hp → Prop} (hk : cmp_Or_int_b0 vals valsL valsC h K) : HCalls Try.prog 41 #[.slice vals valsL valsC] h K :=
  calls_of_snd cmp_Or_int_an Try.func41 (c := bodyOf Try.f41) rfl Try.ntmps41 (Nat.le_of_ble_eq_true rfl) (snd_3 F_ok F_mixed) hk

/-! ### cmp_Compare_int -/
def cmp_Compare_int_an : Ann := .leaf
def cmp_Compare_int_K0  (K : Value → Hp → Prop) : Exit → Env → Hp → Prop := retK Try.prog Try.f42.results.toList K
def cmp_Compare_int_b0 (x : Int) (y : Int) (h : Hp)  (K : Value → Hp → Prop) : Prop :=
  sx_1 Try.prog F 20 (cp [] (bodyOf Try.f42)) (ap [] cmp_Compare_int_an) [(0, .int .i64 x), (1, .int .i64 y)] h (cmp_Compare_int_K0  K)
theorem cmp_Compare_int_b0_eq (x : Int) (y : Int) (h : Hp)  (K : Value → Hp → Prop) : cmp_Compare_int_b0 x y h  K = (
  HCalls Try.prog 57 #[.int .i64 x] h fun v1 h1 => ∃ r1 : Bool, v1 = .bool r1 ∧
  HCalls Try.prog 57 #[.int .i64 y] h1 fun v2 h2 => ∃ r2 : Bool, v2 = .bool r2 ∧
  cond r1
  (cond r2
  (K (.int .i64 0) h2)
  (K (.int .i64 (-1)) h2))
  (cond r2
  (K (.int .i64 1) h2)
  (cond (decide (x < y))
  (K (.int .i64 (-1)) h2)
  (cond (decide (y < x))
  (K (.int .i64 1) h2)
  (K (.int .i64 0) h2))))) := by kernel_rfl
theorem cmp_Compare_int_call {x : Int} {y : Int} {h : Hp} {K : Value → Hp → Prop} (hk : cmp_Compare_int_b0 x y h K) : HCalls Try.prog 42 #[.int .i64 x, .int .i64 y] h K :=
  calls_of_snd cmp_Compare_int_an Try.func42 (c := bodyOf Try.f42) rfl Try.ntmps42 (Nat.le_of_ble_eq_true rfl) (snd_1 F_ok F_mixed) hk

/-! ### slices_Clip_2_int_2_int -/
def slices_Clip_2_int_2_int_an : Ann := .leaf
def slices_Clip_2_int_2_int_K0  (K : Value → Hp → Prop) : Exit → Env → Hp → Prop := retK Try.prog Try.f43.results.toList K
def slices_Clip_2_int_2_int_b0 (s : Option Addr) (sL : Nat) (sC : Nat) (h : Hp)  (K : Value → Hp → Prop) : Prop :=
  sx_1 Try.prog F 9 (cp [] (bodyOf Try.f43)) (ap [] slices_Clip_2_int_2_int_an) [(0, .slice s sL sC)] h (slices_Clip_2_int_2_int_K0  K)
theorem slices_Clip_2_int_2_int_b0_eq (s : Option Addr) (sL : Nat) (sC : Nat) (h : Hp)  (K : Value → Hp → Prop) : slices_Clip_2_int_2_int_b0 s sL sC h  K = (
  ∃ (a1 : Option Addr) (l1 c1 : Nat), slC Try.prog 36 (.slice s sL sC) none (some (.int .i64 (sL : Int))) (.int .i64 (sL : Int)) h a1 l1 c1 ∧
  K (.slice a1 l1 c1) h) := by kernel_rfl
theorem slices_Clip_2_int_2_int_call {s : Option Addr} {sL : Nat} {sC : Nat} {h : Hp} {K : Value → Hp → Prop} (hk : slices_Clip_2_int_2_int_b0 s sL sC h K) : HCalls Try.prog 43 #[.slice s sL sC] h K :=
  calls_of_snd slices_Clip_2_int_2_int_an Try.func43 (c := bodyOf Try.f43) rfl Try.ntmps43 (Nat.le_of_ble_eq_true rfl) (snd_1 F_ok F_mixed) hk

/-! ### wavelet_Tree_leaf -/
def wavelet_Tree_leaf_an : Ann := .node none (.leaf) (.node none (.leaf) (.node (some [8, 9]) (.loop [0, 1, 8, 9] [] (.leaf)) (.leaf)))
def wavelet_Tree_leaf_K0  (K : Value → Hp → Prop) : Exit → Env → Hp → Prop := retK Try.prog Try.f44.results.toList K
def wavelet_Tree_leaf_K1  (K : Value → Hp → Prop) : Exit → Env → Hp → Prop := thenE (fun env h => sx_1 Try.prog F 43 (cp [1, 1, 1] (bodyOf Try.f44)) (ap [1, 1, 1] wavelet_Tree_leaf_an) (rs [8, 9] env) h (wavelet_Tree_leaf_K0  K)) (wavelet_Tree_leaf_K0  K)
def wavelet_Tree_leaf_K2  (K : Value → Hp → Prop) : Exit → Env → Hp → Prop := blockE 0 (wavelet_Tree_leaf_K1  K)
def wavelet_Tree_leaf_K3 (nx0 : Unit → Hp → Prop) (K : Value → Hp → Prop) : Exit → Env → Hp → Prop := thenE (fun env h => getV [] env fun s => nx0 s h) (wavelet_Tree_leaf_K2  K)
def wavelet_Tree_leaf_b0 (t : Option Addr) (v : Int) (fromv : Int) (to : Int) (h : Hp)  (K : Value → Hp → Prop) : Prop :=
  sx_2 Try.prog F 43 (cp [] (bodyOf Try.f44)) (ap [] wavelet_Tree_leaf_an) [(0, .pointer t), (1, .int .i64 v), (2, .int .i64 fromv), (3, .int .i64 to)] h (wavelet_Tree_leaf_K0  K)
def wavelet_Tree_leaf_b1 (t : Option Addr) (v : Int) (t8 : Option Addr) (x : Option Addr) (h : Hp) (nx0 : Unit → Hp → Prop) (K : Value → Hp → Prop) : Prop :=
  sx_1 Try.prog F 43 (cp [1, 1, 0, 2, 2] (bodyOf Try.f44)) (ap [1, 1, 0, 2] wavelet_Tree_leaf_an) [(0, .pointer t), (1, .int .i64 v), (8, .pointer t8), (9, .pointer x)] h (wavelet_Tree_leaf_K3 nx0 K)
def wavelet_Tree_leaf_b2 (t8 : Option Addr) (x : Option Addr) (h : Hp)  (K : Value → Hp → Prop) : Prop :=
  sx_1 Try.prog F 43 (cp [1, 1, 1] (bodyOf Try.f44)) (ap [1, 1, 1] wavelet_Tree_leaf_an) [(8, .pointer t8), (9, .pointer x)] h (wavelet_Tree_leaf_K0  K)
theorem wavelet_Tree_leaf_b0_eq (t : Option Addr) (v : Int) (fromv : Int) (to : Int) (h : Hp)  (K : Value → Hp → Prop) : wavelet_Tree_leaf_b0 t v fromv to h  K = (
  New h (.cells #[.int .i64 0, .int .i64 0, .int .i64 0, .int .i64 0, .int .i64 0, .int .i64 0] 60) fun b1 h1 =>
  HCalls Try.prog 35 #[.pointer t, .int .i64 fromv, .int .i64 to] h1 fun v1 h2 => ∃ r1 : Int, ∃ r2 : Int, ∃ r3 : Int, ∃ r4 : Int, ∃ r5 : Int, ∃ r6 : Int, v1 = .agg #[.int .i64 r1, .int .i64 r2, .int .i64 r3, .int .i64 r4, .int .i64 r5, .int .i64 r6] ∧
  New h2 (.cells #[.int .i64 0, .int .i64 0, .int .i64 0, .int .i64 0, .int .i64 0, .int .i64 0] 60) fun b2 h3 =>
  Wr h3 ⟨b2, 0, none⟩ (.int .i64 r1) fun h4 =>
  Wr h4 ((⟨b2, 0, none⟩ : Addr).add 1) (.int .i64 r2) fun h5 =>
  Wr h5 ((⟨b2, 0, none⟩ : Addr).add 2) (.int .i64 r3) fun h6 =>
  Wr h6 ((⟨b2, 0, none⟩ : Addr).add 3) (.int .i64 r4) fun h7 =>
  Wr h7 ((⟨b2, 0, none⟩ : Addr).add 4) (.int .i64 r5) fun h8 =>
  Wr h8 ((⟨b2, 0, none⟩ : Addr).add 5) (.int .i64 r6) fun h9 =>
  LoopVC (() : Unit) h9 (fun (nx0 : Unit → Hp → Prop) (s1 : Unit) h10 => wavelet_Tree_leaf_b1 t v (some ⟨b1, 0, none⟩) (some ⟨b2, 0, none⟩) h10 nx0 K)) := by kernel_rfl
theorem wavelet_Tree_leaf_b1_eq (t : Option Addr) (v : Int) (t8 : Option Addr) (x : Option Addr) (h : Hp) (nx0 : Unit → Hp → Prop) (K : Value → Hp → Prop) : wavelet_Tree_leaf_b1 t v t8 x h nx0 K = (
  NN x fun a1 =>
  ∃ n1 : Int, cell h a1 = some (.int .i64 n1) ∧
  NN t fun a2 =>
  ∃ n2 : Int, cell h (a2.add 2) = some (.int .i64 n2) ∧
  cond (decide (n1 < n2))
  (NN x fun a3 =>
  ∃ n3 : Int, ∃ n4 : Int, ∃ n5 : Int, ∃ n6 : Int, ∃ n7 : Int, ∃ n8 : Int, cell h a3 = some (.int .i64 n3) ∧
  cell h (a3.add 1) = some (.int .i64 n4) ∧
  cell h (a3.add 2) = some (.int .i64 n5) ∧
  cell h (a3.add 3) = some (.int .i64 n6) ∧
  cell h (a3.add 4) = some (.int .i64 n7) ∧
  cell h (a3.add 5) = some (.int .i64 n8) ∧
  HCalls Try.prog 36 #[.pointer t, .agg #[.int .i64 n3, .int .i64 n4, .int .i64 n5, .int .i64 n6, .int .i64 n7, .int .i64 n8]] h fun v2 h11 => ∃ r7 : Int, ∃ r8 : Int, ∃ r9 : Int, ∃ r10 : Int, ∃ r11 : Int, ∃ r12 : Int, ∃ r13 : Int, ∃ r14 : Int, ∃ r15 : Int, ∃ r16 : Int, ∃ r17 : Int, ∃ r18 : Int, v2 = .tuple #[.agg #[.int .i64 r7, .int .i64 r8, .int .i64 r9, .int .i64 r10, .int .i64 r11, .int .i64 r12], .agg #[.int .i64 r13, .int .i64 r14, .int .i64 r15, .int .i64 r16, .int .i64 r17, .int .i64 r18]] ∧
  New h11 (.cells #[.int .i64 0, .int .i64 0, .int .i64 0, .int .i64 0, .int .i64 0, .int .i64 0] 60) fun b3 h12 =>
  New h12 (.cells #[.int .i64 0, .int .i64 0, .int .i64 0, .int .i64 0, .int .i64 0, .int .i64 0] 60) fun b4 h13 =>
  Wr h13 ⟨b3, 0, none⟩ (.int .i64 r7) fun h14 =>
  Wr h14 ((⟨b3, 0, none⟩ : Addr).add 1) (.int .i64 r8) fun h15 =>
  Wr h15 ((⟨b3, 0, none⟩ : Addr).add 2) (.int .i64 r9) fun h16 =>
  Wr h16 ((⟨b3, 0, none⟩ : Addr).add 3) (.int .i64 r10) fun h17 =>
  Wr h17 ((⟨b3, 0, none⟩ : Addr).add 4) (.int .i64 r11) fun h18 =>
  Wr h18 ((⟨b3, 0, none⟩ : Addr).add 5) (.int .i64 r12) fun h19 =>
  Wr h19 ⟨b4, 0, none⟩ (.int .i64 r13) fun h20 =>
  Wr h20 ((⟨b4, 0, none⟩ : Addr).add 1) (.int .i64 r14) fun h21 =>
  Wr h21 ((⟨b4, 0, none⟩ : Addr).add 2) (.int .i64 r15) fun h22 =>
  Wr h22 ((⟨b4, 0, none⟩ : Addr).add 3) (.int .i64 r16) fun h23 =>
  Wr h23 ((⟨b4, 0, none⟩ : Addr).add 4) (.int .i64 r17) fun h24 =>
  Wr h24 ((⟨b4, 0, none⟩ : Addr).add 5) (.int .i64 r18) fun h25 =>
  ∃ n9 : Int, ∃ n10 : Int, ∃ n11 : Int, ∃ n12 : Int, ∃ n13 : Int, ∃ n14 : Int, cell h25 ⟨b3, 0, none⟩ = some (.int .i64 n9) ∧
  cell h25 ((⟨b3, 0, none⟩ : Addr).add 1) = some (.int .i64 n10) ∧
  cell h25 ((⟨b3, 0, none⟩ : Addr).add 2) = some (.int .i64 n11) ∧
  cell h25 ((⟨b3, 0, none⟩ : Addr).add 3) = some (.int .i64 n12) ∧
  cell h25 ((⟨b3, 0, none⟩ : Addr).add 4) = some (.int .i64 n13) ∧
  cell h25 ((⟨b3, 0, none⟩ : Addr).add 5) = some (.int .i64 n14) ∧
  NN x fun a4 =>
  Wr h25 a4 (.int .i64 n9) fun h26 =>
  Wr h26 (a4.add 1) (.int .i64 n10) fun h27 =>
  Wr h27 (a4.add 2) (.int .i64 n11) fun h28 =>
  Wr h28 (a4.add 3) (.int .i64 n12) fun h29 =>
  Wr h29 (a4.add 4) (.int .i64 n13) fun h30 =>
  Wr h30 (a4.add 5) (.int .i64 n14) fun h31 =>
  NN t fun a5 =>
  ∃ n15 : Int, cell h31 (a5.add 2) = some (.int .i64 n15) ∧
  ∃ n16 : Int, cell h31 ⟨b3, 0, none⟩ = some (.int .i64 n16) ∧
  InR (n15 - n16) ∧
  ∃ sr1 : Int, Sx.Shr .i64 v (n15 - n16) sr1 ∧
  ∃ an1 : Int, Sx.And .i64 sr1 1 an1 ∧
  cond (decide (an1 = 1))
  (∃ n17 : Int, ∃ n18 : Int, ∃ n19 : Int, ∃ n20 : Int, ∃ n21 : Int, ∃ n22 : Int, cell h31 ⟨b4, 0, none⟩ = some (.int .i64 n17) ∧
  cell h31 ((⟨b4, 0, none⟩ : Addr).add 1) = some (.int .i64 n18) ∧
  cell h31 ((⟨b4, 0, none⟩ : Addr).add 2) = some (.int .i64 n19) ∧
  cell h31 ((⟨b4, 0, none⟩ : Addr).add 3) = some (.int .i64 n20) ∧
  cell h31 ((⟨b4, 0, none⟩ : Addr).add 4) = some (.int .i64 n21) ∧
  cell h31 ((⟨b4, 0, none⟩ : Addr).add 5) = some (.int .i64 n22) ∧
  NN x fun a6 =>
  Wr h31 a6 (.int .i64 n17) fun h32 =>
  Wr h32 (a6.add 1) (.int .i64 n18) fun h33 =>
  Wr h33 (a6.add 2) (.int .i64 n19) fun h34 =>
  Wr h34 (a6.add 3) (.int .i64 n20) fun h35 =>
  Wr h35 (a6.add 4) (.int .i64 n21) fun h36 =>
  Wr h36 (a6.add 5) (.int .i64 n22) fun h37 =>
  nx0 () h37)
  (nx0 () h31))
  (wavelet_Tree_leaf_b2 t8 x h  K)) := by kernel_rfl
theorem wavelet_Tree_leaf_b2_eq (t8 : Option Addr) (x : Option Addr) (h : Hp)  (K : Value → Hp → Prop) : wavelet_Tree_leaf_b2 t8 x h  K = (
  NN x fun a7 =>
  ∃ n23 : Int, ∃ n24 : Int, ∃ n25 : Int, ∃ n26 : Int, ∃ n27 : Int, ∃ n28 : Int, cell h a7 = some (.int .i64 n23) ∧
  cell h (a7.add 1) = some (.int .i64 n24) ∧
  cell h (a7.add 2) = some (.int .i64 n25) ∧
  cell h (a7.add 3) = some (.int .i64 n26) ∧
  cell h (a7.add 4) = some (.int .i64 n27) ∧
  cell h (a7.add 5) = some (.int .i64 n28) ∧
  NN t8 fun a8 =>
  Wr h a8 (.int .i64 n23) fun h38 =>
  Wr h38 (a8.add 1) (.int .i64 n24) fun h39 =>
  Wr h39 (a8.add 2) (.int .i64 n25) fun h40 =>
  Wr h40 (a8.add 3) (.int .i64 n26) fun h41 =>
  Wr h41 (a8.add 4) (.int .i64 n27) fun h42 =>
  Wr h42 (a8.add 5) (.int .i64 n28) fun h43 =>
  NN t8 fun a9 =>
  ∃ r19 : Int, ∃ r20 : Int, ∃ r21 : Int, ∃ r22 : Int, ∃ r23 : Int, ∃ r24 : Int, cell h43 a9 = some (.int .i64 r19) ∧
  cell h43 (a9.add 1) = some (.int .i64 r20) ∧
  cell h43 (a9.add 2) = some (.int .i64 r21) ∧
  cell h43 (a9.add 3) = some (.int .i64 r22) ∧
  cell h43 (a9.add 4) = some (.int .i64 r23) ∧
  cell h43 (a9.add 5) = some (.int .i64 r24) ∧
  K (.agg #[.int .i64 r19, .int .i64 r20, .int .i64 r21, .int .i64 r22, .int .i64 r23, .int .i64 r24]) h43) := by kernel_rfl
theorem wavelet_Tree_leaf_call {t : Option Addr} {v : Int} {fromv : Int} {to : Int} {h : Hp} {K : Value → Hp → Prop} (hk : wavelet_Tree_leaf_b0 t v fromv to h K) : HCalls Try.prog 44 #[.pointer t, .int .i64 v, .int .i64 fromv, .int .i64 to] h K :=
  calls_of_snd wavelet_Tree_leaf_an Try.func44 (c := bodyOf Try.f44) rfl Try.ntmps44 (Nat.le_of_ble_eq_true rfl) (snd_2 F_ok F_mixed) hk

/-! ### slices_ContainsFunc_Sint_int -/
def slices_ContainsFunc_Sint_int_an : Ann := .leaf
def slices_ContainsFunc_Sint_int_K0  (K : Value → Hp → Prop) : Exit → Env → Hp → Prop := retK Try.prog Try.f45.results.toList K
def slices_ContainsFunc_Sint_int_b0 (s : Option Addr) (sL : Nat) (sC : Nat) (f : Value) (h : Hp)  (K : Value → Hp → Prop) : Prop :=
  sx_1 Try.prog F 9 (cp [] (bodyOf Try.f45)) (ap [] slices_ContainsFunc_Sint_int_an) [(0, .slice s sL sC), (1, f)] h (slices_ContainsFunc_Sint_int_K0  K)
theorem slices_ContainsFunc_Sint_int_b0_eq (s : Option Addr) (sL : Nat) (sC : Nat) (f : Value) (h : Hp)  (K : Value → Hp → Prop) : slices_ContainsFunc_Sint_int_b0 s sL sC f h  K = (
  HCalls Try.prog 58 #[.slice s sL sC, f] h fun v1 h1 => ∃ r1 : Int, v1 = .int .i64 r1 ∧
  K (.bool (decide ((0 : Int) ≤ r1))) h1) := by kernel_rfl
theorem slices_ContainsFunc_Sint_int_call {s : Option Addr} {sL : Nat} {sC : Nat} {f : Value} {h : Hp} {K : Value → Hp → Prop} (hk : slices_ContainsFunc_Sint_int_b0 s sL sC f h K) : HCalls Try.prog 45 #[.slice s sL sC, f] h K :=
  calls_of_snd slices_ContainsFunc_Sint_int_an Try.func45 (c := bodyOf Try.f45) rfl Try.ntmps45 (Nat.le_of_ble_eq_true rfl) (snd_1 F_ok F_mixed) hk

/-! ### wavelet_Make_c1 -/
def wavelet_Make_c1_an : Ann := .leaf
def wavelet_Make_c1_K0  (K : Value → Hp → Prop) : Exit → Env → Hp → Prop := retK Try.prog Try.f46.results.toList K
def wavelet_Make_c1_b0 (x : Int) (t1 : Option Addr) (h : Hp)  (K : Value → Hp → Prop) : Prop :=
  sx_1 Try.prog F 11 (cp [] (bodyOf Try.f46)) (ap [] wavelet_Make_c1_an) [(0, .int .i64 x), (1, .pointer t1)] h (wavelet_Make_c1_K0  K)
theorem wavelet_Make_c1_b0_eq (x : Int) (t1 : Option Addr) (h : Hp)  (K : Value → Hp → Prop) : wavelet_Make_c1_b0 x t1 h  K = (
  cond (decide (x < 0))
  (K (.bool true) h)
  (NN t1 fun a1 =>
  ∃ n1 : Int, cell h a1 = some (.int .i64 n1) ∧
  K (.bool (decide (n1 ≤ x))) h)) := by kernel_rfl
theorem wavelet_Make_c1_call {x : Int} {t1 : Option Addr} {h : Hp} {K : Value → Hp → Prop} (hk : wavelet_Make_c1_b0 x t1 h K) : HCalls Try.prog 46 #[.int .i64 x, .pointer t1] h K :=
  calls_of_snd wavelet_Make_c1_an Try.func46 (c := bodyOf Try.f46) rfl Try.ntmps46 (Nat.le_of_ble_eq_true rfl) (snd_1 F_ok F_mixed) hk

/-! ### Make -/
def Make_an : Ann := .node none (.leaf) (.node none (.leaf) (.node none (.leaf) (.node (some [4]) (.node none (.leaf) (.loop [4, 19, 20] [(21, .int .i64)] (.node none (.leaf) (.node none (.leaf) (.node (some [4, 19, 20, 21]) (.node none (.leaf) (.node none (.leaf) (.node none (.tail 13) (.leaf)))) (.leaf)))))) (.leaf))))
def Make_K0  (K : Value → Hp → Prop) : Exit → Env → Hp → Prop := retK Try.prog Try.f47.results.toList K
def Make_K1  (K : Value → Hp → Prop) : Exit → Env → Hp → Prop := thenE (fun env h => sx_2 Try.prog F 43 (cp [1, 1, 1, 1] (bodyOf Try.f47)) (ap [1, 1, 1, 1] Make_an) (rs [4] env) h (Make_K0  K)) (Make_K0  K)
def Make_K2  (K : Value → Hp → Prop) : Exit → Env → Hp → Prop := blockE 0 (Make_K1  K)
def Make_K3 (nx0 : Int × Unit → Hp → Prop) (K : Value → Hp → Prop) : Exit → Env → Hp → Prop := thenE (fun env h => getV [(21, .int .i64)] env fun s => nx0 s h) (Make_K2  K)
def Make_b0 (l : Option Addr) (lL : Nat) (lC : Nat) (h : Hp)  (K : Value → Hp → Prop) : Prop :=
  sx_3 Try.prog F 43 (cp [] (bodyOf Try.f47)) (ap [] Make_an) [(0, .slice l lL lC)] h (Make_K0  K)
def Make_b1 (t21 : Int) (v : Option Addr) (t19 : Option Addr) (t19L : Nat) (t19C : Nat) (t20 : Int) (h : Hp) (nx0 : Int × Unit → Hp → Prop) (K : Value → Hp → Prop) : Prop :=
  sx_2 Try.prog F 43 (cp [1, 1, 1, 0, 1, 2, 2] (bodyOf Try.f47)) (ap [1, 1, 1, 0, 1, 2] Make_an) [(21, .int .i64 t21), (4, .pointer v), (19, .slice t19 t19L t19C), (20, .int .i64 t20)] h (Make_K3 nx0 K)
def Make_b2 (v : Option Addr) (t19 : Option Addr) (t19L : Nat) (t19C : Nat) (t20 : Int) (t21 : Int) (h : Hp) (nx0 : Int × Unit → Hp → Prop) (K : Value → Hp → Prop) : Prop :=
  sx_1 Try.prog F 43 (cp [1, 1, 1, 0, 1, 2, 2, 1, 1, 1] (bodyOf Try.f47)) (ap [1, 1, 1, 0, 1, 2, 1, 1, 1] Make_an) [(4, .pointer v), (19, .slice t19 t19L t19C), (20, .int .i64 t20), (21, .int .i64 t21)] h (Make_K3 nx0 K)
def Make_b3 (v : Option Addr) (h : Hp)  (K : Value → Hp → Prop) : Prop :=
  sx_2 Try.prog F 43 (cp [1, 1, 1, 1] (bodyOf Try.f47)) (ap [1, 1, 1, 1] Make_an) [(4, .pointer v)] h (Make_K0  K)
theorem Make_b0_eq (l : Option Addr) (lL : Nat) (lC : Nat) (h : Hp)  (K : Value → Hp → Prop) : Make_b0 l lL lC h  K = (
  cond (decide ((65536 : Int) < (lL : Int)))
  (K (.tuple #[.pointer none, .int .i64 4]) h)
  (InR ((lL : Int) + 63) ∧
  ∃ q1 : Int, Sx.Quo .i64 ((lL : Int) + 63) 64 q1 ∧
  (0 ≤ q1 ∧ q1 ≤ q1 ∧ q1 ≤ 281474976710656 ∧ q1 * ((8 : Nat) : Int) ≤ 281474976710656) ∧
  New h (.cells (repL (Int.toNat q1 * 1) [.int .u64 0]).toArray 90) fun b1 h1 =>
  New h1 (.cells #[.int .i64 (lL : Int), .slice (some ⟨b1, 0, none⟩) (Int.toNat q1) (Int.toNat q1), .slice none 0 0] 89) fun b2 h2 =>
  LoopVC ((0, ()) : Int × Unit) h2 (fun (nx0 : Int × Unit → Hp → Prop) (s1 : Int × Unit) h3 => Make_b1 s1.1 (some ⟨b2, 0, none⟩) l lL lC (lL : Int) h3 nx0 K))) := by kernel_rfl
theorem Make_b1_eq (t21 : Int) (v : Option Addr) (t19 : Option Addr) (t19L : Nat) (t19C : Nat) (t20 : Int) (h : Hp) (nx0 : Int × Unit → Hp → Prop) (K : Value → Hp → Prop) : Make_b1 t21 v t19 t19L t19C t20 h nx0 K = (
  cond (decide (t21 < t20))
  ((0 ≤ t21 ∧ t21 < (t19L : Int)) ∧
  NN t19 fun a1 =>
  ∃ b3 : Bool, cell h (a1.add (Int.toNat t21 * 1)) = some (.bool b3) ∧
  cond b3
  (NN v fun a2 =>
  ∃ (a3 : Option Addr) (L1 C1 : Nat), cell h (a2.add 1) = some (.slice a3 L1 C1) ∧
  ∃ q2 : Int, Sx.Quo .i64 t21 64 q2 ∧
  (0 ≤ q2 ∧ q2 < (L1 : Int)) ∧
  NN a3 fun a4 =>
  ∃ n1 : Int, cell h (a4.add (Int.toNat q2 * 1)) = some (.int .u64 n1) ∧
  ∃ r1 : Int, Sx.Rem t21 64 r1 ∧
  ∃ sl1 : Int, Sx.Shl .u64 1 r1 sl1 ∧
  ∃ or1 : Int, Sx.Or .u64 n1 sl1 or1 ∧
  (0 ≤ q2 ∧ q2 < (L1 : Int)) ∧
  NN a3 fun a5 =>
  Wr h (a5.add (Int.toNat q2 * 1)) (.int .u64 or1) fun h4 =>
  Make_b2 v t19 t19L t19C t20 t21 h4 nx0 K)
  (Make_b2 v t19 t19L t19C t20 t21 h nx0 K))
  (Make_b3 v h  K)) := by kernel_rfl
theorem Make_b2_eq (v : Option Addr) (t19 : Option Addr) (t19L : Nat) (t19C : Nat) (t20 : Int) (t21 : Int) (h : Hp) (nx0 : Int × Unit → Hp → Prop) (K : Value → Hp → Prop) : Make_b2 v t19 t19L t19C t20 t21 h nx0 K = (
  InR (t21 + 1) ∧
  nx0 (t21 + 1, ()) h) := by kernel_rfl
theorem Make_b3_eq (v : Option Addr) (h : Hp)  (K : Value → Hp → Prop) : Make_b3 v h  K = (
  HCalls Try.prog 59 #[.pointer v] h fun v1 h5 => ∃ r2 : Option Addr, v1 = .pointer r2 ∧
  K (.tuple #[.pointer r2, .int .i64 0]) h5) := by kernel_rfl
theorem Make_call {l : Option Addr} {lL : Nat} {lC : Nat} {h : Hp} {K : Value → Hp → Prop} (hk : Make_b0 l lL lC h K) : HCalls Try.prog 47 #[.slice l lL lC] h K :=
  calls_of_snd Make_an Try.func47 (c := bodyOf Try.f47) rfl Try.ntmps47 (Nat.le_of_ble_eq_true rfl) (snd_3 F_ok F_mixed) hk

/-! ### slices_SortStableFunc_Sint_int -/
def slices_SortStableFunc_Sint_int_an : Ann := .leaf
def slices_SortStableFunc_Sint_int_K0  (K : Value → Hp → Prop) : Exit → Env → Hp → Prop := retK Try.prog Try.f48.results.toList K
def slices_SortStableFunc_Sint_int_b0 (x : Option Addr) (xL : Nat) (xC : Nat) (cmp : Value) (h : Hp)  (K : Value → Hp → Prop) : Prop :=
  sx_1 Try.prog F 9 (cp [] (bodyOf Try.f48)) (ap [] slices_SortStableFunc_Sint_int_an) [(0, .slice x xL xC), (1, cmp)] h (slices_SortStableFunc_Sint_int_K0  K)
theorem slices_SortStableFunc_Sint_int_b0_eq (x : Option Addr) (xL : Nat) (xC : Nat) (cmp : Value) (h : Hp)  (K : Value → Hp → Prop) : slices_SortStableFunc_Sint_int_b0 x xL xC cmp h  K = (
  HCalls Try.prog 60 #[.slice x xL xC, .int .i64 (xL : Int), cmp] h fun v1 h1 => v1 = .tuple #[] ∧
  K (.tuple #[]) h1) := by kernel_rfl
theorem slices_SortStableFunc_Sint_int_call {x : Option Addr} {xL : Nat} {xC : Nat} {cmp : Value} {h : Hp} {K : Value → Hp → Prop} (hk : slices_SortStableFunc_Sint_int_b0 x xL xC cmp h K) : HCalls Try.prog 48 #[.slice x xL xC, cmp] h K :=
  calls_of_snd slices_SortStableFunc_Sint_int_an Try.func48 (c := bodyOf Try.f48) rfl Try.ntmps48 (Nat.le_of_ble_eq_true rfl) (snd_1 F_ok F_mixed) hk

/-! ### wavelet_Make_c2 -/
def wavelet_Make_c2_an : Ann := .leaf
def wavelet_Make_c2_K0  (K : Value → Hp → Prop) : Exit → Env → Hp → Prop := retK Try.prog Try.f49.results.toList K
def wavelet_Make_c2_b0 (a : Int) (b : Int) (t2 : Option Addr) (h : Hp)  (K : Value → Hp → Prop) : Prop :=
  sx_1 Try.prog F 13 (cp [] (bodyOf Try.f49)) (ap [] wavelet_Make_c2_an) [(0, .int .i64 a), (1, .int .i64 b), (2, .pointer t2)] h (wavelet_Make_c2_K0  K)
theorem wavelet_Make_c2_b0_eq (a : Int) (b : Int) (t2 : Option Addr) (h : Hp)  (K : Value → Hp → Prop) : wavelet_Make_c2_b0 a b t2 h  K = (
  NN t2 fun a1 =>
  ∃ n1 : Int, cell h a1 = some (.int .i64 n1) ∧
  ∃ sr1 : Int, Sx.Shr .i64 a n1 sr1 ∧
  NN t2 fun a2 =>
  ∃ n2 : Int, cell h a2 = some (.int .i64 n2) ∧
  ∃ sr2 : Int, Sx.Shr .i64 b n2 sr2 ∧
  ∃ r1 : Int, HCalls Try.prog 42 #[.int .i64 sr1, .int .i64 sr2] h (fun v1 h1 => v1 = .int .i64 r1 ∧ h1 = h) ∧
  K (.int .i64 r1) h) := by kernel_rfl
theorem wavelet_Make_c2_call {a : Int} {b : Int} {t2 : Option Addr} {h : Hp} {K : Value → Hp → Prop} (hk : wavelet_Make_c2_b0 a b t2 h K) : HCalls Try.prog 49 #[.int .i64 a, .int .i64 b, .pointer t2] h K :=
  calls_of_snd wavelet_Make_c2_an Try.func49 (c := bodyOf Try.f49) rfl Try.ntmps49 (Nat.le_of_ble_eq_true rfl) (snd_1 F_ok F_mixed) hk

/-! ### wavelet_Tree_count -/
def wavelet_Tree_count_an : Ann := .leaf
def wavelet_Tree_count_K0  (K : Value → Hp → Prop) : Exit → Env → Hp → Prop := retK Try.prog Try.f50.results.toList K
def wavelet_Tree_count_b0 (t : Option Addr) (depth : Int) (i : Int) (h : Hp)  (K : Value → Hp → Prop) : Prop :=
  sx_1 Try.prog F 22 (cp [] (bodyOf Try.f50)) (ap [] wavelet_Tree_count_an) [(0, .pointer t), (1, .int .i64 depth), (2, .int .i64 i)] h (wavelet_Tree_count_K0  K)
theorem wavelet_Tree_count_b0_eq (t : Option Addr) (depth : Int) (i : Int) (h : Hp)  (K : Value → Hp → Prop) : wavelet_Tree_count_b0 t depth i h  K = (
  NN t fun a1 =>
  ∃ (a2 : Option Addr) (L1 C1 : Nat), cell h (a1.add 3) = some (.slice a2 L1 C1) ∧
  (0 ≤ depth ∧ depth < (L1 : Int)) ∧
  NN a2 fun a3 =>
  ∃ p1 : Option Addr, cell h (a3.add (Int.toNat depth * 1)) = some (.pointer p1) ∧
  HCalls Try.prog 61 #[.pointer p1, .bool true, .int .i64 i] h fun v1 h1 => ∃ r1 : Int, ∃ r2 : Int, v1 = .tuple #[.int .i64 r1, .int .i64 r2] ∧
  K (.int .i64 r1) h1) := by kernel_rfl
theorem wavelet_Tree_count_call {t : Option Addr} {depth : Int} {i : Int} {h : Hp} {K : Value → Hp → Prop} (hk : wavelet_Tree_count_b0 t depth i h K) : HCalls Try.prog 50 #[.pointer t, .int .i64 depth, .int .i64 i] h K :=
  calls_of_snd wavelet_Tree_count_an Try.func50 (c := bodyOf Try.f50) rfl Try.ntmps50 (Nat.le_of_ble_eq_true rfl) (snd_1 F_ok F_mixed) hk

/-! ### wavelet_Tree_children_c1 -/
def wavelet_Tree_children_c1_an : Ann := .leaf
def wavelet_Tree_children_c1_K0  (K : Value → Hp → Prop) : Exit → Env → Hp → Prop := retK Try.prog Try.f51.results.toList K
def wavelet_Tree_children_c1_b0 (i : Int) (t1 : Option Addr) (t2 : Option Addr) (t3 : Option Addr) (h : Hp)  (K : Value → Hp → Prop) : Prop :=
  sx_1 Try.prog F 13 (cp [] (bodyOf Try.f51)) (ap [] wavelet_Tree_children_c1_an) [(0, .int .i64 i), (1, .pointer t1), (2, .pointer t2), (3, .pointer t3)] h (wavelet_Tree_children_c1_K0  K)
theorem wavelet_Tree_children_c1_b0_eq (i : Int) (t1 : Option Addr) (t2 : Option Addr) (t3 : Option Addr) (h : Hp)  (K : Value → Hp → Prop) : wavelet_Tree_children_c1_b0 i t1 t2 t3 h  K = (
  NN t1 fun a1 =>
  ∃ p1 : Option Addr, cell h a1 = some (.pointer p1) ∧
  NN t2 fun a2 =>
  ∃ n1 : Int, cell h a2 = some (.int .i64 n1) ∧
  ∃ r1 : Int, HCalls Try.prog 50 #[.pointer p1, .int .i64 n1, .int .i64 i] h (fun v1 h1 => v1 = .int .i64 r1 ∧ h1 = h) ∧
  NN t3 fun a3 =>
  ∃ n2 : Int, cell h a3 = some (.int .i64 n2) ∧
  InR (r1 - n2) ∧
  K (.int .i64 (r1 - n2)) h) := by kernel_rfl
theorem wavelet_Tree_children_c1_call {i : Int} {t1 : Option Addr} {t2 : Option Addr} {t3 : Option Addr} {h : Hp} {K : Value → Hp → Prop} (hk : wavelet_Tree_children_c1_b0 i t1 t2 t3 h K) : HCalls Try.prog 51 #[.int .i64 i, .pointer t1, .pointer t2, .pointer t3] h K :=
  calls_of_snd wavelet_Tree_children_c1_an Try.func51 (c := bodyOf Try.f51) rfl Try.ntmps51 (Nat.le_of_ble_eq_true rfl) (snd_1 F_ok F_mixed) hk

/-! ### wavelet_Tree_children_c2 -/
def wavelet_Tree_children_c2_an : Ann := .node none (.leaf) (.node none (.plan (.qu 0 (.qu 1 (.qu 2 (.qu 3 (.qu 4 (.qu 5 (.wo 6 (.qu 7 (.wo 8 .fin .no)) .no)))))))) (.leaf))
def wavelet_Tree_children_c2_K0  (K : Value → Hp → Prop) : Exit → Env → Hp → Prop := retK Try.prog Try.f52.results.toList K
def wavelet_Tree_children_c2_b0 (i : Int) (t1 : Option Addr) (t2 : Option Addr) (h : Hp)  (K : Value → Hp → Prop) : Prop :=
  sx_1 Try.prog F 13 (cp [] (bodyOf Try.f52)) (ap [] wavelet_Tree_children_c2_an) [(0, .int .i64 i), (1, .pointer t1), (2, .pointer t2)] h (wavelet_Tree_children_c2_K0  K)
theorem wavelet_Tree_children_c2_b0_eq (i : Int) (t1 : Option Addr) (t2 : Option Addr) (h : Hp)  (K : Value → Hp → Prop) : wavelet_Tree_children_c2_b0 i t1 t2 h  K = (
  NN t1 fun a1 =>
  ∃ n1 : Int, cell h (a1.add 1) = some (.int .i64 n1) ∧
  InR (i - n1) ∧
  NN t2 fun a2 =>
  ∃ v1 : Value, cell h a2 = some (v1) ∧
  funV v1 fun fg1 fa1 fc1 => callX Try.prog F fg1 (fa1 ++ (([.int .i64 i] : List Value) ++ fc1)).toArray h fun v2 h1 => ∃ r1 : Int, v2 = .int .i64 r1 ∧
  (∃ n2 : Int, cell h1 (a1.add 1) = some (.int .i64 n2) ∧
  (.int .i64 n2 : Value) = .int .i64 n1) ∧
  InR ((i - n1) - r1) ∧
  K (.int .i64 ((i - n1) - r1)) h1) := by kernel_rfl
theorem wavelet_Tree_children_c2_call {i : Int} {t1 : Option Addr} {t2 : Option Addr} {h : Hp} {K : Value → Hp → Prop} (hk : wavelet_Tree_children_c2_b0 i t1 t2 h K) : HCalls Try.prog 52 #[.int .i64 i, .pointer t1, .pointer t2] h K :=
  calls_of_snd wavelet_Tree_children_c2_an Try.func52 (c := bodyOf Try.f52) rfl Try.ntmps52 (Nat.le_of_ble_eq_true rfl) (snd_1 F_ok F_mixed) hk

/-! ### wavelet_Tree_leaves_c1 -/
def wavelet_Tree_leaves_c1_an : Ann := .node none (.leaf) (.node none (.leaf) (.node none (.leaf) (.plan (.qu 0 (.qu 1 (.qu 2 (.qu 3 (.wo 4 (.wo 5 .fin .no) .no))))))))
def wavelet_Tree_leaves_c1_K0  (K : Value → Hp → Prop) : Exit → Env → Hp → Prop := retK Try.prog Try.f53.results.toList K
def wavelet_Tree_leaves_c1_b0 (yield : Value) (t1 : Option Addr) (t2 : Option Addr) (t3 : Option Addr) (t4 : Option Addr) (t5 : Option Addr) (h : Hp)  (K : Value → Hp → Prop) : Prop :=
  sx_1 Try.prog F 15 (cp [] (bodyOf Try.f53)) (ap [] wavelet_Tree_leaves_c1_an) [(0, yield), (1, .pointer t1), (2, .pointer t2), (3, .pointer t3), (4, .pointer t4), (5, .pointer t5)] h (wavelet_Tree_leaves_c1_K0  K)
theorem wavelet_Tree_leaves_c1_b0_eq (yield : Value) (t1 : Option Addr) (t2 : Option Addr) (t3 : Option Addr) (t4 : Option Addr) (t5 : Option Addr) (h : Hp)  (K : Value → Hp → Prop) : wavelet_Tree_leaves_c1_b0 yield t1 t2 t3 t4 t5 h  K = (
  cellsV yield fun cs1 =>
  New h (.cells cs1.toArray 82) fun b1 h1 =>
  New h1 (.cells #[.nilFunc] 82) fun b2 h2 =>
  Wr h2 ⟨b2, 0, none⟩ (.func (.func 54) #[] #[.pointer t1, .pointer t2, .pointer t3, .pointer (some ⟨b1, 0, none⟩), .pointer (some ⟨b2, 0, none⟩)]) fun h3 =>
  ∃ v1 : Value, cell h3 ⟨b2, 0, none⟩ = some (v1) ∧
  NN t1 fun a1 =>
  ∃ p1 : Option Addr, cell h3 a1 = some (.pointer p1) ∧
  NN t4 fun a2 =>
  ∃ n1 : Int, cell h3 a2 = some (.int .i64 n1) ∧
  NN t5 fun a3 =>
  ∃ n2 : Int, cell h3 a3 = some (.int .i64 n2) ∧
  HCalls Try.prog 35 #[.pointer p1, .int .i64 n1, .int .i64 n2] h3 fun v2 h4 => ∃ r1 : Int, ∃ r2 : Int, ∃ r3 : Int, ∃ r4 : Int, ∃ r5 : Int, ∃ r6 : Int, v2 = .agg #[.int .i64 r1, .int .i64 r2, .int .i64 r3, .int .i64 r4, .int .i64 r5, .int .i64 r6] ∧
  (∃ v3 : Value, cell h4 ⟨b2, 0, none⟩ = some (v3) ∧
  (v3 : Value) = v1) ∧
  funV v1 fun fg1 fa1 fc1 => callX Try.prog F fg1 (fa1 ++ (([.agg #[.int .i64 r1, .int .i64 r2, .int .i64 r3, .int .i64 r4, .int .i64 r5, .int .i64 r6]] : List Value) ++ fc1)).toArray h4 fun v4 h5 => ∃ r7 : Bool, v4 = .bool r7 ∧
  K (.tuple #[]) h5) := by kernel_rfl
theorem wavelet_Tree_leaves_c1_call {yield : Value} {t1 : Option Addr} {t2 : Option Addr} {t3 : Option Addr} {t4 : Option Addr} {t5 : Option Addr} {h : Hp} {K : Value → Hp → Prop} (hk : wavelet_Tree_leaves_c1_b0 yield t1 t2 t3 t4 t5 h K) : HCalls Try.prog 53 #[yield, .pointer t1, .pointer t2, .pointer t3, .pointer t4, .pointer t5] h K :=
  calls_of_snd wavelet_Tree_leaves_c1_an Try.func53 (c := bodyOf Try.f53) rfl Try.ntmps53 (Nat.le_of_ble_eq_true rfl) (snd_1 F_ok F_mixed) hk

end Go.Proofs.Ytfkimbdjgadelaa
