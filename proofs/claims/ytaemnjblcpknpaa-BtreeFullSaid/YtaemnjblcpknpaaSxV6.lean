/- Plain statements of what each block of code of this seat asks; printed by a program, checked by Lean. -/
import Derived.Test.YtaemnjblcpknpaaSxV0
set_option maxRecDepth 10000
namespace Go.Proofs.Ytaemnjblcpknpaa
open Go Go.Sx

/-! ### r03_yield -/
def r03_yield_an : Ann := .leaf
def r03_yield_K0  (K : Value → Hp → Prop) : Exit → Env → Hp → Prop := retK Try.prog Try.f97.results.toList K
def r03_yield_b0 (s_0 : Int) (s_1 : Option Addr) (s_1L : Nat) (s_1C : Nat) (nv : Int) (h : Hp)  (K : Value → Hp → Prop) : Prop :=
  sx_1 Try.prog F 9 (cp [] (bodyOf Try.f97)) (ap [] r03_yield_an) [(0, .agg #[.int .i64 s_0, .slice s_1 s_1L s_1C]), (1, .int .i64 nv)] h (r03_yield_K0  K)
theorem r03_yield_b0_eq (s_0 : Int) (s_1 : Option Addr) (s_1L : Nat) (s_1C : Nat) (nv : Int) (h : Hp)  (K : Value → Hp → Prop) : r03_yield_b0 s_0 s_1 s_1L s_1C nv h  K = (
  New h (.cells #[.int .i64 s_0, .slice s_1 s_1L s_1C] 108) fun b1 h1 =>
  New h1 (.cells #[.int .i64 0, .slice none 0 0] 108) fun b2 h2 =>
  New h2 (.cells #[.int .i64 0, .int .i64 0, .slice none 0 0] 61) fun b3 h3 =>
  ∃ n1 : Int, ∃ (a1 : Option Addr) (L1 C1 : Nat), cell h3 ⟨b1, 0, none⟩ = some (.int .i64 n1) ∧
  cell h3 ((⟨b1, 0, none⟩ : Addr).add 1) = some (.slice a1 L1 C1) ∧
  Wr h3 ⟨b2, 0, none⟩ (.int .i64 n1) fun h4 =>
  Wr h4 ((⟨b2, 0, none⟩ : Addr).add 1) (.slice a1 L1 C1) fun h5 =>
  Wr h5 ⟨b3, 0, none⟩ (.int .i64 0) fun h6 =>
  Wr h6 ((⟨b3, 0, none⟩ : Addr).add 1) (.int .i64 nv) fun h7 =>
  Wr h7 ((⟨b3, 0, none⟩ : Addr).add 2) (.slice none 0 0) fun h8 =>
  ∃ r1 : Int, ∃ (r2 : Option Addr) (rL1 rC1 : Nat), cell h8 ⟨b2, 0, none⟩ = some (.int .i64 r1) ∧
  cell h8 ((⟨b2, 0, none⟩ : Addr).add 1) = some (.slice r2 rL1 rC1) ∧
  ∃ r3 : Int, ∃ r4 : Int, ∃ (r5 : Option Addr) (rL2 rC2 : Nat), cell h8 ⟨b3, 0, none⟩ = some (.int .i64 r3) ∧
  cell h8 ((⟨b3, 0, none⟩ : Addr).add 1) = some (.int .i64 r4) ∧
  cell h8 ((⟨b3, 0, none⟩ : Addr).add 2) = some (.slice r5 rL2 rC2) ∧
  K (.tuple #[.agg #[.int .i64 r1, .slice r2 rL1 rC1], .agg #[.int .i64 r3, .int .i64 r4, .slice r5 rL2 rC2]]) h8) := by kernel_rfl
theorem r03_yield_call {s_0 : Int} {s_1 : Option Addr} {s_1L : Nat} {s_1C : Nat} {nv : Int} {h : Hp} {K : Value → Hp → Prop} (hk : r03_yield_b0 s_0 s_1 s_1L s_1C nv h K) : HCalls Try.prog 97 #[.agg #[.int .i64 s_0, .slice s_1 s_1L s_1C], .int .i64 nv] h K :=
  calls_of_snd r03_yield_an Try.func97 (c := bodyOf Try.f97) rfl Try.ntmps97 (Nat.le_of_ble_eq_true rfl) (snd_1 F_ok F_mixed) hk

/-! ### r03_fail -/
def r03_fail_an : Ann := .leaf
def r03_fail_K0  (K : Value → Hp → Prop) : Exit → Env → Hp → Prop := retK Try.prog Try.f98.results.toList K
def r03_fail_b0 (s_0 : Int) (s_1 : Option Addr) (s_1L : Nat) (s_1C : Nat) (e : Int) (h : Hp)  (K : Value → Hp → Prop) : Prop :=
  sx_1 Try.prog F 9 (cp [] (bodyOf Try.f98)) (ap [] r03_fail_an) [(0, .agg #[.int .i64 s_0, .slice s_1 s_1L s_1C]), (1, .int .i64 e)] h (r03_fail_K0  K)
theorem r03_fail_b0_eq (s_0 : Int) (s_1 : Option Addr) (s_1L : Nat) (s_1C : Nat) (e : Int) (h : Hp)  (K : Value → Hp → Prop) : r03_fail_b0 s_0 s_1 s_1L s_1C e h  K = (
  New h (.cells #[.int .i64 s_0, .slice s_1 s_1L s_1C] 108) fun b1 h1 =>
  New h1 (.cells #[.int .i64 0, .slice none 0 0] 108) fun b2 h2 =>
  New h2 (.cells #[.int .i64 0, .int .i64 0, .slice none 0 0] 61) fun b3 h3 =>
  ∃ n1 : Int, ∃ (a1 : Option Addr) (L1 C1 : Nat), cell h3 ⟨b1, 0, none⟩ = some (.int .i64 n1) ∧
  cell h3 ((⟨b1, 0, none⟩ : Addr).add 1) = some (.slice a1 L1 C1) ∧
  Wr h3 ⟨b2, 0, none⟩ (.int .i64 n1) fun h4 =>
  Wr h4 ((⟨b2, 0, none⟩ : Addr).add 1) (.slice a1 L1 C1) fun h5 =>
  Wr h5 ⟨b3, 0, none⟩ (.int .i64 e) fun h6 =>
  Wr h6 ((⟨b3, 0, none⟩ : Addr).add 1) (.int .i64 0) fun h7 =>
  Wr h7 ((⟨b3, 0, none⟩ : Addr).add 2) (.slice none 0 0) fun h8 =>
  ∃ r1 : Int, ∃ (r2 : Option Addr) (rL1 rC1 : Nat), cell h8 ⟨b2, 0, none⟩ = some (.int .i64 r1) ∧
  cell h8 ((⟨b2, 0, none⟩ : Addr).add 1) = some (.slice r2 rL1 rC1) ∧
  ∃ r3 : Int, ∃ r4 : Int, ∃ (r5 : Option Addr) (rL2 rC2 : Nat), cell h8 ⟨b3, 0, none⟩ = some (.int .i64 r3) ∧
  cell h8 ((⟨b3, 0, none⟩ : Addr).add 1) = some (.int .i64 r4) ∧
  cell h8 ((⟨b3, 0, none⟩ : Addr).add 2) = some (.slice r5 rL2 rC2) ∧
  K (.tuple #[.agg #[.int .i64 r1, .slice r2 rL1 rC1], .agg #[.int .i64 r3, .int .i64 r4, .slice r5 rL2 rC2]]) h8) := by kernel_rfl
theorem r03_fail_call {s_0 : Int} {s_1 : Option Addr} {s_1L : Nat} {s_1C : Nat} {e : Int} {h : Hp} {K : Value → Hp → Prop} (hk : r03_fail_b0 s_0 s_1 s_1L s_1C e h K) : HCalls Try.prog 98 #[.agg #[.int .i64 s_0, .slice s_1 s_1L s_1C], .int .i64 e] h K :=
  calls_of_snd r03_fail_an Try.func98 (c := bodyOf Try.f98) rfl Try.ntmps98 (Nat.le_of_ble_eq_true rfl) (snd_1 F_ok F_mixed) hk

/-! ### r03_put -/
def r03_put_an : Ann := .node none (.leaf) (.node none (.leaf) (.node none (.plan (.qu 0 (.qu 1 (.qu 4 (.qu 5 (.qu 6 (.wo 2 (.wo 3 (.wo 7 (.wo 8 .fin .no) .no) .no) .no))))))) (.leaf)))
def r03_put_K0  (K : Value → Hp → Prop) : Exit → Env → Hp → Prop := retK Try.prog Try.f99.results.toList K
def r03_put_b0 (l : Option Addr) (lL : Nat) (lC : Nat) (i : Int) (x : Option Addr) (xL : Nat) (xC : Nat) (h : Hp)  (K : Value → Hp → Prop) : Prop :=
  sx_1 Try.prog F 21 (cp [] (bodyOf Try.f99)) (ap [] r03_put_an) [(0, .slice l lL lC), (1, .int .i64 i), (2, .slice x xL xC)] h (r03_put_K0  K)
theorem r03_put_b0_eq (l : Option Addr) (lL : Nat) (lC : Nat) (i : Int) (x : Option Addr) (xL : Nat) (xC : Nat) (h : Hp)  (K : Value → Hp → Prop) : r03_put_b0 l lL lC i x xL xC h  K = (
  New h (.cells #[] 38) fun b1 h1 =>
  (0 ≤ (0 : Int) ∧ (0 : Int) ≤ i ∧ i ≤ (lC : Int)) ∧
  appendV Try.prog 82 82 (.slice (some ⟨b1, 0, none⟩) 0 0) (.slice (subAddr l lC (Int.toNat (0 : Int)) 1) (Int.toNat i - Int.toNat (0 : Int)) (lC - Int.toNat (0 : Int))) h1 (slK fun a1 l1 c1 h2 =>
  (0 ≤ i ∧ i ≤ (lL : Int) ∧ (lL : Int) ≤ (lC : Int)) ∧
  New h2 (.cells #[.slice x xL xC] 38) fun b2 h3 =>
  ((0 ≤ i ∧ i ≤ (lL : Int) ∧ (lL : Int) ≤ (lC : Int)) ∧
  (.slice (subAddr l lC (Int.toNat i) 1) (Int.toNat (lL : Int) - Int.toNat i) (lC - Int.toNat i) : Value) = .slice (subAddr l lC (Int.toNat i) 1) (Int.toNat (lL : Int) - Int.toNat i) (lC - Int.toNat i)) ∧
  appendV Try.prog 82 82 (.slice a1 l1 c1) (.slice (some ⟨b2, 0, none⟩) 1 1) h3 (slK fun a2 l2 c2 h4 =>
  ((0 ≤ i ∧ i ≤ (lL : Int) ∧ (lL : Int) ≤ (lC : Int)) ∧
  (.slice (subAddr l lC (Int.toNat i) 1) (Int.toNat (lL : Int) - Int.toNat i) (lC - Int.toNat i) : Value) = .slice (subAddr l lC (Int.toNat i) 1) (Int.toNat (lL : Int) - Int.toNat i) (lC - Int.toNat i)) ∧
  appendV Try.prog 82 82 (.slice a2 l2 c2) (.slice (subAddr l lC (Int.toNat i) 1) (Int.toNat (lL : Int) - Int.toNat i) (lC - Int.toNat i)) h4 (slK fun a3 l3 c3 h5 =>
  K (.slice a3 l3 c3) h5)))) := by kernel_rfl
theorem r03_put_call {l : Option Addr} {lL : Nat} {lC : Nat} {i : Int} {x : Option Addr} {xL : Nat} {xC : Nat} {h : Hp} {K : Value → Hp → Prop} (hk : r03_put_b0 l lL lC i x xL xC h K) : HCalls Try.prog 99 #[.slice l lL lC, .int .i64 i, .slice x xL xC] h K :=
  calls_of_snd r03_put_an Try.func99 (c := bodyOf Try.f99) rfl Try.ntmps99 (Nat.le_of_ble_eq_true rfl) (snd_1 F_ok F_mixed) hk

/-! ### r03_cut -/
def r03_cut_an : Ann := .node none (.leaf) (.node none (.plan (.qu 1 (.qu 2 (.qu 3 (.qu 5 (.qu 6 (.qu 7 (.qu 8 (.wo 0 (.wo 4 (.wo 9 (.wo 10 .fin .no) .no) .no) .no))))))))) (.leaf))
def r03_cut_K0  (K : Value → Hp → Prop) : Exit → Env → Hp → Prop := retK Try.prog Try.f100.results.toList K
def r03_cut_b0 (l : Option Addr) (lL : Nat) (lC : Nat) (i : Int) (h : Hp)  (K : Value → Hp → Prop) : Prop :=
  sx_1 Try.prog F 15 (cp [] (bodyOf Try.f100)) (ap [] r03_cut_an) [(0, .slice l lL lC), (1, .int .i64 i)] h (r03_cut_K0  K)
theorem r03_cut_b0_eq (l : Option Addr) (lL : Nat) (lC : Nat) (i : Int) (h : Hp)  (K : Value → Hp → Prop) : r03_cut_b0 l lL lC i h  K = (
  (0 ≤ (0 : Int) ∧ (0 : Int) ≤ i ∧ i ≤ (lC : Int)) ∧
  InR (i + 1) ∧
  (0 ≤ i + 1 ∧ i + 1 ≤ (lL : Int) ∧ (lL : Int) ≤ (lC : Int)) ∧
  New h (.cells #[] 38) fun b1 h1 =>
  ((0 ≤ i + 1 ∧ i + 1 ≤ (lL : Int) ∧ (lL : Int) ≤ (lC : Int)) ∧
  (.slice (subAddr l lC (Int.toNat (i + 1)) 1) (Int.toNat (lL : Int) - Int.toNat (i + 1)) (lC - Int.toNat (i + 1)) : Value) = .slice (subAddr l lC (Int.toNat (i + 1)) 1) (Int.toNat (lL : Int) - Int.toNat (i + 1)) (lC - Int.toNat (i + 1))) ∧
  ((0 ≤ (0 : Int) ∧ (0 : Int) ≤ i ∧ i ≤ (lC : Int)) ∧
  (.slice (subAddr l lC (Int.toNat (0 : Int)) 1) (Int.toNat i - Int.toNat (0 : Int)) (lC - Int.toNat (0 : Int)) : Value) = .slice (subAddr l lC (Int.toNat (0 : Int)) 1) (Int.toNat i - Int.toNat (0 : Int)) (lC - Int.toNat (0 : Int))) ∧
  appendV Try.prog 82 82 (.slice (some ⟨b1, 0, none⟩) 0 0) (.slice (subAddr l lC (Int.toNat (0 : Int)) 1) (Int.toNat i - Int.toNat (0 : Int)) (lC - Int.toNat (0 : Int))) h1 (slK fun a1 l1 c1 h2 =>
  ((0 ≤ i + 1 ∧ i + 1 ≤ (lL : Int) ∧ (lL : Int) ≤ (lC : Int)) ∧
  (.slice (subAddr l lC (Int.toNat (i + 1)) 1) (Int.toNat (lL : Int) - Int.toNat (i + 1)) (lC - Int.toNat (i + 1)) : Value) = .slice (subAddr l lC (Int.toNat (i + 1)) 1) (Int.toNat (lL : Int) - Int.toNat (i + 1)) (lC - Int.toNat (i + 1))) ∧
  appendV Try.prog 82 82 (.slice a1 l1 c1) (.slice (subAddr l lC (Int.toNat (i + 1)) 1) (Int.toNat (lL : Int) - Int.toNat (i + 1)) (lC - Int.toNat (i + 1))) h2 (slK fun a2 l2 c2 h3 =>
  K (.slice a2 l2 c2) h3))) := by kernel_rfl
theorem r03_cut_call {l : Option Addr} {lL : Nat} {lC : Nat} {i : Int} {h : Hp} {K : Value → Hp → Prop} (hk : r03_cut_b0 l lL lC i h K) : HCalls Try.prog 100 #[.slice l lL lC, .int .i64 i] h K :=
  calls_of_snd r03_cut_an Try.func100 (c := bodyOf Try.f100) rfl Try.ntmps100 (Nat.le_of_ble_eq_true rfl) (snd_1 F_ok F_mixed) hk

/-! ### r03_Size -/
def r03_Size_an : Ann := .node none (.leaf) (.node (some [1]) (.leaf) (.node none (.leaf) (.node (some [3]) (.node none (.leaf) (.loop [1] [(3, .int .i64), (4, .int .i64)] (.node none (.leaf) (.node (some [1, 3, 4]) (.leaf) (.leaf))))) (.leaf))))
def r03_Size_K0  (K : Value → Hp → Prop) : Exit → Env → Hp → Prop := retK Try.prog Try.f101.results.toList K
def r03_Size_K1  (K : Value → Hp → Prop) : Exit → Env → Hp → Prop := thenE (fun env h => sx_2 Try.prog F 32 (cp [1, 1, 1, 1] (bodyOf Try.f101)) (ap [1, 1, 1, 1] r03_Size_an) (rs [3] env) h (r03_Size_K0  K)) (r03_Size_K0  K)
def r03_Size_K2  (K : Value → Hp → Prop) : Exit → Env → Hp → Prop := blockE 0 (r03_Size_K1  K)
def r03_Size_K3 (nx0 : Int × Int × Unit → Hp → Prop) (K : Value → Hp → Prop) : Exit → Env → Hp → Prop := thenE (fun env h => getV [(3, .int .i64), (4, .int .i64)] env fun s => nx0 s h) (r03_Size_K2  K)
def r03_Size_b0 (s_0 : Int) (s_1 : Option Addr) (s_1L : Nat) (s_1C : Nat) (h : Hp)  (K : Value → Hp → Prop) : Prop :=
  sx_4 Try.prog F 32 (cp [] (bodyOf Try.f101)) (ap [] r03_Size_an) [(0, .agg #[.int .i64 s_0, .slice s_1 s_1L s_1C])] h (r03_Size_K0  K)
def r03_Size_b1 (s : Option Addr) (h : Hp)  (K : Value → Hp → Prop) : Prop :=
  sx_3 Try.prog F 32 (cp [1, 1] (bodyOf Try.f101)) (ap [1, 1] r03_Size_an) [(1, .pointer s)] h (r03_Size_K0  K)
def r03_Size_b2 (nv : Int) (i : Int) (s : Option Addr) (h : Hp) (nx0 : Int × Int × Unit → Hp → Prop) (K : Value → Hp → Prop) : Prop :=
  sx_2 Try.prog F 32 (cp [1, 1, 1, 0, 1, 2, 2] (bodyOf Try.f101)) (ap [1, 1, 1, 0, 1, 2] r03_Size_an) [(3, .int .i64 nv), (4, .int .i64 i), (1, .pointer s)] h (r03_Size_K3 nx0 K)
def r03_Size_b3 (s : Option Addr) (nv : Int) (i : Int) (h : Hp) (nx0 : Int × Int × Unit → Hp → Prop) (K : Value → Hp → Prop) : Prop :=
  sx_1 Try.prog F 32 (cp [1, 1, 1, 0, 1, 2, 2, 1, 1] (bodyOf Try.f101)) (ap [1, 1, 1, 0, 1, 2, 1, 1] r03_Size_an) [(1, .pointer s), (3, .int .i64 nv), (4, .int .i64 i)] h (r03_Size_K3 nx0 K)
def r03_Size_b4 (nv : Int) (h : Hp)  (K : Value → Hp → Prop) : Prop :=
  sx_2 Try.prog F 32 (cp [1, 1, 1, 1] (bodyOf Try.f101)) (ap [1, 1, 1, 1] r03_Size_an) [(3, .int .i64 nv)] h (r03_Size_K0  K)
theorem r03_Size_b0_eq (s_0 : Int) (s_1 : Option Addr) (s_1L : Nat) (s_1C : Nat) (h : Hp)  (K : Value → Hp → Prop) : r03_Size_b0 s_0 s_1 s_1L s_1C h  K = (
  New h (.cells #[.int .i64 s_0, .slice s_1 s_1L s_1C] 108) fun b1 h1 =>
  ∃ n1 : Int, cell h1 ⟨b1, 0, none⟩ = some (.int .i64 n1) ∧
  cond (!decide (n1 = 4))
  (∃ n2 : Int, cell h1 ⟨b1, 0, none⟩ = some (.int .i64 n2) ∧
  cond (!decide (n2 = 6))
  (∃ (a1 : Option Addr) (L1 C1 : Nat), cell h1 ((⟨b1, 0, none⟩ : Addr).add 1) = some (.slice a1 L1 C1) ∧
  K (.int .i64 (L1 : Int)) h1)
  (r03_Size_b1 (some ⟨b1, 0, none⟩) h1  K))
  (r03_Size_b1 (some ⟨b1, 0, none⟩) h1  K)) := by kernel_rfl
theorem r03_Size_b1_eq (s : Option Addr) (h : Hp)  (K : Value → Hp → Prop) : r03_Size_b1 s h  K = (
  LoopVC ((0, 0, ()) : Int × Int × Unit) h (fun (nx0 : Int × Int × Unit → Hp → Prop) (s1 : Int × Int × Unit) h2 => r03_Size_b2 s1.1 s1.2.1 s h2 nx0 K)) := by kernel_rfl
theorem r03_Size_b2_eq (nv : Int) (i : Int) (s : Option Addr) (h : Hp) (nx0 : Int × Int × Unit → Hp → Prop) (K : Value → Hp → Prop) : r03_Size_b2 nv i s h nx0 K = (
  NN s fun a2 =>
  ∃ (a3 : Option Addr) (L2 C2 : Nat), cell h (a2.add 1) = some (.slice a3 L2 C2) ∧
  cond (decide (i < (L2 : Int)))
  (NN s fun a4 =>
  ∃ (a5 : Option Addr) (L3 C3 : Nat), cell h (a4.add 1) = some (.slice a5 L3 C3) ∧
  (0 ≤ i ∧ i < (L3 : Int)) ∧
  NN a5 fun a6 =>
  ∃ (a7 : Option Addr) (L4 C4 : Nat), cell h (a6.add (Int.toNat i * 1)) = some (.slice a7 L4 C4) ∧
  InR (nv + (L4 : Int)) ∧
  r03_Size_b3 s (nv + (L4 : Int)) i h nx0 K)
  (r03_Size_b4 nv h  K)) := by kernel_rfl
theorem r03_Size_b3_eq (s : Option Addr) (nv : Int) (i : Int) (h : Hp) (nx0 : Int × Int × Unit → Hp → Prop) (K : Value → Hp → Prop) : r03_Size_b3 s nv i h nx0 K = (
  InR (i + 1) ∧
  nx0 (nv, i + 1, ()) h) := by kernel_rfl
theorem r03_Size_b4_eq (nv : Int) (h : Hp)  (K : Value → Hp → Prop) : r03_Size_b4 nv h  K = (
  K (.int .i64 nv) h) := by kernel_rfl
theorem r03_Size_call {s_0 : Int} {s_1 : Option Addr} {s_1L : Nat} {s_1C : Nat} {h : Hp} {K : Value → Hp → Prop} (hk : r03_Size_b0 s_0 s_1 s_1L s_1C h K) : HCalls Try.prog 101 #[.agg #[.int .i64 s_0, .slice s_1 s_1L s_1C]] h K :=
  calls_of_snd r03_Size_an Try.func101 (c := bodyOf Try.f101) rfl Try.ntmps101 (Nat.le_of_ble_eq_true rfl) (snd_4 F_ok F_mixed) hk

/-! ### r03_class -/
def r03_class_an : Ann := .node none (.leaf) (.node (some []) (.node none (.leaf) (.loop [1, 2] [(5, .int .i64)] (.node none (.leaf) (.node (some [1, 2, 5]) (.node none (.leaf) (.loop [1, 2, 5] [(6, .int .i64)] (.node none (.leaf) (.node (some [1, 2, 5, 6]) (.leaf) (.leaf))))) (.leaf))))) (.leaf))
def r03_class_K0  (K : Value → Hp → Prop) : Exit → Env → Hp → Prop := retK Try.prog Try.f102.results.toList K
def r03_class_K1  (K : Value → Hp → Prop) : Exit → Env → Hp → Prop := thenE (fun env h => sx_3 Try.prog F 35 (cp [1, 1] (bodyOf Try.f102)) (ap [1, 1] r03_class_an) (rs [] env) h (r03_class_K0  K)) (r03_class_K0  K)
def r03_class_K2  (K : Value → Hp → Prop) : Exit → Env → Hp → Prop := blockE 0 (r03_class_K1  K)
def r03_class_K3 (nx0 : Int × Unit → Hp → Prop) (K : Value → Hp → Prop) : Exit → Env → Hp → Prop := thenE (fun env h => getV [(5, .int .i64)] env fun s => nx0 s h) (r03_class_K2  K)
def r03_class_K4 (nx0 : Int × Unit → Hp → Prop) (K : Value → Hp → Prop) : Exit → Env → Hp → Prop := thenE (fun env h => sx_2 Try.prog F 35 (cp [1, 0, 1, 2, 2, 1, 1] (bodyOf Try.f102)) (ap [1, 0, 1, 2, 1, 1] r03_class_an) (rs [1, 2, 5] env) h (r03_class_K3 nx0 K)) (r03_class_K3 nx0 K)
def r03_class_K5 (nx0 : Int × Unit → Hp → Prop) (K : Value → Hp → Prop) : Exit → Env → Hp → Prop := blockE 1 (r03_class_K4 nx0 K)
def r03_class_K6 (nx0 : Int × Unit → Hp → Prop) (K : Value → Hp → Prop) : Exit → Env → Hp → Prop := blockE 2 (r03_class_K5 nx0 K)
def r03_class_K7 (nx0 : Int × Unit → Hp → Prop) (nx1 : Int × Unit → Hp → Prop) (K : Value → Hp → Prop) : Exit → Env → Hp → Prop := thenE (fun env h => getV [(6, .int .i64)] env fun s => nx1 s h) (r03_class_K6 nx0 K)
def r03_class_b0 (s_0 : Int) (s_1 : Option Addr) (s_1L : Nat) (s_1C : Nat) (x : Int) (h : Hp)  (K : Value → Hp → Prop) : Prop :=
  sx_4 Try.prog F 35 (cp [] (bodyOf Try.f102)) (ap [] r03_class_an) [(0, .agg #[.int .i64 s_0, .slice s_1 s_1L s_1C]), (1, .int .i64 x)] h (r03_class_K0  K)
def r03_class_b1 (i : Int) (x : Int) (s : Option Addr) (h : Hp) (nx0 : Int × Unit → Hp → Prop) (K : Value → Hp → Prop) : Prop :=
  sx_3 Try.prog F 35 (cp [1, 0, 1, 2, 2] (bodyOf Try.f102)) (ap [1, 0, 1, 2] r03_class_an) [(5, .int .i64 i), (1, .int .i64 x), (2, .pointer s)] h (r03_class_K3 nx0 K)
def r03_class_b2 (k : Int) (x : Int) (s : Option Addr) (i : Int) (h : Hp) (nx0 : Int × Unit → Hp → Prop) (nx1 : Int × Unit → Hp → Prop) (K : Value → Hp → Prop) : Prop :=
  sx_2 Try.prog F 35 (cp [1, 0, 1, 2, 2, 1, 0, 2, 1, 2, 2] (bodyOf Try.f102)) (ap [1, 0, 1, 2, 1, 0, 1, 2] r03_class_an) [(6, .int .i64 k), (1, .int .i64 x), (2, .pointer s), (5, .int .i64 i)] h (r03_class_K7 nx0 nx1 K)
def r03_class_b3  (h : Hp)  (K : Value → Hp → Prop) : Prop :=
  sx_3 Try.prog F 35 (cp [1, 1] (bodyOf Try.f102)) (ap [1, 1] r03_class_an) [] h (r03_class_K0  K)
def r03_class_b4 (x : Int) (s : Option Addr) (i : Int) (k : Int) (h : Hp) (nx0 : Int × Unit → Hp → Prop) (nx1 : Int × Unit → Hp → Prop) (K : Value → Hp → Prop) : Prop :=
  sx_1 Try.prog F 35 (cp [1, 0, 1, 2, 2, 1, 0, 2, 1, 2, 2, 1, 1] (bodyOf Try.f102)) (ap [1, 0, 1, 2, 1, 0, 1, 2, 1, 1] r03_class_an) [(1, .int .i64 x), (2, .pointer s), (5, .int .i64 i), (6, .int .i64 k)] h (r03_class_K7 nx0 nx1 K)
def r03_class_b5 (x : Int) (s : Option Addr) (i : Int) (h : Hp) (nx0 : Int × Unit → Hp → Prop) (K : Value → Hp → Prop) : Prop :=
  sx_2 Try.prog F 35 (cp [1, 0, 1, 2, 2, 1, 1] (bodyOf Try.f102)) (ap [1, 0, 1, 2, 1, 1] r03_class_an) [(1, .int .i64 x), (2, .pointer s), (5, .int .i64 i)] h (r03_class_K3 nx0 K)
theorem r03_class_b0_eq (s_0 : Int) (s_1 : Option Addr) (s_1L : Nat) (s_1C : Nat) (x : Int) (h : Hp)  (K : Value → Hp → Prop) : r03_class_b0 s_0 s_1 s_1L s_1C x h  K = (
  New h (.cells #[.int .i64 s_0, .slice s_1 s_1L s_1C] 108) fun b1 h1 =>
  LoopVC ((0, ()) : Int × Unit) h1 (fun (nx0 : Int × Unit → Hp → Prop) (s1 : Int × Unit) h2 => r03_class_b1 s1.1 x (some ⟨b1, 0, none⟩) h2 nx0 K)) := by kernel_rfl
theorem r03_class_b1_eq (i : Int) (x : Int) (s : Option Addr) (h : Hp) (nx0 : Int × Unit → Hp → Prop) (K : Value → Hp → Prop) : r03_class_b1 i x s h nx0 K = (
  NN s fun a1 =>
  ∃ (a2 : Option Addr) (L1 C1 : Nat), cell h (a1.add 1) = some (.slice a2 L1 C1) ∧
  cond (decide (i < (L1 : Int)))
  (LoopVC ((0, ()) : Int × Unit) h (fun (nx1 : Int × Unit → Hp → Prop) (s2 : Int × Unit) h3 => r03_class_b2 s2.1 x s i h3 nx0 nx1 K))
  (r03_class_b3  h  K)) := by kernel_rfl
theorem r03_class_b2_eq (k : Int) (x : Int) (s : Option Addr) (i : Int) (h : Hp) (nx0 : Int × Unit → Hp → Prop) (nx1 : Int × Unit → Hp → Prop) (K : Value → Hp → Prop) : r03_class_b2 k x s i h nx0 nx1 K = (
  NN s fun a3 =>
  ∃ (a4 : Option Addr) (L2 C2 : Nat), cell h (a3.add 1) = some (.slice a4 L2 C2) ∧
  (0 ≤ i ∧ i < (L2 : Int)) ∧
  NN a4 fun a5 =>
  ∃ (a6 : Option Addr) (L3 C3 : Nat), cell h (a5.add (Int.toNat i * 1)) = some (.slice a6 L3 C3) ∧
  cond (decide (k < (L3 : Int)))
  (NN s fun a7 =>
  ∃ (a8 : Option Addr) (L4 C4 : Nat), cell h (a7.add 1) = some (.slice a8 L4 C4) ∧
  (0 ≤ i ∧ i < (L4 : Int)) ∧
  NN a8 fun a9 =>
  ∃ (a10 : Option Addr) (L5 C5 : Nat), cell h (a9.add (Int.toNat i * 1)) = some (.slice a10 L5 C5) ∧
  (0 ≤ k ∧ k < (L5 : Int)) ∧
  NN a10 fun a11 =>
  ∃ n1 : Int, cell h (a11.add (Int.toNat k * 1)) = some (.int .i64 n1) ∧
  cond (decide (n1 = x))
  (K (.int .i64 i) h)
  (r03_class_b4 x s i k h nx0 nx1 K))
  (r03_class_b5 x s i h nx0 K)) := by kernel_rfl
theorem r03_class_b3_eq  (h : Hp)  (K : Value → Hp → Prop) : r03_class_b3  h  K = (
  K (.int .i64 (-1)) h) := by kernel_rfl
theorem r03_class_b4_eq (x : Int) (s : Option Addr) (i : Int) (k : Int) (h : Hp) (nx0 : Int × Unit → Hp → Prop) (nx1 : Int × Unit → Hp → Prop) (K : Value → Hp → Prop) : r03_class_b4 x s i k h nx0 nx1 K = (
  InR (k + 1) ∧
  nx1 (k + 1, ()) h) := by kernel_rfl
theorem r03_class_b5_eq (x : Int) (s : Option Addr) (i : Int) (h : Hp) (nx0 : Int × Unit → Hp → Prop) (K : Value → Hp → Prop) : r03_class_b5 x s i h nx0 K = (
  InR (i + 1) ∧
  nx0 (i + 1, ()) h) := by kernel_rfl
theorem r03_class_call {s_0 : Int} {s_1 : Option Addr} {s_1L : Nat} {s_1C : Nat} {x : Int} {h : Hp} {K : Value → Hp → Prop} (hk : r03_class_b0 s_0 s_1 s_1L s_1C x h K) : HCalls Try.prog 102 #[.agg #[.int .i64 s_0, .slice s_1 s_1L s_1C], .int .i64 x] h K :=
  calls_of_snd r03_class_an Try.func102 (c := bodyOf Try.f102) rfl Try.ntmps102 (Nat.le_of_ble_eq_true rfl) (snd_4 F_ok F_mixed) hk

/-! ### r03_merged -/
def r03_merged_an : Ann := .node none (.leaf) (.node none (.leaf) (.node none (.leaf) (.node (some [5]) (.loop [0, 1] [(5, .slice), (6, .int .i64), (7, .int .i64)] (.node (some [0, 1, 5, 6, 7]) (.leaf) (.leaf))) (.leaf))))
def r03_merged_K0  (K : Value → Hp → Prop) : Exit → Env → Hp → Prop := retK Try.prog Try.f103.results.toList K
def r03_merged_K1  (K : Value → Hp → Prop) : Exit → Env → Hp → Prop := thenE (fun env h => sx_2 Try.prog F 58 (cp [1, 1, 1, 1] (bodyOf Try.f103)) (ap [1, 1, 1, 1] r03_merged_an) (rs [5] env) h (r03_merged_K0  K)) (r03_merged_K0  K)
def r03_merged_K2  (K : Value → Hp → Prop) : Exit → Env → Hp → Prop := blockE 0 (r03_merged_K1  K)
def r03_merged_K3 (nx0 : (Option Addr × Nat × Nat) × Int × Int × Unit → Hp → Prop) (K : Value → Hp → Prop) : Exit → Env → Hp → Prop := thenE (fun env h => getV [(5, .slice), (6, .int .i64), (7, .int .i64)] env fun s => nx0 s h) (r03_merged_K2  K)
def r03_merged_b0 (a : Option Addr) (aL : Nat) (aC : Nat) (b : Option Addr) (bL : Nat) (bC : Nat) (h : Hp)  (K : Value → Hp → Prop) : Prop :=
  sx_3 Try.prog F 58 (cp [] (bodyOf Try.f103)) (ap [] r03_merged_an) [(0, .slice a aL aC), (1, .slice b bL bC)] h (r03_merged_K0  K)
def r03_merged_b1 (out : Option Addr) (outL : Nat) (outC : Nat) (i : Int) (k : Int) (a : Option Addr) (aL : Nat) (aC : Nat) (b : Option Addr) (bL : Nat) (bC : Nat) (h : Hp) (nx0 : (Option Addr × Nat × Nat) × Int × Int × Unit → Hp → Prop) (K : Value → Hp → Prop) : Prop :=
  sx_2 Try.prog F 58 (cp [1, 1, 1, 0, 2, 2] (bodyOf Try.f103)) (ap [1, 1, 1, 0, 2] r03_merged_an) [(5, .slice out outL outC), (6, .int .i64 i), (7, .int .i64 k), (0, .slice a aL aC), (1, .slice b bL bC)] h (r03_merged_K3 nx0 K)
def r03_merged_b2 (a : Option Addr) (aL : Nat) (aC : Nat) (b : Option Addr) (bL : Nat) (bC : Nat) (out : Option Addr) (outL : Nat) (outC : Nat) (i : Int) (k : Int) (h : Hp) (nx0 : (Option Addr × Nat × Nat) × Int × Int × Unit → Hp → Prop) (K : Value → Hp → Prop) : Prop :=
  sx_1 Try.prog F 58 (cp [1, 1, 1, 0, 2, 2, 1] (bodyOf Try.f103)) (ap [1, 1, 1, 0, 2, 1] r03_merged_an) [(0, .slice a aL aC), (1, .slice b bL bC), (5, .slice out outL outC), (6, .int .i64 i), (7, .int .i64 k)] h (r03_merged_K3 nx0 K)
def r03_merged_b3 (out : Option Addr) (outL : Nat) (outC : Nat) (h : Hp)  (K : Value → Hp → Prop) : Prop :=
  sx_2 Try.prog F 58 (cp [1, 1, 1, 1] (bodyOf Try.f103)) (ap [1, 1, 1, 1] r03_merged_an) [(5, .slice out outL outC)] h (r03_merged_K0  K)
theorem r03_merged_b0_eq (a : Option Addr) (aL : Nat) (aC : Nat) (b : Option Addr) (bL : Nat) (bC : Nat) (h : Hp)  (K : Value → Hp → Prop) : r03_merged_b0 a aL aC b bL bC h  K = (
  LoopVC (((none, 0, 0), 0, 0, ()) : (Option Addr × Nat × Nat) × Int × Int × Unit) h (fun (nx0 : (Option Addr × Nat × Nat) × Int × Int × Unit → Hp → Prop) (s1 : (Option Addr × Nat × Nat) × Int × Int × Unit) h1 => r03_merged_b1 s1.1.1 s1.1.2.1 s1.1.2.2 s1.2.1 s1.2.2.1 a aL aC b bL bC h1 nx0 K)) := by kernel_rfl
theorem r03_merged_b1_eq (out : Option Addr) (outL : Nat) (outC : Nat) (i : Int) (k : Int) (a : Option Addr) (aL : Nat) (aC : Nat) (b : Option Addr) (bL : Nat) (bC : Nat) (h : Hp) (nx0 : (Option Addr × Nat × Nat) × Int × Int × Unit → Hp → Prop) (K : Value → Hp → Prop) : r03_merged_b1 out outL outC i k a aL aC b bL bC h nx0 K = (
  cond (decide (i < (aL : Int)))
  (r03_merged_b2 a aL aC b bL bC out outL outC i k h nx0 K)
  (cond (decide (k < (bL : Int)))
  (r03_merged_b2 a aL aC b bL bC out outL outC i k h nx0 K)
  (r03_merged_b3 out outL outC h  K))) := by kernel_rfl
theorem r03_merged_b2_eq (a : Option Addr) (aL : Nat) (aC : Nat) (b : Option Addr) (bL : Nat) (bC : Nat) (out : Option Addr) (outL : Nat) (outC : Nat) (i : Int) (k : Int) (h : Hp) (nx0 : (Option Addr × Nat × Nat) × Int × Int × Unit → Hp → Prop) (K : Value → Hp → Prop) : r03_merged_b2 a aL aC b bL bC out outL outC i k h nx0 K = (
  cond (decide (k = (bL : Int)))
  ((0 ≤ i ∧ i < (aL : Int)) ∧
  NN a fun a1 =>
  ∃ n1 : Int, cell h (a1.add (Int.toNat i * 1)) = some (.int .i64 n1) ∧
  New h (.cells #[.int .i64 n1] 3) fun b1 h2 =>
  appendV Try.prog 38 38 (.slice out outL outC) (.slice (some ⟨b1, 0, none⟩) 1 1) h2 (slK fun a2 l1 c1 h3 =>
  InR (i + 1) ∧
  nx0 ((a2, l1, c1), i + 1, k, ()) h3))
  (cond (decide (i < (aL : Int)))
  ((0 ≤ i ∧ i < (aL : Int)) ∧
  NN a fun a3 =>
  ∃ n2 : Int, cell h (a3.add (Int.toNat i * 1)) = some (.int .i64 n2) ∧
  (0 ≤ k ∧ k < (bL : Int)) ∧
  NN b fun a4 =>
  ∃ n3 : Int, cell h (a4.add (Int.toNat k * 1)) = some (.int .i64 n3) ∧
  cond (decide (n2 < n3))
  ((0 ≤ i ∧ i < (aL : Int)) ∧
  NN a fun a5 =>
  ∃ n4 : Int, cell h (a5.add (Int.toNat i * 1)) = some (.int .i64 n4) ∧
  New h (.cells #[.int .i64 n4] 3) fun b2 h4 =>
  appendV Try.prog 38 38 (.slice out outL outC) (.slice (some ⟨b2, 0, none⟩) 1 1) h4 (slK fun a6 l2 c2 h5 =>
  InR (i + 1) ∧
  nx0 ((a6, l2, c2), i + 1, k, ()) h5))
  ((0 ≤ k ∧ k < (bL : Int)) ∧
  NN b fun a7 =>
  ∃ n5 : Int, cell h (a7.add (Int.toNat k * 1)) = some (.int .i64 n5) ∧
  New h (.cells #[.int .i64 n5] 3) fun b3 h6 =>
  appendV Try.prog 38 38 (.slice out outL outC) (.slice (some ⟨b3, 0, none⟩) 1 1) h6 (slK fun a8 l3 c3 h7 =>
  InR (k + 1) ∧
  nx0 ((a8, l3, c3), i, k + 1, ()) h7)))
  ((0 ≤ k ∧ k < (bL : Int)) ∧
  NN b fun a9 =>
  ∃ n6 : Int, cell h (a9.add (Int.toNat k * 1)) = some (.int .i64 n6) ∧
  New h (.cells #[.int .i64 n6] 3) fun b4 h8 =>
  appendV Try.prog 38 38 (.slice out outL outC) (.slice (some ⟨b4, 0, none⟩) 1 1) h8 (slK fun a10 l4 c4 h9 =>
  InR (k + 1) ∧
  nx0 ((a10, l4, c4), i, k + 1, ()) h9)))) := by kernel_rfl
theorem r03_merged_b3_eq (out : Option Addr) (outL : Nat) (outC : Nat) (h : Hp)  (K : Value → Hp → Prop) : r03_merged_b3 out outL outC h  K = (
  K (.slice out outL outC) h) := by kernel_rfl
theorem r03_merged_call {a : Option Addr} {aL : Nat} {aC : Nat} {b : Option Addr} {bL : Nat} {bC : Nat} {h : Hp} {K : Value → Hp → Prop} (hk : r03_merged_b0 a aL aC b bL bC h K) : HCalls Try.prog 103 #[.slice a aL aC, .slice b bL bC] h K :=
  calls_of_snd r03_merged_an Try.func103 (c := bodyOf Try.f103) rfl Try.ntmps103 (Nat.le_of_ble_eq_true rfl) (snd_3 F_ok F_mixed) hk

/-! ### r03_before -/
def r03_before_an : Ann := .node none (.leaf) (.node (some []) (.node none (.leaf) (.loop [0, 1, 2] [(7, .int .i64)] (.node none (.leaf) (.node (some [0, 1, 2, 7]) (.leaf) (.leaf))))) (.leaf))
def r03_before_K0  (K : Value → Hp → Prop) : Exit → Env → Hp → Prop := retK Try.prog Try.f104.results.toList K
def r03_before_K1  (K : Value → Hp → Prop) : Exit → Env → Hp → Prop := thenE (fun env h => sx_2 Try.prog F 31 (cp [1, 1] (bodyOf Try.f104)) (ap [1, 1] r03_before_an) (rs [] env) h (r03_before_K0  K)) (r03_before_K0  K)
def r03_before_K2  (K : Value → Hp → Prop) : Exit → Env → Hp → Prop := blockE 0 (r03_before_K1  K)
def r03_before_K3 (nx0 : Int × Unit → Hp → Prop) (K : Value → Hp → Prop) : Exit → Env → Hp → Prop := thenE (fun env h => getV [(7, .int .i64)] env fun s => nx0 s h) (r03_before_K2  K)
def r03_before_b0 (a : Option Addr) (aL : Nat) (aC : Nat) (b : Option Addr) (bL : Nat) (bC : Nat) (columns : Int) (h : Hp)  (K : Value → Hp → Prop) : Prop :=
  sx_3 Try.prog F 31 (cp [] (bodyOf Try.f104)) (ap [] r03_before_an) [(0, .slice a aL aC), (1, .slice b bL bC), (2, .int .i64 columns)] h (r03_before_K0  K)
def r03_before_b1 (i : Int) (a : Option Addr) (aL : Nat) (aC : Nat) (b : Option Addr) (bL : Nat) (bC : Nat) (columns : Int) (h : Hp) (nx0 : Int × Unit → Hp → Prop) (K : Value → Hp → Prop) : Prop :=
  sx_2 Try.prog F 31 (cp [1, 0, 1, 2, 2] (bodyOf Try.f104)) (ap [1, 0, 1, 2] r03_before_an) [(7, .int .i64 i), (0, .slice a aL aC), (1, .slice b bL bC), (2, .int .i64 columns)] h (r03_before_K3 nx0 K)
def r03_before_b2 (a : Option Addr) (aL : Nat) (aC : Nat) (b : Option Addr) (bL : Nat) (bC : Nat) (columns : Int) (i : Int) (h : Hp) (nx0 : Int × Unit → Hp → Prop) (K : Value → Hp → Prop) : Prop :=
  sx_1 Try.prog F 31 (cp [1, 0, 1, 2, 2, 1, 1] (bodyOf Try.f104)) (ap [1, 0, 1, 2, 1, 1] r03_before_an) [(0, .slice a aL aC), (1, .slice b bL bC), (2, .int .i64 columns), (7, .int .i64 i)] h (r03_before_K3 nx0 K)
def r03_before_b3  (h : Hp)  (K : Value → Hp → Prop) : Prop :=
  sx_2 Try.prog F 31 (cp [1, 1] (bodyOf Try.f104)) (ap [1, 1] r03_before_an) [] h (r03_before_K0  K)
theorem r03_before_b0_eq (a : Option Addr) (aL : Nat) (aC : Nat) (b : Option Addr) (bL : Nat) (bC : Nat) (columns : Int) (h : Hp)  (K : Value → Hp → Prop) : r03_before_b0 a aL aC b bL bC columns h  K = (
  LoopVC ((0, ()) : Int × Unit) h (fun (nx0 : Int × Unit → Hp → Prop) (s1 : Int × Unit) h1 => r03_before_b1 s1.1 a aL aC b bL bC columns h1 nx0 K)) := by kernel_rfl
theorem r03_before_b1_eq (i : Int) (a : Option Addr) (aL : Nat) (aC : Nat) (b : Option Addr) (bL : Nat) (bC : Nat) (columns : Int) (h : Hp) (nx0 : Int × Unit → Hp → Prop) (K : Value → Hp → Prop) : r03_before_b1 i a aL aC b bL bC columns h nx0 K = (
  cond (decide (i < columns))
  ((0 ≤ i ∧ i < (aL : Int)) ∧
  NN a fun a1 =>
  ∃ n1 : Int, cell h (a1.add (Int.toNat i * 1)) = some (.int .i64 n1) ∧
  (0 ≤ i ∧ i < (bL : Int)) ∧
  NN b fun a2 =>
  ∃ n2 : Int, cell h (a2.add (Int.toNat i * 1)) = some (.int .i64 n2) ∧
  cond (!decide (n1 = n2))
  ((0 ≤ i ∧ i < (aL : Int)) ∧
  NN a fun a3 =>
  ∃ n3 : Int, cell h (a3.add (Int.toNat i * 1)) = some (.int .i64 n3) ∧
  (0 ≤ i ∧ i < (bL : Int)) ∧
  NN b fun a4 =>
  ∃ n4 : Int, cell h (a4.add (Int.toNat i * 1)) = some (.int .i64 n4) ∧
  K (.bool (decide (n3 < n4))) h)
  (r03_before_b2 a aL aC b bL bC columns i h nx0 K))
  (r03_before_b3  h  K)) := by kernel_rfl
theorem r03_before_b2_eq (a : Option Addr) (aL : Nat) (aC : Nat) (b : Option Addr) (bL : Nat) (bC : Nat) (columns : Int) (i : Int) (h : Hp) (nx0 : Int × Unit → Hp → Prop) (K : Value → Hp → Prop) : r03_before_b2 a aL aC b bL bC columns i h nx0 K = (
  InR (i + 1) ∧
  nx0 (i + 1, ()) h) := by kernel_rfl
theorem r03_before_b3_eq  (h : Hp)  (K : Value → Hp → Prop) : r03_before_b3  h  K = (
  K (.bool false) h) := by kernel_rfl
theorem r03_before_call {a : Option Addr} {aL : Nat} {aC : Nat} {b : Option Addr} {bL : Nat} {bC : Nat} {columns : Int} {h : Hp} {K : Value → Hp → Prop} (hk : r03_before_b0 a aL aC b bL bC columns h K) : HCalls Try.prog 104 #[.slice a aL aC, .slice b bL bC, .int .i64 columns] h K :=
  calls_of_snd r03_before_an Try.func104 (c := bodyOf Try.f104) rfl Try.ntmps104 (Nat.le_of_ble_eq_true rfl) (snd_3 F_ok F_mixed) hk

/-! ### r03_occurs -/
def r03_occurs_an : Ann := .node none (.leaf) (.node (some []) (.node none (.leaf) (.loop [0, 1, 2] [(7, .int .i64)] (.node none (.leaf) (.node (some [0, 1, 2, 7]) (.leaf) (.leaf))))) (.leaf))
def r03_occurs_K0  (K : Value → Hp → Prop) : Exit → Env → Hp → Prop := retK Try.prog Try.f105.results.toList K
def r03_occurs_K1  (K : Value → Hp → Prop) : Exit → Env → Hp → Prop := thenE (fun env h => sx_2 Try.prog F 33 (cp [1, 1] (bodyOf Try.f105)) (ap [1, 1] r03_occurs_an) (rs [] env) h (r03_occurs_K0  K)) (r03_occurs_K0  K)
def r03_occurs_K2  (K : Value → Hp → Prop) : Exit → Env → Hp → Prop := blockE 0 (r03_occurs_K1  K)
def r03_occurs_K3 (nx0 : Int × Unit → Hp → Prop) (K : Value → Hp → Prop) : Exit → Env → Hp → Prop := thenE (fun env h => getV [(7, .int .i64)] env fun s => nx0 s h) (r03_occurs_K2  K)
def r03_occurs_b0 (l : Option Addr) (lL : Nat) (lC : Nat) (atv : Int) (p : Option Addr) (pL : Nat) (pC : Nat) (h : Hp)  (K : Value → Hp → Prop) : Prop :=
  sx_3 Try.prog F 33 (cp [] (bodyOf Try.f105)) (ap [] r03_occurs_an) [(0, .slice l lL lC), (1, .int .i64 atv), (2, .slice p pL pC)] h (r03_occurs_K0  K)
def r03_occurs_b1 (i : Int) (l : Option Addr) (lL : Nat) (lC : Nat) (atv : Int) (p : Option Addr) (pL : Nat) (pC : Nat) (h : Hp) (nx0 : Int × Unit → Hp → Prop) (K : Value → Hp → Prop) : Prop :=
  sx_2 Try.prog F 33 (cp [1, 0, 1, 2, 2] (bodyOf Try.f105)) (ap [1, 0, 1, 2] r03_occurs_an) [(7, .int .i64 i), (0, .slice l lL lC), (1, .int .i64 atv), (2, .slice p pL pC)] h (r03_occurs_K3 nx0 K)
def r03_occurs_b2 (l : Option Addr) (lL : Nat) (lC : Nat) (atv : Int) (p : Option Addr) (pL : Nat) (pC : Nat) (i : Int) (h : Hp) (nx0 : Int × Unit → Hp → Prop) (K : Value → Hp → Prop) : Prop :=
  sx_1 Try.prog F 33 (cp [1, 0, 1, 2, 2, 1, 1] (bodyOf Try.f105)) (ap [1, 0, 1, 2, 1, 1] r03_occurs_an) [(0, .slice l lL lC), (1, .int .i64 atv), (2, .slice p pL pC), (7, .int .i64 i)] h (r03_occurs_K3 nx0 K)
def r03_occurs_b3  (h : Hp)  (K : Value → Hp → Prop) : Prop :=
  sx_2 Try.prog F 33 (cp [1, 1] (bodyOf Try.f105)) (ap [1, 1] r03_occurs_an) [] h (r03_occurs_K0  K)
theorem r03_occurs_b0_eq (l : Option Addr) (lL : Nat) (lC : Nat) (atv : Int) (p : Option Addr) (pL : Nat) (pC : Nat) (h : Hp)  (K : Value → Hp → Prop) : r03_occurs_b0 l lL lC atv p pL pC h  K = (
  LoopVC ((0, ()) : Int × Unit) h (fun (nx0 : Int × Unit → Hp → Prop) (s1 : Int × Unit) h1 => r03_occurs_b1 s1.1 l lL lC atv p pL pC h1 nx0 K)) := by kernel_rfl
theorem r03_occurs_b1_eq (i : Int) (l : Option Addr) (lL : Nat) (lC : Nat) (atv : Int) (p : Option Addr) (pL : Nat) (pC : Nat) (h : Hp) (nx0 : Int × Unit → Hp → Prop) (K : Value → Hp → Prop) : r03_occurs_b1 i l lL lC atv p pL pC h nx0 K = (
  cond (decide (i < (pL : Int)))
  (InR (atv + i) ∧
  cond (decide ((lL : Int) ≤ (atv + i)))
  (K (.bool false) h)
  (InR (atv + i) ∧
  (0 ≤ atv + i ∧ atv + i < (lL : Int)) ∧
  NN l fun a1 =>
  ∃ n1 : Int, cell h (a1.add (Int.toNat (atv + i) * 1)) = some (.int .i64 n1) ∧
  (0 ≤ i ∧ i < (pL : Int)) ∧
  NN p fun a2 =>
  ∃ n2 : Int, cell h (a2.add (Int.toNat i * 1)) = some (.int .i64 n2) ∧
  cond (!decide (n1 = n2))
  (K (.bool false) h)
  (r03_occurs_b2 l lL lC atv p pL pC i h nx0 K)))
  (r03_occurs_b3  h  K)) := by kernel_rfl
theorem r03_occurs_b2_eq (l : Option Addr) (lL : Nat) (lC : Nat) (atv : Int) (p : Option Addr) (pL : Nat) (pC : Nat) (i : Int) (h : Hp) (nx0 : Int × Unit → Hp → Prop) (K : Value → Hp → Prop) : r03_occurs_b2 l lL lC atv p pL pC i h nx0 K = (
  InR (i + 1) ∧
  nx0 (i + 1, ()) h) := by kernel_rfl
theorem r03_occurs_b3_eq  (h : Hp)  (K : Value → Hp → Prop) : r03_occurs_b3  h  K = (
  K (.bool true) h) := by kernel_rfl
theorem r03_occurs_call {l : Option Addr} {lL : Nat} {lC : Nat} {atv : Int} {p : Option Addr} {pL : Nat} {pC : Nat} {h : Hp} {K : Value → Hp → Prop} (hk : r03_occurs_b0 l lL lC atv p pL pC h K) : HCalls Try.prog 105 #[.slice l lL lC, .int .i64 atv, .slice p pL pC] h K :=
  calls_of_snd r03_occurs_an Try.func105 (c := bodyOf Try.f105) rfl Try.ntmps105 (Nat.le_of_ble_eq_true rfl) (snd_3 F_ok F_mixed) hk

/-! ### slices_rotateLeft_int -/
def slices_rotateLeft_int_an : Ann := .leaf
def slices_rotateLeft_int_K0  (K : Value → Hp → Prop) : Exit → Env → Hp → Prop := retK Try.prog Try.f106.results.toList K
def slices_rotateLeft_int_b0 (s : Option Addr) (sL : Nat) (sC : Nat) (r : Int) (h : Hp)  (K : Value → Hp → Prop) : Prop :=
  sx_1 Try.prog F 14 (cp [] (bodyOf Try.f106)) (ap [] slices_rotateLeft_int_an) [(0, .slice s sL sC), (1, .int .i64 r)] h (slices_rotateLeft_int_K0  K)
theorem slices_rotateLeft_int_b0_eq (s : Option Addr) (sL : Nat) (sC : Nat) (r : Int) (h : Hp)  (K : Value → Hp → Prop) : slices_rotateLeft_int_b0 s sL sC r h  K = (
  (0 ≤ (0 : Int) ∧ (0 : Int) ≤ r ∧ r ≤ (sC : Int)) ∧
  HCalls Try.prog 109 #[.slice (subAddr s sC (Int.toNat (0 : Int)) 1) (Int.toNat r - Int.toNat (0 : Int)) (sC - Int.toNat (0 : Int))] h fun v1 h1 => v1 = .tuple #[] ∧
  (0 ≤ r ∧ r ≤ (sL : Int) ∧ (sL : Int) ≤ (sC : Int)) ∧
  HCalls Try.prog 109 #[.slice (subAddr s sC (Int.toNat r) 1) (Int.toNat (sL : Int) - Int.toNat r) (sC - Int.toNat r)] h1 fun v2 h2 => v2 = .tuple #[] ∧
  HCalls Try.prog 109 #[.slice s sL sC] h2 fun v3 h3 => v3 = .tuple #[] ∧
  K (.tuple #[]) h3) := by kernel_rfl
theorem slices_rotateLeft_int_call {s : Option Addr} {sL : Nat} {sC : Nat} {r : Int} {h : Hp} {K : Value → Hp → Prop} (hk : slices_rotateLeft_int_b0 s sL sC r h K) : HCalls Try.prog 106 #[.slice s sL sC, .int .i64 r] h K :=
  calls_of_snd slices_rotateLeft_int_an Try.func106 (c := bodyOf Try.f106) rfl Try.ntmps106 (Nat.le_of_ble_eq_true rfl) (snd_1 F_ok F_mixed) hk

/-! ### slices_rotateLeft_btree_node -/
def slices_rotateLeft_btree_node_an : Ann := .leaf
def slices_rotateLeft_btree_node_K0  (K : Value → Hp → Prop) : Exit → Env → Hp → Prop := retK Try.prog Try.f107.results.toList K
def slices_rotateLeft_btree_node_b0 (s : Option Addr) (sL : Nat) (sC : Nat) (r : Int) (h : Hp)  (K : Value → Hp → Prop) : Prop :=
  sx_1 Try.prog F 14 (cp [] (bodyOf Try.f107)) (ap [] slices_rotateLeft_btree_node_an) [(0, .slice s sL sC), (1, .int .i64 r)] h (slices_rotateLeft_btree_node_K0  K)
theorem slices_rotateLeft_btree_node_b0_eq (s : Option Addr) (sL : Nat) (sC : Nat) (r : Int) (h : Hp)  (K : Value → Hp → Prop) : slices_rotateLeft_btree_node_b0 s sL sC r h  K = (
  (0 ≤ (0 : Int) ∧ (0 : Int) ≤ r ∧ r ≤ (sC : Int)) ∧
  HCalls Try.prog 110 #[.slice (subAddr s sC (Int.toNat (0 : Int)) 1) (Int.toNat r - Int.toNat (0 : Int)) (sC - Int.toNat (0 : Int))] h fun v1 h1 => v1 = .tuple #[] ∧
  (0 ≤ r ∧ r ≤ (sL : Int) ∧ (sL : Int) ≤ (sC : Int)) ∧
  HCalls Try.prog 110 #[.slice (subAddr s sC (Int.toNat r) 1) (Int.toNat (sL : Int) - Int.toNat r) (sC - Int.toNat r)] h1 fun v2 h2 => v2 = .tuple #[] ∧
  HCalls Try.prog 110 #[.slice s sL sC] h2 fun v3 h3 => v3 = .tuple #[] ∧
  K (.tuple #[]) h3) := by kernel_rfl
theorem slices_rotateLeft_btree_node_call {s : Option Addr} {sL : Nat} {sC : Nat} {r : Int} {h : Hp} {K : Value → Hp → Prop} (hk : slices_rotateLeft_btree_node_b0 s sL sC r h K) : HCalls Try.prog 107 #[.slice s sL sC, .int .i64 r] h K :=
  calls_of_snd slices_rotateLeft_btree_node_an Try.func107 (c := bodyOf Try.f107) rfl Try.ntmps107 (Nat.le_of_ble_eq_true rfl) (snd_1 F_ok F_mixed) hk

/-! ### cmp_isNaN_int -/
def cmp_isNaN_int_an : Ann := .leaf
def cmp_isNaN_int_K0  (K : Value → Hp → Prop) : Exit → Env → Hp → Prop := retK Try.prog Try.f108.results.toList K
def cmp_isNaN_int_b0 (x : Int) (h : Hp)  (K : Value → Hp → Prop) : Prop :=
  sx_1 Try.prog F 6 (cp [] (bodyOf Try.f108)) (ap [] cmp_isNaN_int_an) [(0, .int .i64 x)] h (cmp_isNaN_int_K0  K)
theorem cmp_isNaN_int_b0_eq (x : Int) (h : Hp)  (K : Value → Hp → Prop) : cmp_isNaN_int_b0 x h  K = (
  K (.bool (!decide (x = x))) h) := by kernel_rfl
theorem cmp_isNaN_int_call {x : Int} {h : Hp} {K : Value → Hp → Prop} (hk : cmp_isNaN_int_b0 x h K) : HCalls Try.prog 108 #[.int .i64 x] h K :=
  calls_of_snd cmp_isNaN_int_an Try.func108 (c := bodyOf Try.f108) rfl Try.ntmps108 (Nat.le_of_ble_eq_true rfl) (snd_1 F_ok F_mixed) hk

/-! ### slices_Reverse_Sint_int -/
def slices_Reverse_Sint_int_an : Ann := .node none (.leaf) (.loop [0] [(2, .int .i64), (3, .int .i64)] (.node none (.leaf) (.node (some [0, 2, 3]) (.plan (.qu 0 (.qu 1 (.qu 2 (.qu 3 (.qu 4 (.qu 5 (.qu 6 (.qu 7 (.qu 8 (.qu 9 (.qu 10 (.qu 11 (.qu 12 (.wo 13 (.qu 14 (.wo 15 .fin .no)) .no))))))))))))))) (.leaf))))
def slices_Reverse_Sint_int_K0  (K : Value → Hp → Prop) : Exit → Env → Hp → Prop := retK Try.prog Try.f109.results.toList K
def slices_Reverse_Sint_int_K1  (K : Value → Hp → Prop) : Exit → Env → Hp → Prop := blockE 0 (slices_Reverse_Sint_int_K0  K)
def slices_Reverse_Sint_int_K2 (nx0 : Int × Int × Unit → Hp → Prop) (K : Value → Hp → Prop) : Exit → Env → Hp → Prop := thenE (fun env h => getV [(2, .int .i64), (3, .int .i64)] env fun s => nx0 s h) (slices_Reverse_Sint_int_K1  K)
def slices_Reverse_Sint_int_b0 (s : Option Addr) (sL : Nat) (sC : Nat) (h : Hp)  (K : Value → Hp → Prop) : Prop :=
  sx_3 Try.prog F 28 (cp [] (bodyOf Try.f109)) (ap [] slices_Reverse_Sint_int_an) [(0, .slice s sL sC)] h (slices_Reverse_Sint_int_K0  K)
def slices_Reverse_Sint_int_b1 (i : Int) (j : Int) (s : Option Addr) (sL : Nat) (sC : Nat) (h : Hp) (nx0 : Int × Int × Unit → Hp → Prop) (K : Value → Hp → Prop) : Prop :=
  sx_2 Try.prog F 28 (cp [1, 2, 2] (bodyOf Try.f109)) (ap [1, 2] slices_Reverse_Sint_int_an) [(2, .int .i64 i), (3, .int .i64 j), (0, .slice s sL sC)] h (slices_Reverse_Sint_int_K2 nx0 K)
def slices_Reverse_Sint_int_b2 (s : Option Addr) (sL : Nat) (sC : Nat) (i : Int) (j : Int) (h : Hp) (nx0 : Int × Int × Unit → Hp → Prop) (K : Value → Hp → Prop) : Prop :=
  sx_1 Try.prog F 28 (cp [1, 2, 2, 1, 1] (bodyOf Try.f109)) (ap [1, 2, 1, 1] slices_Reverse_Sint_int_an) [(0, .slice s sL sC), (2, .int .i64 i), (3, .int .i64 j)] h (slices_Reverse_Sint_int_K2 nx0 K)
theorem slices_Reverse_Sint_int_b0_eq (s : Option Addr) (sL : Nat) (sC : Nat) (h : Hp)  (K : Value → Hp → Prop) : slices_Reverse_Sint_int_b0 s sL sC h  K = (
  InR ((sL : Int) - 1) ∧
  LoopVC ((0, (sL : Int) - 1, ()) : Int × Int × Unit) h (fun (nx0 : Int × Int × Unit → Hp → Prop) (s1 : Int × Int × Unit) h1 => slices_Reverse_Sint_int_b1 s1.1 s1.2.1 s sL sC h1 nx0 K)) := by kernel_rfl
theorem slices_Reverse_Sint_int_b1_eq (i : Int) (j : Int) (s : Option Addr) (sL : Nat) (sC : Nat) (h : Hp) (nx0 : Int × Int × Unit → Hp → Prop) (K : Value → Hp → Prop) : slices_Reverse_Sint_int_b1 i j s sL sC h nx0 K = (
  cond (decide (i < j))
  ((0 ≤ j ∧ j < (sL : Int)) ∧
  NN s fun a1 =>
  ∃ n1 : Int, cell h (a1.add (Int.toNat j * 1)) = some (.int .i64 n1) ∧
  (0 ≤ i ∧ i < (sL : Int)) ∧
  NN s fun a2 =>
  ∃ n2 : Int, cell h (a2.add (Int.toNat i * 1)) = some (.int .i64 n2) ∧
  (0 ≤ i ∧ i < (sL : Int)) ∧
  NN s fun a3 =>
  Wr h (a3.add (Int.toNat i * 1)) (.int .i64 n1) fun h2 =>
  (0 ≤ j ∧ j < (sL : Int)) ∧
  NN s fun a4 =>
  Wr h2 (a4.add (Int.toNat j * 1)) (.int .i64 n2) fun h3 =>
  slices_Reverse_Sint_int_b2 s sL sC i j h3 nx0 K)
  (K (.tuple #[]) h)) := by kernel_rfl
theorem slices_Reverse_Sint_int_b2_eq (s : Option Addr) (sL : Nat) (sC : Nat) (i : Int) (j : Int) (h : Hp) (nx0 : Int × Int × Unit → Hp → Prop) (K : Value → Hp → Prop) : slices_Reverse_Sint_int_b2 s sL sC i j h nx0 K = (
  InR (i + 1) ∧
  InR (j - 1) ∧
  nx0 (i + 1, j - 1, ()) h) := by kernel_rfl
theorem slices_Reverse_Sint_int_call {s : Option Addr} {sL : Nat} {sC : Nat} {h : Hp} {K : Value → Hp → Prop} (hk : slices_Reverse_Sint_int_b0 s sL sC h K) : HCalls Try.prog 109 #[.slice s sL sC] h K :=
  calls_of_snd slices_Reverse_Sint_int_an Try.func109 (c := bodyOf Try.f109) rfl Try.ntmps109 (Nat.le_of_ble_eq_true rfl) (snd_3 F_ok F_mixed) hk

/-! ### slices_Reverse_btree_node_btree_node -/
def slices_Reverse_btree_node_btree_node_an : Ann := .node none (.leaf) (.loop [0] [(2, .int .i64), (3, .int .i64)] (.node none (.leaf) (.node (some [0, 2, 3]) (.plan (.qu 0 (.qu 1 (.qu 2 (.qu 3 (.qu 4 (.qu 5 (.qu 6 (.qu 7 (.qu 8 (.qu 9 (.qu 10 (.qu 11 (.qu 12 (.wo 13 (.qu 14 (.wo 15 .fin .no)) .no))))))))))))))) (.leaf))))
def slices_Reverse_btree_node_btree_node_K0  (K : Value → Hp → Prop) : Exit → Env → Hp → Prop := retK Try.prog Try.f110.results.toList K
def slices_Reverse_btree_node_btree_node_K1  (K : Value → Hp → Prop) : Exit → Env → Hp → Prop := blockE 0 (slices_Reverse_btree_node_btree_node_K0  K)
def slices_Reverse_btree_node_btree_node_K2 (nx0 : Int × Int × Unit → Hp → Prop) (K : Value → Hp → Prop) : Exit → Env → Hp → Prop := thenE (fun env h => getV [(2, .int .i64), (3, .int .i64)] env fun s => nx0 s h) (slices_Reverse_btree_node_btree_node_K1  K)
def slices_Reverse_btree_node_btree_node_b0 (s : Option Addr) (sL : Nat) (sC : Nat) (h : Hp)  (K : Value → Hp → Prop) : Prop :=
  sx_3 Try.prog F 28 (cp [] (bodyOf Try.f110)) (ap [] slices_Reverse_btree_node_btree_node_an) [(0, .slice s sL sC)] h (slices_Reverse_btree_node_btree_node_K0  K)
def slices_Reverse_btree_node_btree_node_b1 (i : Int) (j : Int) (s : Option Addr) (sL : Nat) (sC : Nat) (h : Hp) (nx0 : Int × Int × Unit → Hp → Prop) (K : Value → Hp → Prop) : Prop :=
  sx_2 Try.prog F 28 (cp [1, 2, 2] (bodyOf Try.f110)) (ap [1, 2] slices_Reverse_btree_node_btree_node_an) [(2, .int .i64 i), (3, .int .i64 j), (0, .slice s sL sC)] h (slices_Reverse_btree_node_btree_node_K2 nx0 K)
def slices_Reverse_btree_node_btree_node_b2 (s : Option Addr) (sL : Nat) (sC : Nat) (i : Int) (j : Int) (h : Hp) (nx0 : Int × Int × Unit → Hp → Prop) (K : Value → Hp → Prop) : Prop :=
  sx_1 Try.prog F 28 (cp [1, 2, 2, 1, 1] (bodyOf Try.f110)) (ap [1, 2, 1, 1] slices_Reverse_btree_node_btree_node_an) [(0, .slice s sL sC), (2, .int .i64 i), (3, .int .i64 j)] h (slices_Reverse_btree_node_btree_node_K2 nx0 K)
theorem slices_Reverse_btree_node_btree_node_b0_eq (s : Option Addr) (sL : Nat) (sC : Nat) (h : Hp)  (K : Value → Hp → Prop) : slices_Reverse_btree_node_btree_node_b0 s sL sC h  K = (
  InR ((sL : Int) - 1) ∧
  LoopVC ((0, (sL : Int) - 1, ()) : Int × Int × Unit) h (fun (nx0 : Int × Int × Unit → Hp → Prop) (s1 : Int × Int × Unit) h1 => slices_Reverse_btree_node_btree_node_b1 s1.1 s1.2.1 s sL sC h1 nx0 K)) := by kernel_rfl
theorem slices_Reverse_btree_node_btree_node_b1_eq (i : Int) (j : Int) (s : Option Addr) (sL : Nat) (sC : Nat) (h : Hp) (nx0 : Int × Int × Unit → Hp → Prop) (K : Value → Hp → Prop) : slices_Reverse_btree_node_btree_node_b1 i j s sL sC h nx0 K = (
  cond (decide (i < j))
  ((0 ≤ j ∧ j < (sL : Int)) ∧
  NN s fun a1 =>
  ∃ p1 : Option Addr, cell h (a1.add (Int.toNat j * 1)) = some (.pointer p1) ∧
  (0 ≤ i ∧ i < (sL : Int)) ∧
  NN s fun a2 =>
  ∃ p2 : Option Addr, cell h (a2.add (Int.toNat i * 1)) = some (.pointer p2) ∧
  (0 ≤ i ∧ i < (sL : Int)) ∧
  NN s fun a3 =>
  Wr h (a3.add (Int.toNat i * 1)) (.pointer p1) fun h2 =>
  (0 ≤ j ∧ j < (sL : Int)) ∧
  NN s fun a4 =>
  Wr h2 (a4.add (Int.toNat j * 1)) (.pointer p2) fun h3 =>
  slices_Reverse_btree_node_btree_node_b2 s sL sC i j h3 nx0 K)
  (K (.tuple #[]) h)) := by kernel_rfl
theorem slices_Reverse_btree_node_btree_node_b2_eq (s : Option Addr) (sL : Nat) (sC : Nat) (i : Int) (j : Int) (h : Hp) (nx0 : Int × Int × Unit → Hp → Prop) (K : Value → Hp → Prop) : slices_Reverse_btree_node_btree_node_b2 s sL sC i j h nx0 K = (
  InR (i + 1) ∧
  InR (j - 1) ∧
  nx0 (i + 1, j - 1, ()) h) := by kernel_rfl
theorem slices_Reverse_btree_node_btree_node_call {s : Option Addr} {sL : Nat} {sC : Nat} {h : Hp} {K : Value → Hp → Prop} (hk : slices_Reverse_btree_node_btree_node_b0 s sL sC h K) : HCalls Try.prog 110 #[.slice s sL sC] h K :=
  calls_of_snd slices_Reverse_btree_node_btree_node_an Try.func110 (c := bodyOf Try.f110) rfl Try.ntmps110 (Nat.le_of_ble_eq_true rfl) (snd_3 F_ok F_mixed) hk

end Go.Proofs.Ytaemnjblcpknpaa
