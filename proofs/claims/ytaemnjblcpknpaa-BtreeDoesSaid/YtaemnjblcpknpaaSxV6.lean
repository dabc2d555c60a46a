/- Plain statements of what each block of code of this seat asks; printed by a program, checked by Lean. -/
import Derived.Test.YtaemnjblcpknpaaSxV0
set_option maxRecDepth 10000
namespace Go.Proofs.Ytaemnjblcpknpaa
open Go Go.Sx

/-! ### r03_yield -/
def r03_yield_an : Ann := .leaf
def r03_yield_K0  (K : Value → Hp → Prop) : Exit → Env → Hp → Prop := retK Try.prog Try.f97.results.toList K
def r03_yield_b0 (s_0 : Int) (s_1 : Option Addr) (s_1L : Nat) (s_1C : Nat) (nv : Int) (h : Hp)  (K : Value → Hp → Prop) : Prop :=
  sx_1 Try.prog F 9 (cp [] (bodyOf Try.f97)) (ap [] r03_yield_an) [(0, .agg #[.int .i64 s_0, .slice s_1 s_1L s_1C]), (1, .int .i64 nv)] h (r03_yield_K0  K)
theorem r03_yield_b0_eq (s_0 : Int) (s_1 : Option Addr) (s_1L : Nat) (s_1C : Nat) (nv : Int) (h : Hp)  (K : Value → Hp → Prop) : r03_yield_b0 s_0 s_1 s_1L s_1C nv h  K = (
  New h (.cells #[.int .i64 s_0, .slice s_1 s_1L s_1C] 108) fun b1 h1 =>
  New h1 (.cells #[.int .i64 0, .slice none 0 0] 108) fun b2 h2 =>
  New h2 (.cells #[.int .i64 0, .int .i64 0, .slice none 0 0] 61) fun b3 h3 =>
  ∃ n1 : Int, ∃ (a1 : Option Addr) (L1 C1 : Nat), cell h3 ⟨b1, 0, none⟩ = some (.int .i64 n1) ∧
  cell h3 ((⟨b1, 0, none⟩ : Addr).add 1) = some (.slice a1 L1 C1) ∧
  Wr h3 ⟨b2, 0, none⟩ (.int .i64 n1) fun h4 =>
  Wr h4 ((⟨b2, 0, none⟩ : Addr).add 1) (.slice a1 L1 C1) fun h5 =>
  Wr h5 ⟨b3, 0, none⟩ (.int .i64 0) fun h6 =>
  Wr h6 ((⟨b3, 0, none⟩ : Addr).add 1) (.int .i64 nv) fun h7 =>
  Wr h7 ((⟨b3, 0, none⟩ : Addr).add 2) (.slice none 0 0) fun h8 =>
  ∃ r1 : Int, ∃ (r2 : Option Addr) (rL1 rC1 : Nat), cell h8 ⟨b2, 0, none⟩ = some (.int .i64 r1) ∧
  cell h8 ((⟨b2, 0, none⟩ : Addr).add 1) = some (.slice r2 rL1 rC1) ∧
  ∃ r3 : Int, ∃ r4 : Int, ∃ (r5 : Option Addr) (rL2 rC2 : Nat), cell h8 ⟨b3, 0, none⟩ = some (.int .i64 r3) ∧
  cell h8 ((⟨b3, 0, none⟩ : Addr).add 1) = some (.int .i64 r4) ∧
  cell h8 ((⟨b3, 0, none⟩ : Addr).add 2) = some (.slice r5 rL2 rC2) ∧
  K (.tuple #[.agg #[.int .i64 r1, .slice r2 rL1 rC1], .agg #[.int .i64 r3, .int .i64 r4, .slice r5 rL2 rC2]]) h8) := by kernel_rfl
theorem r03_yield_call {s_0 : Int} {s_1 : Option Addr} {s_1L : Nat} {s_1C : Nat} {nv : Int} {h : Hp} {K : Value → Hp → Prop} (hk : r03_yield_b0 s_0 s_1 s_1L s_1C nv h K) : HCalls Try.prog 97 #[.agg #[.int .i64 s_0, .slice s_1 s_1L s_1C], .int .i64 nv] h K :=
  calls_of_snd r03_yield_an Try.func97 (c := bodyOf Try.f97) rfl Try.ntmps97 (Nat.le_of_ble_eq_true rfl) (snd_1 F_ok F_mixed) hk

/-! ### r03_fail -/
def r03_fail_an : Ann := .leaf
def r03_fail_K0  (K : Value → Hp → Prop) : Exit → Env → Hp → Prop := retK Try.prog Try.f98.results.toList K
def r03_fail_b0 (s_0 : Int) (s_1 : Option Addr) (s_1L : Nat) (s_1C : Nat) (e : Int) (h : Hp)  (K : Value → Hp → Prop) : Prop :=
  sx_1 Try.prog F 9 (cp [] (bodyOf Try.f98)) (ap [] r03_fail_an) [(0, .agg #[.int .i64 s_0, .slice s_1 s_1L s_1C]), (1, .int .i64 e)] h (r03_fail_K0  K)
theorem r03_fail_b0_eq (s_0 : Int) (s_1 : Option Addr) (s_1L : Nat) (s_1C : Nat) (e : Int) (h : Hp)  (K : Value → Hp → Prop) : r03_fail_b0 s_0 s_1 s_1L s_1C e h  K = (
  New h (.cells #[.int .i64 s_0, .slice s_1 s_1L s_1C] 108) fun b1 h1 =>
  New h1 (.cells #[.int .i64 0, .slice none 0 0] 108) fun b2 h2 =>
  New h2 (.cells #[.int .i64 0, .int .i64 0, .slice none 0 0] 61) fun b3 h3 =>
  ∃ n1 : Int, ∃ (a1 : Option Addr) (L1 C1 : Nat), cell h3 ⟨b1, 0, none⟩ = some (.int .i64 n1) ∧
  cell h3 ((⟨b1, 0, none⟩ : Addr).add 1) = some (.slice a1 L1 C1) ∧
  Wr h3 ⟨b2, 0, none⟩ (.int .i64 n1) fun h4 =>
  Wr h4 ((⟨b2, 0, none⟩ : Addr).add 1) (.slice a1 L1 C1) fun h5 =>
  Wr h5 ⟨b3, 0, none⟩ (.int .i64 e) fun h6 =>
  Wr h6 ((⟨b3, 0, none⟩ : Addr).add 1) (.int .i64 0) fun h7 =>
  Wr h7 ((⟨b3, 0, none⟩ : Addr).add 2) (.slice none 0 0) fun h8 =>
  ∃ r1 : Int, ∃ (r2 : Option Addr) (rL1 rC1 : Nat), cell h8 ⟨b2, 0, none⟩ = some (.int .i64 r1) ∧
  cell h8 ((⟨b2, 0, none⟩ : Addr).add 1) = some (.slice r2 rL1 rC1) ∧
  ∃ r3 : Int, ∃ r4 : Int, ∃ (r5 : Option Addr) (rL2 rC2 : Nat), cell h8 ⟨b3, 0, none⟩ = some (.int .i64 r3) ∧
  cell h8 ((⟨b3, 0, none⟩ : Addr).add 1) = some (.int .i64 r4) ∧
  cell h8 ((⟨b3, 0, none⟩ : Addr).add 2) = some (.slice r5 rL2 rC2) ∧
  K (.tuple #[.agg #[.int .i64 r1, .slice r2 rL1 rC1], .agg #[.int .i64 r3, .int .i64 r4, .slice r5 rL2 rC2]]) h8) := by kernel_rfl
theorem r03_fail_call {s_0 : Int} {s_1 : Option Addr} {s_1L : Nat} {s_1C : Nat} {e : Int} {h : Hp} {K : Value → Hp → Prop} (hk : r03_fail_b0 s_0 s_1 s_1L s_1C e h K) : HCalls Try.prog 98 #[.agg #[.int .i64 s_0, .slice s_1 s_1L s_1C], .int .i64 e] h K :=
  calls_of_snd r03_fail_an Try.func98 (c := bodyOf Try.f98) rfl Try.ntmps98 (Nat.le_of_ble_eq_true rfl) (snd_1 F_ok F_mixed) hk

/-! ### r03_put -/
def r03_put_an : Ann := .node none (.leaf) (.node none (.leaf) (.node none (.plan (.qu 0 (.qu 1 (.qu 4 (.qu 5 (.qu 6 (.wo 2 (.wo 3 (.wo 7 (.wo 8 .fin .no) .no) .no) .no))))))) (.leaf)))
def r03_put_K0  (K : Value → Hp → Prop) : Exit → Env → Hp → Prop := retK Try.prog Try.f99.results.toList K
def r03_put_b0 (l : Option Addr) (lL : Nat) (lC : Nat) (i : Int) (x : Option Addr) (xL : Nat) (xC : Nat) (h : Hp)  (K : Value → Hp → Prop) : Prop :=
  sx_1 Try.prog F 21 (cp [] (bodyOf Try.f99)) (ap [] r03_put_an) [(0, .slice l lL lC), (1, .int .i64 i), (2, .slice x xL xC)] h (r03_put_K0  K)
theorem r03_put_b0_eq (l : Option Addr) (lL : Nat) (lC : Nat) (i : Int) (x : Option Addr) (xL : Nat) (xC : Nat) (h : Hp)  (K : Value → Hp → Prop) : r03_put_b0 l lL lC i x xL xC h  K = (
  New h (.cells #[] 38) fun b1 h1 =>
  (0 ≤ (0 : Int) ∧ (0 : Int) ≤ i ∧ i ≤ (lC : Int)) ∧
  appendV Try.prog 82 82 (.slice (some ⟨b1, 0, none⟩) 0 0) (.slice (subAddr l lC (Int.toNat (0 : Int)) 1) (Int.toNat i - Int.toNat (0 : Int)) (lC - Int.toNat (0 : Int))) h1 (slK fun a1 l1 c1 h2 =>
  (0 ≤ i ∧ i ≤ (lL : Int) ∧ (lL : Int) ≤ (lC : Int)) ∧
  New h2 (.cells #[.slice x xL xC] 38) fun b2 h3 =>
  ((0 ≤ i ∧ i ≤ (lL : Int) ∧ (lL : Int) ≤ (lC : Int)) ∧
  (.slice (subAddr l lC (Int.toNat i) 1) (Int.toNat (lL : Int) - Int.toNat i) (lC - Int.toNat i) : Value) = .slice (subAddr l lC (Int.toNat i) 1) (Int.toNat (lL : Int) - Int.toNat i) (lC - Int.toNat i)) ∧
  appendV Try.prog 82 82 (.slice a1 l1 c1) (.slice (some ⟨b2, 0, none⟩) 1 1) h3 (slK fun a2 l2 c2 h4 =>
  ((0 ≤ i ∧ i ≤ (lL : Int) ∧ (lL : Int) ≤ (lC : Int)) ∧
  (.slice (subAddr l lC (Int.toNat i) 1) (Int.toNat (lL : Int) - Int.toNat i) (lC - Int.toNat i) : Value) = .slice (subAddr l lC (Int.toNat i) 1) (Int.toNat (lL : Int) - Int.toNat i) (lC - Int.toNat i)) ∧
  appendV Try.prog 82 82 (.slice a2 l2 c2) (.slice (subAddr l lC (Int.toNat i) 1) (Int.toNat (lL : Int) - Int.toNat i) (lC - Int.toNat i)) h4 (slK fun a3 l3 c3 h5 =>
  K (.slice a3 l3 c3) h5)))) := by kernel_rfl
theorem r03_put_call {l : Option Addr} {lL : Nat} {lC : Nat} {i : Int} {x : Option Addr} {xL : Nat} {xC : Nat} {h : Hp} {K : Value → Hp → Prop} (hk : r03_put_b0 l lL lC i x xL xC h K) : HCalls Try.prog 99 #[.slice l lL lC, .int .i64 i, .slice x xL xC] h K :=
  calls_of_snd r03_put_an Try.func99 (c := bodyOf Try.f99) rfl Try.ntmps99 (Nat.le_of_ble_eq_true rfl) (snd_1 F_ok F_mixed) hk

/-! ### r03_cut -/
def r03_cut_an : Ann := .node none (.leaf) (.node none (.plan (.qu 1 (.qu 2 (.qu 3 (.qu 5 (.qu 6 (.qu 7 (.qu 8 (.wo 0 (.wo 4 (.wo 9 (.wo 10 .fin .no) .no) .no) .no))))))))) (.leaf))
def r03_cut_K0  (K : Value → Hp → Prop) : Exit → Env → Hp → Prop := retK Try.prog Try.f100.results.toList K
def r03_cut_b0 (l : Option Addr) (lL : Nat) (lC : Nat) (i : Int) (h : Hp)  (K : Value → Hp → Prop) : Prop :=
  sx_1 Try.prog F 15 (cp [] (bodyOf Try.f100)) (ap [] r03_cut_an) [(0, .slice l lL lC), (1, .int .i64 i)] h (r03_cut_K0  K)
theorem r03_cut_b0_eq (l : Option Addr) (lL : Nat) (lC : Nat) (i : Int) (h : Hp)  (K : Value → Hp → Prop) : r03_cut_b0 l lL lC i h  K = (
  (0 ≤ (0 : Int) ∧ (0 : Int) ≤ i ∧ i ≤ (lC : Int)) ∧
  InR (i + 1) ∧
  (0 ≤ i + 1 ∧ i + 1 ≤ (lL : Int) ∧ (lL : Int) ≤ (lC : Int)) ∧
  New h (.cells #[] 38) fun b1 h1 =>
  ((0 ≤ i + 1 ∧ i + 1 ≤ (lL : Int) ∧ (lL : Int) ≤ (lC : Int)) ∧
  (.slice (subAddr l lC (Int.toNat (i + 1)) 1) (Int.toNat (lL : Int) - Int.toNat (i + 1)) (lC - Int.toNat (i + 1)) : Value) = .slice (subAddr l lC (Int.toNat (i + 1)) 1) (Int.toNat (lL : Int) - Int.toNat (i + 1)) (lC - Int.toNat (i + 1))) ∧
  ((0 ≤ (0 : Int) ∧ (0 : Int) ≤ i ∧ i ≤ (lC : Int)) ∧
  (.slice (subAddr l lC (Int.toNat (0 : Int)) 1) (Int.toNat i - Int.toNat (0 : Int)) (lC - Int.toNat (0 : Int)) : Value) = .slice (subAddr l lC (Int.toNat (0 : Int)) 1) (Int.toNat i - Int.toNat (0 : Int)) (lC - Int.toNat (0 : Int))) ∧
  appendV Try.prog 82 82 (.slice (some ⟨b1, 0, none⟩) 0 0) (.slice (subAddr l lC (Int.toNat (0 : Int)) 1) (Int.toNat i - Int.toNat (0 : Int)) (lC - Int.toNat (0 : Int))) h1 (slK fun a1 l1 c1 h2 =>
  ((0 ≤ i + 1 ∧ i + 1 ≤ (lL : Int) ∧ (lL : Int) ≤ (lC : Int)) ∧
  (.slice (subAddr l lC (Int.toNat (i + 1)) 1) (Int.toNat (lL : Int) - Int.toNat (i + 1)) (lC - Int.toNat (i + 1)) : Value) = .slice (subAddr l lC (Int.toNat (i + 1)) 1) (Int.toNat (lL : Int) - Int.toNat (i + 1)) (lC - Int.toNat (i + 1))) ∧
  appendV Try.prog 82 82 (.slice a1 l1 c1) (.slice (subAddr l lC (Int.toNat (i + 1)) 1) (Int.toNat (lL : Int) - Int.toNat (i + 1)) (lC - Int.toNat (i + 1))) h2 (slK fun a2 l2 c2 h3 =>
  K (.slice a2 l2 c2) h3))) := by kernel_rfl
theorem r03_cut_call {l : Option Addr} {lL : Nat} {lC : Nat} {i : Int} {h : Hp} {K : Value → Hp → Prop} (hk : r03_cut_b0 l lL lC i h K) : HCalls Try.prog 100 #[.slice l lL lC, .int .i64 i] h K :=
  calls_of_snd r03_cut_an Try.func100 (c := bodyOf Try.f100) rfl Try.ntmps100 (Nat.le_of_ble_eq_true rfl) (snd_1 F_ok F_mixed) hk

/-! ### cmp_isNaN_int -/
def cmp_isNaN_int_an : Ann := .leaf
def cmp_isNaN_int_K0  (K : Value → Hp → Prop) : Exit → Env → Hp → Prop := retK Try.prog Try.f108.results.toList K
def cmp_isNaN_int_b0 (x : Int) (h : Hp)  (K : Value → Hp → Prop) : Prop :=
  sx_1 Try.prog F 6 (cp [] (bodyOf Try.f108)) (ap [] cmp_isNaN_int_an) [(0, .int .i64 x)] h (cmp_isNaN_int_K0  K)
theorem cmp_isNaN_int_b0_eq (x : Int) (h : Hp)  (K : Value → Hp → Prop) : cmp_isNaN_int_b0 x h  K = (
  K (.bool (!decide (x = x))) h) := by kernel_rfl
theorem cmp_isNaN_int_call {x : Int} {h : Hp} {K : Value → Hp → Prop} (hk : cmp_isNaN_int_b0 x h K) : HCalls Try.prog 108 #[.int .i64 x] h K :=
  calls_of_snd cmp_isNaN_int_an Try.func108 (c := bodyOf Try.f108) rfl Try.ntmps108 (Nat.le_of_ble_eq_true rfl) (snd_1 F_ok F_mixed) hk


end Go.Proofs.Ytaemnjblcpknpaa
