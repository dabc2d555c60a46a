/- Plain statements of what each block of code of this seat asks; printed by a program, checked by Lean. -/
import Derived.Test.YtmlfoefadmlhpaaSxV0
set_option maxRecDepth 10000
namespace Go.Proofs.Ytmlfoefadmlhpaa
open Go Go.Sx

/-! ### r32_Children -/
def r32_Children_an : Ann := .node none (.leaf) (.node none (.leaf) (.node (some [5]) (.node none (.leaf) (.loop [1, 2] [(5, .slice), (6, .int .i64)] (.node none (.leaf) (.node (some [1, 2, 5, 6]) (.leaf) (.leaf))))) (.leaf)))
def r32_Children_K0  (K : Value → Hp → Prop) : Exit → Env → Hp → Prop := retK Try.prog Try.f58.results.toList K
def r32_Children_K1  (K : Value → Hp → Prop) : Exit → Env → Hp → Prop := thenE (fun env h => sx_2 Try.prog F 26 (cp [1, 1, 1] (bodyOf Try.f58)) (ap [1, 1, 1] r32_Children_an) (rs [5] env) h (r32_Children_K0  K)) (r32_Children_K0  K)
def r32_Children_K2  (K : Value → Hp → Prop) : Exit → Env → Hp → Prop := blockE 0 (r32_Children_K1  K)
def r32_Children_K3 (nx0 : (Option Addr × Nat × Nat) × Int × Unit → Hp → Prop) (K : Value → Hp → Prop) : Exit → Env → Hp → Prop := thenE (fun env h => getV [(5, .slice), (6, .int .i64)] env fun s => nx0 s h) (r32_Children_K2  K)
def r32_Children_b0 (v_0 : Option Addr) (v_0L : Nat) (v_0C : Nat) (nv : Int) (h : Hp)  (K : Value → Hp → Prop) : Prop :=
  sx_3 Try.prog F 26 (cp [] (bodyOf Try.f58)) (ap [] r32_Children_an) [(0, .agg #[.slice v_0 v_0L v_0C]), (1, .int .i64 nv)] h (r32_Children_K0  K)
def r32_Children_b1 (out : Option Addr) (outL : Nat) (outC : Nat) (i : Int) (nv : Int) (v : Option Addr) (h : Hp) (nx0 : (Option Addr × Nat × Nat) × Int × Unit → Hp → Prop) (K : Value → Hp → Prop) : Prop :=
  sx_2 Try.prog F 26 (cp [1, 1, 0, 1, 2, 2] (bodyOf Try.f58)) (ap [1, 1, 0, 1, 2] r32_Children_an) [(5, .slice out outL outC), (6, .int .i64 i), (1, .int .i64 nv), (2, .pointer v)] h (r32_Children_K3 nx0 K)
def r32_Children_b2 (nv : Int) (v : Option Addr) (out : Option Addr) (outL : Nat) (outC : Nat) (i : Int) (h : Hp) (nx0 : (Option Addr × Nat × Nat) × Int × Unit → Hp → Prop) (K : Value → Hp → Prop) : Prop :=
  sx_1 Try.prog F 26 (cp [1, 1, 0, 1, 2, 2, 1, 1] (bodyOf Try.f58)) (ap [1, 1, 0, 1, 2, 1, 1] r32_Children_an) [(1, .int .i64 nv), (2, .pointer v), (5, .slice out outL outC), (6, .int .i64 i)] h (r32_Children_K3 nx0 K)
def r32_Children_b3 (out : Option Addr) (outL : Nat) (outC : Nat) (h : Hp)  (K : Value → Hp → Prop) : Prop :=
  sx_2 Try.prog F 26 (cp [1, 1, 1] (bodyOf Try.f58)) (ap [1, 1, 1] r32_Children_an) [(5, .slice out outL outC)] h (r32_Children_K0  K)
theorem r32_Children_b0_eq (v_0 : Option Addr) (v_0L : Nat) (v_0C : Nat) (nv : Int) (h : Hp)  (K : Value → Hp → Prop) : r32_Children_b0 v_0 v_0L v_0C nv h  K = (
  New h (.cells #[.slice v_0 v_0L v_0C] 48) fun b1 h1 =>
  LoopVC (((none, 0, 0), 0, ()) : (Option Addr × Nat × Nat) × Int × Unit) h1 (fun (nx0 : (Option Addr × Nat × Nat) × Int × Unit → Hp → Prop) (s1 : (Option Addr × Nat × Nat) × Int × Unit) h2 => r32_Children_b1 s1.1.1 s1.1.2.1 s1.1.2.2 s1.2.1 nv (some ⟨b1, 0, none⟩) h2 nx0 K)) := by kernel_rfl
theorem r32_Children_b1_eq (out : Option Addr) (outL : Nat) (outC : Nat) (i : Int) (nv : Int) (v : Option Addr) (h : Hp) (nx0 : (Option Addr × Nat × Nat) × Int × Unit → Hp → Prop) (K : Value → Hp → Prop) : r32_Children_b1 out outL outC i nv v h nx0 K = (
  NN v fun a1 =>
  ∃ (a2 : Option Addr) (L1 C1 : Nat), cell h a1 = some (.slice a2 L1 C1) ∧
  cond (decide (i < (L1 : Int)))
  (NN v fun a3 =>
  ∃ (a4 : Option Addr) (L2 C2 : Nat), cell h a3 = some (.slice a4 L2 C2) ∧
  (0 ≤ i ∧ i < (L2 : Int)) ∧
  NN a4 fun a5 =>
  ∃ n1 : Int, cell h (a5.add (Int.toNat i * 1)) = some (.int .i64 n1) ∧
  cond (decide (n1 = nv))
  (New h (.cells #[.int .i64 i] 3) fun b2 h3 =>
  appendV Try.prog 22 22 (.slice out outL outC) (.slice (some ⟨b2, 0, none⟩) 1 1) h3 (slK fun a6 l1 c1 h4 =>
  r32_Children_b2 nv v a6 l1 c1 i h4 nx0 K))
  (r32_Children_b2 nv v out outL outC i h nx0 K))
  (r32_Children_b3 out outL outC h  K)) := by kernel_rfl
theorem r32_Children_b2_eq (nv : Int) (v : Option Addr) (out : Option Addr) (outL : Nat) (outC : Nat) (i : Int) (h : Hp) (nx0 : (Option Addr × Nat × Nat) × Int × Unit → Hp → Prop) (K : Value → Hp → Prop) : r32_Children_b2 nv v out outL outC i h nx0 K = (
  InR (i + 1) ∧
  nx0 ((out, outL, outC), i + 1, ()) h) := by kernel_rfl
theorem r32_Children_b3_eq (out : Option Addr) (outL : Nat) (outC : Nat) (h : Hp)  (K : Value → Hp → Prop) : r32_Children_b3 out outL outC h  K = (
  K (.slice out outL outC) h) := by kernel_rfl
theorem r32_Children_call {v_0 : Option Addr} {v_0L : Nat} {v_0C : Nat} {nv : Int} {h : Hp} {K : Value → Hp → Prop} (hk : r32_Children_b0 v_0 v_0L v_0C nv h K) : HCalls Try.prog 58 #[.agg #[.slice v_0 v_0L v_0C], .int .i64 nv] h K :=
  calls_of_snd r32_Children_an Try.func58 (c := bodyOf Try.f58) rfl Try.ntmps58 (Nat.le_of_ble_eq_true rfl) (snd_3 F_ok F_mixed) hk

/-! ### succinct_Tree_check -/
def succinct_Tree_check_an : Ann := .node none (.leaf) (.node none (.leaf) (.node (some []) (.node none (.leaf) (.loop [0, 9, 10] [(11, .int .i64)] (.node none (.leaf) (.node none (.leaf) (.node (some [0, 9, 10, 11]) (.leaf) (.leaf)))))) (.leaf)))
def succinct_Tree_check_K0  (K : Value → Hp → Prop) : Exit → Env → Hp → Prop := retK Try.prog Try.f59.results.toList K
def succinct_Tree_check_K1  (K : Value → Hp → Prop) : Exit → Env → Hp → Prop := thenE (fun env h => sx_2 Try.prog F 26 (cp [1, 1, 1] (bodyOf Try.f59)) (ap [1, 1, 1] succinct_Tree_check_an) (rs [] env) h (succinct_Tree_check_K0  K)) (succinct_Tree_check_K0  K)
def succinct_Tree_check_K2  (K : Value → Hp → Prop) : Exit → Env → Hp → Prop := blockE 0 (succinct_Tree_check_K1  K)
def succinct_Tree_check_K3 (nx0 : Int × Unit → Hp → Prop) (K : Value → Hp → Prop) : Exit → Env → Hp → Prop := thenE (fun env h => getV [(11, .int .i64)] env fun s => nx0 s h) (succinct_Tree_check_K2  K)
def succinct_Tree_check_b0 (t : Option Addr) (l : Option Addr) (lL : Nat) (lC : Nat) (h : Hp)  (K : Value → Hp → Prop) : Prop :=
  sx_3 Try.prog F 26 (cp [] (bodyOf Try.f59)) (ap [] succinct_Tree_check_an) [(0, .pointer t), (1, .slice l lL lC)] h (succinct_Tree_check_K0  K)
def succinct_Tree_check_b1 (t11 : Int) (t : Option Addr) (t9 : Option Addr) (t9L : Nat) (t9C : Nat) (t10 : Int) (h : Hp) (nx0 : Int × Unit → Hp → Prop) (K : Value → Hp → Prop) : Prop :=
  sx_2 Try.prog F 26 (cp [1, 1, 0, 1, 2, 2] (bodyOf Try.f59)) (ap [1, 1, 0, 1, 2] succinct_Tree_check_an) [(11, .int .i64 t11), (0, .pointer t), (9, .slice t9 t9L t9C), (10, .int .i64 t10)] h (succinct_Tree_check_K3 nx0 K)
def succinct_Tree_check_b2 (t : Option Addr) (t9 : Option Addr) (t9L : Nat) (t9C : Nat) (t10 : Int) (t11 : Int) (h : Hp) (nx0 : Int × Unit → Hp → Prop) (K : Value → Hp → Prop) : Prop :=
  sx_1 Try.prog F 26 (cp [1, 1, 0, 1, 2, 2, 1, 1, 1] (bodyOf Try.f59)) (ap [1, 1, 0, 1, 2, 1, 1, 1] succinct_Tree_check_an) [(0, .pointer t), (9, .slice t9 t9L t9C), (10, .int .i64 t10), (11, .int .i64 t11)] h (succinct_Tree_check_K3 nx0 K)
def succinct_Tree_check_b3  (h : Hp)  (K : Value → Hp → Prop) : Prop :=
  sx_2 Try.prog F 26 (cp [1, 1, 1] (bodyOf Try.f59)) (ap [1, 1, 1] succinct_Tree_check_an) [] h (succinct_Tree_check_K0  K)
theorem succinct_Tree_check_b0_eq (t : Option Addr) (l : Option Addr) (lL : Nat) (lC : Nat) (h : Hp)  (K : Value → Hp → Prop) : succinct_Tree_check_b0 t l lL lC h  K = (
  cond t.isNone
  (K (.int .i64 1) h)
  (LoopVC ((0, ()) : Int × Unit) h (fun (nx0 : Int × Unit → Hp → Prop) (s1 : Int × Unit) h1 => succinct_Tree_check_b1 s1.1 t l lL lC (lL : Int) h1 nx0 K))) := by kernel_rfl
theorem succinct_Tree_check_b1_eq (t11 : Int) (t : Option Addr) (t9 : Option Addr) (t9L : Nat) (t9C : Nat) (t10 : Int) (h : Hp) (nx0 : Int × Unit → Hp → Prop) (K : Value → Hp → Prop) : succinct_Tree_check_b1 t11 t t9 t9L t9C t10 h nx0 K = (
  cond (decide (t11 < t10))
  ((0 ≤ t11 ∧ t11 < (t9L : Int)) ∧
  NN t9 fun a1 =>
  ∃ n1 : Int, cell h (a1.add (Int.toNat t11 * 1)) = some (.int .i64 n1) ∧
  cond (decide (n1 < 0))
  (K (.int .i64 2) h)
  (NN t fun a2 =>
  ∃ n2 : Int, cell h (a2.add 1) = some (.int .i64 n2) ∧
  cond (decide (n2 ≤ n1))
  (K (.int .i64 2) h)
  (succinct_Tree_check_b2 t t9 t9L t9C t10 t11 h nx0 K)))
  (succinct_Tree_check_b3  h  K)) := by kernel_rfl
theorem succinct_Tree_check_b2_eq (t : Option Addr) (t9 : Option Addr) (t9L : Nat) (t9C : Nat) (t10 : Int) (t11 : Int) (h : Hp) (nx0 : Int × Unit → Hp → Prop) (K : Value → Hp → Prop) : succinct_Tree_check_b2 t t9 t9L t9C t10 t11 h nx0 K = (
  InR (t11 + 1) ∧
  nx0 (t11 + 1, ()) h) := by kernel_rfl
theorem succinct_Tree_check_b3_eq  (h : Hp)  (K : Value → Hp → Prop) : succinct_Tree_check_b3  h  K = (
  K (.int .i64 0) h) := by kernel_rfl
theorem succinct_Tree_check_call {t : Option Addr} {l : Option Addr} {lL : Nat} {lC : Nat} {h : Hp} {K : Value → Hp → Prop} (hk : succinct_Tree_check_b0 t l lL lC h K) : HCalls Try.prog 59 #[.pointer t, .slice l lL lC] h K :=
  calls_of_snd succinct_Tree_check_an Try.func59 (c := bodyOf Try.f59) rfl Try.ntmps59 (Nat.le_of_ble_eq_true rfl) (snd_3 F_ok F_mixed) hk

/-! ### succinct_Tree_open -/
def succinct_Tree_open_an : Ann := .leaf
def succinct_Tree_open_K0  (K : Value → Hp → Prop) : Exit → Env → Hp → Prop := retK Try.prog Try.f60.results.toList K
def succinct_Tree_open_b0 (t : Option Addr) (v : Int) (h : Hp)  (K : Value → Hp → Prop) : Prop :=
  sx_1 Try.prog F 17 (cp [] (bodyOf Try.f60)) (ap [] succinct_Tree_open_an) [(0, .pointer t), (1, .int .i64 v)] h (succinct_Tree_open_K0  K)
theorem succinct_Tree_open_b0_eq (t : Option Addr) (v : Int) (h : Hp)  (K : Value → Hp → Prop) : succinct_Tree_open_b0 t v h  K = (
  NN t fun a1 =>
  ∃ p1 : Option Addr, cell h a1 = some (.pointer p1) ∧
  HCalls Try.prog 71 #[.pointer p1, .bool true, .int .i64 v] h fun v1 h1 => ∃ r1 : Int, ∃ r2 : Int, v1 = .tuple #[.int .i64 r1, .int .i64 r2] ∧
  K (.int .i64 r1) h1) := by kernel_rfl
theorem succinct_Tree_open_call {t : Option Addr} {v : Int} {h : Hp} {K : Value → Hp → Prop} (hk : succinct_Tree_open_b0 t v h K) : HCalls Try.prog 60 #[.pointer t, .int .i64 v] h K :=
  calls_of_snd succinct_Tree_open_an Try.func60 (c := bodyOf Try.f60) rfl Try.ntmps60 (Nat.le_of_ble_eq_true rfl) (snd_1 F_ok F_mixed) hk

/-! ### succinct_Tree_before -/
def succinct_Tree_before_an : Ann := .leaf
def succinct_Tree_before_K0  (K : Value → Hp → Prop) : Exit → Env → Hp → Prop := retK Try.prog Try.f61.results.toList K
def succinct_Tree_before_b0 (t : Option Addr) (i : Int) (h : Hp)  (K : Value → Hp → Prop) : Prop :=
  sx_1 Try.prog F 17 (cp [] (bodyOf Try.f61)) (ap [] succinct_Tree_before_an) [(0, .pointer t), (1, .int .i64 i)] h (succinct_Tree_before_K0  K)
theorem succinct_Tree_before_b0_eq (t : Option Addr) (i : Int) (h : Hp)  (K : Value → Hp → Prop) : succinct_Tree_before_b0 t i h  K = (
  NN t fun a1 =>
  ∃ p1 : Option Addr, cell h a1 = some (.pointer p1) ∧
  HCalls Try.prog 76 #[.pointer p1, .bool true, .int .i64 i] h fun v1 h1 => ∃ r1 : Int, ∃ r2 : Int, v1 = .tuple #[.int .i64 r1, .int .i64 r2] ∧
  K (.int .i64 r1) h1) := by kernel_rfl
theorem succinct_Tree_before_call {t : Option Addr} {i : Int} {h : Hp} {K : Value → Hp → Prop} (hk : succinct_Tree_before_b0 t i h K) : HCalls Try.prog 61 #[.pointer t, .int .i64 i] h K :=
  calls_of_snd succinct_Tree_before_an Try.func61 (c := bodyOf Try.f61) rfl Try.ntmps61 (Nat.le_of_ble_eq_true rfl) (snd_1 F_ok F_mixed) hk

/-! ### succinct_Tree_parent -/
def succinct_Tree_parent_an : Ann := .node none (.leaf) (.node none (.leaf) (.node (some []) (.node none (.leaf) (.loop [0] [(5, .int .i64), (6, .int .i64)] (.node none (.leaf) (.node (some [0, 5, 6]) (.leaf) (.leaf))))) (.leaf)))
def succinct_Tree_parent_K0  (K : Value → Hp → Prop) : Exit → Env → Hp → Prop := retK Try.prog Try.f62.results.toList K
def succinct_Tree_parent_K1  (K : Value → Hp → Prop) : Exit → Env → Hp → Prop := thenE (fun env h => sx_2 Try.prog F 37 (cp [1, 1, 1] (bodyOf Try.f62)) (ap [1, 1, 1] succinct_Tree_parent_an) (rs [] env) h (succinct_Tree_parent_K0  K)) (succinct_Tree_parent_K0  K)
def succinct_Tree_parent_K2  (K : Value → Hp → Prop) : Exit → Env → Hp → Prop := blockE 0 (succinct_Tree_parent_K1  K)
def succinct_Tree_parent_K3 (nx0 : Int × Int × Unit → Hp → Prop) (K : Value → Hp → Prop) : Exit → Env → Hp → Prop := thenE (fun env h => getV [(5, .int .i64), (6, .int .i64)] env fun s => nx0 s h) (succinct_Tree_parent_K2  K)
def succinct_Tree_parent_b0 (t : Option Addr) (v : Int) (h : Hp)  (K : Value → Hp → Prop) : Prop :=
  sx_3 Try.prog F 37 (cp [] (bodyOf Try.f62)) (ap [] succinct_Tree_parent_an) [(0, .pointer t), (1, .int .i64 v)] h (succinct_Tree_parent_K0  K)
def succinct_Tree_parent_b1 (depth : Int) (i : Int) (t : Option Addr) (h : Hp) (nx0 : Int × Int × Unit → Hp → Prop) (K : Value → Hp → Prop) : Prop :=
  sx_2 Try.prog F 37 (cp [1, 1, 0, 1, 2, 2] (bodyOf Try.f62)) (ap [1, 1, 0, 1, 2] succinct_Tree_parent_an) [(5, .int .i64 depth), (6, .int .i64 i), (0, .pointer t)] h (succinct_Tree_parent_K3 nx0 K)
def succinct_Tree_parent_b2 (t : Option Addr) (depth : Int) (i : Int) (h : Hp) (nx0 : Int × Int × Unit → Hp → Prop) (K : Value → Hp → Prop) : Prop :=
  sx_1 Try.prog F 37 (cp [1, 1, 0, 1, 2, 2, 1, 1] (bodyOf Try.f62)) (ap [1, 1, 0, 1, 2, 1, 1] succinct_Tree_parent_an) [(0, .pointer t), (5, .int .i64 depth), (6, .int .i64 i)] h (succinct_Tree_parent_K3 nx0 K)
def succinct_Tree_parent_b3  (h : Hp)  (K : Value → Hp → Prop) : Prop :=
  sx_2 Try.prog F 37 (cp [1, 1, 1] (bodyOf Try.f62)) (ap [1, 1, 1] succinct_Tree_parent_an) [] h (succinct_Tree_parent_K0  K)
theorem succinct_Tree_parent_b0_eq (t : Option Addr) (v : Int) (h : Hp)  (K : Value → Hp → Prop) : succinct_Tree_parent_b0 t v h  K = (
  HCalls Try.prog 60 #[.pointer t, .int .i64 v] h fun v1 h1 => ∃ r1 : Int, v1 = .int .i64 r1 ∧
  InR (r1 - 1) ∧
  LoopVC ((0, r1 - 1, ()) : Int × Int × Unit) h1 (fun (nx0 : Int × Int × Unit → Hp → Prop) (s1 : Int × Int × Unit) h2 => succinct_Tree_parent_b1 s1.1 s1.2.1 t h2 nx0 K)) := by kernel_rfl
theorem succinct_Tree_parent_b1_eq (depth : Int) (i : Int) (t : Option Addr) (h : Hp) (nx0 : Int × Int × Unit → Hp → Prop) (K : Value → Hp → Prop) : succinct_Tree_parent_b1 depth i t h nx0 K = (
  cond (decide ((0 : Int) ≤ i))
  (NN t fun a1 =>
  ∃ p1 : Option Addr, cell h a1 = some (.pointer p1) ∧
  HCalls Try.prog 64 #[.pointer p1, .int .i64 i] h fun v2 h3 => ∃ r2 : Bool, ∃ r3 : Int, v2 = .tuple #[.bool r2, .int .i64 r3] ∧
  cond (!r2)
  (InR (depth + 1) ∧
  succinct_Tree_parent_b2 t (depth + 1) i h3 nx0 K)
  (InR (depth - 1) ∧
  cond (decide ((depth - 1) < 0))
  (HCalls Try.prog 61 #[.pointer t, .int .i64 i] h3 fun v3 h4 => ∃ r4 : Int, v3 = .int .i64 r4 ∧
  K (.int .i64 r4) h4)
  (succinct_Tree_parent_b2 t (depth - 1) i h3 nx0 K)))
  (succinct_Tree_parent_b3  h  K)) := by kernel_rfl
theorem succinct_Tree_parent_b2_eq (t : Option Addr) (depth : Int) (i : Int) (h : Hp) (nx0 : Int × Int × Unit → Hp → Prop) (K : Value → Hp → Prop) : succinct_Tree_parent_b2 t depth i h nx0 K = (
  InR (i - 1) ∧
  nx0 (depth, i - 1, ()) h) := by kernel_rfl
theorem succinct_Tree_parent_b3_eq  (h : Hp)  (K : Value → Hp → Prop) : succinct_Tree_parent_b3  h  K = (
  K (.int .i64 (-1)) h) := by kernel_rfl
theorem succinct_Tree_parent_call {t : Option Addr} {v : Int} {h : Hp} {K : Value → Hp → Prop} (hk : succinct_Tree_parent_b0 t v h K) : HCalls Try.prog 62 #[.pointer t, .int .i64 v] h K :=
  calls_of_snd succinct_Tree_parent_an Try.func62 (c := bodyOf Try.f62) rfl Try.ntmps62 (Nat.le_of_ble_eq_true rfl) (snd_3 F_ok F_mixed) hk

/-! ### r32_Ancestor -/
def r32_Ancestor_an : Ann := .node none (.leaf) (.node (some []) (.node none (.leaf) (.loop [1, 3] [(7, .int .i64)] (.node none (.leaf) (.node (some [1, 3, 7]) (.leaf) (.leaf))))) (.leaf))
def r32_Ancestor_K0  (K : Value → Hp → Prop) : Exit → Env → Hp → Prop := retK Try.prog Try.f63.results.toList K
def r32_Ancestor_K1  (K : Value → Hp → Prop) : Exit → Env → Hp → Prop := thenE (fun env h => sx_2 Try.prog F 19 (cp [1, 1] (bodyOf Try.f63)) (ap [1, 1] r32_Ancestor_an) (rs [] env) h (r32_Ancestor_K0  K)) (r32_Ancestor_K0  K)
def r32_Ancestor_K2  (K : Value → Hp → Prop) : Exit → Env → Hp → Prop := blockE 0 (r32_Ancestor_K1  K)
def r32_Ancestor_K3 (nx0 : Int × Unit → Hp → Prop) (K : Value → Hp → Prop) : Exit → Env → Hp → Prop := thenE (fun env h => getV [(7, .int .i64)] env fun s => nx0 s h) (r32_Ancestor_K2  K)
def r32_Ancestor_b0 (v_0 : Option Addr) (v_0L : Nat) (v_0C : Nat) (a : Int) (b : Int) (h : Hp)  (K : Value → Hp → Prop) : Prop :=
  sx_3 Try.prog F 19 (cp [] (bodyOf Try.f63)) (ap [] r32_Ancestor_an) [(0, .agg #[.slice v_0 v_0L v_0C]), (1, .int .i64 a), (2, .int .i64 b)] h (r32_Ancestor_K0  K)
def r32_Ancestor_b1 (k : Int) (a : Int) (v : Option Addr) (h : Hp) (nx0 : Int × Unit → Hp → Prop) (K : Value → Hp → Prop) : Prop :=
  sx_2 Try.prog F 19 (cp [1, 0, 1, 2, 2] (bodyOf Try.f63)) (ap [1, 0, 1, 2] r32_Ancestor_an) [(7, .int .i64 k), (1, .int .i64 a), (3, .pointer v)] h (r32_Ancestor_K3 nx0 K)
def r32_Ancestor_b2 (a : Int) (v : Option Addr) (k : Int) (h : Hp) (nx0 : Int × Unit → Hp → Prop) (K : Value → Hp → Prop) : Prop :=
  sx_1 Try.prog F 19 (cp [1, 0, 1, 2, 2, 1, 1] (bodyOf Try.f63)) (ap [1, 0, 1, 2, 1, 1] r32_Ancestor_an) [(1, .int .i64 a), (3, .pointer v), (7, .int .i64 k)] h (r32_Ancestor_K3 nx0 K)
def r32_Ancestor_b3  (h : Hp)  (K : Value → Hp → Prop) : Prop :=
  sx_2 Try.prog F 19 (cp [1, 1] (bodyOf Try.f63)) (ap [1, 1] r32_Ancestor_an) [] h (r32_Ancestor_K0  K)
theorem r32_Ancestor_b0_eq (v_0 : Option Addr) (v_0L : Nat) (v_0C : Nat) (a : Int) (b : Int) (h : Hp)  (K : Value → Hp → Prop) : r32_Ancestor_b0 v_0 v_0L v_0C a b h  K = (
  New h (.cells #[.slice v_0 v_0L v_0C] 48) fun b1 h1 =>
  LoopVC ((b, ()) : Int × Unit) h1 (fun (nx0 : Int × Unit → Hp → Prop) (s1 : Int × Unit) h2 => r32_Ancestor_b1 s1.1 a (some ⟨b1, 0, none⟩) h2 nx0 K)) := by kernel_rfl
theorem r32_Ancestor_b1_eq (k : Int) (a : Int) (v : Option Addr) (h : Hp) (nx0 : Int × Unit → Hp → Prop) (K : Value → Hp → Prop) : r32_Ancestor_b1 k a v h nx0 K = (
  cond (decide ((0 : Int) ≤ k))
  (cond (decide (k = a))
  (K (.bool true) h)
  (r32_Ancestor_b2 a v k h nx0 K))
  (r32_Ancestor_b3  h  K)) := by kernel_rfl
theorem r32_Ancestor_b2_eq (a : Int) (v : Option Addr) (k : Int) (h : Hp) (nx0 : Int × Unit → Hp → Prop) (K : Value → Hp → Prop) : r32_Ancestor_b2 a v k h nx0 K = (
  NN v fun a1 =>
  ∃ (a2 : Option Addr) (L1 C1 : Nat), cell h a1 = some (.slice a2 L1 C1) ∧
  (0 ≤ k ∧ k < (L1 : Int)) ∧
  NN a2 fun a3 =>
  ∃ n1 : Int, cell h (a3.add (Int.toNat k * 1)) = some (.int .i64 n1) ∧
  nx0 (n1, ()) h) := by kernel_rfl
theorem r32_Ancestor_b3_eq  (h : Hp)  (K : Value → Hp → Prop) : r32_Ancestor_b3  h  K = (
  K (.bool false) h) := by kernel_rfl
theorem r32_Ancestor_call {v_0 : Option Addr} {v_0L : Nat} {v_0C : Nat} {a : Int} {b : Int} {h : Hp} {K : Value → Hp → Prop} (hk : r32_Ancestor_b0 v_0 v_0L v_0C a b h K) : HCalls Try.prog 63 #[.agg #[.slice v_0 v_0L v_0C], .int .i64 a, .int .i64 b] h K :=
  calls_of_snd r32_Ancestor_an Try.func63 (c := bodyOf Try.f63) rfl Try.ntmps63 (Nat.le_of_ble_eq_true rfl) (snd_3 F_ok F_mixed) hk

/-! ### Get -/
def Get_an : Ann := .node none (.leaf) (.node (some [0, 1]) (.leaf) (.leaf))
def Get_K0  (K : Value → Hp → Prop) : Exit → Env → Hp → Prop := retK Try.prog Try.f64.results.toList K
def Get_b0 (v : Option Addr) (i : Int) (h : Hp)  (K : Value → Hp → Prop) : Prop :=
  sx_2 Try.prog F 23 (cp [] (bodyOf Try.f64)) (ap [] Get_an) [(0, .pointer v), (1, .int .i64 i)] h (Get_K0  K)
def Get_b1 (v : Option Addr) (i : Int) (h : Hp)  (K : Value → Hp → Prop) : Prop :=
  sx_1 Try.prog F 23 (cp [1, 1] (bodyOf Try.f64)) (ap [1, 1] Get_an) [(0, .pointer v), (1, .int .i64 i)] h (Get_K0  K)
theorem Get_b0_eq (v : Option Addr) (i : Int) (h : Hp)  (K : Value → Hp → Prop) : Get_b0 v i h  K = (
  cond v.isNone
  (K (.tuple #[.bool false, .int .i64 1]) h)
  (cond (decide (i < 0))
  (K (.tuple #[.bool false, .int .i64 2]) h)
  (NN v fun a1 =>
  ∃ n1 : Int, cell h a1 = some (.int .i64 n1) ∧
  cond (decide (n1 ≤ i))
  (K (.tuple #[.bool false, .int .i64 2]) h)
  (Get_b1 v i h  K)))) := by kernel_rfl
theorem Get_b1_eq (v : Option Addr) (i : Int) (h : Hp)  (K : Value → Hp → Prop) : Get_b1 v i h  K = (
  HCalls Try.prog 75 #[.pointer v, .int .i64 i] h fun v1 h1 => ∃ r1 : Bool, v1 = .bool r1 ∧
  K (.tuple #[.bool r1, .int .i64 0]) h1) := by kernel_rfl
theorem Get_call {v : Option Addr} {i : Int} {h : Hp} {K : Value → Hp → Prop} (hk : Get_b0 v i h K) : HCalls Try.prog 64 #[.pointer v, .int .i64 i] h K :=
  calls_of_snd Get_an Try.func64 (c := bodyOf Try.f64) rfl Try.ntmps64 (Nat.le_of_ble_eq_true rfl) (snd_2 F_ok F_mixed) hk

/-! ### succinct_Tree_closed -/
def succinct_Tree_closed_an : Ann := .node none (.leaf) (.node none (.leaf) (.loop [0] [(1, .int .i64), (5, .int .i64)] (.node (some [0, 1, 5]) (.leaf) (.leaf))))
def succinct_Tree_closed_K0  (K : Value → Hp → Prop) : Exit → Env → Hp → Prop := retK Try.prog Try.f65.results.toList K
def succinct_Tree_closed_K1  (K : Value → Hp → Prop) : Exit → Env → Hp → Prop := blockE 0 (succinct_Tree_closed_K0  K)
def succinct_Tree_closed_K2 (nx0 : Int × Int × Unit → Hp → Prop) (K : Value → Hp → Prop) : Exit → Env → Hp → Prop := thenE (fun env h => getV [(1, .int .i64), (5, .int .i64)] env fun s => nx0 s h) (succinct_Tree_closed_K1  K)
def succinct_Tree_closed_b0 (t : Option Addr) (i : Int) (h : Hp)  (K : Value → Hp → Prop) : Prop :=
  sx_3 Try.prog F 27 (cp [] (bodyOf Try.f65)) (ap [] succinct_Tree_closed_an) [(0, .pointer t), (1, .int .i64 i)] h (succinct_Tree_closed_K0  K)
def succinct_Tree_closed_b1 (i : Int) (depth : Int) (t : Option Addr) (h : Hp) (nx0 : Int × Int × Unit → Hp → Prop) (K : Value → Hp → Prop) : Prop :=
  sx_2 Try.prog F 27 (cp [1, 1, 2, 2] (bodyOf Try.f65)) (ap [1, 1, 2] succinct_Tree_closed_an) [(1, .int .i64 i), (5, .int .i64 depth), (0, .pointer t)] h (succinct_Tree_closed_K2 nx0 K)
def succinct_Tree_closed_b2 (t : Option Addr) (i : Int) (depth : Int) (h : Hp) (nx0 : Int × Int × Unit → Hp → Prop) (K : Value → Hp → Prop) : Prop :=
  sx_1 Try.prog F 27 (cp [1, 1, 2, 2, 1] (bodyOf Try.f65)) (ap [1, 1, 2, 1] succinct_Tree_closed_an) [(0, .pointer t), (1, .int .i64 i), (5, .int .i64 depth)] h (succinct_Tree_closed_K2 nx0 K)
theorem succinct_Tree_closed_b0_eq (t : Option Addr) (i : Int) (h : Hp)  (K : Value → Hp → Prop) : succinct_Tree_closed_b0 t i h  K = (
  LoopVC ((i, 0, ()) : Int × Int × Unit) h (fun (nx0 : Int × Int × Unit → Hp → Prop) (s1 : Int × Int × Unit) h1 => succinct_Tree_closed_b1 s1.1 s1.2.1 t h1 nx0 K)) := by kernel_rfl
theorem succinct_Tree_closed_b1_eq (i : Int) (depth : Int) (t : Option Addr) (h : Hp) (nx0 : Int × Int × Unit → Hp → Prop) (K : Value → Hp → Prop) : succinct_Tree_closed_b1 i depth t h nx0 K = (
  NN t fun a1 =>
  ∃ p1 : Option Addr, cell h a1 = some (.pointer p1) ∧
  HCalls Try.prog 64 #[.pointer p1, .int .i64 i] h fun v1 h2 => ∃ r1 : Bool, ∃ r2 : Int, v1 = .tuple #[.bool r1, .int .i64 r2] ∧
  cond r1
  (InR (depth + 1) ∧
  succinct_Tree_closed_b2 t i (depth + 1) h2 nx0 K)
  (InR (depth - 1) ∧
  cond (decide ((depth - 1) = 0))
  (K (.int .i64 i) h2)
  (succinct_Tree_closed_b2 t i (depth - 1) h2 nx0 K))) := by kernel_rfl
theorem succinct_Tree_closed_b2_eq (t : Option Addr) (i : Int) (depth : Int) (h : Hp) (nx0 : Int × Int × Unit → Hp → Prop) (K : Value → Hp → Prop) : succinct_Tree_closed_b2 t i depth h nx0 K = (
  InR (i + 1) ∧
  nx0 (i + 1, depth, ()) h) := by kernel_rfl
theorem succinct_Tree_closed_call {t : Option Addr} {i : Int} {h : Hp} {K : Value → Hp → Prop} (hk : succinct_Tree_closed_b0 t i h K) : HCalls Try.prog 65 #[.pointer t, .int .i64 i] h K :=
  calls_of_snd succinct_Tree_closed_an Try.func65 (c := bodyOf Try.f65) rfl Try.ntmps65 (Nat.le_of_ble_eq_true rfl) (snd_3 F_ok F_mixed) hk

/-! ### r48_Match -/
def r48_Match_an : Ann := .node none (.leaf) (.node none (.leaf) (.node (some []) (.node none (.leaf) (.loop [0] [(5, .int .i64), (6, .int .i64)] (.node none (.leaf) (.node (some [0, 5, 6]) (.node (some [0, 5, 6]) (.leaf) (.leaf)) (.leaf))))) (.leaf)))
def r48_Match_K0  (K : Value → Hp → Prop) : Exit → Env → Hp → Prop := retK Try.prog Try.f66.results.toList K
def r48_Match_K1  (K : Value → Hp → Prop) : Exit → Env → Hp → Prop := thenE (fun env h => sx_2 Try.prog F 25 (cp [1, 1, 1] (bodyOf Try.f66)) (ap [1, 1, 1] r48_Match_an) (rs [] env) h (r48_Match_K0  K)) (r48_Match_K0  K)
def r48_Match_K2  (K : Value → Hp → Prop) : Exit → Env → Hp → Prop := blockE 0 (r48_Match_K1  K)
def r48_Match_K3 (nx0 : Int × Int × Unit → Hp → Prop) (K : Value → Hp → Prop) : Exit → Env → Hp → Prop := thenE (fun env h => getV [(5, .int .i64), (6, .int .i64)] env fun s => nx0 s h) (r48_Match_K2  K)
def r48_Match_K4 (nx0 : Int × Int × Unit → Hp → Prop) (K : Value → Hp → Prop) : Exit → Env → Hp → Prop := thenE (fun env h => sx_1 Try.prog F 25 (cp [1, 1, 0, 1, 2, 2, 1, 1] (bodyOf Try.f66)) (ap [1, 1, 0, 1, 2, 1, 1] r48_Match_an) (rs [0, 5, 6] env) h (r48_Match_K3 nx0 K)) (r48_Match_K3 nx0 K)
def r48_Match_K5 (nx0 : Int × Int × Unit → Hp → Prop) (K : Value → Hp → Prop) : Exit → Env → Hp → Prop := blockE 1 (r48_Match_K4 nx0 K)
def r48_Match_b0 (s : ByteArray) (i : Int) (h : Hp)  (K : Value → Hp → Prop) : Prop :=
  sx_3 Try.prog F 25 (cp [] (bodyOf Try.f66)) (ap [] r48_Match_an) [(0, .string s), (1, .int .i64 i)] h (r48_Match_K0  K)
def r48_Match_b1 (depth : Int) (k : Int) (s : ByteArray) (h : Hp) (nx0 : Int × Int × Unit → Hp → Prop) (K : Value → Hp → Prop) : Prop :=
  sx_2 Try.prog F 25 (cp [1, 1, 0, 1, 2, 2] (bodyOf Try.f66)) (ap [1, 1, 0, 1, 2] r48_Match_an) [(5, .int .i64 depth), (6, .int .i64 k), (0, .string s)] h (r48_Match_K3 nx0 K)
def r48_Match_b2 (s : ByteArray) (depth : Int) (k : Int) (h : Hp) (nx0 : Int × Int × Unit → Hp → Prop) (K : Value → Hp → Prop) : Prop :=
  sx_1 Try.prog F 25 (cp [1, 1, 0, 1, 2, 2, 1, 0, 2, 1] (bodyOf Try.f66)) (ap [1, 1, 0, 1, 2, 1, 0, 1] r48_Match_an) [(0, .string s), (5, .int .i64 depth), (6, .int .i64 k)] h (r48_Match_K5 nx0 K)
def r48_Match_b3  (h : Hp)  (K : Value → Hp → Prop) : Prop :=
  sx_2 Try.prog F 25 (cp [1, 1, 1] (bodyOf Try.f66)) (ap [1, 1, 1] r48_Match_an) [] h (r48_Match_K0  K)
def r48_Match_b4 (s : ByteArray) (depth : Int) (k : Int) (h : Hp) (nx0 : Int × Int × Unit → Hp → Prop) (K : Value → Hp → Prop) : Prop :=
  sx_1 Try.prog F 25 (cp [1, 1, 0, 1, 2, 2, 1, 1] (bodyOf Try.f66)) (ap [1, 1, 0, 1, 2, 1, 1] r48_Match_an) [(0, .string s), (5, .int .i64 depth), (6, .int .i64 k)] h (r48_Match_K3 nx0 K)
theorem r48_Match_b0_eq (s : ByteArray) (i : Int) (h : Hp)  (K : Value → Hp → Prop) : r48_Match_b0 s i h  K = (
  LoopVC ((0, i, ()) : Int × Int × Unit) h (fun (nx0 : Int × Int × Unit → Hp → Prop) (s1 : Int × Int × Unit) h1 => r48_Match_b1 s1.1 s1.2.1 s h1 nx0 K)) := by kernel_rfl
theorem r48_Match_b1_eq (depth : Int) (k : Int) (s : ByteArray) (h : Hp) (nx0 : Int × Int × Unit → Hp → Prop) (K : Value → Hp → Prop) : r48_Match_b1 depth k s h nx0 K = (
  cond (decide (k < (s.size : Int)))
  ((0 ≤ k ∧ k < (s.size : Int)) ∧
  cond (decide (((s.data.toList.getD (Int.toNat k) 0).toNat : Int) = 40))
  (InR (depth + 1) ∧
  r48_Match_b2 s (depth + 1) k h nx0 K)
  (InR (depth - 1) ∧
  r48_Match_b2 s (depth - 1) k h nx0 K))
  (r48_Match_b3  h  K)) := by kernel_rfl
theorem r48_Match_b2_eq (s : ByteArray) (depth : Int) (k : Int) (h : Hp) (nx0 : Int × Int × Unit → Hp → Prop) (K : Value → Hp → Prop) : r48_Match_b2 s depth k h nx0 K = (
  cond (decide (depth = 0))
  (K (.int .i64 k) h)
  (r48_Match_b4 s depth k h nx0 K)) := by kernel_rfl
theorem r48_Match_b3_eq  (h : Hp)  (K : Value → Hp → Prop) : r48_Match_b3  h  K = (
  K (.int .i64 (-1)) h) := by kernel_rfl
theorem r48_Match_b4_eq (s : ByteArray) (depth : Int) (k : Int) (h : Hp) (nx0 : Int × Int × Unit → Hp → Prop) (K : Value → Hp → Prop) : r48_Match_b4 s depth k h nx0 K = (
  InR (k + 1) ∧
  nx0 (depth, k + 1, ()) h) := by kernel_rfl
theorem r48_Match_call {s : ByteArray} {i : Int} {h : Hp} {K : Value → Hp → Prop} (hk : r48_Match_b0 s i h K) : HCalls Try.prog 66 #[.string s, .int .i64 i] h K :=
  calls_of_snd r48_Match_an Try.func66 (c := bodyOf Try.f66) rfl Try.ntmps66 (Nat.le_of_ble_eq_true rfl) (snd_3 F_ok F_mixed) hk

/-! ### r48_Open -/
def r48_Open_an : Ann := .node none (.leaf) (.node none (.leaf) (.node (some []) (.node none (.leaf) (.loop [0, 1] [(5, .int .i64), (6, .int .i64)] (.node none (.leaf) (.node (some [0, 1, 5, 6]) (.leaf) (.leaf))))) (.leaf)))
def r48_Open_K0  (K : Value → Hp → Prop) : Exit → Env → Hp → Prop := retK Try.prog Try.f67.results.toList K
def r48_Open_K1  (K : Value → Hp → Prop) : Exit → Env → Hp → Prop := thenE (fun env h => sx_2 Try.prog F 23 (cp [1, 1, 1] (bodyOf Try.f67)) (ap [1, 1, 1] r48_Open_an) (rs [] env) h (r48_Open_K0  K)) (r48_Open_K0  K)
def r48_Open_K2  (K : Value → Hp → Prop) : Exit → Env → Hp → Prop := blockE 0 (r48_Open_K1  K)
def r48_Open_K3 (nx0 : Int × Int × Unit → Hp → Prop) (K : Value → Hp → Prop) : Exit → Env → Hp → Prop := thenE (fun env h => getV [(5, .int .i64), (6, .int .i64)] env fun s => nx0 s h) (r48_Open_K2  K)
def r48_Open_b0 (s : ByteArray) (v : Int) (h : Hp)  (K : Value → Hp → Prop) : Prop :=
  sx_3 Try.prog F 23 (cp [] (bodyOf Try.f67)) (ap [] r48_Open_an) [(0, .string s), (1, .int .i64 v)] h (r48_Open_K0  K)
def r48_Open_b1 (nv : Int) (i : Int) (s : ByteArray) (v : Int) (h : Hp) (nx0 : Int × Int × Unit → Hp → Prop) (K : Value → Hp → Prop) : Prop :=
  sx_2 Try.prog F 23 (cp [1, 1, 0, 1, 2, 2] (bodyOf Try.f67)) (ap [1, 1, 0, 1, 2] r48_Open_an) [(5, .int .i64 nv), (6, .int .i64 i), (0, .string s), (1, .int .i64 v)] h (r48_Open_K3 nx0 K)
def r48_Open_b2 (s : ByteArray) (v : Int) (nv : Int) (i : Int) (h : Hp) (nx0 : Int × Int × Unit → Hp → Prop) (K : Value → Hp → Prop) : Prop :=
  sx_1 Try.prog F 23 (cp [1, 1, 0, 1, 2, 2, 1, 1] (bodyOf Try.f67)) (ap [1, 1, 0, 1, 2, 1, 1] r48_Open_an) [(0, .string s), (1, .int .i64 v), (5, .int .i64 nv), (6, .int .i64 i)] h (r48_Open_K3 nx0 K)
def r48_Open_b3  (h : Hp)  (K : Value → Hp → Prop) : Prop :=
  sx_2 Try.prog F 23 (cp [1, 1, 1] (bodyOf Try.f67)) (ap [1, 1, 1] r48_Open_an) [] h (r48_Open_K0  K)
theorem r48_Open_b0_eq (s : ByteArray) (v : Int) (h : Hp)  (K : Value → Hp → Prop) : r48_Open_b0 s v h  K = (
  LoopVC ((0, 0, ()) : Int × Int × Unit) h (fun (nx0 : Int × Int × Unit → Hp → Prop) (s1 : Int × Int × Unit) h1 => r48_Open_b1 s1.1 s1.2.1 s v h1 nx0 K)) := by kernel_rfl
theorem r48_Open_b1_eq (nv : Int) (i : Int) (s : ByteArray) (v : Int) (h : Hp) (nx0 : Int × Int × Unit → Hp → Prop) (K : Value → Hp → Prop) : r48_Open_b1 nv i s v h nx0 K = (
  cond (decide (i < (s.size : Int)))
  ((0 ≤ i ∧ i < (s.size : Int)) ∧
  cond (decide (((s.data.toList.getD (Int.toNat i) 0).toNat : Int) = 40))
  (cond (decide (nv = v))
  (K (.int .i64 i) h)
  (InR (nv + 1) ∧
  r48_Open_b2 s v (nv + 1) i h nx0 K))
  (r48_Open_b2 s v nv i h nx0 K))
  (r48_Open_b3  h  K)) := by kernel_rfl
theorem r48_Open_b2_eq (s : ByteArray) (v : Int) (nv : Int) (i : Int) (h : Hp) (nx0 : Int × Int × Unit → Hp → Prop) (K : Value → Hp → Prop) : r48_Open_b2 s v nv i h nx0 K = (
  InR (i + 1) ∧
  nx0 (nv, i + 1, ()) h) := by kernel_rfl
theorem r48_Open_b3_eq  (h : Hp)  (K : Value → Hp → Prop) : r48_Open_b3  h  K = (
  K (.int .i64 (-1)) h) := by kernel_rfl
theorem r48_Open_call {s : ByteArray} {v : Int} {h : Hp} {K : Value → Hp → Prop} (hk : r48_Open_b0 s v h K) : HCalls Try.prog 67 #[.string s, .int .i64 v] h K :=
  calls_of_snd r48_Open_an Try.func67 (c := bodyOf Try.f67) rfl Try.ntmps67 (Nat.le_of_ble_eq_true rfl) (snd_3 F_ok F_mixed) hk

/-! ### r48_Node -/
def r48_Node_an : Ann := .node none (.leaf) (.node none (.leaf) (.node (some [5]) (.node none (.leaf) (.loop [0, 1] [(5, .int .i64), (6, .int .i64)] (.node none (.leaf) (.node (some [0, 1, 5, 6]) (.leaf) (.leaf))))) (.leaf)))
def r48_Node_K0  (K : Value → Hp → Prop) : Exit → Env → Hp → Prop := retK Try.prog Try.f68.results.toList K
def r48_Node_K1  (K : Value → Hp → Prop) : Exit → Env → Hp → Prop := thenE (fun env h => sx_2 Try.prog F 19 (cp [1, 1, 1] (bodyOf Try.f68)) (ap [1, 1, 1] r48_Node_an) (rs [5] env) h (r48_Node_K0  K)) (r48_Node_K0  K)
def r48_Node_K2  (K : Value → Hp → Prop) : Exit → Env → Hp → Prop := blockE 0 (r48_Node_K1  K)
def r48_Node_K3 (nx0 : Int × Int × Unit → Hp → Prop) (K : Value → Hp → Prop) : Exit → Env → Hp → Prop := thenE (fun env h => getV [(5, .int .i64), (6, .int .i64)] env fun s => nx0 s h) (r48_Node_K2  K)
def r48_Node_b0 (s : ByteArray) (i : Int) (h : Hp)  (K : Value → Hp → Prop) : Prop :=
  sx_3 Try.prog F 19 (cp [] (bodyOf Try.f68)) (ap [] r48_Node_an) [(0, .string s), (1, .int .i64 i)] h (r48_Node_K0  K)
def r48_Node_b1 (nv : Int) (k : Int) (s : ByteArray) (i : Int) (h : Hp) (nx0 : Int × Int × Unit → Hp → Prop) (K : Value → Hp → Prop) : Prop :=
  sx_2 Try.prog F 19 (cp [1, 1, 0, 1, 2, 2] (bodyOf Try.f68)) (ap [1, 1, 0, 1, 2] r48_Node_an) [(5, .int .i64 nv), (6, .int .i64 k), (0, .string s), (1, .int .i64 i)] h (r48_Node_K3 nx0 K)
def r48_Node_b2 (s : ByteArray) (i : Int) (nv : Int) (k : Int) (h : Hp) (nx0 : Int × Int × Unit → Hp → Prop) (K : Value → Hp → Prop) : Prop :=
  sx_1 Try.prog F 19 (cp [1, 1, 0, 1, 2, 2, 1, 1] (bodyOf Try.f68)) (ap [1, 1, 0, 1, 2, 1, 1] r48_Node_an) [(0, .string s), (1, .int .i64 i), (5, .int .i64 nv), (6, .int .i64 k)] h (r48_Node_K3 nx0 K)
def r48_Node_b3 (nv : Int) (h : Hp)  (K : Value → Hp → Prop) : Prop :=
  sx_2 Try.prog F 19 (cp [1, 1, 1] (bodyOf Try.f68)) (ap [1, 1, 1] r48_Node_an) [(5, .int .i64 nv)] h (r48_Node_K0  K)
theorem r48_Node_b0_eq (s : ByteArray) (i : Int) (h : Hp)  (K : Value → Hp → Prop) : r48_Node_b0 s i h  K = (
  LoopVC ((0, 0, ()) : Int × Int × Unit) h (fun (nx0 : Int × Int × Unit → Hp → Prop) (s1 : Int × Int × Unit) h1 => r48_Node_b1 s1.1 s1.2.1 s i h1 nx0 K)) := by kernel_rfl
theorem r48_Node_b1_eq (nv : Int) (k : Int) (s : ByteArray) (i : Int) (h : Hp) (nx0 : Int × Int × Unit → Hp → Prop) (K : Value → Hp → Prop) : r48_Node_b1 nv k s i h nx0 K = (
  cond (decide (k < i))
  ((0 ≤ k ∧ k < (s.size : Int)) ∧
  cond (decide (((s.data.toList.getD (Int.toNat k) 0).toNat : Int) = 40))
  (InR (nv + 1) ∧
  r48_Node_b2 s i (nv + 1) k h nx0 K)
  (r48_Node_b2 s i nv k h nx0 K))
  (r48_Node_b3 nv h  K)) := by kernel_rfl
theorem r48_Node_b2_eq (s : ByteArray) (i : Int) (nv : Int) (k : Int) (h : Hp) (nx0 : Int × Int × Unit → Hp → Prop) (K : Value → Hp → Prop) : r48_Node_b2 s i nv k h nx0 K = (
  InR (k + 1) ∧
  nx0 (nv, k + 1, ()) h) := by kernel_rfl
theorem r48_Node_b3_eq (nv : Int) (h : Hp)  (K : Value → Hp → Prop) : r48_Node_b3 nv h  K = (
  K (.int .i64 nv) h) := by kernel_rfl
theorem r48_Node_call {s : ByteArray} {i : Int} {h : Hp} {K : Value → Hp → Prop} (hk : r48_Node_b0 s i h K) : HCalls Try.prog 68 #[.string s, .int .i64 i] h K :=
  calls_of_snd r48_Node_an Try.func68 (c := bodyOf Try.f68) rfl Try.ntmps68 (Nat.le_of_ble_eq_true rfl) (snd_3 F_ok F_mixed) hk

/-! ### math_bits_Len -/
def math_bits_Len_an : Ann := .leaf
def math_bits_Len_K0  (K : Value → Hp → Prop) : Exit → Env → Hp → Prop := retK Try.prog Try.f69.results.toList K
def math_bits_Len_b0 (x : Int) (h : Hp)  (K : Value → Hp → Prop) : Prop :=
  sx_1 Try.prog F 8 (cp [] (bodyOf Try.f69)) (ap [] math_bits_Len_an) [(0, .int .u64 x)] h (math_bits_Len_K0  K)
theorem math_bits_Len_b0_eq (x : Int) (h : Hp)  (K : Value → Hp → Prop) : math_bits_Len_b0 x h  K = (
  HCalls Try.prog 78 #[.int .u64 x] h fun v1 h1 => ∃ r1 : Int, v1 = .int .i64 r1 ∧
  K (.int .i64 r1) h1) := by kernel_rfl
theorem math_bits_Len_call {x : Int} {h : Hp} {K : Value → Hp → Prop} (hk : math_bits_Len_b0 x h K) : HCalls Try.prog 69 #[.int .u64 x] h K :=
  calls_of_snd math_bits_Len_an Try.func69 (c := bodyOf Try.f69) rfl Try.ntmps69 (Nat.le_of_ble_eq_true rfl) (snd_1 F_ok F_mixed) hk

/-! ### build -/
def build_an : Ann := .node none (.leaf) (.node none (.leaf) (.node (some [0, 3]) (.node none (.leaf) (.loop [0, 9, 10] [(3, .int .i64), (11, .int .i64)] (.node none (.leaf) (.node none (.leaf) (.node (some [0, 3, 9, 10, 11]) (.leaf) (.leaf)))))) (.leaf)))
def build_K0  (K : Value → Hp → Prop) : Exit → Env → Hp → Prop := retK Try.prog Try.f70.results.toList K
def build_K1  (K : Value → Hp → Prop) : Exit → Env → Hp → Prop := thenE (fun env h => sx_2 Try.prog F 41 (cp [1, 1, 1] (bodyOf Try.f70)) (ap [1, 1, 1] build_an) (rs [0, 3] env) h (build_K0  K)) (build_K0  K)
def build_K2  (K : Value → Hp → Prop) : Exit → Env → Hp → Prop := blockE 0 (build_K1  K)
def build_K3 (nx0 : Int × Int × Unit → Hp → Prop) (K : Value → Hp → Prop) : Exit → Env → Hp → Prop := thenE (fun env h => getV [(3, .int .i64), (11, .int .i64)] env fun s => nx0 s h) (build_K2  K)
def build_b0 (v : Option Addr) (h : Hp)  (K : Value → Hp → Prop) : Prop :=
  sx_3 Try.prog F 41 (cp [] (bodyOf Try.f70)) (ap [] build_an) [(0, .pointer v)] h (build_K0  K)
def build_b1 (total : Int) (t11 : Int) (v : Option Addr) (t9 : Option Addr) (t9L : Nat) (t9C : Nat) (t10 : Int) (h : Hp) (nx0 : Int × Int × Unit → Hp → Prop) (K : Value → Hp → Prop) : Prop :=
  sx_2 Try.prog F 41 (cp [1, 1, 0, 1, 2, 2] (bodyOf Try.f70)) (ap [1, 1, 0, 1, 2] build_an) [(3, .int .i64 total), (11, .int .i64 t11), (0, .pointer v), (9, .slice t9 t9L t9C), (10, .int .i64 t10)] h (build_K3 nx0 K)
def build_b2 (v : Option Addr) (total : Int) (t9 : Option Addr) (t9L : Nat) (t9C : Nat) (t10 : Int) (t11 : Int) (h : Hp) (nx0 : Int × Int × Unit → Hp → Prop) (K : Value → Hp → Prop) : Prop :=
  sx_1 Try.prog F 41 (cp [1, 1, 0, 1, 2, 2, 1, 1, 1] (bodyOf Try.f70)) (ap [1, 1, 0, 1, 2, 1, 1, 1] build_an) [(0, .pointer v), (3, .int .i64 total), (9, .slice t9 t9L t9C), (10, .int .i64 t10), (11, .int .i64 t11)] h (build_K3 nx0 K)
def build_b3 (v : Option Addr) (total : Int) (h : Hp)  (K : Value → Hp → Prop) : Prop :=
  sx_2 Try.prog F 41 (cp [1, 1, 1] (bodyOf Try.f70)) (ap [1, 1, 1] build_an) [(0, .pointer v), (3, .int .i64 total)] h (build_K0  K)
theorem build_b0_eq (v : Option Addr) (h : Hp)  (K : Value → Hp → Prop) : build_b0 v h  K = (
  NN v fun a1 =>
  ∃ (a2 : Option Addr) (L1 C1 : Nat), cell h (a1.add 1) = some (.slice a2 L1 C1) ∧
  LoopVC ((0, 0, ()) : Int × Int × Unit) h (fun (nx0 : Int × Int × Unit → Hp → Prop) (s1 : Int × Int × Unit) h1 => build_b1 s1.1 s1.2.1 v a2 L1 C1 (L1 : Int) h1 nx0 K)) := by kernel_rfl
theorem build_b1_eq (total : Int) (t11 : Int) (v : Option Addr) (t9 : Option Addr) (t9L : Nat) (t9C : Nat) (t10 : Int) (h : Hp) (nx0 : Int × Int × Unit → Hp → Prop) (K : Value → Hp → Prop) : build_b1 total t11 v t9 t9L t9C t10 h nx0 K = (
  cond (decide (t11 < t10))
  ((0 ≤ t11 ∧ t11 < (t9L : Int)) ∧
  NN t9 fun a3 =>
  ∃ n1 : Int, cell h (a3.add (Int.toNat t11 * 1)) = some (.int .u64 n1) ∧
  NN v fun a4 =>
  ∃ (a5 : Option Addr) (L2 C2 : Nat), cell h (a4.add 2) = some (.slice a5 L2 C2) ∧
  New h (.cells #[.int .i64 total] 3) fun b1 h2 =>
  appendV Try.prog 22 22 (.slice a5 L2 C2) (.slice (some ⟨b1, 0, none⟩) 1 1) h2 (slK fun a6 l1 c1 h3 =>
  NN v fun a7 =>
  Wr h3 (a7.add 2) (.slice a6 l1 c1) fun h4 =>
  HCalls Try.prog 79 #[.int .u64 n1] h4 fun v1 h5 => ∃ r1 : Int, v1 = .int .i64 r1 ∧
  InR (total + r1) ∧
  build_b2 v (total + r1) t9 t9L t9C t10 t11 h5 nx0 K))
  (build_b3 v total h  K)) := by kernel_rfl
theorem build_b2_eq (v : Option Addr) (total : Int) (t9 : Option Addr) (t9L : Nat) (t9C : Nat) (t10 : Int) (t11 : Int) (h : Hp) (nx0 : Int × Int × Unit → Hp → Prop) (K : Value → Hp → Prop) : build_b2 v total t9 t9L t9C t10 t11 h nx0 K = (
  InR (t11 + 1) ∧
  nx0 (total, t11 + 1, ()) h) := by kernel_rfl
theorem build_b3_eq (v : Option Addr) (total : Int) (h : Hp)  (K : Value → Hp → Prop) : build_b3 v total h  K = (
  NN v fun a8 =>
  ∃ (a9 : Option Addr) (L3 C3 : Nat), cell h (a8.add 2) = some (.slice a9 L3 C3) ∧
  New h (.cells #[.int .i64 total] 3) fun b2 h6 =>
  appendV Try.prog 22 22 (.slice a9 L3 C3) (.slice (some ⟨b2, 0, none⟩) 1 1) h6 (slK fun a10 l2 c2 h7 =>
  NN v fun a11 =>
  Wr h7 (a11.add 2) (.slice a10 l2 c2) fun h8 =>
  K (.pointer v) h8)) := by kernel_rfl
theorem build_call {v : Option Addr} {h : Hp} {K : Value → Hp → Prop} (hk : build_b0 v h K) : HCalls Try.prog 70 #[.pointer v] h K :=
  calls_of_snd build_an Try.func70 (c := bodyOf Try.f70) rfl Try.ntmps70 (Nat.le_of_ble_eq_true rfl) (snd_3 F_ok F_mixed) hk

/-! ### Select -/
def Select_an : Ann := .node none (.leaf) (.node (some [3, 4, 5]) (.leaf) (.leaf))
def Select_K0  (K : Value → Hp → Prop) : Exit → Env → Hp → Prop := retK Try.prog Try.f71.results.toList K
def Select_b0 (v : Option Addr) (bit : Bool) (k : Int) (h : Hp)  (K : Value → Hp → Prop) : Prop :=
  sx_2 Try.prog F 30 (cp [] (bodyOf Try.f71)) (ap [] Select_an) [(0, .pointer v), (1, .bool bit), (2, .int .i64 k)] h (Select_K0  K)
def Select_b1 (v : Option Addr) (bit : Option Addr) (k : Option Addr) (h : Hp)  (K : Value → Hp → Prop) : Prop :=
  sx_1 Try.prog F 30 (cp [1, 1] (bodyOf Try.f71)) (ap [1, 1] Select_an) [(3, .pointer v), (4, .pointer bit), (5, .pointer k)] h (Select_K0  K)
theorem Select_b0_eq (v : Option Addr) (bit : Bool) (k : Int) (h : Hp)  (K : Value → Hp → Prop) : Select_b0 v bit k h  K = (
  New h (.cells #[.pointer v] 66) fun b1 h1 =>
  New h1 (.cells #[.bool bit] 4) fun b2 h2 =>
  New h2 (.cells #[.int .i64 k] 3) fun b3 h3 =>
  ∃ p1 : Option Addr, cell h3 ⟨b1, 0, none⟩ = some (.pointer p1) ∧
  cond p1.isNone
  (K (.tuple #[.int .i64 0, .int .i64 1]) h3)
  (∃ n1 : Int, cell h3 ⟨b3, 0, none⟩ = some (.int .i64 n1) ∧
  cond (decide (n1 < 0))
  (K (.tuple #[.int .i64 0, .int .i64 2]) h3)
  (∃ n2 : Int, cell h3 ⟨b3, 0, none⟩ = some (.int .i64 n2) ∧
  ∃ p2 : Option Addr, cell h3 ⟨b1, 0, none⟩ = some (.pointer p2) ∧
  ∃ b4 : Bool, cell h3 ⟨b2, 0, none⟩ = some (.bool b4) ∧
  ∃ p3 : Option Addr, cell h3 ⟨b1, 0, none⟩ = some (.pointer p3) ∧
  NN p3 fun a1 =>
  ∃ n3 : Int, cell h3 a1 = some (.int .i64 n3) ∧
  ∃ r1 : Int, HCalls Try.prog 80 #[.pointer p2, .bool b4, .int .i64 n3] h3 (fun v1 h4 => v1 = .int .i64 r1 ∧ h4 = h3) ∧
  cond (decide (r1 ≤ n2))
  (K (.tuple #[.int .i64 0, .int .i64 12]) h3)
  (Select_b1 (some ⟨b1, 0, none⟩) (some ⟨b2, 0, none⟩) (some ⟨b3, 0, none⟩) h3  K)))) := by kernel_rfl
theorem Select_b1_eq (v : Option Addr) (bit : Option Addr) (k : Option Addr) (h : Hp)  (K : Value → Hp → Prop) : Select_b1 v bit k h  K = (
  NN v fun a2 =>
  ∃ p4 : Option Addr, cell h a2 = some (.pointer p4) ∧
  NN p4 fun a3 =>
  ∃ n4 : Int, cell h a3 = some (.int .i64 n4) ∧
  HCalls Try.prog 50 #[.int .i64 n4, .func (.func 81) #[] #[.pointer v, .pointer bit, .pointer k]] h fun v2 h5 => ∃ r2 : Int, v2 = .int .i64 r2 ∧
  K (.tuple #[.int .i64 r2, .int .i64 0]) h5) := by kernel_rfl
theorem Select_call {v : Option Addr} {bit : Bool} {k : Int} {h : Hp} {K : Value → Hp → Prop} (hk : Select_b0 v bit k h K) : HCalls Try.prog 71 #[.pointer v, .bool bit, .int .i64 k] h K :=
  calls_of_snd Select_an Try.func71 (c := bodyOf Try.f71) rfl Try.ntmps71 (Nat.le_of_ble_eq_true rfl) (snd_2 F_ok F_mixed) hk

/-! ### r48_Parents -/
def r48_Parents_an : Ann := .node none (.leaf) (.node (some [0]) (.leaf) (.node (some []) (.node none (.leaf) (.loop [0] [(3, .int .i64)] (.node none (.leaf) (.node (some [0, 3]) (.leaf) (.leaf))))) (.leaf)))
def r48_Parents_K0  (K : Value → Hp → Prop) : Exit → Env → Hp → Prop := retK Try.prog Try.f72.results.toList K
def r48_Parents_K1  (K : Value → Hp → Prop) : Exit → Env → Hp → Prop := thenE (fun env h => sx_2 Try.prog F 32 (cp [1, 1, 1] (bodyOf Try.f72)) (ap [1, 1, 1] r48_Parents_an) (rs [] env) h (r48_Parents_K0  K)) (r48_Parents_K0  K)
def r48_Parents_K2  (K : Value → Hp → Prop) : Exit → Env → Hp → Prop := blockE 0 (r48_Parents_K1  K)
def r48_Parents_K3 (nx0 : Int × Unit → Hp → Prop) (K : Value → Hp → Prop) : Exit → Env → Hp → Prop := thenE (fun env h => getV [(3, .int .i64)] env fun s => nx0 s h) (r48_Parents_K2  K)
def r48_Parents_b0 (l : Option Addr) (lL : Nat) (lC : Nat) (h : Hp)  (K : Value → Hp → Prop) : Prop :=
  sx_4 Try.prog F 32 (cp [] (bodyOf Try.f72)) (ap [] r48_Parents_an) [(0, .slice l lL lC)] h (r48_Parents_K0  K)
def r48_Parents_b1 (l : Option Addr) (lL : Nat) (lC : Nat) (h : Hp)  (K : Value → Hp → Prop) : Prop :=
  sx_3 Try.prog F 32 (cp [1, 1] (bodyOf Try.f72)) (ap [1, 1] r48_Parents_an) [(0, .slice l lL lC)] h (r48_Parents_K0  K)
def r48_Parents_b2 (i : Int) (l : Option Addr) (lL : Nat) (lC : Nat) (h : Hp) (nx0 : Int × Unit → Hp → Prop) (K : Value → Hp → Prop) : Prop :=
  sx_2 Try.prog F 32 (cp [1, 1, 0, 1, 2, 2] (bodyOf Try.f72)) (ap [1, 1, 0, 1, 2] r48_Parents_an) [(3, .int .i64 i), (0, .slice l lL lC)] h (r48_Parents_K3 nx0 K)
def r48_Parents_b3 (l : Option Addr) (lL : Nat) (lC : Nat) (i : Int) (h : Hp) (nx0 : Int × Unit → Hp → Prop) (K : Value → Hp → Prop) : Prop :=
  sx_1 Try.prog F 32 (cp [1, 1, 0, 1, 2, 2, 1, 1] (bodyOf Try.f72)) (ap [1, 1, 0, 1, 2, 1, 1] r48_Parents_an) [(0, .slice l lL lC), (3, .int .i64 i)] h (r48_Parents_K3 nx0 K)
def r48_Parents_b4  (h : Hp)  (K : Value → Hp → Prop) : Prop :=
  sx_2 Try.prog F 32 (cp [1, 1, 1] (bodyOf Try.f72)) (ap [1, 1, 1] r48_Parents_an) [] h (r48_Parents_K0  K)
theorem r48_Parents_b0_eq (l : Option Addr) (lL : Nat) (lC : Nat) (h : Hp)  (K : Value → Hp → Prop) : r48_Parents_b0 l lL lC h  K = (
  cond (decide ((lL : Int) = 0))
  (K (.bool false) h)
  ((0 ≤ (0 : Int) ∧ (0 : Int) < (lL : Int)) ∧
  NN l fun a1 =>
  ∃ n1 : Int, cell h (a1.add (Int.toNat (0 : Int) * 1)) = some (.int .i64 n1) ∧
  cond (!decide (n1 = (-1)))
  (K (.bool false) h)
  (r48_Parents_b1 l lL lC h  K))) := by kernel_rfl
theorem r48_Parents_b1_eq (l : Option Addr) (lL : Nat) (lC : Nat) (h : Hp)  (K : Value → Hp → Prop) : r48_Parents_b1 l lL lC h  K = (
  LoopVC ((1, ()) : Int × Unit) h (fun (nx0 : Int × Unit → Hp → Prop) (s1 : Int × Unit) h1 => r48_Parents_b2 s1.1 l lL lC h1 nx0 K)) := by kernel_rfl
theorem r48_Parents_b2_eq (i : Int) (l : Option Addr) (lL : Nat) (lC : Nat) (h : Hp) (nx0 : Int × Unit → Hp → Prop) (K : Value → Hp → Prop) : r48_Parents_b2 i l lL lC h nx0 K = (
  cond (decide (i < (lL : Int)))
  ((0 ≤ i ∧ i < (lL : Int)) ∧
  NN l fun a2 =>
  ∃ n2 : Int, cell h (a2.add (Int.toNat i * 1)) = some (.int .i64 n2) ∧
  cond (decide (n2 < 0))
  (K (.bool false) h)
  ((0 ≤ i ∧ i < (lL : Int)) ∧
  NN l fun a3 =>
  ∃ n3 : Int, cell h (a3.add (Int.toNat i * 1)) = some (.int .i64 n3) ∧
  cond (decide (i ≤ n3))
  (K (.bool false) h)
  (r48_Parents_b3 l lL lC i h nx0 K)))
  (r48_Parents_b4  h  K)) := by kernel_rfl
theorem r48_Parents_b3_eq (l : Option Addr) (lL : Nat) (lC : Nat) (i : Int) (h : Hp) (nx0 : Int × Unit → Hp → Prop) (K : Value → Hp → Prop) : r48_Parents_b3 l lL lC i h nx0 K = (
  InR (i + 1) ∧
  nx0 (i + 1, ()) h) := by kernel_rfl
theorem r48_Parents_b4_eq  (h : Hp)  (K : Value → Hp → Prop) : r48_Parents_b4  h  K = (
  K (.bool true) h) := by kernel_rfl
theorem r48_Parents_call {l : Option Addr} {lL : Nat} {lC : Nat} {h : Hp} {K : Value → Hp → Prop} (hk : r48_Parents_b0 l lL lC h K) : HCalls Try.prog 72 #[.slice l lL lC] h K :=
  calls_of_snd r48_Parents_an Try.func72 (c := bodyOf Try.f72) rfl Try.ntmps72 (Nat.le_of_ble_eq_true rfl) (snd_4 F_ok F_mixed) hk

/-! ### r48_text -/
def r48_text_an : Ann := .node none (.leaf) (.node none (.leaf) (.node (some [5]) (.node none (.leaf) (.loop [0, 1] [(5, .str), (6, .int .i64)] (.node none (.leaf) (.node (some [0, 1, 5, 6]) (.leaf) (.leaf))))) (.leaf)))
def r48_text_K0  (K : Value → Hp → Prop) : Exit → Env → Hp → Prop := retK Try.prog Try.f73.results.toList K
def r48_text_K1  (K : Value → Hp → Prop) : Exit → Env → Hp → Prop := thenE (fun env h => sx_2 Try.prog F 28 (cp [1, 1, 1] (bodyOf Try.f73)) (ap [1, 1, 1] r48_text_an) (rs [5] env) h (r48_text_K0  K)) (r48_text_K0  K)
def r48_text_K2  (K : Value → Hp → Prop) : Exit → Env → Hp → Prop := blockE 0 (r48_text_K1  K)
def r48_text_K3 (nx0 : ByteArray × Int × Unit → Hp → Prop) (K : Value → Hp → Prop) : Exit → Env → Hp → Prop := thenE (fun env h => getV [(5, .str), (6, .int .i64)] env fun s => nx0 s h) (r48_text_K2  K)
def r48_text_b0 (l : Option Addr) (lL : Nat) (lC : Nat) (v : Int) (h : Hp)  (K : Value → Hp → Prop) : Prop :=
  sx_3 Try.prog F 28 (cp [] (bodyOf Try.f73)) (ap [] r48_text_an) [(0, .slice l lL lC), (1, .int .i64 v)] h (r48_text_K0  K)
def r48_text_b1 (s : ByteArray) (i : Int) (l : Option Addr) (lL : Nat) (lC : Nat) (v : Int) (h : Hp) (nx0 : ByteArray × Int × Unit → Hp → Prop) (K : Value → Hp → Prop) : Prop :=
  sx_2 Try.prog F 28 (cp [1, 1, 0, 1, 2, 2] (bodyOf Try.f73)) (ap [1, 1, 0, 1, 2] r48_text_an) [(5, .string s), (6, .int .i64 i), (0, .slice l lL lC), (1, .int .i64 v)] h (r48_text_K3 nx0 K)
def r48_text_b2 (l : Option Addr) (lL : Nat) (lC : Nat) (v : Int) (s : ByteArray) (i : Int) (h : Hp) (nx0 : ByteArray × Int × Unit → Hp → Prop) (K : Value → Hp → Prop) : Prop :=
  sx_1 Try.prog F 28 (cp [1, 1, 0, 1, 2, 2, 1, 1] (bodyOf Try.f73)) (ap [1, 1, 0, 1, 2, 1, 1] r48_text_an) [(0, .slice l lL lC), (1, .int .i64 v), (5, .string s), (6, .int .i64 i)] h (r48_text_K3 nx0 K)
def r48_text_b3 (s : ByteArray) (h : Hp)  (K : Value → Hp → Prop) : Prop :=
  sx_2 Try.prog F 28 (cp [1, 1, 1] (bodyOf Try.f73)) (ap [1, 1, 1] r48_text_an) [(5, .string s)] h (r48_text_K0  K)
theorem r48_text_b0_eq (l : Option Addr) (lL : Nat) (lC : Nat) (v : Int) (h : Hp)  (K : Value → Hp → Prop) : r48_text_b0 l lL lC v h  K = (
  InR (v + 1) ∧
  LoopVC (((⟨#[40]⟩ : ByteArray), v + 1, ()) : ByteArray × Int × Unit) h (fun (nx0 : ByteArray × Int × Unit → Hp → Prop) (s1 : ByteArray × Int × Unit) h1 => r48_text_b1 s1.1 s1.2.1 l lL lC v h1 nx0 K)) := by kernel_rfl
theorem r48_text_b1_eq (s : ByteArray) (i : Int) (l : Option Addr) (lL : Nat) (lC : Nat) (v : Int) (h : Hp) (nx0 : ByteArray × Int × Unit → Hp → Prop) (K : Value → Hp → Prop) : r48_text_b1 s i l lL lC v h nx0 K = (
  cond (decide (i < (lL : Int)))
  ((0 ≤ i ∧ i < (lL : Int)) ∧
  NN l fun a1 =>
  ∃ n1 : Int, cell h (a1.add (Int.toNat i * 1)) = some (.int .i64 n1) ∧
  cond (decide (n1 = v))
  (HCalls Try.prog 73 #[.slice l lL lC, .int .i64 i] h fun v1 h2 => ∃ r1 : ByteArray, v1 = .string r1 ∧
  InR (s.size + r1.size) ∧
  r48_text_b2 l lL lC v (s ++ r1) i h2 nx0 K)
  (r48_text_b2 l lL lC v s i h nx0 K))
  (r48_text_b3 s h  K)) := by kernel_rfl
theorem r48_text_b2_eq (l : Option Addr) (lL : Nat) (lC : Nat) (v : Int) (s : ByteArray) (i : Int) (h : Hp) (nx0 : ByteArray × Int × Unit → Hp → Prop) (K : Value → Hp → Prop) : r48_text_b2 l lL lC v s i h nx0 K = (
  InR (i + 1) ∧
  nx0 (s, i + 1, ()) h) := by kernel_rfl
theorem r48_text_b3_eq (s : ByteArray) (h : Hp)  (K : Value → Hp → Prop) : r48_text_b3 s h  K = (
  InR (s.size + (⟨#[41]⟩ : ByteArray).size) ∧
  K (.string (s ++ (⟨#[41]⟩ : ByteArray))) h) := by kernel_rfl
theorem r48_text_call {l : Option Addr} {lL : Nat} {lC : Nat} {v : Int} {h : Hp} {K : Value → Hp → Prop} (hk : r48_text_b0 l lL lC v h K) : HCalls Try.prog 73 #[.slice l lL lC, .int .i64 v] h K :=
  calls_of_snd r48_text_an Try.func73 (c := bodyOf Try.f73) rfl Try.ntmps73 (Nat.le_of_ble_eq_true rfl) (snd_3 F_ok F_mixed) hk

/-! ### Len -/
def Len_an : Ann := .leaf
def Len_K0  (K : Value → Hp → Prop) : Exit → Env → Hp → Prop := retK Try.prog Try.f74.results.toList K
def Len_b0 (v : Option Addr) (h : Hp)  (K : Value → Hp → Prop) : Prop :=
  sx_1 Try.prog F 9 (cp [] (bodyOf Try.f74)) (ap [] Len_an) [(0, .pointer v)] h (Len_K0  K)
theorem Len_b0_eq (v : Option Addr) (h : Hp)  (K : Value → Hp → Prop) : Len_b0 v h  K = (
  cond v.isNone
  (K (.int .i64 0) h)
  (NN v fun a1 =>
  ∃ n1 : Int, cell h a1 = some (.int .i64 n1) ∧
  K (.int .i64 n1) h)) := by kernel_rfl
theorem Len_call {v : Option Addr} {h : Hp} {K : Value → Hp → Prop} (hk : Len_b0 v h K) : HCalls Try.prog 74 #[.pointer v] h K :=
  calls_of_snd Len_an Try.func74 (c := bodyOf Try.f74) rfl Try.ntmps74 (Nat.le_of_ble_eq_true rfl) (snd_1 F_ok F_mixed) hk

/-! ### get -/
def get_an : Ann := .leaf
def get_K0  (K : Value → Hp → Prop) : Exit → Env → Hp → Prop := retK Try.prog Try.f75.results.toList K
def get_b0 (v : Option Addr) (i : Int) (h : Hp)  (K : Value → Hp → Prop) : Prop :=
  sx_1 Try.prog F 18 (cp [] (bodyOf Try.f75)) (ap [] get_an) [(0, .pointer v), (1, .int .i64 i)] h (get_K0  K)
theorem get_b0_eq (v : Option Addr) (i : Int) (h : Hp)  (K : Value → Hp → Prop) : get_b0 v i h  K = (
  NN v fun a1 =>
  ∃ (a2 : Option Addr) (L1 C1 : Nat), cell h (a1.add 1) = some (.slice a2 L1 C1) ∧
  ∃ q1 : Int, Sx.Quo .i64 i 64 q1 ∧
  (0 ≤ q1 ∧ q1 < (L1 : Int)) ∧
  NN a2 fun a3 =>
  ∃ n1 : Int, cell h (a3.add (Int.toNat q1 * 1)) = some (.int .u64 n1) ∧
  ∃ r1 : Int, Sx.Rem i 64 r1 ∧
  ∃ sr1 : Int, Sx.Shr .u64 n1 r1 sr1 ∧
  ∃ an1 : Int, Sx.And .u64 sr1 1 an1 ∧
  K (.bool (decide (an1 = 1))) h) := by kernel_rfl
theorem get_call {v : Option Addr} {i : Int} {h : Hp} {K : Value → Hp → Prop} (hk : get_b0 v i h K) : HCalls Try.prog 75 #[.pointer v, .int .i64 i] h K :=
  calls_of_snd get_an Try.func75 (c := bodyOf Try.f75) rfl Try.ntmps75 (Nat.le_of_ble_eq_true rfl) (snd_1 F_ok F_mixed) hk

/-! ### Rank -/
def Rank_an : Ann := .node none (.leaf) (.node (some [0, 1, 2]) (.leaf) (.leaf))
def Rank_K0  (K : Value → Hp → Prop) : Exit → Env → Hp → Prop := retK Try.prog Try.f76.results.toList K
def Rank_b0 (v : Option Addr) (bit : Bool) (i : Int) (h : Hp)  (K : Value → Hp → Prop) : Prop :=
  sx_2 Try.prog F 26 (cp [] (bodyOf Try.f76)) (ap [] Rank_an) [(0, .pointer v), (1, .bool bit), (2, .int .i64 i)] h (Rank_K0  K)
def Rank_b1 (v : Option Addr) (bit : Bool) (i : Int) (h : Hp)  (K : Value → Hp → Prop) : Prop :=
  sx_1 Try.prog F 26 (cp [1, 1] (bodyOf Try.f76)) (ap [1, 1] Rank_an) [(0, .pointer v), (1, .bool bit), (2, .int .i64 i)] h (Rank_K0  K)
theorem Rank_b0_eq (v : Option Addr) (bit : Bool) (i : Int) (h : Hp)  (K : Value → Hp → Prop) : Rank_b0 v bit i h  K = (
  cond v.isNone
  (K (.tuple #[.int .i64 0, .int .i64 1]) h)
  (cond (decide (i < 0))
  (K (.tuple #[.int .i64 0, .int .i64 2]) h)
  (NN v fun a1 =>
  ∃ n1 : Int, cell h a1 = some (.int .i64 n1) ∧
  cond (decide (n1 < i))
  (K (.tuple #[.int .i64 0, .int .i64 2]) h)
  (Rank_b1 v bit i h  K)))) := by kernel_rfl
theorem Rank_b1_eq (v : Option Addr) (bit : Bool) (i : Int) (h : Hp)  (K : Value → Hp → Prop) : Rank_b1 v bit i h  K = (
  HCalls Try.prog 80 #[.pointer v, .bool bit, .int .i64 i] h fun v1 h1 => ∃ r1 : Int, v1 = .int .i64 r1 ∧
  K (.tuple #[.int .i64 r1, .int .i64 0]) h1) := by kernel_rfl
theorem Rank_call {v : Option Addr} {bit : Bool} {i : Int} {h : Hp} {K : Value → Hp → Prop} (hk : Rank_b0 v bit i h K) : HCalls Try.prog 76 #[.pointer v, .bool bit, .int .i64 i] h K :=
  calls_of_snd Rank_an Try.func76 (c := bodyOf Try.f76) rfl Try.ntmps76 (Nat.le_of_ble_eq_true rfl) (snd_2 F_ok F_mixed) hk

/-! ### math_bits_Len32 -/
def math_bits_Len32_an : Ann := .node none (.leaf) (.node (some [0, 2]) (.leaf) (.node (some [0, 2]) (.leaf) (.leaf)))
def math_bits_Len32_K0  (K : Value → Hp → Prop) : Exit → Env → Hp → Prop := retK Try.prog Try.f77.results.toList K
def math_bits_Len32_b0 (x : Int) (h : Hp)  (K : Value → Hp → Prop) : Prop :=
  sx_3 Try.prog F 19 (cp [] (bodyOf Try.f77)) (ap [] math_bits_Len32_an) [(0, .int .u32 x)] h (math_bits_Len32_K0  K)
def math_bits_Len32_b1 (x : Int) (nv : Int) (h : Hp)  (K : Value → Hp → Prop) : Prop :=
  sx_2 Try.prog F 19 (cp [1, 1] (bodyOf Try.f77)) (ap [1, 1] math_bits_Len32_an) [(0, .int .u32 x), (2, .int .i64 nv)] h (math_bits_Len32_K0  K)
def math_bits_Len32_b2 (x : Int) (nv : Int) (h : Hp)  (K : Value → Hp → Prop) : Prop :=
  sx_1 Try.prog F 19 (cp [1, 1, 1] (bodyOf Try.f77)) (ap [1, 1, 1] math_bits_Len32_an) [(0, .int .u32 x), (2, .int .i64 nv)] h (math_bits_Len32_K0  K)
theorem math_bits_Len32_b0_eq (x : Int) (h : Hp)  (K : Value → Hp → Prop) : math_bits_Len32_b0 x h  K = (
  cond (decide ((65536 : Int) ≤ x))
  (∃ sr1 : Int, Sx.Shr .u32 x 16 sr1 ∧
  math_bits_Len32_b1 sr1 16 h  K)
  (math_bits_Len32_b1 x 0 h  K)) := by kernel_rfl
theorem math_bits_Len32_b1_eq (x : Int) (nv : Int) (h : Hp)  (K : Value → Hp → Prop) : math_bits_Len32_b1 x nv h  K = (
  cond (decide ((256 : Int) ≤ x))
  (∃ sr2 : Int, Sx.Shr .u32 x 8 sr2 ∧
  InR (nv + 8) ∧
  math_bits_Len32_b2 sr2 (nv + 8) h  K)
  (math_bits_Len32_b2 x nv h  K)) := by kernel_rfl
theorem math_bits_Len32_b2_eq (x : Int) (nv : Int) (h : Hp)  (K : Value → Hp → Prop) : math_bits_Len32_b2 x nv h  K = (
  (0 ≤ IntKind.u8.wrap x ∧ IntKind.u8.wrap x < ((⟨#[0, 1, 2, 2, 3, 3, 3, 3, 4, 4, 4, 4, 4, 4, 4, 4, 5, 5, 5, 5, 5, 5, 5, 5, 5, 5, 5, 5, 5, 5, 5, 5, 6, 6, 6, 6, 6, 6, 6, 6, 6, 6, 6, 6, 6, 6, 6, 6, 6, 6, 6, 6, 6, 6, 6, 6, 6, 6, 6, 6, 6, 6, 6, 6, 7, 7, 7, 7, 7, 7, 7, 7, 7, 7, 7, 7, 7, 7, 7, 7, 7, 7, 7, 7, 7, 7, 7, 7, 7, 7, 7, 7, 7, 7, 7, 7, 7, 7, 7, 7, 7, 7, 7, 7, 7, 7, 7, 7, 7, 7, 7, 7, 7, 7, 7, 7, 7, 7, 7, 7, 7, 7, 7, 7, 7, 7, 7, 7, 8, 8, 8, 8, 8, 8, 8, 8, 8, 8, 8, 8, 8, 8, 8, 8, 8, 8, 8, 8, 8, 8, 8, 8, 8, 8, 8, 8, 8, 8, 8, 8, 8, 8, 8, 8, 8, 8, 8, 8, 8, 8, 8, 8, 8, 8, 8, 8, 8, 8, 8, 8, 8, 8, 8, 8, 8, 8, 8, 8, 8, 8, 8, 8, 8, 8, 8, 8, 8, 8, 8, 8, 8, 8, 8, 8, 8, 8, 8, 8, 8, 8, 8, 8, 8, 8, 8, 8, 8, 8, 8, 8, 8, 8, 8, 8, 8, 8, 8, 8, 8, 8, 8, 8, 8, 8, 8, 8, 8, 8, 8, 8, 8, 8, 8, 8, 8, 8, 8, 8, 8, 8, 8, 8, 8, 8, 8, 8]⟩ : ByteArray).size : Int)) ∧
  InR (((⟨#[0, 1, 2, 2, 3, 3, 3, 3, 4, 4, 4, 4, 4, 4, 4, 4, 5, 5, 5, 5, 5, 5, 5, 5, 5, 5, 5, 5, 5, 5, 5, 5, 6, 6, 6, 6, 6, 6, 6, 6, 6, 6, 6, 6, 6, 6, 6, 6, 6, 6, 6, 6, 6, 6, 6, 6, 6, 6, 6, 6, 6, 6, 6, 6, 7, 7, 7, 7, 7, 7, 7, 7, 7, 7, 7, 7, 7, 7, 7, 7, 7, 7, 7, 7, 7, 7, 7, 7, 7, 7, 7, 7, 7, 7, 7, 7, 7, 7, 7, 7, 7, 7, 7, 7, 7, 7, 7, 7, 7, 7, 7, 7, 7, 7, 7, 7, 7, 7, 7, 7, 7, 7, 7, 7, 7, 7, 7, 7, 8, 8, 8, 8, 8, 8, 8, 8, 8, 8, 8, 8, 8, 8, 8, 8, 8, 8, 8, 8, 8, 8, 8, 8, 8, 8, 8, 8, 8, 8, 8, 8, 8, 8, 8, 8, 8, 8, 8, 8, 8, 8, 8, 8, 8, 8, 8, 8, 8, 8, 8, 8, 8, 8, 8, 8, 8, 8, 8, 8, 8, 8, 8, 8, 8, 8, 8, 8, 8, 8, 8, 8, 8, 8, 8, 8, 8, 8, 8, 8, 8, 8, 8, 8, 8, 8, 8, 8, 8, 8, 8, 8, 8, 8, 8, 8, 8, 8, 8, 8, 8, 8, 8, 8, 8, 8, 8, 8, 8, 8, 8, 8, 8, 8, 8, 8, 8, 8, 8, 8, 8, 8, 8, 8, 8, 8, 8, 8]⟩ : ByteArray).data.toList.getD (Int.toNat (IntKind.u8.wrap x)) 0).toNat : Int) ∧
  InR (nv + (((⟨#[0, 1, 2, 2, 3, 3, 3, 3, 4, 4, 4, 4, 4, 4, 4, 4, 5, 5, 5, 5, 5, 5, 5, 5, 5, 5, 5, 5, 5, 5, 5, 5, 6, 6, 6, 6, 6, 6, 6, 6, 6, 6, 6, 6, 6, 6, 6, 6, 6, 6, 6, 6, 6, 6, 6, 6, 6, 6, 6, 6, 6, 6, 6, 6, 7, 7, 7, 7, 7, 7, 7, 7, 7, 7, 7, 7, 7, 7, 7, 7, 7, 7, 7, 7, 7, 7, 7, 7, 7, 7, 7, 7, 7, 7, 7, 7, 7, 7, 7, 7, 7, 7, 7, 7, 7, 7, 7, 7, 7, 7, 7, 7, 7, 7, 7, 7, 7, 7, 7, 7, 7, 7, 7, 7, 7, 7, 7, 7, 8, 8, 8, 8, 8, 8, 8, 8, 8, 8, 8, 8, 8, 8, 8, 8, 8, 8, 8, 8, 8, 8, 8, 8, 8, 8, 8, 8, 8, 8, 8, 8, 8, 8, 8, 8, 8, 8, 8, 8, 8, 8, 8, 8, 8, 8, 8, 8, 8, 8, 8, 8, 8, 8, 8, 8, 8, 8, 8, 8, 8, 8, 8, 8, 8, 8, 8, 8, 8, 8, 8, 8, 8, 8, 8, 8, 8, 8, 8, 8, 8, 8, 8, 8, 8, 8, 8, 8, 8, 8, 8, 8, 8, 8, 8, 8, 8, 8, 8, 8, 8, 8, 8, 8, 8, 8, 8, 8, 8, 8, 8, 8, 8, 8, 8, 8, 8, 8, 8, 8, 8, 8, 8, 8, 8, 8, 8, 8]⟩ : ByteArray).data.toList.getD (Int.toNat (IntKind.u8.wrap x)) 0).toNat : Int)) ∧
  K (.int .i64 (nv + (((⟨#[0, 1, 2, 2, 3, 3, 3, 3, 4, 4, 4, 4, 4, 4, 4, 4, 5, 5, 5, 5, 5, 5, 5, 5, 5, 5, 5, 5, 5, 5, 5, 5, 6, 6, 6, 6, 6, 6, 6, 6, 6, 6, 6, 6, 6, 6, 6, 6, 6, 6, 6, 6, 6, 6, 6, 6, 6, 6, 6, 6, 6, 6, 6, 6, 7, 7, 7, 7, 7, 7, 7, 7, 7, 7, 7, 7, 7, 7, 7, 7, 7, 7, 7, 7, 7, 7, 7, 7, 7, 7, 7, 7, 7, 7, 7, 7, 7, 7, 7, 7, 7, 7, 7, 7, 7, 7, 7, 7, 7, 7, 7, 7, 7, 7, 7, 7, 7, 7, 7, 7, 7, 7, 7, 7, 7, 7, 7, 7, 8, 8, 8, 8, 8, 8, 8, 8, 8, 8, 8, 8, 8, 8, 8, 8, 8, 8, 8, 8, 8, 8, 8, 8, 8, 8, 8, 8, 8, 8, 8, 8, 8, 8, 8, 8, 8, 8, 8, 8, 8, 8, 8, 8, 8, 8, 8, 8, 8, 8, 8, 8, 8, 8, 8, 8, 8, 8, 8, 8, 8, 8, 8, 8, 8, 8, 8, 8, 8, 8, 8, 8, 8, 8, 8, 8, 8, 8, 8, 8, 8, 8, 8, 8, 8, 8, 8, 8, 8, 8, 8, 8, 8, 8, 8, 8, 8, 8, 8, 8, 8, 8, 8, 8, 8, 8, 8, 8, 8, 8, 8, 8, 8, 8, 8, 8, 8, 8, 8, 8, 8, 8, 8, 8, 8, 8, 8, 8]⟩ : ByteArray).data.toList.getD (Int.toNat (IntKind.u8.wrap x)) 0).toNat : Int))) h) := by kernel_rfl
theorem math_bits_Len32_call {x : Int} {h : Hp} {K : Value → Hp → Prop} (hk : math_bits_Len32_b0 x h K) : HCalls Try.prog 77 #[.int .u32 x] h K :=
  calls_of_snd math_bits_Len32_an Try.func77 (c := bodyOf Try.f77) rfl Try.ntmps77 (Nat.le_of_ble_eq_true rfl) (snd_3 F_ok F_mixed) hk

/-! ### math_bits_Len64 -/
def math_bits_Len64_an : Ann := .node none (.leaf) (.node (some [0, 2]) (.leaf) (.node (some [0, 2]) (.leaf) (.node (some [0, 2]) (.leaf) (.leaf))))
def math_bits_Len64_K0  (K : Value → Hp → Prop) : Exit → Env → Hp → Prop := retK Try.prog Try.f78.results.toList K
def math_bits_Len64_b0 (x : Int) (h : Hp)  (K : Value → Hp → Prop) : Prop :=
  sx_4 Try.prog F 25 (cp [] (bodyOf Try.f78)) (ap [] math_bits_Len64_an) [(0, .int .u64 x)] h (math_bits_Len64_K0  K)
def math_bits_Len64_b1 (x : Int) (nv : Int) (h : Hp)  (K : Value → Hp → Prop) : Prop :=
  sx_3 Try.prog F 25 (cp [1, 1] (bodyOf Try.f78)) (ap [1, 1] math_bits_Len64_an) [(0, .int .u64 x), (2, .int .i64 nv)] h (math_bits_Len64_K0  K)
def math_bits_Len64_b2 (x : Int) (nv : Int) (h : Hp)  (K : Value → Hp → Prop) : Prop :=
  sx_2 Try.prog F 25 (cp [1, 1, 1] (bodyOf Try.f78)) (ap [1, 1, 1] math_bits_Len64_an) [(0, .int .u64 x), (2, .int .i64 nv)] h (math_bits_Len64_K0  K)
def math_bits_Len64_b3 (x : Int) (nv : Int) (h : Hp)  (K : Value → Hp → Prop) : Prop :=
  sx_1 Try.prog F 25 (cp [1, 1, 1, 1] (bodyOf Try.f78)) (ap [1, 1, 1, 1] math_bits_Len64_an) [(0, .int .u64 x), (2, .int .i64 nv)] h (math_bits_Len64_K0  K)
theorem math_bits_Len64_b0_eq (x : Int) (h : Hp)  (K : Value → Hp → Prop) : math_bits_Len64_b0 x h  K = (
  cond (decide ((4294967296 : Int) ≤ x))
  (∃ sr1 : Int, Sx.Shr .u64 x 32 sr1 ∧
  math_bits_Len64_b1 sr1 32 h  K)
  (math_bits_Len64_b1 x 0 h  K)) := by kernel_rfl
theorem math_bits_Len64_b1_eq (x : Int) (nv : Int) (h : Hp)  (K : Value → Hp → Prop) : math_bits_Len64_b1 x nv h  K = (
  cond (decide ((65536 : Int) ≤ x))
  (∃ sr2 : Int, Sx.Shr .u64 x 16 sr2 ∧
  InR (nv + 16) ∧
  math_bits_Len64_b2 sr2 (nv + 16) h  K)
  (math_bits_Len64_b2 x nv h  K)) := by kernel_rfl
theorem math_bits_Len64_b2_eq (x : Int) (nv : Int) (h : Hp)  (K : Value → Hp → Prop) : math_bits_Len64_b2 x nv h  K = (
  cond (decide ((256 : Int) ≤ x))
  (∃ sr3 : Int, Sx.Shr .u64 x 8 sr3 ∧
  InR (nv + 8) ∧
  math_bits_Len64_b3 sr3 (nv + 8) h  K)
  (math_bits_Len64_b3 x nv h  K)) := by kernel_rfl
theorem math_bits_Len64_b3_eq (x : Int) (nv : Int) (h : Hp)  (K : Value → Hp → Prop) : math_bits_Len64_b3 x nv h  K = (
  (0 ≤ IntKind.u8.wrap x ∧ IntKind.u8.wrap x < ((⟨#[0, 1, 2, 2, 3, 3, 3, 3, 4, 4, 4, 4, 4, 4, 4, 4, 5, 5, 5, 5, 5, 5, 5, 5, 5, 5, 5, 5, 5, 5, 5, 5, 6, 6, 6, 6, 6, 6, 6, 6, 6, 6, 6, 6, 6, 6, 6, 6, 6, 6, 6, 6, 6, 6, 6, 6, 6, 6, 6, 6, 6, 6, 6, 6, 7, 7, 7, 7, 7, 7, 7, 7, 7, 7, 7, 7, 7, 7, 7, 7, 7, 7, 7, 7, 7, 7, 7, 7, 7, 7, 7, 7, 7, 7, 7, 7, 7, 7, 7, 7, 7, 7, 7, 7, 7, 7, 7, 7, 7, 7, 7, 7, 7, 7, 7, 7, 7, 7, 7, 7, 7, 7, 7, 7, 7, 7, 7, 7, 8, 8, 8, 8, 8, 8, 8, 8, 8, 8, 8, 8, 8, 8, 8, 8, 8, 8, 8, 8, 8, 8, 8, 8, 8, 8, 8, 8, 8, 8, 8, 8, 8, 8, 8, 8, 8, 8, 8, 8, 8, 8, 8, 8, 8, 8, 8, 8, 8, 8, 8, 8, 8, 8, 8, 8, 8, 8, 8, 8, 8, 8, 8, 8, 8, 8, 8, 8, 8, 8, 8, 8, 8, 8, 8, 8, 8, 8, 8, 8, 8, 8, 8, 8, 8, 8, 8, 8, 8, 8, 8, 8, 8, 8, 8, 8, 8, 8, 8, 8, 8, 8, 8, 8, 8, 8, 8, 8, 8, 8, 8, 8, 8, 8, 8, 8, 8, 8, 8, 8, 8, 8, 8, 8, 8, 8, 8, 8]⟩ : ByteArray).size : Int)) ∧
  InR (((⟨#[0, 1, 2, 2, 3, 3, 3, 3, 4, 4, 4, 4, 4, 4, 4, 4, 5, 5, 5, 5, 5, 5, 5, 5, 5, 5, 5, 5, 5, 5, 5, 5, 6, 6, 6, 6, 6, 6, 6, 6, 6, 6, 6, 6, 6, 6, 6, 6, 6, 6, 6, 6, 6, 6, 6, 6, 6, 6, 6, 6, 6, 6, 6, 6, 7, 7, 7, 7, 7, 7, 7, 7, 7, 7, 7, 7, 7, 7, 7, 7, 7, 7, 7, 7, 7, 7, 7, 7, 7, 7, 7, 7, 7, 7, 7, 7, 7, 7, 7, 7, 7, 7, 7, 7, 7, 7, 7, 7, 7, 7, 7, 7, 7, 7, 7, 7, 7, 7, 7, 7, 7, 7, 7, 7, 7, 7, 7, 7, 8, 8, 8, 8, 8, 8, 8, 8, 8, 8, 8, 8, 8, 8, 8, 8, 8, 8, 8, 8, 8, 8, 8, 8, 8, 8, 8, 8, 8, 8, 8, 8, 8, 8, 8, 8, 8, 8, 8, 8, 8, 8, 8, 8, 8, 8, 8, 8, 8, 8, 8, 8, 8, 8, 8, 8, 8, 8, 8, 8, 8, 8, 8, 8, 8, 8, 8, 8, 8, 8, 8, 8, 8, 8, 8, 8, 8, 8, 8, 8, 8, 8, 8, 8, 8, 8, 8, 8, 8, 8, 8, 8, 8, 8, 8, 8, 8, 8, 8, 8, 8, 8, 8, 8, 8, 8, 8, 8, 8, 8, 8, 8, 8, 8, 8, 8, 8, 8, 8, 8, 8, 8, 8, 8, 8, 8, 8, 8]⟩ : ByteArray).data.toList.getD (Int.toNat (IntKind.u8.wrap x)) 0).toNat : Int) ∧
  InR (nv + (((⟨#[0, 1, 2, 2, 3, 3, 3, 3, 4, 4, 4, 4, 4, 4, 4, 4, 5, 5, 5, 5, 5, 5, 5, 5, 5, 5, 5, 5, 5, 5, 5, 5, 6, 6, 6, 6, 6, 6, 6, 6, 6, 6, 6, 6, 6, 6, 6, 6, 6, 6, 6, 6, 6, 6, 6, 6, 6, 6, 6, 6, 6, 6, 6, 6, 7, 7, 7, 7, 7, 7, 7, 7, 7, 7, 7, 7, 7, 7, 7, 7, 7, 7, 7, 7, 7, 7, 7, 7, 7, 7, 7, 7, 7, 7, 7, 7, 7, 7, 7, 7, 7, 7, 7, 7, 7, 7, 7, 7, 7, 7, 7, 7, 7, 7, 7, 7, 7, 7, 7, 7, 7, 7, 7, 7, 7, 7, 7, 7, 8, 8, 8, 8, 8, 8, 8, 8, 8, 8, 8, 8, 8, 8, 8, 8, 8, 8, 8, 8, 8, 8, 8, 8, 8, 8, 8, 8, 8, 8, 8, 8, 8, 8, 8, 8, 8, 8, 8, 8, 8, 8, 8, 8, 8, 8, 8, 8, 8, 8, 8, 8, 8, 8, 8, 8, 8, 8, 8, 8, 8, 8, 8, 8, 8, 8, 8, 8, 8, 8, 8, 8, 8, 8, 8, 8, 8, 8, 8, 8, 8, 8, 8, 8, 8, 8, 8, 8, 8, 8, 8, 8, 8, 8, 8, 8, 8, 8, 8, 8, 8, 8, 8, 8, 8, 8, 8, 8, 8, 8, 8, 8, 8, 8, 8, 8, 8, 8, 8, 8, 8, 8, 8, 8, 8, 8, 8, 8]⟩ : ByteArray).data.toList.getD (Int.toNat (IntKind.u8.wrap x)) 0).toNat : Int)) ∧
  K (.int .i64 (nv + (((⟨#[0, 1, 2, 2, 3, 3, 3, 3, 4, 4, 4, 4, 4, 4, 4, 4, 5, 5, 5, 5, 5, 5, 5, 5, 5, 5, 5, 5, 5, 5, 5, 5, 6, 6, 6, 6, 6, 6, 6, 6, 6, 6, 6, 6, 6, 6, 6, 6, 6, 6, 6, 6, 6, 6, 6, 6, 6, 6, 6, 6, 6, 6, 6, 6, 7, 7, 7, 7, 7, 7, 7, 7, 7, 7, 7, 7, 7, 7, 7, 7, 7, 7, 7, 7, 7, 7, 7, 7, 7, 7, 7, 7, 7, 7, 7, 7, 7, 7, 7, 7, 7, 7, 7, 7, 7, 7, 7, 7, 7, 7, 7, 7, 7, 7, 7, 7, 7, 7, 7, 7, 7, 7, 7, 7, 7, 7, 7, 7, 8, 8, 8, 8, 8, 8, 8, 8, 8, 8, 8, 8, 8, 8, 8, 8, 8, 8, 8, 8, 8, 8, 8, 8, 8, 8, 8, 8, 8, 8, 8, 8, 8, 8, 8, 8, 8, 8, 8, 8, 8, 8, 8, 8, 8, 8, 8, 8, 8, 8, 8, 8, 8, 8, 8, 8, 8, 8, 8, 8, 8, 8, 8, 8, 8, 8, 8, 8, 8, 8, 8, 8, 8, 8, 8, 8, 8, 8, 8, 8, 8, 8, 8, 8, 8, 8, 8, 8, 8, 8, 8, 8, 8, 8, 8, 8, 8, 8, 8, 8, 8, 8, 8, 8, 8, 8, 8, 8, 8, 8, 8, 8, 8, 8, 8, 8, 8, 8, 8, 8, 8, 8, 8, 8, 8, 8, 8, 8]⟩ : ByteArray).data.toList.getD (Int.toNat (IntKind.u8.wrap x)) 0).toNat : Int))) h) := by kernel_rfl
theorem math_bits_Len64_call {x : Int} {h : Hp} {K : Value → Hp → Prop} (hk : math_bits_Len64_b0 x h K) : HCalls Try.prog 78 #[.int .u64 x] h K :=
  calls_of_snd math_bits_Len64_an Try.func78 (c := bodyOf Try.f78) rfl Try.ntmps78 (Nat.le_of_ble_eq_true rfl) (snd_4 F_ok F_mixed) hk

/-! ### ones64 -/
def ones64_an : Ann := .leaf
def ones64_K0  (K : Value → Hp → Prop) : Exit → Env → Hp → Prop := retK Try.prog Try.f79.results.toList K
def ones64_b0 (x : Int) (h : Hp)  (K : Value → Hp → Prop) : Prop :=
  sx_1 Try.prog F 35 (cp [] (bodyOf Try.f79)) (ap [] ones64_an) [(0, .int .u64 x)] h (ones64_K0  K)
theorem ones64_b0_eq (x : Int) (h : Hp)  (K : Value → Hp → Prop) : ones64_b0 x h  K = (
  ∃ sr1 : Int, Sx.Shr .u64 x 1 sr1 ∧
  ∃ an1 : Int, Sx.And .u64 sr1 6148914691236517205 an1 ∧
  ∃ an2 : Int, Sx.And .u64 x 6148914691236517205 an2 ∧
  ∃ sr2 : Int, Sx.Shr .u64 (IntKind.u64.wrap (an1 + an2)) 2 sr2 ∧
  ∃ an3 : Int, Sx.And .u64 sr2 3689348814741910323 an3 ∧
  ∃ an4 : Int, Sx.And .u64 (IntKind.u64.wrap (an1 + an2)) 3689348814741910323 an4 ∧
  ∃ sr3 : Int, Sx.Shr .u64 (IntKind.u64.wrap (an3 + an4)) 4 sr3 ∧
  ∃ an5 : Int, Sx.And .u64 (IntKind.u64.wrap (sr3 + (IntKind.u64.wrap (an3 + an4)))) 1085102592571150095 an5 ∧
  ∃ sr4 : Int, Sx.Shr .u64 an5 8 sr4 ∧
  ∃ sr5 : Int, Sx.Shr .u64 (IntKind.u64.wrap (an5 + sr4)) 16 sr5 ∧
  ∃ sr6 : Int, Sx.Shr .u64 (IntKind.u64.wrap ((IntKind.u64.wrap (an5 + sr4)) + sr5)) 32 sr6 ∧
  InR (IntKind.u64.wrap ((IntKind.u64.wrap ((IntKind.u64.wrap (an5 + sr4)) + sr5)) + sr6)) ∧
  ∃ an6 : Int, Sx.And .i64 (IntKind.u64.wrap ((IntKind.u64.wrap ((IntKind.u64.wrap (an5 + sr4)) + sr5)) + sr6)) 127 an6 ∧
  K (.int .i64 an6) h) := by kernel_rfl
theorem ones64_call {x : Int} {h : Hp} {K : Value → Hp → Prop} (hk : ones64_b0 x h K) : HCalls Try.prog 79 #[.int .u64 x] h K :=
  calls_of_snd ones64_an Try.func79 (c := bodyOf Try.f79) rfl Try.ntmps79 (Nat.le_of_ble_eq_true rfl) (snd_1 F_ok F_mixed) hk

/-! ### rank -/
def rank_an : Ann := .leaf
def rank_K0  (K : Value → Hp → Prop) : Exit → Env → Hp → Prop := retK Try.prog Try.f80.results.toList K
def rank_b0 (v : Option Addr) (bit : Bool) (i : Int) (h : Hp)  (K : Value → Hp → Prop) : Prop :=
  sx_1 Try.prog F 16 (cp [] (bodyOf Try.f80)) (ap [] rank_an) [(0, .pointer v), (1, .bool bit), (2, .int .i64 i)] h (rank_K0  K)
theorem rank_b0_eq (v : Option Addr) (bit : Bool) (i : Int) (h : Hp)  (K : Value → Hp → Prop) : rank_b0 v bit i h  K = (
  HCalls Try.prog 82 #[.pointer v, .int .i64 i] h fun v1 h1 => ∃ r1 : Int, v1 = .int .i64 r1 ∧
  cond bit
  (K (.int .i64 r1) h1)
  (InR (i - r1) ∧
  K (.int .i64 (i - r1)) h1)) := by kernel_rfl
theorem rank_call {v : Option Addr} {bit : Bool} {i : Int} {h : Hp} {K : Value → Hp → Prop} (hk : rank_b0 v bit i h K) : HCalls Try.prog 80 #[.pointer v, .bool bit, .int .i64 i] h K :=
  calls_of_snd rank_an Try.func80 (c := bodyOf Try.f80) rfl Try.ntmps80 (Nat.le_of_ble_eq_true rfl) (snd_1 F_ok F_mixed) hk

/-! ### Sel1 -/
def Sel1_an : Ann := .leaf
def Sel1_K0  (K : Value → Hp → Prop) : Exit → Env → Hp → Prop := retK Try.prog Try.f81.results.toList K
def Sel1_b0 (i : Int) (t1 : Option Addr) (t2 : Option Addr) (t3 : Option Addr) (h : Hp)  (K : Value → Hp → Prop) : Prop :=
  sx_1 Try.prog F 13 (cp [] (bodyOf Try.f81)) (ap [] Sel1_an) [(0, .int .i64 i), (1, .pointer t1), (2, .pointer t2), (3, .pointer t3)] h (Sel1_K0  K)
theorem Sel1_b0_eq (i : Int) (t1 : Option Addr) (t2 : Option Addr) (t3 : Option Addr) (h : Hp)  (K : Value → Hp → Prop) : Sel1_b0 i t1 t2 t3 h  K = (
  NN t1 fun a1 =>
  ∃ p1 : Option Addr, cell h a1 = some (.pointer p1) ∧
  NN t2 fun a2 =>
  ∃ b1 : Bool, cell h a2 = some (.bool b1) ∧
  InR (i + 1) ∧
  ∃ r1 : Int, HCalls Try.prog 80 #[.pointer p1, .bool b1, .int .i64 (i + 1)] h (fun v1 h1 => v1 = .int .i64 r1 ∧ h1 = h) ∧
  NN t3 fun a3 =>
  ∃ n1 : Int, cell h a3 = some (.int .i64 n1) ∧
  K (.bool (decide (n1 < r1))) h) := by kernel_rfl
theorem Sel1_call {i : Int} {t1 : Option Addr} {t2 : Option Addr} {t3 : Option Addr} {h : Hp} {K : Value → Hp → Prop} (hk : Sel1_b0 i t1 t2 t3 h K) : HCalls Try.prog 81 #[.int .i64 i, .pointer t1, .pointer t2, .pointer t3] h K :=
  calls_of_snd Sel1_an Try.func81 (c := bodyOf Try.f81) rfl Try.ntmps81 (Nat.le_of_ble_eq_true rfl) (snd_1 F_ok F_mixed) hk

/-! ### ones -/
def ones_an : Ann := .node none (.leaf) (.node none (.leaf) (.node (some [5]) (.leaf) (.leaf)))
def ones_K0  (K : Value → Hp → Prop) : Exit → Env → Hp → Prop := retK Try.prog Try.f82.results.toList K
def ones_b0 (v : Option Addr) (i : Int) (h : Hp)  (K : Value → Hp → Prop) : Prop :=
  sx_2 Try.prog F 34 (cp [] (bodyOf Try.f82)) (ap [] ones_an) [(0, .pointer v), (1, .int .i64 i)] h (ones_K0  K)
def ones_b1 (nv : Int) (h : Hp)  (K : Value → Hp → Prop) : Prop :=
  sx_1 Try.prog F 34 (cp [1, 1, 1] (bodyOf Try.f82)) (ap [1, 1, 1] ones_an) [(5, .int .i64 nv)] h (ones_K0  K)
theorem ones_b0_eq (v : Option Addr) (i : Int) (h : Hp)  (K : Value → Hp → Prop) : ones_b0 v i h  K = (
  NN v fun a1 =>
  ∃ (a2 : Option Addr) (L1 C1 : Nat), cell h (a1.add 2) = some (.slice a2 L1 C1) ∧
  ∃ q1 : Int, Sx.Quo .i64 i 64 q1 ∧
  (0 ≤ q1 ∧ q1 < (L1 : Int)) ∧
  NN a2 fun a3 =>
  ∃ n1 : Int, cell h (a3.add (Int.toNat q1 * 1)) = some (.int .i64 n1) ∧
  ∃ r1 : Int, Sx.Rem i 64 r1 ∧
  cond (decide ((0 : Int) < r1))
  (NN v fun a4 =>
  ∃ (a5 : Option Addr) (L2 C2 : Nat), cell h (a4.add 1) = some (.slice a5 L2 C2) ∧
  ∃ q2 : Int, Sx.Quo .i64 i 64 q2 ∧
  (0 ≤ q2 ∧ q2 < (L2 : Int)) ∧
  NN a5 fun a6 =>
  ∃ n2 : Int, cell h (a6.add (Int.toNat q2 * 1)) = some (.int .u64 n2) ∧
  ∃ r2 : Int, Sx.Rem i 64 r2 ∧
  ∃ sl1 : Int, Sx.Shl .u64 1 r2 sl1 ∧
  ∃ an1 : Int, Sx.And .u64 n2 (IntKind.u64.wrap (sl1 - 1)) an1 ∧
  ∃ r3 : Int, HCalls Try.prog 79 #[.int .u64 an1] h (fun v1 h1 => v1 = .int .i64 r3 ∧ h1 = h) ∧
  InR (n1 + r3) ∧
  ones_b1 (n1 + r3) h  K)
  (ones_b1 n1 h  K)) := by kernel_rfl
theorem ones_b1_eq (nv : Int) (h : Hp)  (K : Value → Hp → Prop) : ones_b1 nv h  K = (
  K (.int .i64 nv) h) := by kernel_rfl
theorem ones_call {v : Option Addr} {i : Int} {h : Hp} {K : Value → Hp → Prop} (hk : ones_b0 v i h K) : HCalls Try.prog 82 #[.pointer v, .int .i64 i] h K :=
  calls_of_snd ones_an Try.func82 (c := bodyOf Try.f82) rfl Try.ntmps82 (Nat.le_of_ble_eq_true rfl) (snd_2 F_ok F_mixed) hk

end Go.Proofs.Ytmlfoefadmlhpaa
