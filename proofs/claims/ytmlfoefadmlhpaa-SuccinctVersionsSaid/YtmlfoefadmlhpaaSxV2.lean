/- Plain statements of what each block of code of this seat asks; printed by a program, checked by Lean. -/
import Derived.Test.YtmlfoefadmlhpaaSxV0
set_option maxRecDepth 10000
namespace Go.Proofs.Ytmlfoefadmlhpaa
open Go Go.Sx

/-! ### succinct_Tree_Text -/
def succinct_Tree_Text_an : Ann := .node none (.leaf) (.node none (.leaf) (.node none (.leaf) (.node (some [3]) (.node none (.leaf) (.loop [12, 13] [(3, .slice), (14, .int .i64)] (.node none (.leaf) (.node none (.leaf) (.node (some [3, 12, 13, 14]) (.leaf) (.leaf)))))) (.leaf))))
def succinct_Tree_Text_K0  (K : Value → Hp → Prop) : Exit → Env → Hp → Prop := retK Try.prog Try.f22.results.toList K
def succinct_Tree_Text_K1  (K : Value → Hp → Prop) : Exit → Env → Hp → Prop := thenE (fun env h => sx_2 Try.prog F 28 (cp [1, 1, 1, 1] (bodyOf Try.f22)) (ap [1, 1, 1, 1] succinct_Tree_Text_an) (rs [3] env) h (succinct_Tree_Text_K0  K)) (succinct_Tree_Text_K0  K)
def succinct_Tree_Text_K2  (K : Value → Hp → Prop) : Exit → Env → Hp → Prop := blockE 0 (succinct_Tree_Text_K1  K)
def succinct_Tree_Text_K3 (nx0 : (Option Addr × Nat × Nat) × Int × Unit → Hp → Prop) (K : Value → Hp → Prop) : Exit → Env → Hp → Prop := thenE (fun env h => getV [(3, .slice), (14, .int .i64)] env fun s => nx0 s h) (succinct_Tree_Text_K2  K)
def succinct_Tree_Text_b0 (t : Option Addr) (h : Hp)  (K : Value → Hp → Prop) : Prop :=
  sx_3 Try.prog F 28 (cp [] (bodyOf Try.f22)) (ap [] succinct_Tree_Text_an) [(0, .pointer t)] h (succinct_Tree_Text_K0  K)
def succinct_Tree_Text_b1 (b : Option Addr) (bL : Nat) (bC : Nat) (t14 : Int) (t12 : Option Addr) (t12L : Nat) (t12C : Nat) (t13 : Int) (h : Hp) (nx0 : (Option Addr × Nat × Nat) × Int × Unit → Hp → Prop) (K : Value → Hp → Prop) : Prop :=
  sx_2 Try.prog F 28 (cp [1, 1, 1, 0, 1, 2, 2] (bodyOf Try.f22)) (ap [1, 1, 1, 0, 1, 2] succinct_Tree_Text_an) [(3, .slice b bL bC), (14, .int .i64 t14), (12, .slice t12 t12L t12C), (13, .int .i64 t13)] h (succinct_Tree_Text_K3 nx0 K)
def succinct_Tree_Text_b2 (b : Option Addr) (bL : Nat) (bC : Nat) (t12 : Option Addr) (t12L : Nat) (t12C : Nat) (t13 : Int) (t14 : Int) (h : Hp) (nx0 : (Option Addr × Nat × Nat) × Int × Unit → Hp → Prop) (K : Value → Hp → Prop) : Prop :=
  sx_1 Try.prog F 28 (cp [1, 1, 1, 0, 1, 2, 2, 1, 1, 1] (bodyOf Try.f22)) (ap [1, 1, 1, 0, 1, 2, 1, 1, 1] succinct_Tree_Text_an) [(3, .slice b bL bC), (12, .slice t12 t12L t12C), (13, .int .i64 t13), (14, .int .i64 t14)] h (succinct_Tree_Text_K3 nx0 K)
def succinct_Tree_Text_b3 (b : Option Addr) (bL : Nat) (bC : Nat) (h : Hp)  (K : Value → Hp → Prop) : Prop :=
  sx_2 Try.prog F 28 (cp [1, 1, 1, 1] (bodyOf Try.f22)) (ap [1, 1, 1, 1] succinct_Tree_Text_an) [(3, .slice b bL bC)] h (succinct_Tree_Text_K0  K)
theorem succinct_Tree_Text_b0_eq (t : Option Addr) (h : Hp)  (K : Value → Hp → Prop) : succinct_Tree_Text_b0 t h  K = (
  cond t.isNone
  (K (.string (⟨#[]⟩ : ByteArray)) h)
  (NN t fun a1 =>
  ∃ p1 : Option Addr, cell h a1 = some (.pointer p1) ∧
  HCalls Try.prog 54 #[.pointer p1] h fun v1 h1 => ∃ (r1 : Option Addr) (rL1 rC1 : Nat), v1 = .slice r1 rL1 rC1 ∧
  LoopVC (((none, 0, 0), 0, ()) : (Option Addr × Nat × Nat) × Int × Unit) h1 (fun (nx0 : (Option Addr × Nat × Nat) × Int × Unit → Hp → Prop) (s1 : (Option Addr × Nat × Nat) × Int × Unit) h2 => succinct_Tree_Text_b1 s1.1.1 s1.1.2.1 s1.1.2.2 s1.2.1 r1 rL1 rC1 (rL1 : Int) h2 nx0 K))) := by kernel_rfl
theorem succinct_Tree_Text_b1_eq (b : Option Addr) (bL : Nat) (bC : Nat) (t14 : Int) (t12 : Option Addr) (t12L : Nat) (t12C : Nat) (t13 : Int) (h : Hp) (nx0 : (Option Addr × Nat × Nat) × Int × Unit → Hp → Prop) (K : Value → Hp → Prop) : succinct_Tree_Text_b1 b bL bC t14 t12 t12L t12C t13 h nx0 K = (
  cond (decide (t14 < t13))
  ((0 ≤ t14 ∧ t14 < (t12L : Int)) ∧
  NN t12 fun a2 =>
  ∃ b1 : Bool, cell h (a2.add (Int.toNat t14 * 1)) = some (.bool b1) ∧
  cond b1
  (New h (.cells #[.int .u8 40] 5) fun b2 h3 =>
  appendV Try.prog 76 76 (.slice b bL bC) (.slice (some ⟨b2, 0, none⟩) 1 1) h3 (slK fun a3 l1 c1 h4 =>
  succinct_Tree_Text_b2 a3 l1 c1 t12 t12L t12C t13 t14 h4 nx0 K))
  (New h (.cells #[.int .u8 41] 5) fun b3 h5 =>
  appendV Try.prog 76 76 (.slice b bL bC) (.slice (some ⟨b3, 0, none⟩) 1 1) h5 (slK fun a4 l2 c2 h6 =>
  succinct_Tree_Text_b2 a4 l2 c2 t12 t12L t12C t13 t14 h6 nx0 K)))
  (succinct_Tree_Text_b3 b bL bC h  K)) := by kernel_rfl
theorem succinct_Tree_Text_b2_eq (b : Option Addr) (bL : Nat) (bC : Nat) (t12 : Option Addr) (t12L : Nat) (t12C : Nat) (t13 : Int) (t14 : Int) (h : Hp) (nx0 : (Option Addr × Nat × Nat) × Int × Unit → Hp → Prop) (K : Value → Hp → Prop) : succinct_Tree_Text_b2 b bL bC t12 t12L t12C t13 t14 h nx0 K = (
  InR (t14 + 1) ∧
  nx0 ((b, bL, bC), t14 + 1, ()) h) := by kernel_rfl
theorem succinct_Tree_Text_b3_eq (b : Option Addr) (bL : Nat) (bC : Nat) (h : Hp)  (K : Value → Hp → Prop) : succinct_Tree_Text_b3 b bL bC h  K = (
  hw Try.prog (convert 76 9 (.slice b bL bC)) h (strK fun s2 h7 =>
  K (.string s2) h7)) := by kernel_rfl
theorem succinct_Tree_Text_call {t : Option Addr} {h : Hp} {K : Value → Hp → Prop} (hk : succinct_Tree_Text_b0 t h K) : HCalls Try.prog 22 #[.pointer t] h K :=
  calls_of_snd succinct_Tree_Text_an Try.func22 (c := bodyOf Try.f22) rfl Try.ntmps22 (Nat.le_of_ble_eq_true rfl) (snd_3 F_ok F_mixed) hk

/-! ### succinct_Tree_Len -/
def succinct_Tree_Len_an : Ann := .leaf
def succinct_Tree_Len_K0  (K : Value → Hp → Prop) : Exit → Env → Hp → Prop := retK Try.prog Try.f23.results.toList K
def succinct_Tree_Len_b0 (t : Option Addr) (h : Hp)  (K : Value → Hp → Prop) : Prop :=
  sx_1 Try.prog F 9 (cp [] (bodyOf Try.f23)) (ap [] succinct_Tree_Len_an) [(0, .pointer t)] h (succinct_Tree_Len_K0  K)
theorem succinct_Tree_Len_b0_eq (t : Option Addr) (h : Hp)  (K : Value → Hp → Prop) : succinct_Tree_Len_b0 t h  K = (
  cond t.isNone
  (K (.int .i64 0) h)
  (NN t fun a1 =>
  ∃ n1 : Int, cell h (a1.add 1) = some (.int .i64 n1) ∧
  K (.int .i64 n1) h)) := by kernel_rfl
theorem succinct_Tree_Len_call {t : Option Addr} {h : Hp} {K : Value → Hp → Prop} (hk : succinct_Tree_Len_b0 t h K) : HCalls Try.prog 23 #[.pointer t] h K :=
  calls_of_snd succinct_Tree_Len_an Try.func23 (c := bodyOf Try.f23) rfl Try.ntmps23 (Nat.le_of_ble_eq_true rfl) (snd_1 F_ok F_mixed) hk

/-! ### succinct_Tree_Space -/
def succinct_Tree_Space_an : Ann := .leaf
def succinct_Tree_Space_K0  (K : Value → Hp → Prop) : Exit → Env → Hp → Prop := retK Try.prog Try.f24.results.toList K
def succinct_Tree_Space_b0 (t : Option Addr) (h : Hp)  (K : Value → Hp → Prop) : Prop :=
  sx_1 Try.prog F 6 (cp [] (bodyOf Try.f24)) (ap [] succinct_Tree_Space_an) [(0, .pointer t)] h (succinct_Tree_Space_K0  K)
theorem succinct_Tree_Space_b0_eq (t : Option Addr) (h : Hp)  (K : Value → Hp → Prop) : succinct_Tree_Space_b0 t h  K = (
  HCalls Try.prog 23 #[.pointer t] h fun v1 h1 => ∃ r1 : Int, v1 = .int .i64 r1 ∧
  InR (2 * r1) ∧
  K (.int .i64 (2 * r1)) h1) := by kernel_rfl
theorem succinct_Tree_Space_call {t : Option Addr} {h : Hp} {K : Value → Hp → Prop} (hk : succinct_Tree_Space_b0 t h K) : HCalls Try.prog 24 #[.pointer t] h K :=
  calls_of_snd succinct_Tree_Space_an Try.func24 (c := bodyOf Try.f24) rfl Try.ntmps24 (Nat.le_of_ble_eq_true rfl) (snd_1 F_ok F_mixed) hk

/-! ### succinct_ParseTree -/
def succinct_ParseTree_an : Ann := .node none (.leaf) (.node none (.leaf) (.node none (.leaf) (.node none (.leaf) (.node (some [0, 4, 5]) (.node none (.leaf) (.loop [0, 11] [(4, .slice), (5, .int .i64), (12, .int .i64)] (.node none (.leaf) (.node none (.leaf) (.node (some [0, 4, 5, 11, 12]) (.node none (.leaf) (.node (some [0, 4, 5, 6, 11, 12]) (.leaf) (.leaf))) (.leaf)))))) (.node (some [4]) (.leaf) (.leaf))))))
def succinct_ParseTree_K0  (K : Value → Hp → Prop) : Exit → Env → Hp → Prop := retK Try.prog Try.f25.results.toList K
def succinct_ParseTree_K1  (K : Value → Hp → Prop) : Exit → Env → Hp → Prop := thenE (fun env h => sx_2 Try.prog F 60 (cp [1, 1, 1, 1, 1] (bodyOf Try.f25)) (ap [1, 1, 1, 1, 1] succinct_ParseTree_an) (rs [0, 4, 5] env) h (succinct_ParseTree_K0  K)) (succinct_ParseTree_K0  K)
def succinct_ParseTree_K2  (K : Value → Hp → Prop) : Exit → Env → Hp → Prop := blockE 0 (succinct_ParseTree_K1  K)
def succinct_ParseTree_K3 (nx0 : (Option Addr × Nat × Nat) × Int × Int × Unit → Hp → Prop) (K : Value → Hp → Prop) : Exit → Env → Hp → Prop := thenE (fun env h => getV [(4, .slice), (5, .int .i64), (12, .int .i64)] env fun s => nx0 s h) (succinct_ParseTree_K2  K)
def succinct_ParseTree_K4 (nx0 : (Option Addr × Nat × Nat) × Int × Int × Unit → Hp → Prop) (K : Value → Hp → Prop) : Exit → Env → Hp → Prop := thenE (fun env h => sx_1 Try.prog F 60 (cp [1, 1, 1, 1, 0, 1, 2, 2, 1, 1, 1] (bodyOf Try.f25)) (ap [1, 1, 1, 1, 0, 1, 2, 1, 1, 1] succinct_ParseTree_an) (rs [0, 4, 5, 11, 12] env) h (succinct_ParseTree_K3 nx0 K)) (succinct_ParseTree_K3 nx0 K)
def succinct_ParseTree_K5 (nx0 : (Option Addr × Nat × Nat) × Int × Int × Unit → Hp → Prop) (K : Value → Hp → Prop) : Exit → Env → Hp → Prop := blockE 1 (succinct_ParseTree_K4 nx0 K)
def succinct_ParseTree_b0 (s : ByteArray) (h : Hp)  (K : Value → Hp → Prop) : Prop :=
  sx_3 Try.prog F 60 (cp [] (bodyOf Try.f25)) (ap [] succinct_ParseTree_an) [(0, .string s)] h (succinct_ParseTree_K0  K)
def succinct_ParseTree_b1 (bits : Option Addr) (bitsL : Nat) (bitsC : Nat) (openv : Int) (t12 : Int) (s : ByteArray) (t11 : Int) (h : Hp) (nx0 : (Option Addr × Nat × Nat) × Int × Int × Unit → Hp → Prop) (K : Value → Hp → Prop) : Prop :=
  sx_2 Try.prog F 60 (cp [1, 1, 1, 1, 0, 1, 2, 2] (bodyOf Try.f25)) (ap [1, 1, 1, 1, 0, 1, 2] succinct_ParseTree_an) [(4, .slice bits bitsL bitsC), (5, .int .i64 openv), (12, .int .i64 t12), (0, .string s), (11, .int .i64 t11)] h (succinct_ParseTree_K3 nx0 K)
def succinct_ParseTree_b2 (s : ByteArray) (bits : Option Addr) (bitsL : Nat) (bitsC : Nat) (openv : Int) (i : Int) (t11 : Int) (t12 : Int) (h : Hp) (nx0 : (Option Addr × Nat × Nat) × Int × Int × Unit → Hp → Prop) (K : Value → Hp → Prop) : Prop :=
  sx_1 Try.prog F 60 (cp [1, 1, 1, 1, 0, 1, 2, 2, 1, 1, 0, 2, 1, 1] (bodyOf Try.f25)) (ap [1, 1, 1, 1, 0, 1, 2, 1, 1, 0, 1, 1] succinct_ParseTree_an) [(0, .string s), (4, .slice bits bitsL bitsC), (5, .int .i64 openv), (6, .int .i64 i), (11, .int .i64 t11), (12, .int .i64 t12)] h (succinct_ParseTree_K5 nx0 K)
def succinct_ParseTree_b3 (s : ByteArray) (bits : Option Addr) (bitsL : Nat) (bitsC : Nat) (openv : Int) (h : Hp)  (K : Value → Hp → Prop) : Prop :=
  sx_2 Try.prog F 60 (cp [1, 1, 1, 1, 1] (bodyOf Try.f25)) (ap [1, 1, 1, 1, 1] succinct_ParseTree_an) [(0, .string s), (4, .slice bits bitsL bitsC), (5, .int .i64 openv)] h (succinct_ParseTree_K0  K)
def succinct_ParseTree_b4 (s : ByteArray) (bits : Option Addr) (bitsL : Nat) (bitsC : Nat) (openv : Int) (t11 : Int) (t12 : Int) (h : Hp) (nx0 : (Option Addr × Nat × Nat) × Int × Int × Unit → Hp → Prop) (K : Value → Hp → Prop) : Prop :=
  sx_1 Try.prog F 60 (cp [1, 1, 1, 1, 0, 1, 2, 2, 1, 1, 1] (bodyOf Try.f25)) (ap [1, 1, 1, 1, 0, 1, 2, 1, 1, 1] succinct_ParseTree_an) [(0, .string s), (4, .slice bits bitsL bitsC), (5, .int .i64 openv), (11, .int .i64 t11), (12, .int .i64 t12)] h (succinct_ParseTree_K3 nx0 K)
def succinct_ParseTree_b5 (bits : Option Addr) (bitsL : Nat) (bitsC : Nat) (h : Hp)  (K : Value → Hp → Prop) : Prop :=
  sx_1 Try.prog F 60 (cp [1, 1, 1, 1, 1, 1] (bodyOf Try.f25)) (ap [1, 1, 1, 1, 1, 1] succinct_ParseTree_an) [(4, .slice bits bitsL bitsC)] h (succinct_ParseTree_K0  K)
theorem succinct_ParseTree_b0_eq (s : ByteArray) (h : Hp)  (K : Value → Hp → Prop) : succinct_ParseTree_b0 s h  K = (
  cond (decide ((2000 : Int) < (s.size : Int)))
  (K (.tuple #[.pointer none, .int .i64 4]) h)
  (LoopVC (((none, 0, 0), 0, 0, ()) : (Option Addr × Nat × Nat) × Int × Int × Unit) h (fun (nx0 : (Option Addr × Nat × Nat) × Int × Int × Unit → Hp → Prop) (s1 : (Option Addr × Nat × Nat) × Int × Int × Unit) h1 => succinct_ParseTree_b1 s1.1.1 s1.1.2.1 s1.1.2.2 s1.2.1 s1.2.2.1 s (s.size : Int) h1 nx0 K))) := by kernel_rfl
theorem succinct_ParseTree_b1_eq (bits : Option Addr) (bitsL : Nat) (bitsC : Nat) (openv : Int) (t12 : Int) (s : ByteArray) (t11 : Int) (h : Hp) (nx0 : (Option Addr × Nat × Nat) × Int × Int × Unit → Hp → Prop) (K : Value → Hp → Prop) : succinct_ParseTree_b1 bits bitsL bitsC openv t12 s t11 h nx0 K = (
  cond (decide (t12 < t11))
  ((0 ≤ t12 ∧ t12 < (s.size : Int)) ∧
  cond (decide (((s.data.toList.getD (Int.toNat t12) 0).toNat : Int) = 40))
  (cond (decide ((0 : Int) < openv))
  (InR (openv + 1) ∧
  succinct_ParseTree_b2 s bits bitsL bitsC (openv + 1) t12 t11 t12 h nx0 K)
  (cond (decide (t12 = 0))
  (InR (openv + 1) ∧
  succinct_ParseTree_b2 s bits bitsL bitsC (openv + 1) t12 t11 t12 h nx0 K)
  ((0 ≤ t12 ∧ t12 < (s.size : Int)) ∧
  cond (decide (((s.data.toList.getD (Int.toNat t12) 0).toNat : Int) = 41))
  (cond (decide ((0 : Int) < openv))
  (InR (openv - 1) ∧
  succinct_ParseTree_b2 s bits bitsL bitsC (openv - 1) t12 t11 t12 h nx0 K)
  (K (.tuple #[.pointer none, .int .i64 7]) h))
  (K (.tuple #[.pointer none, .int .i64 7]) h))))
  ((0 ≤ t12 ∧ t12 < (s.size : Int)) ∧
  cond (decide (((s.data.toList.getD (Int.toNat t12) 0).toNat : Int) = 41))
  (cond (decide ((0 : Int) < openv))
  (InR (openv - 1) ∧
  succinct_ParseTree_b2 s bits bitsL bitsC (openv - 1) t12 t11 t12 h nx0 K)
  (K (.tuple #[.pointer none, .int .i64 7]) h))
  (K (.tuple #[.pointer none, .int .i64 7]) h)))
  (succinct_ParseTree_b3 s bits bitsL bitsC openv h  K)) := by kernel_rfl
theorem succinct_ParseTree_b2_eq (s : ByteArray) (bits : Option Addr) (bitsL : Nat) (bitsC : Nat) (openv : Int) (i : Int) (t11 : Int) (t12 : Int) (h : Hp) (nx0 : (Option Addr × Nat × Nat) × Int × Int × Unit → Hp → Prop) (K : Value → Hp → Prop) : succinct_ParseTree_b2 s bits bitsL bitsC openv i t11 t12 h nx0 K = (
  (0 ≤ i ∧ i < (s.size : Int)) ∧
  New h (.cells #[.bool (decide (((s.data.toList.getD (Int.toNat i) 0).toNat : Int) = 40))] 4) fun b1 h2 =>
  appendV Try.prog 52 52 (.slice bits bitsL bitsC) (.slice (some ⟨b1, 0, none⟩) 1 1) h2 (slK fun a1 l1 c1 h3 =>
  succinct_ParseTree_b4 s a1 l1 c1 openv t11 t12 h3 nx0 K)) := by kernel_rfl
theorem succinct_ParseTree_b3_eq (s : ByteArray) (bits : Option Addr) (bitsL : Nat) (bitsC : Nat) (openv : Int) (h : Hp)  (K : Value → Hp → Prop) : succinct_ParseTree_b3 s bits bitsL bitsC openv h  K = (
  cond (decide ((0 : Int) < openv))
  (K (.tuple #[.pointer none, .int .i64 7]) h)
  (cond (decide ((s.size : Int) = 0))
  (K (.tuple #[.pointer none, .int .i64 7]) h)
  (succinct_ParseTree_b5 bits bitsL bitsC h  K))) := by kernel_rfl
theorem succinct_ParseTree_b4_eq (s : ByteArray) (bits : Option Addr) (bitsL : Nat) (bitsC : Nat) (openv : Int) (t11 : Int) (t12 : Int) (h : Hp) (nx0 : (Option Addr × Nat × Nat) × Int × Int × Unit → Hp → Prop) (K : Value → Hp → Prop) : succinct_ParseTree_b4 s bits bitsL bitsC openv t11 t12 h nx0 K = (
  InR (t12 + 1) ∧
  nx0 ((bits, bitsL, bitsC), openv, t12 + 1, ()) h) := by kernel_rfl
theorem succinct_ParseTree_b5_eq (bits : Option Addr) (bitsL : Nat) (bitsC : Nat) (h : Hp)  (K : Value → Hp → Prop) : succinct_ParseTree_b5 bits bitsL bitsC h  K = (
  HCalls Try.prog 55 #[.slice bits bitsL bitsC] h fun v1 h4 => ∃ r1 : Option Addr, ∃ r2 : Int, v1 = .tuple #[.pointer r1, .int .i64 r2] ∧
  K (.tuple #[.pointer r1, .int .i64 r2]) h4) := by kernel_rfl
theorem succinct_ParseTree_call {s : ByteArray} {h : Hp} {K : Value → Hp → Prop} (hk : succinct_ParseTree_b0 s h K) : HCalls Try.prog 25 #[.string s] h K :=
  calls_of_snd succinct_ParseTree_an Try.func25 (c := bodyOf Try.f25) rfl Try.ntmps25 (Nat.le_of_ble_eq_true rfl) (snd_3 F_ok F_mixed) hk

/-! ### r48_ParseTree -/
def r48_ParseTree_an : Ann := .leaf
def r48_ParseTree_K0  (K : Value → Hp → Prop) : Exit → Env → Hp → Prop := retK Try.prog Try.f26.results.toList K
def r48_ParseTree_b0 (s : ByteArray) (h : Hp)  (K : Value → Hp → Prop) : Prop :=
  sx_1 Try.prog F 9 (cp [] (bodyOf Try.f26)) (ap [] r48_ParseTree_an) [(0, .string s)] h (r48_ParseTree_K0  K)
theorem r48_ParseTree_b0_eq (s : ByteArray) (h : Hp)  (K : Value → Hp → Prop) : r48_ParseTree_b0 s h  K = (
  cond (decide ((2000 : Int) < (s.size : Int)))
  (K (.int .i64 4) h)
  (HCalls Try.prog 56 #[.string s] h fun v1 h1 => ∃ r1 : Bool, v1 = .bool r1 ∧
  cond (!r1)
  (K (.int .i64 7) h1)
  (K (.int .i64 0) h1))) := by kernel_rfl
theorem r48_ParseTree_call {s : ByteArray} {h : Hp} {K : Value → Hp → Prop} (hk : r48_ParseTree_b0 s h K) : HCalls Try.prog 26 #[.string s] h K :=
  calls_of_snd r48_ParseTree_an Try.func26 (c := bodyOf Try.f26) rfl Try.ntmps26 (Nat.le_of_ble_eq_true rfl) (snd_1 F_ok F_mixed) hk

/-! ### r48_Len -/
def r48_Len_an : Ann := .leaf
def r48_Len_K0  (K : Value → Hp → Prop) : Exit → Env → Hp → Prop := retK Try.prog Try.f27.results.toList K
def r48_Len_b0 (s : ByteArray) (h : Hp)  (K : Value → Hp → Prop) : Prop :=
  sx_1 Try.prog F 6 (cp [] (bodyOf Try.f27)) (ap [] r48_Len_an) [(0, .string s)] h (r48_Len_K0  K)
theorem r48_Len_b0_eq (s : ByteArray) (h : Hp)  (K : Value → Hp → Prop) : r48_Len_b0 s h  K = (
  ∃ q1 : Int, Sx.Quo .i64 (s.size : Int) 2 q1 ∧
  K (.int .i64 q1) h) := by kernel_rfl
theorem r48_Len_call {s : ByteArray} {h : Hp} {K : Value → Hp → Prop} (hk : r48_Len_b0 s h K) : HCalls Try.prog 27 #[.string s] h K :=
  calls_of_snd r48_Len_an Try.func27 (c := bodyOf Try.f27) rfl Try.ntmps27 (Nat.le_of_ble_eq_true rfl) (snd_1 F_ok F_mixed) hk

/-! ### r32_Valid -/
def r32_Valid_an : Ann := .node none (.leaf) (.node (some [1]) (.leaf) (.node (some []) (.node none (.leaf) (.loop [1] [(3, .int .i64)] (.node none (.leaf) (.node (some [1, 3]) (.leaf) (.leaf))))) (.leaf)))
def r32_Valid_K0  (K : Value → Hp → Prop) : Exit → Env → Hp → Prop := retK Try.prog Try.f28.results.toList K
def r32_Valid_K1  (K : Value → Hp → Prop) : Exit → Env → Hp → Prop := thenE (fun env h => sx_2 Try.prog F 43 (cp [1, 1, 1] (bodyOf Try.f28)) (ap [1, 1, 1] r32_Valid_an) (rs [] env) h (r32_Valid_K0  K)) (r32_Valid_K0  K)
def r32_Valid_K2  (K : Value → Hp → Prop) : Exit → Env → Hp → Prop := blockE 0 (r32_Valid_K1  K)
def r32_Valid_K3 (nx0 : Int × Unit → Hp → Prop) (K : Value → Hp → Prop) : Exit → Env → Hp → Prop := thenE (fun env h => getV [(3, .int .i64)] env fun s => nx0 s h) (r32_Valid_K2  K)
def r32_Valid_b0 (v_0 : Option Addr) (v_0L : Nat) (v_0C : Nat) (h : Hp)  (K : Value → Hp → Prop) : Prop :=
  sx_4 Try.prog F 43 (cp [] (bodyOf Try.f28)) (ap [] r32_Valid_an) [(0, .agg #[.slice v_0 v_0L v_0C])] h (r32_Valid_K0  K)
def r32_Valid_b1 (v : Option Addr) (h : Hp)  (K : Value → Hp → Prop) : Prop :=
  sx_3 Try.prog F 43 (cp [1, 1] (bodyOf Try.f28)) (ap [1, 1] r32_Valid_an) [(1, .pointer v)] h (r32_Valid_K0  K)
def r32_Valid_b2 (i : Int) (v : Option Addr) (h : Hp) (nx0 : Int × Unit → Hp → Prop) (K : Value → Hp → Prop) : Prop :=
  sx_2 Try.prog F 43 (cp [1, 1, 0, 1, 2, 2] (bodyOf Try.f28)) (ap [1, 1, 0, 1, 2] r32_Valid_an) [(3, .int .i64 i), (1, .pointer v)] h (r32_Valid_K3 nx0 K)
def r32_Valid_b3 (v : Option Addr) (i : Int) (h : Hp) (nx0 : Int × Unit → Hp → Prop) (K : Value → Hp → Prop) : Prop :=
  sx_1 Try.prog F 43 (cp [1, 1, 0, 1, 2, 2, 1, 1] (bodyOf Try.f28)) (ap [1, 1, 0, 1, 2, 1, 1] r32_Valid_an) [(1, .pointer v), (3, .int .i64 i)] h (r32_Valid_K3 nx0 K)
def r32_Valid_b4  (h : Hp)  (K : Value → Hp → Prop) : Prop :=
  sx_2 Try.prog F 43 (cp [1, 1, 1] (bodyOf Try.f28)) (ap [1, 1, 1] r32_Valid_an) [] h (r32_Valid_K0  K)
theorem r32_Valid_b0_eq (v_0 : Option Addr) (v_0L : Nat) (v_0C : Nat) (h : Hp)  (K : Value → Hp → Prop) : r32_Valid_b0 v_0 v_0L v_0C h  K = (
  New h (.cells #[.slice v_0 v_0L v_0C] 48) fun b1 h1 =>
  ∃ (a1 : Option Addr) (L1 C1 : Nat), cell h1 ⟨b1, 0, none⟩ = some (.slice a1 L1 C1) ∧
  cond (decide ((L1 : Int) < 1))
  (K (.bool false) h1)
  (∃ (a2 : Option Addr) (L2 C2 : Nat), cell h1 ⟨b1, 0, none⟩ = some (.slice a2 L2 C2) ∧
  cond (decide ((1000 : Int) < (L2 : Int)))
  (K (.bool false) h1)
  (∃ (a3 : Option Addr) (L3 C3 : Nat), cell h1 ⟨b1, 0, none⟩ = some (.slice a3 L3 C3) ∧
  (0 ≤ (0 : Int) ∧ (0 : Int) < (L3 : Int)) ∧
  NN a3 fun a4 =>
  ∃ n1 : Int, cell h1 (a4.add (Int.toNat (0 : Int) * 1)) = some (.int .i64 n1) ∧
  cond (!decide (n1 = (-1)))
  (K (.bool false) h1)
  (r32_Valid_b1 (some ⟨b1, 0, none⟩) h1  K)))) := by kernel_rfl
theorem r32_Valid_b1_eq (v : Option Addr) (h : Hp)  (K : Value → Hp → Prop) : r32_Valid_b1 v h  K = (
  LoopVC ((1, ()) : Int × Unit) h (fun (nx0 : Int × Unit → Hp → Prop) (s1 : Int × Unit) h2 => r32_Valid_b2 s1.1 v h2 nx0 K)) := by kernel_rfl
theorem r32_Valid_b2_eq (i : Int) (v : Option Addr) (h : Hp) (nx0 : Int × Unit → Hp → Prop) (K : Value → Hp → Prop) : r32_Valid_b2 i v h nx0 K = (
  NN v fun a5 =>
  ∃ (a6 : Option Addr) (L4 C4 : Nat), cell h a5 = some (.slice a6 L4 C4) ∧
  cond (decide (i < (L4 : Int)))
  (NN v fun a7 =>
  ∃ (a8 : Option Addr) (L5 C5 : Nat), cell h a7 = some (.slice a8 L5 C5) ∧
  (0 ≤ i ∧ i < (L5 : Int)) ∧
  NN a8 fun a9 =>
  ∃ n2 : Int, cell h (a9.add (Int.toNat i * 1)) = some (.int .i64 n2) ∧
  cond (decide (n2 < 0))
  (K (.bool false) h)
  (NN v fun a10 =>
  ∃ (a11 : Option Addr) (L6 C6 : Nat), cell h a10 = some (.slice a11 L6 C6) ∧
  (0 ≤ i ∧ i < (L6 : Int)) ∧
  NN a11 fun a12 =>
  ∃ n3 : Int, cell h (a12.add (Int.toNat i * 1)) = some (.int .i64 n3) ∧
  cond (decide (i ≤ n3))
  (K (.bool false) h)
  (r32_Valid_b3 v i h nx0 K)))
  (r32_Valid_b4  h  K)) := by kernel_rfl
theorem r32_Valid_b3_eq (v : Option Addr) (i : Int) (h : Hp) (nx0 : Int × Unit → Hp → Prop) (K : Value → Hp → Prop) : r32_Valid_b3 v i h nx0 K = (
  InR (i + 1) ∧
  nx0 (i + 1, ()) h) := by kernel_rfl
theorem r32_Valid_b4_eq  (h : Hp)  (K : Value → Hp → Prop) : r32_Valid_b4  h  K = (
  K (.bool true) h) := by kernel_rfl
theorem r32_Valid_call {v_0 : Option Addr} {v_0L : Nat} {v_0C : Nat} {h : Hp} {K : Value → Hp → Prop} (hk : r32_Valid_b0 v_0 v_0L v_0C h K) : HCalls Try.prog 28 #[.agg #[.slice v_0 v_0L v_0C]] h K :=
  calls_of_snd r32_Valid_an Try.func28 (c := bodyOf Try.f28) rfl Try.ntmps28 (Nat.le_of_ble_eq_true rfl) (snd_4 F_ok F_mixed) hk

/-! ### r32_Is -/
def r32_Is_an : Ann := .leaf
def r32_Is_K0  (K : Value → Hp → Prop) : Exit → Env → Hp → Prop := retK Try.prog Try.f29.results.toList K
def r32_Is_b0 (v_0 : Option Addr) (v_0L : Nat) (v_0C : Nat) (nv : Int) (h : Hp)  (K : Value → Hp → Prop) : Prop :=
  sx_1 Try.prog F 14 (cp [] (bodyOf Try.f29)) (ap [] r32_Is_an) [(0, .agg #[.slice v_0 v_0L v_0C]), (1, .int .i64 nv)] h (r32_Is_K0  K)
theorem r32_Is_b0_eq (v_0 : Option Addr) (v_0L : Nat) (v_0C : Nat) (nv : Int) (h : Hp)  (K : Value → Hp → Prop) : r32_Is_b0 v_0 v_0L v_0C nv h  K = (
  New h (.cells #[.slice v_0 v_0L v_0C] 48) fun b1 h1 =>
  cond (decide ((0 : Int) ≤ nv))
  (∃ (a1 : Option Addr) (L1 C1 : Nat), cell h1 ⟨b1, 0, none⟩ = some (.slice a1 L1 C1) ∧
  K (.bool (decide (nv < (L1 : Int)))) h1)
  (K (.bool false) h1)) := by kernel_rfl
theorem r32_Is_call {v_0 : Option Addr} {v_0L : Nat} {v_0C : Nat} {nv : Int} {h : Hp} {K : Value → Hp → Prop} (hk : r32_Is_b0 v_0 v_0L v_0C nv h K) : HCalls Try.prog 29 #[.agg #[.slice v_0 v_0L v_0C], .int .i64 nv] h K :=
  calls_of_snd r32_Is_an Try.func29 (c := bodyOf Try.f29) rfl Try.ntmps29 (Nat.le_of_ble_eq_true rfl) (snd_1 F_ok F_mixed) hk

/-! ### succinct_MakeTree -/
def succinct_MakeTree_an : Ann := .node none (.leaf) (.node (some [0]) (.leaf) (.node (some [0]) (.node none (.leaf) (.loop [0, 21, 22] [(23, .int .i64)] (.node none (.leaf) (.node none (.leaf) (.node (some [0, 21, 22, 23]) (.leaf) (.leaf)))))) (.node none (.leaf) (.node none (.leaf) (.node (some [6]) (.node none (.leaf) (.loop [6, 42, 43] [(44, .int .i64)] (.node none (.leaf) (.node none (.leaf) (.node (some [6, 42, 43, 44]) (.node none (.leaf) (.node none (.leaf) (.node none (.plan (.qu 0 (.qu 1 (.qu 2 (.qu 3 (.qu 4 (.qu 5 (.qu 6 (.wo 7 (.wo 8 (.qu 9 (.wo 10 .fin .no)) .no) .no))))))))) (.leaf)))) (.leaf)))))) (.leaf))))))
def succinct_MakeTree_K0  (K : Value → Hp → Prop) : Exit → Env → Hp → Prop := retK Try.prog Try.f30.results.toList K
def succinct_MakeTree_K1  (K : Value → Hp → Prop) : Exit → Env → Hp → Prop := thenE (fun env h => sx_3 Try.prog F 69 (cp [1, 1, 1] (bodyOf Try.f30)) (ap [1, 1, 1] succinct_MakeTree_an) (rs [0] env) h (succinct_MakeTree_K0  K)) (succinct_MakeTree_K0  K)
def succinct_MakeTree_K2  (K : Value → Hp → Prop) : Exit → Env → Hp → Prop := blockE 0 (succinct_MakeTree_K1  K)
def succinct_MakeTree_K3 (nx0 : Int × Unit → Hp → Prop) (K : Value → Hp → Prop) : Exit → Env → Hp → Prop := thenE (fun env h => getV [(23, .int .i64)] env fun s => nx0 s h) (succinct_MakeTree_K2  K)
def succinct_MakeTree_K4  (K : Value → Hp → Prop) : Exit → Env → Hp → Prop := thenE (fun env h => sx_2 Try.prog F 69 (cp [1, 1, 1, 1, 1, 1] (bodyOf Try.f30)) (ap [1, 1, 1, 1, 1, 1] succinct_MakeTree_an) (rs [6] env) h (succinct_MakeTree_K0  K)) (succinct_MakeTree_K0  K)
def succinct_MakeTree_K5  (K : Value → Hp → Prop) : Exit → Env → Hp → Prop := blockE 2 (succinct_MakeTree_K4  K)
def succinct_MakeTree_K6 (nx0 : Int × Unit → Hp → Prop) (K : Value → Hp → Prop) : Exit → Env → Hp → Prop := thenE (fun env h => getV [(44, .int .i64)] env fun s => nx0 s h) (succinct_MakeTree_K5  K)
def succinct_MakeTree_b0 (parents : Option Addr) (parentsL : Nat) (parentsC : Nat) (h : Hp)  (K : Value → Hp → Prop) : Prop :=
  sx_5 Try.prog F 69 (cp [] (bodyOf Try.f30)) (ap [] succinct_MakeTree_an) [(0, .slice parents parentsL parentsC)] h (succinct_MakeTree_K0  K)
def succinct_MakeTree_b1 (parents : Option Addr) (parentsL : Nat) (parentsC : Nat) (h : Hp)  (K : Value → Hp → Prop) : Prop :=
  sx_4 Try.prog F 69 (cp [1, 1] (bodyOf Try.f30)) (ap [1, 1] succinct_MakeTree_an) [(0, .slice parents parentsL parentsC)] h (succinct_MakeTree_K0  K)
def succinct_MakeTree_b2 (t23 : Int) (parents : Option Addr) (parentsL : Nat) (parentsC : Nat) (t21 : Option Addr) (t21L : Nat) (t21C : Nat) (t22 : Int) (h : Hp) (nx0 : Int × Unit → Hp → Prop) (K : Value → Hp → Prop) : Prop :=
  sx_3 Try.prog F 69 (cp [1, 1, 0, 1, 2, 2] (bodyOf Try.f30)) (ap [1, 1, 0, 1, 2] succinct_MakeTree_an) [(23, .int .i64 t23), (0, .slice parents parentsL parentsC), (21, .slice t21 t21L t21C), (22, .int .i64 t22)] h (succinct_MakeTree_K3 nx0 K)
def succinct_MakeTree_b3 (parents : Option Addr) (parentsL : Nat) (parentsC : Nat) (t21 : Option Addr) (t21L : Nat) (t21C : Nat) (t22 : Int) (t23 : Int) (h : Hp) (nx0 : Int × Unit → Hp → Prop) (K : Value → Hp → Prop) : Prop :=
  sx_2 Try.prog F 69 (cp [1, 1, 0, 1, 2, 2, 1, 1, 1] (bodyOf Try.f30)) (ap [1, 1, 0, 1, 2, 1, 1, 1] succinct_MakeTree_an) [(0, .slice parents parentsL parentsC), (21, .slice t21 t21L t21C), (22, .int .i64 t22), (23, .int .i64 t23)] h (succinct_MakeTree_K3 nx0 K)
def succinct_MakeTree_b4 (parents : Option Addr) (parentsL : Nat) (parentsC : Nat) (h : Hp)  (K : Value → Hp → Prop) : Prop :=
  sx_3 Try.prog F 69 (cp [1, 1, 1] (bodyOf Try.f30)) (ap [1, 1, 1] succinct_MakeTree_an) [(0, .slice parents parentsL parentsC)] h (succinct_MakeTree_K0  K)
def succinct_MakeTree_b5 (t44 : Int) (below : Option Addr) (t42 : Option Addr) (t42L : Nat) (t42C : Nat) (t43 : Int) (h : Hp) (nx0 : Int × Unit → Hp → Prop) (K : Value → Hp → Prop) : Prop :=
  sx_2 Try.prog F 69 (cp [1, 1, 1, 1, 1, 0, 1, 2, 2] (bodyOf Try.f30)) (ap [1, 1, 1, 1, 1, 0, 1, 2] succinct_MakeTree_an) [(44, .int .i64 t44), (6, .pointer below), (42, .slice t42 t42L t42C), (43, .int .i64 t43)] h (succinct_MakeTree_K6 nx0 K)
def succinct_MakeTree_b6 (below : Option Addr) (t42 : Option Addr) (t42L : Nat) (t42C : Nat) (t43 : Int) (t44 : Int) (h : Hp) (nx0 : Int × Unit → Hp → Prop) (K : Value → Hp → Prop) : Prop :=
  sx_1 Try.prog F 69 (cp [1, 1, 1, 1, 1, 0, 1, 2, 2, 1, 1, 1] (bodyOf Try.f30)) (ap [1, 1, 1, 1, 1, 0, 1, 2, 1, 1, 1] succinct_MakeTree_an) [(6, .pointer below), (42, .slice t42 t42L t42C), (43, .int .i64 t43), (44, .int .i64 t44)] h (succinct_MakeTree_K6 nx0 K)
def succinct_MakeTree_b7 (below : Option Addr) (h : Hp)  (K : Value → Hp → Prop) : Prop :=
  sx_2 Try.prog F 69 (cp [1, 1, 1, 1, 1, 1] (bodyOf Try.f30)) (ap [1, 1, 1, 1, 1, 1] succinct_MakeTree_an) [(6, .pointer below)] h (succinct_MakeTree_K0  K)
theorem succinct_MakeTree_b0_eq (parents : Option Addr) (parentsL : Nat) (parentsC : Nat) (h : Hp)  (K : Value → Hp → Prop) : succinct_MakeTree_b0 parents parentsL parentsC h  K = (
  cond (decide ((parentsL : Int) = 0))
  (K (.tuple #[.pointer none, .int .i64 1]) h)
  ((0 ≤ (0 : Int) ∧ (0 : Int) < (parentsL : Int)) ∧
  NN parents fun a1 =>
  ∃ n1 : Int, cell h (a1.add (Int.toNat (0 : Int) * 1)) = some (.int .i64 n1) ∧
  cond (!decide (n1 = (-1)))
  (K (.tuple #[.pointer none, .int .i64 1]) h)
  (succinct_MakeTree_b1 parents parentsL parentsC h  K))) := by kernel_rfl
theorem succinct_MakeTree_b1_eq (parents : Option Addr) (parentsL : Nat) (parentsC : Nat) (h : Hp)  (K : Value → Hp → Prop) : succinct_MakeTree_b1 parents parentsL parentsC h  K = (
  (0 ≤ (1 : Int) ∧ (1 : Int) ≤ (parentsL : Int) ∧ (parentsL : Int) ≤ (parentsC : Int)) ∧
  LoopVC ((0, ()) : Int × Unit) h (fun (nx0 : Int × Unit → Hp → Prop) (s1 : Int × Unit) h1 => succinct_MakeTree_b2 s1.1 parents parentsL parentsC (subAddr parents parentsC (Int.toNat (1 : Int)) 1) (Int.toNat (parentsL : Int) - Int.toNat (1 : Int)) (parentsC - Int.toNat (1 : Int)) ((Int.toNat (parentsL : Int) - Int.toNat (1 : Int) : Nat) : Int) h1 nx0 K)) := by kernel_rfl
theorem succinct_MakeTree_b2_eq (t23 : Int) (parents : Option Addr) (parentsL : Nat) (parentsC : Nat) (t21 : Option Addr) (t21L : Nat) (t21C : Nat) (t22 : Int) (h : Hp) (nx0 : Int × Unit → Hp → Prop) (K : Value → Hp → Prop) : succinct_MakeTree_b2 t23 parents parentsL parentsC t21 t21L t21C t22 h nx0 K = (
  cond (decide (t23 < t22))
  ((0 ≤ t23 ∧ t23 < (t21L : Int)) ∧
  NN t21 fun a2 =>
  ∃ n2 : Int, cell h (a2.add (Int.toNat t23 * 1)) = some (.int .i64 n2) ∧
  cond (decide (n2 < 0))
  (K (.tuple #[.pointer none, .int .i64 1]) h)
  (cond (decide (t23 < n2))
  (K (.tuple #[.pointer none, .int .i64 1]) h)
  (succinct_MakeTree_b3 parents parentsL parentsC t21 t21L t21C t22 t23 h nx0 K)))
  (succinct_MakeTree_b4 parents parentsL parentsC h  K)) := by kernel_rfl
theorem succinct_MakeTree_b3_eq (parents : Option Addr) (parentsL : Nat) (parentsC : Nat) (t21 : Option Addr) (t21L : Nat) (t21C : Nat) (t22 : Int) (t23 : Int) (h : Hp) (nx0 : Int × Unit → Hp → Prop) (K : Value → Hp → Prop) : succinct_MakeTree_b3 parents parentsL parentsC t21 t21L t21C t22 t23 h nx0 K = (
  InR (t23 + 1) ∧
  nx0 (t23 + 1, ()) h) := by kernel_rfl
theorem succinct_MakeTree_b4_eq (parents : Option Addr) (parentsL : Nat) (parentsC : Nat) (h : Hp)  (K : Value → Hp → Prop) : succinct_MakeTree_b4 parents parentsL parentsC h  K = (
  cond (decide ((1000 : Int) < (parentsL : Int)))
  (K (.tuple #[.pointer none, .int .i64 4]) h)
  ((0 ≤ (parentsL : Int) ∧ (parentsL : Int) ≤ (parentsL : Int) ∧ (parentsL : Int) ≤ 281474976710656 ∧ (parentsL : Int) * ((24 : Nat) : Int) ≤ 281474976710656) ∧
  New h (.cells (repL (Int.toNat (parentsL : Int) * 1) [.slice none 0 0]).toArray 22) fun b1 h2 =>
  New h2 (.cells #[.slice none 0 0] 82) fun b2 h3 =>
  Wr h3 ⟨b2, 0, none⟩ (.slice (some ⟨b1, 0, none⟩) (Int.toNat (parentsL : Int)) (Int.toNat (parentsL : Int))) fun h4 =>
  LoopVC ((0, ()) : Int × Unit) h4 (fun (nx0 : Int × Unit → Hp → Prop) (s2 : Int × Unit) h5 => succinct_MakeTree_b5 s2.1 (some ⟨b2, 0, none⟩) parents parentsL parentsC (parentsL : Int) h5 nx0 K))) := by kernel_rfl
theorem succinct_MakeTree_b5_eq (t44 : Int) (below : Option Addr) (t42 : Option Addr) (t42L : Nat) (t42C : Nat) (t43 : Int) (h : Hp) (nx0 : Int × Unit → Hp → Prop) (K : Value → Hp → Prop) : succinct_MakeTree_b5 t44 below t42 t42L t42C t43 h nx0 K = (
  cond (decide (t44 < t43))
  ((0 ≤ t44 ∧ t44 < (t42L : Int)) ∧
  NN t42 fun a3 =>
  ∃ n3 : Int, cell h (a3.add (Int.toNat t44 * 1)) = some (.int .i64 n3) ∧
  cond (decide ((0 : Int) ≤ n3))
  (NN below fun a4 =>
  ∃ (a5 : Option Addr) (L1 C1 : Nat), cell h a4 = some (.slice a5 L1 C1) ∧
  NN below fun a6 =>
  ∃ (a7 : Option Addr) (L2 C2 : Nat), cell h a6 = some (.slice a7 L2 C2) ∧
  (0 ≤ n3 ∧ n3 < (L2 : Int)) ∧
  NN a7 fun a8 =>
  ∃ (a9 : Option Addr) (L3 C3 : Nat), cell h (a8.add (Int.toNat n3 * 1)) = some (.slice a9 L3 C3) ∧
  New h (.cells #[.int .i64 t44] 3) fun b3 h6 =>
  (∃ (a10 : Option Addr) (L4 C4 : Nat), cell h6 (a8.add (Int.toNat n3 * 1)) = some (.slice a10 L4 C4) ∧
  (.slice a10 L4 C4 : Value) = .slice a9 L3 C3) ∧
  (NN below fun a11 =>
  ∃ (a12 : Option Addr) (L5 C5 : Nat), cell h6 a11 = some (.slice a12 L5 C5) ∧
  (.slice a12 L5 C5 : Value) = .slice a7 L2 C2) ∧
  (NN below fun a13 =>
  ∃ (a14 : Option Addr) (L6 C6 : Nat), cell h6 a13 = some (.slice a14 L6 C6) ∧
  (.slice a14 L6 C6 : Value) = .slice a5 L1 C1) ∧
  appendV Try.prog 22 22 (.slice a9 L3 C3) (.slice (some ⟨b3, 0, none⟩) 1 1) h6 (slK fun a15 l1 c1 h7 =>
  (NN below fun a16 =>
  ∃ (a17 : Option Addr) (L7 C7 : Nat), cell h7 a16 = some (.slice a17 L7 C7) ∧
  (.slice a17 L7 C7 : Value) = .slice a5 L1 C1) ∧
  (0 ≤ n3 ∧ n3 < (L1 : Int)) ∧
  NN a5 fun a18 =>
  Wr h7 (a18.add (Int.toNat n3 * 1)) (.slice a15 l1 c1) fun h8 =>
  succinct_MakeTree_b6 below t42 t42L t42C t43 t44 h8 nx0 K))
  (succinct_MakeTree_b6 below t42 t42L t42C t43 t44 h nx0 K))
  (succinct_MakeTree_b7 below h  K)) := by kernel_rfl
theorem succinct_MakeTree_b6_eq (below : Option Addr) (t42 : Option Addr) (t42L : Nat) (t42C : Nat) (t43 : Int) (t44 : Int) (h : Hp) (nx0 : Int × Unit → Hp → Prop) (K : Value → Hp → Prop) : succinct_MakeTree_b6 below t42 t42L t42C t43 t44 h nx0 K = (
  InR (t44 + 1) ∧
  nx0 (t44 + 1, ()) h) := by kernel_rfl
theorem succinct_MakeTree_b7_eq (below : Option Addr) (h : Hp)  (K : Value → Hp → Prop) : succinct_MakeTree_b7 below h  K = (
  New h (.cells #[.slice none 0 0] 52) fun b4 h9 =>
  New h9 (.cells #[.nilFunc] 83) fun b5 h10 =>
  Wr h10 ⟨b5, 0, none⟩ (.func (.func 57) #[] #[.pointer (some ⟨b4, 0, none⟩), .pointer below, .pointer (some ⟨b5, 0, none⟩)]) fun h11 =>
  ∃ v1 : Value, cell h11 ⟨b5, 0, none⟩ = some (v1) ∧
  funV v1 fun fg1 fa1 fc1 => chk (F fg1) (HCalls Try.prog fg1 (fa1 ++ (([.int .i64 0] : List Value) ++ fc1)).toArray h11 fun v2 h12 => v2 = .tuple #[] ∧
  ∃ (a19 : Option Addr) (L8 C8 : Nat), cell h12 ⟨b4, 0, none⟩ = some (.slice a19 L8 C8) ∧
  HCalls Try.prog 55 #[.slice a19 L8 C8] h12 fun v3 h13 => ∃ r1 : Option Addr, ∃ r2 : Int, v3 = .tuple #[.pointer r1, .int .i64 r2] ∧
  K (.tuple #[.pointer r1, .int .i64 r2]) h13)) := by kernel_rfl
theorem succinct_MakeTree_call {parents : Option Addr} {parentsL : Nat} {parentsC : Nat} {h : Hp} {K : Value → Hp → Prop} (hk : succinct_MakeTree_b0 parents parentsL parentsC h K) : HCalls Try.prog 30 #[.slice parents parentsL parentsC] h K :=
  calls_of_snd succinct_MakeTree_an Try.func30 (c := bodyOf Try.f30) rfl Try.ntmps30 (Nat.le_of_ble_eq_true rfl) (snd_5 F_ok F_mixed) hk

/-! ### r32_Euler -/
def r32_Euler_an : Ann := .node none (.leaf) (.node none (.leaf) (.node none (.leaf) (.node (some [4]) (.loop [1] [(3, .slice), (4, .slice)] (.node none (.leaf) (.node none (.leaf) (.node none (.leaf) (.node none (.leaf) (.node none (.leaf) (.node none (.leaf) (.node none (.leaf) (.node none (.leaf) (.loop [1, 4, 6] [(3, .slice), (7, .int .i64)] (.node none (.leaf) (.node (some [1, 3, 4, 6, 7]) (.leaf) (.leaf))))))))))))) (.leaf))))
def r32_Euler_K0  (K : Value → Hp → Prop) : Exit → Env → Hp → Prop := retK Try.prog Try.f31.results.toList K
def r32_Euler_K1  (K : Value → Hp → Prop) : Exit → Env → Hp → Prop := thenE (fun env h => sx_3 Try.prog F 57 (cp [1, 1, 1, 1] (bodyOf Try.f31)) (ap [1, 1, 1, 1] r32_Euler_an) (rs [4] env) h (r32_Euler_K0  K)) (r32_Euler_K0  K)
def r32_Euler_K2  (K : Value → Hp → Prop) : Exit → Env → Hp → Prop := blockE 0 (r32_Euler_K1  K)
def r32_Euler_K3 (nx0 : (Option Addr × Nat × Nat) × (Option Addr × Nat × Nat) × Unit → Hp → Prop) (K : Value → Hp → Prop) : Exit → Env → Hp → Prop := thenE (fun env h => getV [(3, .slice), (4, .slice)] env fun s => nx0 s h) (r32_Euler_K2  K)
def r32_Euler_K4 (nx0 : (Option Addr × Nat × Nat) × (Option Addr × Nat × Nat) × Unit → Hp → Prop) (K : Value → Hp → Prop) : Exit → Env → Hp → Prop := blockE 1 (r32_Euler_K3 nx0 K)
def r32_Euler_K5 (nx0 : (Option Addr × Nat × Nat) × (Option Addr × Nat × Nat) × Unit → Hp → Prop) (K : Value → Hp → Prop) : Exit → Env → Hp → Prop := blockE 2 (r32_Euler_K4 nx0 K)
def r32_Euler_K6 (nx0 : (Option Addr × Nat × Nat) × (Option Addr × Nat × Nat) × Unit → Hp → Prop) (nx1 : (Option Addr × Nat × Nat) × Int × Unit → Hp → Prop) (K : Value → Hp → Prop) : Exit → Env → Hp → Prop := thenE (fun env h => getV [(3, .slice), (7, .int .i64)] env fun s => nx1 s h) (r32_Euler_K5 nx0 K)
def r32_Euler_b0 (v_0 : Option Addr) (v_0L : Nat) (v_0C : Nat) (h : Hp)  (K : Value → Hp → Prop) : Prop :=
  sx_4 Try.prog F 57 (cp [] (bodyOf Try.f31)) (ap [] r32_Euler_an) [(0, .agg #[.slice v_0 v_0L v_0C])] h (r32_Euler_K0  K)
def r32_Euler_b1 (stack : Option Addr) (stackL : Nat) (stackC : Nat) (out : Option Addr) (outL : Nat) (outC : Nat) (v : Option Addr) (h : Hp) (nx0 : (Option Addr × Nat × Nat) × (Option Addr × Nat × Nat) × Unit → Hp → Prop) (K : Value → Hp → Prop) : Prop :=
  sx_3 Try.prog F 57 (cp [1, 1, 1, 0, 2, 2] (bodyOf Try.f31)) (ap [1, 1, 1, 0, 2] r32_Euler_an) [(3, .slice stack stackL stackC), (4, .slice out outL outC), (1, .pointer v)] h (r32_Euler_K3 nx0 K)
def r32_Euler_b2 (stack : Option Addr) (stackL : Nat) (stackC : Nat) (i : Int) (v : Option Addr) (out : Option Addr) (outL : Nat) (outC : Nat) (l : Option Addr) (lL : Nat) (lC : Nat) (h : Hp) (nx0 : (Option Addr × Nat × Nat) × (Option Addr × Nat × Nat) × Unit → Hp → Prop) (nx1 : (Option Addr × Nat × Nat) × Int × Unit → Hp → Prop) (K : Value → Hp → Prop) : Prop :=
  sx_2 Try.prog F 57 (cp [1, 1, 1, 0, 2, 2, 1, 2, 1, 1, 1, 1, 1, 1, 1, 2, 2] (bodyOf Try.f31)) (ap [1, 1, 1, 0, 2, 1, 1, 1, 1, 1, 1, 1, 1, 2] r32_Euler_an) [(3, .slice stack stackL stackC), (7, .int .i64 i), (1, .pointer v), (4, .slice out outL outC), (6, .slice l lL lC)] h (r32_Euler_K6 nx0 nx1 K)
def r32_Euler_b3 (out : Option Addr) (outL : Nat) (outC : Nat) (h : Hp)  (K : Value → Hp → Prop) : Prop :=
  sx_3 Try.prog F 57 (cp [1, 1, 1, 1] (bodyOf Try.f31)) (ap [1, 1, 1, 1] r32_Euler_an) [(4, .slice out outL outC)] h (r32_Euler_K0  K)
def r32_Euler_b4 (v : Option Addr) (stack : Option Addr) (stackL : Nat) (stackC : Nat) (out : Option Addr) (outL : Nat) (outC : Nat) (l : Option Addr) (lL : Nat) (lC : Nat) (i : Int) (h : Hp) (nx0 : (Option Addr × Nat × Nat) × (Option Addr × Nat × Nat) × Unit → Hp → Prop) (nx1 : (Option Addr × Nat × Nat) × Int × Unit → Hp → Prop) (K : Value → Hp → Prop) : Prop :=
  sx_1 Try.prog F 57 (cp [1, 1, 1, 0, 2, 2, 1, 2, 1, 1, 1, 1, 1, 1, 1, 2, 2, 1, 1] (bodyOf Try.f31)) (ap [1, 1, 1, 0, 2, 1, 1, 1, 1, 1, 1, 1, 1, 2, 1, 1] r32_Euler_an) [(1, .pointer v), (3, .slice stack stackL stackC), (4, .slice out outL outC), (6, .slice l lL lC), (7, .int .i64 i)] h (r32_Euler_K6 nx0 nx1 K)
theorem r32_Euler_b0_eq (v_0 : Option Addr) (v_0L : Nat) (v_0C : Nat) (h : Hp)  (K : Value → Hp → Prop) : r32_Euler_b0 v_0 v_0L v_0C h  K = (
  New h (.cells #[.slice v_0 v_0L v_0C] 48) fun b1 h1 =>
  New h1 (.cells #[.int .i64 0] 3) fun b2 h2 =>
  LoopVC (((some ⟨b2, 0, none⟩, 1, 1), (none, 0, 0), ()) : (Option Addr × Nat × Nat) × (Option Addr × Nat × Nat) × Unit) h2 (fun (nx0 : (Option Addr × Nat × Nat) × (Option Addr × Nat × Nat) × Unit → Hp → Prop) (s1 : (Option Addr × Nat × Nat) × (Option Addr × Nat × Nat) × Unit) h3 => r32_Euler_b1 s1.1.1 s1.1.2.1 s1.1.2.2 s1.2.1.1 s1.2.1.2.1 s1.2.1.2.2 (some ⟨b1, 0, none⟩) h3 nx0 K)) := by kernel_rfl
theorem r32_Euler_b1_eq (stack : Option Addr) (stackL : Nat) (stackC : Nat) (out : Option Addr) (outL : Nat) (outC : Nat) (v : Option Addr) (h : Hp) (nx0 : (Option Addr × Nat × Nat) × (Option Addr × Nat × Nat) × Unit → Hp → Prop) (K : Value → Hp → Prop) : r32_Euler_b1 stack stackL stackC out outL outC v h nx0 K = (
  cond (decide ((0 : Int) < (stackL : Int)))
  (InR ((stackL : Int) - 1) ∧
  (0 ≤ (stackL : Int) - 1 ∧ (stackL : Int) - 1 < (stackL : Int)) ∧
  NN stack fun a1 =>
  ∃ n1 : Int, cell h (a1.add (Int.toNat ((stackL : Int) - 1) * 1)) = some (.int .i64 n1) ∧
  InR ((stackL : Int) - 1) ∧
  (0 ≤ (0 : Int) ∧ (0 : Int) ≤ (stackL : Int) - 1 ∧ (stackL : Int) - 1 ≤ (stackC : Int)) ∧
  cond (decide (n1 < 0))
  (InR ((-1) - n1) ∧
  New h (.cells #[.int .i64 ((-1) - n1)] 3) fun b3 h4 =>
  appendV Try.prog 22 22 (.slice out outL outC) (.slice (some ⟨b3, 0, none⟩) 1 1) h4 (slK fun a2 l1 c1 h5 =>
  nx0 ((subAddr stack stackC (Int.toNat (0 : Int)) 1, Int.toNat ((stackL : Int) - 1) - Int.toNat (0 : Int), stackC - Int.toNat (0 : Int)), (a2, l1, c1), ()) h5))
  (New h (.cells #[.int .i64 n1] 3) fun b4 h6 =>
  appendV Try.prog 22 22 (.slice out outL outC) (.slice (some ⟨b4, 0, none⟩) 1 1) h6 (slK fun a3 l2 c2 h7 =>
  InR ((-1) - n1) ∧
  New h7 (.cells #[.int .i64 ((-1) - n1)] 3) fun b5 h8 =>
  appendV Try.prog 22 22 (.slice (subAddr stack stackC (Int.toNat (0 : Int)) 1) (Int.toNat ((stackL : Int) - 1) - Int.toNat (0 : Int)) (stackC - Int.toNat (0 : Int))) (.slice (some ⟨b5, 0, none⟩) 1 1) h8 (slK fun a4 l3 c3 h9 =>
  NN v fun a5 =>
  ∃ (a6 : Option Addr) (L1 C1 : Nat), cell h9 a5 = some (.slice a6 L1 C1) ∧
  HCalls Try.prog 58 #[.agg #[.slice a6 L1 C1], .int .i64 n1] h9 fun v1 h10 => ∃ (r1 : Option Addr) (rL1 rC1 : Nat), v1 = .slice r1 rL1 rC1 ∧
  InR ((rL1 : Int) - 1) ∧
  LoopVC (((a4, l3, c3), (rL1 : Int) - 1, ()) : (Option Addr × Nat × Nat) × Int × Unit) h10 (fun (nx1 : (Option Addr × Nat × Nat) × Int × Unit → Hp → Prop) (s2 : (Option Addr × Nat × Nat) × Int × Unit) h11 => r32_Euler_b2 s2.1.1 s2.1.2.1 s2.1.2.2 s2.2.1 v a3 l2 c2 r1 rL1 rC1 h11 nx0 nx1 K)))))
  (r32_Euler_b3 out outL outC h  K)) := by kernel_rfl
theorem r32_Euler_b2_eq (stack : Option Addr) (stackL : Nat) (stackC : Nat) (i : Int) (v : Option Addr) (out : Option Addr) (outL : Nat) (outC : Nat) (l : Option Addr) (lL : Nat) (lC : Nat) (h : Hp) (nx0 : (Option Addr × Nat × Nat) × (Option Addr × Nat × Nat) × Unit → Hp → Prop) (nx1 : (Option Addr × Nat × Nat) × Int × Unit → Hp → Prop) (K : Value → Hp → Prop) : r32_Euler_b2 stack stackL stackC i v out outL outC l lL lC h nx0 nx1 K = (
  cond (decide ((0 : Int) ≤ i))
  ((0 ≤ i ∧ i < (lL : Int)) ∧
  NN l fun a7 =>
  ∃ n2 : Int, cell h (a7.add (Int.toNat i * 1)) = some (.int .i64 n2) ∧
  New h (.cells #[.int .i64 n2] 3) fun b6 h12 =>
  appendV Try.prog 22 22 (.slice stack stackL stackC) (.slice (some ⟨b6, 0, none⟩) 1 1) h12 (slK fun a8 l4 c4 h13 =>
  r32_Euler_b4 v a8 l4 c4 out outL outC l lL lC i h13 nx0 nx1 K))
  (nx0 ((stack, stackL, stackC), (out, outL, outC), ()) h)) := by kernel_rfl
theorem r32_Euler_b3_eq (out : Option Addr) (outL : Nat) (outC : Nat) (h : Hp)  (K : Value → Hp → Prop) : r32_Euler_b3 out outL outC h  K = (
  K (.slice out outL outC) h) := by kernel_rfl
theorem r32_Euler_b4_eq (v : Option Addr) (stack : Option Addr) (stackL : Nat) (stackC : Nat) (out : Option Addr) (outL : Nat) (outC : Nat) (l : Option Addr) (lL : Nat) (lC : Nat) (i : Int) (h : Hp) (nx0 : (Option Addr × Nat × Nat) × (Option Addr × Nat × Nat) × Unit → Hp → Prop) (nx1 : (Option Addr × Nat × Nat) × Int × Unit → Hp → Prop) (K : Value → Hp → Prop) : r32_Euler_b4 v stack stackL stackC out outL outC l lL lC i h nx0 nx1 K = (
  InR (i - 1) ∧
  nx1 ((stack, stackL, stackC), i - 1, ()) h) := by kernel_rfl
theorem r32_Euler_call {v_0 : Option Addr} {v_0L : Nat} {v_0C : Nat} {h : Hp} {K : Value → Hp → Prop} (hk : r32_Euler_b0 v_0 v_0L v_0C h K) : HCalls Try.prog 31 #[.agg #[.slice v_0 v_0L v_0C]] h K :=
  calls_of_snd r32_Euler_an Try.func31 (c := bodyOf Try.f31) rfl Try.ntmps31 (Nat.le_of_ble_eq_true rfl) (snd_4 F_ok F_mixed) hk

/-! ### succinct_Tree_Depth -/
def succinct_Tree_Depth_an : Ann := .leaf
def succinct_Tree_Depth_K0  (K : Value → Hp → Prop) : Exit → Env → Hp → Prop := retK Try.prog Try.f32.results.toList K
def succinct_Tree_Depth_b0 (t : Option Addr) (v : Int) (h : Hp)  (K : Value → Hp → Prop) : Prop :=
  sx_1 Try.prog F 24 (cp [] (bodyOf Try.f32)) (ap [] succinct_Tree_Depth_an) [(0, .pointer t), (1, .int .i64 v)] h (succinct_Tree_Depth_K0  K)
theorem succinct_Tree_Depth_b0_eq (t : Option Addr) (v : Int) (h : Hp)  (K : Value → Hp → Prop) : succinct_Tree_Depth_b0 t v h  K = (
  New h (.cells #[.int .i64 v] 3) fun b1 h1 =>
  HCalls Try.prog 59 #[.pointer t, .slice (some ⟨b1, 0, none⟩) 1 1] h1 fun v1 h2 => ∃ r1 : Int, v1 = .int .i64 r1 ∧
  cond (!decide (r1 = 0))
  (K (.tuple #[.int .i64 0, .int .i64 r1]) h2)
  (HCalls Try.prog 60 #[.pointer t, .int .i64 v] h2 fun v2 h3 => ∃ r2 : Int, v2 = .int .i64 r2 ∧
  HCalls Try.prog 61 #[.pointer t, .int .i64 r2] h3 fun v3 h4 => ∃ r3 : Int, v3 = .int .i64 r3 ∧
  InR (2 * r3) ∧
  InR ((2 * r3) - r2) ∧
  K (.tuple #[.int .i64 ((2 * r3) - r2), .int .i64 0]) h4)) := by kernel_rfl
theorem succinct_Tree_Depth_call {t : Option Addr} {v : Int} {h : Hp} {K : Value → Hp → Prop} (hk : succinct_Tree_Depth_b0 t v h K) : HCalls Try.prog 32 #[.pointer t, .int .i64 v] h K :=
  calls_of_snd succinct_Tree_Depth_an Try.func32 (c := bodyOf Try.f32) rfl Try.ntmps32 (Nat.le_of_ble_eq_true rfl) (snd_1 F_ok F_mixed) hk

/-! ### succinct_Tree_Common -/
def succinct_Tree_Common_an : Ann := .node none (.leaf) (.node none (.leaf) (.node (some [1]) (.loop [0] [(1, .int .i64), (2, .int .i64)] (.node none (.leaf) (.node (some [0, 1, 2]) (.leaf) (.leaf)))) (.leaf)))
def succinct_Tree_Common_K0  (K : Value → Hp → Prop) : Exit → Env → Hp → Prop := retK Try.prog Try.f33.results.toList K
def succinct_Tree_Common_K1  (K : Value → Hp → Prop) : Exit → Env → Hp → Prop := thenE (fun env h => sx_2 Try.prog F 29 (cp [1, 1, 1] (bodyOf Try.f33)) (ap [1, 1, 1] succinct_Tree_Common_an) (rs [1] env) h (succinct_Tree_Common_K0  K)) (succinct_Tree_Common_K0  K)
def succinct_Tree_Common_K2  (K : Value → Hp → Prop) : Exit → Env → Hp → Prop := blockE 0 (succinct_Tree_Common_K1  K)
def succinct_Tree_Common_K3 (nx0 : Int × Int × Unit → Hp → Prop) (K : Value → Hp → Prop) : Exit → Env → Hp → Prop := thenE (fun env h => getV [(1, .int .i64), (2, .int .i64)] env fun s => nx0 s h) (succinct_Tree_Common_K2  K)
def succinct_Tree_Common_K4 (nx0 : Int × Int × Unit → Hp → Prop) (K : Value → Hp → Prop) : Exit → Env → Hp → Prop := blockE 1 (succinct_Tree_Common_K3 nx0 K)
def succinct_Tree_Common_b0 (t : Option Addr) (v : Int) (w : Int) (h : Hp)  (K : Value → Hp → Prop) : Prop :=
  sx_3 Try.prog F 29 (cp [] (bodyOf Try.f33)) (ap [] succinct_Tree_Common_an) [(0, .pointer t), (1, .int .i64 v), (2, .int .i64 w)] h (succinct_Tree_Common_K0  K)
def succinct_Tree_Common_b1 (v : Int) (w : Int) (t : Option Addr) (h : Hp) (nx0 : Int × Int × Unit → Hp → Prop) (K : Value → Hp → Prop) : Prop :=
  sx_2 Try.prog F 29 (cp [1, 1, 0, 2, 2] (bodyOf Try.f33)) (ap [1, 1, 0, 2] succinct_Tree_Common_an) [(1, .int .i64 v), (2, .int .i64 w), (0, .pointer t)] h (succinct_Tree_Common_K3 nx0 K)
def succinct_Tree_Common_b2 (t : Option Addr) (v : Int) (w : Int) (h : Hp) (nx0 : Int × Int × Unit → Hp → Prop) (K : Value → Hp → Prop) : Prop :=
  sx_1 Try.prog F 29 (cp [1, 1, 0, 2, 2, 1, 2, 1] (bodyOf Try.f33)) (ap [1, 1, 0, 2, 1, 1] succinct_Tree_Common_an) [(0, .pointer t), (1, .int .i64 v), (2, .int .i64 w)] h (succinct_Tree_Common_K4 nx0 K)
def succinct_Tree_Common_b3 (v : Int) (h : Hp)  (K : Value → Hp → Prop) : Prop :=
  sx_2 Try.prog F 29 (cp [1, 1, 1] (bodyOf Try.f33)) (ap [1, 1, 1] succinct_Tree_Common_an) [(1, .int .i64 v)] h (succinct_Tree_Common_K0  K)
theorem succinct_Tree_Common_b0_eq (t : Option Addr) (v : Int) (w : Int) (h : Hp)  (K : Value → Hp → Prop) : succinct_Tree_Common_b0 t v w h  K = (
  New h (.cells #[.int .i64 v, .int .i64 w] 3) fun b1 h1 =>
  HCalls Try.prog 59 #[.pointer t, .slice (some ⟨b1, 0, none⟩) 2 2] h1 fun v1 h2 => ∃ r1 : Int, v1 = .int .i64 r1 ∧
  cond (!decide (r1 = 0))
  (K (.tuple #[.int .i64 0, .int .i64 r1]) h2)
  (LoopVC ((v, w, ()) : Int × Int × Unit) h2 (fun (nx0 : Int × Int × Unit → Hp → Prop) (s1 : Int × Int × Unit) h3 => succinct_Tree_Common_b1 s1.1 s1.2.1 t h3 nx0 K))) := by kernel_rfl
theorem succinct_Tree_Common_b1_eq (v : Int) (w : Int) (t : Option Addr) (h : Hp) (nx0 : Int × Int × Unit → Hp → Prop) (K : Value → Hp → Prop) : succinct_Tree_Common_b1 v w t h nx0 K = (
  cond (!decide (v = w))
  (cond (decide (v < w))
  (succinct_Tree_Common_b2 t w v h nx0 K)
  (succinct_Tree_Common_b2 t v w h nx0 K))
  (succinct_Tree_Common_b3 v h  K)) := by kernel_rfl
theorem succinct_Tree_Common_b2_eq (t : Option Addr) (v : Int) (w : Int) (h : Hp) (nx0 : Int × Int × Unit → Hp → Prop) (K : Value → Hp → Prop) : succinct_Tree_Common_b2 t v w h nx0 K = (
  HCalls Try.prog 62 #[.pointer t, .int .i64 v] h fun v2 h4 => ∃ r2 : Int, v2 = .int .i64 r2 ∧
  nx0 (r2, w, ()) h4) := by kernel_rfl
theorem succinct_Tree_Common_b3_eq (v : Int) (h : Hp)  (K : Value → Hp → Prop) : succinct_Tree_Common_b3 v h  K = (
  K (.tuple #[.int .i64 v, .int .i64 0]) h) := by kernel_rfl
theorem succinct_Tree_Common_call {t : Option Addr} {v : Int} {w : Int} {h : Hp} {K : Value → Hp → Prop} (hk : succinct_Tree_Common_b0 t v w h K) : HCalls Try.prog 33 #[.pointer t, .int .i64 v, .int .i64 w] h K :=
  calls_of_snd succinct_Tree_Common_an Try.func33 (c := bodyOf Try.f33) rfl Try.ntmps33 (Nat.le_of_ble_eq_true rfl) (snd_3 F_ok F_mixed) hk

/-! ### succinct_Tree_Parent -/
def succinct_Tree_Parent_an : Ann := .leaf
def succinct_Tree_Parent_K0  (K : Value → Hp → Prop) : Exit → Env → Hp → Prop := retK Try.prog Try.f34.results.toList K
def succinct_Tree_Parent_b0 (t : Option Addr) (v : Int) (h : Hp)  (K : Value → Hp → Prop) : Prop :=
  sx_1 Try.prog F 17 (cp [] (bodyOf Try.f34)) (ap [] succinct_Tree_Parent_an) [(0, .pointer t), (1, .int .i64 v)] h (succinct_Tree_Parent_K0  K)
theorem succinct_Tree_Parent_b0_eq (t : Option Addr) (v : Int) (h : Hp)  (K : Value → Hp → Prop) : succinct_Tree_Parent_b0 t v h  K = (
  New h (.cells #[.int .i64 v] 3) fun b1 h1 =>
  HCalls Try.prog 59 #[.pointer t, .slice (some ⟨b1, 0, none⟩) 1 1] h1 fun v1 h2 => ∃ r1 : Int, v1 = .int .i64 r1 ∧
  cond (!decide (r1 = 0))
  (K (.tuple #[.int .i64 0, .int .i64 r1]) h2)
  (HCalls Try.prog 62 #[.pointer t, .int .i64 v] h2 fun v2 h3 => ∃ r2 : Int, v2 = .int .i64 r2 ∧
  K (.tuple #[.int .i64 r2, .int .i64 0]) h3)) := by kernel_rfl
theorem succinct_Tree_Parent_call {t : Option Addr} {v : Int} {h : Hp} {K : Value → Hp → Prop} (hk : succinct_Tree_Parent_b0 t v h K) : HCalls Try.prog 34 #[.pointer t, .int .i64 v] h K :=
  calls_of_snd succinct_Tree_Parent_an Try.func34 (c := bodyOf Try.f34) rfl Try.ntmps34 (Nat.le_of_ble_eq_true rfl) (snd_1 F_ok F_mixed) hk

/-! ### r32_Path -/
def r32_Path_an : Ann := .node none (.leaf) (.node none (.leaf) (.node (some [5]) (.node none (.leaf) (.loop [2] [(5, .slice), (6, .int .i64)] (.node none (.leaf) (.node (some [2, 5, 6]) (.leaf) (.leaf))))) (.node none (.leaf) (.node (some [7]) (.node none (.leaf) (.loop [5] [(7, .slice), (8, .int .i64)] (.node none (.leaf) (.node (some [5, 7, 8]) (.leaf) (.leaf))))) (.leaf)))))
def r32_Path_K0  (K : Value → Hp → Prop) : Exit → Env → Hp → Prop := retK Try.prog Try.f35.results.toList K
def r32_Path_K1  (K : Value → Hp → Prop) : Exit → Env → Hp → Prop := thenE (fun env h => sx_3 Try.prog F 36 (cp [1, 1, 1] (bodyOf Try.f35)) (ap [1, 1, 1] r32_Path_an) (rs [5] env) h (r32_Path_K0  K)) (r32_Path_K0  K)
def r32_Path_K2  (K : Value → Hp → Prop) : Exit → Env → Hp → Prop := blockE 0 (r32_Path_K1  K)
def r32_Path_K3 (nx0 : (Option Addr × Nat × Nat) × Int × Unit → Hp → Prop) (K : Value → Hp → Prop) : Exit → Env → Hp → Prop := thenE (fun env h => getV [(5, .slice), (6, .int .i64)] env fun s => nx0 s h) (r32_Path_K2  K)
def r32_Path_K4  (K : Value → Hp → Prop) : Exit → Env → Hp → Prop := thenE (fun env h => sx_2 Try.prog F 36 (cp [1, 1, 1, 1, 1] (bodyOf Try.f35)) (ap [1, 1, 1, 1, 1] r32_Path_an) (rs [7] env) h (r32_Path_K0  K)) (r32_Path_K0  K)
def r32_Path_K5  (K : Value → Hp → Prop) : Exit → Env → Hp → Prop := blockE 2 (r32_Path_K4  K)
def r32_Path_K6 (nx0 : (Option Addr × Nat × Nat) × Int × Unit → Hp → Prop) (K : Value → Hp → Prop) : Exit → Env → Hp → Prop := thenE (fun env h => getV [(7, .slice), (8, .int .i64)] env fun s => nx0 s h) (r32_Path_K5  K)
def r32_Path_b0 (v_0 : Option Addr) (v_0L : Nat) (v_0C : Nat) (nv : Int) (h : Hp)  (K : Value → Hp → Prop) : Prop :=
  sx_4 Try.prog F 36 (cp [] (bodyOf Try.f35)) (ap [] r32_Path_an) [(0, .agg #[.slice v_0 v_0L v_0C]), (1, .int .i64 nv)] h (r32_Path_K0  K)
def r32_Path_b1 (back : Option Addr) (backL : Nat) (backC : Nat) (k : Int) (v : Option Addr) (h : Hp) (nx0 : (Option Addr × Nat × Nat) × Int × Unit → Hp → Prop) (K : Value → Hp → Prop) : Prop :=
  sx_3 Try.prog F 36 (cp [1, 1, 0, 1, 2, 2] (bodyOf Try.f35)) (ap [1, 1, 0, 1, 2] r32_Path_an) [(5, .slice back backL backC), (6, .int .i64 k), (2, .pointer v)] h (r32_Path_K3 nx0 K)
def r32_Path_b2 (v : Option Addr) (back : Option Addr) (backL : Nat) (backC : Nat) (k : Int) (h : Hp) (nx0 : (Option Addr × Nat × Nat) × Int × Unit → Hp → Prop) (K : Value → Hp → Prop) : Prop :=
  sx_2 Try.prog F 36 (cp [1, 1, 0, 1, 2, 2, 1, 1] (bodyOf Try.f35)) (ap [1, 1, 0, 1, 2, 1, 1] r32_Path_an) [(2, .pointer v), (5, .slice back backL backC), (6, .int .i64 k)] h (r32_Path_K3 nx0 K)
def r32_Path_b3 (back : Option Addr) (backL : Nat) (backC : Nat) (h : Hp)  (K : Value → Hp → Prop) : Prop :=
  sx_3 Try.prog F 36 (cp [1, 1, 1] (bodyOf Try.f35)) (ap [1, 1, 1] r32_Path_an) [(5, .slice back backL backC)] h (r32_Path_K0  K)
def r32_Path_b4 (out : Option Addr) (outL : Nat) (outC : Nat) (i : Int) (back : Option Addr) (backL : Nat) (backC : Nat) (h : Hp) (nx0 : (Option Addr × Nat × Nat) × Int × Unit → Hp → Prop) (K : Value → Hp → Prop) : Prop :=
  sx_2 Try.prog F 36 (cp [1, 1, 1, 1, 0, 1, 2, 2] (bodyOf Try.f35)) (ap [1, 1, 1, 1, 0, 1, 2] r32_Path_an) [(7, .slice out outL outC), (8, .int .i64 i), (5, .slice back backL backC)] h (r32_Path_K6 nx0 K)
def r32_Path_b5 (back : Option Addr) (backL : Nat) (backC : Nat) (out : Option Addr) (outL : Nat) (outC : Nat) (i : Int) (h : Hp) (nx0 : (Option Addr × Nat × Nat) × Int × Unit → Hp → Prop) (K : Value → Hp → Prop) : Prop :=
  sx_1 Try.prog F 36 (cp [1, 1, 1, 1, 0, 1, 2, 2, 1, 1] (bodyOf Try.f35)) (ap [1, 1, 1, 1, 0, 1, 2, 1, 1] r32_Path_an) [(5, .slice back backL backC), (7, .slice out outL outC), (8, .int .i64 i)] h (r32_Path_K6 nx0 K)
def r32_Path_b6 (out : Option Addr) (outL : Nat) (outC : Nat) (h : Hp)  (K : Value → Hp → Prop) : Prop :=
  sx_2 Try.prog F 36 (cp [1, 1, 1, 1, 1] (bodyOf Try.f35)) (ap [1, 1, 1, 1, 1] r32_Path_an) [(7, .slice out outL outC)] h (r32_Path_K0  K)
theorem r32_Path_b0_eq (v_0 : Option Addr) (v_0L : Nat) (v_0C : Nat) (nv : Int) (h : Hp)  (K : Value → Hp → Prop) : r32_Path_b0 v_0 v_0L v_0C nv h  K = (
  New h (.cells #[.slice v_0 v_0L v_0C] 48) fun b1 h1 =>
  LoopVC (((none, 0, 0), nv, ()) : (Option Addr × Nat × Nat) × Int × Unit) h1 (fun (nx0 : (Option Addr × Nat × Nat) × Int × Unit → Hp → Prop) (s1 : (Option Addr × Nat × Nat) × Int × Unit) h2 => r32_Path_b1 s1.1.1 s1.1.2.1 s1.1.2.2 s1.2.1 (some ⟨b1, 0, none⟩) h2 nx0 K)) := by kernel_rfl
theorem r32_Path_b1_eq (back : Option Addr) (backL : Nat) (backC : Nat) (k : Int) (v : Option Addr) (h : Hp) (nx0 : (Option Addr × Nat × Nat) × Int × Unit → Hp → Prop) (K : Value → Hp → Prop) : r32_Path_b1 back backL backC k v h nx0 K = (
  cond (decide ((0 : Int) ≤ k))
  (New h (.cells #[.int .i64 k] 3) fun b2 h3 =>
  appendV Try.prog 22 22 (.slice back backL backC) (.slice (some ⟨b2, 0, none⟩) 1 1) h3 (slK fun a1 l1 c1 h4 =>
  r32_Path_b2 v a1 l1 c1 k h4 nx0 K))
  (r32_Path_b3 back backL backC h  K)) := by kernel_rfl
theorem r32_Path_b2_eq (v : Option Addr) (back : Option Addr) (backL : Nat) (backC : Nat) (k : Int) (h : Hp) (nx0 : (Option Addr × Nat × Nat) × Int × Unit → Hp → Prop) (K : Value → Hp → Prop) : r32_Path_b2 v back backL backC k h nx0 K = (
  NN v fun a2 =>
  ∃ (a3 : Option Addr) (L1 C1 : Nat), cell h a2 = some (.slice a3 L1 C1) ∧
  (0 ≤ k ∧ k < (L1 : Int)) ∧
  NN a3 fun a4 =>
  ∃ n1 : Int, cell h (a4.add (Int.toNat k * 1)) = some (.int .i64 n1) ∧
  nx0 ((back, backL, backC), n1, ()) h) := by kernel_rfl
theorem r32_Path_b3_eq (back : Option Addr) (backL : Nat) (backC : Nat) (h : Hp)  (K : Value → Hp → Prop) : r32_Path_b3 back backL backC h  K = (
  InR ((backL : Int) - 1) ∧
  LoopVC (((none, 0, 0), (backL : Int) - 1, ()) : (Option Addr × Nat × Nat) × Int × Unit) h (fun (nx0 : (Option Addr × Nat × Nat) × Int × Unit → Hp → Prop) (s2 : (Option Addr × Nat × Nat) × Int × Unit) h5 => r32_Path_b4 s2.1.1 s2.1.2.1 s2.1.2.2 s2.2.1 back backL backC h5 nx0 K)) := by kernel_rfl
theorem r32_Path_b4_eq (out : Option Addr) (outL : Nat) (outC : Nat) (i : Int) (back : Option Addr) (backL : Nat) (backC : Nat) (h : Hp) (nx0 : (Option Addr × Nat × Nat) × Int × Unit → Hp → Prop) (K : Value → Hp → Prop) : r32_Path_b4 out outL outC i back backL backC h nx0 K = (
  cond (decide ((0 : Int) ≤ i))
  ((0 ≤ i ∧ i < (backL : Int)) ∧
  NN back fun a5 =>
  ∃ n2 : Int, cell h (a5.add (Int.toNat i * 1)) = some (.int .i64 n2) ∧
  New h (.cells #[.int .i64 n2] 3) fun b3 h6 =>
  appendV Try.prog 22 22 (.slice out outL outC) (.slice (some ⟨b3, 0, none⟩) 1 1) h6 (slK fun a6 l2 c2 h7 =>
  r32_Path_b5 back backL backC a6 l2 c2 i h7 nx0 K))
  (r32_Path_b6 out outL outC h  K)) := by kernel_rfl
theorem r32_Path_b5_eq (back : Option Addr) (backL : Nat) (backC : Nat) (out : Option Addr) (outL : Nat) (outC : Nat) (i : Int) (h : Hp) (nx0 : (Option Addr × Nat × Nat) × Int × Unit → Hp → Prop) (K : Value → Hp → Prop) : r32_Path_b5 back backL backC out outL outC i h nx0 K = (
  InR (i - 1) ∧
  nx0 ((out, outL, outC), i - 1, ()) h) := by kernel_rfl
theorem r32_Path_b6_eq (out : Option Addr) (outL : Nat) (outC : Nat) (h : Hp)  (K : Value → Hp → Prop) : r32_Path_b6 out outL outC h  K = (
  K (.slice out outL outC) h) := by kernel_rfl
theorem r32_Path_call {v_0 : Option Addr} {v_0L : Nat} {v_0C : Nat} {nv : Int} {h : Hp} {K : Value → Hp → Prop} (hk : r32_Path_b0 v_0 v_0L v_0C nv h K) : HCalls Try.prog 35 #[.agg #[.slice v_0 v_0L v_0C], .int .i64 nv] h K :=
  calls_of_snd r32_Path_an Try.func35 (c := bodyOf Try.f35) rfl Try.ntmps35 (Nat.le_of_ble_eq_true rfl) (snd_4 F_ok F_mixed) hk

/-! ### r32_Common -/
def r32_Common_an : Ann := .node none (.leaf) (.node none (.leaf) (.node (some [7]) (.loop [2, 3] [(7, .int .i64)] (.leaf)) (.leaf)))
def r32_Common_K0  (K : Value → Hp → Prop) : Exit → Env → Hp → Prop := retK Try.prog Try.f36.results.toList K
def r32_Common_K1  (K : Value → Hp → Prop) : Exit → Env → Hp → Prop := thenE (fun env h => sx_1 Try.prog F 20 (cp [1, 1, 1] (bodyOf Try.f36)) (ap [1, 1, 1] r32_Common_an) (rs [7] env) h (r32_Common_K0  K)) (r32_Common_K0  K)
def r32_Common_K2  (K : Value → Hp → Prop) : Exit → Env → Hp → Prop := blockE 0 (r32_Common_K1  K)
def r32_Common_K3 (nx0 : Int × Unit → Hp → Prop) (K : Value → Hp → Prop) : Exit → Env → Hp → Prop := thenE (fun env h => getV [(7, .int .i64)] env fun s => nx0 s h) (r32_Common_K2  K)
def r32_Common_b0 (v_0 : Option Addr) (v_0L : Nat) (v_0C : Nat) (a : Int) (b : Int) (h : Hp)  (K : Value → Hp → Prop) : Prop :=
  sx_2 Try.prog F 20 (cp [] (bodyOf Try.f36)) (ap [] r32_Common_an) [(0, .agg #[.slice v_0 v_0L v_0C]), (1, .int .i64 a), (2, .int .i64 b)] h (r32_Common_K0  K)
def r32_Common_b1 (k : Int) (b : Int) (v : Option Addr) (h : Hp) (nx0 : Int × Unit → Hp → Prop) (K : Value → Hp → Prop) : Prop :=
  sx_1 Try.prog F 20 (cp [1, 1, 0, 2, 2] (bodyOf Try.f36)) (ap [1, 1, 0, 2] r32_Common_an) [(7, .int .i64 k), (2, .int .i64 b), (3, .pointer v)] h (r32_Common_K3 nx0 K)
def r32_Common_b2 (k : Int) (h : Hp)  (K : Value → Hp → Prop) : Prop :=
  sx_1 Try.prog F 20 (cp [1, 1, 1] (bodyOf Try.f36)) (ap [1, 1, 1] r32_Common_an) [(7, .int .i64 k)] h (r32_Common_K0  K)
theorem r32_Common_b0_eq (v_0 : Option Addr) (v_0L : Nat) (v_0C : Nat) (a : Int) (b : Int) (h : Hp)  (K : Value → Hp → Prop) : r32_Common_b0 v_0 v_0L v_0C a b h  K = (
  New h (.cells #[.slice v_0 v_0L v_0C] 48) fun b1 h1 =>
  LoopVC ((a, ()) : Int × Unit) h1 (fun (nx0 : Int × Unit → Hp → Prop) (s1 : Int × Unit) h2 => r32_Common_b1 s1.1 b (some ⟨b1, 0, none⟩) h2 nx0 K)) := by kernel_rfl
theorem r32_Common_b1_eq (k : Int) (b : Int) (v : Option Addr) (h : Hp) (nx0 : Int × Unit → Hp → Prop) (K : Value → Hp → Prop) : r32_Common_b1 k b v h nx0 K = (
  NN v fun a1 =>
  ∃ (a2 : Option Addr) (L1 C1 : Nat), cell h a1 = some (.slice a2 L1 C1) ∧
  HCalls Try.prog 63 #[.agg #[.slice a2 L1 C1], .int .i64 k, .int .i64 b] h fun v1 h3 => ∃ r1 : Bool, v1 = .bool r1 ∧
  cond (!r1)
  (NN v fun a3 =>
  ∃ (a4 : Option Addr) (L2 C2 : Nat), cell h3 a3 = some (.slice a4 L2 C2) ∧
  (0 ≤ k ∧ k < (L2 : Int)) ∧
  NN a4 fun a5 =>
  ∃ n1 : Int, cell h3 (a5.add (Int.toNat k * 1)) = some (.int .i64 n1) ∧
  nx0 (n1, ()) h3)
  (r32_Common_b2 k h3  K)) := by kernel_rfl
theorem r32_Common_b2_eq (k : Int) (h : Hp)  (K : Value → Hp → Prop) : r32_Common_b2 k h  K = (
  K (.int .i64 k) h) := by kernel_rfl
theorem r32_Common_call {v_0 : Option Addr} {v_0L : Nat} {v_0C : Nat} {a : Int} {b : Int} {h : Hp} {K : Value → Hp → Prop} (hk : r32_Common_b0 v_0 v_0L v_0C a b h K) : HCalls Try.prog 36 #[.agg #[.slice v_0 v_0L v_0C], .int .i64 a, .int .i64 b] h K :=
  calls_of_snd r32_Common_an Try.func36 (c := bodyOf Try.f36) rfl Try.ntmps36 (Nat.le_of_ble_eq_true rfl) (snd_2 F_ok F_mixed) hk

/-! ### succinct_Tree_Close -/
def succinct_Tree_Close_an : Ann := .node none (.leaf) (.node none (.leaf) (.node none (.leaf) (.node (some [0, 1]) (.leaf) (.leaf))))
def succinct_Tree_Close_K0  (K : Value → Hp → Prop) : Exit → Env → Hp → Prop := retK Try.prog Try.f37.results.toList K
def succinct_Tree_Close_b0 (t : Option Addr) (i : Int) (h : Hp)  (K : Value → Hp → Prop) : Prop :=
  sx_2 Try.prog F 28 (cp [] (bodyOf Try.f37)) (ap [] succinct_Tree_Close_an) [(0, .pointer t), (1, .int .i64 i)] h (succinct_Tree_Close_K0  K)
def succinct_Tree_Close_b1 (t : Option Addr) (i : Int) (h : Hp)  (K : Value → Hp → Prop) : Prop :=
  sx_1 Try.prog F 28 (cp [1, 1, 1, 1] (bodyOf Try.f37)) (ap [1, 1, 1, 1] succinct_Tree_Close_an) [(0, .pointer t), (1, .int .i64 i)] h (succinct_Tree_Close_K0  K)
theorem succinct_Tree_Close_b0_eq (t : Option Addr) (i : Int) (h : Hp)  (K : Value → Hp → Prop) : succinct_Tree_Close_b0 t i h  K = (
  cond t.isNone
  (K (.tuple #[.int .i64 0, .int .i64 1]) h)
  (NN t fun a1 =>
  ∃ p1 : Option Addr, cell h a1 = some (.pointer p1) ∧
  HCalls Try.prog 64 #[.pointer p1, .int .i64 i] h fun v1 h1 => ∃ r1 : Bool, ∃ r2 : Int, v1 = .tuple #[.bool r1, .int .i64 r2] ∧
  cond (!decide (r2 = 0))
  (K (.tuple #[.int .i64 0, .int .i64 2]) h1)
  (cond (!r1)
  (K (.tuple #[.int .i64 0, .int .i64 7]) h1)
  (succinct_Tree_Close_b1 t i h1  K)))) := by kernel_rfl
theorem succinct_Tree_Close_b1_eq (t : Option Addr) (i : Int) (h : Hp)  (K : Value → Hp → Prop) : succinct_Tree_Close_b1 t i h  K = (
  HCalls Try.prog 65 #[.pointer t, .int .i64 i] h fun v2 h2 => ∃ r3 : Int, v2 = .int .i64 r3 ∧
  K (.tuple #[.int .i64 r3, .int .i64 0]) h2) := by kernel_rfl
theorem succinct_Tree_Close_call {t : Option Addr} {i : Int} {h : Hp} {K : Value → Hp → Prop} (hk : succinct_Tree_Close_b0 t i h K) : HCalls Try.prog 37 #[.pointer t, .int .i64 i] h K :=
  calls_of_snd succinct_Tree_Close_an Try.func37 (c := bodyOf Try.f37) rfl Try.ntmps37 (Nat.le_of_ble_eq_true rfl) (snd_2 F_ok F_mixed) hk

/-! ### r48_Close -/
def r48_Close_an : Ann := .node none (.leaf) (.node (some [0, 1]) (.leaf) (.leaf))
def r48_Close_K0  (K : Value → Hp → Prop) : Exit → Env → Hp → Prop := retK Try.prog Try.f38.results.toList K
def r48_Close_b0 (s : ByteArray) (i : Int) (h : Hp)  (K : Value → Hp → Prop) : Prop :=
  sx_2 Try.prog F 21 (cp [] (bodyOf Try.f38)) (ap [] r48_Close_an) [(0, .string s), (1, .int .i64 i)] h (r48_Close_K0  K)
def r48_Close_b1 (s : ByteArray) (i : Int) (h : Hp)  (K : Value → Hp → Prop) : Prop :=
  sx_1 Try.prog F 21 (cp [1, 1] (bodyOf Try.f38)) (ap [1, 1] r48_Close_an) [(0, .string s), (1, .int .i64 i)] h (r48_Close_K0  K)
theorem r48_Close_b0_eq (s : ByteArray) (i : Int) (h : Hp)  (K : Value → Hp → Prop) : r48_Close_b0 s i h  K = (
  cond (decide (i < 0))
  (K (.tuple #[.int .i64 0, .int .i64 2]) h)
  (cond (decide ((s.size : Int) ≤ i))
  (K (.tuple #[.int .i64 0, .int .i64 2]) h)
  (r48_Close_b1 s i h  K))) := by kernel_rfl
theorem r48_Close_b1_eq (s : ByteArray) (i : Int) (h : Hp)  (K : Value → Hp → Prop) : r48_Close_b1 s i h  K = (
  (0 ≤ i ∧ i < (s.size : Int)) ∧
  cond (!decide (((s.data.toList.getD (Int.toNat i) 0).toNat : Int) = 40))
  (K (.tuple #[.int .i64 0, .int .i64 7]) h)
  (HCalls Try.prog 66 #[.string s, .int .i64 i] h fun v1 h1 => ∃ r1 : Int, v1 = .int .i64 r1 ∧
  K (.tuple #[.int .i64 r1, .int .i64 0]) h1)) := by kernel_rfl
theorem r48_Close_call {s : ByteArray} {i : Int} {h : Hp} {K : Value → Hp → Prop} (hk : r48_Close_b0 s i h K) : HCalls Try.prog 38 #[.string s, .int .i64 i] h K :=
  calls_of_snd r48_Close_an Try.func38 (c := bodyOf Try.f38) rfl Try.ntmps38 (Nat.le_of_ble_eq_true rfl) (snd_2 F_ok F_mixed) hk

/-! ### succinct_Tree_Child -/
def succinct_Tree_Child_an : Ann := .node none (.leaf) (.node none (.leaf) (.node none (.leaf) (.loop [0] [(2, .int .i64), (9, .int .i64)] (.node (some [0, 2, 9]) (.leaf) (.leaf)))))
def succinct_Tree_Child_K0  (K : Value → Hp → Prop) : Exit → Env → Hp → Prop := retK Try.prog Try.f39.results.toList K
def succinct_Tree_Child_K1  (K : Value → Hp → Prop) : Exit → Env → Hp → Prop := blockE 0 (succinct_Tree_Child_K0  K)
def succinct_Tree_Child_K2 (nx0 : Int × Int × Unit → Hp → Prop) (K : Value → Hp → Prop) : Exit → Env → Hp → Prop := thenE (fun env h => getV [(2, .int .i64), (9, .int .i64)] env fun s => nx0 s h) (succinct_Tree_Child_K1  K)
def succinct_Tree_Child_K3 (nx0 : Int × Int × Unit → Hp → Prop) (K : Value → Hp → Prop) : Exit → Env → Hp → Prop := blockE 1 (succinct_Tree_Child_K2 nx0 K)
def succinct_Tree_Child_b0 (t : Option Addr) (v : Int) (k : Int) (h : Hp)  (K : Value → Hp → Prop) : Prop :=
  sx_3 Try.prog F 49 (cp [] (bodyOf Try.f39)) (ap [] succinct_Tree_Child_an) [(0, .pointer t), (1, .int .i64 v), (2, .int .i64 k)] h (succinct_Tree_Child_K0  K)
def succinct_Tree_Child_b1 (k : Int) (i : Int) (t : Option Addr) (h : Hp) (nx0 : Int × Int × Unit → Hp → Prop) (K : Value → Hp → Prop) : Prop :=
  sx_2 Try.prog F 49 (cp [1, 1, 1, 2, 2] (bodyOf Try.f39)) (ap [1, 1, 1, 2] succinct_Tree_Child_an) [(2, .int .i64 k), (9, .int .i64 i), (0, .pointer t)] h (succinct_Tree_Child_K2 nx0 K)
def succinct_Tree_Child_b2 (t : Option Addr) (k : Int) (i : Int) (h : Hp) (nx0 : Int × Int × Unit → Hp → Prop) (K : Value → Hp → Prop) : Prop :=
  sx_1 Try.prog F 49 (cp [1, 1, 1, 2, 2, 2, 1] (bodyOf Try.f39)) (ap [1, 1, 1, 2, 1] succinct_Tree_Child_an) [(0, .pointer t), (2, .int .i64 k), (9, .int .i64 i)] h (succinct_Tree_Child_K3 nx0 K)
theorem succinct_Tree_Child_b0_eq (t : Option Addr) (v : Int) (k : Int) (h : Hp)  (K : Value → Hp → Prop) : succinct_Tree_Child_b0 t v k h  K = (
  New h (.cells #[.int .i64 v] 3) fun b1 h1 =>
  HCalls Try.prog 59 #[.pointer t, .slice (some ⟨b1, 0, none⟩) 1 1] h1 fun v1 h2 => ∃ r1 : Int, v1 = .int .i64 r1 ∧
  cond (!decide (r1 = 0))
  (K (.tuple #[.int .i64 0, .int .i64 r1]) h2)
  (HCalls Try.prog 60 #[.pointer t, .int .i64 v] h2 fun v2 h3 => ∃ r2 : Int, v2 = .int .i64 r2 ∧
  InR (r2 + 1) ∧
  LoopVC ((k, r2 + 1, ()) : Int × Int × Unit) h3 (fun (nx0 : Int × Int × Unit → Hp → Prop) (s1 : Int × Int × Unit) h4 => succinct_Tree_Child_b1 s1.1 s1.2.1 t h4 nx0 K))) := by kernel_rfl
theorem succinct_Tree_Child_b1_eq (k : Int) (i : Int) (t : Option Addr) (h : Hp) (nx0 : Int × Int × Unit → Hp → Prop) (K : Value → Hp → Prop) : succinct_Tree_Child_b1 k i t h nx0 K = (
  NN t fun a1 =>
  ∃ p1 : Option Addr, cell h a1 = some (.pointer p1) ∧
  HCalls Try.prog 64 #[.pointer p1, .int .i64 i] h fun v3 h5 => ∃ r3 : Bool, ∃ r4 : Int, v3 = .tuple #[.bool r3, .int .i64 r4] ∧
  cond (!r3)
  (K (.tuple #[.int .i64 0, .int .i64 12]) h5)
  (cond (decide (k < 0))
  (K (.tuple #[.int .i64 0, .int .i64 12]) h5)
  (succinct_Tree_Child_b2 t k i h5 nx0 K))) := by kernel_rfl
theorem succinct_Tree_Child_b2_eq (t : Option Addr) (k : Int) (i : Int) (h : Hp) (nx0 : Int × Int × Unit → Hp → Prop) (K : Value → Hp → Prop) : succinct_Tree_Child_b2 t k i h nx0 K = (
  cond (decide (k = 0))
  (HCalls Try.prog 61 #[.pointer t, .int .i64 i] h fun v4 h6 => ∃ r5 : Int, v4 = .int .i64 r5 ∧
  K (.tuple #[.int .i64 r5, .int .i64 0]) h6)
  (HCalls Try.prog 65 #[.pointer t, .int .i64 i] h fun v5 h7 => ∃ r6 : Int, v5 = .int .i64 r6 ∧
  InR (r6 + 1) ∧
  InR (k - 1) ∧
  nx0 (k - 1, r6 + 1, ()) h7)) := by kernel_rfl
theorem succinct_Tree_Child_call {t : Option Addr} {v : Int} {k : Int} {h : Hp} {K : Value → Hp → Prop} (hk : succinct_Tree_Child_b0 t v k h K) : HCalls Try.prog 39 #[.pointer t, .int .i64 v, .int .i64 k] h K :=
  calls_of_snd succinct_Tree_Child_an Try.func39 (c := bodyOf Try.f39) rfl Try.ntmps39 (Nat.le_of_ble_eq_true rfl) (snd_3 F_ok F_mixed) hk

/-! ### r48_Child -/
def r48_Child_an : Ann := .node none (.leaf) (.node none (.leaf) (.node none (.leaf) (.node (some []) (.node none (.leaf) (.loop [0, 1, 2] [(8, .int .i64), (9, .int .i64)] (.node none (.leaf) (.node (some [0, 1, 2, 8, 9]) (.leaf) (.leaf))))) (.leaf))))
def r48_Child_K0  (K : Value → Hp → Prop) : Exit → Env → Hp → Prop := retK Try.prog Try.f40.results.toList K
def r48_Child_K1  (K : Value → Hp → Prop) : Exit → Env → Hp → Prop := thenE (fun env h => sx_2 Try.prog F 34 (cp [1, 1, 1, 1] (bodyOf Try.f40)) (ap [1, 1, 1, 1] r48_Child_an) (rs [] env) h (r48_Child_K0  K)) (r48_Child_K0  K)
def r48_Child_K2  (K : Value → Hp → Prop) : Exit → Env → Hp → Prop := blockE 0 (r48_Child_K1  K)
def r48_Child_K3 (nx0 : Int × Int × Unit → Hp → Prop) (K : Value → Hp → Prop) : Exit → Env → Hp → Prop := thenE (fun env h => getV [(8, .int .i64), (9, .int .i64)] env fun s => nx0 s h) (r48_Child_K2  K)
def r48_Child_b0 (s : ByteArray) (v : Int) (k : Int) (h : Hp)  (K : Value → Hp → Prop) : Prop :=
  sx_3 Try.prog F 34 (cp [] (bodyOf Try.f40)) (ap [] r48_Child_an) [(0, .string s), (1, .int .i64 v), (2, .int .i64 k)] h (r48_Child_K0  K)
def r48_Child_b1 (nv : Int) (w : Int) (s : ByteArray) (v : Int) (k : Int) (h : Hp) (nx0 : Int × Int × Unit → Hp → Prop) (K : Value → Hp → Prop) : Prop :=
  sx_2 Try.prog F 34 (cp [1, 1, 1, 0, 1, 2, 2] (bodyOf Try.f40)) (ap [1, 1, 1, 0, 1, 2] r48_Child_an) [(8, .int .i64 nv), (9, .int .i64 w), (0, .string s), (1, .int .i64 v), (2, .int .i64 k)] h (r48_Child_K3 nx0 K)
def r48_Child_b2 (s : ByteArray) (v : Int) (k : Int) (nv : Int) (w : Int) (h : Hp) (nx0 : Int × Int × Unit → Hp → Prop) (K : Value → Hp → Prop) : Prop :=
  sx_1 Try.prog F 34 (cp [1, 1, 1, 0, 1, 2, 2, 1, 1] (bodyOf Try.f40)) (ap [1, 1, 1, 0, 1, 2, 1, 1] r48_Child_an) [(0, .string s), (1, .int .i64 v), (2, .int .i64 k), (8, .int .i64 nv), (9, .int .i64 w)] h (r48_Child_K3 nx0 K)
def r48_Child_b3  (h : Hp)  (K : Value → Hp → Prop) : Prop :=
  sx_2 Try.prog F 34 (cp [1, 1, 1, 1] (bodyOf Try.f40)) (ap [1, 1, 1, 1] r48_Child_an) [] h (r48_Child_K0  K)
theorem r48_Child_b0_eq (s : ByteArray) (v : Int) (k : Int) (h : Hp)  (K : Value → Hp → Prop) : r48_Child_b0 s v k h  K = (
  HCalls Try.prog 42 #[.string s, .int .i64 v] h fun v1 h1 => ∃ r1 : Bool, v1 = .bool r1 ∧
  cond (!r1)
  (K (.tuple #[.int .i64 0, .int .i64 2]) h1)
  (InR (v + 1) ∧
  LoopVC ((0, v + 1, ()) : Int × Int × Unit) h1 (fun (nx0 : Int × Int × Unit → Hp → Prop) (s1 : Int × Int × Unit) h2 => r48_Child_b1 s1.1 s1.2.1 s v k h2 nx0 K))) := by kernel_rfl
theorem r48_Child_b1_eq (nv : Int) (w : Int) (s : ByteArray) (v : Int) (k : Int) (h : Hp) (nx0 : Int × Int × Unit → Hp → Prop) (K : Value → Hp → Prop) : r48_Child_b1 nv w s v k h nx0 K = (
  HCalls Try.prog 45 #[.string s, .int .i64 v] h fun v2 h3 => ∃ r2 : Int, v2 = .int .i64 r2 ∧
  InR (v + r2) ∧
  cond (decide (w < (v + r2)))
  (cond (decide (nv = k))
  (K (.tuple #[.int .i64 w, .int .i64 0]) h3)
  (InR (nv + 1) ∧
  r48_Child_b2 s v k (nv + 1) w h3 nx0 K))
  (r48_Child_b3  h3  K)) := by kernel_rfl
theorem r48_Child_b2_eq (s : ByteArray) (v : Int) (k : Int) (nv : Int) (w : Int) (h : Hp) (nx0 : Int × Int × Unit → Hp → Prop) (K : Value → Hp → Prop) : r48_Child_b2 s v k nv w h nx0 K = (
  HCalls Try.prog 45 #[.string s, .int .i64 w] h fun v3 h4 => ∃ r3 : Int, v3 = .int .i64 r3 ∧
  InR (w + r3) ∧
  nx0 (nv, w + r3, ()) h4) := by kernel_rfl
theorem r48_Child_b3_eq  (h : Hp)  (K : Value → Hp → Prop) : r48_Child_b3  h  K = (
  K (.tuple #[.int .i64 0, .int .i64 12]) h) := by kernel_rfl
theorem r48_Child_call {s : ByteArray} {v : Int} {k : Int} {h : Hp} {K : Value → Hp → Prop} (hk : r48_Child_b0 s v k h K) : HCalls Try.prog 40 #[.string s, .int .i64 v, .int .i64 k] h K :=
  calls_of_snd r48_Child_an Try.func40 (c := bodyOf Try.f40) rfl Try.ntmps40 (Nat.le_of_ble_eq_true rfl) (snd_3 F_ok F_mixed) hk

/-! ### succinct_Tree_Size -/
def succinct_Tree_Size_an : Ann := .leaf
def succinct_Tree_Size_K0  (K : Value → Hp → Prop) : Exit → Env → Hp → Prop := retK Try.prog Try.f41.results.toList K
def succinct_Tree_Size_b0 (t : Option Addr) (v : Int) (h : Hp)  (K : Value → Hp → Prop) : Prop :=
  sx_1 Try.prog F 25 (cp [] (bodyOf Try.f41)) (ap [] succinct_Tree_Size_an) [(0, .pointer t), (1, .int .i64 v)] h (succinct_Tree_Size_K0  K)
theorem succinct_Tree_Size_b0_eq (t : Option Addr) (v : Int) (h : Hp)  (K : Value → Hp → Prop) : succinct_Tree_Size_b0 t v h  K = (
  New h (.cells #[.int .i64 v] 3) fun b1 h1 =>
  HCalls Try.prog 59 #[.pointer t, .slice (some ⟨b1, 0, none⟩) 1 1] h1 fun v1 h2 => ∃ r1 : Int, v1 = .int .i64 r1 ∧
  cond (!decide (r1 = 0))
  (K (.tuple #[.int .i64 0, .int .i64 r1]) h2)
  (HCalls Try.prog 60 #[.pointer t, .int .i64 v] h2 fun v2 h3 => ∃ r2 : Int, v2 = .int .i64 r2 ∧
  HCalls Try.prog 65 #[.pointer t, .int .i64 r2] h3 fun v3 h4 => ∃ r3 : Int, v3 = .int .i64 r3 ∧
  InR (r3 - r2) ∧
  InR ((r3 - r2) + 1) ∧
  ∃ q1 : Int, Sx.Quo .i64 ((r3 - r2) + 1) 2 q1 ∧
  K (.tuple #[.int .i64 q1, .int .i64 0]) h4)) := by kernel_rfl
theorem succinct_Tree_Size_call {t : Option Addr} {v : Int} {h : Hp} {K : Value → Hp → Prop} (hk : succinct_Tree_Size_b0 t v h K) : HCalls Try.prog 41 #[.pointer t, .int .i64 v] h K :=
  calls_of_snd succinct_Tree_Size_an Try.func41 (c := bodyOf Try.f41) rfl Try.ntmps41 (Nat.le_of_ble_eq_true rfl) (snd_1 F_ok F_mixed) hk

/-! ### r48_Is -/
def r48_Is_an : Ann := .leaf
def r48_Is_K0  (K : Value → Hp → Prop) : Exit → Env → Hp → Prop := retK Try.prog Try.f42.results.toList K
def r48_Is_b0 (s : ByteArray) (v : Int) (h : Hp)  (K : Value → Hp → Prop) : Prop :=
  sx_1 Try.prog F 13 (cp [] (bodyOf Try.f42)) (ap [] r48_Is_an) [(0, .string s), (1, .int .i64 v)] h (r48_Is_K0  K)
theorem r48_Is_b0_eq (s : ByteArray) (v : Int) (h : Hp)  (K : Value → Hp → Prop) : r48_Is_b0 s v h  K = (
  cond (decide ((0 : Int) ≤ v))
  (HCalls Try.prog 27 #[.string s] h fun v1 h1 => ∃ r1 : Int, v1 = .int .i64 r1 ∧
  K (.bool (decide (v < r1))) h1)
  (K (.bool false) h)) := by kernel_rfl
theorem r48_Is_call {s : ByteArray} {v : Int} {h : Hp} {K : Value → Hp → Prop} (hk : r48_Is_b0 s v h K) : HCalls Try.prog 42 #[.string s, .int .i64 v] h K :=
  calls_of_snd r48_Is_an Try.func42 (c := bodyOf Try.f42) rfl Try.ntmps42 (Nat.le_of_ble_eq_true rfl) (snd_1 F_ok F_mixed) hk

/-! ### r48_Parent -/
def r48_Parent_an : Ann := .node none (.leaf) (.node none (.leaf) (.node none (.leaf) (.node (some []) (.node none (.leaf) (.loop [0] [(6, .int .i64), (7, .int .i64)] (.node none (.leaf) (.node (some [0, 6, 7]) (.node (some [0, 6, 7]) (.leaf) (.leaf)) (.leaf))))) (.leaf))))
def r48_Parent_K0  (K : Value → Hp → Prop) : Exit → Env → Hp → Prop := retK Try.prog Try.f43.results.toList K
def r48_Parent_K1  (K : Value → Hp → Prop) : Exit → Env → Hp → Prop := thenE (fun env h => sx_2 Try.prog F 30 (cp [1, 1, 1, 1] (bodyOf Try.f43)) (ap [1, 1, 1, 1] r48_Parent_an) (rs [] env) h (r48_Parent_K0  K)) (r48_Parent_K0  K)
def r48_Parent_K2  (K : Value → Hp → Prop) : Exit → Env → Hp → Prop := blockE 0 (r48_Parent_K1  K)
def r48_Parent_K3 (nx0 : Int × Int × Unit → Hp → Prop) (K : Value → Hp → Prop) : Exit → Env → Hp → Prop := thenE (fun env h => getV [(6, .int .i64), (7, .int .i64)] env fun s => nx0 s h) (r48_Parent_K2  K)
def r48_Parent_K4 (nx0 : Int × Int × Unit → Hp → Prop) (K : Value → Hp → Prop) : Exit → Env → Hp → Prop := thenE (fun env h => sx_1 Try.prog F 30 (cp [1, 1, 1, 0, 1, 2, 2, 1, 1] (bodyOf Try.f43)) (ap [1, 1, 1, 0, 1, 2, 1, 1] r48_Parent_an) (rs [0, 6, 7] env) h (r48_Parent_K3 nx0 K)) (r48_Parent_K3 nx0 K)
def r48_Parent_K5 (nx0 : Int × Int × Unit → Hp → Prop) (K : Value → Hp → Prop) : Exit → Env → Hp → Prop := blockE 1 (r48_Parent_K4 nx0 K)
def r48_Parent_b0 (s : ByteArray) (v : Int) (h : Hp)  (K : Value → Hp → Prop) : Prop :=
  sx_3 Try.prog F 30 (cp [] (bodyOf Try.f43)) (ap [] r48_Parent_an) [(0, .string s), (1, .int .i64 v)] h (r48_Parent_K0  K)
def r48_Parent_b1 (depth : Int) (k : Int) (s : ByteArray) (h : Hp) (nx0 : Int × Int × Unit → Hp → Prop) (K : Value → Hp → Prop) : Prop :=
  sx_2 Try.prog F 30 (cp [1, 1, 1, 0, 1, 2, 2] (bodyOf Try.f43)) (ap [1, 1, 1, 0, 1, 2] r48_Parent_an) [(6, .int .i64 depth), (7, .int .i64 k), (0, .string s)] h (r48_Parent_K3 nx0 K)
def r48_Parent_b2 (s : ByteArray) (depth : Int) (k : Int) (h : Hp) (nx0 : Int × Int × Unit → Hp → Prop) (K : Value → Hp → Prop) : Prop :=
  sx_1 Try.prog F 30 (cp [1, 1, 1, 0, 1, 2, 2, 1, 0, 2, 1] (bodyOf Try.f43)) (ap [1, 1, 1, 0, 1, 2, 1, 0, 1] r48_Parent_an) [(0, .string s), (6, .int .i64 depth), (7, .int .i64 k)] h (r48_Parent_K5 nx0 K)
def r48_Parent_b3  (h : Hp)  (K : Value → Hp → Prop) : Prop :=
  sx_2 Try.prog F 30 (cp [1, 1, 1, 1] (bodyOf Try.f43)) (ap [1, 1, 1, 1] r48_Parent_an) [] h (r48_Parent_K0  K)
def r48_Parent_b4 (s : ByteArray) (depth : Int) (k : Int) (h : Hp) (nx0 : Int × Int × Unit → Hp → Prop) (K : Value → Hp → Prop) : Prop :=
  sx_1 Try.prog F 30 (cp [1, 1, 1, 0, 1, 2, 2, 1, 1] (bodyOf Try.f43)) (ap [1, 1, 1, 0, 1, 2, 1, 1] r48_Parent_an) [(0, .string s), (6, .int .i64 depth), (7, .int .i64 k)] h (r48_Parent_K3 nx0 K)
theorem r48_Parent_b0_eq (s : ByteArray) (v : Int) (h : Hp)  (K : Value → Hp → Prop) : r48_Parent_b0 s v h  K = (
  HCalls Try.prog 67 #[.string s, .int .i64 v] h fun v1 h1 => ∃ r1 : Int, v1 = .int .i64 r1 ∧
  InR (r1 - 1) ∧
  LoopVC ((0, r1 - 1, ()) : Int × Int × Unit) h1 (fun (nx0 : Int × Int × Unit → Hp → Prop) (s1 : Int × Int × Unit) h2 => r48_Parent_b1 s1.1 s1.2.1 s h2 nx0 K)) := by kernel_rfl
theorem r48_Parent_b1_eq (depth : Int) (k : Int) (s : ByteArray) (h : Hp) (nx0 : Int × Int × Unit → Hp → Prop) (K : Value → Hp → Prop) : r48_Parent_b1 depth k s h nx0 K = (
  cond (decide ((0 : Int) ≤ k))
  ((0 ≤ k ∧ k < (s.size : Int)) ∧
  cond (decide (((s.data.toList.getD (Int.toNat k) 0).toNat : Int) = 40))
  (InR (depth - 1) ∧
  r48_Parent_b2 s (depth - 1) k h nx0 K)
  (InR (depth + 1) ∧
  r48_Parent_b2 s (depth + 1) k h nx0 K))
  (r48_Parent_b3  h  K)) := by kernel_rfl
theorem r48_Parent_b2_eq (s : ByteArray) (depth : Int) (k : Int) (h : Hp) (nx0 : Int × Int × Unit → Hp → Prop) (K : Value → Hp → Prop) : r48_Parent_b2 s depth k h nx0 K = (
  cond (decide (depth < 0))
  (HCalls Try.prog 68 #[.string s, .int .i64 k] h fun v2 h3 => ∃ r2 : Int, v2 = .int .i64 r2 ∧
  K (.int .i64 r2) h3)
  (r48_Parent_b4 s depth k h nx0 K)) := by kernel_rfl
theorem r48_Parent_b3_eq  (h : Hp)  (K : Value → Hp → Prop) : r48_Parent_b3  h  K = (
  K (.int .i64 (-1)) h) := by kernel_rfl
theorem r48_Parent_b4_eq (s : ByteArray) (depth : Int) (k : Int) (h : Hp) (nx0 : Int × Int × Unit → Hp → Prop) (K : Value → Hp → Prop) : r48_Parent_b4 s depth k h nx0 K = (
  InR (k - 1) ∧
  nx0 (depth, k - 1, ()) h) := by kernel_rfl
theorem r48_Parent_call {s : ByteArray} {v : Int} {h : Hp} {K : Value → Hp → Prop} (hk : r48_Parent_b0 s v h K) : HCalls Try.prog 43 #[.string s, .int .i64 v] h K :=
  calls_of_snd r48_Parent_an Try.func43 (c := bodyOf Try.f43) rfl Try.ntmps43 (Nat.le_of_ble_eq_true rfl) (snd_3 F_ok F_mixed) hk

/-! ### r48_Depth -/
def r48_Depth_an : Ann := .node none (.leaf) (.node none (.leaf) (.node (some [5]) (.node none (.leaf) (.loop [0] [(5, .int .i64), (6, .int .i64)] (.node none (.leaf) (.node (some [0, 5, 6]) (.leaf) (.leaf))))) (.leaf)))
def r48_Depth_K0  (K : Value → Hp → Prop) : Exit → Env → Hp → Prop := retK Try.prog Try.f44.results.toList K
def r48_Depth_K1  (K : Value → Hp → Prop) : Exit → Env → Hp → Prop := thenE (fun env h => sx_2 Try.prog F 18 (cp [1, 1, 1] (bodyOf Try.f44)) (ap [1, 1, 1] r48_Depth_an) (rs [5] env) h (r48_Depth_K0  K)) (r48_Depth_K0  K)
def r48_Depth_K2  (K : Value → Hp → Prop) : Exit → Env → Hp → Prop := blockE 0 (r48_Depth_K1  K)
def r48_Depth_K3 (nx0 : Int × Int × Unit → Hp → Prop) (K : Value → Hp → Prop) : Exit → Env → Hp → Prop := thenE (fun env h => getV [(5, .int .i64), (6, .int .i64)] env fun s => nx0 s h) (r48_Depth_K2  K)
def r48_Depth_b0 (s : ByteArray) (v : Int) (h : Hp)  (K : Value → Hp → Prop) : Prop :=
  sx_3 Try.prog F 18 (cp [] (bodyOf Try.f44)) (ap [] r48_Depth_an) [(0, .string s), (1, .int .i64 v)] h (r48_Depth_K0  K)
def r48_Depth_b1 (nv : Int) (k : Int) (s : ByteArray) (h : Hp) (nx0 : Int × Int × Unit → Hp → Prop) (K : Value → Hp → Prop) : Prop :=
  sx_2 Try.prog F 18 (cp [1, 1, 0, 1, 2, 2] (bodyOf Try.f44)) (ap [1, 1, 0, 1, 2] r48_Depth_an) [(5, .int .i64 nv), (6, .int .i64 k), (0, .string s)] h (r48_Depth_K3 nx0 K)
def r48_Depth_b2 (s : ByteArray) (nv : Int) (k : Int) (h : Hp) (nx0 : Int × Int × Unit → Hp → Prop) (K : Value → Hp → Prop) : Prop :=
  sx_1 Try.prog F 18 (cp [1, 1, 0, 1, 2, 2, 1, 1] (bodyOf Try.f44)) (ap [1, 1, 0, 1, 2, 1, 1] r48_Depth_an) [(0, .string s), (5, .int .i64 nv), (6, .int .i64 k)] h (r48_Depth_K3 nx0 K)
def r48_Depth_b3 (nv : Int) (h : Hp)  (K : Value → Hp → Prop) : Prop :=
  sx_2 Try.prog F 18 (cp [1, 1, 1] (bodyOf Try.f44)) (ap [1, 1, 1] r48_Depth_an) [(5, .int .i64 nv)] h (r48_Depth_K0  K)
theorem r48_Depth_b0_eq (s : ByteArray) (v : Int) (h : Hp)  (K : Value → Hp → Prop) : r48_Depth_b0 s v h  K = (
  HCalls Try.prog 43 #[.string s, .int .i64 v] h fun v1 h1 => ∃ r1 : Int, v1 = .int .i64 r1 ∧
  LoopVC ((0, r1, ()) : Int × Int × Unit) h1 (fun (nx0 : Int × Int × Unit → Hp → Prop) (s1 : Int × Int × Unit) h2 => r48_Depth_b1 s1.1 s1.2.1 s h2 nx0 K)) := by kernel_rfl
theorem r48_Depth_b1_eq (nv : Int) (k : Int) (s : ByteArray) (h : Hp) (nx0 : Int × Int × Unit → Hp → Prop) (K : Value → Hp → Prop) : r48_Depth_b1 nv k s h nx0 K = (
  cond (decide ((0 : Int) ≤ k))
  (InR (nv + 1) ∧
  r48_Depth_b2 s (nv + 1) k h nx0 K)
  (r48_Depth_b3 nv h  K)) := by kernel_rfl
theorem r48_Depth_b2_eq (s : ByteArray) (nv : Int) (k : Int) (h : Hp) (nx0 : Int × Int × Unit → Hp → Prop) (K : Value → Hp → Prop) : r48_Depth_b2 s nv k h nx0 K = (
  HCalls Try.prog 43 #[.string s, .int .i64 k] h fun v2 h3 => ∃ r2 : Int, v2 = .int .i64 r2 ∧
  nx0 (nv, r2, ()) h3) := by kernel_rfl
theorem r48_Depth_b3_eq (nv : Int) (h : Hp)  (K : Value → Hp → Prop) : r48_Depth_b3 nv h  K = (
  K (.int .i64 nv) h) := by kernel_rfl
theorem r48_Depth_call {s : ByteArray} {v : Int} {h : Hp} {K : Value → Hp → Prop} (hk : r48_Depth_b0 s v h K) : HCalls Try.prog 44 #[.string s, .int .i64 v] h K :=
  calls_of_snd r48_Depth_an Try.func44 (c := bodyOf Try.f44) rfl Try.ntmps44 (Nat.le_of_ble_eq_true rfl) (snd_3 F_ok F_mixed) hk

/-! ### r48_Size -/
def r48_Size_an : Ann := .leaf
def r48_Size_K0  (K : Value → Hp → Prop) : Exit → Env → Hp → Prop := retK Try.prog Try.f45.results.toList K
def r48_Size_b0 (s : ByteArray) (v : Int) (h : Hp)  (K : Value → Hp → Prop) : Prop :=
  sx_1 Try.prog F 16 (cp [] (bodyOf Try.f45)) (ap [] r48_Size_an) [(0, .string s), (1, .int .i64 v)] h (r48_Size_K0  K)
theorem r48_Size_b0_eq (s : ByteArray) (v : Int) (h : Hp)  (K : Value → Hp → Prop) : r48_Size_b0 s v h  K = (
  HCalls Try.prog 67 #[.string s, .int .i64 v] h fun v1 h1 => ∃ r1 : Int, v1 = .int .i64 r1 ∧
  HCalls Try.prog 66 #[.string s, .int .i64 r1] h1 fun v2 h2 => ∃ r2 : Int, v2 = .int .i64 r2 ∧
  InR (r2 - r1) ∧
  InR ((r2 - r1) + 1) ∧
  ∃ q1 : Int, Sx.Quo .i64 ((r2 - r1) + 1) 2 q1 ∧
  K (.int .i64 q1) h2) := by kernel_rfl
theorem r48_Size_call {s : ByteArray} {v : Int} {h : Hp} {K : Value → Hp → Prop} (hk : r48_Size_b0 s v h K) : HCalls Try.prog 45 #[.string s, .int .i64 v] h K :=
  calls_of_snd r48_Size_an Try.func45 (c := bodyOf Try.f45) rfl Try.ntmps45 (Nat.le_of_ble_eq_true rfl) (snd_1 F_ok F_mixed) hk

/-! ### r48_Common -/
def r48_Common_an : Ann := .node none (.leaf) (.node none (.leaf) (.node (some [7]) (.loop [0, 2] [(7, .int .i64)] (.node (some [0, 2, 7]) (.leaf) (.leaf))) (.leaf)))
def r48_Common_K0  (K : Value → Hp → Prop) : Exit → Env → Hp → Prop := retK Try.prog Try.f46.results.toList K
def r48_Common_K1  (K : Value → Hp → Prop) : Exit → Env → Hp → Prop := thenE (fun env h => sx_2 Try.prog F 25 (cp [1, 1, 1] (bodyOf Try.f46)) (ap [1, 1, 1] r48_Common_an) (rs [7] env) h (r48_Common_K0  K)) (r48_Common_K0  K)
def r48_Common_K2  (K : Value → Hp → Prop) : Exit → Env → Hp → Prop := blockE 0 (r48_Common_K1  K)
def r48_Common_K3 (nx0 : Int × Unit → Hp → Prop) (K : Value → Hp → Prop) : Exit → Env → Hp → Prop := thenE (fun env h => getV [(7, .int .i64)] env fun s => nx0 s h) (r48_Common_K2  K)
def r48_Common_b0 (s : ByteArray) (v : Int) (w : Int) (h : Hp)  (K : Value → Hp → Prop) : Prop :=
  sx_3 Try.prog F 25 (cp [] (bodyOf Try.f46)) (ap [] r48_Common_an) [(0, .string s), (1, .int .i64 v), (2, .int .i64 w)] h (r48_Common_K0  K)
def r48_Common_b1 (k : Int) (s : ByteArray) (w : Int) (h : Hp) (nx0 : Int × Unit → Hp → Prop) (K : Value → Hp → Prop) : Prop :=
  sx_2 Try.prog F 25 (cp [1, 1, 0, 2, 2] (bodyOf Try.f46)) (ap [1, 1, 0, 2] r48_Common_an) [(7, .int .i64 k), (0, .string s), (2, .int .i64 w)] h (r48_Common_K3 nx0 K)
def r48_Common_b2 (s : ByteArray) (w : Int) (k : Int) (h : Hp) (nx0 : Int × Unit → Hp → Prop) (K : Value → Hp → Prop) : Prop :=
  sx_1 Try.prog F 25 (cp [1, 1, 0, 2, 2, 1] (bodyOf Try.f46)) (ap [1, 1, 0, 2, 1] r48_Common_an) [(0, .string s), (2, .int .i64 w), (7, .int .i64 k)] h (r48_Common_K3 nx0 K)
def r48_Common_b3 (k : Int) (h : Hp)  (K : Value → Hp → Prop) : Prop :=
  sx_2 Try.prog F 25 (cp [1, 1, 1] (bodyOf Try.f46)) (ap [1, 1, 1] r48_Common_an) [(7, .int .i64 k)] h (r48_Common_K0  K)
theorem r48_Common_b0_eq (s : ByteArray) (v : Int) (w : Int) (h : Hp)  (K : Value → Hp → Prop) : r48_Common_b0 s v w h  K = (
  LoopVC ((v, ()) : Int × Unit) h (fun (nx0 : Int × Unit → Hp → Prop) (s1 : Int × Unit) h1 => r48_Common_b1 s1.1 s w h1 nx0 K)) := by kernel_rfl
theorem r48_Common_b1_eq (k : Int) (s : ByteArray) (w : Int) (h : Hp) (nx0 : Int × Unit → Hp → Prop) (K : Value → Hp → Prop) : r48_Common_b1 k s w h nx0 K = (
  cond (decide (w < k))
  (r48_Common_b2 s w k h nx0 K)
  (HCalls Try.prog 45 #[.string s, .int .i64 k] h fun v1 h2 => ∃ r1 : Int, v1 = .int .i64 r1 ∧
  InR (k + r1) ∧
  cond (decide ((k + r1) ≤ w))
  (r48_Common_b2 s w k h2 nx0 K)
  (r48_Common_b3 k h2  K))) := by kernel_rfl
theorem r48_Common_b2_eq (s : ByteArray) (w : Int) (k : Int) (h : Hp) (nx0 : Int × Unit → Hp → Prop) (K : Value → Hp → Prop) : r48_Common_b2 s w k h nx0 K = (
  HCalls Try.prog 43 #[.string s, .int .i64 k] h fun v2 h3 => ∃ r2 : Int, v2 = .int .i64 r2 ∧
  nx0 (r2, ()) h3) := by kernel_rfl
theorem r48_Common_b3_eq (k : Int) (h : Hp)  (K : Value → Hp → Prop) : r48_Common_b3 k h  K = (
  K (.int .i64 k) h) := by kernel_rfl
theorem r48_Common_call {s : ByteArray} {v : Int} {w : Int} {h : Hp} {K : Value → Hp → Prop} (hk : r48_Common_b0 s v w h K) : HCalls Try.prog 46 #[.string s, .int .i64 v, .int .i64 w] h K :=
  calls_of_snd r48_Common_an Try.func46 (c := bodyOf Try.f46) rfl Try.ntmps46 (Nat.le_of_ble_eq_true rfl) (snd_3 F_ok F_mixed) hk

/-! ### ratio_FloorLog -/
def ratio_FloorLog_an : Ann := .node none (.leaf) (.node (some [0]) (.leaf) (.leaf))
def ratio_FloorLog_K0  (K : Value → Hp → Prop) : Exit → Env → Hp → Prop := retK Try.prog Try.f47.results.toList K
def ratio_FloorLog_b0 (nv : Int) (h : Hp)  (K : Value → Hp → Prop) : Prop :=
  sx_2 Try.prog F 14 (cp [] (bodyOf Try.f47)) (ap [] ratio_FloorLog_an) [(0, .int .i64 nv)] h (ratio_FloorLog_K0  K)
def ratio_FloorLog_b1 (nv : Int) (h : Hp)  (K : Value → Hp → Prop) : Prop :=
  sx_1 Try.prog F 14 (cp [1, 1] (bodyOf Try.f47)) (ap [1, 1] ratio_FloorLog_an) [(0, .int .i64 nv)] h (ratio_FloorLog_K0  K)
theorem ratio_FloorLog_b0_eq (nv : Int) (h : Hp)  (K : Value → Hp → Prop) : ratio_FloorLog_b0 nv h  K = (
  cond (decide (nv < 1))
  (K (.tuple #[.int .i64 0, .int .i64 2]) h)
  (cond (decide ((1099511627776 : Int) < nv))
  (K (.tuple #[.int .i64 0, .int .i64 2]) h)
  (ratio_FloorLog_b1 nv h  K))) := by kernel_rfl
theorem ratio_FloorLog_b1_eq (nv : Int) (h : Hp)  (K : Value → Hp → Prop) : ratio_FloorLog_b1 nv h  K = (
  HCalls Try.prog 69 #[.int .u64 (IntKind.u64.wrap nv)] h fun v1 h1 => ∃ r1 : Int, v1 = .int .i64 r1 ∧
  InR (r1 - 1) ∧
  K (.tuple #[.int .i64 (r1 - 1), .int .i64 0]) h1) := by kernel_rfl
theorem ratio_FloorLog_call {nv : Int} {h : Hp} {K : Value → Hp → Prop} (hk : ratio_FloorLog_b0 nv h K) : HCalls Try.prog 47 #[.int .i64 nv] h K :=
  calls_of_snd ratio_FloorLog_an Try.func47 (c := bodyOf Try.f47) rfl Try.ntmps47 (Nat.le_of_ble_eq_true rfl) (snd_2 F_ok F_mixed) hk

/-! ### Make -/
def Make_an : Ann := .node none (.leaf) (.node none (.leaf) (.node none (.leaf) (.node (some [4]) (.node none (.leaf) (.loop [4, 19, 20] [(21, .int .i64)] (.node none (.leaf) (.node none (.leaf) (.node (some [4, 19, 20, 21]) (.node none (.leaf) (.node none (.leaf) (.node none (.tail 13) (.leaf)))) (.leaf)))))) (.leaf))))
def Make_K0  (K : Value → Hp → Prop) : Exit → Env → Hp → Prop := retK Try.prog Try.f48.results.toList K
def Make_K1  (K : Value → Hp → Prop) : Exit → Env → Hp → Prop := thenE (fun env h => sx_2 Try.prog F 43 (cp [1, 1, 1, 1] (bodyOf Try.f48)) (ap [1, 1, 1, 1] Make_an) (rs [4] env) h (Make_K0  K)) (Make_K0  K)
def Make_K2  (K : Value → Hp → Prop) : Exit → Env → Hp → Prop := blockE 0 (Make_K1  K)
def Make_K3 (nx0 : Int × Unit → Hp → Prop) (K : Value → Hp → Prop) : Exit → Env → Hp → Prop := thenE (fun env h => getV [(21, .int .i64)] env fun s => nx0 s h) (Make_K2  K)
def Make_b0 (l : Option Addr) (lL : Nat) (lC : Nat) (h : Hp)  (K : Value → Hp → Prop) : Prop :=
  sx_3 Try.prog F 43 (cp [] (bodyOf Try.f48)) (ap [] Make_an) [(0, .slice l lL lC)] h (Make_K0  K)
def Make_b1 (t21 : Int) (v : Option Addr) (t19 : Option Addr) (t19L : Nat) (t19C : Nat) (t20 : Int) (h : Hp) (nx0 : Int × Unit → Hp → Prop) (K : Value → Hp → Prop) : Prop :=
  sx_2 Try.prog F 43 (cp [1, 1, 1, 0, 1, 2, 2] (bodyOf Try.f48)) (ap [1, 1, 1, 0, 1, 2] Make_an) [(21, .int .i64 t21), (4, .pointer v), (19, .slice t19 t19L t19C), (20, .int .i64 t20)] h (Make_K3 nx0 K)
def Make_b2 (v : Option Addr) (t19 : Option Addr) (t19L : Nat) (t19C : Nat) (t20 : Int) (t21 : Int) (h : Hp) (nx0 : Int × Unit → Hp → Prop) (K : Value → Hp → Prop) : Prop :=
  sx_1 Try.prog F 43 (cp [1, 1, 1, 0, 1, 2, 2, 1, 1, 1] (bodyOf Try.f48)) (ap [1, 1, 1, 0, 1, 2, 1, 1, 1] Make_an) [(4, .pointer v), (19, .slice t19 t19L t19C), (20, .int .i64 t20), (21, .int .i64 t21)] h (Make_K3 nx0 K)
def Make_b3 (v : Option Addr) (h : Hp)  (K : Value → Hp → Prop) : Prop :=
  sx_2 Try.prog F 43 (cp [1, 1, 1, 1] (bodyOf Try.f48)) (ap [1, 1, 1, 1] Make_an) [(4, .pointer v)] h (Make_K0  K)
theorem Make_b0_eq (l : Option Addr) (lL : Nat) (lC : Nat) (h : Hp)  (K : Value → Hp → Prop) : Make_b0 l lL lC h  K = (
  cond (decide ((65536 : Int) < (lL : Int)))
  (K (.tuple #[.pointer none, .int .i64 4]) h)
  (InR ((lL : Int) + 63) ∧
  ∃ q1 : Int, Sx.Quo .i64 ((lL : Int) + 63) 64 q1 ∧
  (0 ≤ q1 ∧ q1 ≤ q1 ∧ q1 ≤ 281474976710656 ∧ q1 * ((8 : Nat) : Int) ≤ 281474976710656) ∧
  New h (.cells (repL (Int.toNat q1 * 1) [.int .u64 0]).toArray 93) fun b1 h1 =>
  New h1 (.cells #[.int .i64 (lL : Int), .slice (some ⟨b1, 0, none⟩) (Int.toNat q1) (Int.toNat q1), .slice none 0 0] 92) fun b2 h2 =>
  LoopVC ((0, ()) : Int × Unit) h2 (fun (nx0 : Int × Unit → Hp → Prop) (s1 : Int × Unit) h3 => Make_b1 s1.1 (some ⟨b2, 0, none⟩) l lL lC (lL : Int) h3 nx0 K))) := by kernel_rfl
theorem Make_b1_eq (t21 : Int) (v : Option Addr) (t19 : Option Addr) (t19L : Nat) (t19C : Nat) (t20 : Int) (h : Hp) (nx0 : Int × Unit → Hp → Prop) (K : Value → Hp → Prop) : Make_b1 t21 v t19 t19L t19C t20 h nx0 K = (
  cond (decide (t21 < t20))
  ((0 ≤ t21 ∧ t21 < (t19L : Int)) ∧
  NN t19 fun a1 =>
  ∃ b3 : Bool, cell h (a1.add (Int.toNat t21 * 1)) = some (.bool b3) ∧
  cond b3
  (NN v fun a2 =>
  ∃ (a3 : Option Addr) (L1 C1 : Nat), cell h (a2.add 1) = some (.slice a3 L1 C1) ∧
  ∃ q2 : Int, Sx.Quo .i64 t21 64 q2 ∧
  (0 ≤ q2 ∧ q2 < (L1 : Int)) ∧
  NN a3 fun a4 =>
  ∃ n1 : Int, cell h (a4.add (Int.toNat q2 * 1)) = some (.int .u64 n1) ∧
  ∃ r1 : Int, Sx.Rem t21 64 r1 ∧
  ∃ sl1 : Int, Sx.Shl .u64 1 r1 sl1 ∧
  ∃ or1 : Int, Sx.Or .u64 n1 sl1 or1 ∧
  (0 ≤ q2 ∧ q2 < (L1 : Int)) ∧
  NN a3 fun a5 =>
  Wr h (a5.add (Int.toNat q2 * 1)) (.int .u64 or1) fun h4 =>
  Make_b2 v t19 t19L t19C t20 t21 h4 nx0 K)
  (Make_b2 v t19 t19L t19C t20 t21 h nx0 K))
  (Make_b3 v h  K)) := by kernel_rfl
theorem Make_b2_eq (v : Option Addr) (t19 : Option Addr) (t19L : Nat) (t19C : Nat) (t20 : Int) (t21 : Int) (h : Hp) (nx0 : Int × Unit → Hp → Prop) (K : Value → Hp → Prop) : Make_b2 v t19 t19L t19C t20 t21 h nx0 K = (
  InR (t21 + 1) ∧
  nx0 (t21 + 1, ()) h) := by kernel_rfl
theorem Make_b3_eq (v : Option Addr) (h : Hp)  (K : Value → Hp → Prop) : Make_b3 v h  K = (
  HCalls Try.prog 70 #[.pointer v] h fun v1 h5 => ∃ r2 : Option Addr, v1 = .pointer r2 ∧
  K (.tuple #[.pointer r2, .int .i64 0]) h5) := by kernel_rfl
theorem Make_call {l : Option Addr} {lL : Nat} {lC : Nat} {h : Hp} {K : Value → Hp → Prop} (hk : Make_b0 l lL lC h K) : HCalls Try.prog 48 #[.slice l lL lC] h K :=
  calls_of_snd Make_an Try.func48 (c := bodyOf Try.f48) rfl Try.ntmps48 (Nat.le_of_ble_eq_true rfl) (snd_3 F_ok F_mixed) hk

/-! ### succinct_Monotone_at -/
def succinct_Monotone_at_an : Ann := .leaf
def succinct_Monotone_at_K0  (K : Value → Hp → Prop) : Exit → Env → Hp → Prop := retK Try.prog Try.f49.results.toList K
def succinct_Monotone_at_b0 (m : Option Addr) (i : Int) (h : Hp)  (K : Value → Hp → Prop) : Prop :=
  sx_1 Try.prog F 32 (cp [] (bodyOf Try.f49)) (ap [] succinct_Monotone_at_an) [(0, .pointer m), (1, .int .i64 i)] h (succinct_Monotone_at_K0  K)
theorem succinct_Monotone_at_b0_eq (m : Option Addr) (i : Int) (h : Hp)  (K : Value → Hp → Prop) : succinct_Monotone_at_b0 m i h  K = (
  NN m fun a1 =>
  ∃ p1 : Option Addr, cell h a1 = some (.pointer p1) ∧
  HCalls Try.prog 71 #[.pointer p1, .bool true, .int .i64 i] h fun v1 h1 => ∃ r1 : Int, ∃ r2 : Int, v1 = .tuple #[.int .i64 r1, .int .i64 r2] ∧
  InR (r1 - i) ∧
  NN m fun a2 =>
  ∃ n1 : Int, cell h1 (a2.add 2) = some (.int .i64 n1) ∧
  ∃ sl1 : Int, Sx.Shl .i64 (r1 - i) n1 sl1 ∧
  NN m fun a3 =>
  ∃ (a4 : Option Addr) (L1 C1 : Nat), cell h1 (a3.add 1) = some (.slice a4 L1 C1) ∧
  (0 ≤ i ∧ i < (L1 : Int)) ∧
  NN a4 fun a5 =>
  ∃ n2 : Int, cell h1 (a5.add (Int.toNat i * 1)) = some (.int .i64 n2) ∧
  ∃ or1 : Int, Sx.Or .i64 sl1 n2 or1 ∧
  K (.int .i64 or1) h1) := by kernel_rfl
theorem succinct_Monotone_at_call {m : Option Addr} {i : Int} {h : Hp} {K : Value → Hp → Prop} (hk : succinct_Monotone_at_b0 m i h K) : HCalls Try.prog 49 #[.pointer m, .int .i64 i] h K :=
  calls_of_snd succinct_Monotone_at_an Try.func49 (c := bodyOf Try.f49) rfl Try.ntmps49 (Nat.le_of_ble_eq_true rfl) (snd_1 F_ok F_mixed) hk

/-! ### Search -/
def Search_an : Ann := .node none (.leaf) (.node none (.leaf) (.node (some [5]) (.loop [1] [(5, .int .i64), (6, .int .i64)] (.leaf)) (.leaf)))
def Search_K0  (K : Value → Hp → Prop) : Exit → Env → Hp → Prop := retK Try.prog Try.f50.results.toList K
def Search_K1  (K : Value → Hp → Prop) : Exit → Env → Hp → Prop := thenE (fun env h => sx_1 Try.prog F 26 (cp [1, 1, 1] (bodyOf Try.f50)) (ap [1, 1, 1] Search_an) (rs [5] env) h (Search_K0  K)) (Search_K0  K)
def Search_K2  (K : Value → Hp → Prop) : Exit → Env → Hp → Prop := blockE 0 (Search_K1  K)
def Search_K3 (nx0 : Int × Int × Unit → Hp → Prop) (K : Value → Hp → Prop) : Exit → Env → Hp → Prop := thenE (fun env h => getV [(5, .int .i64), (6, .int .i64)] env fun s => nx0 s h) (Search_K2  K)
def Search_b0 (nv : Int) (f : Value) (h : Hp)  (K : Value → Hp → Prop) : Prop :=
  sx_2 Try.prog F 26 (cp [] (bodyOf Try.f50)) (ap [] Search_an) [(0, .int .i64 nv), (1, f)] h (Search_K0  K)
def Search_b1 (i : Int) (j : Int) (f : Value) (h : Hp) (nx0 : Int × Int × Unit → Hp → Prop) (K : Value → Hp → Prop) : Prop :=
  sx_1 Try.prog F 26 (cp [1, 1, 0, 2, 2] (bodyOf Try.f50)) (ap [1, 1, 0, 2] Search_an) [(5, .int .i64 i), (6, .int .i64 j), (1, f)] h (Search_K3 nx0 K)
def Search_b2 (i : Int) (h : Hp)  (K : Value → Hp → Prop) : Prop :=
  sx_1 Try.prog F 26 (cp [1, 1, 1] (bodyOf Try.f50)) (ap [1, 1, 1] Search_an) [(5, .int .i64 i)] h (Search_K0  K)
theorem Search_b0_eq (nv : Int) (f : Value) (h : Hp)  (K : Value → Hp → Prop) : Search_b0 nv f h  K = (
  LoopVC ((0, nv, ()) : Int × Int × Unit) h (fun (nx0 : Int × Int × Unit → Hp → Prop) (s1 : Int × Int × Unit) h1 => Search_b1 s1.1 s1.2.1 f h1 nx0 K)) := by kernel_rfl
theorem Search_b1_eq (i : Int) (j : Int) (f : Value) (h : Hp) (nx0 : Int × Int × Unit → Hp → Prop) (K : Value → Hp → Prop) : Search_b1 i j f h nx0 K = (
  cond (decide (i < j))
  (InR (i + j) ∧
  ∃ sr1 : Int, Sx.Shr .u64 (IntKind.u64.wrap (i + j)) 1 sr1 ∧
  InR sr1 ∧
  funV f fun fg1 fa1 fc1 => chk (F fg1) (HCalls Try.prog fg1 (fa1 ++ (([.int .i64 sr1] : List Value) ++ fc1)).toArray h fun v1 h2 => ∃ r1 : Bool, v1 = .bool r1 ∧
  cond (!r1)
  (InR (sr1 + 1) ∧
  nx0 (sr1 + 1, j, ()) h2)
  (nx0 (i, sr1, ()) h2)))
  (Search_b2 i h  K)) := by kernel_rfl
theorem Search_b2_eq (i : Int) (h : Hp)  (K : Value → Hp → Prop) : Search_b2 i h  K = (
  K (.int .i64 i) h) := by kernel_rfl
theorem Search_call {nv : Int} {f : Value} {h : Hp} {K : Value → Hp → Prop} (hk : Search_b0 nv f h K) : HCalls Try.prog 50 #[.int .i64 nv, f] h K :=
  calls_of_snd Search_an Try.func50 (c := bodyOf Try.f50) rfl Try.ntmps50 (Nat.le_of_ble_eq_true rfl) (snd_2 F_ok F_mixed) hk

/-! ### succinct_Monotone_Next_c1 -/
def succinct_Monotone_Next_c1_an : Ann := .node none (.leaf) (.node none (.plan (.qu 0 (.qu 1 (.qu 3 (.wo 2 (.qu 4 (.qu 5 .fin)) .no))))) (.leaf))
def succinct_Monotone_Next_c1_K0  (K : Value → Hp → Prop) : Exit → Env → Hp → Prop := retK Try.prog Try.f51.results.toList K
def succinct_Monotone_Next_c1_b0 (i : Int) (t1 : Option Addr) (t2 : Option Addr) (h : Hp)  (K : Value → Hp → Prop) : Prop :=
  sx_1 Try.prog F 10 (cp [] (bodyOf Try.f51)) (ap [] succinct_Monotone_Next_c1_an) [(0, .int .i64 i), (1, .pointer t1), (2, .pointer t2)] h (succinct_Monotone_Next_c1_K0  K)
theorem succinct_Monotone_Next_c1_b0_eq (i : Int) (t1 : Option Addr) (t2 : Option Addr) (h : Hp)  (K : Value → Hp → Prop) : succinct_Monotone_Next_c1_b0 i t1 t2 h  K = (
  NN t1 fun a1 =>
  ∃ p1 : Option Addr, cell h a1 = some (.pointer p1) ∧
  NN t2 fun a2 =>
  ∃ n1 : Int, cell h a2 = some (.int .i64 n1) ∧
  HCalls Try.prog 49 #[.pointer p1, .int .i64 i] h fun v1 h1 => ∃ r1 : Int, v1 = .int .i64 r1 ∧
  (NN t2 fun a3 =>
  ∃ n2 : Int, cell h1 a3 = some (.int .i64 n2) ∧
  (.int .i64 n2 : Value) = .int .i64 n1) ∧
  K (.bool (decide (n1 ≤ r1))) h1) := by kernel_rfl
theorem succinct_Monotone_Next_c1_call {i : Int} {t1 : Option Addr} {t2 : Option Addr} {h : Hp} {K : Value → Hp → Prop} (hk : succinct_Monotone_Next_c1_b0 i t1 t2 h K) : HCalls Try.prog 51 #[.int .i64 i, .pointer t1, .pointer t2] h K :=
  calls_of_snd succinct_Monotone_Next_c1_an Try.func51 (c := bodyOf Try.f51) rfl Try.ntmps51 (Nat.le_of_ble_eq_true rfl) (snd_1 F_ok F_mixed) hk

/-! ### r04_Log -/
def r04_Log_an : Ann := .node none (.leaf) (.node none (.leaf) (.node (some [3]) (.loop [] [(0, .int .i64), (3, .int .i64)] (.leaf)) (.leaf)))
def r04_Log_K0  (K : Value → Hp → Prop) : Exit → Env → Hp → Prop := retK Try.prog Try.f52.results.toList K
def r04_Log_K1  (K : Value → Hp → Prop) : Exit → Env → Hp → Prop := thenE (fun env h => sx_1 Try.prog F 11 (cp [1, 1, 1] (bodyOf Try.f52)) (ap [1, 1, 1] r04_Log_an) (rs [3] env) h (r04_Log_K0  K)) (r04_Log_K0  K)
def r04_Log_K2  (K : Value → Hp → Prop) : Exit → Env → Hp → Prop := blockE 0 (r04_Log_K1  K)
def r04_Log_K3 (nx0 : Int × Int × Unit → Hp → Prop) (K : Value → Hp → Prop) : Exit → Env → Hp → Prop := thenE (fun env h => getV [(0, .int .i64), (3, .int .i64)] env fun s => nx0 s h) (r04_Log_K2  K)
def r04_Log_b0 (nv : Int) (h : Hp)  (K : Value → Hp → Prop) : Prop :=
  sx_2 Try.prog F 11 (cp [] (bodyOf Try.f52)) (ap [] r04_Log_an) [(0, .int .i64 nv)] h (r04_Log_K0  K)
def r04_Log_b1 (nv : Int) (k : Int) (h : Hp) (nx0 : Int × Int × Unit → Hp → Prop) (K : Value → Hp → Prop) : Prop :=
  sx_1 Try.prog F 11 (cp [1, 1, 0, 2, 2] (bodyOf Try.f52)) (ap [1, 1, 0, 2] r04_Log_an) [(0, .int .i64 nv), (3, .int .i64 k)] h (r04_Log_K3 nx0 K)
def r04_Log_b2 (k : Int) (h : Hp)  (K : Value → Hp → Prop) : Prop :=
  sx_1 Try.prog F 11 (cp [1, 1, 1] (bodyOf Try.f52)) (ap [1, 1, 1] r04_Log_an) [(3, .int .i64 k)] h (r04_Log_K0  K)
theorem r04_Log_b0_eq (nv : Int) (h : Hp)  (K : Value → Hp → Prop) : r04_Log_b0 nv h  K = (
  LoopVC ((nv, 0, ()) : Int × Int × Unit) h (fun (nx0 : Int × Int × Unit → Hp → Prop) (s1 : Int × Int × Unit) h1 => r04_Log_b1 s1.1 s1.2.1 h1 nx0 K)) := by kernel_rfl
theorem r04_Log_b1_eq (nv : Int) (k : Int) (h : Hp) (nx0 : Int × Int × Unit → Hp → Prop) (K : Value → Hp → Prop) : r04_Log_b1 nv k h nx0 K = (
  cond (decide ((1 : Int) < nv))
  (∃ q1 : Int, Sx.Quo .i64 nv 2 q1 ∧
  InR (k + 1) ∧
  nx0 (q1, k + 1, ()) h)
  (r04_Log_b2 k h  K)) := by kernel_rfl
theorem r04_Log_b2_eq (k : Int) (h : Hp)  (K : Value → Hp → Prop) : r04_Log_b2 k h  K = (
  K (.int .i64 k) h) := by kernel_rfl
theorem r04_Log_call {nv : Int} {h : Hp} {K : Value → Hp → Prop} (hk : r04_Log_b0 nv h K) : HCalls Try.prog 52 #[.int .i64 nv] h K :=
  calls_of_snd r04_Log_an Try.func52 (c := bodyOf Try.f52) rfl Try.ntmps52 (Nat.le_of_ble_eq_true rfl) (snd_2 F_ok F_mixed) hk

/-! ### r48_MakeTree -/
def r48_MakeTree_an : Ann := .leaf
def r48_MakeTree_K0  (K : Value → Hp → Prop) : Exit → Env → Hp → Prop := retK Try.prog Try.f53.results.toList K
def r48_MakeTree_b0 (l : Option Addr) (lL : Nat) (lC : Nat) (h : Hp)  (K : Value → Hp → Prop) : Prop :=
  sx_1 Try.prog F 12 (cp [] (bodyOf Try.f53)) (ap [] r48_MakeTree_an) [(0, .slice l lL lC)] h (r48_MakeTree_K0  K)
theorem r48_MakeTree_b0_eq (l : Option Addr) (lL : Nat) (lC : Nat) (h : Hp)  (K : Value → Hp → Prop) : r48_MakeTree_b0 l lL lC h  K = (
  HCalls Try.prog 72 #[.slice l lL lC] h fun v1 h1 => ∃ r1 : Bool, v1 = .bool r1 ∧
  cond (!r1)
  (K (.tuple #[.string (⟨#[]⟩ : ByteArray), .int .i64 1]) h1)
  (cond (decide ((1000 : Int) < (lL : Int)))
  (K (.tuple #[.string (⟨#[]⟩ : ByteArray), .int .i64 4]) h1)
  (HCalls Try.prog 73 #[.slice l lL lC, .int .i64 0] h1 fun v2 h2 => ∃ r2 : ByteArray, v2 = .string r2 ∧
  K (.tuple #[.string r2, .int .i64 0]) h2))) := by kernel_rfl
theorem r48_MakeTree_call {l : Option Addr} {lL : Nat} {lC : Nat} {h : Hp} {K : Value → Hp → Prop} (hk : r48_MakeTree_b0 l lL lC h K) : HCalls Try.prog 53 #[.slice l lL lC] h K :=
  calls_of_snd r48_MakeTree_an Try.func53 (c := bodyOf Try.f53) rfl Try.ntmps53 (Nat.le_of_ble_eq_true rfl) (snd_1 F_ok F_mixed) hk

/-! ### Bits -/
def Bits_an : Ann := .node none (.leaf) (.node none (.leaf) (.node (some [3]) (.node none (.leaf) (.loop [0, 6] [(3, .slice), (7, .int .i64)] (.node none (.leaf) (.node none (.leaf) (.node (some [0, 3, 6, 7]) (.leaf) (.leaf)))))) (.leaf)))
def Bits_K0  (K : Value → Hp → Prop) : Exit → Env → Hp → Prop := retK Try.prog Try.f54.results.toList K
def Bits_K1  (K : Value → Hp → Prop) : Exit → Env → Hp → Prop := thenE (fun env h => sx_2 Try.prog F 18 (cp [1, 1, 1] (bodyOf Try.f54)) (ap [1, 1, 1] Bits_an) (rs [3] env) h (Bits_K0  K)) (Bits_K0  K)
def Bits_K2  (K : Value → Hp → Prop) : Exit → Env → Hp → Prop := blockE 0 (Bits_K1  K)
def Bits_K3 (nx0 : (Option Addr × Nat × Nat) × Int × Unit → Hp → Prop) (K : Value → Hp → Prop) : Exit → Env → Hp → Prop := thenE (fun env h => getV [(3, .slice), (7, .int .i64)] env fun s => nx0 s h) (Bits_K2  K)
def Bits_b0 (v : Option Addr) (h : Hp)  (K : Value → Hp → Prop) : Prop :=
  sx_3 Try.prog F 18 (cp [] (bodyOf Try.f54)) (ap [] Bits_an) [(0, .pointer v)] h (Bits_K0  K)
def Bits_b1 (out : Option Addr) (outL : Nat) (outC : Nat) (t7 : Int) (v : Option Addr) (t6 : Int) (h : Hp) (nx0 : (Option Addr × Nat × Nat) × Int × Unit → Hp → Prop) (K : Value → Hp → Prop) : Prop :=
  sx_2 Try.prog F 18 (cp [1, 1, 0, 1, 2, 2] (bodyOf Try.f54)) (ap [1, 1, 0, 1, 2] Bits_an) [(3, .slice out outL outC), (7, .int .i64 t7), (0, .pointer v), (6, .int .i64 t6)] h (Bits_K3 nx0 K)
def Bits_b2 (v : Option Addr) (out : Option Addr) (outL : Nat) (outC : Nat) (t6 : Int) (t7 : Int) (h : Hp) (nx0 : (Option Addr × Nat × Nat) × Int × Unit → Hp → Prop) (K : Value → Hp → Prop) : Prop :=
  sx_1 Try.prog F 18 (cp [1, 1, 0, 1, 2, 2, 1, 1, 1] (bodyOf Try.f54)) (ap [1, 1, 0, 1, 2, 1, 1, 1] Bits_an) [(0, .pointer v), (3, .slice out outL outC), (6, .int .i64 t6), (7, .int .i64 t7)] h (Bits_K3 nx0 K)
def Bits_b3 (out : Option Addr) (outL : Nat) (outC : Nat) (h : Hp)  (K : Value → Hp → Prop) : Prop :=
  sx_2 Try.prog F 18 (cp [1, 1, 1] (bodyOf Try.f54)) (ap [1, 1, 1] Bits_an) [(3, .slice out outL outC)] h (Bits_K0  K)
theorem Bits_b0_eq (v : Option Addr) (h : Hp)  (K : Value → Hp → Prop) : Bits_b0 v h  K = (
  HCalls Try.prog 74 #[.pointer v] h fun v1 h1 => ∃ r1 : Int, v1 = .int .i64 r1 ∧
  LoopVC (((none, 0, 0), 0, ()) : (Option Addr × Nat × Nat) × Int × Unit) h1 (fun (nx0 : (Option Addr × Nat × Nat) × Int × Unit → Hp → Prop) (s1 : (Option Addr × Nat × Nat) × Int × Unit) h2 => Bits_b1 s1.1.1 s1.1.2.1 s1.1.2.2 s1.2.1 v r1 h2 nx0 K)) := by kernel_rfl
theorem Bits_b1_eq (out : Option Addr) (outL : Nat) (outC : Nat) (t7 : Int) (v : Option Addr) (t6 : Int) (h : Hp) (nx0 : (Option Addr × Nat × Nat) × Int × Unit → Hp → Prop) (K : Value → Hp → Prop) : Bits_b1 out outL outC t7 v t6 h nx0 K = (
  cond (decide (t7 < t6))
  (HCalls Try.prog 75 #[.pointer v, .int .i64 t7] h fun v2 h3 => ∃ r2 : Bool, v2 = .bool r2 ∧
  New h3 (.cells #[.bool r2] 4) fun b1 h4 =>
  appendV Try.prog 52 52 (.slice out outL outC) (.slice (some ⟨b1, 0, none⟩) 1 1) h4 (slK fun a1 l1 c1 h5 =>
  Bits_b2 v a1 l1 c1 t6 t7 h5 nx0 K))
  (Bits_b3 out outL outC h  K)) := by kernel_rfl
theorem Bits_b2_eq (v : Option Addr) (out : Option Addr) (outL : Nat) (outC : Nat) (t6 : Int) (t7 : Int) (h : Hp) (nx0 : (Option Addr × Nat × Nat) × Int × Unit → Hp → Prop) (K : Value → Hp → Prop) : Bits_b2 v out outL outC t6 t7 h nx0 K = (
  InR (t7 + 1) ∧
  nx0 ((out, outL, outC), t7 + 1, ()) h) := by kernel_rfl
theorem Bits_b3_eq (out : Option Addr) (outL : Nat) (outC : Nat) (h : Hp)  (K : Value → Hp → Prop) : Bits_b3 out outL outC h  K = (
  K (.slice out outL outC) h) := by kernel_rfl
theorem Bits_call {v : Option Addr} {h : Hp} {K : Value → Hp → Prop} (hk : Bits_b0 v h K) : HCalls Try.prog 54 #[.pointer v] h K :=
  calls_of_snd Bits_an Try.func54 (c := bodyOf Try.f54) rfl Try.ntmps54 (Nat.le_of_ble_eq_true rfl) (snd_3 F_ok F_mixed) hk

/-! ### succinct_made -/
def succinct_made_an : Ann := .leaf
def succinct_made_K0  (K : Value → Hp → Prop) : Exit → Env → Hp → Prop := retK Try.prog Try.f55.results.toList K
def succinct_made_b0 (bits : Option Addr) (bitsL : Nat) (bitsC : Nat) (h : Hp)  (K : Value → Hp → Prop) : Prop :=
  sx_1 Try.prog F 20 (cp [] (bodyOf Try.f55)) (ap [] succinct_made_an) [(0, .slice bits bitsL bitsC)] h (succinct_made_K0  K)
theorem succinct_made_b0_eq (bits : Option Addr) (bitsL : Nat) (bitsC : Nat) (h : Hp)  (K : Value → Hp → Prop) : succinct_made_b0 bits bitsL bitsC h  K = (
  HCalls Try.prog 48 #[.slice bits bitsL bitsC] h fun v1 h1 => ∃ r1 : Option Addr, ∃ r2 : Int, v1 = .tuple #[.pointer r1, .int .i64 r2] ∧
  cond (!decide (r2 = 0))
  (K (.tuple #[.pointer none, .int .i64 r2]) h1)
  (∃ q1 : Int, Sx.Quo .i64 (bitsL : Int) 2 q1 ∧
  New h1 (.cells #[.pointer r1, .int .i64 q1] 78) fun b1 h2 =>
  K (.tuple #[.pointer (some ⟨b1, 0, none⟩), .int .i64 0]) h2)) := by kernel_rfl
theorem succinct_made_call {bits : Option Addr} {bitsL : Nat} {bitsC : Nat} {h : Hp} {K : Value → Hp → Prop} (hk : succinct_made_b0 bits bitsL bitsC h K) : HCalls Try.prog 55 #[.slice bits bitsL bitsC] h K :=
  calls_of_snd succinct_made_an Try.func55 (c := bodyOf Try.f55) rfl Try.ntmps55 (Nat.le_of_ble_eq_true rfl) (snd_1 F_ok F_mixed) hk

/-! ### r48_Tree -/
def r48_Tree_an : Ann := .node none (.leaf) (.node none (.leaf) (.node (some [0, 3]) (.node none (.leaf) (.loop [0] [(3, .int .i64), (4, .int .i64)] (.node none (.leaf) (.node (some [0, 3, 4]) (.node (some [0, 3, 4]) (.leaf) (.node (some [0, 3, 4]) (.leaf) (.leaf))) (.leaf))))) (.leaf)))
def r48_Tree_K0  (K : Value → Hp → Prop) : Exit → Env → Hp → Prop := retK Try.prog Try.f56.results.toList K
def r48_Tree_K1  (K : Value → Hp → Prop) : Exit → Env → Hp → Prop := thenE (fun env h => sx_3 Try.prog F 49 (cp [1, 1, 1] (bodyOf Try.f56)) (ap [1, 1, 1] r48_Tree_an) (rs [0, 3] env) h (r48_Tree_K0  K)) (r48_Tree_K0  K)
def r48_Tree_K2  (K : Value → Hp → Prop) : Exit → Env → Hp → Prop := blockE 0 (r48_Tree_K1  K)
def r48_Tree_K3 (nx0 : Int × Int × Unit → Hp → Prop) (K : Value → Hp → Prop) : Exit → Env → Hp → Prop := thenE (fun env h => getV [(3, .int .i64), (4, .int .i64)] env fun s => nx0 s h) (r48_Tree_K2  K)
def r48_Tree_K4 (nx0 : Int × Int × Unit → Hp → Prop) (K : Value → Hp → Prop) : Exit → Env → Hp → Prop := thenE (fun env h => sx_2 Try.prog F 49 (cp [1, 1, 0, 1, 2, 2, 1, 1] (bodyOf Try.f56)) (ap [1, 1, 0, 1, 2, 1, 1] r48_Tree_an) (rs [0, 3, 4] env) h (r48_Tree_K3 nx0 K)) (r48_Tree_K3 nx0 K)
def r48_Tree_K5 (nx0 : Int × Int × Unit → Hp → Prop) (K : Value → Hp → Prop) : Exit → Env → Hp → Prop := blockE 1 (r48_Tree_K4 nx0 K)
def r48_Tree_b0 (s : ByteArray) (h : Hp)  (K : Value → Hp → Prop) : Prop :=
  sx_4 Try.prog F 49 (cp [] (bodyOf Try.f56)) (ap [] r48_Tree_an) [(0, .string s)] h (r48_Tree_K0  K)
def r48_Tree_b1 (depth : Int) (i : Int) (s : ByteArray) (h : Hp) (nx0 : Int × Int × Unit → Hp → Prop) (K : Value → Hp → Prop) : Prop :=
  sx_3 Try.prog F 49 (cp [1, 1, 0, 1, 2, 2] (bodyOf Try.f56)) (ap [1, 1, 0, 1, 2] r48_Tree_an) [(3, .int .i64 depth), (4, .int .i64 i), (0, .string s)] h (r48_Tree_K3 nx0 K)
def r48_Tree_b2 (s : ByteArray) (depth : Int) (i : Int) (h : Hp) (nx0 : Int × Int × Unit → Hp → Prop) (K : Value → Hp → Prop) : Prop :=
  sx_2 Try.prog F 49 (cp [1, 1, 0, 1, 2, 2, 1, 0, 2, 1] (bodyOf Try.f56)) (ap [1, 1, 0, 1, 2, 1, 0, 1] r48_Tree_an) [(0, .string s), (3, .int .i64 depth), (4, .int .i64 i)] h (r48_Tree_K5 nx0 K)
def r48_Tree_b3 (s : ByteArray) (depth : Int) (h : Hp)  (K : Value → Hp → Prop) : Prop :=
  sx_3 Try.prog F 49 (cp [1, 1, 1] (bodyOf Try.f56)) (ap [1, 1, 1] r48_Tree_an) [(0, .string s), (3, .int .i64 depth)] h (r48_Tree_K0  K)
def r48_Tree_b4 (s : ByteArray) (depth : Int) (i : Int) (h : Hp) (nx0 : Int × Int × Unit → Hp → Prop) (K : Value → Hp → Prop) : Prop :=
  sx_1 Try.prog F 49 (cp [1, 1, 0, 1, 2, 2, 1, 0, 2, 1, 1] (bodyOf Try.f56)) (ap [1, 1, 0, 1, 2, 1, 0, 1, 1] r48_Tree_an) [(0, .string s), (3, .int .i64 depth), (4, .int .i64 i)] h (r48_Tree_K5 nx0 K)
def r48_Tree_b5 (s : ByteArray) (depth : Int) (i : Int) (h : Hp) (nx0 : Int × Int × Unit → Hp → Prop) (K : Value → Hp → Prop) : Prop :=
  sx_2 Try.prog F 49 (cp [1, 1, 0, 1, 2, 2, 1, 1] (bodyOf Try.f56)) (ap [1, 1, 0, 1, 2, 1, 1] r48_Tree_an) [(0, .string s), (3, .int .i64 depth), (4, .int .i64 i)] h (r48_Tree_K3 nx0 K)
theorem r48_Tree_b0_eq (s : ByteArray) (h : Hp)  (K : Value → Hp → Prop) : r48_Tree_b0 s h  K = (
  LoopVC ((0, 0, ()) : Int × Int × Unit) h (fun (nx0 : Int × Int × Unit → Hp → Prop) (s1 : Int × Int × Unit) h1 => r48_Tree_b1 s1.1 s1.2.1 s h1 nx0 K)) := by kernel_rfl
theorem r48_Tree_b1_eq (depth : Int) (i : Int) (s : ByteArray) (h : Hp) (nx0 : Int × Int × Unit → Hp → Prop) (K : Value → Hp → Prop) : r48_Tree_b1 depth i s h nx0 K = (
  cond (decide (i < (s.size : Int)))
  ((0 ≤ i ∧ i < (s.size : Int)) ∧
  cond (!decide (((s.data.toList.getD (Int.toNat i) 0).toNat : Int) = 40))
  ((0 ≤ i ∧ i < (s.size : Int)) ∧
  cond (!decide (((s.data.toList.getD (Int.toNat i) 0).toNat : Int) = 41))
  (K (.bool false) h)
  (r48_Tree_b2 s depth i h nx0 K))
  (r48_Tree_b2 s depth i h nx0 K))
  (r48_Tree_b3 s depth h  K)) := by kernel_rfl
theorem r48_Tree_b2_eq (s : ByteArray) (depth : Int) (i : Int) (h : Hp) (nx0 : Int × Int × Unit → Hp → Prop) (K : Value → Hp → Prop) : r48_Tree_b2 s depth i h nx0 K = (
  (0 ≤ i ∧ i < (s.size : Int)) ∧
  cond (decide (((s.data.toList.getD (Int.toNat i) 0).toNat : Int) = 40))
  (InR (depth + 1) ∧
  r48_Tree_b4 s (depth + 1) i h nx0 K)
  (InR (depth - 1) ∧
  r48_Tree_b4 s (depth - 1) i h nx0 K)) := by kernel_rfl
theorem r48_Tree_b3_eq (s : ByteArray) (depth : Int) (h : Hp)  (K : Value → Hp → Prop) : r48_Tree_b3 s depth h  K = (
  cond (decide ((0 : Int) < (s.size : Int)))
  (K (.bool (decide (depth = 0))) h)
  (K (.bool false) h)) := by kernel_rfl
theorem r48_Tree_b4_eq (s : ByteArray) (depth : Int) (i : Int) (h : Hp) (nx0 : Int × Int × Unit → Hp → Prop) (K : Value → Hp → Prop) : r48_Tree_b4 s depth i h nx0 K = (
  cond (decide (depth < 0))
  (K (.bool false) h)
  (cond (decide (depth = 0))
  (InR ((s.size : Int) - 1) ∧
  cond (decide (i < ((s.size : Int) - 1)))
  (K (.bool false) h)
  (r48_Tree_b5 s depth i h nx0 K))
  (r48_Tree_b5 s depth i h nx0 K))) := by kernel_rfl
theorem r48_Tree_b5_eq (s : ByteArray) (depth : Int) (i : Int) (h : Hp) (nx0 : Int × Int × Unit → Hp → Prop) (K : Value → Hp → Prop) : r48_Tree_b5 s depth i h nx0 K = (
  InR (i + 1) ∧
  nx0 (depth, i + 1, ()) h) := by kernel_rfl
theorem r48_Tree_call {s : ByteArray} {h : Hp} {K : Value → Hp → Prop} (hk : r48_Tree_b0 s h K) : HCalls Try.prog 56 #[.string s] h K :=
  calls_of_snd r48_Tree_an Try.func56 (c := bodyOf Try.f56) rfl Try.ntmps56 (Nat.le_of_ble_eq_true rfl) (snd_4 F_ok F_mixed) hk

/-! ### succinct_MakeTree_c1 -/
def succinct_MakeTree_c1_an : Ann := .node none (.leaf) (.node (some [1]) (.node none (.leaf) (.loop [1, 3, 13, 14] [(15, .int .i64)] (.node none (.leaf) (.node none (.leaf) (.node (some [1, 3, 13, 14, 15]) (.leaf) (.leaf)))))) (.leaf))
def succinct_MakeTree_c1_K0  (K : Value → Hp → Prop) : Exit → Env → Hp → Prop := retK Try.prog Try.f57.results.toList K
def succinct_MakeTree_c1_K1  (K : Value → Hp → Prop) : Exit → Env → Hp → Prop := thenE (fun env h => sx_2 Try.prog F 26 (cp [1, 1] (bodyOf Try.f57)) (ap [1, 1] succinct_MakeTree_c1_an) (rs [1] env) h (succinct_MakeTree_c1_K0  K)) (succinct_MakeTree_c1_K0  K)
def succinct_MakeTree_c1_K2  (K : Value → Hp → Prop) : Exit → Env → Hp → Prop := blockE 0 (succinct_MakeTree_c1_K1  K)
def succinct_MakeTree_c1_K3 (nx0 : Int × Unit → Hp → Prop) (K : Value → Hp → Prop) : Exit → Env → Hp → Prop := thenE (fun env h => getV [(15, .int .i64)] env fun s => nx0 s h) (succinct_MakeTree_c1_K2  K)
def succinct_MakeTree_c1_b0 (v : Int) (t1 : Option Addr) (t2 : Option Addr) (t3 : Option Addr) (h : Hp)  (K : Value → Hp → Prop) : Prop :=
  sx_3 Try.prog F 26 (cp [] (bodyOf Try.f57)) (ap [] succinct_MakeTree_c1_an) [(0, .int .i64 v), (1, .pointer t1), (2, .pointer t2), (3, .pointer t3)] h (succinct_MakeTree_c1_K0  K)
def succinct_MakeTree_c1_b1 (t15 : Int) (t1 : Option Addr) (t3 : Option Addr) (t13 : Option Addr) (t13L : Nat) (t13C : Nat) (t14 : Int) (h : Hp) (nx0 : Int × Unit → Hp → Prop) (K : Value → Hp → Prop) : Prop :=
  sx_2 Try.prog F 26 (cp [1, 0, 1, 2, 2] (bodyOf Try.f57)) (ap [1, 0, 1, 2] succinct_MakeTree_c1_an) [(15, .int .i64 t15), (1, .pointer t1), (3, .pointer t3), (13, .slice t13 t13L t13C), (14, .int .i64 t14)] h (succinct_MakeTree_c1_K3 nx0 K)
def succinct_MakeTree_c1_b2 (t1 : Option Addr) (t3 : Option Addr) (t13 : Option Addr) (t13L : Nat) (t13C : Nat) (t14 : Int) (t15 : Int) (h : Hp) (nx0 : Int × Unit → Hp → Prop) (K : Value → Hp → Prop) : Prop :=
  sx_1 Try.prog F 26 (cp [1, 0, 1, 2, 2, 1, 1, 1] (bodyOf Try.f57)) (ap [1, 0, 1, 2, 1, 1, 1] succinct_MakeTree_c1_an) [(1, .pointer t1), (3, .pointer t3), (13, .slice t13 t13L t13C), (14, .int .i64 t14), (15, .int .i64 t15)] h (succinct_MakeTree_c1_K3 nx0 K)
def succinct_MakeTree_c1_b3 (t1 : Option Addr) (h : Hp)  (K : Value → Hp → Prop) : Prop :=
  sx_2 Try.prog F 26 (cp [1, 1] (bodyOf Try.f57)) (ap [1, 1] succinct_MakeTree_c1_an) [(1, .pointer t1)] h (succinct_MakeTree_c1_K0  K)
theorem succinct_MakeTree_c1_b0_eq (v : Int) (t1 : Option Addr) (t2 : Option Addr) (t3 : Option Addr) (h : Hp)  (K : Value → Hp → Prop) : succinct_MakeTree_c1_b0 v t1 t2 t3 h  K = (
  NN t1 fun a1 =>
  ∃ (a2 : Option Addr) (L1 C1 : Nat), cell h a1 = some (.slice a2 L1 C1) ∧
  New h (.cells #[.bool true] 4) fun b1 h1 =>
  appendV Try.prog 52 52 (.slice a2 L1 C1) (.slice (some ⟨b1, 0, none⟩) 1 1) h1 (slK fun a3 l1 c1 h2 =>
  NN t1 fun a4 =>
  Wr h2 a4 (.slice a3 l1 c1) fun h3 =>
  NN t2 fun a5 =>
  ∃ (a6 : Option Addr) (L2 C2 : Nat), cell h3 a5 = some (.slice a6 L2 C2) ∧
  (0 ≤ v ∧ v < (L2 : Int)) ∧
  NN a6 fun a7 =>
  ∃ (a8 : Option Addr) (L3 C3 : Nat), cell h3 (a7.add (Int.toNat v * 1)) = some (.slice a8 L3 C3) ∧
  LoopVC ((0, ()) : Int × Unit) h3 (fun (nx0 : Int × Unit → Hp → Prop) (s1 : Int × Unit) h4 => succinct_MakeTree_c1_b1 s1.1 t1 t3 a8 L3 C3 (L3 : Int) h4 nx0 K))) := by kernel_rfl
theorem succinct_MakeTree_c1_b1_eq (t15 : Int) (t1 : Option Addr) (t3 : Option Addr) (t13 : Option Addr) (t13L : Nat) (t13C : Nat) (t14 : Int) (h : Hp) (nx0 : Int × Unit → Hp → Prop) (K : Value → Hp → Prop) : succinct_MakeTree_c1_b1 t15 t1 t3 t13 t13L t13C t14 h nx0 K = (
  cond (decide (t15 < t14))
  ((0 ≤ t15 ∧ t15 < (t13L : Int)) ∧
  NN t13 fun a9 =>
  ∃ n1 : Int, cell h (a9.add (Int.toNat t15 * 1)) = some (.int .i64 n1) ∧
  NN t3 fun a10 =>
  ∃ v1 : Value, cell h a10 = some (v1) ∧
  funV v1 fun fg1 fa1 fc1 => chk (F fg1) (HCalls Try.prog fg1 (fa1 ++ (([.int .i64 n1] : List Value) ++ fc1)).toArray h fun v2 h5 => v2 = .tuple #[] ∧
  succinct_MakeTree_c1_b2 t1 t3 t13 t13L t13C t14 t15 h5 nx0 K))
  (succinct_MakeTree_c1_b3 t1 h  K)) := by kernel_rfl
theorem succinct_MakeTree_c1_b2_eq (t1 : Option Addr) (t3 : Option Addr) (t13 : Option Addr) (t13L : Nat) (t13C : Nat) (t14 : Int) (t15 : Int) (h : Hp) (nx0 : Int × Unit → Hp → Prop) (K : Value → Hp → Prop) : succinct_MakeTree_c1_b2 t1 t3 t13 t13L t13C t14 t15 h nx0 K = (
  InR (t15 + 1) ∧
  nx0 (t15 + 1, ()) h) := by kernel_rfl
theorem succinct_MakeTree_c1_b3_eq (t1 : Option Addr) (h : Hp)  (K : Value → Hp → Prop) : succinct_MakeTree_c1_b3 t1 h  K = (
  NN t1 fun a11 =>
  ∃ (a12 : Option Addr) (L4 C4 : Nat), cell h a11 = some (.slice a12 L4 C4) ∧
  New h (.cells #[.bool false] 4) fun b2 h6 =>
  appendV Try.prog 52 52 (.slice a12 L4 C4) (.slice (some ⟨b2, 0, none⟩) 1 1) h6 (slK fun a13 l2 c2 h7 =>
  NN t1 fun a14 =>
  Wr h7 a14 (.slice a13 l2 c2) fun h8 =>
  K (.tuple #[]) h8)) := by kernel_rfl
theorem succinct_MakeTree_c1_call {v : Int} {t1 : Option Addr} {t2 : Option Addr} {t3 : Option Addr} {h : Hp} {K : Value → Hp → Prop} (hk : succinct_MakeTree_c1_b0 v t1 t2 t3 h K) : HCalls Try.prog 57 #[.int .i64 v, .pointer t1, .pointer t2, .pointer t3] h K :=
  calls_of_snd succinct_MakeTree_c1_an Try.func57 (c := bodyOf Try.f57) rfl Try.ntmps57 (Nat.le_of_ble_eq_true rfl) (snd_3 F_ok F_mixed) hk

end Go.Proofs.Ytmlfoefadmlhpaa
