/- Plain statements of what each block of code of this seat asks; printed by a program, checked by Lean. -/
import Derived.Test.YtbfejfejahoblaaGreatSxV0
set_option maxRecDepth 10000
namespace Go.Proofs.YtbfejfejahoblaaGreat
open Go Go.Sx

/-! ### rangetree_Tree_List -/
def rangetree_Tree_List_an : Ann := .node none (.leaf) (.node none (.leaf) (.node none (.leaf) (.node (some [3]) (.node none (.leaf) (.loop [12] [(3, .slice)] (.leaf))) (.leaf))))
def rangetree_Tree_List_K0  (K : Value → Hp → Prop) : Exit → Env → Hp → Prop := retK Tryz.prog Tryz.f27.results.toList K
def rangetree_Tree_List_K1  (K : Value → Hp → Prop) : Exit → Env → Hp → Prop := thenE (fun env h => sx_1 Tryz.prog F 30 (cp [1, 1, 1, 1] (bodyOf Tryz.f27)) (ap [1, 1, 1, 1] rangetree_Tree_List_an) (rs [3] env) h (rangetree_Tree_List_K0  K)) (rangetree_Tree_List_K0  K)
def rangetree_Tree_List_K2  (K : Value → Hp → Prop) : Exit → Env → Hp → Prop := blockE 0 (rangetree_Tree_List_K1  K)
def rangetree_Tree_List_K3 (nx0 : (Option Addr × Nat × Nat) × Unit → Hp → Prop) (K : Value → Hp → Prop) : Exit → Env → Hp → Prop := thenE (fun env h => getV [(3, .slice)] env fun s => nx0 s h) (rangetree_Tree_List_K2  K)
def rangetree_Tree_List_b0 (t : Option Addr) (h : Hp)  (K : Value → Hp → Prop) : Prop :=
  sx_2 Tryz.prog F 30 (cp [] (bodyOf Tryz.f27)) (ap [] rangetree_Tree_List_an) [(0, .pointer t)] h (rangetree_Tree_List_K0  K)
def rangetree_Tree_List_b1 (out : Option Addr) (outL : Nat) (outC : Nat) (t12 : Value) (h : Hp) (nx0 : (Option Addr × Nat × Nat) × Unit → Hp → Prop) (K : Value → Hp → Prop) : Prop :=
  sx_1 Tryz.prog F 30 (cp [1, 1, 1, 0, 1, 2, 2] (bodyOf Tryz.f27)) (ap [1, 1, 1, 0, 1, 2] rangetree_Tree_List_an) [(3, .slice out outL outC), (12, t12)] h (rangetree_Tree_List_K3 nx0 K)
def rangetree_Tree_List_b2 (out : Option Addr) (outL : Nat) (outC : Nat) (h : Hp)  (K : Value → Hp → Prop) : Prop :=
  sx_1 Tryz.prog F 30 (cp [1, 1, 1, 1] (bodyOf Tryz.f27)) (ap [1, 1, 1, 1] rangetree_Tree_List_an) [(3, .slice out outL outC)] h (rangetree_Tree_List_K0  K)
theorem rangetree_Tree_List_b0_eq (t : Option Addr) (h : Hp)  (K : Value → Hp → Prop) : rangetree_Tree_List_b0 t h  K = (
  cond t.isNone
  (K (.slice none 0 0) h)
  (NN t fun a1 =>
  ∃ v1 : Value, cell h a1 = some (v1) ∧
  rangeV Tryz.prog 55 v1 h fun it1 h1 =>
  LoopVC (((none, 0, 0), ()) : (Option Addr × Nat × Nat) × Unit) h1 (fun (nx0 : (Option Addr × Nat × Nat) × Unit → Hp → Prop) (s1 : (Option Addr × Nat × Nat) × Unit) h2 => rangetree_Tree_List_b1 s1.1.1 s1.1.2.1 s1.1.2.2 (.pointer (some ⟨it1, 0, none⟩)) h2 nx0 K))) := by kernel_rfl
theorem rangetree_Tree_List_b1_eq (out : Option Addr) (outL : Nat) (outC : Nat) (t12 : Value) (h : Hp) (nx0 : (Option Addr × Nat × Nat) × Unit → Hp → Prop) (K : Value → Hp → Prop) : rangetree_Tree_List_b1 out outL outC t12 h nx0 K = (
  nextV Tryz.prog t12 false h (fun h3 =>
  rangetree_Tree_List_b2 out outL outC h3  K) fun x1 y1 h4 =>
  entryV Tryz.prog t12 h4 fun v2 => ∃ k1 : Int, ∃ k2 : Int, ∃ e1 : Int, v2 = .tuple #[.agg #[.int .i64 k1, .int .i64 k2], .int .i64 e1] ∧
  New h4 (.cells #[.int .i64 0, .int .i64 0] 60) fun b1 h5 =>
  Wr h5 ⟨b1, 0, none⟩ (.int .i64 k1) fun h6 =>
  Wr h6 ((⟨b1, 0, none⟩ : Addr).add 1) (.int .i64 k2) fun h7 =>
  ∃ n1 : Int, cell h7 ⟨b1, 0, none⟩ = some (.int .i64 n1) ∧
  ∃ n2 : Int, cell h7 ((⟨b1, 0, none⟩ : Addr).add 1) = some (.int .i64 n2) ∧
  New h7 (.cells #[.int .i64 n1, .int .i64 n2, .int .i64 e1] 43) fun b2 h8 =>
  appendV Tryz.prog 49 49 (.slice out outL outC) (.slice (some ⟨b2, 0, none⟩) 1 1) h8 (slK fun a2 l1 c1 h9 =>
  nx0 ((a2, l1, c1), ()) h9)) := by kernel_rfl
theorem rangetree_Tree_List_b2_eq (out : Option Addr) (outL : Nat) (outC : Nat) (h : Hp)  (K : Value → Hp → Prop) : rangetree_Tree_List_b2 out outL outC h  K = (
  HCalls Tryz.prog 49 #[.slice out outL outC, .func (.func 50) #[] #[]] h fun v3 h10 => v3 = .tuple #[] ∧
  K (.slice out outL outC) h10) := by kernel_rfl
theorem rangetree_Tree_List_call {t : Option Addr} {h : Hp} {K : Value → Hp → Prop} (hk : rangetree_Tree_List_b0 t h K) : HCalls Tryz.prog 27 #[.pointer t] h K :=
  calls_of_snd rangetree_Tree_List_an Tryz.func27 (c := bodyOf Tryz.f27) rfl Tryz.ntmps27 (Nat.le_of_ble_eq_true rfl) (snd_2 F_ok F_mixed) hk

/-! ### r03_Words -/
def r03_Words_an : Ann := .node none (.leaf) (.node (some []) (.leaf) (.leaf))
def r03_Words_K0  (K : Value → Hp → Prop) : Exit → Env → Hp → Prop := retK Tryz.prog Tryz.f28.results.toList K
def r03_Words_b0 (kind : Int) (h : Hp)  (K : Value → Hp → Prop) : Prop :=
  sx_2 Tryz.prog F 22 (cp [] (bodyOf Tryz.f28)) (ap [] r03_Words_an) [(0, .int .i64 kind)] h (r03_Words_K0  K)
def r03_Words_b1  (h : Hp)  (K : Value → Hp → Prop) : Prop :=
  sx_1 Tryz.prog F 22 (cp [1, 1] (bodyOf Tryz.f28)) (ap [1, 1] r03_Words_an) [] h (r03_Words_K0  K)
theorem r03_Words_b0_eq (kind : Int) (h : Hp)  (K : Value → Hp → Prop) : r03_Words_b0 kind h  K = (
  cond (decide (kind = 1))
  (New h (.cells #[.string (⟨#[112, 117, 116]⟩ : ByteArray), .string (⟨#[103, 101, 116]⟩ : ByteArray), .string (⟨#[114, 101, 109, 111, 118, 101]⟩ : ByteArray), .string (⟨#[102, 108, 111, 111, 114]⟩ : ByteArray), .string (⟨#[99, 101, 105, 108, 105, 110, 103]⟩ : ByteArray), .string (⟨#[114, 97, 110, 107]⟩ : ByteArray), .string (⟨#[115, 101, 108, 101, 99, 116]⟩ : ByteArray), .string (⟨#[115, 105, 122, 101]⟩ : ByteArray)] 9) fun b1 h1 =>
  K (.slice (some ⟨b1, 0, none⟩) 8 8) h1)
  (cond (decide (kind = 2))
  (New h (.cells #[.string (⟨#[105, 110, 115, 101, 114, 116]⟩ : ByteArray), .string (⟨#[109, 105, 110]⟩ : ByteArray), .string (⟨#[100, 101, 108, 101, 116, 101, 109, 105, 110]⟩ : ByteArray), .string (⟨#[115, 105, 122, 101]⟩ : ByteArray)] 9) fun b2 h2 =>
  K (.slice (some ⟨b2, 0, none⟩) 4 4) h2)
  (cond (decide (kind = 3))
  (New h (.cells #[.string (⟨#[105, 110, 115, 101, 114, 116]⟩ : ByteArray), .string (⟨#[114, 101, 109, 111, 118, 101]⟩ : ByteArray), .string (⟨#[103, 101, 116]⟩ : ByteArray), .string (⟨#[115, 101, 116]⟩ : ByteArray), .string (⟨#[115, 117, 109]⟩ : ByteArray), .string (⟨#[114, 101, 118, 101, 114, 115, 101]⟩ : ByteArray), .string (⟨#[115, 105, 122, 101]⟩ : ByteArray)] 9) fun b3 h3 =>
  K (.slice (some ⟨b3, 0, none⟩) 7 7) h3)
  (cond (decide (kind = 4))
  (New h (.cells #[.string (⟨#[109, 97, 107, 101]⟩ : ByteArray), .string (⟨#[117, 110, 105, 111, 110]⟩ : ByteArray), .string (⟨#[115, 97, 109, 101]⟩ : ByteArray), .string (⟨#[115, 105, 122, 101]⟩ : ByteArray), .string (⟨#[99, 111, 117, 110, 116]⟩ : ByteArray)] 9) fun b4 h4 =>
  K (.slice (some ⟨b4, 0, none⟩) 5 5) h4)
  (cond (decide (kind = 5))
  (New h (.cells #[.string (⟨#[97, 100, 100]⟩ : ByteArray), .string (⟨#[114, 101, 109, 111, 118, 101]⟩ : ByteArray), .string (⟨#[99, 111, 117, 110, 116]⟩ : ByteArray), .string (⟨#[115, 117, 109]⟩ : ByteArray), .string (⟨#[115, 105, 122, 101]⟩ : ByteArray)] 9) fun b5 h5 =>
  K (.slice (some ⟨b5, 0, none⟩) 5 5) h5)
  (cond (decide (kind = 6))
  (New h (.cells #[.string (⟨#[97, 112, 112, 101, 110, 100]⟩ : ByteArray), .string (⟨#[99, 111, 117, 110, 116]⟩ : ByteArray), .string (⟨#[102, 105, 110, 100]⟩ : ByteArray), .string (⟨#[115, 105, 122, 101]⟩ : ByteArray)] 9) fun b6 h6 =>
  K (.slice (some ⟨b6, 0, none⟩) 4 4) h6)
  (r03_Words_b1  h  K))))))) := by kernel_rfl
theorem r03_Words_b1_eq  (h : Hp)  (K : Value → Hp → Prop) : r03_Words_b1  h  K = (
  K (.slice none 0 0) h) := by kernel_rfl
theorem r03_Words_call {kind : Int} {h : Hp} {K : Value → Hp → Prop} (hk : r03_Words_b0 kind h K) : HCalls Tryz.prog 28 #[.int .i64 kind] h K :=
  calls_of_snd r03_Words_an Tryz.func28 (c := bodyOf Tryz.f28) rfl Tryz.ntmps28 (Nat.le_of_ble_eq_true rfl) (snd_2 F_ok F_mixed) hk

/-! ### r03_Arity -/
def r03_Arity_an : Ann := .node none (.leaf) (.node (some [1]) (.leaf) (.leaf))
def r03_Arity_K0  (K : Value → Hp → Prop) : Exit → Env → Hp → Prop := retK Tryz.prog Tryz.f29.results.toList K
def r03_Arity_b0 (kind : Int) (code : Int) (h : Hp)  (K : Value → Hp → Prop) : Prop :=
  sx_2 Tryz.prog F 46 (cp [] (bodyOf Tryz.f29)) (ap [] r03_Arity_an) [(0, .int .i64 kind), (1, .int .i64 code)] h (r03_Arity_K0  K)
def r03_Arity_b1 (code : Int) (h : Hp)  (K : Value → Hp → Prop) : Prop :=
  sx_1 Tryz.prog F 46 (cp [1, 1] (bodyOf Tryz.f29)) (ap [1, 1] r03_Arity_an) [(1, .int .i64 code)] h (r03_Arity_K0  K)
theorem r03_Arity_b0_eq (kind : Int) (code : Int) (h : Hp)  (K : Value → Hp → Prop) : r03_Arity_b0 kind code h  K = (
  cond (decide (kind = 1))
  (New h (.cells #[.int .i64 2, .int .i64 1, .int .i64 1, .int .i64 1, .int .i64 1, .int .i64 1, .int .i64 1, .int .i64 0] 3) fun b1 h1 =>
  InR (code - 1) ∧
  (0 ≤ code - 1 ∧ code - 1 < ((8 : Nat) : Int)) ∧
  ∃ n1 : Int, cell h1 ((⟨b1, 0, none⟩ : Addr).add (Int.toNat (code - 1) * 1)) = some (.int .i64 n1) ∧
  K (.int .i64 n1) h1)
  (cond (decide (kind = 2))
  (New h (.cells #[.int .i64 1, .int .i64 0, .int .i64 0, .int .i64 0] 3) fun b2 h2 =>
  InR (code - 1) ∧
  (0 ≤ code - 1 ∧ code - 1 < ((4 : Nat) : Int)) ∧
  ∃ n2 : Int, cell h2 ((⟨b2, 0, none⟩ : Addr).add (Int.toNat (code - 1) * 1)) = some (.int .i64 n2) ∧
  K (.int .i64 n2) h2)
  (cond (decide (kind = 3))
  (New h (.cells #[.int .i64 2, .int .i64 1, .int .i64 1, .int .i64 2, .int .i64 2, .int .i64 2, .int .i64 0] 3) fun b3 h3 =>
  InR (code - 1) ∧
  (0 ≤ code - 1 ∧ code - 1 < ((7 : Nat) : Int)) ∧
  ∃ n3 : Int, cell h3 ((⟨b3, 0, none⟩ : Addr).add (Int.toNat (code - 1) * 1)) = some (.int .i64 n3) ∧
  K (.int .i64 n3) h3)
  (cond (decide (kind = 4))
  (New h (.cells #[.int .i64 0, .int .i64 2, .int .i64 2, .int .i64 1, .int .i64 0] 3) fun b4 h4 =>
  InR (code - 1) ∧
  (0 ≤ code - 1 ∧ code - 1 < ((5 : Nat) : Int)) ∧
  ∃ n4 : Int, cell h4 ((⟨b4, 0, none⟩ : Addr).add (Int.toNat (code - 1) * 1)) = some (.int .i64 n4) ∧
  K (.int .i64 n4) h4)
  (cond (decide (kind = 5))
  (New h (.cells #[.int .i64 3, .int .i64 2, .int .i64 4, .int .i64 4, .int .i64 0] 3) fun b5 h5 =>
  InR (code - 1) ∧
  (0 ≤ code - 1 ∧ code - 1 < ((5 : Nat) : Int)) ∧
  ∃ n5 : Int, cell h5 ((⟨b5, 0, none⟩ : Addr).add (Int.toNat (code - 1) * 1)) = some (.int .i64 n5) ∧
  K (.int .i64 n5) h5)
  (r03_Arity_b1 code h  K)))))) := by kernel_rfl
theorem r03_Arity_b1_eq (code : Int) (h : Hp)  (K : Value → Hp → Prop) : r03_Arity_b1 code h  K = (
  New h (.cells #[.int .i64 (-1), .int .i64 (-1), .int .i64 (-1), .int .i64 0] 3) fun b6 h6 =>
  InR (code - 1) ∧
  (0 ≤ code - 1 ∧ code - 1 < ((4 : Nat) : Int)) ∧
  ∃ n6 : Int, cell h6 ((⟨b6, 0, none⟩ : Addr).add (Int.toNat (code - 1) * 1)) = some (.int .i64 n6) ∧
  K (.int .i64 n6) h6) := by kernel_rfl
theorem r03_Arity_call {kind : Int} {code : Int} {h : Hp} {K : Value → Hp → Prop} (hk : r03_Arity_b0 kind code h K) : HCalls Tryz.prog 29 #[.int .i64 kind, .int .i64 code] h K :=
  calls_of_snd r03_Arity_an Tryz.func29 (c := bodyOf Tryz.f29) rfl Tryz.ntmps29 (Nat.le_of_ble_eq_true rfl) (snd_2 F_ok F_mixed) hk

/-! ### r03_key -/
def r03_key_an : Ann := .leaf
def r03_key_K0  (K : Value → Hp → Prop) : Exit → Env → Hp → Prop := retK Tryz.prog Tryz.f30.results.toList K
def r03_key_b0 (nv : Int) (h : Hp)  (K : Value → Hp → Prop) : Prop :=
  sx_1 Tryz.prog F 9 (cp [] (bodyOf Tryz.f30)) (ap [] r03_key_an) [(0, .int .i64 nv)] h (r03_key_K0  K)
theorem r03_key_b0_eq (nv : Int) (h : Hp)  (K : Value → Hp → Prop) : r03_key_b0 nv h  K = (
  cond (decide (((-1048576) : Int) ≤ nv))
  (K (.bool (decide (nv ≤ 1048576))) h)
  (K (.bool false) h)) := by kernel_rfl
theorem r03_key_call {nv : Int} {h : Hp} {K : Value → Hp → Prop} (hk : r03_key_b0 nv h K) : HCalls Tryz.prog 30 #[.int .i64 nv] h K :=
  calls_of_snd r03_key_an Tryz.func30 (c := bodyOf Tryz.f30) rfl Tryz.ntmps30 (Nat.le_of_ble_eq_true rfl) (snd_1 F_ok F_mixed) hk

/-! ### slices_IndexFunc_Sapi_Point_api_Point -/
def slices_IndexFunc_Sapi_Point_api_Point_an : Ann := .node none (.leaf) (.node (some []) (.node none (.leaf) (.loop [0, 1, 7] [(8, .int .i64)] (.node none (.leaf) (.node none (.leaf) (.node (some [0, 1, 7, 8]) (.leaf) (.leaf)))))) (.leaf))
def slices_IndexFunc_Sapi_Point_api_Point_K0  (K : Value → Hp → Prop) : Exit → Env → Hp → Prop := retK Tryz.prog Tryz.f31.results.toList K
def slices_IndexFunc_Sapi_Point_api_Point_K1  (K : Value → Hp → Prop) : Exit → Env → Hp → Prop := thenE (fun env h => sx_2 Tryz.prog F 19 (cp [1, 1] (bodyOf Tryz.f31)) (ap [1, 1] slices_IndexFunc_Sapi_Point_api_Point_an) (rs [] env) h (slices_IndexFunc_Sapi_Point_api_Point_K0  K)) (slices_IndexFunc_Sapi_Point_api_Point_K0  K)
def slices_IndexFunc_Sapi_Point_api_Point_K2  (K : Value → Hp → Prop) : Exit → Env → Hp → Prop := blockE 0 (slices_IndexFunc_Sapi_Point_api_Point_K1  K)
def slices_IndexFunc_Sapi_Point_api_Point_K3 (nx0 : Int × Unit → Hp → Prop) (K : Value → Hp → Prop) : Exit → Env → Hp → Prop := thenE (fun env h => getV [(8, .int .i64)] env fun s => nx0 s h) (slices_IndexFunc_Sapi_Point_api_Point_K2  K)
def slices_IndexFunc_Sapi_Point_api_Point_b0 (s : Option Addr) (sL : Nat) (sC : Nat) (f : Value) (h : Hp)  (K : Value → Hp → Prop) : Prop :=
  sx_3 Tryz.prog F 19 (cp [] (bodyOf Tryz.f31)) (ap [] slices_IndexFunc_Sapi_Point_api_Point_an) [(0, .slice s sL sC), (1, f)] h (slices_IndexFunc_Sapi_Point_api_Point_K0  K)
def slices_IndexFunc_Sapi_Point_api_Point_b1 (t8 : Int) (s : Option Addr) (sL : Nat) (sC : Nat) (f : Value) (t7 : Int) (h : Hp) (nx0 : Int × Unit → Hp → Prop) (K : Value → Hp → Prop) : Prop :=
  sx_2 Tryz.prog F 19 (cp [1, 0, 1, 2, 2] (bodyOf Tryz.f31)) (ap [1, 0, 1, 2] slices_IndexFunc_Sapi_Point_api_Point_an) [(8, .int .i64 t8), (0, .slice s sL sC), (1, f), (7, .int .i64 t7)] h (slices_IndexFunc_Sapi_Point_api_Point_K3 nx0 K)
def slices_IndexFunc_Sapi_Point_api_Point_b2 (s : Option Addr) (sL : Nat) (sC : Nat) (f : Value) (t7 : Int) (t8 : Int) (h : Hp) (nx0 : Int × Unit → Hp → Prop) (K : Value → Hp → Prop) : Prop :=
  sx_1 Tryz.prog F 19 (cp [1, 0, 1, 2, 2, 1, 1, 1] (bodyOf Tryz.f31)) (ap [1, 0, 1, 2, 1, 1, 1] slices_IndexFunc_Sapi_Point_api_Point_an) [(0, .slice s sL sC), (1, f), (7, .int .i64 t7), (8, .int .i64 t8)] h (slices_IndexFunc_Sapi_Point_api_Point_K3 nx0 K)
def slices_IndexFunc_Sapi_Point_api_Point_b3  (h : Hp)  (K : Value → Hp → Prop) : Prop :=
  sx_2 Tryz.prog F 19 (cp [1, 1] (bodyOf Tryz.f31)) (ap [1, 1] slices_IndexFunc_Sapi_Point_api_Point_an) [] h (slices_IndexFunc_Sapi_Point_api_Point_K0  K)
theorem slices_IndexFunc_Sapi_Point_api_Point_b0_eq (s : Option Addr) (sL : Nat) (sC : Nat) (f : Value) (h : Hp)  (K : Value → Hp → Prop) : slices_IndexFunc_Sapi_Point_api_Point_b0 s sL sC f h  K = (
  LoopVC ((0, ()) : Int × Unit) h (fun (nx0 : Int × Unit → Hp → Prop) (s1 : Int × Unit) h1 => slices_IndexFunc_Sapi_Point_api_Point_b1 s1.1 s sL sC f (sL : Int) h1 nx0 K)) := by kernel_rfl
theorem slices_IndexFunc_Sapi_Point_api_Point_b1_eq (t8 : Int) (s : Option Addr) (sL : Nat) (sC : Nat) (f : Value) (t7 : Int) (h : Hp) (nx0 : Int × Unit → Hp → Prop) (K : Value → Hp → Prop) : slices_IndexFunc_Sapi_Point_api_Point_b1 t8 s sL sC f t7 h nx0 K = (
  cond (decide (t8 < t7))
  ((0 ≤ t8 ∧ t8 < (sL : Int)) ∧
  NN s fun a1 =>
  ∃ n1 : Int, ∃ n2 : Int, ∃ n3 : Int, cell h (a1.add (Int.toNat t8 * 3)) = some (.int .i64 n1) ∧
  cell h ((a1.add (Int.toNat t8 * 3)).add 1) = some (.int .i64 n2) ∧
  cell h ((a1.add (Int.toNat t8 * 3)).add 2) = some (.int .i64 n3) ∧
  funV f fun fg1 fa1 fc1 => callX Tryz.prog F fg1 (fa1 ++ (([.agg #[.int .i64 n1, .int .i64 n2, .int .i64 n3]] : List Value) ++ fc1)).toArray h fun v1 h2 => ∃ r1 : Bool, v1 = .bool r1 ∧
  cond r1
  (K (.int .i64 t8) h2)
  (slices_IndexFunc_Sapi_Point_api_Point_b2 s sL sC f t7 t8 h2 nx0 K))
  (slices_IndexFunc_Sapi_Point_api_Point_b3  h  K)) := by kernel_rfl
theorem slices_IndexFunc_Sapi_Point_api_Point_b2_eq (s : Option Addr) (sL : Nat) (sC : Nat) (f : Value) (t7 : Int) (t8 : Int) (h : Hp) (nx0 : Int × Unit → Hp → Prop) (K : Value → Hp → Prop) : slices_IndexFunc_Sapi_Point_api_Point_b2 s sL sC f t7 t8 h nx0 K = (
  InR (t8 + 1) ∧
  nx0 (t8 + 1, ()) h) := by kernel_rfl
theorem slices_IndexFunc_Sapi_Point_api_Point_b3_eq  (h : Hp)  (K : Value → Hp → Prop) : slices_IndexFunc_Sapi_Point_api_Point_b3  h  K = (
  K (.int .i64 (-1)) h) := by kernel_rfl
theorem slices_IndexFunc_Sapi_Point_api_Point_call {s : Option Addr} {sL : Nat} {sC : Nat} {f : Value} {h : Hp} {K : Value → Hp → Prop} (hk : slices_IndexFunc_Sapi_Point_api_Point_b0 s sL sC f h K) : HCalls Tryz.prog 31 #[.slice s sL sC, f] h K :=
  calls_of_snd slices_IndexFunc_Sapi_Point_api_Point_an Tryz.func31 (c := bodyOf Tryz.f31) rfl Tryz.ntmps31 (Nat.le_of_ble_eq_true rfl) (snd_3 F_ok F_mixed) hk

/-! ### model_validRows -/
def model_validRows_an : Ann := .node none (.leaf) (.node none (.leaf) (.node none (.leaf) (.node (some []) (.node none (.leaf) (.loop [1, 3, 4, 19, 20] [(21, .int .i64)] (.node none (.leaf) (.node none (.leaf) (.node (some [1, 3, 4, 19, 20, 21]) (.node none (.leaf) (.node (some [1, 3, 4, 5, 6, 19, 20, 21]) (.leaf) (.node (some [1, 3, 4, 5, 6, 19, 20, 21]) (.leaf) (.leaf)))) (.leaf)))))) (.leaf))))
def model_validRows_K0  (K : Value → Hp → Prop) : Exit → Env → Hp → Prop := retK Tryz.prog Tryz.f32.results.toList K
def model_validRows_K1  (K : Value → Hp → Prop) : Exit → Env → Hp → Prop := thenE (fun env h => sx_3 Tryz.prog F 64 (cp [1, 1, 1, 1] (bodyOf Tryz.f32)) (ap [1, 1, 1, 1] model_validRows_an) (rs [] env) h (model_validRows_K0  K)) (model_validRows_K0  K)
def model_validRows_K2  (K : Value → Hp → Prop) : Exit → Env → Hp → Prop := blockE 0 (model_validRows_K1  K)
def model_validRows_K3 (nx0 : Int × Unit → Hp → Prop) (K : Value → Hp → Prop) : Exit → Env → Hp → Prop := thenE (fun env h => getV [(21, .int .i64)] env fun s => nx0 s h) (model_validRows_K2  K)
def model_validRows_K4 (nx0 : Int × Unit → Hp → Prop) (K : Value → Hp → Prop) : Exit → Env → Hp → Prop := thenE (fun env h => sx_2 Tryz.prog F 64 (cp [1, 1, 1, 0, 1, 2, 2, 1, 1, 1] (bodyOf Tryz.f32)) (ap [1, 1, 1, 0, 1, 2, 1, 1, 1] model_validRows_an) (rs [1, 3, 4, 19, 20, 21] env) h (model_validRows_K3 nx0 K)) (model_validRows_K3 nx0 K)
def model_validRows_K5 (nx0 : Int × Unit → Hp → Prop) (K : Value → Hp → Prop) : Exit → Env → Hp → Prop := blockE 1 (model_validRows_K4 nx0 K)
def model_validRows_b0 (s_0 : Int) (s_1 : Option Addr) (s_1L : Nat) (s_1C : Nat) (h : Hp)  (K : Value → Hp → Prop) : Prop :=
  sx_4 Tryz.prog F 64 (cp [] (bodyOf Tryz.f32)) (ap [] model_validRows_an) [(0, .agg #[.int .i64 s_0, .slice s_1 s_1L s_1C])] h (model_validRows_K0  K)
def model_validRows_b1 (t21 : Int) (s : Option Addr) (w : Int) (keys : Int) (t19 : Option Addr) (t19L : Nat) (t19C : Nat) (t20 : Int) (h : Hp) (nx0 : Int × Unit → Hp → Prop) (K : Value → Hp → Prop) : Prop :=
  sx_3 Tryz.prog F 64 (cp [1, 1, 1, 0, 1, 2, 2] (bodyOf Tryz.f32)) (ap [1, 1, 1, 0, 1, 2] model_validRows_an) [(21, .int .i64 t21), (1, .pointer s), (3, .int .i64 w), (4, .int .i64 keys), (19, .slice t19 t19L t19C), (20, .int .i64 t20)] h (model_validRows_K3 nx0 K)
def model_validRows_b2 (s : Option Addr) (w : Int) (keys : Int) (i : Int) (row : Option Addr) (rowL : Nat) (rowC : Nat) (t19 : Option Addr) (t19L : Nat) (t19C : Nat) (t20 : Int) (t21 : Int) (h : Hp) (nx0 : Int × Unit → Hp → Prop) (K : Value → Hp → Prop) : Prop :=
  sx_2 Tryz.prog F 64 (cp [1, 1, 1, 0, 1, 2, 2, 1, 1, 0, 2, 1, 1] (bodyOf Tryz.f32)) (ap [1, 1, 1, 0, 1, 2, 1, 1, 0, 1, 1] model_validRows_an) [(1, .pointer s), (3, .int .i64 w), (4, .int .i64 keys), (5, .int .i64 i), (6, .slice row rowL rowC), (19, .slice t19 t19L t19C), (20, .int .i64 t20), (21, .int .i64 t21)] h (model_validRows_K5 nx0 K)
def model_validRows_b3  (h : Hp)  (K : Value → Hp → Prop) : Prop :=
  sx_3 Tryz.prog F 64 (cp [1, 1, 1, 1] (bodyOf Tryz.f32)) (ap [1, 1, 1, 1] model_validRows_an) [] h (model_validRows_K0  K)
def model_validRows_b4 (s : Option Addr) (w : Int) (keys : Int) (t19 : Option Addr) (t19L : Nat) (t19C : Nat) (t20 : Int) (t21 : Int) (h : Hp) (nx0 : Int × Unit → Hp → Prop) (K : Value → Hp → Prop) : Prop :=
  sx_2 Tryz.prog F 64 (cp [1, 1, 1, 0, 1, 2, 2, 1, 1, 1] (bodyOf Tryz.f32)) (ap [1, 1, 1, 0, 1, 2, 1, 1, 1] model_validRows_an) [(1, .pointer s), (3, .int .i64 w), (4, .int .i64 keys), (19, .slice t19 t19L t19C), (20, .int .i64 t20), (21, .int .i64 t21)] h (model_validRows_K3 nx0 K)
def model_validRows_b5 (s : Option Addr) (w : Int) (keys : Int) (i : Int) (row : Option Addr) (rowL : Nat) (rowC : Nat) (t19 : Option Addr) (t19L : Nat) (t19C : Nat) (t20 : Int) (t21 : Int) (h : Hp) (nx0 : Int × Unit → Hp → Prop) (K : Value → Hp → Prop) : Prop :=
  sx_1 Tryz.prog F 64 (cp [1, 1, 1, 0, 1, 2, 2, 1, 1, 0, 2, 1, 1, 1] (bodyOf Tryz.f32)) (ap [1, 1, 1, 0, 1, 2, 1, 1, 0, 1, 1, 1] model_validRows_an) [(1, .pointer s), (3, .int .i64 w), (4, .int .i64 keys), (5, .int .i64 i), (6, .slice row rowL rowC), (19, .slice t19 t19L t19C), (20, .int .i64 t20), (21, .int .i64 t21)] h (model_validRows_K5 nx0 K)
theorem model_validRows_b0_eq (s_0 : Int) (s_1 : Option Addr) (s_1L : Nat) (s_1C : Nat) (h : Hp)  (K : Value → Hp → Prop) : model_validRows_b0 s_0 s_1 s_1L s_1C h  K = (
  New h (.cells #[.int .i64 s_0, .slice s_1 s_1L s_1C] 31) fun b1 h1 =>
  ∃ (a1 : Option Addr) (L1 C1 : Nat), cell h1 ((⟨b1, 0, none⟩ : Addr).add 1) = some (.slice a1 L1 C1) ∧
  cond (decide ((500 : Int) < (L1 : Int)))
  (K (.bool false) h1)
  (∃ n1 : Int, cell h1 ⟨b1, 0, none⟩ = some (.int .i64 n1) ∧
  HCalls Tryz.prog 51 #[.int .i64 n1] h1 fun v1 h2 => ∃ r1 : Int, ∃ r2 : Int, v1 = .tuple #[.int .i64 r1, .int .i64 r2] ∧
  ∃ (a2 : Option Addr) (L2 C2 : Nat), cell h2 ((⟨b1, 0, none⟩ : Addr).add 1) = some (.slice a2 L2 C2) ∧
  LoopVC ((0, ()) : Int × Unit) h2 (fun (nx0 : Int × Unit → Hp → Prop) (s1 : Int × Unit) h3 => model_validRows_b1 s1.1 (some ⟨b1, 0, none⟩) r1 r2 a2 L2 C2 (L2 : Int) h3 nx0 K))) := by kernel_rfl
theorem model_validRows_b1_eq (t21 : Int) (s : Option Addr) (w : Int) (keys : Int) (t19 : Option Addr) (t19L : Nat) (t19C : Nat) (t20 : Int) (h : Hp) (nx0 : Int × Unit → Hp → Prop) (K : Value → Hp → Prop) : model_validRows_b1 t21 s w keys t19 t19L t19C t20 h nx0 K = (
  cond (decide (t21 < t20))
  ((0 ≤ t21 ∧ t21 < (t19L : Int)) ∧
  NN t19 fun a3 =>
  ∃ (a4 : Option Addr) (L3 C3 : Nat), cell h (a3.add (Int.toNat t21 * 1)) = some (.slice a4 L3 C3) ∧
  cond (!decide ((L3 : Int) = w))
  (K (.bool false) h)
  (HCalls Tryz.prog 34 #[.slice a4 L3 C3, .func (.func 52) #[] #[]] h fun v2 h4 => ∃ r3 : Bool, v2 = .bool r3 ∧
  cond r3
  (K (.bool false) h4)
  (model_validRows_b2 s w keys t21 a4 L3 C3 t19 t19L t19C t20 t21 h4 nx0 K)))
  (model_validRows_b3  h  K)) := by kernel_rfl
theorem model_validRows_b2_eq (s : Option Addr) (w : Int) (keys : Int) (i : Int) (row : Option Addr) (rowL : Nat) (rowC : Nat) (t19 : Option Addr) (t19L : Nat) (t19C : Nat) (t20 : Int) (t21 : Int) (h : Hp) (nx0 : Int × Unit → Hp → Prop) (K : Value → Hp → Prop) : model_validRows_b2 s w keys i row rowL rowC t19 t19L t19C t20 t21 h nx0 K = (
  cond (decide (i = 0))
  (model_validRows_b4 s w keys t19 t19L t19C t20 t21 h nx0 K)
  (cond (decide (keys = 0))
  (model_validRows_b4 s w keys t19 t19L t19C t20 t21 h nx0 K)
  (model_validRows_b5 s w keys i row rowL rowC t19 t19L t19C t20 t21 h nx0 K))) := by kernel_rfl
theorem model_validRows_b3_eq  (h : Hp)  (K : Value → Hp → Prop) : model_validRows_b3  h  K = (
  K (.bool true) h) := by kernel_rfl
theorem model_validRows_b4_eq (s : Option Addr) (w : Int) (keys : Int) (t19 : Option Addr) (t19L : Nat) (t19C : Nat) (t20 : Int) (t21 : Int) (h : Hp) (nx0 : Int × Unit → Hp → Prop) (K : Value → Hp → Prop) : model_validRows_b4 s w keys t19 t19L t19C t20 t21 h nx0 K = (
  InR (t21 + 1) ∧
  nx0 (t21 + 1, ()) h) := by kernel_rfl
theorem model_validRows_b5_eq (s : Option Addr) (w : Int) (keys : Int) (i : Int) (row : Option Addr) (rowL : Nat) (rowC : Nat) (t19 : Option Addr) (t19L : Nat) (t19C : Nat) (t20 : Int) (t21 : Int) (h : Hp) (nx0 : Int × Unit → Hp → Prop) (K : Value → Hp → Prop) : model_validRows_b5 s w keys i row rowL rowC t19 t19L t19C t20 t21 h nx0 K = (
  NN s fun a5 =>
  ∃ (a6 : Option Addr) (L4 C4 : Nat), cell h (a5.add 1) = some (.slice a6 L4 C4) ∧
  InR (i - 1) ∧
  (0 ≤ i - 1 ∧ i - 1 < (L4 : Int)) ∧
  NN a6 fun a7 =>
  ∃ (a8 : Option Addr) (L5 C5 : Nat), cell h (a7.add (Int.toNat (i - 1) * 1)) = some (.slice a8 L5 C5) ∧
  (0 ≤ (0 : Int) ∧ (0 : Int) ≤ keys ∧ keys ≤ (C5 : Int)) ∧
  (0 ≤ (0 : Int) ∧ (0 : Int) ≤ keys ∧ keys ≤ (rowC : Int)) ∧
  ∃ r4 : Int, HCalls Tryz.prog 53 #[.slice (subAddr a8 C5 (Int.toNat (0 : Int)) 1) (Int.toNat keys - Int.toNat (0 : Int)) (C5 - Int.toNat (0 : Int)), .slice (subAddr row rowC (Int.toNat (0 : Int)) 1) (Int.toNat keys - Int.toNat (0 : Int)) (rowC - Int.toNat (0 : Int))] h (fun v3 h5 => v3 = .int .i64 r4 ∧ h5 = h) ∧
  cond (decide ((0 : Int) < r4))
  (K (.bool false) h)
  (cond (decide (r4 = 0))
  (NN s fun a9 =>
  ∃ n2 : Int, cell h a9 = some (.int .i64 n2) ∧
  cond (!decide (n2 = 2))
  (K (.bool false) h)
  (model_validRows_b4 s w keys t19 t19L t19C t20 t21 h nx0 K))
  (model_validRows_b4 s w keys t19 t19L t19C t20 t21 h nx0 K))) := by kernel_rfl
theorem model_validRows_call {s_0 : Int} {s_1 : Option Addr} {s_1L : Nat} {s_1C : Nat} {h : Hp} {K : Value → Hp → Prop} (hk : model_validRows_b0 s_0 s_1 s_1L s_1C h K) : HCalls Tryz.prog 32 #[.agg #[.int .i64 s_0, .slice s_1 s_1L s_1C]] h K :=
  calls_of_snd model_validRows_an Tryz.func32 (c := bodyOf Tryz.f32) rfl Tryz.ntmps32 (Nat.le_of_ble_eq_true rfl) (snd_4 F_ok F_mixed) hk

/-! ### model_validSets -/
/-! ### slices_ContainsFunc_Sint_int -/
def slices_ContainsFunc_Sint_int_an : Ann := .leaf
def slices_ContainsFunc_Sint_int_K0  (K : Value → Hp → Prop) : Exit → Env → Hp → Prop := retK Tryz.prog Tryz.f34.results.toList K
def slices_ContainsFunc_Sint_int_b0 (s : Option Addr) (sL : Nat) (sC : Nat) (f : Value) (h : Hp)  (K : Value → Hp → Prop) : Prop :=
  sx_1 Tryz.prog F 9 (cp [] (bodyOf Tryz.f34)) (ap [] slices_ContainsFunc_Sint_int_an) [(0, .slice s sL sC), (1, f)] h (slices_ContainsFunc_Sint_int_K0  K)
theorem slices_ContainsFunc_Sint_int_b0_eq (s : Option Addr) (sL : Nat) (sC : Nat) (f : Value) (h : Hp)  (K : Value → Hp → Prop) : slices_ContainsFunc_Sint_int_b0 s sL sC f h  K = (
  HCalls Tryz.prog 55 #[.slice s sL sC, f] h fun v1 h1 => ∃ r1 : Int, v1 = .int .i64 r1 ∧
  K (.bool (decide ((0 : Int) ≤ r1))) h1) := by kernel_rfl
theorem slices_ContainsFunc_Sint_int_call {s : Option Addr} {sL : Nat} {sC : Nat} {f : Value} {h : Hp} {K : Value → Hp → Prop} (hk : slices_ContainsFunc_Sint_int_b0 s sL sC f h K) : HCalls Tryz.prog 34 #[.slice s sL sC, f] h K :=
  calls_of_snd slices_ContainsFunc_Sint_int_an Tryz.func34 (c := bodyOf Tryz.f34) rfl Tryz.ntmps34 (Nat.le_of_ble_eq_true rfl) (snd_1 F_ok F_mixed) hk

/-! ### model_Valid_c1 -/
/-! ### model_character -/
def model_character_an : Ann := .leaf
def model_character_K0  (K : Value → Hp → Prop) : Exit → Env → Hp → Prop := retK Tryz.prog Tryz.f36.results.toList K
def model_character_b0 (nv : Int) (h : Hp)  (K : Value → Hp → Prop) : Prop :=
  sx_1 Tryz.prog F 9 (cp [] (bodyOf Tryz.f36)) (ap [] model_character_an) [(0, .int .i64 nv)] h (model_character_K0  K)
theorem model_character_b0_eq (nv : Int) (h : Hp)  (K : Value → Hp → Prop) : model_character_b0 nv h  K = (
  cond (decide ((0 : Int) ≤ nv))
  (K (.bool (decide (nv ≤ 255))) h)
  (K (.bool false) h)) := by kernel_rfl
theorem model_character_call {nv : Int} {h : Hp} {K : Value → Hp → Prop} (hk : model_character_b0 nv h K) : HCalls Tryz.prog 36 #[.int .i64 nv] h K :=
  calls_of_snd model_character_an Tryz.func36 (c := bodyOf Tryz.f36) rfl Tryz.ntmps36 (Nat.le_of_ble_eq_true rfl) (snd_1 F_ok F_mixed) hk

/-! ### model_ValidOp_c1 -/
def model_ValidOp_c1_an : Ann := .leaf
def model_ValidOp_c1_K0  (K : Value → Hp → Prop) : Exit → Env → Hp → Prop := retK Tryz.prog Tryz.f37.results.toList K
def model_ValidOp_c1_b0 (c : Int) (h : Hp)  (K : Value → Hp → Prop) : Prop :=
  sx_1 Tryz.prog F 6 (cp [] (bodyOf Tryz.f37)) (ap [] model_ValidOp_c1_an) [(0, .int .i64 c)] h (model_ValidOp_c1_K0  K)
theorem model_ValidOp_c1_b0_eq (c : Int) (h : Hp)  (K : Value → Hp → Prop) : model_ValidOp_c1_b0 c h  K = (
  HCalls Tryz.prog 36 #[.int .i64 c] h fun v1 h1 => ∃ r1 : Bool, v1 = .bool r1 ∧
  K (.bool (!r1)) h1) := by kernel_rfl
theorem model_ValidOp_c1_call {c : Int} {h : Hp} {K : Value → Hp → Prop} (hk : model_ValidOp_c1_b0 c h K) : HCalls Tryz.prog 37 #[.int .i64 c] h K :=
  calls_of_snd model_ValidOp_c1_an Tryz.func37 (c := bodyOf Tryz.f37) rfl Tryz.ntmps37 (Nat.le_of_ble_eq_true rfl) (snd_1 F_ok F_mixed) hk

/-! ### model_ValidOp_c2 -/
def model_ValidOp_c2_an : Ann := .leaf
def model_ValidOp_c2_K0  (K : Value → Hp → Prop) : Exit → Env → Hp → Prop := retK Tryz.prog Tryz.f38.results.toList K
def model_ValidOp_c2_b0 (nv : Int) (h : Hp)  (K : Value → Hp → Prop) : Prop :=
  sx_1 Tryz.prog F 6 (cp [] (bodyOf Tryz.f38)) (ap [] model_ValidOp_c2_an) [(0, .int .i64 nv)] h (model_ValidOp_c2_K0  K)
theorem model_ValidOp_c2_b0_eq (nv : Int) (h : Hp)  (K : Value → Hp → Prop) : model_ValidOp_c2_b0 nv h  K = (
  HCalls Tryz.prog 39 #[.int .i64 nv] h fun v1 h1 => ∃ r1 : Bool, v1 = .bool r1 ∧
  K (.bool (!r1)) h1) := by kernel_rfl
theorem model_ValidOp_c2_call {nv : Int} {h : Hp} {K : Value → Hp → Prop} (hk : model_ValidOp_c2_b0 nv h K) : HCalls Tryz.prog 38 #[.int .i64 nv] h K :=
  calls_of_snd model_ValidOp_c2_an Tryz.func38 (c := bodyOf Tryz.f38) rfl Tryz.ntmps38 (Nat.le_of_ble_eq_true rfl) (snd_1 F_ok F_mixed) hk

/-! ### model_number -/
def model_number_an : Ann := .leaf
def model_number_K0  (K : Value → Hp → Prop) : Exit → Env → Hp → Prop := retK Tryz.prog Tryz.f39.results.toList K
def model_number_b0 (nv : Int) (h : Hp)  (K : Value → Hp → Prop) : Prop :=
  sx_1 Tryz.prog F 9 (cp [] (bodyOf Tryz.f39)) (ap [] model_number_an) [(0, .int .i64 nv)] h (model_number_K0  K)
theorem model_number_b0_eq (nv : Int) (h : Hp)  (K : Value → Hp → Prop) : model_number_b0 nv h  K = (
  cond (decide (((-1048576) : Int) ≤ nv))
  (K (.bool (decide (nv ≤ 1048576))) h)
  (K (.bool false) h)) := by kernel_rfl
theorem model_number_call {nv : Int} {h : Hp} {K : Value → Hp → Prop} (hk : model_number_b0 nv h K) : HCalls Tryz.prog 39 #[.int .i64 nv] h K :=
  calls_of_snd model_number_an Tryz.func39 (c := bodyOf Tryz.f39) rfl Tryz.ntmps39 (Nat.le_of_ble_eq_true rfl) (snd_1 F_ok F_mixed) hk

/-! ### model_dict -/
/-! ### model_heap -/
/-! ### model_seq -/
/-! ### model_sets -/
end Go.Proofs.YtbfejfejahoblaaGreat
