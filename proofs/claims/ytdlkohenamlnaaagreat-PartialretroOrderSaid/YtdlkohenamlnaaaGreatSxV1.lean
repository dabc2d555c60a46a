/- Plain statements of what each block of code of this seat asks; printed by a program, checked by Lean. -/
import Derived.Test.YtdlkohenamlnaaaGreatSxV0
set_option maxRecDepth 10000
namespace Go.Proofs.YtdlkohenamlnaaaGreat
open Go Go.Sx

/-! ### l35_PartialretroBridge -/
/-! ### l35_PartialretroQueue -/
/-! ### l35_PartialretroLog -/
/-! ### l35_PartialretroNil -/
/-! ### l35_PartialretroOrder -/
def l35_PartialretroOrder_an : Ann := .node none (.leaf) (.node (some [0]) (.leaf) (.node none (.leaf) (.node none (.leaf) (.node (some [3, 4, 5]) (.node none (.leaf) (.loop [3, 4, 30, 31] [(5, .slice), (32, .int .i64)] (.node none (.leaf) (.node none (.leaf) (.node (some [3, 4, 5, 30, 31, 32]) (.node none (.leaf) (.node none (.leaf) (.node (some [3, 4, 5, 7, 8, 30, 31, 32]) (.leaf) (.leaf)))) (.leaf)))))) (.node none (.leaf) (.node none (.leaf) (.node none (.leaf) (.node (some [3, 4, 9]) (.node none (.leaf) (.loop [3, 4, 5, 9, 64, 65] [(66, .int .i64)] (.node none (.leaf) (.node none (.leaf) (.node (some [3, 4, 5, 9, 64, 65, 66]) (.node none (.leaf) (.node none (.leaf) (.node (some [3, 4, 5, 9, 10, 11, 12, 13, 64, 65, 66]) (.leaf) (.node none (.leaf) (.node (some [3, 4, 5, 9, 14, 64, 65, 66]) (.leaf) (.leaf)))))) (.leaf)))))) (.node none (.leaf) (.node (some [3, 4, 17]) (.node none (.leaf) (.loop [3, 4, 125, 126] [(17, .slice), (127, .int .i64)] (.node none (.leaf) (.node none (.leaf) (.node (some [3, 4, 17, 125, 126, 127]) (.leaf) (.leaf)))))) (.leaf)))))))))))
def l35_PartialretroOrder_K0  (K : Value → Hp → Prop) : Exit → Env → Hp → Prop := retK Tryz.prog Tryz.f8.results.toList K
def l35_PartialretroOrder_K1  (K : Value → Hp → Prop) : Exit → Env → Hp → Prop := thenE (fun env h => sx_4 Tryz.prog F 159 (cp [1, 1, 1, 1, 1] (bodyOf Tryz.f8)) (ap [1, 1, 1, 1, 1] l35_PartialretroOrder_an) (rs [3, 4, 5] env) h (l35_PartialretroOrder_K0  K)) (l35_PartialretroOrder_K0  K)
def l35_PartialretroOrder_K2  (K : Value → Hp → Prop) : Exit → Env → Hp → Prop := blockE 0 (l35_PartialretroOrder_K1  K)
def l35_PartialretroOrder_K3 (nx0 : (Option Addr × Nat × Nat) × Int × Unit → Hp → Prop) (K : Value → Hp → Prop) : Exit → Env → Hp → Prop := thenE (fun env h => getV [(5, .slice), (32, .int .i64)] env fun s => nx0 s h) (l35_PartialretroOrder_K2  K)
def l35_PartialretroOrder_K4 (nx0 : (Option Addr × Nat × Nat) × Int × Unit → Hp → Prop) (K : Value → Hp → Prop) : Exit → Env → Hp → Prop := thenE (fun env h => sx_3 Tryz.prog F 159 (cp [1, 1, 1, 1, 0, 1, 2, 2, 1, 1, 1] (bodyOf Tryz.f8)) (ap [1, 1, 1, 1, 0, 1, 2, 1, 1, 1] l35_PartialretroOrder_an) (rs [3, 4, 5, 30, 31, 32] env) h (l35_PartialretroOrder_K3 nx0 K)) (l35_PartialretroOrder_K3 nx0 K)
def l35_PartialretroOrder_K5 (nx0 : (Option Addr × Nat × Nat) × Int × Unit → Hp → Prop) (K : Value → Hp → Prop) : Exit → Env → Hp → Prop := blockE 1 (l35_PartialretroOrder_K4 nx0 K)
def l35_PartialretroOrder_K6  (K : Value → Hp → Prop) : Exit → Env → Hp → Prop := thenE (fun env h => sx_3 Tryz.prog F 159 (cp [1, 1, 1, 1, 1, 1, 1, 1, 1] (bodyOf Tryz.f8)) (ap [1, 1, 1, 1, 1, 1, 1, 1, 1] l35_PartialretroOrder_an) (rs [3, 4, 9] env) h (l35_PartialretroOrder_K0  K)) (l35_PartialretroOrder_K0  K)
def l35_PartialretroOrder_K7  (K : Value → Hp → Prop) : Exit → Env → Hp → Prop := blockE 2 (l35_PartialretroOrder_K6  K)
def l35_PartialretroOrder_K8 (nx0 : Int × Unit → Hp → Prop) (K : Value → Hp → Prop) : Exit → Env → Hp → Prop := thenE (fun env h => getV [(66, .int .i64)] env fun s => nx0 s h) (l35_PartialretroOrder_K7  K)
def l35_PartialretroOrder_K9 (nx0 : Int × Unit → Hp → Prop) (K : Value → Hp → Prop) : Exit → Env → Hp → Prop := thenE (fun env h => sx_2 Tryz.prog F 159 (cp [1, 1, 1, 1, 1, 1, 1, 1, 0, 1, 2, 2, 1, 1, 1] (bodyOf Tryz.f8)) (ap [1, 1, 1, 1, 1, 1, 1, 1, 0, 1, 2, 1, 1, 1] l35_PartialretroOrder_an) (rs [3, 4, 5, 9, 64, 65, 66] env) h (l35_PartialretroOrder_K8 nx0 K)) (l35_PartialretroOrder_K8 nx0 K)
def l35_PartialretroOrder_K10 (nx0 : Int × Unit → Hp → Prop) (K : Value → Hp → Prop) : Exit → Env → Hp → Prop := blockE 3 (l35_PartialretroOrder_K9 nx0 K)
def l35_PartialretroOrder_K11  (K : Value → Hp → Prop) : Exit → Env → Hp → Prop := thenE (fun env h => sx_2 Tryz.prog F 159 (cp [1, 1, 1, 1, 1, 1, 1, 1, 1, 1, 1] (bodyOf Tryz.f8)) (ap [1, 1, 1, 1, 1, 1, 1, 1, 1, 1, 1] l35_PartialretroOrder_an) (rs [3, 4, 17] env) h (l35_PartialretroOrder_K0  K)) (l35_PartialretroOrder_K0  K)
def l35_PartialretroOrder_K12  (K : Value → Hp → Prop) : Exit → Env → Hp → Prop := blockE 4 (l35_PartialretroOrder_K11  K)
def l35_PartialretroOrder_K13 (nx0 : (Option Addr × Nat × Nat) × Int × Unit → Hp → Prop) (K : Value → Hp → Prop) : Exit → Env → Hp → Prop := thenE (fun env h => getV [(17, .slice), (127, .int .i64)] env fun s => nx0 s h) (l35_PartialretroOrder_K12  K)
def l35_PartialretroOrder_b0 (l : Option Addr) (lL : Nat) (lC : Nat) (h : Hp)  (K : Value → Hp → Prop) : Prop :=
  sx_6 Tryz.prog F 159 (cp [] (bodyOf Tryz.f8)) (ap [] l35_PartialretroOrder_an) [(0, .slice l lL lC)] h (l35_PartialretroOrder_K0  K)
def l35_PartialretroOrder_b1 (l : Option Addr) (lL : Nat) (lC : Nat) (h : Hp)  (K : Value → Hp → Prop) : Prop :=
  sx_5 Tryz.prog F 159 (cp [1, 1] (bodyOf Tryz.f8)) (ap [1, 1] l35_PartialretroOrder_an) [(0, .slice l lL lC)] h (l35_PartialretroOrder_K0  K)
def l35_PartialretroOrder_b2 (kept : Option Addr) (keptL : Nat) (keptC : Nat) (t32 : Int) (a : Option Addr) (b : Option Addr) (t30 : Option Addr) (t30L : Nat) (t30C : Nat) (t31 : Int) (h : Hp) (nx0 : (Option Addr × Nat × Nat) × Int × Unit → Hp → Prop) (K : Value → Hp → Prop) : Prop :=
  sx_4 Tryz.prog F 159 (cp [1, 1, 1, 1, 0, 1, 2, 2] (bodyOf Tryz.f8)) (ap [1, 1, 1, 1, 0, 1, 2] l35_PartialretroOrder_an) [(5, .slice kept keptL keptC), (32, .int .i64 t32), (3, .pointer a), (4, .pointer b), (30, .slice t30 t30L t30C), (31, .int .i64 t31)] h (l35_PartialretroOrder_K3 nx0 K)
def l35_PartialretroOrder_b3 (a : Option Addr) (b : Option Addr) (kept : Option Addr) (keptL : Nat) (keptC : Nat) (s : Option Addr) (e : Int) (t30 : Option Addr) (t30L : Nat) (t30C : Nat) (t31 : Int) (t32 : Int) (h : Hp) (nx0 : (Option Addr × Nat × Nat) × Int × Unit → Hp → Prop) (K : Value → Hp → Prop) : Prop :=
  sx_3 Tryz.prog F 159 (cp [1, 1, 1, 1, 0, 1, 2, 2, 1, 1, 0, 2, 1, 1, 1] (bodyOf Tryz.f8)) (ap [1, 1, 1, 1, 0, 1, 2, 1, 1, 0, 1, 1, 1] l35_PartialretroOrder_an) [(3, .pointer a), (4, .pointer b), (5, .slice kept keptL keptC), (7, .pointer s), (8, .int .i64 e), (30, .slice t30 t30L t30C), (31, .int .i64 t31), (32, .int .i64 t32)] h (l35_PartialretroOrder_K5 nx0 K)
def l35_PartialretroOrder_b4 (a : Option Addr) (b : Option Addr) (kept : Option Addr) (keptL : Nat) (keptC : Nat) (h : Hp)  (K : Value → Hp → Prop) : Prop :=
  sx_4 Tryz.prog F 159 (cp [1, 1, 1, 1, 1] (bodyOf Tryz.f8)) (ap [1, 1, 1, 1, 1] l35_PartialretroOrder_an) [(3, .pointer a), (4, .pointer b), (5, .slice kept keptL keptC)] h (l35_PartialretroOrder_K0  K)
def l35_PartialretroOrder_b5 (a : Option Addr) (b : Option Addr) (kept : Option Addr) (keptL : Nat) (keptC : Nat) (t30 : Option Addr) (t30L : Nat) (t30C : Nat) (t31 : Int) (t32 : Int) (h : Hp) (nx0 : (Option Addr × Nat × Nat) × Int × Unit → Hp → Prop) (K : Value → Hp → Prop) : Prop :=
  sx_3 Tryz.prog F 159 (cp [1, 1, 1, 1, 0, 1, 2, 2, 1, 1, 1] (bodyOf Tryz.f8)) (ap [1, 1, 1, 1, 0, 1, 2, 1, 1, 1] l35_PartialretroOrder_an) [(3, .pointer a), (4, .pointer b), (5, .slice kept keptL keptC), (30, .slice t30 t30L t30C), (31, .int .i64 t31), (32, .int .i64 t32)] h (l35_PartialretroOrder_K3 nx0 K)
def l35_PartialretroOrder_b6 (t66 : Int) (a : Option Addr) (b : Option Addr) (kept : Option Addr) (keptL : Nat) (keptC : Nat) (s : Option Addr) (t64 : Option Addr) (t64L : Nat) (t64C : Nat) (t65 : Int) (h : Hp) (nx0 : Int × Unit → Hp → Prop) (K : Value → Hp → Prop) : Prop :=
  sx_3 Tryz.prog F 159 (cp [1, 1, 1, 1, 1, 1, 1, 1, 0, 1, 2, 2] (bodyOf Tryz.f8)) (ap [1, 1, 1, 1, 1, 1, 1, 1, 0, 1, 2] l35_PartialretroOrder_an) [(66, .int .i64 t66), (3, .pointer a), (4, .pointer b), (5, .slice kept keptL keptC), (9, .pointer s), (64, .slice t64 t64L t64C), (65, .int .i64 t65)] h (l35_PartialretroOrder_K8 nx0 K)
def l35_PartialretroOrder_b7 (a : Option Addr) (b : Option Addr) (kept : Option Addr) (keptL : Nat) (keptC : Nat) (s : Option Addr) (e : Int) (i : Int) (x : Option Addr) (o : Option Addr) (t64 : Option Addr) (t64L : Nat) (t64C : Nat) (t65 : Int) (t66 : Int) (h : Hp) (nx0 : Int × Unit → Hp → Prop) (K : Value → Hp → Prop) : Prop :=
  sx_2 Tryz.prog F 159 (cp [1, 1, 1, 1, 1, 1, 1, 1, 0, 1, 2, 2, 1, 1, 0, 2, 1, 1, 1] (bodyOf Tryz.f8)) (ap [1, 1, 1, 1, 1, 1, 1, 1, 0, 1, 2, 1, 1, 0, 1, 1, 1] l35_PartialretroOrder_an) [(3, .pointer a), (4, .pointer b), (5, .slice kept keptL keptC), (9, .pointer s), (10, .int .i64 e), (11, .int .i64 i), (12, .pointer x), (13, .pointer o), (64, .slice t64 t64L t64C), (65, .int .i64 t65), (66, .int .i64 t66)] h (l35_PartialretroOrder_K10 nx0 K)
def l35_PartialretroOrder_b8 (a : Option Addr) (b : Option Addr) (s : Option Addr) (h : Hp)  (K : Value → Hp → Prop) : Prop :=
  sx_3 Tryz.prog F 159 (cp [1, 1, 1, 1, 1, 1, 1, 1, 1] (bodyOf Tryz.f8)) (ap [1, 1, 1, 1, 1, 1, 1, 1, 1] l35_PartialretroOrder_an) [(3, .pointer a), (4, .pointer b), (9, .pointer s)] h (l35_PartialretroOrder_K0  K)
def l35_PartialretroOrder_b9 (a : Option Addr) (b : Option Addr) (kept : Option Addr) (keptL : Nat) (keptC : Nat) (s : Option Addr) (t : Option Addr) (t64 : Option Addr) (t64L : Nat) (t64C : Nat) (t65 : Int) (t66 : Int) (h : Hp) (nx0 : Int × Unit → Hp → Prop) (K : Value → Hp → Prop) : Prop :=
  sx_1 Tryz.prog F 159 (cp [1, 1, 1, 1, 1, 1, 1, 1, 0, 1, 2, 2, 1, 1, 0, 2, 1, 1, 1, 1, 1] (bodyOf Tryz.f8)) (ap [1, 1, 1, 1, 1, 1, 1, 1, 0, 1, 2, 1, 1, 0, 1, 1, 1, 1, 1] l35_PartialretroOrder_an) [(3, .pointer a), (4, .pointer b), (5, .slice kept keptL keptC), (9, .pointer s), (14, .pointer t), (64, .slice t64 t64L t64C), (65, .int .i64 t65), (66, .int .i64 t66)] h (l35_PartialretroOrder_K10 nx0 K)
def l35_PartialretroOrder_b10 (keys : Option Addr) (keysL : Nat) (keysC : Nat) (t127 : Int) (a : Option Addr) (b : Option Addr) (t125 : Option Addr) (t125L : Nat) (t125C : Nat) (t126 : Int) (h : Hp) (nx0 : (Option Addr × Nat × Nat) × Int × Unit → Hp → Prop) (K : Value → Hp → Prop) : Prop :=
  sx_2 Tryz.prog F 159 (cp [1, 1, 1, 1, 1, 1, 1, 1, 1, 1, 0, 1, 2, 2] (bodyOf Tryz.f8)) (ap [1, 1, 1, 1, 1, 1, 1, 1, 1, 1, 0, 1, 2] l35_PartialretroOrder_an) [(17, .slice keys keysL keysC), (127, .int .i64 t127), (3, .pointer a), (4, .pointer b), (125, .slice t125 t125L t125C), (126, .int .i64 t126)] h (l35_PartialretroOrder_K13 nx0 K)
def l35_PartialretroOrder_b11 (a : Option Addr) (b : Option Addr) (kept : Option Addr) (keptL : Nat) (keptC : Nat) (s : Option Addr) (t64 : Option Addr) (t64L : Nat) (t64C : Nat) (t65 : Int) (t66 : Int) (h : Hp) (nx0 : Int × Unit → Hp → Prop) (K : Value → Hp → Prop) : Prop :=
  sx_2 Tryz.prog F 159 (cp [1, 1, 1, 1, 1, 1, 1, 1, 0, 1, 2, 2, 1, 1, 1] (bodyOf Tryz.f8)) (ap [1, 1, 1, 1, 1, 1, 1, 1, 0, 1, 2, 1, 1, 1] l35_PartialretroOrder_an) [(3, .pointer a), (4, .pointer b), (5, .slice kept keptL keptC), (9, .pointer s), (64, .slice t64 t64L t64C), (65, .int .i64 t65), (66, .int .i64 t66)] h (l35_PartialretroOrder_K8 nx0 K)
def l35_PartialretroOrder_b12 (a : Option Addr) (b : Option Addr) (keys : Option Addr) (keysL : Nat) (keysC : Nat) (t125 : Option Addr) (t125L : Nat) (t125C : Nat) (t126 : Int) (t127 : Int) (h : Hp) (nx0 : (Option Addr × Nat × Nat) × Int × Unit → Hp → Prop) (K : Value → Hp → Prop) : Prop :=
  sx_1 Tryz.prog F 159 (cp [1, 1, 1, 1, 1, 1, 1, 1, 1, 1, 0, 1, 2, 2, 1, 1, 1] (bodyOf Tryz.f8)) (ap [1, 1, 1, 1, 1, 1, 1, 1, 1, 1, 0, 1, 2, 1, 1, 1] l35_PartialretroOrder_an) [(3, .pointer a), (4, .pointer b), (17, .slice keys keysL keysC), (125, .slice t125 t125L t125C), (126, .int .i64 t126), (127, .int .i64 t127)] h (l35_PartialretroOrder_K13 nx0 K)
def l35_PartialretroOrder_b13 (a : Option Addr) (b : Option Addr) (keys : Option Addr) (keysL : Nat) (keysC : Nat) (h : Hp)  (K : Value → Hp → Prop) : Prop :=
  sx_2 Tryz.prog F 159 (cp [1, 1, 1, 1, 1, 1, 1, 1, 1, 1, 1] (bodyOf Tryz.f8)) (ap [1, 1, 1, 1, 1, 1, 1, 1, 1, 1, 1] l35_PartialretroOrder_an) [(3, .pointer a), (4, .pointer b), (17, .slice keys keysL keysC)] h (l35_PartialretroOrder_K0  K)
theorem l35_PartialretroOrder_b0_eq (l : Option Addr) (lL : Nat) (lC : Nat) (h : Hp)  (K : Value → Hp → Prop) : l35_PartialretroOrder_b0 l lL lC h  K = (
  HCalls Tryz.prog 9 #[] h fun v1 h1 => ∃ r1 : Bool, v1 = .bool r1 ∧
  cond (!r1)
  (HCalls Tryz.prog 9 #[] h1 fun v2 h2 => ∃ r2 : Bool, v2 = .bool r2 ∧
  K (.bool r2) h2)
  (HCalls Tryz.prog 10 #[.slice l lL lC] h1 fun v3 h3 => ∃ r3 : Bool, v3 = .bool r3 ∧
  cond (!r3)
  (HCalls Tryz.prog 9 #[] h3 fun v4 h4 => ∃ r4 : Bool, v4 = .bool r4 ∧
  K (.bool r4) h4)
  (l35_PartialretroOrder_b1 l lL lC h3  K))) := by kernel_rfl
theorem l35_PartialretroOrder_b1_eq (l : Option Addr) (lL : Nat) (lC : Nat) (h : Hp)  (K : Value → Hp → Prop) : l35_PartialretroOrder_b1 l lL lC h  K = (
  HCalls Tryz.prog 13 #[] h fun v5 h5 => ∃ r5 : Option Addr, v5 = .pointer r5 ∧
  HCalls Tryz.prog 13 #[] h5 fun v6 h6 => ∃ r6 : Option Addr, v6 = .pointer r6 ∧
  LoopVC (((none, 0, 0), 0, ()) : (Option Addr × Nat × Nat) × Int × Unit) h6 (fun (nx0 : (Option Addr × Nat × Nat) × Int × Unit → Hp → Prop) (s1 : (Option Addr × Nat × Nat) × Int × Unit) h7 => l35_PartialretroOrder_b2 s1.1.1 s1.1.2.1 s1.1.2.2 s1.2.1 r5 r6 l lL lC (lL : Int) h7 nx0 K)) := by kernel_rfl
theorem l35_PartialretroOrder_b2_eq (kept : Option Addr) (keptL : Nat) (keptC : Nat) (t32 : Int) (a : Option Addr) (b : Option Addr) (t30 : Option Addr) (t30L : Nat) (t30C : Nat) (t31 : Int) (h : Hp) (nx0 : (Option Addr × Nat × Nat) × Int × Unit → Hp → Prop) (K : Value → Hp → Prop) : l35_PartialretroOrder_b2 kept keptL keptC t32 a b t30 t30L t30C t31 h nx0 K = (
  cond (decide (t32 < t31))
  ((0 ≤ t32 ∧ t32 < (t30L : Int)) ∧
  NN t30 fun a1 =>
  ∃ n1 : Int, ∃ n2 : Int, ∃ n3 : Int, ∃ n4 : Int, ∃ (a2 : Option Addr) (L1 C1 : Nat), cell h (a1.add (Int.toNat t32 * 5)) = some (.int .i64 n1) ∧
  cell h ((a1.add (Int.toNat t32 * 5)).add 1) = some (.int .i64 n2) ∧
  cell h ((a1.add (Int.toNat t32 * 5)).add 2) = some (.int .i64 n3) ∧
  cell h ((a1.add (Int.toNat t32 * 5)).add 3) = some (.int .i64 n4) ∧
  cell h ((a1.add (Int.toNat t32 * 5)).add 4) = some (.slice a2 L1 C1) ∧
  New h (.cells #[.int .i64 0, .int .i64 0, .int .i64 0, .int .i64 0, .slice none 0 0] 27) fun b1 h8 =>
  Wr h8 ⟨b1, 0, none⟩ (.int .i64 n1) fun h9 =>
  Wr h9 ((⟨b1, 0, none⟩ : Addr).add 1) (.int .i64 n2) fun h10 =>
  Wr h10 ((⟨b1, 0, none⟩ : Addr).add 2) (.int .i64 n3) fun h11 =>
  Wr h11 ((⟨b1, 0, none⟩ : Addr).add 3) (.int .i64 n4) fun h12 =>
  Wr h12 ((⟨b1, 0, none⟩ : Addr).add 4) (.slice a2 L1 C1) fun h13 =>
  ∃ n5 : Int, cell h13 ⟨b1, 0, none⟩ = some (.int .i64 n5) ∧
  cond (decide (n5 = 0))
  (∃ n6 : Int, cell h13 ((⟨b1, 0, none⟩ : Addr).add 1) = some (.int .i64 n6) ∧
  ∃ n7 : Int, cell h13 ((⟨b1, 0, none⟩ : Addr).add 2) = some (.int .i64 n7) ∧
  HCalls Tryz.prog 20 #[.pointer a, .int .i64 n6, .int .i64 n7] h13 fun v7 h14 => ∃ r7 : Int, v7 = .int .i64 r7 ∧
  l35_PartialretroOrder_b3 a b kept keptL keptC (some ⟨b1, 0, none⟩) r7 t30 t30L t30C t31 t32 h14 nx0 K)
  (∃ n8 : Int, cell h13 ((⟨b1, 0, none⟩ : Addr).add 1) = some (.int .i64 n8) ∧
  HCalls Tryz.prog 25 #[.pointer a, .int .i64 n8] h13 fun v8 h15 => ∃ r8 : Int, v8 = .int .i64 r8 ∧
  l35_PartialretroOrder_b3 a b kept keptL keptC (some ⟨b1, 0, none⟩) r8 t30 t30L t30C t31 t32 h15 nx0 K))
  (l35_PartialretroOrder_b4 a b kept keptL keptC h  K)) := by kernel_rfl
theorem l35_PartialretroOrder_b3_eq (a : Option Addr) (b : Option Addr) (kept : Option Addr) (keptL : Nat) (keptC : Nat) (s : Option Addr) (e : Int) (t30 : Option Addr) (t30L : Nat) (t30C : Nat) (t31 : Int) (t32 : Int) (h : Hp) (nx0 : (Option Addr × Nat × Nat) × Int × Unit → Hp → Prop) (K : Value → Hp → Prop) : l35_PartialretroOrder_b3 a b kept keptL keptC s e t30 t30L t30C t31 t32 h nx0 K = (
  cond (decide (e = 0))
  (NN s fun a3 =>
  ∃ n9 : Int, ∃ n10 : Int, ∃ n11 : Int, ∃ n12 : Int, ∃ (a4 : Option Addr) (L2 C2 : Nat), cell h a3 = some (.int .i64 n9) ∧
  cell h (a3.add 1) = some (.int .i64 n10) ∧
  cell h (a3.add 2) = some (.int .i64 n11) ∧
  cell h (a3.add 3) = some (.int .i64 n12) ∧
  cell h (a3.add 4) = some (.slice a4 L2 C2) ∧
  New h (.cells #[.int .i64 n9, .int .i64 n10, .int .i64 n11, .int .i64 n12, .slice a4 L2 C2] 27) fun b2 h16 =>
  appendV Tryz.prog 22 22 (.slice kept keptL keptC) (.slice (some ⟨b2, 0, none⟩) 1 1) h16 (slK fun a5 l1 c1 h17 =>
  l35_PartialretroOrder_b5 a b a5 l1 c1 t30 t30L t30C t31 t32 h17 nx0 K))
  (l35_PartialretroOrder_b5 a b kept keptL keptC t30 t30L t30C t31 t32 h nx0 K)) := by kernel_rfl
theorem l35_PartialretroOrder_b4_eq (a : Option Addr) (b : Option Addr) (kept : Option Addr) (keptL : Nat) (keptC : Nat) (h : Hp)  (K : Value → Hp → Prop) : l35_PartialretroOrder_b4 a b kept keptL keptC h  K = (
  HCalls Tryz.prog 50 #[.slice kept keptL keptC, .func (.func 51) #[] #[]] h fun v9 h18 => v9 = .tuple #[] ∧
  HCalls Tryz.prog 52 #[.int .i64 2] h18 fun v10 h19 => ∃ r9 : Int, ∃ (r10 : Option Addr) (rL1 rC1 : Nat), ∃ r11 : Int, v10 = .tuple #[.agg #[.int .i64 r9, .slice r10 rL1 rC1], .int .i64 r11] ∧
  New h19 (.cells #[.int .i64 0, .slice none 0 0] 66) fun b3 h20 =>
  Wr h20 ⟨b3, 0, none⟩ (.int .i64 r9) fun h21 =>
  Wr h21 ((⟨b3, 0, none⟩ : Addr).add 1) (.slice r10 rL1 rC1) fun h22 =>
  cond (!decide (r11 = 0))
  (K (.bool false) h22)
  (LoopVC ((0, ()) : Int × Unit) h22 (fun (nx0 : Int × Unit → Hp → Prop) (s2 : Int × Unit) h23 => l35_PartialretroOrder_b6 s2.1 a b kept keptL keptC (some ⟨b3, 0, none⟩) kept keptL keptC (keptL : Int) h23 nx0 K))) := by kernel_rfl
theorem l35_PartialretroOrder_b5_eq (a : Option Addr) (b : Option Addr) (kept : Option Addr) (keptL : Nat) (keptC : Nat) (t30 : Option Addr) (t30L : Nat) (t30C : Nat) (t31 : Int) (t32 : Int) (h : Hp) (nx0 : (Option Addr × Nat × Nat) × Int × Unit → Hp → Prop) (K : Value → Hp → Prop) : l35_PartialretroOrder_b5 a b kept keptL keptC t30 t30L t30C t31 t32 h nx0 K = (
  InR (t32 + 1) ∧
  nx0 ((kept, keptL, keptC), t32 + 1, ()) h) := by kernel_rfl
theorem l35_PartialretroOrder_b6_eq (t66 : Int) (a : Option Addr) (b : Option Addr) (kept : Option Addr) (keptL : Nat) (keptC : Nat) (s : Option Addr) (t64 : Option Addr) (t64L : Nat) (t64C : Nat) (t65 : Int) (h : Hp) (nx0 : Int × Unit → Hp → Prop) (K : Value → Hp → Prop) : l35_PartialretroOrder_b6 t66 a b kept keptL keptC s t64 t64L t64C t65 h nx0 K = (
  cond (decide (t66 < t65))
  ((0 ≤ t66 ∧ t66 < (t64L : Int)) ∧
  NN t64 fun a6 =>
  ∃ n13 : Int, ∃ n14 : Int, ∃ n15 : Int, ∃ n16 : Int, ∃ (a7 : Option Addr) (L3 C3 : Nat), cell h (a6.add (Int.toNat t66 * 5)) = some (.int .i64 n13) ∧
  cell h ((a6.add (Int.toNat t66 * 5)).add 1) = some (.int .i64 n14) ∧
  cell h ((a6.add (Int.toNat t66 * 5)).add 2) = some (.int .i64 n15) ∧
  cell h ((a6.add (Int.toNat t66 * 5)).add 3) = some (.int .i64 n16) ∧
  cell h ((a6.add (Int.toNat t66 * 5)).add 4) = some (.slice a7 L3 C3) ∧
  New h (.cells #[.int .i64 0, .int .i64 0, .int .i64 0, .int .i64 0, .slice none 0 0] 27) fun b4 h24 =>
  Wr h24 ⟨b4, 0, none⟩ (.int .i64 n13) fun h25 =>
  Wr h25 ((⟨b4, 0, none⟩ : Addr).add 1) (.int .i64 n14) fun h26 =>
  Wr h26 ((⟨b4, 0, none⟩ : Addr).add 2) (.int .i64 n15) fun h27 =>
  Wr h27 ((⟨b4, 0, none⟩ : Addr).add 3) (.int .i64 n16) fun h28 =>
  Wr h28 ((⟨b4, 0, none⟩ : Addr).add 4) (.slice a7 L3 C3) fun h29 =>
  New h29 (.cells #[.int .i64 0, .slice none 0 0] 25) fun b5 h30 =>
  Wr h30 ⟨b5, 0, none⟩ (.int .i64 3) fun h31 =>
  Wr h31 ((⟨b5, 0, none⟩ : Addr).add 1) (.slice none 0 0) fun h32 =>
  ∃ n17 : Int, cell h32 ⟨b4, 0, none⟩ = some (.int .i64 n17) ∧
  cond (decide (n17 = 0))
  (∃ n18 : Int, cell h32 ((⟨b4, 0, none⟩ : Addr).add 2) = some (.int .i64 n18) ∧
  New h32 (.cells #[.int .i64 n18] 3) fun b6 h33 =>
  Wr h33 ⟨b5, 0, none⟩ (.int .i64 1) fun h34 =>
  Wr h34 ((⟨b5, 0, none⟩ : Addr).add 1) (.slice (some ⟨b6, 0, none⟩) 1 1) fun h35 =>
  ∃ n19 : Int, cell h35 ((⟨b4, 0, none⟩ : Addr).add 1) = some (.int .i64 n19) ∧
  ∃ n20 : Int, cell h35 ((⟨b4, 0, none⟩ : Addr).add 2) = some (.int .i64 n20) ∧
  HCalls Tryz.prog 20 #[.pointer b, .int .i64 n19, .int .i64 n20] h35 fun v11 h36 => ∃ r12 : Int, v11 = .int .i64 r12 ∧
  l35_PartialretroOrder_b7 a b kept keptL keptC s r12 t66 (some ⟨b4, 0, none⟩) (some ⟨b5, 0, none⟩) t64 t64L t64C t65 t66 h36 nx0 K)
  (∃ n21 : Int, cell h32 ((⟨b4, 0, none⟩ : Addr).add 1) = some (.int .i64 n21) ∧
  HCalls Tryz.prog 25 #[.pointer b, .int .i64 n21] h32 fun v12 h37 => ∃ r13 : Int, v12 = .int .i64 r13 ∧
  l35_PartialretroOrder_b7 a b kept keptL keptC s r13 t66 (some ⟨b4, 0, none⟩) (some ⟨b5, 0, none⟩) t64 t64L t64C t65 t66 h37 nx0 K))
  (l35_PartialretroOrder_b8 a b s h  K)) := by kernel_rfl
theorem l35_PartialretroOrder_b7_eq (a : Option Addr) (b : Option Addr) (kept : Option Addr) (keptL : Nat) (keptC : Nat) (s : Option Addr) (e : Int) (i : Int) (x : Option Addr) (o : Option Addr) (t64 : Option Addr) (t64L : Nat) (t64C : Nat) (t65 : Int) (t66 : Int) (h : Hp) (nx0 : Int × Unit → Hp → Prop) (K : Value → Hp → Prop) : l35_PartialretroOrder_b7 a b kept keptL keptC s e i x o t64 t64L t64C t65 t66 h nx0 K = (
  NN s fun a8 =>
  ∃ n22 : Int, ∃ (a9 : Option Addr) (L4 C4 : Nat), cell h a8 = some (.int .i64 n22) ∧
  cell h (a8.add 1) = some (.slice a9 L4 C4) ∧
  NN o fun a10 =>
  ∃ n23 : Int, ∃ (a11 : Option Addr) (L5 C5 : Nat), cell h a10 = some (.int .i64 n23) ∧
  cell h (a10.add 1) = some (.slice a11 L5 C5) ∧
  HCalls Tryz.prog 53 #[.agg #[.int .i64 n22, .slice a9 L4 C4], .agg #[.int .i64 n23, .slice a11 L5 C5]] h fun v13 h38 => ∃ r14 : Int, ∃ (r15 : Option Addr) (rL2 rC2 : Nat), ∃ r16 : Int, ∃ r17 : Int, ∃ (r18 : Option Addr) (rL3 rC3 : Nat), ∃ r19 : Int, v13 = .tuple #[.agg #[.int .i64 r14, .slice r15 rL2 rC2], .agg #[.int .i64 r16, .int .i64 r17, .slice r18 rL3 rC3], .int .i64 r19] ∧
  New h38 (.cells #[.int .i64 0, .slice none 0 0] 66) fun b7 h39 =>
  New h39 (.cells #[.int .i64 0, .int .i64 0, .slice none 0 0] 61) fun b8 h40 =>
  Wr h40 ⟨b7, 0, none⟩ (.int .i64 r14) fun h41 =>
  Wr h41 ((⟨b7, 0, none⟩ : Addr).add 1) (.slice r15 rL2 rC2) fun h42 =>
  Wr h42 ⟨b8, 0, none⟩ (.int .i64 r16) fun h43 =>
  Wr h43 ((⟨b8, 0, none⟩ : Addr).add 1) (.int .i64 r17) fun h44 =>
  Wr h44 ((⟨b8, 0, none⟩ : Addr).add 2) (.slice r18 rL3 rC3) fun h45 =>
  cond (!decide (e = 0))
  (K (.bool false) h45)
  (cond (!decide (r19 = 0))
  (K (.bool false) h45)
  (∃ n24 : Int, cell h45 ⟨b8, 0, none⟩ = some (.int .i64 n24) ∧
  cond (!decide (n24 = 0))
  (K (.bool false) h45)
  (cond (decide ((0 : Int) < i))
  (InR (i - 1) ∧
  (0 ≤ i - 1 ∧ i - 1 < (keptL : Int)) ∧
  NN kept fun a12 =>
  ∃ n25 : Int, cell h45 ((a12.add (Int.toNat (i - 1) * 5)).add 1) = some (.int .i64 n25) ∧
  NN x fun a13 =>
  ∃ n26 : Int, cell h45 (a13.add 1) = some (.int .i64 n26) ∧
  cond (decide (n25 = n26))
  (K (.bool false) h45)
  (l35_PartialretroOrder_b9 a b kept keptL keptC s (some ⟨b7, 0, none⟩) t64 t64L t64C t65 t66 h45 nx0 K))
  (l35_PartialretroOrder_b9 a b kept keptL keptC s (some ⟨b7, 0, none⟩) t64 t64L t64C t65 t66 h45 nx0 K))))) := by kernel_rfl
theorem l35_PartialretroOrder_b8_eq (a : Option Addr) (b : Option Addr) (s : Option Addr) (h : Hp)  (K : Value → Hp → Prop) : l35_PartialretroOrder_b8 a b s h  K = (
  NN s fun a14 =>
  ∃ (a15 : Option Addr) (L6 C6 : Nat), cell h (a14.add 1) = some (.slice a15 L6 C6) ∧
  LoopVC (((none, 0, 0), 0, ()) : (Option Addr × Nat × Nat) × Int × Unit) h (fun (nx0 : (Option Addr × Nat × Nat) × Int × Unit → Hp → Prop) (s3 : (Option Addr × Nat × Nat) × Int × Unit) h46 => l35_PartialretroOrder_b10 s3.1.1 s3.1.2.1 s3.1.2.2 s3.2.1 a b a15 L6 C6 (L6 : Int) h46 nx0 K)) := by kernel_rfl
theorem l35_PartialretroOrder_b9_eq (a : Option Addr) (b : Option Addr) (kept : Option Addr) (keptL : Nat) (keptC : Nat) (s : Option Addr) (t : Option Addr) (t64 : Option Addr) (t64L : Nat) (t64C : Nat) (t65 : Int) (t66 : Int) (h : Hp) (nx0 : Int × Unit → Hp → Prop) (K : Value → Hp → Prop) : l35_PartialretroOrder_b9 a b kept keptL keptC s t t64 t64L t64C t65 t66 h nx0 K = (
  NN t fun a16 =>
  ∃ n27 : Int, ∃ (a17 : Option Addr) (L7 C7 : Nat), cell h a16 = some (.int .i64 n27) ∧
  cell h (a16.add 1) = some (.slice a17 L7 C7) ∧
  NN s fun a18 =>
  Wr h a18 (.int .i64 n27) fun h47 =>
  Wr h47 (a18.add 1) (.slice a17 L7 C7) fun h48 =>
  l35_PartialretroOrder_b11 a b kept keptL keptC s t64 t64L t64C t65 t66 h48 nx0 K) := by kernel_rfl
theorem l35_PartialretroOrder_b10_eq (keys : Option Addr) (keysL : Nat) (keysC : Nat) (t127 : Int) (a : Option Addr) (b : Option Addr) (t125 : Option Addr) (t125L : Nat) (t125C : Nat) (t126 : Int) (h : Hp) (nx0 : (Option Addr × Nat × Nat) × Int × Unit → Hp → Prop) (K : Value → Hp → Prop) : l35_PartialretroOrder_b10 keys keysL keysC t127 a b t125 t125L t125C t126 h nx0 K = (
  cond (decide (t127 < t126))
  ((0 ≤ t127 ∧ t127 < (t125L : Int)) ∧
  NN t125 fun a19 =>
  ∃ (a20 : Option Addr) (L8 C8 : Nat), cell h (a19.add (Int.toNat t127 * 1)) = some (.slice a20 L8 C8) ∧
  appendV Tryz.prog 23 23 (.slice keys keysL keysC) (.slice a20 L8 C8) h (slK fun a21 l2 c2 h49 =>
  l35_PartialretroOrder_b12 a b a21 l2 c2 t125 t125L t125C t126 t127 h49 nx0 K))
  (l35_PartialretroOrder_b13 a b keys keysL keysC h  K)) := by kernel_rfl
theorem l35_PartialretroOrder_b11_eq (a : Option Addr) (b : Option Addr) (kept : Option Addr) (keptL : Nat) (keptC : Nat) (s : Option Addr) (t64 : Option Addr) (t64L : Nat) (t64C : Nat) (t65 : Int) (t66 : Int) (h : Hp) (nx0 : Int × Unit → Hp → Prop) (K : Value → Hp → Prop) : l35_PartialretroOrder_b11 a b kept keptL keptC s t64 t64L t64C t65 t66 h nx0 K = (
  InR (t66 + 1) ∧
  nx0 (t66 + 1, ()) h) := by kernel_rfl
theorem l35_PartialretroOrder_b12_eq (a : Option Addr) (b : Option Addr) (keys : Option Addr) (keysL : Nat) (keysC : Nat) (t125 : Option Addr) (t125L : Nat) (t125C : Nat) (t126 : Int) (t127 : Int) (h : Hp) (nx0 : (Option Addr × Nat × Nat) × Int × Unit → Hp → Prop) (K : Value → Hp → Prop) : l35_PartialretroOrder_b12 a b keys keysL keysC t125 t125L t125C t126 t127 h nx0 K = (
  InR (t127 + 1) ∧
  nx0 ((keys, keysL, keysC), t127 + 1, ()) h) := by kernel_rfl
theorem l35_PartialretroOrder_b13_eq (a : Option Addr) (b : Option Addr) (keys : Option Addr) (keysL : Nat) (keysC : Nat) (h : Hp)  (K : Value → Hp → Prop) : l35_PartialretroOrder_b13 a b keys keysL keysC h  K = (
  HCalls Tryz.prog 16 #[.pointer a] h fun v14 h50 => ∃ (r20 : Option Addr) (rL4 rC4 : Nat), v14 = .slice r20 rL4 rC4 ∧
  HCalls Tryz.prog 22 #[.slice r20 rL4 rC4, .slice keys keysL keysC] h50 fun v15 h51 => ∃ r21 : Bool, v15 = .bool r21 ∧
  cond r21
  (HCalls Tryz.prog 16 #[.pointer b] h51 fun v16 h52 => ∃ (r22 : Option Addr) (rL5 rC5 : Nat), v16 = .slice r22 rL5 rC5 ∧
  HCalls Tryz.prog 22 #[.slice r22 rL5 rC5, .slice keys keysL keysC] h52 fun v17 h53 => ∃ r23 : Bool, v17 = .bool r23 ∧
  cond r23
  (HCalls Tryz.prog 17 #[.pointer a] h53 fun v18 h54 => ∃ (r24 : Option Addr) (rL6 rC6 : Nat), v18 = .slice r24 rL6 rC6 ∧
  HCalls Tryz.prog 17 #[.pointer b] h54 fun v19 h55 => ∃ (r25 : Option Addr) (rL7 rC7 : Nat), v19 = .slice r25 rL7 rC7 ∧
  HCalls Tryz.prog 22 #[.slice r24 rL6 rC6, .slice r25 rL7 rC7] h55 fun v20 h56 => ∃ r26 : Bool, v20 = .bool r26 ∧
  cond r26
  (HCalls Tryz.prog 27 #[.pointer a] h56 fun v21 h57 => ∃ (r27 : Option Addr) (rL8 rC8 : Nat), v21 = .slice r27 rL8 rC8 ∧
  HCalls Tryz.prog 27 #[.pointer b] h57 fun v22 h58 => ∃ (r28 : Option Addr) (rL9 rC9 : Nat), v22 = .slice r28 rL9 rC9 ∧
  HCalls Tryz.prog 22 #[.slice r27 rL8 rC8, .slice r28 rL9 rC9] h58 fun v23 h59 => ∃ r29 : Bool, v23 = .bool r29 ∧
  K (.bool r29) h59)
  (K (.bool false) h56))
  (K (.bool false) h53))
  (K (.bool false) h51)) := by kernel_rfl
theorem l35_PartialretroOrder_call {l : Option Addr} {lL : Nat} {lC : Nat} {h : Hp} {K : Value → Hp → Prop} (hk : l35_PartialretroOrder_b0 l lL lC h K) : HCalls Tryz.prog 8 #[.slice l lL lC] h K :=
  calls_of_snd l35_PartialretroOrder_an Tryz.func8 (c := bodyOf Tryz.f8) rfl Tryz.ntmps8 (Nat.le_of_ble_eq_true rfl) (snd_6 F_ok F_mixed) hk

/-! ### l35_awake -/
def l35_awake_an : Ann := .node none (.leaf) (.node none (.leaf) (.node (some [1]) (.leaf) (.node (some [1]) (.leaf) (.leaf))))
def l35_awake_K0  (K : Value → Hp → Prop) : Exit → Env → Hp → Prop := retK Tryz.prog Tryz.f9.results.toList K
def l35_awake_b0  (h : Hp)  (K : Value → Hp → Prop) : Prop :=
  sx_3 Tryz.prog F 79 (cp [] (bodyOf Tryz.f9)) (ap [] l35_awake_an) [] h (l35_awake_K0  K)
def l35_awake_b1 (q : Option Addr) (h : Hp)  (K : Value → Hp → Prop) : Prop :=
  sx_2 Tryz.prog F 79 (cp [1, 1, 1] (bodyOf Tryz.f9)) (ap [1, 1, 1] l35_awake_an) [(1, .pointer q)] h (l35_awake_K0  K)
def l35_awake_b2 (q : Option Addr) (h : Hp)  (K : Value → Hp → Prop) : Prop :=
  sx_1 Tryz.prog F 79 (cp [1, 1, 1, 1] (bodyOf Tryz.f9)) (ap [1, 1, 1, 1] l35_awake_an) [(1, .pointer q)] h (l35_awake_K0  K)
theorem l35_awake_b0_eq  (h : Hp)  (K : Value → Hp → Prop) : l35_awake_b0  h  K = (
  HCalls Tryz.prog 13 #[] h fun v1 h1 => ∃ r1 : Option Addr, v1 = .pointer r1 ∧
  cond r1.isNone
  (K (.bool false) h1)
  (HCalls Tryz.prog 20 #[.pointer r1, .int .i64 1, .int .i64 5] h1 fun v2 h2 => ∃ r2 : Int, v2 = .int .i64 r2 ∧
  cond (!decide (r2 = 0))
  (K (.bool false) h2)
  (HCalls Tryz.prog 20 #[.pointer r1, .int .i64 2, .int .i64 3] h2 fun v3 h3 => ∃ r3 : Int, v3 = .int .i64 r3 ∧
  cond (!decide (r3 = 0))
  (K (.bool false) h3)
  (HCalls Tryz.prog 20 #[.pointer r1, .int .i64 4, .int .i64 8] h3 fun v4 h4 => ∃ r4 : Int, v4 = .int .i64 r4 ∧
  cond (!decide (r4 = 0))
  (K (.bool false) h4)
  (HCalls Tryz.prog 25 #[.pointer r1, .int .i64 3] h4 fun v5 h5 => ∃ r5 : Int, v5 = .int .i64 r5 ∧
  cond (!decide (r5 = 0))
  (K (.bool false) h5)
  (HCalls Tryz.prog 25 #[.pointer r1, .int .i64 6] h5 fun v6 h6 => ∃ r6 : Int, v6 = .int .i64 r6 ∧
  cond (!decide (r6 = 0))
  (K (.bool false) h6)
  (l35_awake_b1 r1 h6  K))))))) := by kernel_rfl
theorem l35_awake_b1_eq (q : Option Addr) (h : Hp)  (K : Value → Hp → Prop) : l35_awake_b1 q h  K = (
  HCalls Tryz.prog 16 #[.pointer q] h fun v7 h7 => ∃ (r7 : Option Addr) (rL1 rC1 : Nat), v7 = .slice r7 rL1 rC1 ∧
  New h7 (.cells #[.int .i64 8] 3) fun b1 h8 =>
  HCalls Tryz.prog 22 #[.slice r7 rL1 rC1, .slice (some ⟨b1, 0, none⟩) 1 1] h8 fun v8 h9 => ∃ r8 : Bool, v8 = .bool r8 ∧
  cond (!r8)
  (K (.bool false) h9)
  (HCalls Tryz.prog 17 #[.pointer q] h9 fun v9 h10 => ∃ (r9 : Option Addr) (rL2 rC2 : Nat), v9 = .slice r9 rL2 rC2 ∧
  New h10 (.cells #[.int .i64 6] 3) fun b2 h11 =>
  HCalls Tryz.prog 22 #[.slice r9 rL2 rC2, .slice (some ⟨b2, 0, none⟩) 1 1] h11 fun v10 h12 => ∃ r10 : Bool, v10 = .bool r10 ∧
  cond (!r10)
  (K (.bool false) h12)
  (HCalls Tryz.prog 20 #[.pointer q, .int .i64 5, .int .i64 4] h12 fun v11 h13 => ∃ r11 : Int, v11 = .int .i64 r11 ∧
  cond (!decide (r11 = 0))
  (K (.bool false) h13)
  (l35_awake_b2 q h13  K)))) := by kernel_rfl
theorem l35_awake_b2_eq (q : Option Addr) (h : Hp)  (K : Value → Hp → Prop) : l35_awake_b2 q h  K = (
  HCalls Tryz.prog 34 #[.int .i64 1] h fun v12 h14 => ∃ r12 : Option Addr, ∃ r13 : Int, v12 = .tuple #[.pointer r12, .int .i64 r13] ∧
  HCalls Tryz.prog 16 #[.pointer q] h14 fun v13 h15 => ∃ (r14 : Option Addr) (rL3 rC3 : Nat), v13 = .slice r14 rL3 rC3 ∧
  New h15 (.cells #[.int .i64 5, .int .i64 8] 3) fun b3 h16 =>
  HCalls Tryz.prog 22 #[.slice r14 rL3 rC3, .slice (some ⟨b3, 0, none⟩) 2 2] h16 fun v14 h17 => ∃ r15 : Bool, v14 = .bool r15 ∧
  cond r15
  (cond (decide (r13 = 0))
  (cond (!r12.isNone)
  (New h17 (.cells #[.int .i64 1, .int .i64 2] 3) fun b4 h18 =>
  HCalls Tryz.prog 41 #[.pointer r12, .int .i64 3, .agg #[.int .i64 1, .slice (some ⟨b4, 0, none⟩) 2 2]] h18 fun v15 h19 => ∃ r16 : Int, v15 = .int .i64 r16 ∧
  cond (decide (r16 = 0))
  (New h19 (.cells #[.int .i64 1] 3) fun b5 h20 =>
  HCalls Tryz.prog 41 #[.pointer r12, .int .i64 2, .agg #[.int .i64 3, .slice (some ⟨b5, 0, none⟩) 1 1]] h20 fun v16 h21 => ∃ r17 : Int, v16 = .int .i64 r17 ∧
  K (.bool (decide (r17 = 13))) h21)
  (K (.bool false) h19))
  (K (.bool false) h17))
  (K (.bool false) h17))
  (K (.bool false) h17)) := by kernel_rfl
theorem l35_awake_call  {h : Hp} {K : Value → Hp → Prop} (hk : l35_awake_b0  h K) : HCalls Tryz.prog 9 #[] h K :=
  calls_of_snd l35_awake_an Tryz.func9 (c := bodyOf Tryz.f9) rfl Tryz.ntmps9 (Nat.le_of_ble_eq_true rfl) (snd_3 F_ok F_mixed) hk

/-! ### l35_few -/
def l35_few_an : Ann := .leaf
def l35_few_K0  (K : Value → Hp → Prop) : Exit → Env → Hp → Prop := retK Tryz.prog Tryz.f10.results.toList K
def l35_few_b0 (l : Option Addr) (lL : Nat) (lC : Nat) (h : Hp)  (K : Value → Hp → Prop) : Prop :=
  sx_1 Tryz.prog F 11 (cp [] (bodyOf Tryz.f10)) (ap [] l35_few_an) [(0, .slice l lL lC)] h (l35_few_K0  K)
theorem l35_few_b0_eq (l : Option Addr) (lL : Nat) (lC : Nat) (h : Hp)  (K : Value → Hp → Prop) : l35_few_b0 l lL lC h  K = (
  cond (decide ((lL : Int) ≤ 30))
  (HCalls Tryz.prog 54 #[.slice l lL lC, .func (.func 55) #[] #[]] h fun v1 h1 => ∃ r1 : Bool, v1 = .bool r1 ∧
  K (.bool (!r1)) h1)
  (K (.bool false) h)) := by kernel_rfl
theorem l35_few_call {l : Option Addr} {lL : Nat} {lC : Nat} {h : Hp} {K : Value → Hp → Prop} (hk : l35_few_b0 l lL lC h K) : HCalls Tryz.prog 10 #[.slice l lL lC] h K :=
  calls_of_snd l35_few_an Tryz.func10 (c := bodyOf Tryz.f10) rfl Tryz.ntmps10 (Nat.le_of_ble_eq_true rfl) (snd_1 F_ok F_mixed) hk

end Go.Proofs.YtdlkohenamlnaaaGreat
