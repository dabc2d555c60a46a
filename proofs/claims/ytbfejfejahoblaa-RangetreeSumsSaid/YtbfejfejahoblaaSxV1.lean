/- Plain statements of what each block of code of this seat asks; printed by a program, checked by Lean. -/
import Derived.Test.YtbfejfejahoblaaSxV0
set_option maxRecDepth 10000
namespace Go.Proofs.Ytbfejfejahoblaa
open Go Go.Sx

/-! ### l31_RangetreeEffort -/
/-! ### l31_RangetreeBack -/
/-! ### l31_RangetreeOrder -/
/-! ### l31_RangetreeNil -/
/-! ### l31_RangetreePlays -/
/-! ### l31_RangetreeSums -/
def l31_RangetreeSums_an : Ann := .node none (.leaf) (.node (some [0, 1, 2, 3, 4, 5]) (.leaf) (.node none (.leaf) (.node none (.leaf) (.node none (.leaf) (.node none (.leaf) (.node none (.leaf) (.node (some [13, 15, 16, 17]) (.node none (.leaf) (.loop [13, 15, 16, 17, 70, 71] [(72, .int .i64)] (.node none (.leaf) (.node none (.leaf) (.node (some [13, 15, 16, 17, 70, 71, 72]) (.node none (.leaf) (.node none (.plan (.qu 0 (.qu 1 (.qu 2 (.qu 3 (.qu 4 (.qu 5 (.qu 6 (.qu 7 (.qu 8 (.wo 9 (.qu 10 (.qu 11 (.qu 12 (.wo 13 (.wo 14 .fin .no) .no)))) .no))))))))))) (.node none (.plan (.qu 0 (.qu 1 (.qu 2 (.qu 3 (.qu 4 (.qu 5 (.qu 6 (.qu 7 (.qu 8 (.qu 9 (.wo 10 (.qu 11 (.qu 12 (.qu 13 (.wo 14 (.wo 15 .fin .no) .no)))) .no)))))))))))) (.node none (.plan (.qu 0 (.qu 1 (.qu 2 (.qu 3 (.qu 4 (.qu 5 (.qu 6 (.qu 7 (.qu 8 (.wo 9 (.qu 10 (.qu 11 (.qu 12 (.wo 13 (.wo 14 .fin .no) .no)))) .no))))))))))) (.node none (.plan (.qu 0 (.qu 1 (.qu 2 (.qu 3 (.qu 4 (.qu 5 (.qu 6 (.qu 7 (.qu 8 (.qu 9 (.wo 10 (.qu 11 (.qu 12 (.qu 13 (.wo 14 (.wo 15 .fin .no) .no)))) .no)))))))))))) (.leaf)))))) (.leaf)))))) (.leaf))))))))
def l31_RangetreeSums_K0  (K : Value → Hp → Prop) : Exit → Env → Hp → Prop := retK Try.prog Try.f8.results.toList K
def l31_RangetreeSums_K1  (K : Value → Hp → Prop) : Exit → Env → Hp → Prop := thenE (fun env h => sx_2 Try.prog F 203 (cp [1, 1, 1, 1, 1, 1, 1, 1] (bodyOf Try.f8)) (ap [1, 1, 1, 1, 1, 1, 1, 1] l31_RangetreeSums_an) (rs [13, 15, 16, 17] env) h (l31_RangetreeSums_K0  K)) (l31_RangetreeSums_K0  K)
def l31_RangetreeSums_K2  (K : Value → Hp → Prop) : Exit → Env → Hp → Prop := blockE 0 (l31_RangetreeSums_K1  K)
def l31_RangetreeSums_K3 (nx0 : Int × Unit → Hp → Prop) (K : Value → Hp → Prop) : Exit → Env → Hp → Prop := thenE (fun env h => getV [(72, .int .i64)] env fun s => nx0 s h) (l31_RangetreeSums_K2  K)
def l31_RangetreeSums_b0 (l : Option Addr) (lL : Nat) (lC : Nat) (a : Int) (b : Int) (c : Int) (d : Int) (e : Int) (h : Hp)  (K : Value → Hp → Prop) : Prop :=
  sx_4 Try.prog F 203 (cp [] (bodyOf Try.f8)) (ap [] l31_RangetreeSums_an) [(0, .slice l lL lC), (1, .int .i8 a), (2, .int .i8 b), (3, .int .i8 c), (4, .int .i8 d), (5, .int .i8 e)] h (l31_RangetreeSums_K0  K)
def l31_RangetreeSums_b1 (l : Option Addr) (lL : Nat) (lC : Nat) (a : Int) (b : Int) (c : Int) (d : Int) (e : Int) (h : Hp)  (K : Value → Hp → Prop) : Prop :=
  sx_3 Try.prog F 203 (cp [1, 1] (bodyOf Try.f8)) (ap [1, 1] l31_RangetreeSums_an) [(0, .slice l lL lC), (1, .int .i8 a), (2, .int .i8 b), (3, .int .i8 c), (4, .int .i8 d), (5, .int .i8 e)] h (l31_RangetreeSums_K0  K)
def l31_RangetreeSums_b2 (t72 : Int) (t : Option Addr) (x : Option Addr) (xL : Nat) (xC : Nat) (y1 : Int) (y2 : Int) (t70 : Option Addr) (t70L : Nat) (t70C : Nat) (t71 : Int) (h : Hp) (nx0 : Int × Unit → Hp → Prop) (K : Value → Hp → Prop) : Prop :=
  sx_2 Try.prog F 203 (cp [1, 1, 1, 1, 1, 1, 1, 0, 1, 2, 2] (bodyOf Try.f8)) (ap [1, 1, 1, 1, 1, 1, 1, 0, 1, 2] l31_RangetreeSums_an) [(72, .int .i64 t72), (13, .pointer t), (15, .slice x xL xC), (16, .int .i64 y1), (17, .int .i64 y2), (70, .slice t70 t70L t70C), (71, .int .i64 t71)] h (l31_RangetreeSums_K3 nx0 K)
def l31_RangetreeSums_b3 (t : Option Addr) (x : Option Addr) (xL : Nat) (xC : Nat) (y1 : Int) (y2 : Int) (t70 : Option Addr) (t70L : Nat) (t70C : Nat) (t71 : Int) (t72 : Int) (h : Hp) (nx0 : Int × Unit → Hp → Prop) (K : Value → Hp → Prop) : Prop :=
  sx_1 Try.prog F 203 (cp [1, 1, 1, 1, 1, 1, 1, 0, 1, 2, 2, 1, 1, 1] (bodyOf Try.f8)) (ap [1, 1, 1, 1, 1, 1, 1, 0, 1, 2, 1, 1, 1] l31_RangetreeSums_an) [(13, .pointer t), (15, .slice x xL xC), (16, .int .i64 y1), (17, .int .i64 y2), (70, .slice t70 t70L t70C), (71, .int .i64 t71), (72, .int .i64 t72)] h (l31_RangetreeSums_K3 nx0 K)
def l31_RangetreeSums_b4 (t : Option Addr) (x : Option Addr) (xL : Nat) (xC : Nat) (y1 : Int) (y2 : Int) (h : Hp)  (K : Value → Hp → Prop) : Prop :=
  sx_2 Try.prog F 203 (cp [1, 1, 1, 1, 1, 1, 1, 1] (bodyOf Try.f8)) (ap [1, 1, 1, 1, 1, 1, 1, 1] l31_RangetreeSums_an) [(13, .pointer t), (15, .slice x xL xC), (16, .int .i64 y1), (17, .int .i64 y2)] h (l31_RangetreeSums_K0  K)
theorem l31_RangetreeSums_b0_eq (l : Option Addr) (lL : Nat) (lC : Nat) (a : Int) (b : Int) (c : Int) (d : Int) (e : Int) (h : Hp)  (K : Value → Hp → Prop) : l31_RangetreeSums_b0 l lL lC a b c d e h  K = (
  HCalls Try.prog 9 #[] h fun v1 h1 => ∃ r1 : Bool, v1 = .bool r1 ∧
  cond (!r1)
  (HCalls Try.prog 9 #[] h1 fun v2 h2 => ∃ r2 : Bool, v2 = .bool r2 ∧
  K (.bool r2) h2)
  (cond (decide ((150 : Int) < (lL : Int)))
  (HCalls Try.prog 9 #[] h1 fun v3 h3 => ∃ r3 : Bool, v3 = .bool r3 ∧
  K (.bool r3) h3)
  (l31_RangetreeSums_b1 l lL lC a b c d e h1  K))) := by kernel_rfl
theorem l31_RangetreeSums_b1_eq (l : Option Addr) (lL : Nat) (lC : Nat) (a : Int) (b : Int) (c : Int) (d : Int) (e : Int) (h : Hp)  (K : Value → Hp → Prop) : l31_RangetreeSums_b1 l lL lC a b c d e h  K = (
  HCalls Try.prog 10 #[.slice l lL lC] h fun v4 h4 => ∃ r4 : Option Addr, ∃ r5 : Int, v4 = .tuple #[.pointer r4, .int .i64 r5] ∧
  cond (!decide (r5 = 0))
  (K (.bool r4.isNone) h4)
  (InR a ∧
  InR b ∧
  InR c ∧
  New h4 (.cells #[.int .i64 a, .int .i64 b, .int .i64 c] 3) fun b1 h5 =>
  HCalls Try.prog 25 #[.slice (some ⟨b1, 0, none⟩) 3 3] h5 fun v5 h6 => v5 = .tuple #[] ∧
  InR (if e < d then e else d) ∧
  InR (if d < e then e else d) ∧
  New h6 (.cells #[.func (.func 16) #[.pointer r4] #[], .func (.func 20) #[.pointer r4] #[]] 39) fun b2 h7 =>
  LoopVC ((0, ()) : Int × Unit) h7 (fun (nx0 : Int × Unit → Hp → Prop) (s1 : Int × Unit) h8 => l31_RangetreeSums_b2 s1.1 r4 (some ⟨b1, 0, none⟩) 3 3 (if e < d then e else d) (if d < e then e else d) (some ⟨b2, 0, none⟩) 2 2 ((2 : Nat) : Int) h8 nx0 K))) := by kernel_rfl
theorem l31_RangetreeSums_b2_eq (t72 : Int) (t : Option Addr) (x : Option Addr) (xL : Nat) (xC : Nat) (y1 : Int) (y2 : Int) (t70 : Option Addr) (t70L : Nat) (t70C : Nat) (t71 : Int) (h : Hp) (nx0 : Int × Unit → Hp → Prop) (K : Value → Hp → Prop) : l31_RangetreeSums_b2 t72 t x xL xC y1 y2 t70 t70L t70C t71 h nx0 K = (
  cond (decide (t72 < t71))
  ((0 ≤ t72 ∧ t72 < (t70L : Int)) ∧
  NN t70 fun a1 =>
  ∃ v6 : Value, cell h (a1.add (Int.toNat t72 * 1)) = some (v6) ∧
  (0 ≤ (0 : Int) ∧ (0 : Int) < (xL : Int)) ∧
  NN x fun a2 =>
  ∃ n1 : Int, cell h (a2.add (Int.toNat (0 : Int) * 1)) = some (.int .i64 n1) ∧
  (0 ≤ (1 : Int) ∧ (1 : Int) < (xL : Int)) ∧
  NN x fun a3 =>
  ∃ n2 : Int, cell h (a3.add (Int.toNat (1 : Int) * 1)) = some (.int .i64 n2) ∧
  funV v6 fun fg1 fa1 fc1 => callX Try.prog F fg1 (fa1 ++ (([.int .i64 n1, .int .i64 n2, .int .i64 y1, .int .i64 y2] : List Value) ++ fc1)).toArray h fun v7 h9 => ∃ r6 : Int, ∃ r7 : Int, v7 = .tuple #[.int .i64 r6, .int .i64 r7] ∧
  (0 ≤ (1 : Int) ∧ (1 : Int) < (xL : Int)) ∧
  NN x fun a4 =>
  ∃ n3 : Int, cell h9 (a4.add (Int.toNat (1 : Int) * 1)) = some (.int .i64 n3) ∧
  InR (n3 + 1) ∧
  (0 ≤ (2 : Int) ∧ (2 : Int) < (xL : Int)) ∧
  NN x fun a5 =>
  ∃ n4 : Int, cell h9 (a5.add (Int.toNat (2 : Int) * 1)) = some (.int .i64 n4) ∧
  funV v6 fun fg2 fa2 fc2 => callX Try.prog F fg2 (fa2 ++ (([.int .i64 (n3 + 1), .int .i64 n4, .int .i64 y1, .int .i64 y2] : List Value) ++ fc2)).toArray h9 fun v8 h10 => ∃ r8 : Int, ∃ r9 : Int, v8 = .tuple #[.int .i64 r8, .int .i64 r9] ∧
  (0 ≤ (0 : Int) ∧ (0 : Int) < (xL : Int)) ∧
  NN x fun a6 =>
  ∃ n5 : Int, cell h10 (a6.add (Int.toNat (0 : Int) * 1)) = some (.int .i64 n5) ∧
  (0 ≤ (2 : Int) ∧ (2 : Int) < (xL : Int)) ∧
  NN x fun a7 =>
  ∃ n6 : Int, cell h10 (a7.add (Int.toNat (2 : Int) * 1)) = some (.int .i64 n6) ∧
  funV v6 fun fg3 fa3 fc3 => callX Try.prog F fg3 (fa3 ++ (([.int .i64 n5, .int .i64 n6, .int .i64 y1, .int .i64 y2] : List Value) ++ fc3)).toArray h10 fun v9 h11 => ∃ r10 : Int, ∃ r11 : Int, v9 = .tuple #[.int .i64 r10, .int .i64 r11] ∧
  (0 ≤ (0 : Int) ∧ (0 : Int) < (xL : Int)) ∧
  NN x fun a8 =>
  ∃ n7 : Int, cell h11 (a8.add (Int.toNat (0 : Int) * 1)) = some (.int .i64 n7) ∧
  (0 ≤ (2 : Int) ∧ (2 : Int) < (xL : Int)) ∧
  NN x fun a9 =>
  ∃ n8 : Int, cell h11 (a9.add (Int.toNat (2 : Int) * 1)) = some (.int .i64 n8) ∧
  InR (y1 - 1) ∧
  funV v6 fun fg4 fa4 fc4 => callX Try.prog F fg4 (fa4 ++ (([.int .i64 n7, .int .i64 n8, .int .i64 y2, .int .i64 (y1 - 1)] : List Value) ++ fc4)).toArray h11 fun v10 h12 => ∃ r12 : Int, ∃ r13 : Int, v10 = .tuple #[.int .i64 r12, .int .i64 r13] ∧
  cond (!decide (r7 = 0))
  (K (.bool false) h12)
  (cond (!decide (r9 = 0))
  (K (.bool false) h12)
  (cond (!decide (r11 = 0))
  (K (.bool false) h12)
  (cond (!decide (r13 = 0))
  (K (.bool false) h12)
  (InR (r6 + r8) ∧
  cond (!decide ((r6 + r8) = r10))
  (K (.bool false) h12)
  (cond (!decide (r12 = 0))
  (K (.bool false) h12)
  (l31_RangetreeSums_b3 t x xL xC y1 y2 t70 t70L t70C t71 t72 h12 nx0 K)))))))
  (l31_RangetreeSums_b4 t x xL xC y1 y2 h  K)) := by kernel_rfl
theorem l31_RangetreeSums_b3_eq (t : Option Addr) (x : Option Addr) (xL : Nat) (xC : Nat) (y1 : Int) (y2 : Int) (t70 : Option Addr) (t70L : Nat) (t70C : Nat) (t71 : Int) (t72 : Int) (h : Hp) (nx0 : Int × Unit → Hp → Prop) (K : Value → Hp → Prop) : l31_RangetreeSums_b3 t x xL xC y1 y2 t70 t70L t70C t71 t72 h nx0 K = (
  InR (t72 + 1) ∧
  nx0 (t72 + 1, ()) h) := by kernel_rfl
theorem l31_RangetreeSums_b4_eq (t : Option Addr) (x : Option Addr) (xL : Nat) (xC : Nat) (y1 : Int) (y2 : Int) (h : Hp)  (K : Value → Hp → Prop) : l31_RangetreeSums_b4 t x xL xC y1 y2 h  K = (
  (0 ≤ (0 : Int) ∧ (0 : Int) < (xL : Int)) ∧
  NN x fun a10 =>
  ∃ n9 : Int, cell h (a10.add (Int.toNat (0 : Int) * 1)) = some (.int .i64 n9) ∧
  HCalls Try.prog 19 #[.pointer t, .int .i64 n9, .int .i64 1048576, .int .i64 y1, .int .i64 y2] h fun v11 h13 => ∃ (r14 : Option Addr) (rL1 rC1 : Nat), ∃ r15 : Int, v11 = .tuple #[.slice r14 rL1 rC1, .int .i64 r15] ∧
  (0 ≤ (0 : Int) ∧ (0 : Int) < (xL : Int)) ∧
  NN x fun a11 =>
  ∃ n10 : Int, cell h13 (a11.add (Int.toNat (0 : Int) * 1)) = some (.int .i64 n10) ∧
  HCalls Try.prog 22 #[.pointer t, .int .i64 n10, .int .i64 y1, .int .i64 y2] h13 fun v12 h14 => ∃ r16 : Int, ∃ r17 : Int, ∃ r18 : Int, ∃ r19 : Int, v12 = .tuple #[.agg #[.int .i64 r16, .int .i64 r17, .int .i64 r18], .int .i64 r19] ∧
  New h14 (.cells #[.int .i64 0, .int .i64 0, .int .i64 0] 33) fun b3 h15 =>
  Wr h15 ⟨b3, 0, none⟩ (.int .i64 r16) fun h16 =>
  Wr h16 ((⟨b3, 0, none⟩ : Addr).add 1) (.int .i64 r17) fun h17 =>
  Wr h17 ((⟨b3, 0, none⟩ : Addr).add 2) (.int .i64 r18) fun h18 =>
  cond (decide ((rL1 : Int) = 0))
  (cond (decide (r15 = 0))
  (∃ n11 : Int, ∃ n12 : Int, ∃ n13 : Int, cell h18 ⟨b3, 0, none⟩ = some (.int .i64 n11) ∧
  cell h18 ((⟨b3, 0, none⟩ : Addr).add 1) = some (.int .i64 n12) ∧
  cell h18 ((⟨b3, 0, none⟩ : Addr).add 2) = some (.int .i64 n13) ∧
  ∃ b4 : Bool, eqC Try.prog .eql 33 (.tmp 182) (.tmp 183) (.agg #[.int .i64 n11, .int .i64 n12, .int .i64 n13]) (.agg #[.int .i64 0, .int .i64 0, .int .i64 0]) h18 b4 ∧
  cond b4
  (K (.bool (decide (r19 = 12))) h18)
  (K (.bool false) h18))
  (K (.bool false) h18))
  (cond (decide (r15 = 0))
  (∃ n14 : Int, ∃ n15 : Int, ∃ n16 : Int, cell h18 ⟨b3, 0, none⟩ = some (.int .i64 n14) ∧
  cell h18 ((⟨b3, 0, none⟩ : Addr).add 1) = some (.int .i64 n15) ∧
  cell h18 ((⟨b3, 0, none⟩ : Addr).add 2) = some (.int .i64 n16) ∧
  (0 ≤ (0 : Int) ∧ (0 : Int) < (rL1 : Int)) ∧
  NN r14 fun a12 =>
  ∃ n17 : Int, ∃ n18 : Int, ∃ n19 : Int, cell h18 (a12.add (Int.toNat (0 : Int) * 3)) = some (.int .i64 n17) ∧
  cell h18 ((a12.add (Int.toNat (0 : Int) * 3)).add 1) = some (.int .i64 n18) ∧
  cell h18 ((a12.add (Int.toNat (0 : Int) * 3)).add 2) = some (.int .i64 n19) ∧
  ∃ b5 : Bool, eqC Try.prog .eql 33 (.tmp 193) (.tmp 196) (.agg #[.int .i64 n14, .int .i64 n15, .int .i64 n16]) (.agg #[.int .i64 n17, .int .i64 n18, .int .i64 n19]) h18 b5 ∧
  cond b5
  (K (.bool (decide (r19 = 0))) h18)
  (K (.bool false) h18))
  (K (.bool false) h18))) := by kernel_rfl
theorem l31_RangetreeSums_call {l : Option Addr} {lL : Nat} {lC : Nat} {a : Int} {b : Int} {c : Int} {d : Int} {e : Int} {h : Hp} {K : Value → Hp → Prop} (hk : l31_RangetreeSums_b0 l lL lC a b c d e h K) : HCalls Try.prog 8 #[.slice l lL lC, .int .i8 a, .int .i8 b, .int .i8 c, .int .i8 d, .int .i8 e] h K :=
  calls_of_snd l31_RangetreeSums_an Try.func8 (c := bodyOf Try.f8) rfl Try.ntmps8 (Nat.le_of_ble_eq_true rfl) (snd_4 F_ok F_mixed) hk

/-! ### l31_awake -/
def l31_awake_an : Ann := .node none (.leaf) (.node none (.leaf) (.node (some [1]) (.leaf) (.leaf)))
def l31_awake_K0  (K : Value → Hp → Prop) : Exit → Env → Hp → Prop := retK Try.prog Try.f9.results.toList K
def l31_awake_b0  (h : Hp)  (K : Value → Hp → Prop) : Prop :=
  sx_2 Try.prog F 66 (cp [] (bodyOf Try.f9)) (ap [] l31_awake_an) [] h (l31_awake_K0  K)
def l31_awake_b1 (t : Option Addr) (h : Hp)  (K : Value → Hp → Prop) : Prop :=
  sx_1 Try.prog F 66 (cp [1, 1, 1] (bodyOf Try.f9)) (ap [1, 1, 1] l31_awake_an) [(1, .pointer t)] h (l31_awake_K0  K)
theorem l31_awake_b0_eq  (h : Hp)  (K : Value → Hp → Prop) : l31_awake_b0  h  K = (
  New h (.cells #[.int .i64 3, .int .i64 7, .int .i64 (-1), .int .i64 1, .int .i64 5, .int .i64 2, .int .i64 3, .int .i64 1, .int .i64 4] 33) fun b1 h1 =>
  HCalls Try.prog 10 #[.slice (some ⟨b1, 0, none⟩) 3 3] h1 fun v1 h2 => ∃ r1 : Option Addr, ∃ r2 : Int, v1 = .tuple #[.pointer r1, .int .i64 r2] ∧
  cond (!decide (r2 = 0))
  (K (.bool false) h2)
  (cond r1.isNone
  (K (.bool false) h2)
  (l31_awake_b1 r1 h2  K))) := by kernel_rfl
theorem l31_awake_b1_eq (t : Option Addr) (h : Hp)  (K : Value → Hp → Prop) : l31_awake_b1 t h  K = (
  HCalls Try.prog 16 #[.pointer t, .int .i64 1, .int .i64 3, .int .i64 1, .int .i64 5] h fun v2 h3 => ∃ r3 : Int, ∃ r4 : Int, v2 = .tuple #[.int .i64 r3, .int .i64 r4] ∧
  HCalls Try.prog 20 #[.pointer t, .int .i64 0, .int .i64 9, .int .i64 0, .int .i64 9] h3 fun v3 h4 => ∃ r5 : Int, ∃ r6 : Int, v3 = .tuple #[.int .i64 r5, .int .i64 r6] ∧
  HCalls Try.prog 22 #[.pointer t, .int .i64 2, .int .i64 2, .int .i64 9] h4 fun v4 h5 => ∃ r7 : Int, ∃ r8 : Int, ∃ r9 : Int, ∃ r10 : Int, v4 = .tuple #[.agg #[.int .i64 r7, .int .i64 r8, .int .i64 r9], .int .i64 r10] ∧
  New h5 (.cells #[.int .i64 0, .int .i64 0, .int .i64 0] 33) fun b2 h6 =>
  Wr h6 ⟨b2, 0, none⟩ (.int .i64 r7) fun h7 =>
  Wr h7 ((⟨b2, 0, none⟩ : Addr).add 1) (.int .i64 r8) fun h8 =>
  Wr h8 ((⟨b2, 0, none⟩ : Addr).add 2) (.int .i64 r9) fun h9 =>
  HCalls Try.prog 17 #[.pointer t] h9 fun v5 h10 => ∃ r11 : Int, v5 = .int .i64 r11 ∧
  cond (decide (r11 = 3))
  (cond (decide (r3 = 2))
  (cond (decide (r4 = 0))
  (cond (decide (r5 = 5))
  (cond (decide (r6 = 0))
  (∃ n1 : Int, ∃ n2 : Int, ∃ n3 : Int, cell h10 ⟨b2, 0, none⟩ = some (.int .i64 n1) ∧
  cell h10 ((⟨b2, 0, none⟩ : Addr).add 1) = some (.int .i64 n2) ∧
  cell h10 ((⟨b2, 0, none⟩ : Addr).add 2) = some (.int .i64 n3) ∧
  ∃ b3 : Bool, eqC Try.prog .eql 33 (.tmp 58) (.tmp 59) (.agg #[.int .i64 n1, .int .i64 n2, .int .i64 n3]) (.agg #[.int .i64 3, .int .i64 7, .int .i64 (-1)]) h10 b3 ∧
  cond b3
  (K (.bool (decide (r10 = 0))) h10)
  (K (.bool false) h10))
  (K (.bool false) h10))
  (K (.bool false) h10))
  (K (.bool false) h10))
  (K (.bool false) h10))
  (K (.bool false) h10)) := by kernel_rfl
theorem l31_awake_call  {h : Hp} {K : Value → Hp → Prop} (hk : l31_awake_b0  h K) : HCalls Try.prog 9 #[] h K :=
  calls_of_snd l31_awake_an Try.func9 (c := bodyOf Try.f9) rfl Try.ntmps9 (Nat.le_of_ble_eq_true rfl) (snd_2 F_ok F_mixed) hk

/-! ### rangetree_Make -/
def rangetree_Make_an : Ann := .node none (.leaf) (.node none (.leaf) (.node none (.leaf) (.node (some [0, 4]) (.node none (.leaf) (.loop [0, 4, 12, 13] [(14, .int .i64)] (.node none (.leaf) (.node none (.leaf) (.node (some [0, 4, 12, 13, 14]) (.node none (.leaf) (.tail 11)) (.leaf)))))) (.node (some [4]) (.leaf) (.leaf)))))
def rangetree_Make_K0  (K : Value → Hp → Prop) : Exit → Env → Hp → Prop := retK Try.prog Try.f10.results.toList K
def rangetree_Make_K1  (K : Value → Hp → Prop) : Exit → Env → Hp → Prop := thenE (fun env h => sx_2 Try.prog F 46 (cp [1, 1, 1, 1] (bodyOf Try.f10)) (ap [1, 1, 1, 1] rangetree_Make_an) (rs [0, 4] env) h (rangetree_Make_K0  K)) (rangetree_Make_K0  K)
def rangetree_Make_K2  (K : Value → Hp → Prop) : Exit → Env → Hp → Prop := blockE 0 (rangetree_Make_K1  K)
def rangetree_Make_K3 (nx0 : Int × Unit → Hp → Prop) (K : Value → Hp → Prop) : Exit → Env → Hp → Prop := thenE (fun env h => getV [(14, .int .i64)] env fun s => nx0 s h) (rangetree_Make_K2  K)
def rangetree_Make_b0 (l : Option Addr) (lL : Nat) (lC : Nat) (h : Hp)  (K : Value → Hp → Prop) : Prop :=
  sx_3 Try.prog F 46 (cp [] (bodyOf Try.f10)) (ap [] rangetree_Make_an) [(0, .slice l lL lC)] h (rangetree_Make_K0  K)
def rangetree_Make_b1 (t14 : Int) (l : Option Addr) (lL : Nat) (lC : Nat) (t : Option Addr) (t12 : Option Addr) (t12L : Nat) (t12C : Nat) (t13 : Int) (h : Hp) (nx0 : Int × Unit → Hp → Prop) (K : Value → Hp → Prop) : Prop :=
  sx_2 Try.prog F 46 (cp [1, 1, 1, 0, 1, 2, 2] (bodyOf Try.f10)) (ap [1, 1, 1, 0, 1, 2] rangetree_Make_an) [(14, .int .i64 t14), (0, .slice l lL lC), (4, .pointer t), (12, .slice t12 t12L t12C), (13, .int .i64 t13)] h (rangetree_Make_K3 nx0 K)
def rangetree_Make_b2 (l : Option Addr) (lL : Nat) (lC : Nat) (t : Option Addr) (t12 : Option Addr) (t12L : Nat) (t12C : Nat) (t13 : Int) (t14 : Int) (h : Hp) (nx0 : Int × Unit → Hp → Prop) (K : Value → Hp → Prop) : Prop :=
  sx_1 Try.prog F 46 (cp [1, 1, 1, 0, 1, 2, 2, 1, 1, 1] (bodyOf Try.f10)) (ap [1, 1, 1, 0, 1, 2, 1, 1, 1] rangetree_Make_an) [(0, .slice l lL lC), (4, .pointer t), (12, .slice t12 t12L t12C), (13, .int .i64 t13), (14, .int .i64 t14)] h (rangetree_Make_K3 nx0 K)
def rangetree_Make_b3 (l : Option Addr) (lL : Nat) (lC : Nat) (t : Option Addr) (h : Hp)  (K : Value → Hp → Prop) : Prop :=
  sx_2 Try.prog F 46 (cp [1, 1, 1, 1] (bodyOf Try.f10)) (ap [1, 1, 1, 1] rangetree_Make_an) [(0, .slice l lL lC), (4, .pointer t)] h (rangetree_Make_K0  K)
def rangetree_Make_b4 (t : Option Addr) (h : Hp)  (K : Value → Hp → Prop) : Prop :=
  sx_1 Try.prog F 46 (cp [1, 1, 1, 1, 1] (bodyOf Try.f10)) (ap [1, 1, 1, 1, 1] rangetree_Make_an) [(4, .pointer t)] h (rangetree_Make_K0  K)
theorem rangetree_Make_b0_eq (l : Option Addr) (lL : Nat) (lC : Nat) (h : Hp)  (K : Value → Hp → Prop) : rangetree_Make_b0 l lL lC h  K = (
  HCalls Try.prog 26 #[.slice l lL lC, .func (.func 27) #[] #[]] h fun v1 h1 => ∃ r1 : Bool, v1 = .bool r1 ∧
  cond r1
  (K (.tuple #[.pointer none, .int .i64 1]) h1)
  (New h1 (.map #[] 0) fun b1 h2 =>
  New h2 (.cells #[.map (some b1), .slice none 0 0, .slice none 0 0, .int .i64 0, .int .i64 0] 68) fun b2 h3 =>
  LoopVC ((0, ()) : Int × Unit) h3 (fun (nx0 : Int × Unit → Hp → Prop) (s1 : Int × Unit) h4 => rangetree_Make_b1 s1.1 l lL lC (some ⟨b2, 0, none⟩) l lL lC (lL : Int) h4 nx0 K))) := by kernel_rfl
theorem rangetree_Make_b1_eq (t14 : Int) (l : Option Addr) (lL : Nat) (lC : Nat) (t : Option Addr) (t12 : Option Addr) (t12L : Nat) (t12C : Nat) (t13 : Int) (h : Hp) (nx0 : Int × Unit → Hp → Prop) (K : Value → Hp → Prop) : rangetree_Make_b1 t14 l lL lC t t12 t12L t12C t13 h nx0 K = (
  cond (decide (t14 < t13))
  ((0 ≤ t14 ∧ t14 < (t12L : Int)) ∧
  NN t12 fun a1 =>
  ∃ n1 : Int, ∃ n2 : Int, ∃ n3 : Int, cell h (a1.add (Int.toNat t14 * 3)) = some (.int .i64 n1) ∧
  cell h ((a1.add (Int.toNat t14 * 3)).add 1) = some (.int .i64 n2) ∧
  cell h ((a1.add (Int.toNat t14 * 3)).add 2) = some (.int .i64 n3) ∧
  New h (.cells #[.int .i64 0, .int .i64 0, .int .i64 0] 33) fun b3 h5 =>
  Wr h5 ⟨b3, 0, none⟩ (.int .i64 n1) fun h6 =>
  Wr h6 ((⟨b3, 0, none⟩ : Addr).add 1) (.int .i64 n2) fun h7 =>
  Wr h7 ((⟨b3, 0, none⟩ : Addr).add 2) (.int .i64 n3) fun h8 =>
  NN t fun a2 =>
  ∃ v2 : Value, cell h8 a2 = some (v2) ∧
  ∃ n4 : Int, cell h8 ⟨b3, 0, none⟩ = some (.int .i64 n4) ∧
  ∃ n5 : Int, cell h8 ((⟨b3, 0, none⟩ : Addr).add 1) = some (.int .i64 n5) ∧
  ∃ n6 : Int, cell h8 ((⟨b3, 0, none⟩ : Addr).add 2) = some (.int .i64 n6) ∧
  mapSetV Try.prog 65 v2 (.agg #[.int .i64 n4, .int .i64 n5]) (.int .i64 n6) h8 fun h9 =>
  rangetree_Make_b2 l lL lC t t12 t12L t12C t13 t14 h9 nx0 K)
  (rangetree_Make_b3 l lL lC t h  K)) := by kernel_rfl
theorem rangetree_Make_b2_eq (l : Option Addr) (lL : Nat) (lC : Nat) (t : Option Addr) (t12 : Option Addr) (t12L : Nat) (t12C : Nat) (t13 : Int) (t14 : Int) (h : Hp) (nx0 : Int × Unit → Hp → Prop) (K : Value → Hp → Prop) : rangetree_Make_b2 l lL lC t t12 t12L t12C t13 t14 h nx0 K = (
  InR (t14 + 1) ∧
  nx0 (t14 + 1, ()) h) := by kernel_rfl
theorem rangetree_Make_b3_eq (l : Option Addr) (lL : Nat) (lC : Nat) (t : Option Addr) (h : Hp)  (K : Value → Hp → Prop) : rangetree_Make_b3 l lL lC t h  K = (
  NN t fun a3 =>
  ∃ v3 : Value, cell h a3 = some (v3) ∧
  mapLenV v3 h fun n7 =>
  cond (decide (n7 < (lL : Int)))
  (K (.tuple #[.pointer none, .int .i64 10]) h)
  (cond (decide ((1000 : Int) < (lL : Int)))
  (K (.tuple #[.pointer none, .int .i64 4]) h)
  (rangetree_Make_b4 t h  K))) := by kernel_rfl
theorem rangetree_Make_b4_eq (t : Option Addr) (h : Hp)  (K : Value → Hp → Prop) : rangetree_Make_b4 t h  K = (
  HCalls Try.prog 29 #[.pointer t] h fun v4 h10 => v4 = .tuple #[] ∧
  K (.tuple #[.pointer t, .int .i64 0]) h10) := by kernel_rfl
theorem rangetree_Make_call {l : Option Addr} {lL : Nat} {lC : Nat} {h : Hp} {K : Value → Hp → Prop} (hk : rangetree_Make_b0 l lL lC h K) : HCalls Try.prog 10 #[.slice l lL lC] h K :=
  calls_of_snd rangetree_Make_an Try.func10 (c := bodyOf Try.f10) rfl Try.ntmps10 (Nat.le_of_ble_eq_true rfl) (snd_3 F_ok F_mixed) hk

/-! ### rangetree_Tree_Built -/
/-! ### r31_Bound -/
/-! ### rangetree_Tree_Remove -/
/-! ### rangetree_Tree_Add -/
/-! ### rangetree_Tree_List -/
def rangetree_Tree_List_an : Ann := .node none (.leaf) (.node none (.leaf) (.node none (.leaf) (.node (some [3]) (.node none (.leaf) (.loop [12] [(3, .slice)] (.leaf))) (.leaf))))
def rangetree_Tree_List_K0  (K : Value → Hp → Prop) : Exit → Env → Hp → Prop := retK Try.prog Try.f15.results.toList K
def rangetree_Tree_List_K1  (K : Value → Hp → Prop) : Exit → Env → Hp → Prop := thenE (fun env h => sx_1 Try.prog F 30 (cp [1, 1, 1, 1] (bodyOf Try.f15)) (ap [1, 1, 1, 1] rangetree_Tree_List_an) (rs [3] env) h (rangetree_Tree_List_K0  K)) (rangetree_Tree_List_K0  K)
def rangetree_Tree_List_K2  (K : Value → Hp → Prop) : Exit → Env → Hp → Prop := blockE 0 (rangetree_Tree_List_K1  K)
def rangetree_Tree_List_K3 (nx0 : (Option Addr × Nat × Nat) × Unit → Hp → Prop) (K : Value → Hp → Prop) : Exit → Env → Hp → Prop := thenE (fun env h => getV [(3, .slice)] env fun s => nx0 s h) (rangetree_Tree_List_K2  K)
def rangetree_Tree_List_b0 (t : Option Addr) (h : Hp)  (K : Value → Hp → Prop) : Prop :=
  sx_2 Try.prog F 30 (cp [] (bodyOf Try.f15)) (ap [] rangetree_Tree_List_an) [(0, .pointer t)] h (rangetree_Tree_List_K0  K)
def rangetree_Tree_List_b1 (out : Option Addr) (outL : Nat) (outC : Nat) (t12 : Value) (h : Hp) (nx0 : (Option Addr × Nat × Nat) × Unit → Hp → Prop) (K : Value → Hp → Prop) : Prop :=
  sx_1 Try.prog F 30 (cp [1, 1, 1, 0, 1, 2, 2] (bodyOf Try.f15)) (ap [1, 1, 1, 0, 1, 2] rangetree_Tree_List_an) [(3, .slice out outL outC), (12, t12)] h (rangetree_Tree_List_K3 nx0 K)
def rangetree_Tree_List_b2 (out : Option Addr) (outL : Nat) (outC : Nat) (h : Hp)  (K : Value → Hp → Prop) : Prop :=
  sx_1 Try.prog F 30 (cp [1, 1, 1, 1] (bodyOf Try.f15)) (ap [1, 1, 1, 1] rangetree_Tree_List_an) [(3, .slice out outL outC)] h (rangetree_Tree_List_K0  K)
theorem rangetree_Tree_List_b0_eq (t : Option Addr) (h : Hp)  (K : Value → Hp → Prop) : rangetree_Tree_List_b0 t h  K = (
  cond t.isNone
  (K (.slice none 0 0) h)
  (NN t fun a1 =>
  ∃ v1 : Value, cell h a1 = some (v1) ∧
  rangeV Try.prog 65 v1 h fun it1 h1 =>
  LoopVC (((none, 0, 0), ()) : (Option Addr × Nat × Nat) × Unit) h1 (fun (nx0 : (Option Addr × Nat × Nat) × Unit → Hp → Prop) (s1 : (Option Addr × Nat × Nat) × Unit) h2 => rangetree_Tree_List_b1 s1.1.1 s1.1.2.1 s1.1.2.2 (.pointer (some ⟨it1, 0, none⟩)) h2 nx0 K))) := by kernel_rfl
theorem rangetree_Tree_List_b1_eq (out : Option Addr) (outL : Nat) (outC : Nat) (t12 : Value) (h : Hp) (nx0 : (Option Addr × Nat × Nat) × Unit → Hp → Prop) (K : Value → Hp → Prop) : rangetree_Tree_List_b1 out outL outC t12 h nx0 K = (
  nextV Try.prog t12 false h (fun h3 =>
  rangetree_Tree_List_b2 out outL outC h3  K) fun x1 y1 h4 =>
  entryV Try.prog t12 h4 fun v2 => ∃ k1 : Int, ∃ k2 : Int, ∃ e1 : Int, v2 = .tuple #[.agg #[.int .i64 k1, .int .i64 k2], .int .i64 e1] ∧
  New h4 (.cells #[.int .i64 0, .int .i64 0] 70) fun b1 h5 =>
  Wr h5 ⟨b1, 0, none⟩ (.int .i64 k1) fun h6 =>
  Wr h6 ((⟨b1, 0, none⟩ : Addr).add 1) (.int .i64 k2) fun h7 =>
  ∃ n1 : Int, cell h7 ⟨b1, 0, none⟩ = some (.int .i64 n1) ∧
  ∃ n2 : Int, cell h7 ((⟨b1, 0, none⟩ : Addr).add 1) = some (.int .i64 n2) ∧
  New h7 (.cells #[.int .i64 n1, .int .i64 n2, .int .i64 e1] 33) fun b2 h8 =>
  appendV Try.prog 22 22 (.slice out outL outC) (.slice (some ⟨b2, 0, none⟩) 1 1) h8 (slK fun a2 l1 c1 h9 =>
  nx0 ((a2, l1, c1), ()) h9)) := by kernel_rfl
theorem rangetree_Tree_List_b2_eq (out : Option Addr) (outL : Nat) (outC : Nat) (h : Hp)  (K : Value → Hp → Prop) : rangetree_Tree_List_b2 out outL outC h  K = (
  HCalls Try.prog 31 #[.slice out outL outC, .func (.func 32) #[] #[]] h fun v3 h10 => v3 = .tuple #[] ∧
  K (.slice out outL outC) h10) := by kernel_rfl
theorem rangetree_Tree_List_call {t : Option Addr} {h : Hp} {K : Value → Hp → Prop} (hk : rangetree_Tree_List_b0 t h K) : HCalls Try.prog 15 #[.pointer t] h K :=
  calls_of_snd rangetree_Tree_List_an Try.func15 (c := bodyOf Try.f15) rfl Try.ntmps15 (Nat.le_of_ble_eq_true rfl) (snd_2 F_ok F_mixed) hk

/-! ### rangetree_Tree_Count -/
def rangetree_Tree_Count_an : Ann := .leaf
def rangetree_Tree_Count_K0  (K : Value → Hp → Prop) : Exit → Env → Hp → Prop := retK Try.prog Try.f16.results.toList K
def rangetree_Tree_Count_b0 (t : Option Addr) (x1 : Int) (x2 : Int) (y1 : Int) (y2 : Int) (h : Hp)  (K : Value → Hp → Prop) : Prop :=
  sx_1 Try.prog F 26 (cp [] (bodyOf Try.f16)) (ap [] rangetree_Tree_Count_an) [(0, .pointer t), (1, .int .i64 x1), (2, .int .i64 x2), (3, .int .i64 y1), (4, .int .i64 y2)] h (rangetree_Tree_Count_K0  K)
theorem rangetree_Tree_Count_b0_eq (t : Option Addr) (x1 : Int) (x2 : Int) (y1 : Int) (y2 : Int) (h : Hp)  (K : Value → Hp → Prop) : rangetree_Tree_Count_b0 t x1 x2 y1 y2 h  K = (
  cond t.isNone
  (K (.tuple #[.int .i64 0, .int .i64 1]) h)
  (HCalls Try.prog 33 #[.pointer t, .int .i64 x1, .int .i64 x2, .int .i64 y1, .int .i64 y2] h fun v1 h1 => ∃ r1 : Int, ∃ r2 : Int, v1 = .tuple #[.int .i64 r1, .int .i64 r2] ∧
  K (.tuple #[.int .i64 r1, .int .i64 0]) h1)) := by kernel_rfl
theorem rangetree_Tree_Count_call {t : Option Addr} {x1 : Int} {x2 : Int} {y1 : Int} {y2 : Int} {h : Hp} {K : Value → Hp → Prop} (hk : rangetree_Tree_Count_b0 t x1 x2 y1 y2 h K) : HCalls Try.prog 16 #[.pointer t, .int .i64 x1, .int .i64 x2, .int .i64 y1, .int .i64 y2] h K :=
  calls_of_snd rangetree_Tree_Count_an Try.func16 (c := bodyOf Try.f16) rfl Try.ntmps16 (Nat.le_of_ble_eq_true rfl) (snd_1 F_ok F_mixed) hk

/-! ### rangetree_Tree_Len -/
def rangetree_Tree_Len_an : Ann := .leaf
def rangetree_Tree_Len_K0  (K : Value → Hp → Prop) : Exit → Env → Hp → Prop := retK Try.prog Try.f17.results.toList K
def rangetree_Tree_Len_b0 (t : Option Addr) (h : Hp)  (K : Value → Hp → Prop) : Prop :=
  sx_1 Try.prog F 10 (cp [] (bodyOf Try.f17)) (ap [] rangetree_Tree_Len_an) [(0, .pointer t)] h (rangetree_Tree_Len_K0  K)
theorem rangetree_Tree_Len_b0_eq (t : Option Addr) (h : Hp)  (K : Value → Hp → Prop) : rangetree_Tree_Len_b0 t h  K = (
  cond t.isNone
  (K (.int .i64 0) h)
  (NN t fun a1 =>
  ∃ v1 : Value, cell h a1 = some (v1) ∧
  mapLenV v1 h fun n1 =>
  K (.int .i64 n1) h)) := by kernel_rfl
theorem rangetree_Tree_Len_call {t : Option Addr} {h : Hp} {K : Value → Hp → Prop} (hk : rangetree_Tree_Len_b0 t h K) : HCalls Try.prog 17 #[.pointer t] h K :=
  calls_of_snd rangetree_Tree_Len_an Try.func17 (c := bodyOf Try.f17) rfl Try.ntmps17 (Nat.le_of_ble_eq_true rfl) (snd_1 F_ok F_mixed) hk

/-! ### slices_Equal_Sapi_Point_api_Point -/
/-! ### rangetree_Tree_Report -/
def rangetree_Tree_Report_an : Ann := .leaf
def rangetree_Tree_Report_K0  (K : Value → Hp → Prop) : Exit → Env → Hp → Prop := retK Try.prog Try.f19.results.toList K
def rangetree_Tree_Report_b0 (t : Option Addr) (x1 : Int) (x2 : Int) (y1 : Int) (y2 : Int) (h : Hp)  (K : Value → Hp → Prop) : Prop :=
  sx_1 Try.prog F 18 (cp [] (bodyOf Try.f19)) (ap [] rangetree_Tree_Report_an) [(0, .pointer t), (1, .int .i64 x1), (2, .int .i64 x2), (3, .int .i64 y1), (4, .int .i64 y2)] h (rangetree_Tree_Report_K0  K)
theorem rangetree_Tree_Report_b0_eq (t : Option Addr) (x1 : Int) (x2 : Int) (y1 : Int) (y2 : Int) (h : Hp)  (K : Value → Hp → Prop) : rangetree_Tree_Report_b0 t x1 x2 y1 y2 h  K = (
  New h (.cells #[.int .i64 x1] 3) fun b1 h1 =>
  New h1 (.cells #[.int .i64 x2] 3) fun b2 h2 =>
  New h2 (.cells #[.int .i64 y1] 3) fun b3 h3 =>
  New h3 (.cells #[.int .i64 y2] 3) fun b4 h4 =>
  cond t.isNone
  (K (.tuple #[.slice none 0 0, .int .i64 1]) h4)
  (HCalls Try.prog 15 #[.pointer t] h4 fun v1 h5 => ∃ (r1 : Option Addr) (rL1 rC1 : Nat), v1 = .slice r1 rL1 rC1 ∧
  HCalls Try.prog 34 #[.slice r1 rL1 rC1, .func (.func 35) #[] #[.pointer (some ⟨b1, 0, none⟩), .pointer (some ⟨b2, 0, none⟩), .pointer (some ⟨b3, 0, none⟩), .pointer (some ⟨b4, 0, none⟩)]] h5 fun v2 h6 => ∃ (r2 : Option Addr) (rL2 rC2 : Nat), v2 = .slice r2 rL2 rC2 ∧
  K (.tuple #[.slice r2 rL2 rC2, .int .i64 0]) h6)) := by kernel_rfl
theorem rangetree_Tree_Report_call {t : Option Addr} {x1 : Int} {x2 : Int} {y1 : Int} {y2 : Int} {h : Hp} {K : Value → Hp → Prop} (hk : rangetree_Tree_Report_b0 t x1 x2 y1 y2 h K) : HCalls Try.prog 19 #[.pointer t, .int .i64 x1, .int .i64 x2, .int .i64 y1, .int .i64 y2] h K :=
  calls_of_snd rangetree_Tree_Report_an Try.func19 (c := bodyOf Try.f19) rfl Try.ntmps19 (Nat.le_of_ble_eq_true rfl) (snd_1 F_ok F_mixed) hk

/-! ### rangetree_Tree_Sum -/
def rangetree_Tree_Sum_an : Ann := .leaf
def rangetree_Tree_Sum_K0  (K : Value → Hp → Prop) : Exit → Env → Hp → Prop := retK Try.prog Try.f20.results.toList K
def rangetree_Tree_Sum_b0 (t : Option Addr) (x1 : Int) (x2 : Int) (y1 : Int) (y2 : Int) (h : Hp)  (K : Value → Hp → Prop) : Prop :=
  sx_1 Try.prog F 26 (cp [] (bodyOf Try.f20)) (ap [] rangetree_Tree_Sum_an) [(0, .pointer t), (1, .int .i64 x1), (2, .int .i64 x2), (3, .int .i64 y1), (4, .int .i64 y2)] h (rangetree_Tree_Sum_K0  K)
theorem rangetree_Tree_Sum_b0_eq (t : Option Addr) (x1 : Int) (x2 : Int) (y1 : Int) (y2 : Int) (h : Hp)  (K : Value → Hp → Prop) : rangetree_Tree_Sum_b0 t x1 x2 y1 y2 h  K = (
  cond t.isNone
  (K (.tuple #[.int .i64 0, .int .i64 1]) h)
  (HCalls Try.prog 33 #[.pointer t, .int .i64 x1, .int .i64 x2, .int .i64 y1, .int .i64 y2] h fun v1 h1 => ∃ r1 : Int, ∃ r2 : Int, v1 = .tuple #[.int .i64 r1, .int .i64 r2] ∧
  K (.tuple #[.int .i64 r2, .int .i64 0]) h1)) := by kernel_rfl
theorem rangetree_Tree_Sum_call {t : Option Addr} {x1 : Int} {x2 : Int} {y1 : Int} {y2 : Int} {h : Hp} {K : Value → Hp → Prop} (hk : rangetree_Tree_Sum_b0 t x1 x2 y1 y2 h K) : HCalls Try.prog 20 #[.pointer t, .int .i64 x1, .int .i64 x2, .int .i64 y1, .int .i64 y2] h K :=
  calls_of_snd rangetree_Tree_Sum_an Try.func20 (c := bodyOf Try.f20) rfl Try.ntmps20 (Nat.le_of_ble_eq_true rfl) (snd_1 F_ok F_mixed) hk

/-! ### r31_Sum -/
/-! ### rangetree_Tree_Leftmost -/
def rangetree_Tree_Leftmost_an : Ann := .node none (.leaf) (.node none (.leaf) (.node (some [8]) (.node none (.leaf) (.loop [1, 2, 3, 8, 16, 17] [(18, .int .i64)] (.node none (.leaf) (.node none (.leaf) (.node (some [1, 2, 3, 8, 16, 17, 18]) (.leaf) (.leaf)))))) (.leaf)))
def rangetree_Tree_Leftmost_K0  (K : Value → Hp → Prop) : Exit → Env → Hp → Prop := retK Try.prog Try.f22.results.toList K
def rangetree_Tree_Leftmost_K1  (K : Value → Hp → Prop) : Exit → Env → Hp → Prop := thenE (fun env h => sx_2 Try.prog F 41 (cp [1, 1, 1] (bodyOf Try.f22)) (ap [1, 1, 1] rangetree_Tree_Leftmost_an) (rs [8] env) h (rangetree_Tree_Leftmost_K0  K)) (rangetree_Tree_Leftmost_K0  K)
def rangetree_Tree_Leftmost_K2  (K : Value → Hp → Prop) : Exit → Env → Hp → Prop := blockE 0 (rangetree_Tree_Leftmost_K1  K)
def rangetree_Tree_Leftmost_K3 (nx0 : Int × Unit → Hp → Prop) (K : Value → Hp → Prop) : Exit → Env → Hp → Prop := thenE (fun env h => getV [(18, .int .i64)] env fun s => nx0 s h) (rangetree_Tree_Leftmost_K2  K)
def rangetree_Tree_Leftmost_b0 (t : Option Addr) (x1 : Int) (y1 : Int) (y2 : Int) (h : Hp)  (K : Value → Hp → Prop) : Prop :=
  sx_3 Try.prog F 41 (cp [] (bodyOf Try.f22)) (ap [] rangetree_Tree_Leftmost_an) [(0, .pointer t), (1, .int .i64 x1), (2, .int .i64 y1), (3, .int .i64 y2)] h (rangetree_Tree_Leftmost_K0  K)
def rangetree_Tree_Leftmost_b1 (t18 : Int) (x1 : Int) (y1 : Int) (y2 : Int) (t8 : Option Addr) (t16 : Option Addr) (t16L : Nat) (t16C : Nat) (t17 : Int) (h : Hp) (nx0 : Int × Unit → Hp → Prop) (K : Value → Hp → Prop) : Prop :=
  sx_2 Try.prog F 41 (cp [1, 1, 0, 1, 2, 2] (bodyOf Try.f22)) (ap [1, 1, 0, 1, 2] rangetree_Tree_Leftmost_an) [(18, .int .i64 t18), (1, .int .i64 x1), (2, .int .i64 y1), (3, .int .i64 y2), (8, .pointer t8), (16, .slice t16 t16L t16C), (17, .int .i64 t17)] h (rangetree_Tree_Leftmost_K3 nx0 K)
def rangetree_Tree_Leftmost_b2 (x1 : Int) (y1 : Int) (y2 : Int) (t8 : Option Addr) (t16 : Option Addr) (t16L : Nat) (t16C : Nat) (t17 : Int) (t18 : Int) (h : Hp) (nx0 : Int × Unit → Hp → Prop) (K : Value → Hp → Prop) : Prop :=
  sx_1 Try.prog F 41 (cp [1, 1, 0, 1, 2, 2, 1, 1, 1] (bodyOf Try.f22)) (ap [1, 1, 0, 1, 2, 1, 1, 1] rangetree_Tree_Leftmost_an) [(1, .int .i64 x1), (2, .int .i64 y1), (3, .int .i64 y2), (8, .pointer t8), (16, .slice t16 t16L t16C), (17, .int .i64 t17), (18, .int .i64 t18)] h (rangetree_Tree_Leftmost_K3 nx0 K)
def rangetree_Tree_Leftmost_b3 (t8 : Option Addr) (h : Hp)  (K : Value → Hp → Prop) : Prop :=
  sx_2 Try.prog F 41 (cp [1, 1, 1] (bodyOf Try.f22)) (ap [1, 1, 1] rangetree_Tree_Leftmost_an) [(8, .pointer t8)] h (rangetree_Tree_Leftmost_K0  K)
theorem rangetree_Tree_Leftmost_b0_eq (t : Option Addr) (x1 : Int) (y1 : Int) (y2 : Int) (h : Hp)  (K : Value → Hp → Prop) : rangetree_Tree_Leftmost_b0 t x1 y1 y2 h  K = (
  New h (.cells #[.int .i64 0, .int .i64 0, .int .i64 0] 33) fun b1 h1 =>
  cond t.isNone
  (Wr h1 ⟨b1, 0, none⟩ (.int .i64 0) fun h2 =>
  Wr h2 ((⟨b1, 0, none⟩ : Addr).add 1) (.int .i64 0) fun h3 =>
  Wr h3 ((⟨b1, 0, none⟩ : Addr).add 2) (.int .i64 0) fun h4 =>
  ∃ r1 : Int, ∃ r2 : Int, ∃ r3 : Int, cell h4 ⟨b1, 0, none⟩ = some (.int .i64 r1) ∧
  cell h4 ((⟨b1, 0, none⟩ : Addr).add 1) = some (.int .i64 r2) ∧
  cell h4 ((⟨b1, 0, none⟩ : Addr).add 2) = some (.int .i64 r3) ∧
  K (.tuple #[.agg #[.int .i64 r1, .int .i64 r2, .int .i64 r3], .int .i64 1]) h4)
  (HCalls Try.prog 15 #[.pointer t] h1 fun v1 h5 => ∃ (r4 : Option Addr) (rL1 rC1 : Nat), v1 = .slice r4 rL1 rC1 ∧
  LoopVC ((0, ()) : Int × Unit) h5 (fun (nx0 : Int × Unit → Hp → Prop) (s1 : Int × Unit) h6 => rangetree_Tree_Leftmost_b1 s1.1 x1 y1 y2 (some ⟨b1, 0, none⟩) r4 rL1 rC1 (rL1 : Int) h6 nx0 K))) := by kernel_rfl
theorem rangetree_Tree_Leftmost_b1_eq (t18 : Int) (x1 : Int) (y1 : Int) (y2 : Int) (t8 : Option Addr) (t16 : Option Addr) (t16L : Nat) (t16C : Nat) (t17 : Int) (h : Hp) (nx0 : Int × Unit → Hp → Prop) (K : Value → Hp → Prop) : rangetree_Tree_Leftmost_b1 t18 x1 y1 y2 t8 t16 t16L t16C t17 h nx0 K = (
  cond (decide (t18 < t17))
  ((0 ≤ t18 ∧ t18 < (t16L : Int)) ∧
  NN t16 fun a1 =>
  ∃ n1 : Int, ∃ n2 : Int, ∃ n3 : Int, cell h (a1.add (Int.toNat t18 * 3)) = some (.int .i64 n1) ∧
  cell h ((a1.add (Int.toNat t18 * 3)).add 1) = some (.int .i64 n2) ∧
  cell h ((a1.add (Int.toNat t18 * 3)).add 2) = some (.int .i64 n3) ∧
  New h (.cells #[.int .i64 0, .int .i64 0, .int .i64 0] 33) fun b2 h7 =>
  Wr h7 ⟨b2, 0, none⟩ (.int .i64 n1) fun h8 =>
  Wr h8 ((⟨b2, 0, none⟩ : Addr).add 1) (.int .i64 n2) fun h9 =>
  Wr h9 ((⟨b2, 0, none⟩ : Addr).add 2) (.int .i64 n3) fun h10 =>
  ∃ n4 : Int, cell h10 ⟨b2, 0, none⟩ = some (.int .i64 n4) ∧
  cond (decide (x1 ≤ n4))
  (∃ n5 : Int, cell h10 ((⟨b2, 0, none⟩ : Addr).add 1) = some (.int .i64 n5) ∧
  cond (decide (y1 ≤ n5))
  (∃ n6 : Int, cell h10 ((⟨b2, 0, none⟩ : Addr).add 1) = some (.int .i64 n6) ∧
  cond (decide (n6 ≤ y2))
  (∃ n7 : Int, ∃ n8 : Int, ∃ n9 : Int, cell h10 ⟨b2, 0, none⟩ = some (.int .i64 n7) ∧
  cell h10 ((⟨b2, 0, none⟩ : Addr).add 1) = some (.int .i64 n8) ∧
  cell h10 ((⟨b2, 0, none⟩ : Addr).add 2) = some (.int .i64 n9) ∧
  NN t8 fun a2 =>
  Wr h10 a2 (.int .i64 n7) fun h11 =>
  Wr h11 (a2.add 1) (.int .i64 n8) fun h12 =>
  Wr h12 (a2.add 2) (.int .i64 n9) fun h13 =>
  NN t8 fun a3 =>
  ∃ r5 : Int, ∃ r6 : Int, ∃ r7 : Int, cell h13 a3 = some (.int .i64 r5) ∧
  cell h13 (a3.add 1) = some (.int .i64 r6) ∧
  cell h13 (a3.add 2) = some (.int .i64 r7) ∧
  K (.tuple #[.agg #[.int .i64 r5, .int .i64 r6, .int .i64 r7], .int .i64 0]) h13)
  (rangetree_Tree_Leftmost_b2 x1 y1 y2 t8 t16 t16L t16C t17 t18 h10 nx0 K))
  (rangetree_Tree_Leftmost_b2 x1 y1 y2 t8 t16 t16L t16C t17 t18 h10 nx0 K))
  (rangetree_Tree_Leftmost_b2 x1 y1 y2 t8 t16 t16L t16C t17 t18 h10 nx0 K))
  (rangetree_Tree_Leftmost_b3 t8 h  K)) := by kernel_rfl
theorem rangetree_Tree_Leftmost_b2_eq (x1 : Int) (y1 : Int) (y2 : Int) (t8 : Option Addr) (t16 : Option Addr) (t16L : Nat) (t16C : Nat) (t17 : Int) (t18 : Int) (h : Hp) (nx0 : Int × Unit → Hp → Prop) (K : Value → Hp → Prop) : rangetree_Tree_Leftmost_b2 x1 y1 y2 t8 t16 t16L t16C t17 t18 h nx0 K = (
  InR (t18 + 1) ∧
  nx0 (t18 + 1, ()) h) := by kernel_rfl
theorem rangetree_Tree_Leftmost_b3_eq (t8 : Option Addr) (h : Hp)  (K : Value → Hp → Prop) : rangetree_Tree_Leftmost_b3 t8 h  K = (
  NN t8 fun a4 =>
  Wr h a4 (.int .i64 0) fun h14 =>
  Wr h14 (a4.add 1) (.int .i64 0) fun h15 =>
  Wr h15 (a4.add 2) (.int .i64 0) fun h16 =>
  NN t8 fun a5 =>
  ∃ r8 : Int, ∃ r9 : Int, ∃ r10 : Int, cell h16 a5 = some (.int .i64 r8) ∧
  cell h16 (a5.add 1) = some (.int .i64 r9) ∧
  cell h16 (a5.add 2) = some (.int .i64 r10) ∧
  K (.tuple #[.agg #[.int .i64 r8, .int .i64 r9, .int .i64 r10], .int .i64 12]) h16) := by kernel_rfl
theorem rangetree_Tree_Leftmost_call {t : Option Addr} {x1 : Int} {y1 : Int} {y2 : Int} {h : Hp} {K : Value → Hp → Prop} (hk : rangetree_Tree_Leftmost_b0 t x1 y1 y2 h K) : HCalls Try.prog 22 #[.pointer t, .int .i64 x1, .int .i64 y1, .int .i64 y2] h K :=
  calls_of_snd rangetree_Tree_Leftmost_an Try.func22 (c := bodyOf Try.f22) rfl Try.ntmps22 (Nat.le_of_ble_eq_true rfl) (snd_3 F_ok F_mixed) hk

end Go.Proofs.Ytbfejfejahoblaa
