/- Plain statements of what each block of code of this seat asks; printed by a program, checked by Lean. -/
import Derived.Test.YtdlkohenamlnaaaGreatSxV0
set_option maxRecDepth 10000
namespace Go.Proofs.YtdlkohenamlnaaaGreat
open Go Go.Sx

/-! ### r35_least -/
def r35_least_an : Ann := .node none (.leaf) (.node none (.leaf) (.node (some [5]) (.node none (.leaf) (.loop [0, 1] [(5, .int .i64), (6, .int .i64)] (.node none (.leaf) (.node (some [0, 1, 5, 6]) (.node (some [0, 1, 5, 6, 7, 8]) (.plan (.qu 0 (.qu 1 (.qu 2 (.qu 3 (.qu 4 (.qu 5 (.qu 9 (.qu 10 (.qu 11 (.qu 12 (.qu 13 (.qu 14 (.wo 6 (.qu 7 (.qu 8 (.wo 15 (.qu 16 (.qu 17 (.wo 18 (.wo 19 (.wo 20 (.wo 21 .fin .no) .no) .no) (.wo 19 (.wo 18 (.wo 20 (.wo 21 .fin .no) .no) .no) .no)))) (.wo 18 (.wo 15 (.qu 16 (.qu 17 (.wo 19 (.wo 20 (.wo 21 .fin .no) .no) .no))) (.wo 19 (.wo 15 (.qu 16 (.qu 17 (.wo 20 (.wo 21 .fin .no) .no))) .no) .no)) (.wo 19 (.wo 15 (.qu 16 (.qu 17 (.wo 18 (.wo 20 (.wo 21 .fin .no) .no) .no))) (.wo 18 (.wo 15 (.qu 16 (.qu 17 (.wo 20 (.wo 21 .fin .no) .no))) .no) .no)) .no))))) (.wo 18 (.wo 6 (.qu 7 (.qu 8 (.wo 15 (.qu 16 (.qu 17 (.wo 19 (.wo 20 (.wo 21 .fin .no) .no) .no))) (.wo 19 (.wo 15 (.qu 16 (.qu 17 (.wo 20 (.wo 21 .fin .no) .no))) .no) .no)))) (.wo 19 (.wo 6 (.qu 7 (.qu 8 (.wo 15 (.qu 16 (.qu 17 (.wo 20 (.wo 21 .fin .no) .no))) .no))) .no) .no)) (.wo 19 (.wo 6 (.qu 7 (.qu 8 (.wo 15 (.qu 16 (.qu 17 (.wo 18 (.wo 20 (.wo 21 .fin .no) .no) .no))) (.wo 18 (.wo 15 (.qu 16 (.qu 17 (.wo 20 (.wo 21 .fin .no) .no))) .no) .no)))) (.wo 18 (.wo 6 (.qu 7 (.qu 8 (.wo 15 (.qu 16 (.qu 17 (.wo 20 (.wo 21 .fin .no) .no))) .no))) .no) .no)) .no)))))))))))))))) (.leaf)) (.leaf))))) (.leaf)))
def r35_least_K0  (K : Value → Hp → Prop) : Exit → Env → Hp → Prop := retK Tryz.prog Tryz.f58.results.toList K
def r35_least_K1  (K : Value → Hp → Prop) : Exit → Env → Hp → Prop := thenE (fun env h => sx_2 Tryz.prog F 54 (cp [1, 1, 1] (bodyOf Tryz.f58)) (ap [1, 1, 1] r35_least_an) (rs [5] env) h (r35_least_K0  K)) (r35_least_K0  K)
def r35_least_K2  (K : Value → Hp → Prop) : Exit → Env → Hp → Prop := blockE 0 (r35_least_K1  K)
def r35_least_K3 (nx0 : Int × Int × Unit → Hp → Prop) (K : Value → Hp → Prop) : Exit → Env → Hp → Prop := thenE (fun env h => getV [(5, .int .i64), (6, .int .i64)] env fun s => nx0 s h) (r35_least_K2  K)
def r35_least_K4 (nx0 : Int × Int × Unit → Hp → Prop) (K : Value → Hp → Prop) : Exit → Env → Hp → Prop := thenE (fun env h => sx_1 Tryz.prog F 54 (cp [1, 1, 0, 1, 2, 2, 1, 1] (bodyOf Tryz.f58)) (ap [1, 1, 0, 1, 2, 1, 1] r35_least_an) (rs [0, 1, 5, 6] env) h (r35_least_K3 nx0 K)) (r35_least_K3 nx0 K)
def r35_least_K5 (nx0 : Int × Int × Unit → Hp → Prop) (K : Value → Hp → Prop) : Exit → Env → Hp → Prop := blockE 1 (r35_least_K4 nx0 K)
def r35_least_b0 (l : Option Addr) (lL : Nat) (lC : Nat) (inv : Option Addr) (invL : Nat) (invC : Nat) (h : Hp)  (K : Value → Hp → Prop) : Prop :=
  sx_3 Tryz.prog F 54 (cp [] (bodyOf Tryz.f58)) (ap [] r35_least_an) [(0, .slice l lL lC), (1, .slice inv invL invC)] h (r35_least_K0  K)
def r35_least_b1 (best : Int) (i : Int) (l : Option Addr) (lL : Nat) (lC : Nat) (inv : Option Addr) (invL : Nat) (invC : Nat) (h : Hp) (nx0 : Int × Int × Unit → Hp → Prop) (K : Value → Hp → Prop) : Prop :=
  sx_2 Tryz.prog F 54 (cp [1, 1, 0, 1, 2, 2] (bodyOf Tryz.f58)) (ap [1, 1, 0, 1, 2] r35_least_an) [(5, .int .i64 best), (6, .int .i64 i), (0, .slice l lL lC), (1, .slice inv invL invC)] h (r35_least_K3 nx0 K)
def r35_least_b2 (l : Option Addr) (lL : Nat) (lC : Nat) (inv : Option Addr) (invL : Nat) (invC : Nat) (best : Int) (i : Int) (a : Option Addr) (b : Option Addr) (h : Hp) (nx0 : Int × Int × Unit → Hp → Prop) (K : Value → Hp → Prop) : Prop :=
  sx_1 Tryz.prog F 54 (cp [1, 1, 0, 1, 2, 2, 1, 0, 2, 1] (bodyOf Tryz.f58)) (ap [1, 1, 0, 1, 2, 1, 0, 1] r35_least_an) [(0, .slice l lL lC), (1, .slice inv invL invC), (5, .int .i64 best), (6, .int .i64 i), (7, .pointer a), (8, .pointer b)] h (r35_least_K5 nx0 K)
def r35_least_b3 (best : Int) (h : Hp)  (K : Value → Hp → Prop) : Prop :=
  sx_2 Tryz.prog F 54 (cp [1, 1, 1] (bodyOf Tryz.f58)) (ap [1, 1, 1] r35_least_an) [(5, .int .i64 best)] h (r35_least_K0  K)
def r35_least_b4 (l : Option Addr) (lL : Nat) (lC : Nat) (inv : Option Addr) (invL : Nat) (invC : Nat) (best : Int) (i : Int) (h : Hp) (nx0 : Int × Int × Unit → Hp → Prop) (K : Value → Hp → Prop) : Prop :=
  sx_1 Tryz.prog F 54 (cp [1, 1, 0, 1, 2, 2, 1, 1] (bodyOf Tryz.f58)) (ap [1, 1, 0, 1, 2, 1, 1] r35_least_an) [(0, .slice l lL lC), (1, .slice inv invL invC), (5, .int .i64 best), (6, .int .i64 i)] h (r35_least_K3 nx0 K)
theorem r35_least_b0_eq (l : Option Addr) (lL : Nat) (lC : Nat) (inv : Option Addr) (invL : Nat) (invC : Nat) (h : Hp)  (K : Value → Hp → Prop) : r35_least_b0 l lL lC inv invL invC h  K = (
  LoopVC ((0, 1, ()) : Int × Int × Unit) h (fun (nx0 : Int × Int × Unit → Hp → Prop) (s1 : Int × Int × Unit) h1 => r35_least_b1 s1.1 s1.2.1 l lL lC inv invL invC h1 nx0 K)) := by kernel_rfl
theorem r35_least_b1_eq (best : Int) (i : Int) (l : Option Addr) (lL : Nat) (lC : Nat) (inv : Option Addr) (invL : Nat) (invC : Nat) (h : Hp) (nx0 : Int × Int × Unit → Hp → Prop) (K : Value → Hp → Prop) : r35_least_b1 best i l lL lC inv invL invC h nx0 K = (
  cond (decide (i < (invL : Int)))
  ((0 ≤ i ∧ i < (invL : Int)) ∧
  NN inv fun a1 =>
  ∃ n1 : Int, cell h (a1.add (Int.toNat i * 1)) = some (.int .i64 n1) ∧
  (0 ≤ best ∧ best < (invL : Int)) ∧
  NN inv fun a2 =>
  ∃ n2 : Int, cell h (a2.add (Int.toNat best * 1)) = some (.int .i64 n2) ∧
  (HCalls Tryz.prog 15 #[.slice l lL lC, .int .i64 n1] h fun v1 h2 => ∃ r1 : Int, v1 = .int .i64 r1 ∧
  (∃ n3 : Int, cell h2 (a2.add (Int.toNat best * 1)) = some (.int .i64 n3) ∧
  (.int .i64 n3 : Value) = .int .i64 n2) ∧
  (0 ≤ r1 ∧ r1 < (lL : Int)) ∧
  NN l fun a3 =>
  ∃ n4 : Int, ∃ n5 : Int, ∃ b1 : Bool, cell h2 (a3.add (Int.toNat r1 * 3)) = some (.int .i64 n4) ∧
  cell h2 ((a3.add (Int.toNat r1 * 3)).add 1) = some (.int .i64 n5) ∧
  cell h2 ((a3.add (Int.toNat r1 * 3)).add 2) = some (.bool b1) ∧
  (HCalls Tryz.prog 15 #[.slice l lL lC, .int .i64 n2] h2 fun v2 h3 => ∃ r2 : Int, v2 = .int .i64 r2 ∧
  (∃ n6 : Int, ∃ n7 : Int, ∃ b2 : Bool, cell h3 (a3.add (Int.toNat r1 * 3)) = some (.int .i64 n6) ∧
  cell h3 ((a3.add (Int.toNat r1 * 3)).add 1) = some (.int .i64 n7) ∧
  cell h3 ((a3.add (Int.toNat r1 * 3)).add 2) = some (.bool b2) ∧
  (.agg #[.int .i64 n6, .int .i64 n7, .bool b2] : Value) = .agg #[.int .i64 n4, .int .i64 n5, .bool b1]) ∧
  (0 ≤ r2 ∧ r2 < (lL : Int)) ∧
  NN l fun a4 =>
  ∃ n8 : Int, ∃ n9 : Int, ∃ b3 : Bool, cell h3 (a4.add (Int.toNat r2 * 3)) = some (.int .i64 n8) ∧
  cell h3 ((a4.add (Int.toNat r2 * 3)).add 1) = some (.int .i64 n9) ∧
  cell h3 ((a4.add (Int.toNat r2 * 3)).add 2) = some (.bool b3) ∧
  (New h3 (.cells #[.int .i64 0, .int .i64 0, .bool false] 41) fun b4 h4 =>
  (∃ n10 : Int, ∃ n11 : Int, ∃ b5 : Bool, cell h4 (a4.add (Int.toNat r2 * 3)) = some (.int .i64 n10) ∧
  cell h4 ((a4.add (Int.toNat r2 * 3)).add 1) = some (.int .i64 n11) ∧
  cell h4 ((a4.add (Int.toNat r2 * 3)).add 2) = some (.bool b5) ∧
  (.agg #[.int .i64 n10, .int .i64 n11, .bool b5] : Value) = .agg #[.int .i64 n8, .int .i64 n9, .bool b3]) ∧
  (∃ n12 : Int, ∃ n13 : Int, ∃ b6 : Bool, cell h4 (a3.add (Int.toNat r1 * 3)) = some (.int .i64 n12) ∧
  cell h4 ((a3.add (Int.toNat r1 * 3)).add 1) = some (.int .i64 n13) ∧
  cell h4 ((a3.add (Int.toNat r1 * 3)).add 2) = some (.bool b6) ∧
  (.agg #[.int .i64 n12, .int .i64 n13, .bool b6] : Value) = .agg #[.int .i64 n4, .int .i64 n5, .bool b1]) ∧
  New h4 (.cells #[.int .i64 0, .int .i64 0, .bool false] 41) fun b7 h5 =>
  (∃ n14 : Int, ∃ n15 : Int, ∃ b8 : Bool, cell h5 (a4.add (Int.toNat r2 * 3)) = some (.int .i64 n14) ∧
  cell h5 ((a4.add (Int.toNat r2 * 3)).add 1) = some (.int .i64 n15) ∧
  cell h5 ((a4.add (Int.toNat r2 * 3)).add 2) = some (.bool b8) ∧
  (.agg #[.int .i64 n14, .int .i64 n15, .bool b8] : Value) = .agg #[.int .i64 n8, .int .i64 n9, .bool b3]) ∧
  (∃ n16 : Int, ∃ n17 : Int, ∃ b9 : Bool, cell h5 (a3.add (Int.toNat r1 * 3)) = some (.int .i64 n16) ∧
  cell h5 ((a3.add (Int.toNat r1 * 3)).add 1) = some (.int .i64 n17) ∧
  cell h5 ((a3.add (Int.toNat r1 * 3)).add 2) = some (.bool b9) ∧
  (.agg #[.int .i64 n16, .int .i64 n17, .bool b9] : Value) = .agg #[.int .i64 n4, .int .i64 n5, .bool b1]) ∧
  Wr h5 ⟨b4, 0, none⟩ (.int .i64 n4) fun h6 =>
  Wr h6 ((⟨b4, 0, none⟩ : Addr).add 1) (.int .i64 n5) fun h7 =>
  Wr h7 ((⟨b4, 0, none⟩ : Addr).add 2) (.bool b1) fun h8 =>
  (∃ n18 : Int, ∃ n19 : Int, ∃ b10 : Bool, cell h8 (a4.add (Int.toNat r2 * 3)) = some (.int .i64 n18) ∧
  cell h8 ((a4.add (Int.toNat r2 * 3)).add 1) = some (.int .i64 n19) ∧
  cell h8 ((a4.add (Int.toNat r2 * 3)).add 2) = some (.bool b10) ∧
  (.agg #[.int .i64 n18, .int .i64 n19, .bool b10] : Value) = .agg #[.int .i64 n8, .int .i64 n9, .bool b3]) ∧
  Wr h8 ⟨b7, 0, none⟩ (.int .i64 n8) fun h9 =>
  Wr h9 ((⟨b7, 0, none⟩ : Addr).add 1) (.int .i64 n9) fun h10 =>
  Wr h10 ((⟨b7, 0, none⟩ : Addr).add 2) (.bool b3) fun h11 =>
  r35_least_b2 l lL lC inv invL invC best i (some ⟨b4, 0, none⟩) (some ⟨b7, 0, none⟩) h11 nx0 K) ∧
  (New h3 (.cells #[.int .i64 0, .int .i64 0, .bool false] 41) fun b11 h12 =>
  (∃ n20 : Int, ∃ n21 : Int, ∃ b12 : Bool, cell h12 (a4.add (Int.toNat r2 * 3)) = some (.int .i64 n20) ∧
  cell h12 ((a4.add (Int.toNat r2 * 3)).add 1) = some (.int .i64 n21) ∧
  cell h12 ((a4.add (Int.toNat r2 * 3)).add 2) = some (.bool b12) ∧
  (.agg #[.int .i64 n20, .int .i64 n21, .bool b12] : Value) = .agg #[.int .i64 n8, .int .i64 n9, .bool b3]) ∧
  (∃ n22 : Int, ∃ n23 : Int, ∃ b13 : Bool, cell h12 (a3.add (Int.toNat r1 * 3)) = some (.int .i64 n22) ∧
  cell h12 ((a3.add (Int.toNat r1 * 3)).add 1) = some (.int .i64 n23) ∧
  cell h12 ((a3.add (Int.toNat r1 * 3)).add 2) = some (.bool b13) ∧
  (.agg #[.int .i64 n22, .int .i64 n23, .bool b13] : Value) = .agg #[.int .i64 n4, .int .i64 n5, .bool b1]) ∧
  New h12 (.cells #[.int .i64 0, .int .i64 0, .bool false] 41) fun b14 h13 =>
  (∃ n24 : Int, ∃ n25 : Int, ∃ b15 : Bool, cell h13 (a4.add (Int.toNat r2 * 3)) = some (.int .i64 n24) ∧
  cell h13 ((a4.add (Int.toNat r2 * 3)).add 1) = some (.int .i64 n25) ∧
  cell h13 ((a4.add (Int.toNat r2 * 3)).add 2) = some (.bool b15) ∧
  (.agg #[.int .i64 n24, .int .i64 n25, .bool b15] : Value) = .agg #[.int .i64 n8, .int .i64 n9, .bool b3]) ∧
  (∃ n26 : Int, ∃ n27 : Int, ∃ b16 : Bool, cell h13 (a3.add (Int.toNat r1 * 3)) = some (.int .i64 n26) ∧
  cell h13 ((a3.add (Int.toNat r1 * 3)).add 1) = some (.int .i64 n27) ∧
  cell h13 ((a3.add (Int.toNat r1 * 3)).add 2) = some (.bool b16) ∧
  (.agg #[.int .i64 n26, .int .i64 n27, .bool b16] : Value) = .agg #[.int .i64 n4, .int .i64 n5, .bool b1]) ∧
  Wr h13 ⟨b14, 0, none⟩ (.int .i64 n4) fun h14 =>
  Wr h14 ((⟨b14, 0, none⟩ : Addr).add 1) (.int .i64 n5) fun h15 =>
  Wr h15 ((⟨b14, 0, none⟩ : Addr).add 2) (.bool b1) fun h16 =>
  (∃ n28 : Int, ∃ n29 : Int, ∃ b17 : Bool, cell h16 (a4.add (Int.toNat r2 * 3)) = some (.int .i64 n28) ∧
  cell h16 ((a4.add (Int.toNat r2 * 3)).add 1) = some (.int .i64 n29) ∧
  cell h16 ((a4.add (Int.toNat r2 * 3)).add 2) = some (.bool b17) ∧
  (.agg #[.int .i64 n28, .int .i64 n29, .bool b17] : Value) = .agg #[.int .i64 n8, .int .i64 n9, .bool b3]) ∧
  Wr h16 ⟨b11, 0, none⟩ (.int .i64 n8) fun h17 =>
  Wr h17 ((⟨b11, 0, none⟩ : Addr).add 1) (.int .i64 n9) fun h18 =>
  Wr h18 ((⟨b11, 0, none⟩ : Addr).add 2) (.bool b3) fun h19 =>
  r35_least_b2 l lL lC inv invL invC best i (some ⟨b14, 0, none⟩) (some ⟨b11, 0, none⟩) h19 nx0 K)) ∧
  (New h2 (.cells #[.int .i64 0, .int .i64 0, .bool false] 41) fun b18 h20 =>
  (∃ n30 : Int, ∃ n31 : Int, ∃ b19 : Bool, cell h20 (a3.add (Int.toNat r1 * 3)) = some (.int .i64 n30) ∧
  cell h20 ((a3.add (Int.toNat r1 * 3)).add 1) = some (.int .i64 n31) ∧
  cell h20 ((a3.add (Int.toNat r1 * 3)).add 2) = some (.bool b19) ∧
  (.agg #[.int .i64 n30, .int .i64 n31, .bool b19] : Value) = .agg #[.int .i64 n4, .int .i64 n5, .bool b1]) ∧
  (∃ n32 : Int, cell h20 (a2.add (Int.toNat best * 1)) = some (.int .i64 n32) ∧
  (.int .i64 n32 : Value) = .int .i64 n2) ∧
  (HCalls Tryz.prog 15 #[.slice l lL lC, .int .i64 n2] h20 fun v3 h21 => ∃ r3 : Int, v3 = .int .i64 r3 ∧
  (∃ n33 : Int, ∃ n34 : Int, ∃ b20 : Bool, cell h21 (a3.add (Int.toNat r1 * 3)) = some (.int .i64 n33) ∧
  cell h21 ((a3.add (Int.toNat r1 * 3)).add 1) = some (.int .i64 n34) ∧
  cell h21 ((a3.add (Int.toNat r1 * 3)).add 2) = some (.bool b20) ∧
  (.agg #[.int .i64 n33, .int .i64 n34, .bool b20] : Value) = .agg #[.int .i64 n4, .int .i64 n5, .bool b1]) ∧
  (0 ≤ r3 ∧ r3 < (lL : Int)) ∧
  NN l fun a5 =>
  ∃ n35 : Int, ∃ n36 : Int, ∃ b21 : Bool, cell h21 (a5.add (Int.toNat r3 * 3)) = some (.int .i64 n35) ∧
  cell h21 ((a5.add (Int.toNat r3 * 3)).add 1) = some (.int .i64 n36) ∧
  cell h21 ((a5.add (Int.toNat r3 * 3)).add 2) = some (.bool b21) ∧
  New h21 (.cells #[.int .i64 0, .int .i64 0, .bool false] 41) fun b22 h22 =>
  (∃ n37 : Int, ∃ n38 : Int, ∃ b23 : Bool, cell h22 (a5.add (Int.toNat r3 * 3)) = some (.int .i64 n37) ∧
  cell h22 ((a5.add (Int.toNat r3 * 3)).add 1) = some (.int .i64 n38) ∧
  cell h22 ((a5.add (Int.toNat r3 * 3)).add 2) = some (.bool b23) ∧
  (.agg #[.int .i64 n37, .int .i64 n38, .bool b23] : Value) = .agg #[.int .i64 n35, .int .i64 n36, .bool b21]) ∧
  (∃ n39 : Int, ∃ n40 : Int, ∃ b24 : Bool, cell h22 (a3.add (Int.toNat r1 * 3)) = some (.int .i64 n39) ∧
  cell h22 ((a3.add (Int.toNat r1 * 3)).add 1) = some (.int .i64 n40) ∧
  cell h22 ((a3.add (Int.toNat r1 * 3)).add 2) = some (.bool b24) ∧
  (.agg #[.int .i64 n39, .int .i64 n40, .bool b24] : Value) = .agg #[.int .i64 n4, .int .i64 n5, .bool b1]) ∧
  Wr h22 ⟨b18, 0, none⟩ (.int .i64 n4) fun h23 =>
  Wr h23 ((⟨b18, 0, none⟩ : Addr).add 1) (.int .i64 n5) fun h24 =>
  Wr h24 ((⟨b18, 0, none⟩ : Addr).add 2) (.bool b1) fun h25 =>
  (∃ n41 : Int, ∃ n42 : Int, ∃ b25 : Bool, cell h25 (a5.add (Int.toNat r3 * 3)) = some (.int .i64 n41) ∧
  cell h25 ((a5.add (Int.toNat r3 * 3)).add 1) = some (.int .i64 n42) ∧
  cell h25 ((a5.add (Int.toNat r3 * 3)).add 2) = some (.bool b25) ∧
  (.agg #[.int .i64 n41, .int .i64 n42, .bool b25] : Value) = .agg #[.int .i64 n35, .int .i64 n36, .bool b21]) ∧
  Wr h25 ⟨b22, 0, none⟩ (.int .i64 n35) fun h26 =>
  Wr h26 ((⟨b22, 0, none⟩ : Addr).add 1) (.int .i64 n36) fun h27 =>
  Wr h27 ((⟨b22, 0, none⟩ : Addr).add 2) (.bool b21) fun h28 =>
  r35_least_b2 l lL lC inv invL invC best i (some ⟨b18, 0, none⟩) (some ⟨b22, 0, none⟩) h28 nx0 K) ∧
  (New h20 (.cells #[.int .i64 0, .int .i64 0, .bool false] 41) fun b26 h29 =>
  (∃ n43 : Int, ∃ n44 : Int, ∃ b27 : Bool, cell h29 (a3.add (Int.toNat r1 * 3)) = some (.int .i64 n43) ∧
  cell h29 ((a3.add (Int.toNat r1 * 3)).add 1) = some (.int .i64 n44) ∧
  cell h29 ((a3.add (Int.toNat r1 * 3)).add 2) = some (.bool b27) ∧
  (.agg #[.int .i64 n43, .int .i64 n44, .bool b27] : Value) = .agg #[.int .i64 n4, .int .i64 n5, .bool b1]) ∧
  (∃ n45 : Int, cell h29 (a2.add (Int.toNat best * 1)) = some (.int .i64 n45) ∧
  (.int .i64 n45 : Value) = .int .i64 n2) ∧
  HCalls Tryz.prog 15 #[.slice l lL lC, .int .i64 n2] h29 fun v4 h30 => ∃ r4 : Int, v4 = .int .i64 r4 ∧
  (∃ n46 : Int, ∃ n47 : Int, ∃ b28 : Bool, cell h30 (a3.add (Int.toNat r1 * 3)) = some (.int .i64 n46) ∧
  cell h30 ((a3.add (Int.toNat r1 * 3)).add 1) = some (.int .i64 n47) ∧
  cell h30 ((a3.add (Int.toNat r1 * 3)).add 2) = some (.bool b28) ∧
  (.agg #[.int .i64 n46, .int .i64 n47, .bool b28] : Value) = .agg #[.int .i64 n4, .int .i64 n5, .bool b1]) ∧
  (0 ≤ r4 ∧ r4 < (lL : Int)) ∧
  NN l fun a6 =>
  ∃ n48 : Int, ∃ n49 : Int, ∃ b29 : Bool, cell h30 (a6.add (Int.toNat r4 * 3)) = some (.int .i64 n48) ∧
  cell h30 ((a6.add (Int.toNat r4 * 3)).add 1) = some (.int .i64 n49) ∧
  cell h30 ((a6.add (Int.toNat r4 * 3)).add 2) = some (.bool b29) ∧
  Wr h30 ⟨b18, 0, none⟩ (.int .i64 n4) fun h31 =>
  Wr h31 ((⟨b18, 0, none⟩ : Addr).add 1) (.int .i64 n5) fun h32 =>
  Wr h32 ((⟨b18, 0, none⟩ : Addr).add 2) (.bool b1) fun h33 =>
  (∃ n50 : Int, ∃ n51 : Int, ∃ b30 : Bool, cell h33 (a6.add (Int.toNat r4 * 3)) = some (.int .i64 n50) ∧
  cell h33 ((a6.add (Int.toNat r4 * 3)).add 1) = some (.int .i64 n51) ∧
  cell h33 ((a6.add (Int.toNat r4 * 3)).add 2) = some (.bool b30) ∧
  (.agg #[.int .i64 n50, .int .i64 n51, .bool b30] : Value) = .agg #[.int .i64 n48, .int .i64 n49, .bool b29]) ∧
  Wr h33 ⟨b26, 0, none⟩ (.int .i64 n48) fun h34 =>
  Wr h34 ((⟨b26, 0, none⟩ : Addr).add 1) (.int .i64 n49) fun h35 =>
  Wr h35 ((⟨b26, 0, none⟩ : Addr).add 2) (.bool b29) fun h36 =>
  r35_least_b2 l lL lC inv invL invC best i (some ⟨b18, 0, none⟩) (some ⟨b26, 0, none⟩) h36 nx0 K)) ∧
  (New h2 (.cells #[.int .i64 0, .int .i64 0, .bool false] 41) fun b31 h37 =>
  (∃ n52 : Int, ∃ n53 : Int, ∃ b32 : Bool, cell h37 (a3.add (Int.toNat r1 * 3)) = some (.int .i64 n52) ∧
  cell h37 ((a3.add (Int.toNat r1 * 3)).add 1) = some (.int .i64 n53) ∧
  cell h37 ((a3.add (Int.toNat r1 * 3)).add 2) = some (.bool b32) ∧
  (.agg #[.int .i64 n52, .int .i64 n53, .bool b32] : Value) = .agg #[.int .i64 n4, .int .i64 n5, .bool b1]) ∧
  (∃ n54 : Int, cell h37 (a2.add (Int.toNat best * 1)) = some (.int .i64 n54) ∧
  (.int .i64 n54 : Value) = .int .i64 n2) ∧
  (HCalls Tryz.prog 15 #[.slice l lL lC, .int .i64 n2] h37 fun v5 h38 => ∃ r5 : Int, v5 = .int .i64 r5 ∧
  (∃ n55 : Int, ∃ n56 : Int, ∃ b33 : Bool, cell h38 (a3.add (Int.toNat r1 * 3)) = some (.int .i64 n55) ∧
  cell h38 ((a3.add (Int.toNat r1 * 3)).add 1) = some (.int .i64 n56) ∧
  cell h38 ((a3.add (Int.toNat r1 * 3)).add 2) = some (.bool b33) ∧
  (.agg #[.int .i64 n55, .int .i64 n56, .bool b33] : Value) = .agg #[.int .i64 n4, .int .i64 n5, .bool b1]) ∧
  (0 ≤ r5 ∧ r5 < (lL : Int)) ∧
  NN l fun a7 =>
  ∃ n57 : Int, ∃ n58 : Int, ∃ b34 : Bool, cell h38 (a7.add (Int.toNat r5 * 3)) = some (.int .i64 n57) ∧
  cell h38 ((a7.add (Int.toNat r5 * 3)).add 1) = some (.int .i64 n58) ∧
  cell h38 ((a7.add (Int.toNat r5 * 3)).add 2) = some (.bool b34) ∧
  New h38 (.cells #[.int .i64 0, .int .i64 0, .bool false] 41) fun b35 h39 =>
  (∃ n59 : Int, ∃ n60 : Int, ∃ b36 : Bool, cell h39 (a7.add (Int.toNat r5 * 3)) = some (.int .i64 n59) ∧
  cell h39 ((a7.add (Int.toNat r5 * 3)).add 1) = some (.int .i64 n60) ∧
  cell h39 ((a7.add (Int.toNat r5 * 3)).add 2) = some (.bool b36) ∧
  (.agg #[.int .i64 n59, .int .i64 n60, .bool b36] : Value) = .agg #[.int .i64 n57, .int .i64 n58, .bool b34]) ∧
  (∃ n61 : Int, ∃ n62 : Int, ∃ b37 : Bool, cell h39 (a3.add (Int.toNat r1 * 3)) = some (.int .i64 n61) ∧
  cell h39 ((a3.add (Int.toNat r1 * 3)).add 1) = some (.int .i64 n62) ∧
  cell h39 ((a3.add (Int.toNat r1 * 3)).add 2) = some (.bool b37) ∧
  (.agg #[.int .i64 n61, .int .i64 n62, .bool b37] : Value) = .agg #[.int .i64 n4, .int .i64 n5, .bool b1]) ∧
  Wr h39 ⟨b35, 0, none⟩ (.int .i64 n4) fun h40 =>
  Wr h40 ((⟨b35, 0, none⟩ : Addr).add 1) (.int .i64 n5) fun h41 =>
  Wr h41 ((⟨b35, 0, none⟩ : Addr).add 2) (.bool b1) fun h42 =>
  (∃ n63 : Int, ∃ n64 : Int, ∃ b38 : Bool, cell h42 (a7.add (Int.toNat r5 * 3)) = some (.int .i64 n63) ∧
  cell h42 ((a7.add (Int.toNat r5 * 3)).add 1) = some (.int .i64 n64) ∧
  cell h42 ((a7.add (Int.toNat r5 * 3)).add 2) = some (.bool b38) ∧
  (.agg #[.int .i64 n63, .int .i64 n64, .bool b38] : Value) = .agg #[.int .i64 n57, .int .i64 n58, .bool b34]) ∧
  Wr h42 ⟨b31, 0, none⟩ (.int .i64 n57) fun h43 =>
  Wr h43 ((⟨b31, 0, none⟩ : Addr).add 1) (.int .i64 n58) fun h44 =>
  Wr h44 ((⟨b31, 0, none⟩ : Addr).add 2) (.bool b34) fun h45 =>
  r35_least_b2 l lL lC inv invL invC best i (some ⟨b35, 0, none⟩) (some ⟨b31, 0, none⟩) h45 nx0 K) ∧
  (New h37 (.cells #[.int .i64 0, .int .i64 0, .bool false] 41) fun b39 h46 =>
  (∃ n65 : Int, ∃ n66 : Int, ∃ b40 : Bool, cell h46 (a3.add (Int.toNat r1 * 3)) = some (.int .i64 n65) ∧
  cell h46 ((a3.add (Int.toNat r1 * 3)).add 1) = some (.int .i64 n66) ∧
  cell h46 ((a3.add (Int.toNat r1 * 3)).add 2) = some (.bool b40) ∧
  (.agg #[.int .i64 n65, .int .i64 n66, .bool b40] : Value) = .agg #[.int .i64 n4, .int .i64 n5, .bool b1]) ∧
  (∃ n67 : Int, cell h46 (a2.add (Int.toNat best * 1)) = some (.int .i64 n67) ∧
  (.int .i64 n67 : Value) = .int .i64 n2) ∧
  HCalls Tryz.prog 15 #[.slice l lL lC, .int .i64 n2] h46 fun v6 h47 => ∃ r6 : Int, v6 = .int .i64 r6 ∧
  (∃ n68 : Int, ∃ n69 : Int, ∃ b41 : Bool, cell h47 (a3.add (Int.toNat r1 * 3)) = some (.int .i64 n68) ∧
  cell h47 ((a3.add (Int.toNat r1 * 3)).add 1) = some (.int .i64 n69) ∧
  cell h47 ((a3.add (Int.toNat r1 * 3)).add 2) = some (.bool b41) ∧
  (.agg #[.int .i64 n68, .int .i64 n69, .bool b41] : Value) = .agg #[.int .i64 n4, .int .i64 n5, .bool b1]) ∧
  (0 ≤ r6 ∧ r6 < (lL : Int)) ∧
  NN l fun a8 =>
  ∃ n70 : Int, ∃ n71 : Int, ∃ b42 : Bool, cell h47 (a8.add (Int.toNat r6 * 3)) = some (.int .i64 n70) ∧
  cell h47 ((a8.add (Int.toNat r6 * 3)).add 1) = some (.int .i64 n71) ∧
  cell h47 ((a8.add (Int.toNat r6 * 3)).add 2) = some (.bool b42) ∧
  Wr h47 ⟨b39, 0, none⟩ (.int .i64 n4) fun h48 =>
  Wr h48 ((⟨b39, 0, none⟩ : Addr).add 1) (.int .i64 n5) fun h49 =>
  Wr h49 ((⟨b39, 0, none⟩ : Addr).add 2) (.bool b1) fun h50 =>
  (∃ n72 : Int, ∃ n73 : Int, ∃ b43 : Bool, cell h50 (a8.add (Int.toNat r6 * 3)) = some (.int .i64 n72) ∧
  cell h50 ((a8.add (Int.toNat r6 * 3)).add 1) = some (.int .i64 n73) ∧
  cell h50 ((a8.add (Int.toNat r6 * 3)).add 2) = some (.bool b43) ∧
  (.agg #[.int .i64 n72, .int .i64 n73, .bool b43] : Value) = .agg #[.int .i64 n70, .int .i64 n71, .bool b42]) ∧
  Wr h50 ⟨b31, 0, none⟩ (.int .i64 n70) fun h51 =>
  Wr h51 ((⟨b31, 0, none⟩ : Addr).add 1) (.int .i64 n71) fun h52 =>
  Wr h52 ((⟨b31, 0, none⟩ : Addr).add 2) (.bool b42) fun h53 =>
  r35_least_b2 l lL lC inv invL invC best i (some ⟨b39, 0, none⟩) (some ⟨b31, 0, none⟩) h53 nx0 K))) ∧
  (New h (.cells #[.int .i64 0, .int .i64 0, .bool false] 41) fun b44 h54 =>
  (∃ n74 : Int, cell h54 (a2.add (Int.toNat best * 1)) = some (.int .i64 n74) ∧
  (.int .i64 n74 : Value) = .int .i64 n2) ∧
  (∃ n75 : Int, cell h54 (a1.add (Int.toNat i * 1)) = some (.int .i64 n75) ∧
  (.int .i64 n75 : Value) = .int .i64 n1) ∧
  (HCalls Tryz.prog 15 #[.slice l lL lC, .int .i64 n1] h54 fun v7 h55 => ∃ r7 : Int, v7 = .int .i64 r7 ∧
  (∃ n76 : Int, cell h55 (a2.add (Int.toNat best * 1)) = some (.int .i64 n76) ∧
  (.int .i64 n76 : Value) = .int .i64 n2) ∧
  (0 ≤ r7 ∧ r7 < (lL : Int)) ∧
  NN l fun a9 =>
  ∃ n77 : Int, ∃ n78 : Int, ∃ b45 : Bool, cell h55 (a9.add (Int.toNat r7 * 3)) = some (.int .i64 n77) ∧
  cell h55 ((a9.add (Int.toNat r7 * 3)).add 1) = some (.int .i64 n78) ∧
  cell h55 ((a9.add (Int.toNat r7 * 3)).add 2) = some (.bool b45) ∧
  (HCalls Tryz.prog 15 #[.slice l lL lC, .int .i64 n2] h55 fun v8 h56 => ∃ r8 : Int, v8 = .int .i64 r8 ∧
  (∃ n79 : Int, ∃ n80 : Int, ∃ b46 : Bool, cell h56 (a9.add (Int.toNat r7 * 3)) = some (.int .i64 n79) ∧
  cell h56 ((a9.add (Int.toNat r7 * 3)).add 1) = some (.int .i64 n80) ∧
  cell h56 ((a9.add (Int.toNat r7 * 3)).add 2) = some (.bool b46) ∧
  (.agg #[.int .i64 n79, .int .i64 n80, .bool b46] : Value) = .agg #[.int .i64 n77, .int .i64 n78, .bool b45]) ∧
  (0 ≤ r8 ∧ r8 < (lL : Int)) ∧
  NN l fun a10 =>
  ∃ n81 : Int, ∃ n82 : Int, ∃ b47 : Bool, cell h56 (a10.add (Int.toNat r8 * 3)) = some (.int .i64 n81) ∧
  cell h56 ((a10.add (Int.toNat r8 * 3)).add 1) = some (.int .i64 n82) ∧
  cell h56 ((a10.add (Int.toNat r8 * 3)).add 2) = some (.bool b47) ∧
  New h56 (.cells #[.int .i64 0, .int .i64 0, .bool false] 41) fun b48 h57 =>
  (∃ n83 : Int, ∃ n84 : Int, ∃ b49 : Bool, cell h57 (a10.add (Int.toNat r8 * 3)) = some (.int .i64 n83) ∧
  cell h57 ((a10.add (Int.toNat r8 * 3)).add 1) = some (.int .i64 n84) ∧
  cell h57 ((a10.add (Int.toNat r8 * 3)).add 2) = some (.bool b49) ∧
  (.agg #[.int .i64 n83, .int .i64 n84, .bool b49] : Value) = .agg #[.int .i64 n81, .int .i64 n82, .bool b47]) ∧
  (∃ n85 : Int, ∃ n86 : Int, ∃ b50 : Bool, cell h57 (a9.add (Int.toNat r7 * 3)) = some (.int .i64 n85) ∧
  cell h57 ((a9.add (Int.toNat r7 * 3)).add 1) = some (.int .i64 n86) ∧
  cell h57 ((a9.add (Int.toNat r7 * 3)).add 2) = some (.bool b50) ∧
  (.agg #[.int .i64 n85, .int .i64 n86, .bool b50] : Value) = .agg #[.int .i64 n77, .int .i64 n78, .bool b45]) ∧
  Wr h57 ⟨b44, 0, none⟩ (.int .i64 n77) fun h58 =>
  Wr h58 ((⟨b44, 0, none⟩ : Addr).add 1) (.int .i64 n78) fun h59 =>
  Wr h59 ((⟨b44, 0, none⟩ : Addr).add 2) (.bool b45) fun h60 =>
  (∃ n87 : Int, ∃ n88 : Int, ∃ b51 : Bool, cell h60 (a10.add (Int.toNat r8 * 3)) = some (.int .i64 n87) ∧
  cell h60 ((a10.add (Int.toNat r8 * 3)).add 1) = some (.int .i64 n88) ∧
  cell h60 ((a10.add (Int.toNat r8 * 3)).add 2) = some (.bool b51) ∧
  (.agg #[.int .i64 n87, .int .i64 n88, .bool b51] : Value) = .agg #[.int .i64 n81, .int .i64 n82, .bool b47]) ∧
  Wr h60 ⟨b48, 0, none⟩ (.int .i64 n81) fun h61 =>
  Wr h61 ((⟨b48, 0, none⟩ : Addr).add 1) (.int .i64 n82) fun h62 =>
  Wr h62 ((⟨b48, 0, none⟩ : Addr).add 2) (.bool b47) fun h63 =>
  r35_least_b2 l lL lC inv invL invC best i (some ⟨b44, 0, none⟩) (some ⟨b48, 0, none⟩) h63 nx0 K) ∧
  (New h55 (.cells #[.int .i64 0, .int .i64 0, .bool false] 41) fun b52 h64 =>
  (∃ n89 : Int, ∃ n90 : Int, ∃ b53 : Bool, cell h64 (a9.add (Int.toNat r7 * 3)) = some (.int .i64 n89) ∧
  cell h64 ((a9.add (Int.toNat r7 * 3)).add 1) = some (.int .i64 n90) ∧
  cell h64 ((a9.add (Int.toNat r7 * 3)).add 2) = some (.bool b53) ∧
  (.agg #[.int .i64 n89, .int .i64 n90, .bool b53] : Value) = .agg #[.int .i64 n77, .int .i64 n78, .bool b45]) ∧
  (∃ n91 : Int, cell h64 (a2.add (Int.toNat best * 1)) = some (.int .i64 n91) ∧
  (.int .i64 n91 : Value) = .int .i64 n2) ∧
  HCalls Tryz.prog 15 #[.slice l lL lC, .int .i64 n2] h64 fun v9 h65 => ∃ r9 : Int, v9 = .int .i64 r9 ∧
  (∃ n92 : Int, ∃ n93 : Int, ∃ b54 : Bool, cell h65 (a9.add (Int.toNat r7 * 3)) = some (.int .i64 n92) ∧
  cell h65 ((a9.add (Int.toNat r7 * 3)).add 1) = some (.int .i64 n93) ∧
  cell h65 ((a9.add (Int.toNat r7 * 3)).add 2) = some (.bool b54) ∧
  (.agg #[.int .i64 n92, .int .i64 n93, .bool b54] : Value) = .agg #[.int .i64 n77, .int .i64 n78, .bool b45]) ∧
  (0 ≤ r9 ∧ r9 < (lL : Int)) ∧
  NN l fun a11 =>
  ∃ n94 : Int, ∃ n95 : Int, ∃ b55 : Bool, cell h65 (a11.add (Int.toNat r9 * 3)) = some (.int .i64 n94) ∧
  cell h65 ((a11.add (Int.toNat r9 * 3)).add 1) = some (.int .i64 n95) ∧
  cell h65 ((a11.add (Int.toNat r9 * 3)).add 2) = some (.bool b55) ∧
  Wr h65 ⟨b44, 0, none⟩ (.int .i64 n77) fun h66 =>
  Wr h66 ((⟨b44, 0, none⟩ : Addr).add 1) (.int .i64 n78) fun h67 =>
  Wr h67 ((⟨b44, 0, none⟩ : Addr).add 2) (.bool b45) fun h68 =>
  (∃ n96 : Int, ∃ n97 : Int, ∃ b56 : Bool, cell h68 (a11.add (Int.toNat r9 * 3)) = some (.int .i64 n96) ∧
  cell h68 ((a11.add (Int.toNat r9 * 3)).add 1) = some (.int .i64 n97) ∧
  cell h68 ((a11.add (Int.toNat r9 * 3)).add 2) = some (.bool b56) ∧
  (.agg #[.int .i64 n96, .int .i64 n97, .bool b56] : Value) = .agg #[.int .i64 n94, .int .i64 n95, .bool b55]) ∧
  Wr h68 ⟨b52, 0, none⟩ (.int .i64 n94) fun h69 =>
  Wr h69 ((⟨b52, 0, none⟩ : Addr).add 1) (.int .i64 n95) fun h70 =>
  Wr h70 ((⟨b52, 0, none⟩ : Addr).add 2) (.bool b55) fun h71 =>
  r35_least_b2 l lL lC inv invL invC best i (some ⟨b44, 0, none⟩) (some ⟨b52, 0, none⟩) h71 nx0 K)) ∧
  (New h54 (.cells #[.int .i64 0, .int .i64 0, .bool false] 41) fun b57 h72 =>
  (∃ n98 : Int, cell h72 (a2.add (Int.toNat best * 1)) = some (.int .i64 n98) ∧
  (.int .i64 n98 : Value) = .int .i64 n2) ∧
  (∃ n99 : Int, cell h72 (a1.add (Int.toNat i * 1)) = some (.int .i64 n99) ∧
  (.int .i64 n99 : Value) = .int .i64 n1) ∧
  HCalls Tryz.prog 15 #[.slice l lL lC, .int .i64 n1] h72 fun v10 h73 => ∃ r10 : Int, v10 = .int .i64 r10 ∧
  (∃ n100 : Int, cell h73 (a2.add (Int.toNat best * 1)) = some (.int .i64 n100) ∧
  (.int .i64 n100 : Value) = .int .i64 n2) ∧
  (0 ≤ r10 ∧ r10 < (lL : Int)) ∧
  NN l fun a12 =>
  ∃ n101 : Int, ∃ n102 : Int, ∃ b58 : Bool, cell h73 (a12.add (Int.toNat r10 * 3)) = some (.int .i64 n101) ∧
  cell h73 ((a12.add (Int.toNat r10 * 3)).add 1) = some (.int .i64 n102) ∧
  cell h73 ((a12.add (Int.toNat r10 * 3)).add 2) = some (.bool b58) ∧
  HCalls Tryz.prog 15 #[.slice l lL lC, .int .i64 n2] h73 fun v11 h74 => ∃ r11 : Int, v11 = .int .i64 r11 ∧
  (∃ n103 : Int, ∃ n104 : Int, ∃ b59 : Bool, cell h74 (a12.add (Int.toNat r10 * 3)) = some (.int .i64 n103) ∧
  cell h74 ((a12.add (Int.toNat r10 * 3)).add 1) = some (.int .i64 n104) ∧
  cell h74 ((a12.add (Int.toNat r10 * 3)).add 2) = some (.bool b59) ∧
  (.agg #[.int .i64 n103, .int .i64 n104, .bool b59] : Value) = .agg #[.int .i64 n101, .int .i64 n102, .bool b58]) ∧
  (0 ≤ r11 ∧ r11 < (lL : Int)) ∧
  NN l fun a13 =>
  ∃ n105 : Int, ∃ n106 : Int, ∃ b60 : Bool, cell h74 (a13.add (Int.toNat r11 * 3)) = some (.int .i64 n105) ∧
  cell h74 ((a13.add (Int.toNat r11 * 3)).add 1) = some (.int .i64 n106) ∧
  cell h74 ((a13.add (Int.toNat r11 * 3)).add 2) = some (.bool b60) ∧
  Wr h74 ⟨b44, 0, none⟩ (.int .i64 n101) fun h75 =>
  Wr h75 ((⟨b44, 0, none⟩ : Addr).add 1) (.int .i64 n102) fun h76 =>
  Wr h76 ((⟨b44, 0, none⟩ : Addr).add 2) (.bool b58) fun h77 =>
  (∃ n107 : Int, ∃ n108 : Int, ∃ b61 : Bool, cell h77 (a13.add (Int.toNat r11 * 3)) = some (.int .i64 n107) ∧
  cell h77 ((a13.add (Int.toNat r11 * 3)).add 1) = some (.int .i64 n108) ∧
  cell h77 ((a13.add (Int.toNat r11 * 3)).add 2) = some (.bool b61) ∧
  (.agg #[.int .i64 n107, .int .i64 n108, .bool b61] : Value) = .agg #[.int .i64 n105, .int .i64 n106, .bool b60]) ∧
  Wr h77 ⟨b57, 0, none⟩ (.int .i64 n105) fun h78 =>
  Wr h78 ((⟨b57, 0, none⟩ : Addr).add 1) (.int .i64 n106) fun h79 =>
  Wr h79 ((⟨b57, 0, none⟩ : Addr).add 2) (.bool b60) fun h80 =>
  r35_least_b2 l lL lC inv invL invC best i (some ⟨b44, 0, none⟩) (some ⟨b57, 0, none⟩) h80 nx0 K)) ∧
  (New h (.cells #[.int .i64 0, .int .i64 0, .bool false] 41) fun b62 h81 =>
  (∃ n109 : Int, cell h81 (a2.add (Int.toNat best * 1)) = some (.int .i64 n109) ∧
  (.int .i64 n109 : Value) = .int .i64 n2) ∧
  (∃ n110 : Int, cell h81 (a1.add (Int.toNat i * 1)) = some (.int .i64 n110) ∧
  (.int .i64 n110 : Value) = .int .i64 n1) ∧
  (HCalls Tryz.prog 15 #[.slice l lL lC, .int .i64 n1] h81 fun v12 h82 => ∃ r12 : Int, v12 = .int .i64 r12 ∧
  (∃ n111 : Int, cell h82 (a2.add (Int.toNat best * 1)) = some (.int .i64 n111) ∧
  (.int .i64 n111 : Value) = .int .i64 n2) ∧
  (0 ≤ r12 ∧ r12 < (lL : Int)) ∧
  NN l fun a14 =>
  ∃ n112 : Int, ∃ n113 : Int, ∃ b63 : Bool, cell h82 (a14.add (Int.toNat r12 * 3)) = some (.int .i64 n112) ∧
  cell h82 ((a14.add (Int.toNat r12 * 3)).add 1) = some (.int .i64 n113) ∧
  cell h82 ((a14.add (Int.toNat r12 * 3)).add 2) = some (.bool b63) ∧
  (HCalls Tryz.prog 15 #[.slice l lL lC, .int .i64 n2] h82 fun v13 h83 => ∃ r13 : Int, v13 = .int .i64 r13 ∧
  (∃ n114 : Int, ∃ n115 : Int, ∃ b64 : Bool, cell h83 (a14.add (Int.toNat r12 * 3)) = some (.int .i64 n114) ∧
  cell h83 ((a14.add (Int.toNat r12 * 3)).add 1) = some (.int .i64 n115) ∧
  cell h83 ((a14.add (Int.toNat r12 * 3)).add 2) = some (.bool b64) ∧
  (.agg #[.int .i64 n114, .int .i64 n115, .bool b64] : Value) = .agg #[.int .i64 n112, .int .i64 n113, .bool b63]) ∧
  (0 ≤ r13 ∧ r13 < (lL : Int)) ∧
  NN l fun a15 =>
  ∃ n116 : Int, ∃ n117 : Int, ∃ b65 : Bool, cell h83 (a15.add (Int.toNat r13 * 3)) = some (.int .i64 n116) ∧
  cell h83 ((a15.add (Int.toNat r13 * 3)).add 1) = some (.int .i64 n117) ∧
  cell h83 ((a15.add (Int.toNat r13 * 3)).add 2) = some (.bool b65) ∧
  New h83 (.cells #[.int .i64 0, .int .i64 0, .bool false] 41) fun b66 h84 =>
  (∃ n118 : Int, ∃ n119 : Int, ∃ b67 : Bool, cell h84 (a15.add (Int.toNat r13 * 3)) = some (.int .i64 n118) ∧
  cell h84 ((a15.add (Int.toNat r13 * 3)).add 1) = some (.int .i64 n119) ∧
  cell h84 ((a15.add (Int.toNat r13 * 3)).add 2) = some (.bool b67) ∧
  (.agg #[.int .i64 n118, .int .i64 n119, .bool b67] : Value) = .agg #[.int .i64 n116, .int .i64 n117, .bool b65]) ∧
  (∃ n120 : Int, ∃ n121 : Int, ∃ b68 : Bool, cell h84 (a14.add (Int.toNat r12 * 3)) = some (.int .i64 n120) ∧
  cell h84 ((a14.add (Int.toNat r12 * 3)).add 1) = some (.int .i64 n121) ∧
  cell h84 ((a14.add (Int.toNat r12 * 3)).add 2) = some (.bool b68) ∧
  (.agg #[.int .i64 n120, .int .i64 n121, .bool b68] : Value) = .agg #[.int .i64 n112, .int .i64 n113, .bool b63]) ∧
  Wr h84 ⟨b66, 0, none⟩ (.int .i64 n112) fun h85 =>
  Wr h85 ((⟨b66, 0, none⟩ : Addr).add 1) (.int .i64 n113) fun h86 =>
  Wr h86 ((⟨b66, 0, none⟩ : Addr).add 2) (.bool b63) fun h87 =>
  (∃ n122 : Int, ∃ n123 : Int, ∃ b69 : Bool, cell h87 (a15.add (Int.toNat r13 * 3)) = some (.int .i64 n122) ∧
  cell h87 ((a15.add (Int.toNat r13 * 3)).add 1) = some (.int .i64 n123) ∧
  cell h87 ((a15.add (Int.toNat r13 * 3)).add 2) = some (.bool b69) ∧
  (.agg #[.int .i64 n122, .int .i64 n123, .bool b69] : Value) = .agg #[.int .i64 n116, .int .i64 n117, .bool b65]) ∧
  Wr h87 ⟨b62, 0, none⟩ (.int .i64 n116) fun h88 =>
  Wr h88 ((⟨b62, 0, none⟩ : Addr).add 1) (.int .i64 n117) fun h89 =>
  Wr h89 ((⟨b62, 0, none⟩ : Addr).add 2) (.bool b65) fun h90 =>
  r35_least_b2 l lL lC inv invL invC best i (some ⟨b66, 0, none⟩) (some ⟨b62, 0, none⟩) h90 nx0 K) ∧
  (New h82 (.cells #[.int .i64 0, .int .i64 0, .bool false] 41) fun b70 h91 =>
  (∃ n124 : Int, ∃ n125 : Int, ∃ b71 : Bool, cell h91 (a14.add (Int.toNat r12 * 3)) = some (.int .i64 n124) ∧
  cell h91 ((a14.add (Int.toNat r12 * 3)).add 1) = some (.int .i64 n125) ∧
  cell h91 ((a14.add (Int.toNat r12 * 3)).add 2) = some (.bool b71) ∧
  (.agg #[.int .i64 n124, .int .i64 n125, .bool b71] : Value) = .agg #[.int .i64 n112, .int .i64 n113, .bool b63]) ∧
  (∃ n126 : Int, cell h91 (a2.add (Int.toNat best * 1)) = some (.int .i64 n126) ∧
  (.int .i64 n126 : Value) = .int .i64 n2) ∧
  HCalls Tryz.prog 15 #[.slice l lL lC, .int .i64 n2] h91 fun v14 h92 => ∃ r14 : Int, v14 = .int .i64 r14 ∧
  (∃ n127 : Int, ∃ n128 : Int, ∃ b72 : Bool, cell h92 (a14.add (Int.toNat r12 * 3)) = some (.int .i64 n127) ∧
  cell h92 ((a14.add (Int.toNat r12 * 3)).add 1) = some (.int .i64 n128) ∧
  cell h92 ((a14.add (Int.toNat r12 * 3)).add 2) = some (.bool b72) ∧
  (.agg #[.int .i64 n127, .int .i64 n128, .bool b72] : Value) = .agg #[.int .i64 n112, .int .i64 n113, .bool b63]) ∧
  (0 ≤ r14 ∧ r14 < (lL : Int)) ∧
  NN l fun a16 =>
  ∃ n129 : Int, ∃ n130 : Int, ∃ b73 : Bool, cell h92 (a16.add (Int.toNat r14 * 3)) = some (.int .i64 n129) ∧
  cell h92 ((a16.add (Int.toNat r14 * 3)).add 1) = some (.int .i64 n130) ∧
  cell h92 ((a16.add (Int.toNat r14 * 3)).add 2) = some (.bool b73) ∧
  Wr h92 ⟨b70, 0, none⟩ (.int .i64 n112) fun h93 =>
  Wr h93 ((⟨b70, 0, none⟩ : Addr).add 1) (.int .i64 n113) fun h94 =>
  Wr h94 ((⟨b70, 0, none⟩ : Addr).add 2) (.bool b63) fun h95 =>
  (∃ n131 : Int, ∃ n132 : Int, ∃ b74 : Bool, cell h95 (a16.add (Int.toNat r14 * 3)) = some (.int .i64 n131) ∧
  cell h95 ((a16.add (Int.toNat r14 * 3)).add 1) = some (.int .i64 n132) ∧
  cell h95 ((a16.add (Int.toNat r14 * 3)).add 2) = some (.bool b74) ∧
  (.agg #[.int .i64 n131, .int .i64 n132, .bool b74] : Value) = .agg #[.int .i64 n129, .int .i64 n130, .bool b73]) ∧
  Wr h95 ⟨b62, 0, none⟩ (.int .i64 n129) fun h96 =>
  Wr h96 ((⟨b62, 0, none⟩ : Addr).add 1) (.int .i64 n130) fun h97 =>
  Wr h97 ((⟨b62, 0, none⟩ : Addr).add 2) (.bool b73) fun h98 =>
  r35_least_b2 l lL lC inv invL invC best i (some ⟨b70, 0, none⟩) (some ⟨b62, 0, none⟩) h98 nx0 K)) ∧
  (New h81 (.cells #[.int .i64 0, .int .i64 0, .bool false] 41) fun b75 h99 =>
  (∃ n133 : Int, cell h99 (a2.add (Int.toNat best * 1)) = some (.int .i64 n133) ∧
  (.int .i64 n133 : Value) = .int .i64 n2) ∧
  (∃ n134 : Int, cell h99 (a1.add (Int.toNat i * 1)) = some (.int .i64 n134) ∧
  (.int .i64 n134 : Value) = .int .i64 n1) ∧
  HCalls Tryz.prog 15 #[.slice l lL lC, .int .i64 n1] h99 fun v15 h100 => ∃ r15 : Int, v15 = .int .i64 r15 ∧
  (∃ n135 : Int, cell h100 (a2.add (Int.toNat best * 1)) = some (.int .i64 n135) ∧
  (.int .i64 n135 : Value) = .int .i64 n2) ∧
  (0 ≤ r15 ∧ r15 < (lL : Int)) ∧
  NN l fun a17 =>
  ∃ n136 : Int, ∃ n137 : Int, ∃ b76 : Bool, cell h100 (a17.add (Int.toNat r15 * 3)) = some (.int .i64 n136) ∧
  cell h100 ((a17.add (Int.toNat r15 * 3)).add 1) = some (.int .i64 n137) ∧
  cell h100 ((a17.add (Int.toNat r15 * 3)).add 2) = some (.bool b76) ∧
  HCalls Tryz.prog 15 #[.slice l lL lC, .int .i64 n2] h100 fun v16 h101 => ∃ r16 : Int, v16 = .int .i64 r16 ∧
  (∃ n138 : Int, ∃ n139 : Int, ∃ b77 : Bool, cell h101 (a17.add (Int.toNat r15 * 3)) = some (.int .i64 n138) ∧
  cell h101 ((a17.add (Int.toNat r15 * 3)).add 1) = some (.int .i64 n139) ∧
  cell h101 ((a17.add (Int.toNat r15 * 3)).add 2) = some (.bool b77) ∧
  (.agg #[.int .i64 n138, .int .i64 n139, .bool b77] : Value) = .agg #[.int .i64 n136, .int .i64 n137, .bool b76]) ∧
  (0 ≤ r16 ∧ r16 < (lL : Int)) ∧
  NN l fun a18 =>
  ∃ n140 : Int, ∃ n141 : Int, ∃ b78 : Bool, cell h101 (a18.add (Int.toNat r16 * 3)) = some (.int .i64 n140) ∧
  cell h101 ((a18.add (Int.toNat r16 * 3)).add 1) = some (.int .i64 n141) ∧
  cell h101 ((a18.add (Int.toNat r16 * 3)).add 2) = some (.bool b78) ∧
  Wr h101 ⟨b75, 0, none⟩ (.int .i64 n136) fun h102 =>
  Wr h102 ((⟨b75, 0, none⟩ : Addr).add 1) (.int .i64 n137) fun h103 =>
  Wr h103 ((⟨b75, 0, none⟩ : Addr).add 2) (.bool b76) fun h104 =>
  (∃ n142 : Int, ∃ n143 : Int, ∃ b79 : Bool, cell h104 (a18.add (Int.toNat r16 * 3)) = some (.int .i64 n142) ∧
  cell h104 ((a18.add (Int.toNat r16 * 3)).add 1) = some (.int .i64 n143) ∧
  cell h104 ((a18.add (Int.toNat r16 * 3)).add 2) = some (.bool b79) ∧
  (.agg #[.int .i64 n142, .int .i64 n143, .bool b79] : Value) = .agg #[.int .i64 n140, .int .i64 n141, .bool b78]) ∧
  Wr h104 ⟨b62, 0, none⟩ (.int .i64 n140) fun h105 =>
  Wr h105 ((⟨b62, 0, none⟩ : Addr).add 1) (.int .i64 n141) fun h106 =>
  Wr h106 ((⟨b62, 0, none⟩ : Addr).add 2) (.bool b78) fun h107 =>
  r35_least_b2 l lL lC inv invL invC best i (some ⟨b75, 0, none⟩) (some ⟨b62, 0, none⟩) h107 nx0 K)))
  (r35_least_b3 best h  K)) := by kernel_rfl
theorem r35_least_b2_eq (l : Option Addr) (lL : Nat) (lC : Nat) (inv : Option Addr) (invL : Nat) (invC : Nat) (best : Int) (i : Int) (a : Option Addr) (b : Option Addr) (h : Hp) (nx0 : Int × Int × Unit → Hp → Prop) (K : Value → Hp → Prop) : r35_least_b2 l lL lC inv invL invC best i a b h nx0 K = (
  NN a fun a19 =>
  ∃ n144 : Int, cell h (a19.add 1) = some (.int .i64 n144) ∧
  NN b fun a20 =>
  ∃ n145 : Int, cell h (a20.add 1) = some (.int .i64 n145) ∧
  cond (decide (n144 < n145))
  (r35_least_b4 l lL lC inv invL invC i i h nx0 K)
  (NN a fun a21 =>
  ∃ n146 : Int, cell h (a21.add 1) = some (.int .i64 n146) ∧
  NN b fun a22 =>
  ∃ n147 : Int, cell h (a22.add 1) = some (.int .i64 n147) ∧
  cond (decide (n146 = n147))
  (NN a fun a23 =>
  ∃ n148 : Int, cell h a23 = some (.int .i64 n148) ∧
  NN b fun a24 =>
  ∃ n149 : Int, cell h a24 = some (.int .i64 n149) ∧
  cond (decide (n148 < n149))
  (r35_least_b4 l lL lC inv invL invC i i h nx0 K)
  (r35_least_b4 l lL lC inv invL invC best i h nx0 K))
  (r35_least_b4 l lL lC inv invL invC best i h nx0 K))) := by kernel_rfl
theorem r35_least_b3_eq (best : Int) (h : Hp)  (K : Value → Hp → Prop) : r35_least_b3 best h  K = (
  K (.int .i64 best) h) := by kernel_rfl
theorem r35_least_b4_eq (l : Option Addr) (lL : Nat) (lC : Nat) (inv : Option Addr) (invL : Nat) (invC : Nat) (best : Int) (i : Int) (h : Hp) (nx0 : Int × Int × Unit → Hp → Prop) (K : Value → Hp → Prop) : r35_least_b4 l lL lC inv invL invC best i h nx0 K = (
  InR (i + 1) ∧
  nx0 (best, i + 1, ()) h) := by kernel_rfl
theorem r35_least_call {l : Option Addr} {lL : Nat} {lC : Nat} {inv : Option Addr} {invL : Nat} {invC : Nat} {h : Hp} {K : Value → Hp → Prop} (hk : r35_least_b0 l lL lC inv invL invC h K) : HCalls Tryz.prog 58 #[.slice l lL lC, .slice inv invL invC] h K :=
  calls_of_snd r35_least_an Tryz.func58 (c := bodyOf Tryz.f58) rfl Tryz.ntmps58 (Nat.le_of_ble_eq_true rfl) (snd_3 F_ok F_mixed) hk

/-! ### slices_Index_Sint_int -/
def slices_Index_Sint_int_an : Ann := .node none (.leaf) (.node (some []) (.node none (.leaf) (.loop [0, 1, 7] [(8, .int .i64)] (.node none (.leaf) (.node none (.leaf) (.node (some [0, 1, 7, 8]) (.leaf) (.leaf)))))) (.leaf))
def slices_Index_Sint_int_K0  (K : Value → Hp → Prop) : Exit → Env → Hp → Prop := retK Tryz.prog Tryz.f59.results.toList K
def slices_Index_Sint_int_K1  (K : Value → Hp → Prop) : Exit → Env → Hp → Prop := thenE (fun env h => sx_2 Tryz.prog F 19 (cp [1, 1] (bodyOf Tryz.f59)) (ap [1, 1] slices_Index_Sint_int_an) (rs [] env) h (slices_Index_Sint_int_K0  K)) (slices_Index_Sint_int_K0  K)
def slices_Index_Sint_int_K2  (K : Value → Hp → Prop) : Exit → Env → Hp → Prop := blockE 0 (slices_Index_Sint_int_K1  K)
def slices_Index_Sint_int_K3 (nx0 : Int × Unit → Hp → Prop) (K : Value → Hp → Prop) : Exit → Env → Hp → Prop := thenE (fun env h => getV [(8, .int .i64)] env fun s => nx0 s h) (slices_Index_Sint_int_K2  K)
def slices_Index_Sint_int_b0 (s : Option Addr) (sL : Nat) (sC : Nat) (v : Int) (h : Hp)  (K : Value → Hp → Prop) : Prop :=
  sx_3 Tryz.prog F 19 (cp [] (bodyOf Tryz.f59)) (ap [] slices_Index_Sint_int_an) [(0, .slice s sL sC), (1, .int .i64 v)] h (slices_Index_Sint_int_K0  K)
def slices_Index_Sint_int_b1 (t8 : Int) (s : Option Addr) (sL : Nat) (sC : Nat) (v : Int) (t7 : Int) (h : Hp) (nx0 : Int × Unit → Hp → Prop) (K : Value → Hp → Prop) : Prop :=
  sx_2 Tryz.prog F 19 (cp [1, 0, 1, 2, 2] (bodyOf Tryz.f59)) (ap [1, 0, 1, 2] slices_Index_Sint_int_an) [(8, .int .i64 t8), (0, .slice s sL sC), (1, .int .i64 v), (7, .int .i64 t7)] h (slices_Index_Sint_int_K3 nx0 K)
def slices_Index_Sint_int_b2 (s : Option Addr) (sL : Nat) (sC : Nat) (v : Int) (t7 : Int) (t8 : Int) (h : Hp) (nx0 : Int × Unit → Hp → Prop) (K : Value → Hp → Prop) : Prop :=
  sx_1 Tryz.prog F 19 (cp [1, 0, 1, 2, 2, 1, 1, 1] (bodyOf Tryz.f59)) (ap [1, 0, 1, 2, 1, 1, 1] slices_Index_Sint_int_an) [(0, .slice s sL sC), (1, .int .i64 v), (7, .int .i64 t7), (8, .int .i64 t8)] h (slices_Index_Sint_int_K3 nx0 K)
def slices_Index_Sint_int_b3  (h : Hp)  (K : Value → Hp → Prop) : Prop :=
  sx_2 Tryz.prog F 19 (cp [1, 1] (bodyOf Tryz.f59)) (ap [1, 1] slices_Index_Sint_int_an) [] h (slices_Index_Sint_int_K0  K)
theorem slices_Index_Sint_int_b0_eq (s : Option Addr) (sL : Nat) (sC : Nat) (v : Int) (h : Hp)  (K : Value → Hp → Prop) : slices_Index_Sint_int_b0 s sL sC v h  K = (
  LoopVC ((0, ()) : Int × Unit) h (fun (nx0 : Int × Unit → Hp → Prop) (s1 : Int × Unit) h1 => slices_Index_Sint_int_b1 s1.1 s sL sC v (sL : Int) h1 nx0 K)) := by kernel_rfl
theorem slices_Index_Sint_int_b1_eq (t8 : Int) (s : Option Addr) (sL : Nat) (sC : Nat) (v : Int) (t7 : Int) (h : Hp) (nx0 : Int × Unit → Hp → Prop) (K : Value → Hp → Prop) : slices_Index_Sint_int_b1 t8 s sL sC v t7 h nx0 K = (
  cond (decide (t8 < t7))
  ((0 ≤ t8 ∧ t8 < (sL : Int)) ∧
  NN s fun a1 =>
  ∃ n1 : Int, cell h (a1.add (Int.toNat t8 * 1)) = some (.int .i64 n1) ∧
  cond (decide (v = n1))
  (K (.int .i64 t8) h)
  (slices_Index_Sint_int_b2 s sL sC v t7 t8 h nx0 K))
  (slices_Index_Sint_int_b3  h  K)) := by kernel_rfl
theorem slices_Index_Sint_int_b2_eq (s : Option Addr) (sL : Nat) (sC : Nat) (v : Int) (t7 : Int) (t8 : Int) (h : Hp) (nx0 : Int × Unit → Hp → Prop) (K : Value → Hp → Prop) : slices_Index_Sint_int_b2 s sL sC v t7 t8 h nx0 K = (
  InR (t8 + 1) ∧
  nx0 (t8 + 1, ()) h) := by kernel_rfl
theorem slices_Index_Sint_int_b3_eq  (h : Hp)  (K : Value → Hp → Prop) : slices_Index_Sint_int_b3  h  K = (
  K (.int .i64 (-1)) h) := by kernel_rfl
theorem slices_Index_Sint_int_call {s : Option Addr} {sL : Nat} {sC : Nat} {v : Int} {h : Hp} {K : Value → Hp → Prop} (hk : slices_Index_Sint_int_b0 s sL sC v h K) : HCalls Tryz.prog 59 #[.slice s sL sC, .int .i64 v] h K :=
  calls_of_snd slices_Index_Sint_int_an Tryz.func59 (c := bodyOf Tryz.f59) rfl Tryz.ntmps59 (Nat.le_of_ble_eq_true rfl) (snd_3 F_ok F_mixed) hk

/-! ### partialretro_Queue_add -/
def partialretro_Queue_add_an : Ann := .node none (.leaf) (.node none (.leaf) (.node none (.leaf) (.node (some [0, 3, 5]) (.leaf) (.node none (.plan (.qu 0 (.qu 1 (.qu 2 (.qu 3 (.qu 4 (.qu 6 (.qu 7 (.wo 5 (.wo 8 (.wo 9 (.wo 10 (.wo 11 .fin .no) .no) .no) .no) (.wo 8 (.wo 5 (.wo 9 (.wo 10 (.wo 11 .fin .no) .no) .no) .no) .no)))))))))) (.leaf)))))
def partialretro_Queue_add_K0  (K : Value → Hp → Prop) : Exit → Env → Hp → Prop := retK Tryz.prog Tryz.f60.results.toList K
def partialretro_Queue_add_b0 (q : Option Addr) (a_0 : Int) (a_1 : Int) (a_2 : Bool) (h : Hp)  (K : Value → Hp → Prop) : Prop :=
  sx_2 Tryz.prog F 38 (cp [] (bodyOf Tryz.f60)) (ap [] partialretro_Queue_add_an) [(0, .pointer q), (1, .agg #[.int .i64 a_0, .int .i64 a_1, .bool a_2])] h (partialretro_Queue_add_K0  K)
def partialretro_Queue_add_b1 (q : Option Addr) (a : Option Addr) (i : Int) (h : Hp)  (K : Value → Hp → Prop) : Prop :=
  sx_1 Tryz.prog F 38 (cp [1, 1, 1, 1] (bodyOf Tryz.f60)) (ap [1, 1, 1, 1] partialretro_Queue_add_an) [(0, .pointer q), (3, .pointer a), (5, .int .i64 i)] h (partialretro_Queue_add_K0  K)
theorem partialretro_Queue_add_b0_eq (q : Option Addr) (a_0 : Int) (a_1 : Int) (a_2 : Bool) (h : Hp)  (K : Value → Hp → Prop) : partialretro_Queue_add_b0 q a_0 a_1 a_2 h  K = (
  New h (.cells #[.int .i64 a_0, .int .i64 a_1, .bool a_2] 106) fun b1 h1 =>
  ∃ n1 : Int, cell h1 ⟨b1, 0, none⟩ = some (.int .i64 n1) ∧
  HCalls Tryz.prog 65 #[.int .i64 n1] h1 fun v1 h2 => ∃ r1 : Bool, v1 = .bool r1 ∧
  cond (!r1)
  (K (.int .i64 2) h2)
  (∃ n2 : Int, cell h2 ⟨b1, 0, none⟩ = some (.int .i64 n2) ∧
  HCalls Tryz.prog 66 #[.pointer q, .int .i64 n2] h2 fun v2 h3 => ∃ r2 : Int, ∃ r3 : Bool, v2 = .tuple #[.int .i64 r2, .bool r3] ∧
  cond r3
  (K (.int .i64 15) h3)
  (NN q fun a1 =>
  ∃ (a2 : Option Addr) (L1 C1 : Nat), cell h3 a1 = some (.slice a2 L1 C1) ∧
  cond (decide ((2000 : Int) ≤ (L1 : Int)))
  (K (.int .i64 4) h3)
  (partialretro_Queue_add_b1 q (some ⟨b1, 0, none⟩) r2 h3  K)))) := by kernel_rfl
theorem partialretro_Queue_add_b1_eq (q : Option Addr) (a : Option Addr) (i : Int) (h : Hp)  (K : Value → Hp → Prop) : partialretro_Queue_add_b1 q a i h  K = (
  NN q fun a3 =>
  ∃ (a4 : Option Addr) (L2 C2 : Nat), cell h a3 = some (.slice a4 L2 C2) ∧
  NN a fun a5 =>
  ∃ n3 : Int, ∃ n4 : Int, ∃ b2 : Bool, cell h a5 = some (.int .i64 n3) ∧
  cell h (a5.add 1) = some (.int .i64 n4) ∧
  cell h (a5.add 2) = some (.bool b2) ∧
  (HCalls Tryz.prog 69 #[.slice a4 L2 C2] h fun v3 h4 => ∃ (r4 : Option Addr) (rL1 rC1 : Nat), v3 = .slice r4 rL1 rC1 ∧
  (NN a fun a6 =>
  ∃ n5 : Int, ∃ n6 : Int, ∃ b3 : Bool, cell h4 a6 = some (.int .i64 n5) ∧
  cell h4 (a6.add 1) = some (.int .i64 n6) ∧
  cell h4 (a6.add 2) = some (.bool b3) ∧
  (.agg #[.int .i64 n5, .int .i64 n6, .bool b3] : Value) = .agg #[.int .i64 n3, .int .i64 n4, .bool b2]) ∧
  New h4 (.cells #[.int .i64 n3, .int .i64 n4, .bool b2] 106) fun b4 h5 =>
  HCalls Tryz.prog 98 #[.slice r4 rL1 rC1, .int .i64 i, .slice (some ⟨b4, 0, none⟩) 1 1] h5 fun v4 h6 => ∃ (r5 : Option Addr) (rL2 rC2 : Nat), v4 = .slice r5 rL2 rC2 ∧
  HCalls Tryz.prog 67 #[.pointer q, .slice r5 rL2 rC2] h6 fun v5 h7 => ∃ r6 : Int, v5 = .int .i64 r6 ∧
  K (.int .i64 r6) h7) ∧
  (New h (.cells #[.int .i64 n3, .int .i64 n4, .bool b2] 106) fun b5 h8 =>
  (∃ (a7 : Option Addr) (L3 C3 : Nat), cell h8 a3 = some (.slice a7 L3 C3) ∧
  (.slice a7 L3 C3 : Value) = .slice a4 L2 C2) ∧
  HCalls Tryz.prog 69 #[.slice a4 L2 C2] h8 fun v6 h9 => ∃ (r7 : Option Addr) (rL3 rC3 : Nat), v6 = .slice r7 rL3 rC3 ∧
  HCalls Tryz.prog 98 #[.slice r7 rL3 rC3, .int .i64 i, .slice (some ⟨b5, 0, none⟩) 1 1] h9 fun v7 h10 => ∃ (r8 : Option Addr) (rL4 rC4 : Nat), v7 = .slice r8 rL4 rC4 ∧
  HCalls Tryz.prog 67 #[.pointer q, .slice r8 rL4 rC4] h10 fun v8 h11 => ∃ r9 : Int, v8 = .int .i64 r9 ∧
  K (.int .i64 r9) h11)) := by kernel_rfl
theorem partialretro_Queue_add_call {q : Option Addr} {a_0 : Int} {a_1 : Int} {a_2 : Bool} {h : Hp} {K : Value → Hp → Prop} (hk : partialretro_Queue_add_b0 q a_0 a_1 a_2 h K) : HCalls Tryz.prog 60 #[.pointer q, .agg #[.int .i64 a_0, .int .i64 a_1, .bool a_2]] h K :=
  calls_of_snd partialretro_Queue_add_an Tryz.func60 (c := bodyOf Tryz.f60) rfl Tryz.ntmps60 (Nat.le_of_ble_eq_true rfl) (snd_2 F_ok F_mixed) hk

/-! ### cmp_Less_int -/
def cmp_Less_int_an : Ann := .leaf
def cmp_Less_int_K0  (K : Value → Hp → Prop) : Exit → Env → Hp → Prop := retK Tryz.prog Tryz.f61.results.toList K
def cmp_Less_int_b0 (x : Int) (y : Int) (h : Hp)  (K : Value → Hp → Prop) : Prop :=
  sx_1 Tryz.prog F 17 (cp [] (bodyOf Tryz.f61)) (ap [] cmp_Less_int_an) [(0, .int .i64 x), (1, .int .i64 y)] h (cmp_Less_int_K0  K)
theorem cmp_Less_int_b0_eq (x : Int) (y : Int) (h : Hp)  (K : Value → Hp → Prop) : cmp_Less_int_b0 x y h  K = (
  HCalls Tryz.prog 99 #[.int .i64 x] h fun v1 h1 => ∃ r1 : Bool, v1 = .bool r1 ∧
  cond r1
  (HCalls Tryz.prog 99 #[.int .i64 y] h1 fun v2 h2 => ∃ r2 : Bool, v2 = .bool r2 ∧
  cond (!r2)
  (K (.bool true) h2)
  (K (.bool (decide (x < y))) h2))
  (K (.bool (decide (x < y))) h1)) := by kernel_rfl
theorem cmp_Less_int_call {x : Int} {y : Int} {h : Hp} {K : Value → Hp → Prop} (hk : cmp_Less_int_b0 x y h K) : HCalls Tryz.prog 61 #[.int .i64 x, .int .i64 y] h K :=
  calls_of_snd cmp_Less_int_an Tryz.func61 (c := bodyOf Tryz.f61) rfl Tryz.ntmps61 (Nat.le_of_ble_eq_true rfl) (snd_1 F_ok F_mixed) hk

/-! ### slices_isNaN_int -/
def slices_isNaN_int_an : Ann := .leaf
def slices_isNaN_int_K0  (K : Value → Hp → Prop) : Exit → Env → Hp → Prop := retK Tryz.prog Tryz.f62.results.toList K
def slices_isNaN_int_b0 (x : Int) (h : Hp)  (K : Value → Hp → Prop) : Prop :=
  sx_1 Tryz.prog F 6 (cp [] (bodyOf Tryz.f62)) (ap [] slices_isNaN_int_an) [(0, .int .i64 x)] h (slices_isNaN_int_K0  K)
theorem slices_isNaN_int_b0_eq (x : Int) (h : Hp)  (K : Value → Hp → Prop) : slices_isNaN_int_b0 x h  K = (
  K (.bool (!decide (x = x))) h) := by kernel_rfl
theorem slices_isNaN_int_call {x : Int} {h : Hp} {K : Value → Hp → Prop} (hk : slices_isNaN_int_b0 x h K) : HCalls Tryz.prog 62 #[.int .i64 x] h K :=
  calls_of_snd slices_isNaN_int_an Tryz.func62 (c := bodyOf Tryz.f62) rfl Tryz.ntmps62 (Nat.le_of_ble_eq_true rfl) (snd_1 F_ok F_mixed) hk


/-! ### partialretro_timed -/
def partialretro_timed_an : Ann := .leaf
def partialretro_timed_K0  (K : Value → Hp → Prop) : Exit → Env → Hp → Prop := retK Tryz.prog Tryz.f65.results.toList K
def partialretro_timed_b0 (nv : Int) (h : Hp)  (K : Value → Hp → Prop) : Prop :=
  sx_1 Tryz.prog F 9 (cp [] (bodyOf Tryz.f65)) (ap [] partialretro_timed_an) [(0, .int .i64 nv)] h (partialretro_timed_K0  K)
theorem partialretro_timed_b0_eq (nv : Int) (h : Hp)  (K : Value → Hp → Prop) : partialretro_timed_b0 nv h  K = (
  cond (decide ((0 : Int) ≤ nv))
  (K (.bool (decide (nv ≤ 1073741824))) h)
  (K (.bool false) h)) := by kernel_rfl
theorem partialretro_timed_call {nv : Int} {h : Hp} {K : Value → Hp → Prop} (hk : partialretro_timed_b0 nv h K) : HCalls Tryz.prog 65 #[.int .i64 nv] h K :=
  calls_of_snd partialretro_timed_an Tryz.func65 (c := bodyOf Tryz.f65) rfl Tryz.ntmps65 (Nat.le_of_ble_eq_true rfl) (snd_1 F_ok F_mixed) hk

/-! ### partialretro_Queue_find -/
def partialretro_Queue_find_an : Ann := .leaf
def partialretro_Queue_find_K0  (K : Value → Hp → Prop) : Exit → Env → Hp → Prop := retK Tryz.prog Tryz.f66.results.toList K
def partialretro_Queue_find_b0 (q : Option Addr) (time : Int) (h : Hp)  (K : Value → Hp → Prop) : Prop :=
  sx_1 Tryz.prog F 14 (cp [] (bodyOf Tryz.f66)) (ap [] partialretro_Queue_find_an) [(0, .pointer q), (1, .int .i64 time)] h (partialretro_Queue_find_K0  K)
theorem partialretro_Queue_find_b0_eq (q : Option Addr) (time : Int) (h : Hp)  (K : Value → Hp → Prop) : partialretro_Queue_find_b0 q time h  K = (
  NN q fun a1 =>
  ∃ (a2 : Option Addr) (L1 C1 : Nat), cell h a1 = some (.slice a2 L1 C1) ∧
  HCalls Tryz.prog 101 #[.slice a2 L1 C1, .int .i64 time, .func (.func 102) #[] #[]] h fun v1 h1 => ∃ r1 : Int, ∃ r2 : Bool, v1 = .tuple #[.int .i64 r1, .bool r2] ∧
  K (.tuple #[.int .i64 r1, .bool r2]) h1) := by kernel_rfl
theorem partialretro_Queue_find_call {q : Option Addr} {time : Int} {h : Hp} {K : Value → Hp → Prop} (hk : partialretro_Queue_find_b0 q time h K) : HCalls Tryz.prog 66 #[.pointer q, .int .i64 time] h K :=
  calls_of_snd partialretro_Queue_find_an Tryz.func66 (c := bodyOf Tryz.f66) rfl Tryz.ntmps66 (Nat.le_of_ble_eq_true rfl) (snd_1 F_ok F_mixed) hk

/-! ### partialretro_Queue_change -/
def partialretro_Queue_change_an : Ann := .leaf
def partialretro_Queue_change_K0  (K : Value → Hp → Prop) : Exit → Env → Hp → Prop := retK Tryz.prog Tryz.f67.results.toList K
def partialretro_Queue_change_b0 (q : Option Addr) (l : Option Addr) (lL : Nat) (lC : Nat) (h : Hp)  (K : Value → Hp → Prop) : Prop :=
  sx_1 Tryz.prog F 19 (cp [] (bodyOf Tryz.f67)) (ap [] partialretro_Queue_change_an) [(0, .pointer q), (1, .slice l lL lC)] h (partialretro_Queue_change_K0  K)
theorem partialretro_Queue_change_b0_eq (q : Option Addr) (l : Option Addr) (lL : Nat) (lC : Nat) (h : Hp)  (K : Value → Hp → Prop) : partialretro_Queue_change_b0 q l lL lC h  K = (
  HCalls Tryz.prog 104 #[.slice l lL lC] h fun v1 h1 => ∃ r1 : Option Addr, ∃ r2 : Bool, v1 = .tuple #[.pointer r1, .bool r2] ∧
  cond (!r2)
  (K (.int .i64 14) h1)
  (NN r1 fun a1 =>
  ∃ (a2 : Option Addr) (L1 C1 : Nat), ∃ (a3 : Option Addr) (L2 C2 : Nat), ∃ (a4 : Option Addr) (L3 C3 : Nat), cell h1 a1 = some (.slice a2 L1 C1) ∧
  cell h1 (a1.add 1) = some (.slice a3 L2 C2) ∧
  cell h1 (a1.add 2) = some (.slice a4 L3 C3) ∧
  NN q fun a5 =>
  Wr h1 a5 (.slice a2 L1 C1) fun h2 =>
  Wr h2 (a5.add 1) (.slice a3 L2 C2) fun h3 =>
  Wr h3 (a5.add 2) (.slice a4 L3 C3) fun h4 =>
  K (.int .i64 0) h4)) := by kernel_rfl
theorem partialretro_Queue_change_call {q : Option Addr} {l : Option Addr} {lL : Nat} {lC : Nat} {h : Hp} {K : Value → Hp → Prop} (hk : partialretro_Queue_change_b0 q l lL lC h K) : HCalls Tryz.prog 67 #[.pointer q, .slice l lL lC] h K :=
  calls_of_snd partialretro_Queue_change_an Tryz.func67 (c := bodyOf Tryz.f67) rfl Tryz.ntmps67 (Nat.le_of_ble_eq_true rfl) (snd_1 F_ok F_mixed) hk

/-! ### slices_Delete_Spartialretro_action_partialretro_action -/
def slices_Delete_Spartialretro_action_partialretro_action_an : Ann := .node none (.leaf) (.node none (.leaf) (.node none (.leaf) (.node none (.leaf) (.node none (.tail 6) (.leaf)))))
def slices_Delete_Spartialretro_action_partialretro_action_K0  (K : Value → Hp → Prop) : Exit → Env → Hp → Prop := retK Tryz.prog Tryz.f68.results.toList K
def slices_Delete_Spartialretro_action_partialretro_action_b0 (s : Option Addr) (sL : Nat) (sC : Nat) (i : Int) (j : Int) (h : Hp)  (K : Value → Hp → Prop) : Prop :=
  sx_1 Tryz.prog F 33 (cp [] (bodyOf Tryz.f68)) (ap [] slices_Delete_Spartialretro_action_partialretro_action_an) [(0, .slice s sL sC), (1, .int .i64 i), (2, .int .i64 j)] h (slices_Delete_Spartialretro_action_partialretro_action_K0  K)
theorem slices_Delete_Spartialretro_action_partialretro_action_b0_eq (s : Option Addr) (sL : Nat) (sC : Nat) (i : Int) (j : Int) (h : Hp)  (K : Value → Hp → Prop) : slices_Delete_Spartialretro_action_partialretro_action_b0 s sL sC i j h  K = (
  ∃ (a1 : Option Addr) (l1 c1 : Nat), slC Tryz.prog 93 (.slice s sL sC) (some (.int .i64 i)) (some (.int .i64 j)) (.int .i64 (sL : Int)) h a1 l1 c1 ∧
  cond (decide (i = j))
  (K (.slice s sL sC) h)
  ((0 ≤ (0 : Int) ∧ (0 : Int) ≤ i ∧ i ≤ (sC : Int)) ∧
  (0 ≤ j ∧ j ≤ (sL : Int) ∧ (sL : Int) ≤ (sC : Int)) ∧
  appendV Tryz.prog 93 93 (.slice (subAddr s sC (Int.toNat (0 : Int)) 3) (Int.toNat i - Int.toNat (0 : Int)) (sC - Int.toNat (0 : Int))) (.slice (subAddr s sC (Int.toNat j) 3) (Int.toNat (sL : Int) - Int.toNat j) (sC - Int.toNat j)) h (slK fun a2 l2 c2 h1 =>
  (0 ≤ (l2 : Int) ∧ (l2 : Int) ≤ (sL : Int) ∧ (sL : Int) ≤ (c2 : Int)) ∧
  clearV Tryz.prog 93 (.slice (subAddr a2 c2 (Int.toNat (l2 : Int)) 3) (Int.toNat (sL : Int) - Int.toNat (l2 : Int)) (c2 - Int.toNat (l2 : Int))) h1 fun h2 =>
  K (.slice a2 l2 c2) h2))) := by kernel_rfl
theorem slices_Delete_Spartialretro_action_partialretro_action_call {s : Option Addr} {sL : Nat} {sC : Nat} {i : Int} {j : Int} {h : Hp} {K : Value → Hp → Prop} (hk : slices_Delete_Spartialretro_action_partialretro_action_b0 s sL sC i j h K) : HCalls Tryz.prog 68 #[.slice s sL sC, .int .i64 i, .int .i64 j] h K :=
  calls_of_snd slices_Delete_Spartialretro_action_partialretro_action_an Tryz.func68 (c := bodyOf Tryz.f68) rfl Tryz.ntmps68 (Nat.le_of_ble_eq_true rfl) (snd_1 F_ok F_mixed) hk

/-! ### slices_Clone_Spartialretro_action_partialretro_action -/
def slices_Clone_Spartialretro_action_partialretro_action_an : Ann := .leaf
def slices_Clone_Spartialretro_action_partialretro_action_K0  (K : Value → Hp → Prop) : Exit → Env → Hp → Prop := retK Tryz.prog Tryz.f69.results.toList K
def slices_Clone_Spartialretro_action_partialretro_action_b0 (s : Option Addr) (sL : Nat) (sC : Nat) (h : Hp)  (K : Value → Hp → Prop) : Prop :=
  sx_1 Tryz.prog F 8 (cp [] (bodyOf Tryz.f69)) (ap [] slices_Clone_Spartialretro_action_partialretro_action_an) [(0, .slice s sL sC)] h (slices_Clone_Spartialretro_action_partialretro_action_K0  K)
theorem slices_Clone_Spartialretro_action_partialretro_action_b0_eq (s : Option Addr) (sL : Nat) (sC : Nat) (h : Hp)  (K : Value → Hp → Prop) : slices_Clone_Spartialretro_action_partialretro_action_b0 s sL sC h  K = (
  cond (Option.isNone s)
  (K (.slice none 0 0) h)
  (New h (.cells #[] 106) fun b1 h1 =>
  appendV Tryz.prog 93 93 (.slice (some ⟨b1, 0, none⟩) 0 0) (.slice s sL sC) h1 (slK fun a1 l1 c1 h2 =>
  K (.slice a1 l1 c1) h2))) := by kernel_rfl
theorem slices_Clone_Spartialretro_action_partialretro_action_call {s : Option Addr} {sL : Nat} {sC : Nat} {h : Hp} {K : Value → Hp → Prop} (hk : slices_Clone_Spartialretro_action_partialretro_action_b0 s sL sC h K) : HCalls Tryz.prog 69 #[.slice s sL sC] h K :=
  calls_of_snd slices_Clone_Spartialretro_action_partialretro_action_an Tryz.func69 (c := bodyOf Tryz.f69) rfl Tryz.ntmps69 (Nat.le_of_ble_eq_true rfl) (snd_1 F_ok F_mixed) hk

/-! ### r35_has -/
def r35_has_an : Ann := .node none (.leaf) (.node (some []) (.node none (.leaf) (.loop [0, 1] [(5, .int .i64)] (.node none (.leaf) (.node (some [0, 1, 5]) (.leaf) (.leaf))))) (.leaf))
def r35_has_K0  (K : Value → Hp → Prop) : Exit → Env → Hp → Prop := retK Tryz.prog Tryz.f70.results.toList K
def r35_has_K1  (K : Value → Hp → Prop) : Exit → Env → Hp → Prop := thenE (fun env h => sx_2 Tryz.prog F 18 (cp [1, 1] (bodyOf Tryz.f70)) (ap [1, 1] r35_has_an) (rs [] env) h (r35_has_K0  K)) (r35_has_K0  K)
def r35_has_K2  (K : Value → Hp → Prop) : Exit → Env → Hp → Prop := blockE 0 (r35_has_K1  K)
def r35_has_K3 (nx0 : Int × Unit → Hp → Prop) (K : Value → Hp → Prop) : Exit → Env → Hp → Prop := thenE (fun env h => getV [(5, .int .i64)] env fun s => nx0 s h) (r35_has_K2  K)
def r35_has_b0 (l : Option Addr) (lL : Nat) (lC : Nat) (nv : Int) (h : Hp)  (K : Value → Hp → Prop) : Prop :=
  sx_3 Tryz.prog F 18 (cp [] (bodyOf Tryz.f70)) (ap [] r35_has_an) [(0, .slice l lL lC), (1, .int .i64 nv)] h (r35_has_K0  K)
def r35_has_b1 (i : Int) (l : Option Addr) (lL : Nat) (lC : Nat) (nv : Int) (h : Hp) (nx0 : Int × Unit → Hp → Prop) (K : Value → Hp → Prop) : Prop :=
  sx_2 Tryz.prog F 18 (cp [1, 0, 1, 2, 2] (bodyOf Tryz.f70)) (ap [1, 0, 1, 2] r35_has_an) [(5, .int .i64 i), (0, .slice l lL lC), (1, .int .i64 nv)] h (r35_has_K3 nx0 K)
def r35_has_b2 (l : Option Addr) (lL : Nat) (lC : Nat) (nv : Int) (i : Int) (h : Hp) (nx0 : Int × Unit → Hp → Prop) (K : Value → Hp → Prop) : Prop :=
  sx_1 Tryz.prog F 18 (cp [1, 0, 1, 2, 2, 1, 1] (bodyOf Tryz.f70)) (ap [1, 0, 1, 2, 1, 1] r35_has_an) [(0, .slice l lL lC), (1, .int .i64 nv), (5, .int .i64 i)] h (r35_has_K3 nx0 K)
def r35_has_b3  (h : Hp)  (K : Value → Hp → Prop) : Prop :=
  sx_2 Tryz.prog F 18 (cp [1, 1] (bodyOf Tryz.f70)) (ap [1, 1] r35_has_an) [] h (r35_has_K0  K)
theorem r35_has_b0_eq (l : Option Addr) (lL : Nat) (lC : Nat) (nv : Int) (h : Hp)  (K : Value → Hp → Prop) : r35_has_b0 l lL lC nv h  K = (
  LoopVC ((0, ()) : Int × Unit) h (fun (nx0 : Int × Unit → Hp → Prop) (s1 : Int × Unit) h1 => r35_has_b1 s1.1 l lL lC nv h1 nx0 K)) := by kernel_rfl
theorem r35_has_b1_eq (i : Int) (l : Option Addr) (lL : Nat) (lC : Nat) (nv : Int) (h : Hp) (nx0 : Int × Unit → Hp → Prop) (K : Value → Hp → Prop) : r35_has_b1 i l lL lC nv h nx0 K = (
  cond (decide (i < (lL : Int)))
  ((0 ≤ i ∧ i < (lL : Int)) ∧
  NN l fun a1 =>
  ∃ n1 : Int, cell h (a1.add (Int.toNat i * 1)) = some (.int .i64 n1) ∧
  cond (decide (n1 = nv))
  (K (.bool true) h)
  (r35_has_b2 l lL lC nv i h nx0 K))
  (r35_has_b3  h  K)) := by kernel_rfl
theorem r35_has_b2_eq (l : Option Addr) (lL : Nat) (lC : Nat) (nv : Int) (i : Int) (h : Hp) (nx0 : Int × Unit → Hp → Prop) (K : Value → Hp → Prop) : r35_has_b2 l lL lC nv i h nx0 K = (
  InR (i + 1) ∧
  nx0 (i + 1, ()) h) := by kernel_rfl
theorem r35_has_b3_eq  (h : Hp)  (K : Value → Hp → Prop) : r35_has_b3  h  K = (
  K (.bool false) h) := by kernel_rfl
theorem r35_has_call {l : Option Addr} {lL : Nat} {lC : Nat} {nv : Int} {h : Hp} {K : Value → Hp → Prop} (hk : r35_has_b0 l lL lC nv h K) : HCalls Tryz.prog 70 #[.slice l lL lC, .int .i64 nv] h K :=
  calls_of_snd r35_has_an Tryz.func70 (c := bodyOf Tryz.f70) rfl Tryz.ntmps70 (Nat.le_of_ble_eq_true rfl) (snd_3 F_ok F_mixed) hk

/-! ### model_ValidOp -/
def model_ValidOp_an : Ann := .node none (.leaf) (.node none (.leaf) (.node (some [3, 5]) (.leaf) (.leaf)))
def model_ValidOp_K0  (K : Value → Hp → Prop) : Exit → Env → Hp → Prop := retK Tryz.prog Tryz.f71.results.toList K
def model_ValidOp_b0 (kind : Int) (o_0 : Int) (o_1 : Option Addr) (o_1L : Nat) (o_1C : Nat) (h : Hp)  (K : Value → Hp → Prop) : Prop :=
  sx_2 Tryz.prog F 56 (cp [] (bodyOf Tryz.f71)) (ap [] model_ValidOp_an) [(0, .int .i64 kind), (1, .agg #[.int .i64 o_0, .slice o_1 o_1L o_1C])] h (model_ValidOp_K0  K)
def model_ValidOp_b1 (o : Option Addr) (l : Option Addr) (lL : Nat) (lC : Nat) (h : Hp)  (K : Value → Hp → Prop) : Prop :=
  sx_1 Tryz.prog F 56 (cp [1, 1, 1] (bodyOf Tryz.f71)) (ap [1, 1, 1] model_ValidOp_an) [(3, .pointer o), (5, .slice l lL lC)] h (model_ValidOp_K0  K)
theorem model_ValidOp_b0_eq (kind : Int) (o_0 : Int) (o_1 : Option Addr) (o_1L : Nat) (o_1C : Nat) (h : Hp)  (K : Value → Hp → Prop) : model_ValidOp_b0 kind o_0 o_1 o_1L o_1C h  K = (
  New h (.cells #[.int .i64 o_0, .slice o_1 o_1L o_1C] 25) fun b1 h1 =>
  HCalls Tryz.prog 90 #[.int .i64 kind] h1 fun v1 h2 => ∃ (r1 : Option Addr) (rL1 rC1 : Nat), v1 = .slice r1 rL1 rC1 ∧
  ∃ n1 : Int, cell h2 ⟨b1, 0, none⟩ = some (.int .i64 n1) ∧
  cond (decide (n1 < 1))
  (K (.bool false) h2)
  (∃ n2 : Int, cell h2 ⟨b1, 0, none⟩ = some (.int .i64 n2) ∧
  cond (decide ((rL1 : Int) < n2))
  (K (.bool false) h2)
  (model_ValidOp_b1 (some ⟨b1, 0, none⟩) r1 rL1 rC1 h2  K))) := by kernel_rfl
theorem model_ValidOp_b1_eq (o : Option Addr) (l : Option Addr) (lL : Nat) (lC : Nat) (h : Hp)  (K : Value → Hp → Prop) : model_ValidOp_b1 o l lL lC h  K = (
  NN o fun a1 =>
  ∃ n3 : Int, cell h a1 = some (.int .i64 n3) ∧
  InR (n3 - 1) ∧
  (0 ≤ n3 - 1 ∧ n3 - 1 < (lL : Int)) ∧
  NN l fun a2 =>
  ∃ s1 : ByteArray, ∃ n4 : Int, ∃ b2 : Bool, cell h (a2.add (Int.toNat (n3 - 1) * 3)) = some (.string s1) ∧
  cell h ((a2.add (Int.toNat (n3 - 1) * 3)).add 1) = some (.int .i64 n4) ∧
  cell h ((a2.add (Int.toNat (n3 - 1) * 3)).add 2) = some (.bool b2) ∧
  New h (.cells #[.string (⟨#[]⟩ : ByteArray), .int .i64 0, .bool false] 143) fun b3 h3 =>
  Wr h3 ⟨b3, 0, none⟩ (.string s1) fun h4 =>
  Wr h4 ((⟨b3, 0, none⟩ : Addr).add 1) (.int .i64 n4) fun h5 =>
  Wr h5 ((⟨b3, 0, none⟩ : Addr).add 2) (.bool b2) fun h6 =>
  ∃ n5 : Int, cell h6 ((⟨b3, 0, none⟩ : Addr).add 1) = some (.int .i64 n5) ∧
  cond (decide (n5 < 0))
  (NN o fun a3 =>
  ∃ (a4 : Option Addr) (L1 C1 : Nat), cell h6 (a3.add 1) = some (.slice a4 L1 C1) ∧
  cond (decide ((1 : Int) ≤ (L1 : Int)))
  (NN o fun a5 =>
  ∃ (a6 : Option Addr) (L2 C2 : Nat), cell h6 (a5.add 1) = some (.slice a6 L2 C2) ∧
  cond (decide ((L2 : Int) ≤ 64))
  (NN o fun a7 =>
  ∃ (a8 : Option Addr) (L3 C3 : Nat), cell h6 (a7.add 1) = some (.slice a8 L3 C3) ∧
  HCalls Tryz.prog 105 #[.slice a8 L3 C3, .func (.func 106) #[] #[]] h6 fun v2 h7 => ∃ r2 : Bool, v2 = .bool r2 ∧
  K (.bool (!r2)) h7)
  (K (.bool false) h6))
  (K (.bool false) h6))
  (NN o fun a9 =>
  ∃ (a10 : Option Addr) (L4 C4 : Nat), cell h6 (a9.add 1) = some (.slice a10 L4 C4) ∧
  ∃ n6 : Int, cell h6 ((⟨b3, 0, none⟩ : Addr).add 1) = some (.int .i64 n6) ∧
  cond (decide ((L4 : Int) = n6))
  (NN o fun a11 =>
  ∃ (a12 : Option Addr) (L5 C5 : Nat), cell h6 (a11.add 1) = some (.slice a12 L5 C5) ∧
  HCalls Tryz.prog 105 #[.slice a12 L5 C5, .func (.func 108) #[] #[]] h6 fun v3 h8 => ∃ r3 : Bool, v3 = .bool r3 ∧
  K (.bool (!r3)) h8)
  (K (.bool false) h6))) := by kernel_rfl
theorem model_ValidOp_call {kind : Int} {o_0 : Int} {o_1 : Option Addr} {o_1L : Nat} {o_1C : Nat} {h : Hp} {K : Value → Hp → Prop} (hk : model_ValidOp_b0 kind o_0 o_1 o_1L o_1C h K) : HCalls Tryz.prog 71 #[.int .i64 kind, .agg #[.int .i64 o_0, .slice o_1 o_1L o_1C]] h K :=
  calls_of_snd model_ValidOp_an Tryz.func71 (c := bodyOf Tryz.f71) rfl Tryz.ntmps71 (Nat.le_of_ble_eq_true rfl) (snd_2 F_ok F_mixed) hk

/-! ### partialretro_Log_update -/
def partialretro_Log_update_an : Ann := .node none (.leaf) (.node none (.plan (.qu 0 (.qu 1 (.qu 2 (.qu 3 (.qu 4 (.qu 5 (.wo 6 (.qu 7 (.qu 8 (.qu 9 (.wo 10 (.wo 11 .fin .no) .no)))) .no)))))))) (.leaf))
def partialretro_Log_update_K0  (K : Value → Hp → Prop) : Exit → Env → Hp → Prop := retK Tryz.prog Tryz.f72.results.toList K
def partialretro_Log_update_b0 (g : Option Addr) (o_0 : Int) (o_1 : Option Addr) (o_1L : Nat) (o_1C : Nat) (h : Hp)  (K : Value → Hp → Prop) : Prop :=
  sx_1 Tryz.prog F 18 (cp [] (bodyOf Tryz.f72)) (ap [] partialretro_Log_update_an) [(0, .pointer g), (1, .agg #[.int .i64 o_0, .slice o_1 o_1L o_1C])] h (partialretro_Log_update_K0  K)
theorem partialretro_Log_update_b0_eq (g : Option Addr) (o_0 : Int) (o_1 : Option Addr) (o_1L : Nat) (o_1C : Nat) (h : Hp)  (K : Value → Hp → Prop) : partialretro_Log_update_b0 g o_0 o_1 o_1L o_1C h  K = (
  New h (.cells #[.int .i64 o_0, .slice o_1 o_1L o_1C] 25) fun b1 h1 =>
  NN g fun a1 =>
  ∃ n1 : Int, cell h1 a1 = some (.int .i64 n1) ∧
  ∃ n2 : Int, cell h1 ⟨b1, 0, none⟩ = some (.int .i64 n2) ∧
  HCalls Tryz.prog 110 #[.int .i64 n1, .int .i64 n2] h1 fun v1 h2 => ∃ r1 : Bool, ∃ r2 : Int, v1 = .tuple #[.bool r1, .int .i64 r2] ∧
  K (.bool r1) h2) := by kernel_rfl
theorem partialretro_Log_update_call {g : Option Addr} {o_0 : Int} {o_1 : Option Addr} {o_1L : Nat} {o_1C : Nat} {h : Hp} {K : Value → Hp → Prop} (hk : partialretro_Log_update_b0 g o_0 o_1 o_1L o_1C h K) : HCalls Tryz.prog 72 #[.pointer g, .agg #[.int .i64 o_0, .slice o_1 o_1L o_1C]] h K :=
  calls_of_snd partialretro_Log_update_an Tryz.func72 (c := bodyOf Tryz.f72) rfl Tryz.ntmps72 (Nat.le_of_ble_eq_true rfl) (snd_1 F_ok F_mixed) hk

/-! ### r03_Words -/
def r03_Words_an : Ann := .node none (.leaf) (.node (some []) (.leaf) (.leaf))
def r03_Words_K0  (K : Value → Hp → Prop) : Exit → Env → Hp → Prop := retK Tryz.prog Tryz.f73.results.toList K
def r03_Words_b0 (kind : Int) (h : Hp)  (K : Value → Hp → Prop) : Prop :=
  sx_2 Tryz.prog F 22 (cp [] (bodyOf Tryz.f73)) (ap [] r03_Words_an) [(0, .int .i64 kind)] h (r03_Words_K0  K)
def r03_Words_b1  (h : Hp)  (K : Value → Hp → Prop) : Prop :=
  sx_1 Tryz.prog F 22 (cp [1, 1] (bodyOf Tryz.f73)) (ap [1, 1] r03_Words_an) [] h (r03_Words_K0  K)
theorem r03_Words_b0_eq (kind : Int) (h : Hp)  (K : Value → Hp → Prop) : r03_Words_b0 kind h  K = (
  cond (decide (kind = 1))
  (New h (.cells #[.string (⟨#[112, 117, 116]⟩ : ByteArray), .string (⟨#[103, 101, 116]⟩ : ByteArray), .string (⟨#[114, 101, 109, 111, 118, 101]⟩ : ByteArray), .string (⟨#[102, 108, 111, 111, 114]⟩ : ByteArray), .string (⟨#[99, 101, 105, 108, 105, 110, 103]⟩ : ByteArray), .string (⟨#[114, 97, 110, 107]⟩ : ByteArray), .string (⟨#[115, 101, 108, 101, 99, 116]⟩ : ByteArray), .string (⟨#[115, 105, 122, 101]⟩ : ByteArray)] 9) fun b1 h1 =>
  K (.slice (some ⟨b1, 0, none⟩) 8 8) h1)
  (cond (decide (kind = 2))
  (New h (.cells #[.string (⟨#[105, 110, 115, 101, 114, 116]⟩ : ByteArray), .string (⟨#[109, 105, 110]⟩ : ByteArray), .string (⟨#[100, 101, 108, 101, 116, 101, 109, 105, 110]⟩ : ByteArray), .string (⟨#[115, 105, 122, 101]⟩ : ByteArray)] 9) fun b2 h2 =>
  K (.slice (some ⟨b2, 0, none⟩) 4 4) h2)
  (cond (decide (kind = 3))
  (New h (.cells #[.string (⟨#[105, 110, 115, 101, 114, 116]⟩ : ByteArray), .string (⟨#[114, 101, 109, 111, 118, 101]⟩ : ByteArray), .string (⟨#[103, 101, 116]⟩ : ByteArray), .string (⟨#[115, 101, 116]⟩ : ByteArray), .string (⟨#[115, 117, 109]⟩ : ByteArray), .string (⟨#[114, 101, 118, 101, 114, 115, 101]⟩ : ByteArray), .string (⟨#[115, 105, 122, 101]⟩ : ByteArray)] 9) fun b3 h3 =>
  K (.slice (some ⟨b3, 0, none⟩) 7 7) h3)
  (cond (decide (kind = 4))
  (New h (.cells #[.string (⟨#[109, 97, 107, 101]⟩ : ByteArray), .string (⟨#[117, 110, 105, 111, 110]⟩ : ByteArray), .string (⟨#[115, 97, 109, 101]⟩ : ByteArray), .string (⟨#[115, 105, 122, 101]⟩ : ByteArray), .string (⟨#[99, 111, 117, 110, 116]⟩ : ByteArray)] 9) fun b4 h4 =>
  K (.slice (some ⟨b4, 0, none⟩) 5 5) h4)
  (cond (decide (kind = 5))
  (New h (.cells #[.string (⟨#[97, 100, 100]⟩ : ByteArray), .string (⟨#[114, 101, 109, 111, 118, 101]⟩ : ByteArray), .string (⟨#[99, 111, 117, 110, 116]⟩ : ByteArray), .string (⟨#[115, 117, 109]⟩ : ByteArray), .string (⟨#[115, 105, 122, 101]⟩ : ByteArray)] 9) fun b5 h5 =>
  K (.slice (some ⟨b5, 0, none⟩) 5 5) h5)
  (cond (decide (kind = 6))
  (New h (.cells #[.string (⟨#[97, 112, 112, 101, 110, 100]⟩ : ByteArray), .string (⟨#[99, 111, 117, 110, 116]⟩ : ByteArray), .string (⟨#[102, 105, 110, 100]⟩ : ByteArray), .string (⟨#[115, 105, 122, 101]⟩ : ByteArray)] 9) fun b6 h6 =>
  K (.slice (some ⟨b6, 0, none⟩) 4 4) h6)
  (r03_Words_b1  h  K))))))) := by kernel_rfl
theorem r03_Words_b1_eq  (h : Hp)  (K : Value → Hp → Prop) : r03_Words_b1  h  K = (
  K (.slice none 0 0) h) := by kernel_rfl
theorem r03_Words_call {kind : Int} {h : Hp} {K : Value → Hp → Prop} (hk : r03_Words_b0 kind h K) : HCalls Tryz.prog 73 #[.int .i64 kind] h K :=
  calls_of_snd r03_Words_an Tryz.func73 (c := bodyOf Tryz.f73) rfl Tryz.ntmps73 (Nat.le_of_ble_eq_true rfl) (snd_2 F_ok F_mixed) hk

/-! ### r03_Arity -/
def r03_Arity_an : Ann := .node none (.leaf) (.node (some [1]) (.leaf) (.leaf))
def r03_Arity_K0  (K : Value → Hp → Prop) : Exit → Env → Hp → Prop := retK Tryz.prog Tryz.f74.results.toList K
def r03_Arity_b0 (kind : Int) (code : Int) (h : Hp)  (K : Value → Hp → Prop) : Prop :=
  sx_2 Tryz.prog F 46 (cp [] (bodyOf Tryz.f74)) (ap [] r03_Arity_an) [(0, .int .i64 kind), (1, .int .i64 code)] h (r03_Arity_K0  K)
def r03_Arity_b1 (code : Int) (h : Hp)  (K : Value → Hp → Prop) : Prop :=
  sx_1 Tryz.prog F 46 (cp [1, 1] (bodyOf Tryz.f74)) (ap [1, 1] r03_Arity_an) [(1, .int .i64 code)] h (r03_Arity_K0  K)
theorem r03_Arity_b0_eq (kind : Int) (code : Int) (h : Hp)  (K : Value → Hp → Prop) : r03_Arity_b0 kind code h  K = (
  cond (decide (kind = 1))
  (New h (.cells #[.int .i64 2, .int .i64 1, .int .i64 1, .int .i64 1, .int .i64 1, .int .i64 1, .int .i64 1, .int .i64 0] 3) fun b1 h1 =>
  InR (code - 1) ∧
  (0 ≤ code - 1 ∧ code - 1 < ((8 : Nat) : Int)) ∧
  ∃ n1 : Int, cell h1 ((⟨b1, 0, none⟩ : Addr).add (Int.toNat (code - 1) * 1)) = some (.int .i64 n1) ∧
  K (.int .i64 n1) h1)
  (cond (decide (kind = 2))
  (New h (.cells #[.int .i64 1, .int .i64 0, .int .i64 0, .int .i64 0] 3) fun b2 h2 =>
  InR (code - 1) ∧
  (0 ≤ code - 1 ∧ code - 1 < ((4 : Nat) : Int)) ∧
  ∃ n2 : Int, cell h2 ((⟨b2, 0, none⟩ : Addr).add (Int.toNat (code - 1) * 1)) = some (.int .i64 n2) ∧
  K (.int .i64 n2) h2)
  (cond (decide (kind = 3))
  (New h (.cells #[.int .i64 2, .int .i64 1, .int .i64 1, .int .i64 2, .int .i64 2, .int .i64 2, .int .i64 0] 3) fun b3 h3 =>
  InR (code - 1) ∧
  (0 ≤ code - 1 ∧ code - 1 < ((7 : Nat) : Int)) ∧
  ∃ n3 : Int, cell h3 ((⟨b3, 0, none⟩ : Addr).add (Int.toNat (code - 1) * 1)) = some (.int .i64 n3) ∧
  K (.int .i64 n3) h3)
  (cond (decide (kind = 4))
  (New h (.cells #[.int .i64 0, .int .i64 2, .int .i64 2, .int .i64 1, .int .i64 0] 3) fun b4 h4 =>
  InR (code - 1) ∧
  (0 ≤ code - 1 ∧ code - 1 < ((5 : Nat) : Int)) ∧
  ∃ n4 : Int, cell h4 ((⟨b4, 0, none⟩ : Addr).add (Int.toNat (code - 1) * 1)) = some (.int .i64 n4) ∧
  K (.int .i64 n4) h4)
  (cond (decide (kind = 5))
  (New h (.cells #[.int .i64 3, .int .i64 2, .int .i64 4, .int .i64 4, .int .i64 0] 3) fun b5 h5 =>
  InR (code - 1) ∧
  (0 ≤ code - 1 ∧ code - 1 < ((5 : Nat) : Int)) ∧
  ∃ n5 : Int, cell h5 ((⟨b5, 0, none⟩ : Addr).add (Int.toNat (code - 1) * 1)) = some (.int .i64 n5) ∧
  K (.int .i64 n5) h5)
  (r03_Arity_b1 code h  K)))))) := by kernel_rfl
theorem r03_Arity_b1_eq (code : Int) (h : Hp)  (K : Value → Hp → Prop) : r03_Arity_b1 code h  K = (
  New h (.cells #[.int .i64 (-1), .int .i64 (-1), .int .i64 (-1), .int .i64 0] 3) fun b6 h6 =>
  InR (code - 1) ∧
  (0 ≤ code - 1 ∧ code - 1 < ((4 : Nat) : Int)) ∧
  ∃ n6 : Int, cell h6 ((⟨b6, 0, none⟩ : Addr).add (Int.toNat (code - 1) * 1)) = some (.int .i64 n6) ∧
  K (.int .i64 n6) h6) := by kernel_rfl
theorem r03_Arity_call {kind : Int} {code : Int} {h : Hp} {K : Value → Hp → Prop} (hk : r03_Arity_b0 kind code h K) : HCalls Tryz.prog 74 #[.int .i64 kind, .int .i64 code] h K :=
  calls_of_snd r03_Arity_an Tryz.func74 (c := bodyOf Tryz.f74) rfl Tryz.ntmps74 (Nat.le_of_ble_eq_true rfl) (snd_2 F_ok F_mixed) hk

/-! ### r03_key -/
def r03_key_an : Ann := .leaf
def r03_key_K0  (K : Value → Hp → Prop) : Exit → Env → Hp → Prop := retK Tryz.prog Tryz.f75.results.toList K
def r03_key_b0 (nv : Int) (h : Hp)  (K : Value → Hp → Prop) : Prop :=
  sx_1 Tryz.prog F 9 (cp [] (bodyOf Tryz.f75)) (ap [] r03_key_an) [(0, .int .i64 nv)] h (r03_key_K0  K)
theorem r03_key_b0_eq (nv : Int) (h : Hp)  (K : Value → Hp → Prop) : r03_key_b0 nv h  K = (
  cond (decide (((-1048576) : Int) ≤ nv))
  (K (.bool (decide (nv ≤ 1048576))) h)
  (K (.bool false) h)) := by kernel_rfl
theorem r03_key_call {nv : Int} {h : Hp} {K : Value → Hp → Prop} (hk : r03_key_b0 nv h K) : HCalls Tryz.prog 75 #[.int .i64 nv] h K :=
  calls_of_snd r03_key_an Tryz.func75 (c := bodyOf Tryz.f75) rfl Tryz.ntmps75 (Nat.le_of_ble_eq_true rfl) (snd_1 F_ok F_mixed) hk

/-! ### r03_Copy -/
def r03_Copy_an : Ann := .node none (.leaf) (.node none (.leaf) (.node (some [2, 3]) (.node none (.leaf) (.loop [1, 2, 3] [(4, .int .i64)] (.node none (.leaf) (.node (some [1, 2, 3, 4]) (.plan (.qu 0 (.qu 1 (.qu 2 (.qu 3 (.qu 4 (.qu 5 (.qu 6 (.wo 7 (.wo 8 (.wo 9 (.qu 10 (.wo 11 .fin .no)) .no) .no) .no))))))))) (.leaf))))) (.leaf)))
def r03_Copy_K0  (K : Value → Hp → Prop) : Exit → Env → Hp → Prop := retK Tryz.prog Tryz.f76.results.toList K
def r03_Copy_K1  (K : Value → Hp → Prop) : Exit → Env → Hp → Prop := thenE (fun env h => sx_2 Tryz.prog F 27 (cp [1, 1, 1] (bodyOf Tryz.f76)) (ap [1, 1, 1] r03_Copy_an) (rs [2, 3] env) h (r03_Copy_K0  K)) (r03_Copy_K0  K)
def r03_Copy_K2  (K : Value → Hp → Prop) : Exit → Env → Hp → Prop := blockE 0 (r03_Copy_K1  K)
def r03_Copy_K3 (nx0 : Int × Unit → Hp → Prop) (K : Value → Hp → Prop) : Exit → Env → Hp → Prop := thenE (fun env h => getV [(4, .int .i64)] env fun s => nx0 s h) (r03_Copy_K2  K)
def r03_Copy_b0 (s_0 : Int) (s_1 : Option Addr) (s_1L : Nat) (s_1C : Nat) (h : Hp)  (K : Value → Hp → Prop) : Prop :=
  sx_3 Tryz.prog F 27 (cp [] (bodyOf Tryz.f76)) (ap [] r03_Copy_an) [(0, .agg #[.int .i64 s_0, .slice s_1 s_1L s_1C])] h (r03_Copy_K0  K)
def r03_Copy_b1 (i : Int) (s : Option Addr) (t2 : Option Addr) (out : Option Addr) (h : Hp) (nx0 : Int × Unit → Hp → Prop) (K : Value → Hp → Prop) : Prop :=
  sx_2 Tryz.prog F 27 (cp [1, 1, 0, 1, 2, 2] (bodyOf Tryz.f76)) (ap [1, 1, 0, 1, 2] r03_Copy_an) [(4, .int .i64 i), (1, .pointer s), (2, .pointer t2), (3, .pointer out)] h (r03_Copy_K3 nx0 K)
def r03_Copy_b2 (s : Option Addr) (t2 : Option Addr) (out : Option Addr) (i : Int) (h : Hp) (nx0 : Int × Unit → Hp → Prop) (K : Value → Hp → Prop) : Prop :=
  sx_1 Tryz.prog F 27 (cp [1, 1, 0, 1, 2, 2, 1, 1] (bodyOf Tryz.f76)) (ap [1, 1, 0, 1, 2, 1, 1] r03_Copy_an) [(1, .pointer s), (2, .pointer t2), (3, .pointer out), (4, .int .i64 i)] h (r03_Copy_K3 nx0 K)
def r03_Copy_b3 (t2 : Option Addr) (out : Option Addr) (h : Hp)  (K : Value → Hp → Prop) : Prop :=
  sx_2 Tryz.prog F 27 (cp [1, 1, 1] (bodyOf Tryz.f76)) (ap [1, 1, 1] r03_Copy_an) [(2, .pointer t2), (3, .pointer out)] h (r03_Copy_K0  K)
theorem r03_Copy_b0_eq (s_0 : Int) (s_1 : Option Addr) (s_1L : Nat) (s_1C : Nat) (h : Hp)  (K : Value → Hp → Prop) : r03_Copy_b0 s_0 s_1 s_1L s_1C h  K = (
  New h (.cells #[.int .i64 s_0, .slice s_1 s_1L s_1C] 66) fun b1 h1 =>
  New h1 (.cells #[.int .i64 0, .slice none 0 0] 66) fun b2 h2 =>
  ∃ n1 : Int, cell h2 ⟨b1, 0, none⟩ = some (.int .i64 n1) ∧
  New h2 (.cells #[.int .i64 0, .slice none 0 0] 66) fun b3 h3 =>
  Wr h3 ⟨b3, 0, none⟩ (.int .i64 n1) fun h4 =>
  Wr h4 ((⟨b3, 0, none⟩ : Addr).add 1) (.slice none 0 0) fun h5 =>
  LoopVC ((0, ()) : Int × Unit) h5 (fun (nx0 : Int × Unit → Hp → Prop) (s1 : Int × Unit) h6 => r03_Copy_b1 s1.1 (some ⟨b1, 0, none⟩) (some ⟨b2, 0, none⟩) (some ⟨b3, 0, none⟩) h6 nx0 K)) := by kernel_rfl
theorem r03_Copy_b1_eq (i : Int) (s : Option Addr) (t2 : Option Addr) (out : Option Addr) (h : Hp) (nx0 : Int × Unit → Hp → Prop) (K : Value → Hp → Prop) : r03_Copy_b1 i s t2 out h nx0 K = (
  NN s fun a1 =>
  ∃ (a2 : Option Addr) (L1 C1 : Nat), cell h (a1.add 1) = some (.slice a2 L1 C1) ∧
  cond (decide (i < (L1 : Int)))
  (NN out fun a3 =>
  ∃ (a4 : Option Addr) (L2 C2 : Nat), cell h (a3.add 1) = some (.slice a4 L2 C2) ∧
  NN s fun a5 =>
  ∃ (a6 : Option Addr) (L3 C3 : Nat), cell h (a5.add 1) = some (.slice a6 L3 C3) ∧
  (0 ≤ i ∧ i < (L3 : Int)) ∧
  NN a6 fun a7 =>
  ∃ (a8 : Option Addr) (L4 C4 : Nat), cell h (a7.add (Int.toNat i * 1)) = some (.slice a8 L4 C4) ∧
  HCalls Tryz.prog 111 #[.slice a8 L4 C4] h fun v1 h7 => ∃ (r1 : Option Addr) (rL1 rC1 : Nat), v1 = .slice r1 rL1 rC1 ∧
  (∃ (a9 : Option Addr) (L5 C5 : Nat), cell h7 (a3.add 1) = some (.slice a9 L5 C5) ∧
  (.slice a9 L5 C5 : Value) = .slice a4 L2 C2) ∧
  New h7 (.cells #[.slice r1 rL1 rC1] 23) fun b4 h8 =>
  (∃ (a10 : Option Addr) (L6 C6 : Nat), cell h8 (a3.add 1) = some (.slice a10 L6 C6) ∧
  (.slice a10 L6 C6 : Value) = .slice a4 L2 C2) ∧
  appendV Tryz.prog 64 64 (.slice a4 L2 C2) (.slice (some ⟨b4, 0, none⟩) 1 1) h8 (slK fun a11 l1 c1 h9 =>
  NN out fun a12 =>
  Wr h9 (a12.add 1) (.slice a11 l1 c1) fun h10 =>
  r03_Copy_b2 s t2 out i h10 nx0 K))
  (r03_Copy_b3 t2 out h  K)) := by kernel_rfl
theorem r03_Copy_b2_eq (s : Option Addr) (t2 : Option Addr) (out : Option Addr) (i : Int) (h : Hp) (nx0 : Int × Unit → Hp → Prop) (K : Value → Hp → Prop) : r03_Copy_b2 s t2 out i h nx0 K = (
  InR (i + 1) ∧
  nx0 (i + 1, ()) h) := by kernel_rfl
theorem r03_Copy_b3_eq (t2 : Option Addr) (out : Option Addr) (h : Hp)  (K : Value → Hp → Prop) : r03_Copy_b3 t2 out h  K = (
  NN out fun a13 =>
  ∃ n2 : Int, ∃ (a14 : Option Addr) (L7 C7 : Nat), cell h a13 = some (.int .i64 n2) ∧
  cell h (a13.add 1) = some (.slice a14 L7 C7) ∧
  NN t2 fun a15 =>
  Wr h a15 (.int .i64 n2) fun h11 =>
  Wr h11 (a15.add 1) (.slice a14 L7 C7) fun h12 =>
  NN t2 fun a16 =>
  ∃ r2 : Int, ∃ (r3 : Option Addr) (rL2 rC2 : Nat), cell h12 a16 = some (.int .i64 r2) ∧
  cell h12 (a16.add 1) = some (.slice r3 rL2 rC2) ∧
  K (.agg #[.int .i64 r2, .slice r3 rL2 rC2]) h12) := by kernel_rfl
theorem r03_Copy_call {s_0 : Int} {s_1 : Option Addr} {s_1L : Nat} {s_1C : Nat} {h : Hp} {K : Value → Hp → Prop} (hk : r03_Copy_b0 s_0 s_1 s_1L s_1C h K) : HCalls Tryz.prog 76 #[.agg #[.int .i64 s_0, .slice s_1 s_1L s_1C]] h K :=
  calls_of_snd r03_Copy_an Tryz.func76 (c := bodyOf Tryz.f76) rfl Tryz.ntmps76 (Nat.le_of_ble_eq_true rfl) (snd_3 F_ok F_mixed) hk

/-! ### r03_dict -/
def r03_dict_an : Ann := .node none (.leaf) (.node none (.leaf) (.node none (.leaf) (.node none (.leaf) (.node none (.leaf) (.node (some [2, 3, 4, 5, 6, 7, 8, 9]) (.node none (.leaf) (.loop [2, 3, 4, 5, 6, 7] [(8, .int .i64), (9, .bool), (10, .int .i64)] (.node none (.leaf) (.node (some [2, 3, 4, 5, 6, 7, 8, 9, 10]) (.node (some [2, 3, 4, 5, 6, 7, 8, 9, 10]) (.leaf) (.leaf)) (.leaf))))) (.node (some [2, 4, 5, 6, 7]) (.node none (.leaf) (.node none (.leaf) (.node none (.node none (.node none (.leaf) (.node none (.node none (.tail 10) (.leaf)) (.leaf))) (.node none (.leaf) (.node none (.plan (.qu 0 (.qu 1 (.qu 2 (.qu 3 (.qu 4 (.qu 5 (.qu 6 (.qu 7 (.wo 8 (.wo 9 (.qu 10 (.wo 11 .fin .no)) .no) .no)))))))))) (.leaf)))) (.node (some [2, 3, 4, 5, 6, 7, 8, 9, 56, 95]) (.leaf) (.node none (.node none (.leaf) (.node none (.leaf) (.node (some [2, 4, 5, 11]) (.leaf) (.leaf)))) (.node none (.leaf) (.node none (.node none (.leaf) (.node none (.leaf) (.node none (.plan (.qu 0 (.qu 1 (.qu 2 (.qu 3 (.qu 4 (.qu 5 (.qu 6 (.qu 7 (.qu 8 (.wo 9 (.qu 10 (.qu 11 (.wo 12 (.wo 13 .fin .no) .no))) .no))))))))))) (.leaf)))) (.node none (.leaf) (.node none (.node none (.leaf) (.node none (.plan (.qu 0 (.qu 1 (.qu 2 (.qu 3 (.qu 4 (.qu 5 (.qu 6 (.qu 7 (.wo 8 (.qu 9 (.qu 10 (.wo 11 (.wo 12 .fin .no) .no))) .no)))))))))) (.leaf))) (.leaf)))))))))) (.node (some [2, 4, 5, 7]) (.leaf) (.node none (.plan (.qu 0 (.qu 1 (.qu 2 (.qu 3 (.qu 4 (.qu 5 (.qu 6 (.qu 7 (.wo 8 (.qu 9 (.qu 10 (.wo 11 (.wo 12 .fin .no) .no))) .no)))))))))) (.leaf)))))))))
def r03_dict_K0  (K : Value → Hp → Prop) : Exit → Env → Hp → Prop := retK Tryz.prog Tryz.f77.results.toList K
def r03_dict_K1  (K : Value → Hp → Prop) : Exit → Env → Hp → Prop := thenE (fun env h => sx_3 Tryz.prog F 199 (cp [1, 1, 1, 1, 1, 1] (bodyOf Tryz.f77)) (ap [1, 1, 1, 1, 1, 1] r03_dict_an) (rs [2, 3, 4, 5, 6, 7, 8, 9] env) h (r03_dict_K0  K)) (r03_dict_K0  K)
def r03_dict_K2  (K : Value → Hp → Prop) : Exit → Env → Hp → Prop := blockE 0 (r03_dict_K1  K)
def r03_dict_K3 (nx0 : Int × Bool × Int × Unit → Hp → Prop) (K : Value → Hp → Prop) : Exit → Env → Hp → Prop := thenE (fun env h => getV [(8, .int .i64), (9, .bool), (10, .int .i64)] env fun s => nx0 s h) (r03_dict_K2  K)
def r03_dict_K4 (nx0 : Int × Bool × Int × Unit → Hp → Prop) (K : Value → Hp → Prop) : Exit → Env → Hp → Prop := thenE (fun env h => sx_2 Tryz.prog F 199 (cp [1, 1, 1, 1, 1, 0, 1, 2, 2, 1, 1] (bodyOf Tryz.f77)) (ap [1, 1, 1, 1, 1, 0, 1, 2, 1, 1] r03_dict_an) (rs [2, 3, 4, 5, 6, 7, 8, 9, 10] env) h (r03_dict_K3 nx0 K)) (r03_dict_K3 nx0 K)
def r03_dict_K5 (nx0 : Int × Bool × Int × Unit → Hp → Prop) (K : Value → Hp → Prop) : Exit → Env → Hp → Prop := blockE 1 (r03_dict_K4 nx0 K)
def r03_dict_K6  (K : Value → Hp → Prop) : Exit → Env → Hp → Prop := thenE (fun env h => sx_2 Tryz.prog F 199 (cp [1, 1, 1, 1, 1, 1, 1] (bodyOf Tryz.f77)) (ap [1, 1, 1, 1, 1, 1, 1] r03_dict_an) (rs [2, 4, 5, 6, 7] env) h (r03_dict_K0  K)) (r03_dict_K0  K)
def r03_dict_K7  (K : Value → Hp → Prop) : Exit → Env → Hp → Prop := blockE 2 (r03_dict_K6  K)
def r03_dict_b0 (s_0 : Int) (s_1 : Option Addr) (s_1L : Nat) (s_1C : Nat) (o_0 : Int) (o_1 : Option Addr) (o_1L : Nat) (o_1C : Nat) (h : Hp)  (K : Value → Hp → Prop) : Prop :=
  sx_4 Tryz.prog F 199 (cp [] (bodyOf Tryz.f77)) (ap [] r03_dict_an) [(0, .agg #[.int .i64 s_0, .slice s_1 s_1L s_1C]), (1, .agg #[.int .i64 o_0, .slice o_1 o_1L o_1C])] h (r03_dict_K0  K)
def r03_dict_b1 (less : Int) (there : Bool) (i : Int) (s : Option Addr) (o : Option Addr) (t4 : Option Addr) (t5 : Option Addr) (nv : Int) (k : Int) (h : Hp) (nx0 : Int × Bool × Int × Unit → Hp → Prop) (K : Value → Hp → Prop) : Prop :=
  sx_3 Tryz.prog F 199 (cp [1, 1, 1, 1, 1, 0, 1, 2, 2] (bodyOf Tryz.f77)) (ap [1, 1, 1, 1, 1, 0, 1, 2] r03_dict_an) [(8, .int .i64 less), (9, .bool there), (10, .int .i64 i), (2, .pointer s), (3, .pointer o), (4, .pointer t4), (5, .pointer t5), (6, .int .i64 nv), (7, .int .i64 k)] h (r03_dict_K3 nx0 K)
def r03_dict_b2 (s : Option Addr) (o : Option Addr) (t4 : Option Addr) (t5 : Option Addr) (nv : Int) (k : Int) (less : Int) (there : Bool) (i : Int) (h : Hp) (nx0 : Int × Bool × Int × Unit → Hp → Prop) (K : Value → Hp → Prop) : Prop :=
  sx_2 Tryz.prog F 199 (cp [1, 1, 1, 1, 1, 0, 1, 2, 2, 1, 0, 2, 1] (bodyOf Tryz.f77)) (ap [1, 1, 1, 1, 1, 0, 1, 2, 1, 0, 1] r03_dict_an) [(2, .pointer s), (3, .pointer o), (4, .pointer t4), (5, .pointer t5), (6, .int .i64 nv), (7, .int .i64 k), (8, .int .i64 less), (9, .bool there), (10, .int .i64 i)] h (r03_dict_K5 nx0 K)
def r03_dict_b3 (s : Option Addr) (o : Option Addr) (t4 : Option Addr) (t5 : Option Addr) (nv : Int) (k : Int) (less : Int) (there : Bool) (h : Hp)  (K : Value → Hp → Prop) : Prop :=
  sx_3 Tryz.prog F 199 (cp [1, 1, 1, 1, 1, 1] (bodyOf Tryz.f77)) (ap [1, 1, 1, 1, 1, 1] r03_dict_an) [(2, .pointer s), (3, .pointer o), (4, .pointer t4), (5, .pointer t5), (6, .int .i64 nv), (7, .int .i64 k), (8, .int .i64 less), (9, .bool there)] h (r03_dict_K0  K)
def r03_dict_b4 (s : Option Addr) (o : Option Addr) (t4 : Option Addr) (t5 : Option Addr) (nv : Int) (k : Int) (less : Int) (there : Bool) (i : Int) (h : Hp) (nx0 : Int × Bool × Int × Unit → Hp → Prop) (K : Value → Hp → Prop) : Prop :=
  sx_2 Tryz.prog F 199 (cp [1, 1, 1, 1, 1, 0, 1, 2, 2, 1, 1] (bodyOf Tryz.f77)) (ap [1, 1, 1, 1, 1, 0, 1, 2, 1, 1] r03_dict_an) [(2, .pointer s), (3, .pointer o), (4, .pointer t4), (5, .pointer t5), (6, .int .i64 nv), (7, .int .i64 k), (8, .int .i64 less), (9, .bool there), (10, .int .i64 i)] h (r03_dict_K3 nx0 K)
def r03_dict_b5 (s : Option Addr) (o : Option Addr) (t4 : Option Addr) (t5 : Option Addr) (nv : Int) (k : Int) (less : Int) (there : Bool) (t56 : Int) (t95 : Bool) (h : Hp)  (K : Value → Hp → Prop) : Prop :=
  sx_2 Tryz.prog F 199 (cp [1, 1, 1, 1, 1, 1, 0, 1, 2, 1, 1, 1] (bodyOf Tryz.f77)) (ap [1, 1, 1, 1, 1, 1, 0, 1, 1, 1, 1] r03_dict_an) [(2, .pointer s), (3, .pointer o), (4, .pointer t4), (5, .pointer t5), (6, .int .i64 nv), (7, .int .i64 k), (8, .int .i64 less), (9, .bool there), (56, .int .i64 t56), (95, .bool t95)] h (r03_dict_K7  K)
def r03_dict_b6 (s : Option Addr) (t4 : Option Addr) (t5 : Option Addr) (v : Int) (h : Hp)  (K : Value → Hp → Prop) : Prop :=
  sx_1 Tryz.prog F 199 (cp [1, 1, 1, 1, 1, 1, 0, 1, 2, 1, 1, 1, 0, 1, 1, 1] (bodyOf Tryz.f77)) (ap [1, 1, 1, 1, 1, 1, 0, 1, 1, 1, 1, 0, 1, 1, 1] r03_dict_an) [(2, .pointer s), (4, .pointer t4), (5, .pointer t5), (11, .int .i64 v)] h (r03_dict_K7  K)
def r03_dict_b7 (s : Option Addr) (t4 : Option Addr) (t5 : Option Addr) (nv : Int) (k : Int) (h : Hp)  (K : Value → Hp → Prop) : Prop :=
  sx_2 Tryz.prog F 199 (cp [1, 1, 1, 1, 1, 1, 1] (bodyOf Tryz.f77)) (ap [1, 1, 1, 1, 1, 1, 1] r03_dict_an) [(2, .pointer s), (4, .pointer t4), (5, .pointer t5), (6, .int .i64 nv), (7, .int .i64 k)] h (r03_dict_K0  K)
def r03_dict_b8 (s : Option Addr) (t4 : Option Addr) (t5 : Option Addr) (k : Int) (h : Hp)  (K : Value → Hp → Prop) : Prop :=
  sx_1 Tryz.prog F 199 (cp [1, 1, 1, 1, 1, 1, 1, 1] (bodyOf Tryz.f77)) (ap [1, 1, 1, 1, 1, 1, 1, 1] r03_dict_an) [(2, .pointer s), (4, .pointer t4), (5, .pointer t5), (7, .int .i64 k)] h (r03_dict_K0  K)
theorem r03_dict_b0_eq (s_0 : Int) (s_1 : Option Addr) (s_1L : Nat) (s_1C : Nat) (o_0 : Int) (o_1 : Option Addr) (o_1L : Nat) (o_1C : Nat) (h : Hp)  (K : Value → Hp → Prop) : r03_dict_b0 s_0 s_1 s_1L s_1C o_0 o_1 o_1L o_1C h  K = (
  New h (.cells #[.int .i64 s_0, .slice s_1 s_1L s_1C] 66) fun b1 h1 =>
  New h1 (.cells #[.int .i64 o_0, .slice o_1 o_1L o_1C] 25) fun b2 h2 =>
  New h2 (.cells #[.int .i64 0, .slice none 0 0] 66) fun b3 h3 =>
  New h3 (.cells #[.int .i64 0, .int .i64 0, .slice none 0 0] 61) fun b4 h4 =>
  ∃ (a1 : Option Addr) (L1 C1 : Nat), cell h4 ((⟨b1, 0, none⟩ : Addr).add 1) = some (.slice a1 L1 C1) ∧
  ∃ n1 : Int, cell h4 ⟨b2, 0, none⟩ = some (.int .i64 n1) ∧
  cond (decide (n1 = 8))
  (∃ n2 : Int, ∃ (a2 : Option Addr) (L2 C2 : Nat), cell h4 ⟨b1, 0, none⟩ = some (.int .i64 n2) ∧
  cell h4 ((⟨b1, 0, none⟩ : Addr).add 1) = some (.slice a2 L2 C2) ∧
  HCalls Tryz.prog 112 #[.agg #[.int .i64 n2, .slice a2 L2 C2], .int .i64 (L1 : Int)] h4 fun v1 h5 => ∃ r1 : Int, ∃ (r2 : Option Addr) (rL1 rC1 : Nat), ∃ r3 : Int, ∃ r4 : Int, ∃ (r5 : Option Addr) (rL2 rC2 : Nat), v1 = .tuple #[.agg #[.int .i64 r1, .slice r2 rL1 rC1], .agg #[.int .i64 r3, .int .i64 r4, .slice r5 rL2 rC2]] ∧
  Wr h5 ⟨b3, 0, none⟩ (.int .i64 r1) fun h6 =>
  Wr h6 ((⟨b3, 0, none⟩ : Addr).add 1) (.slice r2 rL1 rC1) fun h7 =>
  Wr h7 ⟨b4, 0, none⟩ (.int .i64 r3) fun h8 =>
  Wr h8 ((⟨b4, 0, none⟩ : Addr).add 1) (.int .i64 r4) fun h9 =>
  Wr h9 ((⟨b4, 0, none⟩ : Addr).add 2) (.slice r5 rL2 rC2) fun h10 =>
  ∃ r6 : Int, ∃ (r7 : Option Addr) (rL3 rC3 : Nat), cell h10 ⟨b3, 0, none⟩ = some (.int .i64 r6) ∧
  cell h10 ((⟨b3, 0, none⟩ : Addr).add 1) = some (.slice r7 rL3 rC3) ∧
  ∃ r8 : Int, ∃ r9 : Int, ∃ (r10 : Option Addr) (rL4 rC4 : Nat), cell h10 ⟨b4, 0, none⟩ = some (.int .i64 r8) ∧
  cell h10 ((⟨b4, 0, none⟩ : Addr).add 1) = some (.int .i64 r9) ∧
  cell h10 ((⟨b4, 0, none⟩ : Addr).add 2) = some (.slice r10 rL4 rC4) ∧
  K (.tuple #[.agg #[.int .i64 r6, .slice r7 rL3 rC3], .agg #[.int .i64 r8, .int .i64 r9, .slice r10 rL4 rC4]]) h10)
  (∃ (a3 : Option Addr) (L3 C3 : Nat), cell h4 ((⟨b2, 0, none⟩ : Addr).add 1) = some (.slice a3 L3 C3) ∧
  (0 ≤ (0 : Int) ∧ (0 : Int) < (L3 : Int)) ∧
  NN a3 fun a4 =>
  ∃ n3 : Int, cell h4 (a4.add (Int.toNat (0 : Int) * 1)) = some (.int .i64 n3) ∧
  LoopVC ((0, false, 0, ()) : Int × Bool × Int × Unit) h4 (fun (nx0 : Int × Bool × Int × Unit → Hp → Prop) (s1 : Int × Bool × Int × Unit) h11 => r03_dict_b1 s1.1 s1.2.1 s1.2.2.1 (some ⟨b1, 0, none⟩) (some ⟨b2, 0, none⟩) (some ⟨b3, 0, none⟩) (some ⟨b4, 0, none⟩) (L1 : Int) n3 h11 nx0 K))) := by kernel_rfl
theorem r03_dict_b1_eq (less : Int) (there : Bool) (i : Int) (s : Option Addr) (o : Option Addr) (t4 : Option Addr) (t5 : Option Addr) (nv : Int) (k : Int) (h : Hp) (nx0 : Int × Bool × Int × Unit → Hp → Prop) (K : Value → Hp → Prop) : r03_dict_b1 less there i s o t4 t5 nv k h nx0 K = (
  cond (decide (i < nv))
  (NN s fun a5 =>
  ∃ (a6 : Option Addr) (L4 C4 : Nat), cell h (a5.add 1) = some (.slice a6 L4 C4) ∧
  (0 ≤ i ∧ i < (L4 : Int)) ∧
  NN a6 fun a7 =>
  ∃ (a8 : Option Addr) (L5 C5 : Nat), cell h (a7.add (Int.toNat i * 1)) = some (.slice a8 L5 C5) ∧
  (0 ≤ (0 : Int) ∧ (0 : Int) < (L5 : Int)) ∧
  NN a8 fun a9 =>
  ∃ n4 : Int, cell h (a9.add (Int.toNat (0 : Int) * 1)) = some (.int .i64 n4) ∧
  cond (decide (n4 < k))
  (InR (less + 1) ∧
  r03_dict_b2 s o t4 t5 nv k (less + 1) there i h nx0 K)
  (r03_dict_b2 s o t4 t5 nv k less there i h nx0 K))
  (r03_dict_b3 s o t4 t5 nv k less there h  K)) := by kernel_rfl
theorem r03_dict_b2_eq (s : Option Addr) (o : Option Addr) (t4 : Option Addr) (t5 : Option Addr) (nv : Int) (k : Int) (less : Int) (there : Bool) (i : Int) (h : Hp) (nx0 : Int × Bool × Int × Unit → Hp → Prop) (K : Value → Hp → Prop) : r03_dict_b2 s o t4 t5 nv k less there i h nx0 K = (
  cond there
  (r03_dict_b4 s o t4 t5 nv k less true i h nx0 K)
  (NN s fun a10 =>
  ∃ (a11 : Option Addr) (L6 C6 : Nat), cell h (a10.add 1) = some (.slice a11 L6 C6) ∧
  (0 ≤ i ∧ i < (L6 : Int)) ∧
  NN a11 fun a12 =>
  ∃ (a13 : Option Addr) (L7 C7 : Nat), cell h (a12.add (Int.toNat i * 1)) = some (.slice a13 L7 C7) ∧
  (0 ≤ (0 : Int) ∧ (0 : Int) < (L7 : Int)) ∧
  NN a13 fun a14 =>
  ∃ n5 : Int, cell h (a14.add (Int.toNat (0 : Int) * 1)) = some (.int .i64 n5) ∧
  r03_dict_b4 s o t4 t5 nv k less (decide (n5 = k)) i h nx0 K)) := by kernel_rfl
theorem r03_dict_b3_eq (s : Option Addr) (o : Option Addr) (t4 : Option Addr) (t5 : Option Addr) (nv : Int) (k : Int) (less : Int) (there : Bool) (h : Hp)  (K : Value → Hp → Prop) : r03_dict_b3 s o t4 t5 nv k less there h  K = (
  NN o fun a15 =>
  ∃ n6 : Int, cell h a15 = some (.int .i64 n6) ∧
  cond (decide (n6 = 1))
  (cond there
  (NN s fun a16 =>
  ∃ (a17 : Option Addr) (L8 C8 : Nat), cell h (a16.add 1) = some (.slice a17 L8 C8) ∧
  (0 ≤ less ∧ less < (L8 : Int)) ∧
  NN a17 fun a18 =>
  ∃ (a19 : Option Addr) (L9 C9 : Nat), cell h (a18.add (Int.toNat less * 1)) = some (.slice a19 L9 C9) ∧
  NN o fun a20 =>
  ∃ (a21 : Option Addr) (L10 C10 : Nat), cell h (a20.add 1) = some (.slice a21 L10 C10) ∧
  (0 ≤ (1 : Int) ∧ (1 : Int) < (L10 : Int)) ∧
  NN a21 fun a22 =>
  ∃ n7 : Int, cell h (a22.add (Int.toNat (1 : Int) * 1)) = some (.int .i64 n7) ∧
  (0 ≤ (1 : Int) ∧ (1 : Int) < (L9 : Int)) ∧
  NN a19 fun a23 =>
  Wr h (a23.add (Int.toNat (1 : Int) * 1)) (.int .i64 n7) fun h12 =>
  NN s fun a24 =>
  ∃ n8 : Int, ∃ (a25 : Option Addr) (L11 C11 : Nat), cell h12 a24 = some (.int .i64 n8) ∧
  cell h12 (a24.add 1) = some (.slice a25 L11 C11) ∧
  HCalls Tryz.prog 112 #[.agg #[.int .i64 n8, .slice a25 L11 C11], .int .i64 1] h12 fun v2 h13 => ∃ r11 : Int, ∃ (r12 : Option Addr) (rL5 rC5 : Nat), ∃ r13 : Int, ∃ r14 : Int, ∃ (r15 : Option Addr) (rL6 rC6 : Nat), v2 = .tuple #[.agg #[.int .i64 r11, .slice r12 rL5 rC5], .agg #[.int .i64 r13, .int .i64 r14, .slice r15 rL6 rC6]] ∧
  NN t4 fun a26 =>
  Wr h13 a26 (.int .i64 r11) fun h14 =>
  Wr h14 (a26.add 1) (.slice r12 rL5 rC5) fun h15 =>
  NN t5 fun a27 =>
  Wr h15 a27 (.int .i64 r13) fun h16 =>
  Wr h16 (a27.add 1) (.int .i64 r14) fun h17 =>
  Wr h17 (a27.add 2) (.slice r15 rL6 rC6) fun h18 =>
  NN t4 fun a28 =>
  ∃ r16 : Int, ∃ (r17 : Option Addr) (rL7 rC7 : Nat), cell h18 a28 = some (.int .i64 r16) ∧
  cell h18 (a28.add 1) = some (.slice r17 rL7 rC7) ∧
  NN t5 fun a29 =>
  ∃ r18 : Int, ∃ r19 : Int, ∃ (r20 : Option Addr) (rL8 rC8 : Nat), cell h18 a29 = some (.int .i64 r18) ∧
  cell h18 (a29.add 1) = some (.int .i64 r19) ∧
  cell h18 (a29.add 2) = some (.slice r20 rL8 rC8) ∧
  K (.tuple #[.agg #[.int .i64 r16, .slice r17 rL7 rC7], .agg #[.int .i64 r18, .int .i64 r19, .slice r20 rL8 rC8]]) h18)
  (cond (decide (nv = 500))
  (NN s fun a30 =>
  ∃ n9 : Int, ∃ (a31 : Option Addr) (L12 C12 : Nat), cell h a30 = some (.int .i64 n9) ∧
  cell h (a30.add 1) = some (.slice a31 L12 C12) ∧
  HCalls Tryz.prog 113 #[.agg #[.int .i64 n9, .slice a31 L12 C12], .int .i64 4] h fun v3 h19 => ∃ r21 : Int, ∃ (r22 : Option Addr) (rL9 rC9 : Nat), ∃ r23 : Int, ∃ r24 : Int, ∃ (r25 : Option Addr) (rL10 rC10 : Nat), v3 = .tuple #[.agg #[.int .i64 r21, .slice r22 rL9 rC9], .agg #[.int .i64 r23, .int .i64 r24, .slice r25 rL10 rC10]] ∧
  NN t4 fun a32 =>
  Wr h19 a32 (.int .i64 r21) fun h20 =>
  Wr h20 (a32.add 1) (.slice r22 rL9 rC9) fun h21 =>
  NN t5 fun a33 =>
  Wr h21 a33 (.int .i64 r23) fun h22 =>
  Wr h22 (a33.add 1) (.int .i64 r24) fun h23 =>
  Wr h23 (a33.add 2) (.slice r25 rL10 rC10) fun h24 =>
  NN t4 fun a34 =>
  ∃ r26 : Int, ∃ (r27 : Option Addr) (rL11 rC11 : Nat), cell h24 a34 = some (.int .i64 r26) ∧
  cell h24 (a34.add 1) = some (.slice r27 rL11 rC11) ∧
  NN t5 fun a35 =>
  ∃ r28 : Int, ∃ r29 : Int, ∃ (r30 : Option Addr) (rL12 rC12 : Nat), cell h24 a35 = some (.int .i64 r28) ∧
  cell h24 (a35.add 1) = some (.int .i64 r29) ∧
  cell h24 (a35.add 2) = some (.slice r30 rL12 rC12) ∧
  K (.tuple #[.agg #[.int .i64 r26, .slice r27 rL11 rC11], .agg #[.int .i64 r28, .int .i64 r29, .slice r30 rL12 rC12]]) h24)
  (NN s fun a36 =>
  ∃ (a37 : Option Addr) (L13 C13 : Nat), cell h (a36.add 1) = some (.slice a37 L13 C13) ∧
  NN o fun a38 =>
  ∃ (a39 : Option Addr) (L14 C14 : Nat), cell h (a38.add 1) = some (.slice a39 L14 C14) ∧
  (0 ≤ (1 : Int) ∧ (1 : Int) < (L14 : Int)) ∧
  NN a39 fun a40 =>
  ∃ n10 : Int, cell h (a40.add (Int.toNat (1 : Int) * 1)) = some (.int .i64 n10) ∧
  New h (.cells #[.int .i64 k, .int .i64 n10] 3) fun b5 h25 =>
  (∃ (a41 : Option Addr) (L15 C15 : Nat), cell h25 (a36.add 1) = some (.slice a41 L15 C15) ∧
  (.slice a41 L15 C15 : Value) = .slice a37 L13 C13) ∧
  HCalls Tryz.prog 114 #[.slice a37 L13 C13, .int .i64 less, .slice (some ⟨b5, 0, none⟩) 2 2] h25 fun v4 h26 => ∃ (r31 : Option Addr) (rL13 rC13 : Nat), v4 = .slice r31 rL13 rC13 ∧
  NN s fun a42 =>
  Wr h26 (a42.add 1) (.slice r31 rL13 rC13) fun h27 =>
  NN s fun a43 =>
  ∃ n11 : Int, ∃ (a44 : Option Addr) (L16 C16 : Nat), cell h27 a43 = some (.int .i64 n11) ∧
  cell h27 (a43.add 1) = some (.slice a44 L16 C16) ∧
  HCalls Tryz.prog 112 #[.agg #[.int .i64 n11, .slice a44 L16 C16], .int .i64 0] h27 fun v5 h28 => ∃ r32 : Int, ∃ (r33 : Option Addr) (rL14 rC14 : Nat), ∃ r34 : Int, ∃ r35 : Int, ∃ (r36 : Option Addr) (rL15 rC15 : Nat), v5 = .tuple #[.agg #[.int .i64 r32, .slice r33 rL14 rC14], .agg #[.int .i64 r34, .int .i64 r35, .slice r36 rL15 rC15]] ∧
  NN t4 fun a45 =>
  Wr h28 a45 (.int .i64 r32) fun h29 =>
  Wr h29 (a45.add 1) (.slice r33 rL14 rC14) fun h30 =>
  NN t5 fun a46 =>
  Wr h30 a46 (.int .i64 r34) fun h31 =>
  Wr h31 (a46.add 1) (.int .i64 r35) fun h32 =>
  Wr h32 (a46.add 2) (.slice r36 rL15 rC15) fun h33 =>
  NN t4 fun a47 =>
  ∃ r37 : Int, ∃ (r38 : Option Addr) (rL16 rC16 : Nat), cell h33 a47 = some (.int .i64 r37) ∧
  cell h33 (a47.add 1) = some (.slice r38 rL16 rC16) ∧
  NN t5 fun a48 =>
  ∃ r39 : Int, ∃ r40 : Int, ∃ (r41 : Option Addr) (rL17 rC17 : Nat), cell h33 a48 = some (.int .i64 r39) ∧
  cell h33 (a48.add 1) = some (.int .i64 r40) ∧
  cell h33 (a48.add 2) = some (.slice r41 rL17 rC17) ∧
  K (.tuple #[.agg #[.int .i64 r37, .slice r38 rL16 rC16], .agg #[.int .i64 r39, .int .i64 r40, .slice r41 rL17 rC17]]) h33)))
  (cond (decide (n6 = 2))
  (r03_dict_b5 s o t4 t5 nv k less there n6 (decide (n6 = 2)) h  K)
  (r03_dict_b5 s o t4 t5 nv k less there n6 (decide (n6 = 3)) h  K))) := by kernel_rfl
theorem r03_dict_b4_eq (s : Option Addr) (o : Option Addr) (t4 : Option Addr) (t5 : Option Addr) (nv : Int) (k : Int) (less : Int) (there : Bool) (i : Int) (h : Hp) (nx0 : Int × Bool × Int × Unit → Hp → Prop) (K : Value → Hp → Prop) : r03_dict_b4 s o t4 t5 nv k less there i h nx0 K = (
  InR (i + 1) ∧
  nx0 (less, there, i + 1, ()) h) := by kernel_rfl
theorem r03_dict_b5_eq (s : Option Addr) (o : Option Addr) (t4 : Option Addr) (t5 : Option Addr) (nv : Int) (k : Int) (less : Int) (there : Bool) (t56 : Int) (t95 : Bool) (h : Hp)  (K : Value → Hp → Prop) : r03_dict_b5 s o t4 t5 nv k less there t56 t95 h  K = (
  cond t95
  (cond (!there)
  (NN s fun a49 =>
  ∃ n12 : Int, ∃ (a50 : Option Addr) (L17 C17 : Nat), cell h a49 = some (.int .i64 n12) ∧
  cell h (a49.add 1) = some (.slice a50 L17 C17) ∧
  HCalls Tryz.prog 113 #[.agg #[.int .i64 n12, .slice a50 L17 C17], .int .i64 12] h fun v6 h34 => ∃ r42 : Int, ∃ (r43 : Option Addr) (rL18 rC18 : Nat), ∃ r44 : Int, ∃ r45 : Int, ∃ (r46 : Option Addr) (rL19 rC19 : Nat), v6 = .tuple #[.agg #[.int .i64 r42, .slice r43 rL18 rC18], .agg #[.int .i64 r44, .int .i64 r45, .slice r46 rL19 rC19]] ∧
  NN t4 fun a51 =>
  Wr h34 a51 (.int .i64 r42) fun h35 =>
  Wr h35 (a51.add 1) (.slice r43 rL18 rC18) fun h36 =>
  NN t5 fun a52 =>
  Wr h36 a52 (.int .i64 r44) fun h37 =>
  Wr h37 (a52.add 1) (.int .i64 r45) fun h38 =>
  Wr h38 (a52.add 2) (.slice r46 rL19 rC19) fun h39 =>
  NN t4 fun a53 =>
  ∃ r47 : Int, ∃ (r48 : Option Addr) (rL20 rC20 : Nat), cell h39 a53 = some (.int .i64 r47) ∧
  cell h39 (a53.add 1) = some (.slice r48 rL20 rC20) ∧
  NN t5 fun a54 =>
  ∃ r49 : Int, ∃ r50 : Int, ∃ (r51 : Option Addr) (rL21 rC21 : Nat), cell h39 a54 = some (.int .i64 r49) ∧
  cell h39 (a54.add 1) = some (.int .i64 r50) ∧
  cell h39 (a54.add 2) = some (.slice r51 rL21 rC21) ∧
  K (.tuple #[.agg #[.int .i64 r47, .slice r48 rL20 rC20], .agg #[.int .i64 r49, .int .i64 r50, .slice r51 rL21 rC21]]) h39)
  (NN s fun a55 =>
  ∃ (a56 : Option Addr) (L18 C18 : Nat), cell h (a55.add 1) = some (.slice a56 L18 C18) ∧
  (0 ≤ less ∧ less < (L18 : Int)) ∧
  NN a56 fun a57 =>
  ∃ (a58 : Option Addr) (L19 C19 : Nat), cell h (a57.add (Int.toNat less * 1)) = some (.slice a58 L19 C19) ∧
  (0 ≤ (1 : Int) ∧ (1 : Int) < (L19 : Int)) ∧
  NN a58 fun a59 =>
  ∃ n13 : Int, cell h (a59.add (Int.toNat (1 : Int) * 1)) = some (.int .i64 n13) ∧
  NN o fun a60 =>
  ∃ n14 : Int, cell h a60 = some (.int .i64 n14) ∧
  cond (decide (n14 = 3))
  (NN s fun a61 =>
  ∃ (a62 : Option Addr) (L20 C20 : Nat), cell h (a61.add 1) = some (.slice a62 L20 C20) ∧
  HCalls Tryz.prog 115 #[.slice a62 L20 C20, .int .i64 less] h fun v7 h40 => ∃ (r52 : Option Addr) (rL22 rC22 : Nat), v7 = .slice r52 rL22 rC22 ∧
  NN s fun a63 =>
  Wr h40 (a63.add 1) (.slice r52 rL22 rC22) fun h41 =>
  r03_dict_b6 s t4 t5 n13 h41  K)
  (r03_dict_b6 s t4 t5 n13 h  K)))
  (cond (decide (t56 = 4))
  (cond there
  (NN s fun a64 =>
  ∃ n15 : Int, ∃ (a65 : Option Addr) (L21 C21 : Nat), cell h a64 = some (.int .i64 n15) ∧
  cell h (a64.add 1) = some (.slice a65 L21 C21) ∧
  HCalls Tryz.prog 112 #[.agg #[.int .i64 n15, .slice a65 L21 C21], .int .i64 k] h fun v8 h42 => ∃ r53 : Int, ∃ (r54 : Option Addr) (rL23 rC23 : Nat), ∃ r55 : Int, ∃ r56 : Int, ∃ (r57 : Option Addr) (rL24 rC24 : Nat), v8 = .tuple #[.agg #[.int .i64 r53, .slice r54 rL23 rC23], .agg #[.int .i64 r55, .int .i64 r56, .slice r57 rL24 rC24]] ∧
  NN t4 fun a66 =>
  Wr h42 a66 (.int .i64 r53) fun h43 =>
  Wr h43 (a66.add 1) (.slice r54 rL23 rC23) fun h44 =>
  NN t5 fun a67 =>
  Wr h44 a67 (.int .i64 r55) fun h45 =>
  Wr h45 (a67.add 1) (.int .i64 r56) fun h46 =>
  Wr h46 (a67.add 2) (.slice r57 rL24 rC24) fun h47 =>
  NN t4 fun a68 =>
  ∃ r58 : Int, ∃ (r59 : Option Addr) (rL25 rC25 : Nat), cell h47 a68 = some (.int .i64 r58) ∧
  cell h47 (a68.add 1) = some (.slice r59 rL25 rC25) ∧
  NN t5 fun a69 =>
  ∃ r60 : Int, ∃ r61 : Int, ∃ (r62 : Option Addr) (rL26 rC26 : Nat), cell h47 a69 = some (.int .i64 r60) ∧
  cell h47 (a69.add 1) = some (.int .i64 r61) ∧
  cell h47 (a69.add 2) = some (.slice r62 rL26 rC26) ∧
  K (.tuple #[.agg #[.int .i64 r58, .slice r59 rL25 rC25], .agg #[.int .i64 r60, .int .i64 r61, .slice r62 rL26 rC26]]) h47)
  (cond (decide (less = 0))
  (NN s fun a70 =>
  ∃ n16 : Int, ∃ (a71 : Option Addr) (L22 C22 : Nat), cell h a70 = some (.int .i64 n16) ∧
  cell h (a70.add 1) = some (.slice a71 L22 C22) ∧
  HCalls Tryz.prog 113 #[.agg #[.int .i64 n16, .slice a71 L22 C22], .int .i64 12] h fun v9 h48 => ∃ r63 : Int, ∃ (r64 : Option Addr) (rL27 rC27 : Nat), ∃ r65 : Int, ∃ r66 : Int, ∃ (r67 : Option Addr) (rL28 rC28 : Nat), v9 = .tuple #[.agg #[.int .i64 r63, .slice r64 rL27 rC27], .agg #[.int .i64 r65, .int .i64 r66, .slice r67 rL28 rC28]] ∧
  NN t4 fun a72 =>
  Wr h48 a72 (.int .i64 r63) fun h49 =>
  Wr h49 (a72.add 1) (.slice r64 rL27 rC27) fun h50 =>
  NN t5 fun a73 =>
  Wr h50 a73 (.int .i64 r65) fun h51 =>
  Wr h51 (a73.add 1) (.int .i64 r66) fun h52 =>
  Wr h52 (a73.add 2) (.slice r67 rL28 rC28) fun h53 =>
  NN t4 fun a74 =>
  ∃ r68 : Int, ∃ (r69 : Option Addr) (rL29 rC29 : Nat), cell h53 a74 = some (.int .i64 r68) ∧
  cell h53 (a74.add 1) = some (.slice r69 rL29 rC29) ∧
  NN t5 fun a75 =>
  ∃ r70 : Int, ∃ r71 : Int, ∃ (r72 : Option Addr) (rL30 rC30 : Nat), cell h53 a75 = some (.int .i64 r70) ∧
  cell h53 (a75.add 1) = some (.int .i64 r71) ∧
  cell h53 (a75.add 2) = some (.slice r72 rL30 rC30) ∧
  K (.tuple #[.agg #[.int .i64 r68, .slice r69 rL29 rC29], .agg #[.int .i64 r70, .int .i64 r71, .slice r72 rL30 rC30]]) h53)
  (NN s fun a76 =>
  ∃ n17 : Int, ∃ (a77 : Option Addr) (L23 C23 : Nat), cell h a76 = some (.int .i64 n17) ∧
  cell h (a76.add 1) = some (.slice a77 L23 C23) ∧
  NN s fun a78 =>
  ∃ (a79 : Option Addr) (L24 C24 : Nat), cell h (a78.add 1) = some (.slice a79 L24 C24) ∧
  InR (less - 1) ∧
  (0 ≤ less - 1 ∧ less - 1 < (L24 : Int)) ∧
  NN a79 fun a80 =>
  ∃ (a81 : Option Addr) (L25 C25 : Nat), cell h (a80.add (Int.toNat (less - 1) * 1)) = some (.slice a81 L25 C25) ∧
  (0 ≤ (0 : Int) ∧ (0 : Int) < (L25 : Int)) ∧
  NN a81 fun a82 =>
  ∃ n18 : Int, cell h (a82.add (Int.toNat (0 : Int) * 1)) = some (.int .i64 n18) ∧
  HCalls Tryz.prog 112 #[.agg #[.int .i64 n17, .slice a77 L23 C23], .int .i64 n18] h fun v10 h54 => ∃ r73 : Int, ∃ (r74 : Option Addr) (rL31 rC31 : Nat), ∃ r75 : Int, ∃ r76 : Int, ∃ (r77 : Option Addr) (rL32 rC32 : Nat), v10 = .tuple #[.agg #[.int .i64 r73, .slice r74 rL31 rC31], .agg #[.int .i64 r75, .int .i64 r76, .slice r77 rL32 rC32]] ∧
  NN t4 fun a83 =>
  Wr h54 a83 (.int .i64 r73) fun h55 =>
  Wr h55 (a83.add 1) (.slice r74 rL31 rC31) fun h56 =>
  NN t5 fun a84 =>
  Wr h56 a84 (.int .i64 r75) fun h57 =>
  Wr h57 (a84.add 1) (.int .i64 r76) fun h58 =>
  Wr h58 (a84.add 2) (.slice r77 rL32 rC32) fun h59 =>
  NN t4 fun a85 =>
  ∃ r78 : Int, ∃ (r79 : Option Addr) (rL33 rC33 : Nat), cell h59 a85 = some (.int .i64 r78) ∧
  cell h59 (a85.add 1) = some (.slice r79 rL33 rC33) ∧
  NN t5 fun a86 =>
  ∃ r80 : Int, ∃ r81 : Int, ∃ (r82 : Option Addr) (rL34 rC34 : Nat), cell h59 a86 = some (.int .i64 r80) ∧
  cell h59 (a86.add 1) = some (.int .i64 r81) ∧
  cell h59 (a86.add 2) = some (.slice r82 rL34 rC34) ∧
  K (.tuple #[.agg #[.int .i64 r78, .slice r79 rL33 rC33], .agg #[.int .i64 r80, .int .i64 r81, .slice r82 rL34 rC34]]) h59)))
  (cond (decide (t56 = 5))
  (cond (decide (less = nv))
  (NN s fun a87 =>
  ∃ n19 : Int, ∃ (a88 : Option Addr) (L26 C26 : Nat), cell h a87 = some (.int .i64 n19) ∧
  cell h (a87.add 1) = some (.slice a88 L26 C26) ∧
  HCalls Tryz.prog 113 #[.agg #[.int .i64 n19, .slice a88 L26 C26], .int .i64 12] h fun v11 h60 => ∃ r83 : Int, ∃ (r84 : Option Addr) (rL35 rC35 : Nat), ∃ r85 : Int, ∃ r86 : Int, ∃ (r87 : Option Addr) (rL36 rC36 : Nat), v11 = .tuple #[.agg #[.int .i64 r83, .slice r84 rL35 rC35], .agg #[.int .i64 r85, .int .i64 r86, .slice r87 rL36 rC36]] ∧
  NN t4 fun a89 =>
  Wr h60 a89 (.int .i64 r83) fun h61 =>
  Wr h61 (a89.add 1) (.slice r84 rL35 rC35) fun h62 =>
  NN t5 fun a90 =>
  Wr h62 a90 (.int .i64 r85) fun h63 =>
  Wr h63 (a90.add 1) (.int .i64 r86) fun h64 =>
  Wr h64 (a90.add 2) (.slice r87 rL36 rC36) fun h65 =>
  NN t4 fun a91 =>
  ∃ r88 : Int, ∃ (r89 : Option Addr) (rL37 rC37 : Nat), cell h65 a91 = some (.int .i64 r88) ∧
  cell h65 (a91.add 1) = some (.slice r89 rL37 rC37) ∧
  NN t5 fun a92 =>
  ∃ r90 : Int, ∃ r91 : Int, ∃ (r92 : Option Addr) (rL38 rC38 : Nat), cell h65 a92 = some (.int .i64 r90) ∧
  cell h65 (a92.add 1) = some (.int .i64 r91) ∧
  cell h65 (a92.add 2) = some (.slice r92 rL38 rC38) ∧
  K (.tuple #[.agg #[.int .i64 r88, .slice r89 rL37 rC37], .agg #[.int .i64 r90, .int .i64 r91, .slice r92 rL38 rC38]]) h65)
  (NN s fun a93 =>
  ∃ n20 : Int, ∃ (a94 : Option Addr) (L27 C27 : Nat), cell h a93 = some (.int .i64 n20) ∧
  cell h (a93.add 1) = some (.slice a94 L27 C27) ∧
  NN s fun a95 =>
  ∃ (a96 : Option Addr) (L28 C28 : Nat), cell h (a95.add 1) = some (.slice a96 L28 C28) ∧
  (0 ≤ less ∧ less < (L28 : Int)) ∧
  NN a96 fun a97 =>
  ∃ (a98 : Option Addr) (L29 C29 : Nat), cell h (a97.add (Int.toNat less * 1)) = some (.slice a98 L29 C29) ∧
  (0 ≤ (0 : Int) ∧ (0 : Int) < (L29 : Int)) ∧
  NN a98 fun a99 =>
  ∃ n21 : Int, cell h (a99.add (Int.toNat (0 : Int) * 1)) = some (.int .i64 n21) ∧
  HCalls Tryz.prog 112 #[.agg #[.int .i64 n20, .slice a94 L27 C27], .int .i64 n21] h fun v12 h66 => ∃ r93 : Int, ∃ (r94 : Option Addr) (rL39 rC39 : Nat), ∃ r95 : Int, ∃ r96 : Int, ∃ (r97 : Option Addr) (rL40 rC40 : Nat), v12 = .tuple #[.agg #[.int .i64 r93, .slice r94 rL39 rC39], .agg #[.int .i64 r95, .int .i64 r96, .slice r97 rL40 rC40]] ∧
  NN t4 fun a100 =>
  Wr h66 a100 (.int .i64 r93) fun h67 =>
  Wr h67 (a100.add 1) (.slice r94 rL39 rC39) fun h68 =>
  NN t5 fun a101 =>
  Wr h68 a101 (.int .i64 r95) fun h69 =>
  Wr h69 (a101.add 1) (.int .i64 r96) fun h70 =>
  Wr h70 (a101.add 2) (.slice r97 rL40 rC40) fun h71 =>
  NN t4 fun a102 =>
  ∃ r98 : Int, ∃ (r99 : Option Addr) (rL41 rC41 : Nat), cell h71 a102 = some (.int .i64 r98) ∧
  cell h71 (a102.add 1) = some (.slice r99 rL41 rC41) ∧
  NN t5 fun a103 =>
  ∃ r100 : Int, ∃ r101 : Int, ∃ (r102 : Option Addr) (rL42 rC42 : Nat), cell h71 a103 = some (.int .i64 r100) ∧
  cell h71 (a103.add 1) = some (.int .i64 r101) ∧
  cell h71 (a103.add 2) = some (.slice r102 rL42 rC42) ∧
  K (.tuple #[.agg #[.int .i64 r98, .slice r99 rL41 rC41], .agg #[.int .i64 r100, .int .i64 r101, .slice r102 rL42 rC42]]) h71))
  (cond (decide (t56 = 6))
  (NN s fun a104 =>
  ∃ n22 : Int, ∃ (a105 : Option Addr) (L30 C30 : Nat), cell h a104 = some (.int .i64 n22) ∧
  cell h (a104.add 1) = some (.slice a105 L30 C30) ∧
  HCalls Tryz.prog 112 #[.agg #[.int .i64 n22, .slice a105 L30 C30], .int .i64 less] h fun v13 h72 => ∃ r103 : Int, ∃ (r104 : Option Addr) (rL43 rC43 : Nat), ∃ r105 : Int, ∃ r106 : Int, ∃ (r107 : Option Addr) (rL44 rC44 : Nat), v13 = .tuple #[.agg #[.int .i64 r103, .slice r104 rL43 rC43], .agg #[.int .i64 r105, .int .i64 r106, .slice r107 rL44 rC44]] ∧
  NN t4 fun a106 =>
  Wr h72 a106 (.int .i64 r103) fun h73 =>
  Wr h73 (a106.add 1) (.slice r104 rL43 rC43) fun h74 =>
  NN t5 fun a107 =>
  Wr h74 a107 (.int .i64 r105) fun h75 =>
  Wr h75 (a107.add 1) (.int .i64 r106) fun h76 =>
  Wr h76 (a107.add 2) (.slice r107 rL44 rC44) fun h77 =>
  NN t4 fun a108 =>
  ∃ r108 : Int, ∃ (r109 : Option Addr) (rL45 rC45 : Nat), cell h77 a108 = some (.int .i64 r108) ∧
  cell h77 (a108.add 1) = some (.slice r109 rL45 rC45) ∧
  NN t5 fun a109 =>
  ∃ r110 : Int, ∃ r111 : Int, ∃ (r112 : Option Addr) (rL46 rC46 : Nat), cell h77 a109 = some (.int .i64 r110) ∧
  cell h77 (a109.add 1) = some (.int .i64 r111) ∧
  cell h77 (a109.add 2) = some (.slice r112 rL46 rC46) ∧
  K (.tuple #[.agg #[.int .i64 r108, .slice r109 rL45 rC45], .agg #[.int .i64 r110, .int .i64 r111, .slice r112 rL46 rC46]]) h77)
  (r03_dict_b7 s t4 t5 nv k h  K))))) := by kernel_rfl
theorem r03_dict_b6_eq (s : Option Addr) (t4 : Option Addr) (t5 : Option Addr) (v : Int) (h : Hp)  (K : Value → Hp → Prop) : r03_dict_b6 s t4 t5 v h  K = (
  NN s fun a110 =>
  ∃ n23 : Int, ∃ (a111 : Option Addr) (L31 C31 : Nat), cell h a110 = some (.int .i64 n23) ∧
  cell h (a110.add 1) = some (.slice a111 L31 C31) ∧
  HCalls Tryz.prog 112 #[.agg #[.int .i64 n23, .slice a111 L31 C31], .int .i64 v] h fun v14 h78 => ∃ r113 : Int, ∃ (r114 : Option Addr) (rL47 rC47 : Nat), ∃ r115 : Int, ∃ r116 : Int, ∃ (r117 : Option Addr) (rL48 rC48 : Nat), v14 = .tuple #[.agg #[.int .i64 r113, .slice r114 rL47 rC47], .agg #[.int .i64 r115, .int .i64 r116, .slice r117 rL48 rC48]] ∧
  NN t4 fun a112 =>
  Wr h78 a112 (.int .i64 r113) fun h79 =>
  Wr h79 (a112.add 1) (.slice r114 rL47 rC47) fun h80 =>
  NN t5 fun a113 =>
  Wr h80 a113 (.int .i64 r115) fun h81 =>
  Wr h81 (a113.add 1) (.int .i64 r116) fun h82 =>
  Wr h82 (a113.add 2) (.slice r117 rL48 rC48) fun h83 =>
  NN t4 fun a114 =>
  ∃ r118 : Int, ∃ (r119 : Option Addr) (rL49 rC49 : Nat), cell h83 a114 = some (.int .i64 r118) ∧
  cell h83 (a114.add 1) = some (.slice r119 rL49 rC49) ∧
  NN t5 fun a115 =>
  ∃ r120 : Int, ∃ r121 : Int, ∃ (r122 : Option Addr) (rL50 rC50 : Nat), cell h83 a115 = some (.int .i64 r120) ∧
  cell h83 (a115.add 1) = some (.int .i64 r121) ∧
  cell h83 (a115.add 2) = some (.slice r122 rL50 rC50) ∧
  K (.tuple #[.agg #[.int .i64 r118, .slice r119 rL49 rC49], .agg #[.int .i64 r120, .int .i64 r121, .slice r122 rL50 rC50]]) h83) := by kernel_rfl
theorem r03_dict_b7_eq (s : Option Addr) (t4 : Option Addr) (t5 : Option Addr) (nv : Int) (k : Int) (h : Hp)  (K : Value → Hp → Prop) : r03_dict_b7 s t4 t5 nv k h  K = (
  cond (decide (k < 0))
  (NN s fun a116 =>
  ∃ n24 : Int, ∃ (a117 : Option Addr) (L32 C32 : Nat), cell h a116 = some (.int .i64 n24) ∧
  cell h (a116.add 1) = some (.slice a117 L32 C32) ∧
  HCalls Tryz.prog 113 #[.agg #[.int .i64 n24, .slice a117 L32 C32], .int .i64 2] h fun v15 h84 => ∃ r123 : Int, ∃ (r124 : Option Addr) (rL51 rC51 : Nat), ∃ r125 : Int, ∃ r126 : Int, ∃ (r127 : Option Addr) (rL52 rC52 : Nat), v15 = .tuple #[.agg #[.int .i64 r123, .slice r124 rL51 rC51], .agg #[.int .i64 r125, .int .i64 r126, .slice r127 rL52 rC52]] ∧
  NN t4 fun a118 =>
  Wr h84 a118 (.int .i64 r123) fun h85 =>
  Wr h85 (a118.add 1) (.slice r124 rL51 rC51) fun h86 =>
  NN t5 fun a119 =>
  Wr h86 a119 (.int .i64 r125) fun h87 =>
  Wr h87 (a119.add 1) (.int .i64 r126) fun h88 =>
  Wr h88 (a119.add 2) (.slice r127 rL52 rC52) fun h89 =>
  NN t4 fun a120 =>
  ∃ r128 : Int, ∃ (r129 : Option Addr) (rL53 rC53 : Nat), cell h89 a120 = some (.int .i64 r128) ∧
  cell h89 (a120.add 1) = some (.slice r129 rL53 rC53) ∧
  NN t5 fun a121 =>
  ∃ r130 : Int, ∃ r131 : Int, ∃ (r132 : Option Addr) (rL54 rC54 : Nat), cell h89 a121 = some (.int .i64 r130) ∧
  cell h89 (a121.add 1) = some (.int .i64 r131) ∧
  cell h89 (a121.add 2) = some (.slice r132 rL54 rC54) ∧
  K (.tuple #[.agg #[.int .i64 r128, .slice r129 rL53 rC53], .agg #[.int .i64 r130, .int .i64 r131, .slice r132 rL54 rC54]]) h89)
  (cond (decide (nv ≤ k))
  (NN s fun a122 =>
  ∃ n25 : Int, ∃ (a123 : Option Addr) (L33 C33 : Nat), cell h a122 = some (.int .i64 n25) ∧
  cell h (a122.add 1) = some (.slice a123 L33 C33) ∧
  HCalls Tryz.prog 113 #[.agg #[.int .i64 n25, .slice a123 L33 C33], .int .i64 2] h fun v16 h90 => ∃ r133 : Int, ∃ (r134 : Option Addr) (rL55 rC55 : Nat), ∃ r135 : Int, ∃ r136 : Int, ∃ (r137 : Option Addr) (rL56 rC56 : Nat), v16 = .tuple #[.agg #[.int .i64 r133, .slice r134 rL55 rC55], .agg #[.int .i64 r135, .int .i64 r136, .slice r137 rL56 rC56]] ∧
  NN t4 fun a124 =>
  Wr h90 a124 (.int .i64 r133) fun h91 =>
  Wr h91 (a124.add 1) (.slice r134 rL55 rC55) fun h92 =>
  NN t5 fun a125 =>
  Wr h92 a125 (.int .i64 r135) fun h93 =>
  Wr h93 (a125.add 1) (.int .i64 r136) fun h94 =>
  Wr h94 (a125.add 2) (.slice r137 rL56 rC56) fun h95 =>
  NN t4 fun a126 =>
  ∃ r138 : Int, ∃ (r139 : Option Addr) (rL57 rC57 : Nat), cell h95 a126 = some (.int .i64 r138) ∧
  cell h95 (a126.add 1) = some (.slice r139 rL57 rC57) ∧
  NN t5 fun a127 =>
  ∃ r140 : Int, ∃ r141 : Int, ∃ (r142 : Option Addr) (rL58 rC58 : Nat), cell h95 a127 = some (.int .i64 r140) ∧
  cell h95 (a127.add 1) = some (.int .i64 r141) ∧
  cell h95 (a127.add 2) = some (.slice r142 rL58 rC58) ∧
  K (.tuple #[.agg #[.int .i64 r138, .slice r139 rL57 rC57], .agg #[.int .i64 r140, .int .i64 r141, .slice r142 rL58 rC58]]) h95)
  (r03_dict_b8 s t4 t5 k h  K))) := by kernel_rfl
theorem r03_dict_b8_eq (s : Option Addr) (t4 : Option Addr) (t5 : Option Addr) (k : Int) (h : Hp)  (K : Value → Hp → Prop) : r03_dict_b8 s t4 t5 k h  K = (
  NN s fun a128 =>
  ∃ n26 : Int, ∃ (a129 : Option Addr) (L34 C34 : Nat), cell h a128 = some (.int .i64 n26) ∧
  cell h (a128.add 1) = some (.slice a129 L34 C34) ∧
  NN s fun a130 =>
  ∃ (a131 : Option Addr) (L35 C35 : Nat), cell h (a130.add 1) = some (.slice a131 L35 C35) ∧
  (0 ≤ k ∧ k < (L35 : Int)) ∧
  NN a131 fun a132 =>
  ∃ (a133 : Option Addr) (L36 C36 : Nat), cell h (a132.add (Int.toNat k * 1)) = some (.slice a133 L36 C36) ∧
  (0 ≤ (0 : Int) ∧ (0 : Int) < (L36 : Int)) ∧
  NN a133 fun a134 =>
  ∃ n27 : Int, cell h (a134.add (Int.toNat (0 : Int) * 1)) = some (.int .i64 n27) ∧
  HCalls Tryz.prog 112 #[.agg #[.int .i64 n26, .slice a129 L34 C34], .int .i64 n27] h fun v17 h96 => ∃ r143 : Int, ∃ (r144 : Option Addr) (rL59 rC59 : Nat), ∃ r145 : Int, ∃ r146 : Int, ∃ (r147 : Option Addr) (rL60 rC60 : Nat), v17 = .tuple #[.agg #[.int .i64 r143, .slice r144 rL59 rC59], .agg #[.int .i64 r145, .int .i64 r146, .slice r147 rL60 rC60]] ∧
  NN t4 fun a135 =>
  Wr h96 a135 (.int .i64 r143) fun h97 =>
  Wr h97 (a135.add 1) (.slice r144 rL59 rC59) fun h98 =>
  NN t5 fun a136 =>
  Wr h98 a136 (.int .i64 r145) fun h99 =>
  Wr h99 (a136.add 1) (.int .i64 r146) fun h100 =>
  Wr h100 (a136.add 2) (.slice r147 rL60 rC60) fun h101 =>
  NN t4 fun a137 =>
  ∃ r148 : Int, ∃ (r149 : Option Addr) (rL61 rC61 : Nat), cell h101 a137 = some (.int .i64 r148) ∧
  cell h101 (a137.add 1) = some (.slice r149 rL61 rC61) ∧
  NN t5 fun a138 =>
  ∃ r150 : Int, ∃ r151 : Int, ∃ (r152 : Option Addr) (rL62 rC62 : Nat), cell h101 a138 = some (.int .i64 r150) ∧
  cell h101 (a138.add 1) = some (.int .i64 r151) ∧
  cell h101 (a138.add 2) = some (.slice r152 rL62 rC62) ∧
  K (.tuple #[.agg #[.int .i64 r148, .slice r149 rL61 rC61], .agg #[.int .i64 r150, .int .i64 r151, .slice r152 rL62 rC62]]) h101) := by kernel_rfl
theorem r03_dict_call {s_0 : Int} {s_1 : Option Addr} {s_1L : Nat} {s_1C : Nat} {o_0 : Int} {o_1 : Option Addr} {o_1L : Nat} {o_1C : Nat} {h : Hp} {K : Value → Hp → Prop} (hk : r03_dict_b0 s_0 s_1 s_1L s_1C o_0 o_1 o_1L o_1C h K) : HCalls Tryz.prog 77 #[.agg #[.int .i64 s_0, .slice s_1 s_1L s_1C], .agg #[.int .i64 o_0, .slice o_1 o_1L o_1C]] h K :=
  calls_of_snd r03_dict_an Tryz.func77 (c := bodyOf Tryz.f77) rfl Tryz.ntmps77 (Nat.le_of_ble_eq_true rfl) (snd_4 F_ok F_mixed) hk

end Go.Proofs.YtdlkohenamlnaaaGreat
