/- Plain statements of what each block of code of this seat asks; printed by a program, checked by Lean. -/
import Derived.Test.YtfkccighnkepgaaSxV0
set_option maxRecDepth 10000
namespace Go.Proofs.Ytfkccighnkepgaa
open Go Go.Sx

/-! ### r50_Batch -/
def r50_Batch_an : Ann := .node none (.leaf) (.node (some [1, 2, 3, 6]) (.node none (.leaf) (.loop [1, 2, 3, 6] [(9, .int .i64)] (.node none (.leaf) (.node (some [1, 2, 3, 6, 9]) (.leaf) (.leaf))))) (.node (some [1, 2, 3, 6]) (.node none (.leaf) (.loop [1, 2, 3, 6] [(10, .int .i64)] (.node none (.leaf) (.node (some [1, 2, 3, 6, 10]) (.node none (.leaf) (.loop [1, 2, 3, 6, 10] [(11, .int .i64)] (.node none (.leaf) (.node (some [1, 2, 3, 6, 10, 11]) (.leaf) (.leaf))))) (.leaf))))) (.node none (.leaf) (.node (some [2, 3, 6, 12]) (.node none (.leaf) (.loop [1, 2, 3, 6, 12] [(13, .int .i64)] (.node none (.leaf) (.node (some [1, 2, 3, 6, 12, 13]) (.node (some [1, 2, 3, 6, 12, 13, 14, 15]) (.plan (.qu 0 (.qu 1 (.qu 2 (.qu 3 (.qu 4 (.wo 5 (.qu 6 (.qu 7 (.qu 8 (.wo 9 (.wo 10 (.wo 11 .fin .no) .no) .no)))) (.wo 9 (.wo 5 (.qu 6 (.qu 7 (.qu 8 (.wo 10 (.wo 11 .fin .no) .no)))) .no) .no)))))))) (.leaf)) (.leaf))))) (.node (some [2, 3, 6, 12]) (.node none (.leaf) (.loop [2, 3, 6, 12] [(16, .int .i64)] (.node none (.leaf) (.node (some [2, 3, 6, 12, 16]) (.node none (.node none (.tail 6) (.leaf)) (.node none (.leaf) (.loop [2, 3, 6, 12, 16] [(17, .int .i64)] (.node none (.leaf) (.node (some [2, 3, 6, 12, 16, 17]) (.leaf) (.leaf)))))) (.leaf))))) (.node none (.leaf) (.node none (.leaf) (.node (some [6, 12, 18]) (.node none (.leaf) (.loop [2, 6, 12] [(18, .slice), (19, .int .i64)] (.node none (.leaf) (.node (some [2, 6, 12, 18, 19]) (.node (some [2, 6, 12, 18, 19, 20, 21]) (.plan (.qu 0 (.qu 1 (.qu 2 (.qu 3 (.qu 4 (.wo 5 (.qu 6 (.qu 7 (.qu 8 (.qu 9 (.wo 10 (.wo 11 (.wo 12 (.wo 13 .fin .no) .no) .no) .no))))) (.wo 10 (.wo 5 (.qu 6 (.qu 7 (.qu 8 (.qu 9 (.wo 11 (.wo 12 (.wo 13 .fin .no) .no) .no))))) .no) .no)))))))) (.leaf)) (.leaf))))) (.leaf)))))))))
def r50_Batch_K0  (K : Value → Hp → Prop) : Exit → Env → Hp → Prop := retK Try.prog Try.f66.results.toList K
def r50_Batch_K1  (K : Value → Hp → Prop) : Exit → Env → Hp → Prop := thenE (fun env h => sx_6 Try.prog F 140 (cp [1, 1] (bodyOf Try.f66)) (ap [1, 1] r50_Batch_an) (rs [1, 2, 3, 6] env) h (r50_Batch_K0  K)) (r50_Batch_K0  K)
def r50_Batch_K2  (K : Value → Hp → Prop) : Exit → Env → Hp → Prop := blockE 0 (r50_Batch_K1  K)
def r50_Batch_K3 (nx0 : Int × Unit → Hp → Prop) (K : Value → Hp → Prop) : Exit → Env → Hp → Prop := thenE (fun env h => getV [(9, .int .i64)] env fun s => nx0 s h) (r50_Batch_K2  K)
def r50_Batch_K4  (K : Value → Hp → Prop) : Exit → Env → Hp → Prop := thenE (fun env h => sx_5 Try.prog F 140 (cp [1, 1, 1] (bodyOf Try.f66)) (ap [1, 1, 1] r50_Batch_an) (rs [1, 2, 3, 6] env) h (r50_Batch_K0  K)) (r50_Batch_K0  K)
def r50_Batch_K5  (K : Value → Hp → Prop) : Exit → Env → Hp → Prop := blockE 2 (r50_Batch_K4  K)
def r50_Batch_K6 (nx0 : Int × Unit → Hp → Prop) (K : Value → Hp → Prop) : Exit → Env → Hp → Prop := thenE (fun env h => getV [(10, .int .i64)] env fun s => nx0 s h) (r50_Batch_K5  K)
def r50_Batch_K7 (nx0 : Int × Unit → Hp → Prop) (K : Value → Hp → Prop) : Exit → Env → Hp → Prop := thenE (fun env h => sx_4 Try.prog F 140 (cp [1, 1, 0, 1, 2, 2, 1, 1] (bodyOf Try.f66)) (ap [1, 1, 0, 1, 2, 1, 1] r50_Batch_an) (rs [1, 2, 3, 6, 10] env) h (r50_Batch_K6 nx0 K)) (r50_Batch_K6 nx0 K)
def r50_Batch_K8 (nx0 : Int × Unit → Hp → Prop) (K : Value → Hp → Prop) : Exit → Env → Hp → Prop := blockE 3 (r50_Batch_K7 nx0 K)
def r50_Batch_K9 (nx0 : Int × Unit → Hp → Prop) (K : Value → Hp → Prop) : Exit → Env → Hp → Prop := blockE 4 (r50_Batch_K8 nx0 K)
def r50_Batch_K10 (nx0 : Int × Unit → Hp → Prop) (nx1 : Int × Unit → Hp → Prop) (K : Value → Hp → Prop) : Exit → Env → Hp → Prop := thenE (fun env h => getV [(11, .int .i64)] env fun s => nx1 s h) (r50_Batch_K9 nx0 K)
def r50_Batch_K11  (K : Value → Hp → Prop) : Exit → Env → Hp → Prop := thenE (fun env h => sx_4 Try.prog F 140 (cp [1, 1, 1, 1, 1] (bodyOf Try.f66)) (ap [1, 1, 1, 1, 1] r50_Batch_an) (rs [2, 3, 6, 12] env) h (r50_Batch_K0  K)) (r50_Batch_K0  K)
def r50_Batch_K12  (K : Value → Hp → Prop) : Exit → Env → Hp → Prop := blockE 6 (r50_Batch_K11  K)
def r50_Batch_K13 (nx0 : Int × Unit → Hp → Prop) (K : Value → Hp → Prop) : Exit → Env → Hp → Prop := thenE (fun env h => getV [(13, .int .i64)] env fun s => nx0 s h) (r50_Batch_K12  K)
def r50_Batch_K14 (nx0 : Int × Unit → Hp → Prop) (K : Value → Hp → Prop) : Exit → Env → Hp → Prop := thenE (fun env h => sx_3 Try.prog F 140 (cp [1, 1, 1, 1, 0, 1, 2, 2, 1, 1] (bodyOf Try.f66)) (ap [1, 1, 1, 1, 0, 1, 2, 1, 1] r50_Batch_an) (rs [1, 2, 3, 6, 12, 13] env) h (r50_Batch_K13 nx0 K)) (r50_Batch_K13 nx0 K)
def r50_Batch_K15 (nx0 : Int × Unit → Hp → Prop) (K : Value → Hp → Prop) : Exit → Env → Hp → Prop := blockE 7 (r50_Batch_K14 nx0 K)
def r50_Batch_K16  (K : Value → Hp → Prop) : Exit → Env → Hp → Prop := thenE (fun env h => sx_3 Try.prog F 140 (cp [1, 1, 1, 1, 1, 1] (bodyOf Try.f66)) (ap [1, 1, 1, 1, 1, 1] r50_Batch_an) (rs [2, 3, 6, 12] env) h (r50_Batch_K0  K)) (r50_Batch_K0  K)
def r50_Batch_K17  (K : Value → Hp → Prop) : Exit → Env → Hp → Prop := blockE 8 (r50_Batch_K16  K)
def r50_Batch_K18 (nx0 : Int × Unit → Hp → Prop) (K : Value → Hp → Prop) : Exit → Env → Hp → Prop := thenE (fun env h => getV [(16, .int .i64)] env fun s => nx0 s h) (r50_Batch_K17  K)
def r50_Batch_K19 (nx0 : Int × Unit → Hp → Prop) (K : Value → Hp → Prop) : Exit → Env → Hp → Prop := thenE (fun env h => sx_2 Try.prog F 140 (cp [1, 1, 1, 1, 1, 0, 1, 2, 2, 1, 1] (bodyOf Try.f66)) (ap [1, 1, 1, 1, 1, 0, 1, 2, 1, 1] r50_Batch_an) (rs [2, 3, 6, 12, 16] env) h (r50_Batch_K18 nx0 K)) (r50_Batch_K18 nx0 K)
def r50_Batch_K20 (nx0 : Int × Unit → Hp → Prop) (K : Value → Hp → Prop) : Exit → Env → Hp → Prop := blockE 9 (r50_Batch_K19 nx0 K)
def r50_Batch_K21 (nx0 : Int × Unit → Hp → Prop) (K : Value → Hp → Prop) : Exit → Env → Hp → Prop := blockE 10 (r50_Batch_K20 nx0 K)
def r50_Batch_K22 (nx0 : Int × Unit → Hp → Prop) (nx1 : Int × Unit → Hp → Prop) (K : Value → Hp → Prop) : Exit → Env → Hp → Prop := thenE (fun env h => getV [(17, .int .i64)] env fun s => nx1 s h) (r50_Batch_K21 nx0 K)
def r50_Batch_K23  (K : Value → Hp → Prop) : Exit → Env → Hp → Prop := thenE (fun env h => sx_2 Try.prog F 140 (cp [1, 1, 1, 1, 1, 1, 1, 1, 1] (bodyOf Try.f66)) (ap [1, 1, 1, 1, 1, 1, 1, 1, 1] r50_Batch_an) (rs [6, 12, 18] env) h (r50_Batch_K0  K)) (r50_Batch_K0  K)
def r50_Batch_K24  (K : Value → Hp → Prop) : Exit → Env → Hp → Prop := blockE 12 (r50_Batch_K23  K)
def r50_Batch_K25 (nx0 : (Option Addr × Nat × Nat) × Int × Unit → Hp → Prop) (K : Value → Hp → Prop) : Exit → Env → Hp → Prop := thenE (fun env h => getV [(18, .slice), (19, .int .i64)] env fun s => nx0 s h) (r50_Batch_K24  K)
def r50_Batch_K26 (nx0 : (Option Addr × Nat × Nat) × Int × Unit → Hp → Prop) (K : Value → Hp → Prop) : Exit → Env → Hp → Prop := thenE (fun env h => sx_1 Try.prog F 140 (cp [1, 1, 1, 1, 1, 1, 1, 1, 0, 1, 2, 2, 1, 1] (bodyOf Try.f66)) (ap [1, 1, 1, 1, 1, 1, 1, 1, 0, 1, 2, 1, 1] r50_Batch_an) (rs [2, 6, 12, 18, 19] env) h (r50_Batch_K25 nx0 K)) (r50_Batch_K25 nx0 K)
def r50_Batch_K27 (nx0 : (Option Addr × Nat × Nat) × Int × Unit → Hp → Prop) (K : Value → Hp → Prop) : Exit → Env → Hp → Prop := blockE 13 (r50_Batch_K26 nx0 K)
def r50_Batch_b0 (t_0 : Option Addr) (t_0L : Nat) (t_0C : Nat) (t_1 : Option Addr) (t_1L : Nat) (t_1C : Nat) (t_2 : Int) (deletes : Option Addr) (deletesL : Nat) (deletesC : Nat) (inserts : Option Addr) (insertsL : Nat) (insertsC : Nat) (h : Hp)  (K : Value → Hp → Prop) : Prop :=
  sx_7 Try.prog F 140 (cp [] (bodyOf Try.f66)) (ap [] r50_Batch_an) [(0, .agg #[.slice t_0 t_0L t_0C, .slice t_1 t_1L t_1C, .int .i64 t_2]), (1, .slice deletes deletesL deletesC), (2, .slice inserts insertsL insertsC)] h (r50_Batch_K0  K)
def r50_Batch_b1 (i : Int) (deletes : Option Addr) (deletesL : Nat) (deletesC : Nat) (inserts : Option Addr) (insertsL : Nat) (insertsC : Nat) (t : Option Addr) (t6 : Option Addr) (h : Hp) (nx0 : Int × Unit → Hp → Prop) (K : Value → Hp → Prop) : Prop :=
  sx_6 Try.prog F 140 (cp [1, 0, 1, 2, 2] (bodyOf Try.f66)) (ap [1, 0, 1, 2] r50_Batch_an) [(9, .int .i64 i), (1, .slice deletes deletesL deletesC), (2, .slice inserts insertsL insertsC), (3, .pointer t), (6, .pointer t6)] h (r50_Batch_K3 nx0 K)
def r50_Batch_b2 (deletes : Option Addr) (deletesL : Nat) (deletesC : Nat) (inserts : Option Addr) (insertsL : Nat) (insertsC : Nat) (t : Option Addr) (t6 : Option Addr) (i : Int) (h : Hp) (nx0 : Int × Unit → Hp → Prop) (K : Value → Hp → Prop) : Prop :=
  sx_5 Try.prog F 140 (cp [1, 0, 1, 2, 2, 1, 1] (bodyOf Try.f66)) (ap [1, 0, 1, 2, 1, 1] r50_Batch_an) [(1, .slice deletes deletesL deletesC), (2, .slice inserts insertsL insertsC), (3, .pointer t), (6, .pointer t6), (9, .int .i64 i)] h (r50_Batch_K3 nx0 K)
def r50_Batch_b3 (deletes : Option Addr) (deletesL : Nat) (deletesC : Nat) (inserts : Option Addr) (insertsL : Nat) (insertsC : Nat) (t : Option Addr) (t6 : Option Addr) (h : Hp)  (K : Value → Hp → Prop) : Prop :=
  sx_6 Try.prog F 140 (cp [1, 1] (bodyOf Try.f66)) (ap [1, 1] r50_Batch_an) [(1, .slice deletes deletesL deletesC), (2, .slice inserts insertsL insertsC), (3, .pointer t), (6, .pointer t6)] h (r50_Batch_K0  K)
def r50_Batch_b4 (i : Int) (deletes : Option Addr) (deletesL : Nat) (deletesC : Nat) (inserts : Option Addr) (insertsL : Nat) (insertsC : Nat) (t : Option Addr) (t6 : Option Addr) (h : Hp) (nx0 : Int × Unit → Hp → Prop) (K : Value → Hp → Prop) : Prop :=
  sx_5 Try.prog F 140 (cp [1, 1, 0, 1, 2, 2] (bodyOf Try.f66)) (ap [1, 1, 0, 1, 2] r50_Batch_an) [(10, .int .i64 i), (1, .slice deletes deletesL deletesC), (2, .slice inserts insertsL insertsC), (3, .pointer t), (6, .pointer t6)] h (r50_Batch_K6 nx0 K)
def r50_Batch_b5 (k : Int) (deletes : Option Addr) (deletesL : Nat) (deletesC : Nat) (inserts : Option Addr) (insertsL : Nat) (insertsC : Nat) (t : Option Addr) (t6 : Option Addr) (i : Int) (h : Hp) (nx0 : Int × Unit → Hp → Prop) (nx1 : Int × Unit → Hp → Prop) (K : Value → Hp → Prop) : Prop :=
  sx_4 Try.prog F 140 (cp [1, 1, 0, 1, 2, 2, 1, 0, 2, 1, 2, 2] (bodyOf Try.f66)) (ap [1, 1, 0, 1, 2, 1, 0, 1, 2] r50_Batch_an) [(11, .int .i64 k), (1, .slice deletes deletesL deletesC), (2, .slice inserts insertsL insertsC), (3, .pointer t), (6, .pointer t6), (10, .int .i64 i)] h (r50_Batch_K10 nx0 nx1 K)
def r50_Batch_b6 (deletes : Option Addr) (deletesL : Nat) (deletesC : Nat) (inserts : Option Addr) (insertsL : Nat) (insertsC : Nat) (t : Option Addr) (t6 : Option Addr) (h : Hp)  (K : Value → Hp → Prop) : Prop :=
  sx_5 Try.prog F 140 (cp [1, 1, 1] (bodyOf Try.f66)) (ap [1, 1, 1] r50_Batch_an) [(1, .slice deletes deletesL deletesC), (2, .slice inserts insertsL insertsC), (3, .pointer t), (6, .pointer t6)] h (r50_Batch_K0  K)
def r50_Batch_b7 (deletes : Option Addr) (deletesL : Nat) (deletesC : Nat) (inserts : Option Addr) (insertsL : Nat) (insertsC : Nat) (t : Option Addr) (t6 : Option Addr) (i : Int) (k : Int) (h : Hp) (nx0 : Int × Unit → Hp → Prop) (nx1 : Int × Unit → Hp → Prop) (K : Value → Hp → Prop) : Prop :=
  sx_3 Try.prog F 140 (cp [1, 1, 0, 1, 2, 2, 1, 0, 2, 1, 2, 2, 1, 1] (bodyOf Try.f66)) (ap [1, 1, 0, 1, 2, 1, 0, 1, 2, 1, 1] r50_Batch_an) [(1, .slice deletes deletesL deletesC), (2, .slice inserts insertsL insertsC), (3, .pointer t), (6, .pointer t6), (10, .int .i64 i), (11, .int .i64 k)] h (r50_Batch_K10 nx0 nx1 K)
def r50_Batch_b8 (deletes : Option Addr) (deletesL : Nat) (deletesC : Nat) (inserts : Option Addr) (insertsL : Nat) (insertsC : Nat) (t : Option Addr) (t6 : Option Addr) (i : Int) (h : Hp) (nx0 : Int × Unit → Hp → Prop) (K : Value → Hp → Prop) : Prop :=
  sx_4 Try.prog F 140 (cp [1, 1, 0, 1, 2, 2, 1, 1] (bodyOf Try.f66)) (ap [1, 1, 0, 1, 2, 1, 1] r50_Batch_an) [(1, .slice deletes deletesL deletesC), (2, .slice inserts insertsL insertsC), (3, .pointer t), (6, .pointer t6), (10, .int .i64 i)] h (r50_Batch_K6 nx0 K)
def r50_Batch_b9 (i : Int) (deletes : Option Addr) (deletesL : Nat) (deletesC : Nat) (inserts : Option Addr) (insertsL : Nat) (insertsC : Nat) (t : Option Addr) (t6 : Option Addr) (u : Option Addr) (h : Hp) (nx0 : Int × Unit → Hp → Prop) (K : Value → Hp → Prop) : Prop :=
  sx_4 Try.prog F 140 (cp [1, 1, 1, 1, 0, 1, 2, 2] (bodyOf Try.f66)) (ap [1, 1, 1, 1, 0, 1, 2] r50_Batch_an) [(13, .int .i64 i), (1, .slice deletes deletesL deletesC), (2, .slice inserts insertsL insertsC), (3, .pointer t), (6, .pointer t6), (12, .pointer u)] h (r50_Batch_K13 nx0 K)
def r50_Batch_b10 (deletes : Option Addr) (deletesL : Nat) (deletesC : Nat) (inserts : Option Addr) (insertsL : Nat) (insertsC : Nat) (t : Option Addr) (t6 : Option Addr) (u : Option Addr) (i : Int) (next : Option Addr) (e : Int) (h : Hp) (nx0 : Int × Unit → Hp → Prop) (K : Value → Hp → Prop) : Prop :=
  sx_3 Try.prog F 140 (cp [1, 1, 1, 1, 0, 1, 2, 2, 1, 0, 2, 1] (bodyOf Try.f66)) (ap [1, 1, 1, 1, 0, 1, 2, 1, 0, 1] r50_Batch_an) [(1, .slice deletes deletesL deletesC), (2, .slice inserts insertsL insertsC), (3, .pointer t), (6, .pointer t6), (12, .pointer u), (13, .int .i64 i), (14, .pointer next), (15, .int .i64 e)] h (r50_Batch_K15 nx0 K)
def r50_Batch_b11 (inserts : Option Addr) (insertsL : Nat) (insertsC : Nat) (t : Option Addr) (t6 : Option Addr) (u : Option Addr) (h : Hp)  (K : Value → Hp → Prop) : Prop :=
  sx_4 Try.prog F 140 (cp [1, 1, 1, 1, 1] (bodyOf Try.f66)) (ap [1, 1, 1, 1, 1] r50_Batch_an) [(2, .slice inserts insertsL insertsC), (3, .pointer t), (6, .pointer t6), (12, .pointer u)] h (r50_Batch_K0  K)
def r50_Batch_b12 (deletes : Option Addr) (deletesL : Nat) (deletesC : Nat) (inserts : Option Addr) (insertsL : Nat) (insertsC : Nat) (t : Option Addr) (t6 : Option Addr) (u : Option Addr) (i : Int) (h : Hp) (nx0 : Int × Unit → Hp → Prop) (K : Value → Hp → Prop) : Prop :=
  sx_3 Try.prog F 140 (cp [1, 1, 1, 1, 0, 1, 2, 2, 1, 1] (bodyOf Try.f66)) (ap [1, 1, 1, 1, 0, 1, 2, 1, 1] r50_Batch_an) [(1, .slice deletes deletesL deletesC), (2, .slice inserts insertsL insertsC), (3, .pointer t), (6, .pointer t6), (12, .pointer u), (13, .int .i64 i)] h (r50_Batch_K13 nx0 K)
def r50_Batch_b13 (i : Int) (inserts : Option Addr) (insertsL : Nat) (insertsC : Nat) (t : Option Addr) (t6 : Option Addr) (u : Option Addr) (h : Hp) (nx0 : Int × Unit → Hp → Prop) (K : Value → Hp → Prop) : Prop :=
  sx_3 Try.prog F 140 (cp [1, 1, 1, 1, 1, 0, 1, 2, 2] (bodyOf Try.f66)) (ap [1, 1, 1, 1, 1, 0, 1, 2] r50_Batch_an) [(16, .int .i64 i), (2, .slice inserts insertsL insertsC), (3, .pointer t), (6, .pointer t6), (12, .pointer u)] h (r50_Batch_K18 nx0 K)
def r50_Batch_b14 (k : Int) (inserts : Option Addr) (insertsL : Nat) (insertsC : Nat) (t : Option Addr) (t6 : Option Addr) (u : Option Addr) (i : Int) (h : Hp) (nx0 : Int × Unit → Hp → Prop) (nx1 : Int × Unit → Hp → Prop) (K : Value → Hp → Prop) : Prop :=
  sx_2 Try.prog F 140 (cp [1, 1, 1, 1, 1, 0, 1, 2, 2, 1, 0, 2, 1, 1, 2, 2] (bodyOf Try.f66)) (ap [1, 1, 1, 1, 1, 0, 1, 2, 1, 0, 1, 1, 2] r50_Batch_an) [(17, .int .i64 k), (2, .slice inserts insertsL insertsC), (3, .pointer t), (6, .pointer t6), (12, .pointer u), (16, .int .i64 i)] h (r50_Batch_K22 nx0 nx1 K)
def r50_Batch_b15 (inserts : Option Addr) (insertsL : Nat) (insertsC : Nat) (t : Option Addr) (t6 : Option Addr) (u : Option Addr) (h : Hp)  (K : Value → Hp → Prop) : Prop :=
  sx_3 Try.prog F 140 (cp [1, 1, 1, 1, 1, 1] (bodyOf Try.f66)) (ap [1, 1, 1, 1, 1, 1] r50_Batch_an) [(2, .slice inserts insertsL insertsC), (3, .pointer t), (6, .pointer t6), (12, .pointer u)] h (r50_Batch_K0  K)
def r50_Batch_b16 (inserts : Option Addr) (insertsL : Nat) (insertsC : Nat) (t : Option Addr) (t6 : Option Addr) (u : Option Addr) (i : Int) (k : Int) (h : Hp) (nx0 : Int × Unit → Hp → Prop) (nx1 : Int × Unit → Hp → Prop) (K : Value → Hp → Prop) : Prop :=
  sx_1 Try.prog F 140 (cp [1, 1, 1, 1, 1, 0, 1, 2, 2, 1, 0, 2, 1, 1, 2, 2, 1, 1] (bodyOf Try.f66)) (ap [1, 1, 1, 1, 1, 0, 1, 2, 1, 0, 1, 1, 2, 1, 1] r50_Batch_an) [(2, .slice inserts insertsL insertsC), (3, .pointer t), (6, .pointer t6), (12, .pointer u), (16, .int .i64 i), (17, .int .i64 k)] h (r50_Batch_K22 nx0 nx1 K)
def r50_Batch_b17 (inserts : Option Addr) (insertsL : Nat) (insertsC : Nat) (t : Option Addr) (t6 : Option Addr) (u : Option Addr) (i : Int) (h : Hp) (nx0 : Int × Unit → Hp → Prop) (K : Value → Hp → Prop) : Prop :=
  sx_2 Try.prog F 140 (cp [1, 1, 1, 1, 1, 0, 1, 2, 2, 1, 1] (bodyOf Try.f66)) (ap [1, 1, 1, 1, 1, 0, 1, 2, 1, 1] r50_Batch_an) [(2, .slice inserts insertsL insertsC), (3, .pointer t), (6, .pointer t6), (12, .pointer u), (16, .int .i64 i)] h (r50_Batch_K18 nx0 K)
def r50_Batch_b18 (out : Option Addr) (outL : Nat) (outC : Nat) (i : Int) (inserts : Option Addr) (insertsL : Nat) (insertsC : Nat) (t6 : Option Addr) (u : Option Addr) (h : Hp) (nx0 : (Option Addr × Nat × Nat) × Int × Unit → Hp → Prop) (K : Value → Hp → Prop) : Prop :=
  sx_2 Try.prog F 140 (cp [1, 1, 1, 1, 1, 1, 1, 1, 0, 1, 2, 2] (bodyOf Try.f66)) (ap [1, 1, 1, 1, 1, 1, 1, 1, 0, 1, 2] r50_Batch_an) [(18, .slice out outL outC), (19, .int .i64 i), (2, .slice inserts insertsL insertsC), (6, .pointer t6), (12, .pointer u)] h (r50_Batch_K25 nx0 K)
def r50_Batch_b19 (inserts : Option Addr) (insertsL : Nat) (insertsC : Nat) (t6 : Option Addr) (u : Option Addr) (out : Option Addr) (outL : Nat) (outC : Nat) (i : Int) (next : Option Addr) (id : Int) (h : Hp) (nx0 : (Option Addr × Nat × Nat) × Int × Unit → Hp → Prop) (K : Value → Hp → Prop) : Prop :=
  sx_1 Try.prog F 140 (cp [1, 1, 1, 1, 1, 1, 1, 1, 0, 1, 2, 2, 1, 0, 2, 1] (bodyOf Try.f66)) (ap [1, 1, 1, 1, 1, 1, 1, 1, 0, 1, 2, 1, 0, 1] r50_Batch_an) [(2, .slice inserts insertsL insertsC), (6, .pointer t6), (12, .pointer u), (18, .slice out outL outC), (19, .int .i64 i), (20, .pointer next), (21, .int .i64 id)] h (r50_Batch_K27 nx0 K)
def r50_Batch_b20 (t6 : Option Addr) (u : Option Addr) (out : Option Addr) (outL : Nat) (outC : Nat) (h : Hp)  (K : Value → Hp → Prop) : Prop :=
  sx_2 Try.prog F 140 (cp [1, 1, 1, 1, 1, 1, 1, 1, 1] (bodyOf Try.f66)) (ap [1, 1, 1, 1, 1, 1, 1, 1, 1] r50_Batch_an) [(6, .pointer t6), (12, .pointer u), (18, .slice out outL outC)] h (r50_Batch_K0  K)
def r50_Batch_b21 (inserts : Option Addr) (insertsL : Nat) (insertsC : Nat) (t6 : Option Addr) (u : Option Addr) (out : Option Addr) (outL : Nat) (outC : Nat) (i : Int) (h : Hp) (nx0 : (Option Addr × Nat × Nat) × Int × Unit → Hp → Prop) (K : Value → Hp → Prop) : Prop :=
  sx_1 Try.prog F 140 (cp [1, 1, 1, 1, 1, 1, 1, 1, 0, 1, 2, 2, 1, 1] (bodyOf Try.f66)) (ap [1, 1, 1, 1, 1, 1, 1, 1, 0, 1, 2, 1, 1] r50_Batch_an) [(2, .slice inserts insertsL insertsC), (6, .pointer t6), (12, .pointer u), (18, .slice out outL outC), (19, .int .i64 i)] h (r50_Batch_K25 nx0 K)
theorem r50_Batch_b0_eq (t_0 : Option Addr) (t_0L : Nat) (t_0C : Nat) (t_1 : Option Addr) (t_1L : Nat) (t_1C : Nat) (t_2 : Int) (deletes : Option Addr) (deletesL : Nat) (deletesC : Nat) (inserts : Option Addr) (insertsL : Nat) (insertsC : Nat) (h : Hp)  (K : Value → Hp → Prop) : r50_Batch_b0 t_0 t_0L t_0C t_1 t_1L t_1C t_2 deletes deletesL deletesC inserts insertsL insertsC h  K = (
  New h (.cells #[.slice t_0 t_0L t_0C, .slice t_1 t_1L t_1C, .int .i64 t_2] 29) fun b1 h1 =>
  New h1 (.cells #[.slice none 0 0, .slice none 0 0, .int .i64 0] 29) fun b2 h2 =>
  LoopVC ((0, ()) : Int × Unit) h2 (fun (nx0 : Int × Unit → Hp → Prop) (s1 : Int × Unit) h3 => r50_Batch_b1 s1.1 deletes deletesL deletesC inserts insertsL insertsC (some ⟨b1, 0, none⟩) (some ⟨b2, 0, none⟩) h3 nx0 K)) := by kernel_rfl
theorem r50_Batch_b1_eq (i : Int) (deletes : Option Addr) (deletesL : Nat) (deletesC : Nat) (inserts : Option Addr) (insertsL : Nat) (insertsC : Nat) (t : Option Addr) (t6 : Option Addr) (h : Hp) (nx0 : Int × Unit → Hp → Prop) (K : Value → Hp → Prop) : r50_Batch_b1 i deletes deletesL deletesC inserts insertsL insertsC t t6 h nx0 K = (
  cond (decide (i < (insertsL : Int)))
  ((0 ≤ i ∧ i < (insertsL : Int)) ∧
  NN inserts fun a1 =>
  ∃ n1 : Int, ∃ n2 : Int, ∃ n3 : Int, ∃ n4 : Int, ∃ s2 : ByteArray, cell h (a1.add (Int.toNat i * 5)) = some (.int .i64 n1) ∧
  cell h ((a1.add (Int.toNat i * 5)).add 1) = some (.int .i64 n2) ∧
  cell h ((a1.add (Int.toNat i * 5)).add 2) = some (.int .i64 n3) ∧
  cell h ((a1.add (Int.toNat i * 5)).add 3) = some (.int .i64 n4) ∧
  cell h ((a1.add (Int.toNat i * 5)).add 4) = some (.string s2) ∧
  HCalls Try.prog 28 #[.agg #[.int .i64 n1, .int .i64 n2, .int .i64 n3, .int .i64 n4, .string s2]] h fun v1 h4 => ∃ r1 : Bool, v1 = .bool r1 ∧
  cond (!r1)
  (NN t fun a2 =>
  ∃ (a3 : Option Addr) (L1 C1 : Nat), ∃ (a4 : Option Addr) (L2 C2 : Nat), ∃ n5 : Int, cell h4 a2 = some (.slice a3 L1 C1) ∧
  cell h4 (a2.add 1) = some (.slice a4 L2 C2) ∧
  cell h4 (a2.add 2) = some (.int .i64 n5) ∧
  NN t6 fun a5 =>
  Wr h4 a5 (.slice a3 L1 C1) fun h5 =>
  Wr h5 (a5.add 1) (.slice a4 L2 C2) fun h6 =>
  Wr h6 (a5.add 2) (.int .i64 n5) fun h7 =>
  NN t6 fun a6 =>
  ∃ (r2 : Option Addr) (rL1 rC1 : Nat), ∃ (r3 : Option Addr) (rL2 rC2 : Nat), ∃ r4 : Int, cell h7 a6 = some (.slice r2 rL1 rC1) ∧
  cell h7 (a6.add 1) = some (.slice r3 rL2 rC2) ∧
  cell h7 (a6.add 2) = some (.int .i64 r4) ∧
  K (.tuple #[.agg #[.slice r2 rL1 rC1, .slice r3 rL2 rC2, .int .i64 r4], .slice none 0 0, .int .i64 1]) h7)
  (r50_Batch_b2 deletes deletesL deletesC inserts insertsL insertsC t t6 i h4 nx0 K))
  (r50_Batch_b3 deletes deletesL deletesC inserts insertsL insertsC t t6 h  K)) := by kernel_rfl
theorem r50_Batch_b2_eq (deletes : Option Addr) (deletesL : Nat) (deletesC : Nat) (inserts : Option Addr) (insertsL : Nat) (insertsC : Nat) (t : Option Addr) (t6 : Option Addr) (i : Int) (h : Hp) (nx0 : Int × Unit → Hp → Prop) (K : Value → Hp → Prop) : r50_Batch_b2 deletes deletesL deletesC inserts insertsL insertsC t t6 i h nx0 K = (
  InR (i + 1) ∧
  nx0 (i + 1, ()) h) := by kernel_rfl
theorem r50_Batch_b3_eq (deletes : Option Addr) (deletesL : Nat) (deletesC : Nat) (inserts : Option Addr) (insertsL : Nat) (insertsC : Nat) (t : Option Addr) (t6 : Option Addr) (h : Hp)  (K : Value → Hp → Prop) : r50_Batch_b3 deletes deletesL deletesC inserts insertsL insertsC t t6 h  K = (
  LoopVC ((0, ()) : Int × Unit) h (fun (nx0 : Int × Unit → Hp → Prop) (s3 : Int × Unit) h8 => r50_Batch_b4 s3.1 deletes deletesL deletesC inserts insertsL insertsC t t6 h8 nx0 K)) := by kernel_rfl
theorem r50_Batch_b4_eq (i : Int) (deletes : Option Addr) (deletesL : Nat) (deletesC : Nat) (inserts : Option Addr) (insertsL : Nat) (insertsC : Nat) (t : Option Addr) (t6 : Option Addr) (h : Hp) (nx0 : Int × Unit → Hp → Prop) (K : Value → Hp → Prop) : r50_Batch_b4 i deletes deletesL deletesC inserts insertsL insertsC t t6 h nx0 K = (
  cond (decide (i < (deletesL : Int)))
  (LoopVC ((0, ()) : Int × Unit) h (fun (nx1 : Int × Unit → Hp → Prop) (s4 : Int × Unit) h9 => r50_Batch_b5 s4.1 deletes deletesL deletesC inserts insertsL insertsC t t6 i h9 nx0 nx1 K))
  (r50_Batch_b6 deletes deletesL deletesC inserts insertsL insertsC t t6 h  K)) := by kernel_rfl
theorem r50_Batch_b5_eq (k : Int) (deletes : Option Addr) (deletesL : Nat) (deletesC : Nat) (inserts : Option Addr) (insertsL : Nat) (insertsC : Nat) (t : Option Addr) (t6 : Option Addr) (i : Int) (h : Hp) (nx0 : Int × Unit → Hp → Prop) (nx1 : Int × Unit → Hp → Prop) (K : Value → Hp → Prop) : r50_Batch_b5 k deletes deletesL deletesC inserts insertsL insertsC t t6 i h nx0 nx1 K = (
  cond (decide (k < i))
  ((0 ≤ k ∧ k < (deletesL : Int)) ∧
  NN deletes fun a7 =>
  ∃ n6 : Int, cell h (a7.add (Int.toNat k * 1)) = some (.int .i64 n6) ∧
  (0 ≤ i ∧ i < (deletesL : Int)) ∧
  NN deletes fun a8 =>
  ∃ n7 : Int, cell h (a8.add (Int.toNat i * 1)) = some (.int .i64 n7) ∧
  cond (decide (n6 = n7))
  (NN t fun a9 =>
  ∃ (a10 : Option Addr) (L3 C3 : Nat), ∃ (a11 : Option Addr) (L4 C4 : Nat), ∃ n8 : Int, cell h a9 = some (.slice a10 L3 C3) ∧
  cell h (a9.add 1) = some (.slice a11 L4 C4) ∧
  cell h (a9.add 2) = some (.int .i64 n8) ∧
  NN t6 fun a12 =>
  Wr h a12 (.slice a10 L3 C3) fun h10 =>
  Wr h10 (a12.add 1) (.slice a11 L4 C4) fun h11 =>
  Wr h11 (a12.add 2) (.int .i64 n8) fun h12 =>
  NN t6 fun a13 =>
  ∃ (r5 : Option Addr) (rL3 rC3 : Nat), ∃ (r6 : Option Addr) (rL4 rC4 : Nat), ∃ r7 : Int, cell h12 a13 = some (.slice r5 rL3 rC3) ∧
  cell h12 (a13.add 1) = some (.slice r6 rL4 rC4) ∧
  cell h12 (a13.add 2) = some (.int .i64 r7) ∧
  K (.tuple #[.agg #[.slice r5 rL3 rC3, .slice r6 rL4 rC4, .int .i64 r7], .slice none 0 0, .int .i64 10]) h12)
  (r50_Batch_b7 deletes deletesL deletesC inserts insertsL insertsC t t6 i k h nx0 nx1 K))
  (r50_Batch_b8 deletes deletesL deletesC inserts insertsL insertsC t t6 i h nx0 K)) := by kernel_rfl
theorem r50_Batch_b6_eq (deletes : Option Addr) (deletesL : Nat) (deletesC : Nat) (inserts : Option Addr) (insertsL : Nat) (insertsC : Nat) (t : Option Addr) (t6 : Option Addr) (h : Hp)  (K : Value → Hp → Prop) : r50_Batch_b6 deletes deletesL deletesC inserts insertsL insertsC t t6 h  K = (
  NN t fun a14 =>
  ∃ (a15 : Option Addr) (L5 C5 : Nat), ∃ (a16 : Option Addr) (L6 C6 : Nat), ∃ n9 : Int, cell h a14 = some (.slice a15 L5 C5) ∧
  cell h (a14.add 1) = some (.slice a16 L6 C6) ∧
  cell h (a14.add 2) = some (.int .i64 n9) ∧
  New h (.cells #[.slice none 0 0, .slice none 0 0, .int .i64 0] 29) fun b3 h13 =>
  Wr h13 ⟨b3, 0, none⟩ (.slice a15 L5 C5) fun h14 =>
  Wr h14 ((⟨b3, 0, none⟩ : Addr).add 1) (.slice a16 L6 C6) fun h15 =>
  Wr h15 ((⟨b3, 0, none⟩ : Addr).add 2) (.int .i64 n9) fun h16 =>
  LoopVC ((0, ()) : Int × Unit) h16 (fun (nx0 : Int × Unit → Hp → Prop) (s5 : Int × Unit) h17 => r50_Batch_b9 s5.1 deletes deletesL deletesC inserts insertsL insertsC t t6 (some ⟨b3, 0, none⟩) h17 nx0 K)) := by kernel_rfl
theorem r50_Batch_b7_eq (deletes : Option Addr) (deletesL : Nat) (deletesC : Nat) (inserts : Option Addr) (insertsL : Nat) (insertsC : Nat) (t : Option Addr) (t6 : Option Addr) (i : Int) (k : Int) (h : Hp) (nx0 : Int × Unit → Hp → Prop) (nx1 : Int × Unit → Hp → Prop) (K : Value → Hp → Prop) : r50_Batch_b7 deletes deletesL deletesC inserts insertsL insertsC t t6 i k h nx0 nx1 K = (
  InR (k + 1) ∧
  nx1 (k + 1, ()) h) := by kernel_rfl
theorem r50_Batch_b8_eq (deletes : Option Addr) (deletesL : Nat) (deletesC : Nat) (inserts : Option Addr) (insertsL : Nat) (insertsC : Nat) (t : Option Addr) (t6 : Option Addr) (i : Int) (h : Hp) (nx0 : Int × Unit → Hp → Prop) (K : Value → Hp → Prop) : r50_Batch_b8 deletes deletesL deletesC inserts insertsL insertsC t t6 i h nx0 K = (
  InR (i + 1) ∧
  nx0 (i + 1, ()) h) := by kernel_rfl
theorem r50_Batch_b9_eq (i : Int) (deletes : Option Addr) (deletesL : Nat) (deletesC : Nat) (inserts : Option Addr) (insertsL : Nat) (insertsC : Nat) (t : Option Addr) (t6 : Option Addr) (u : Option Addr) (h : Hp) (nx0 : Int × Unit → Hp → Prop) (K : Value → Hp → Prop) : r50_Batch_b9 i deletes deletesL deletesC inserts insertsL insertsC t t6 u h nx0 K = (
  cond (decide (i < (deletesL : Int)))
  (NN u fun a17 =>
  ∃ (a18 : Option Addr) (L7 C7 : Nat), ∃ (a19 : Option Addr) (L8 C8 : Nat), ∃ n10 : Int, cell h a17 = some (.slice a18 L7 C7) ∧
  cell h (a17.add 1) = some (.slice a19 L8 C8) ∧
  cell h (a17.add 2) = some (.int .i64 n10) ∧
  (0 ≤ i ∧ i < (deletesL : Int)) ∧
  NN deletes fun a20 =>
  ∃ n11 : Int, cell h (a20.add (Int.toNat i * 1)) = some (.int .i64 n11) ∧
  (HCalls Try.prog 65 #[.agg #[.slice a18 L7 C7, .slice a19 L8 C8, .int .i64 n10], .int .i64 n11] h fun v2 h18 => ∃ (r8 : Option Addr) (rL5 rC5 : Nat), ∃ (r9 : Option Addr) (rL6 rC6 : Nat), ∃ r10 : Int, ∃ r11 : Int, v2 = .tuple #[.agg #[.slice r8 rL5 rC5, .slice r9 rL6 rC6, .int .i64 r10], .int .i64 r11] ∧
  New h18 (.cells #[.slice none 0 0, .slice none 0 0, .int .i64 0] 29) fun b4 h19 =>
  Wr h19 ⟨b4, 0, none⟩ (.slice r8 rL5 rC5) fun h20 =>
  Wr h20 ((⟨b4, 0, none⟩ : Addr).add 1) (.slice r9 rL6 rC6) fun h21 =>
  Wr h21 ((⟨b4, 0, none⟩ : Addr).add 2) (.int .i64 r10) fun h22 =>
  r50_Batch_b10 deletes deletesL deletesC inserts insertsL insertsC t t6 u i (some ⟨b4, 0, none⟩) r11 h22 nx0 K) ∧
  (New h (.cells #[.slice none 0 0, .slice none 0 0, .int .i64 0] 29) fun b5 h23 =>
  (∃ n12 : Int, cell h23 (a20.add (Int.toNat i * 1)) = some (.int .i64 n12) ∧
  (.int .i64 n12 : Value) = .int .i64 n11) ∧
  (NN u fun a21 =>
  ∃ (a22 : Option Addr) (L9 C9 : Nat), ∃ (a23 : Option Addr) (L10 C10 : Nat), ∃ n13 : Int, cell h23 a21 = some (.slice a22 L9 C9) ∧
  cell h23 (a21.add 1) = some (.slice a23 L10 C10) ∧
  cell h23 (a21.add 2) = some (.int .i64 n13) ∧
  (.agg #[.slice a22 L9 C9, .slice a23 L10 C10, .int .i64 n13] : Value) = .agg #[.slice a18 L7 C7, .slice a19 L8 C8, .int .i64 n10]) ∧
  HCalls Try.prog 65 #[.agg #[.slice a18 L7 C7, .slice a19 L8 C8, .int .i64 n10], .int .i64 n11] h23 fun v3 h24 => ∃ (r12 : Option Addr) (rL7 rC7 : Nat), ∃ (r13 : Option Addr) (rL8 rC8 : Nat), ∃ r14 : Int, ∃ r15 : Int, v3 = .tuple #[.agg #[.slice r12 rL7 rC7, .slice r13 rL8 rC8, .int .i64 r14], .int .i64 r15] ∧
  Wr h24 ⟨b5, 0, none⟩ (.slice r12 rL7 rC7) fun h25 =>
  Wr h25 ((⟨b5, 0, none⟩ : Addr).add 1) (.slice r13 rL8 rC8) fun h26 =>
  Wr h26 ((⟨b5, 0, none⟩ : Addr).add 2) (.int .i64 r14) fun h27 =>
  r50_Batch_b10 deletes deletesL deletesC inserts insertsL insertsC t t6 u i (some ⟨b5, 0, none⟩) r15 h27 nx0 K))
  (r50_Batch_b11 inserts insertsL insertsC t t6 u h  K)) := by kernel_rfl
theorem r50_Batch_b10_eq (deletes : Option Addr) (deletesL : Nat) (deletesC : Nat) (inserts : Option Addr) (insertsL : Nat) (insertsC : Nat) (t : Option Addr) (t6 : Option Addr) (u : Option Addr) (i : Int) (next : Option Addr) (e : Int) (h : Hp) (nx0 : Int × Unit → Hp → Prop) (K : Value → Hp → Prop) : r50_Batch_b10 deletes deletesL deletesC inserts insertsL insertsC t t6 u i next e h nx0 K = (
  cond (!decide (e = 0))
  (NN t fun a24 =>
  ∃ (a25 : Option Addr) (L11 C11 : Nat), ∃ (a26 : Option Addr) (L12 C12 : Nat), ∃ n14 : Int, cell h a24 = some (.slice a25 L11 C11) ∧
  cell h (a24.add 1) = some (.slice a26 L12 C12) ∧
  cell h (a24.add 2) = some (.int .i64 n14) ∧
  NN t6 fun a27 =>
  Wr h a27 (.slice a25 L11 C11) fun h28 =>
  Wr h28 (a27.add 1) (.slice a26 L12 C12) fun h29 =>
  Wr h29 (a27.add 2) (.int .i64 n14) fun h30 =>
  NN t6 fun a28 =>
  ∃ (r16 : Option Addr) (rL9 rC9 : Nat), ∃ (r17 : Option Addr) (rL10 rC10 : Nat), ∃ r18 : Int, cell h30 a28 = some (.slice r16 rL9 rC9) ∧
  cell h30 (a28.add 1) = some (.slice r17 rL10 rC10) ∧
  cell h30 (a28.add 2) = some (.int .i64 r18) ∧
  K (.tuple #[.agg #[.slice r16 rL9 rC9, .slice r17 rL10 rC10, .int .i64 r18], .slice none 0 0, .int .i64 e]) h30)
  (NN next fun a29 =>
  ∃ (a30 : Option Addr) (L13 C13 : Nat), ∃ (a31 : Option Addr) (L14 C14 : Nat), ∃ n15 : Int, cell h a29 = some (.slice a30 L13 C13) ∧
  cell h (a29.add 1) = some (.slice a31 L14 C14) ∧
  cell h (a29.add 2) = some (.int .i64 n15) ∧
  NN u fun a32 =>
  Wr h a32 (.slice a30 L13 C13) fun h31 =>
  Wr h31 (a32.add 1) (.slice a31 L14 C14) fun h32 =>
  Wr h32 (a32.add 2) (.int .i64 n15) fun h33 =>
  r50_Batch_b12 deletes deletesL deletesC inserts insertsL insertsC t t6 u i h33 nx0 K)) := by kernel_rfl
theorem r50_Batch_b11_eq (inserts : Option Addr) (insertsL : Nat) (insertsC : Nat) (t : Option Addr) (t6 : Option Addr) (u : Option Addr) (h : Hp)  (K : Value → Hp → Prop) : r50_Batch_b11 inserts insertsL insertsC t t6 u h  K = (
  LoopVC ((0, ()) : Int × Unit) h (fun (nx0 : Int × Unit → Hp → Prop) (s6 : Int × Unit) h34 => r50_Batch_b13 s6.1 inserts insertsL insertsC t t6 u h34 nx0 K)) := by kernel_rfl
theorem r50_Batch_b12_eq (deletes : Option Addr) (deletesL : Nat) (deletesC : Nat) (inserts : Option Addr) (insertsL : Nat) (insertsC : Nat) (t : Option Addr) (t6 : Option Addr) (u : Option Addr) (i : Int) (h : Hp) (nx0 : Int × Unit → Hp → Prop) (K : Value → Hp → Prop) : r50_Batch_b12 deletes deletesL deletesC inserts insertsL insertsC t t6 u i h nx0 K = (
  InR (i + 1) ∧
  nx0 (i + 1, ()) h) := by kernel_rfl
theorem r50_Batch_b13_eq (i : Int) (inserts : Option Addr) (insertsL : Nat) (insertsC : Nat) (t : Option Addr) (t6 : Option Addr) (u : Option Addr) (h : Hp) (nx0 : Int × Unit → Hp → Prop) (K : Value → Hp → Prop) : r50_Batch_b13 i inserts insertsL insertsC t t6 u h nx0 K = (
  cond (decide (i < (insertsL : Int)))
  (NN u fun a33 =>
  ∃ (a34 : Option Addr) (L15 C15 : Nat), ∃ (a35 : Option Addr) (L16 C16 : Nat), ∃ n16 : Int, cell h a33 = some (.slice a34 L15 C15) ∧
  cell h (a33.add 1) = some (.slice a35 L16 C16) ∧
  cell h (a33.add 2) = some (.int .i64 n16) ∧
  (0 ≤ i ∧ i < (insertsL : Int)) ∧
  NN inserts fun a36 =>
  ∃ n17 : Int, cell h (a36.add (Int.toNat i * 5)) = some (.int .i64 n17) ∧
  HCalls Try.prog 76 #[.agg #[.slice a34 L15 C15, .slice a35 L16 C16, .int .i64 n16], .int .i64 n17, .int .i64 (-1)] h fun v4 h35 => ∃ r19 : Bool, v4 = .bool r19 ∧
  cond r19
  (NN t fun a37 =>
  ∃ (a38 : Option Addr) (L17 C17 : Nat), ∃ (a39 : Option Addr) (L18 C18 : Nat), ∃ n18 : Int, cell h35 a37 = some (.slice a38 L17 C17) ∧
  cell h35 (a37.add 1) = some (.slice a39 L18 C18) ∧
  cell h35 (a37.add 2) = some (.int .i64 n18) ∧
  NN t6 fun a40 =>
  Wr h35 a40 (.slice a38 L17 C17) fun h36 =>
  Wr h36 (a40.add 1) (.slice a39 L18 C18) fun h37 =>
  Wr h37 (a40.add 2) (.int .i64 n18) fun h38 =>
  NN t6 fun a41 =>
  ∃ (r20 : Option Addr) (rL11 rC11 : Nat), ∃ (r21 : Option Addr) (rL12 rC12 : Nat), ∃ r22 : Int, cell h38 a41 = some (.slice r20 rL11 rC11) ∧
  cell h38 (a41.add 1) = some (.slice r21 rL12 rC12) ∧
  cell h38 (a41.add 2) = some (.int .i64 r22) ∧
  K (.tuple #[.agg #[.slice r20 rL11 rC11, .slice r21 rL12 rC12, .int .i64 r22], .slice none 0 0, .int .i64 15]) h38)
  (LoopVC ((0, ()) : Int × Unit) h35 (fun (nx1 : Int × Unit → Hp → Prop) (s7 : Int × Unit) h39 => r50_Batch_b14 s7.1 inserts insertsL insertsC t t6 u i h39 nx0 nx1 K)))
  (r50_Batch_b15 inserts insertsL insertsC t t6 u h  K)) := by kernel_rfl
theorem r50_Batch_b14_eq (k : Int) (inserts : Option Addr) (insertsL : Nat) (insertsC : Nat) (t : Option Addr) (t6 : Option Addr) (u : Option Addr) (i : Int) (h : Hp) (nx0 : Int × Unit → Hp → Prop) (nx1 : Int × Unit → Hp → Prop) (K : Value → Hp → Prop) : r50_Batch_b14 k inserts insertsL insertsC t t6 u i h nx0 nx1 K = (
  cond (decide (k < i))
  ((0 ≤ k ∧ k < (insertsL : Int)) ∧
  NN inserts fun a42 =>
  ∃ n19 : Int, cell h (a42.add (Int.toNat k * 5)) = some (.int .i64 n19) ∧
  (0 ≤ i ∧ i < (insertsL : Int)) ∧
  NN inserts fun a43 =>
  ∃ n20 : Int, cell h (a43.add (Int.toNat i * 5)) = some (.int .i64 n20) ∧
  cond (decide (n19 = n20))
  (NN t fun a44 =>
  ∃ (a45 : Option Addr) (L19 C19 : Nat), ∃ (a46 : Option Addr) (L20 C20 : Nat), ∃ n21 : Int, cell h a44 = some (.slice a45 L19 C19) ∧
  cell h (a44.add 1) = some (.slice a46 L20 C20) ∧
  cell h (a44.add 2) = some (.int .i64 n21) ∧
  NN t6 fun a47 =>
  Wr h a47 (.slice a45 L19 C19) fun h40 =>
  Wr h40 (a47.add 1) (.slice a46 L20 C20) fun h41 =>
  Wr h41 (a47.add 2) (.int .i64 n21) fun h42 =>
  NN t6 fun a48 =>
  ∃ (r23 : Option Addr) (rL13 rC13 : Nat), ∃ (r24 : Option Addr) (rL14 rC14 : Nat), ∃ r25 : Int, cell h42 a48 = some (.slice r23 rL13 rC13) ∧
  cell h42 (a48.add 1) = some (.slice r24 rL14 rC14) ∧
  cell h42 (a48.add 2) = some (.int .i64 r25) ∧
  K (.tuple #[.agg #[.slice r23 rL13 rC13, .slice r24 rL14 rC14, .int .i64 r25], .slice none 0 0, .int .i64 15]) h42)
  (r50_Batch_b16 inserts insertsL insertsC t t6 u i k h nx0 nx1 K))
  (r50_Batch_b17 inserts insertsL insertsC t t6 u i h nx0 K)) := by kernel_rfl
theorem r50_Batch_b15_eq (inserts : Option Addr) (insertsL : Nat) (insertsC : Nat) (t : Option Addr) (t6 : Option Addr) (u : Option Addr) (h : Hp)  (K : Value → Hp → Prop) : r50_Batch_b15 inserts insertsL insertsC t t6 u h  K = (
  NN u fun a49 =>
  ∃ (a50 : Option Addr) (L21 C21 : Nat), cell h a49 = some (.slice a50 L21 C21) ∧
  InR ((L21 : Int) + (insertsL : Int)) ∧
  cond (decide ((1000 : Int) < ((L21 : Int) + (insertsL : Int))))
  (NN t fun a51 =>
  ∃ (a52 : Option Addr) (L22 C22 : Nat), ∃ (a53 : Option Addr) (L23 C23 : Nat), ∃ n22 : Int, cell h a51 = some (.slice a52 L22 C22) ∧
  cell h (a51.add 1) = some (.slice a53 L23 C23) ∧
  cell h (a51.add 2) = some (.int .i64 n22) ∧
  NN t6 fun a54 =>
  Wr h a54 (.slice a52 L22 C22) fun h43 =>
  Wr h43 (a54.add 1) (.slice a53 L23 C23) fun h44 =>
  Wr h44 (a54.add 2) (.int .i64 n22) fun h45 =>
  NN t6 fun a55 =>
  ∃ (r26 : Option Addr) (rL15 rC15 : Nat), ∃ (r27 : Option Addr) (rL16 rC16 : Nat), ∃ r28 : Int, cell h45 a55 = some (.slice r26 rL15 rC15) ∧
  cell h45 (a55.add 1) = some (.slice r27 rL16 rC16) ∧
  cell h45 (a55.add 2) = some (.int .i64 r28) ∧
  K (.tuple #[.agg #[.slice r26 rL15 rC15, .slice r27 rL16 rC16, .int .i64 r28], .slice none 0 0, .int .i64 4]) h45)
  (LoopVC (((none, 0, 0), 0, ()) : (Option Addr × Nat × Nat) × Int × Unit) h (fun (nx0 : (Option Addr × Nat × Nat) × Int × Unit → Hp → Prop) (s8 : (Option Addr × Nat × Nat) × Int × Unit) h46 => r50_Batch_b18 s8.1.1 s8.1.2.1 s8.1.2.2 s8.2.1 inserts insertsL insertsC t6 u h46 nx0 K))) := by kernel_rfl
theorem r50_Batch_b16_eq (inserts : Option Addr) (insertsL : Nat) (insertsC : Nat) (t : Option Addr) (t6 : Option Addr) (u : Option Addr) (i : Int) (k : Int) (h : Hp) (nx0 : Int × Unit → Hp → Prop) (nx1 : Int × Unit → Hp → Prop) (K : Value → Hp → Prop) : r50_Batch_b16 inserts insertsL insertsC t t6 u i k h nx0 nx1 K = (
  InR (k + 1) ∧
  nx1 (k + 1, ()) h) := by kernel_rfl
theorem r50_Batch_b17_eq (inserts : Option Addr) (insertsL : Nat) (insertsC : Nat) (t : Option Addr) (t6 : Option Addr) (u : Option Addr) (i : Int) (h : Hp) (nx0 : Int × Unit → Hp → Prop) (K : Value → Hp → Prop) : r50_Batch_b17 inserts insertsL insertsC t t6 u i h nx0 K = (
  InR (i + 1) ∧
  nx0 (i + 1, ()) h) := by kernel_rfl
theorem r50_Batch_b18_eq (out : Option Addr) (outL : Nat) (outC : Nat) (i : Int) (inserts : Option Addr) (insertsL : Nat) (insertsC : Nat) (t6 : Option Addr) (u : Option Addr) (h : Hp) (nx0 : (Option Addr × Nat × Nat) × Int × Unit → Hp → Prop) (K : Value → Hp → Prop) : r50_Batch_b18 out outL outC i inserts insertsL insertsC t6 u h nx0 K = (
  cond (decide (i < (insertsL : Int)))
  (NN u fun a56 =>
  ∃ (a57 : Option Addr) (L24 C24 : Nat), ∃ (a58 : Option Addr) (L25 C25 : Nat), ∃ n23 : Int, cell h a56 = some (.slice a57 L24 C24) ∧
  cell h (a56.add 1) = some (.slice a58 L25 C25) ∧
  cell h (a56.add 2) = some (.int .i64 n23) ∧
  (0 ≤ i ∧ i < (insertsL : Int)) ∧
  NN inserts fun a59 =>
  ∃ n24 : Int, ∃ n25 : Int, ∃ n26 : Int, ∃ n27 : Int, ∃ s9 : ByteArray, cell h (a59.add (Int.toNat i * 5)) = some (.int .i64 n24) ∧
  cell h ((a59.add (Int.toNat i * 5)).add 1) = some (.int .i64 n25) ∧
  cell h ((a59.add (Int.toNat i * 5)).add 2) = some (.int .i64 n26) ∧
  cell h ((a59.add (Int.toNat i * 5)).add 3) = some (.int .i64 n27) ∧
  cell h ((a59.add (Int.toNat i * 5)).add 4) = some (.string s9) ∧
  (HCalls Try.prog 62 #[.agg #[.slice a57 L24 C24, .slice a58 L25 C25, .int .i64 n23], .agg #[.int .i64 n24, .int .i64 n25, .int .i64 n26, .int .i64 n27, .string s9]] h fun v5 h47 => ∃ (r29 : Option Addr) (rL17 rC17 : Nat), ∃ (r30 : Option Addr) (rL18 rC18 : Nat), ∃ r31 : Int, ∃ r32 : Int, ∃ r33 : Int, v5 = .tuple #[.agg #[.slice r29 rL17 rC17, .slice r30 rL18 rC18, .int .i64 r31], .int .i64 r32, .int .i64 r33] ∧
  New h47 (.cells #[.slice none 0 0, .slice none 0 0, .int .i64 0] 29) fun b6 h48 =>
  Wr h48 ⟨b6, 0, none⟩ (.slice r29 rL17 rC17) fun h49 =>
  Wr h49 ((⟨b6, 0, none⟩ : Addr).add 1) (.slice r30 rL18 rC18) fun h50 =>
  Wr h50 ((⟨b6, 0, none⟩ : Addr).add 2) (.int .i64 r31) fun h51 =>
  r50_Batch_b19 inserts insertsL insertsC t6 u out outL outC i (some ⟨b6, 0, none⟩) r32 h51 nx0 K) ∧
  (New h (.cells #[.slice none 0 0, .slice none 0 0, .int .i64 0] 29) fun b7 h52 =>
  (∃ n28 : Int, ∃ n29 : Int, ∃ n30 : Int, ∃ n31 : Int, ∃ s10 : ByteArray, cell h52 (a59.add (Int.toNat i * 5)) = some (.int .i64 n28) ∧
  cell h52 ((a59.add (Int.toNat i * 5)).add 1) = some (.int .i64 n29) ∧
  cell h52 ((a59.add (Int.toNat i * 5)).add 2) = some (.int .i64 n30) ∧
  cell h52 ((a59.add (Int.toNat i * 5)).add 3) = some (.int .i64 n31) ∧
  cell h52 ((a59.add (Int.toNat i * 5)).add 4) = some (.string s10) ∧
  (.agg #[.int .i64 n28, .int .i64 n29, .int .i64 n30, .int .i64 n31, .string s10] : Value) = .agg #[.int .i64 n24, .int .i64 n25, .int .i64 n26, .int .i64 n27, .string s9]) ∧
  (NN u fun a60 =>
  ∃ (a61 : Option Addr) (L26 C26 : Nat), ∃ (a62 : Option Addr) (L27 C27 : Nat), ∃ n32 : Int, cell h52 a60 = some (.slice a61 L26 C26) ∧
  cell h52 (a60.add 1) = some (.slice a62 L27 C27) ∧
  cell h52 (a60.add 2) = some (.int .i64 n32) ∧
  (.agg #[.slice a61 L26 C26, .slice a62 L27 C27, .int .i64 n32] : Value) = .agg #[.slice a57 L24 C24, .slice a58 L25 C25, .int .i64 n23]) ∧
  HCalls Try.prog 62 #[.agg #[.slice a57 L24 C24, .slice a58 L25 C25, .int .i64 n23], .agg #[.int .i64 n24, .int .i64 n25, .int .i64 n26, .int .i64 n27, .string s9]] h52 fun v6 h53 => ∃ (r34 : Option Addr) (rL19 rC19 : Nat), ∃ (r35 : Option Addr) (rL20 rC20 : Nat), ∃ r36 : Int, ∃ r37 : Int, ∃ r38 : Int, v6 = .tuple #[.agg #[.slice r34 rL19 rC19, .slice r35 rL20 rC20, .int .i64 r36], .int .i64 r37, .int .i64 r38] ∧
  Wr h53 ⟨b7, 0, none⟩ (.slice r34 rL19 rC19) fun h54 =>
  Wr h54 ((⟨b7, 0, none⟩ : Addr).add 1) (.slice r35 rL20 rC20) fun h55 =>
  Wr h55 ((⟨b7, 0, none⟩ : Addr).add 2) (.int .i64 r36) fun h56 =>
  r50_Batch_b19 inserts insertsL insertsC t6 u out outL outC i (some ⟨b7, 0, none⟩) r37 h56 nx0 K))
  (r50_Batch_b20 t6 u out outL outC h  K)) := by kernel_rfl
theorem r50_Batch_b19_eq (inserts : Option Addr) (insertsL : Nat) (insertsC : Nat) (t6 : Option Addr) (u : Option Addr) (out : Option Addr) (outL : Nat) (outC : Nat) (i : Int) (next : Option Addr) (id : Int) (h : Hp) (nx0 : (Option Addr × Nat × Nat) × Int × Unit → Hp → Prop) (K : Value → Hp → Prop) : r50_Batch_b19 inserts insertsL insertsC t6 u out outL outC i next id h nx0 K = (
  NN next fun a63 =>
  ∃ (a64 : Option Addr) (L28 C28 : Nat), ∃ (a65 : Option Addr) (L29 C29 : Nat), ∃ n33 : Int, cell h a63 = some (.slice a64 L28 C28) ∧
  cell h (a63.add 1) = some (.slice a65 L29 C29) ∧
  cell h (a63.add 2) = some (.int .i64 n33) ∧
  NN u fun a66 =>
  Wr h a66 (.slice a64 L28 C28) fun h57 =>
  Wr h57 (a66.add 1) (.slice a65 L29 C29) fun h58 =>
  Wr h58 (a66.add 2) (.int .i64 n33) fun h59 =>
  New h59 (.cells #[.int .i64 id] 3) fun b8 h60 =>
  appendV Try.prog 26 26 (.slice out outL outC) (.slice (some ⟨b8, 0, none⟩) 1 1) h60 (slK fun a67 l1 c1 h61 =>
  r50_Batch_b21 inserts insertsL insertsC t6 u a67 l1 c1 i h61 nx0 K)) := by kernel_rfl
theorem r50_Batch_b20_eq (t6 : Option Addr) (u : Option Addr) (out : Option Addr) (outL : Nat) (outC : Nat) (h : Hp)  (K : Value → Hp → Prop) : r50_Batch_b20 t6 u out outL outC h  K = (
  NN u fun a68 =>
  ∃ (a69 : Option Addr) (L30 C30 : Nat), ∃ (a70 : Option Addr) (L31 C31 : Nat), ∃ n34 : Int, cell h a68 = some (.slice a69 L30 C30) ∧
  cell h (a68.add 1) = some (.slice a70 L31 C31) ∧
  cell h (a68.add 2) = some (.int .i64 n34) ∧
  NN t6 fun a71 =>
  Wr h a71 (.slice a69 L30 C30) fun h62 =>
  Wr h62 (a71.add 1) (.slice a70 L31 C31) fun h63 =>
  Wr h63 (a71.add 2) (.int .i64 n34) fun h64 =>
  NN t6 fun a72 =>
  ∃ (r39 : Option Addr) (rL21 rC21 : Nat), ∃ (r40 : Option Addr) (rL22 rC22 : Nat), ∃ r41 : Int, cell h64 a72 = some (.slice r39 rL21 rC21) ∧
  cell h64 (a72.add 1) = some (.slice r40 rL22 rC22) ∧
  cell h64 (a72.add 2) = some (.int .i64 r41) ∧
  K (.tuple #[.agg #[.slice r39 rL21 rC21, .slice r40 rL22 rC22, .int .i64 r41], .slice out outL outC, .int .i64 0]) h64) := by kernel_rfl
theorem r50_Batch_b21_eq (inserts : Option Addr) (insertsL : Nat) (insertsC : Nat) (t6 : Option Addr) (u : Option Addr) (out : Option Addr) (outL : Nat) (outC : Nat) (i : Int) (h : Hp) (nx0 : (Option Addr × Nat × Nat) × Int × Unit → Hp → Prop) (K : Value → Hp → Prop) : r50_Batch_b21 inserts insertsL insertsC t6 u out outL outC i h nx0 K = (
  InR (i + 1) ∧
  nx0 ((out, outL, outC), i + 1, ()) h) := by kernel_rfl
theorem r50_Batch_call {t_0 : Option Addr} {t_0L : Nat} {t_0C : Nat} {t_1 : Option Addr} {t_1L : Nat} {t_1C : Nat} {t_2 : Int} {deletes : Option Addr} {deletesL : Nat} {deletesC : Nat} {inserts : Option Addr} {insertsL : Nat} {insertsC : Nat} {h : Hp} {K : Value → Hp → Prop} (hk : r50_Batch_b0 t_0 t_0L t_0C t_1 t_1L t_1C t_2 deletes deletesL deletesC inserts insertsL insertsC h K) : HCalls Try.prog 66 #[.agg #[.slice t_0 t_0L t_0C, .slice t_1 t_1L t_1C, .int .i64 t_2], .slice deletes deletesL deletesC, .slice inserts insertsL insertsC] h K :=
  calls_of_snd r50_Batch_an Try.func66 (c := bodyOf Try.f66) rfl Try.ntmps66 (Nat.le_of_ble_eq_true rfl) (snd_7 F_ok F_mixed) hk

/-! ### slices_pdqsortCmpFunc_int -/
def slices_pdqsortCmpFunc_int_an : Ann := .node none (.leaf) (.node none (.leaf) (.loop [0, 4] [(1, .int .i64), (2, .int .i64), (3, .int .i64), (10, .bool), (11, .bool)] (.node none (.leaf) (.node none (.leaf) (.node none (.leaf) (.node (some [0, 1, 2, 3, 4, 10, 11, 12]) (.leaf) (.node none (.leaf) (.node (some [0, 1, 2, 3, 4, 10, 11, 12, 13, 14]) (.leaf) (.node (some [0, 1, 2, 3, 4, 10, 11, 12, 13]) (.leaf) (.node (some [0, 1, 2, 3, 4, 12, 13]) (.node none (.tail 13) (.leaf)) (.leaf)))))))))))
def slices_pdqsortCmpFunc_int_K0  (K : Value → Hp → Prop) : Exit → Env → Hp → Prop := retK Try.prog Try.f67.results.toList K
def slices_pdqsortCmpFunc_int_K1  (K : Value → Hp → Prop) : Exit → Env → Hp → Prop := blockE 0 (slices_pdqsortCmpFunc_int_K0  K)
def slices_pdqsortCmpFunc_int_K2 (nx0 : Int × Int × Int × Bool × Bool × Unit → Hp → Prop) (K : Value → Hp → Prop) : Exit → Env → Hp → Prop := thenE (fun env h => getV [(1, .int .i64), (2, .int .i64), (3, .int .i64), (10, .bool), (11, .bool)] env fun s => nx0 s h) (slices_pdqsortCmpFunc_int_K1  K)
def slices_pdqsortCmpFunc_int_K3 (nx0 : Int × Int × Int × Bool × Bool × Unit → Hp → Prop) (K : Value → Hp → Prop) : Exit → Env → Hp → Prop := blockE 1 (slices_pdqsortCmpFunc_int_K2 nx0 K)
def slices_pdqsortCmpFunc_int_b0 (data : Option Addr) (dataL : Nat) (dataC : Nat) (a : Int) (b : Int) (limit : Int) (cmp : Value) (h : Hp)  (K : Value → Hp → Prop) : Prop :=
  sx_6 Try.prog F 148 (cp [] (bodyOf Try.f67)) (ap [] slices_pdqsortCmpFunc_int_an) [(0, .slice data dataL dataC), (1, .int .i64 a), (2, .int .i64 b), (3, .int .i64 limit), (4, cmp)] h (slices_pdqsortCmpFunc_int_K0  K)
def slices_pdqsortCmpFunc_int_b1 (a : Int) (b : Int) (limit : Int) (wasBalanced : Bool) (wasPartitioned : Bool) (data : Option Addr) (dataL : Nat) (dataC : Nat) (cmp : Value) (h : Hp) (nx0 : Int × Int × Int × Bool × Bool × Unit → Hp → Prop) (K : Value → Hp → Prop) : Prop :=
  sx_5 Try.prog F 148 (cp [1, 1, 2, 2] (bodyOf Try.f67)) (ap [1, 1, 2] slices_pdqsortCmpFunc_int_an) [(1, .int .i64 a), (2, .int .i64 b), (3, .int .i64 limit), (10, .bool wasBalanced), (11, .bool wasPartitioned), (0, .slice data dataL dataC), (4, cmp)] h (slices_pdqsortCmpFunc_int_K2 nx0 K)
def slices_pdqsortCmpFunc_int_b2 (data : Option Addr) (dataL : Nat) (dataC : Nat) (a : Int) (b : Int) (limit : Int) (cmp : Value) (wasBalanced : Bool) (wasPartitioned : Bool) (length : Int) (h : Hp) (nx0 : Int × Int × Int × Bool × Bool × Unit → Hp → Prop) (K : Value → Hp → Prop) : Prop :=
  sx_4 Try.prog F 148 (cp [1, 1, 2, 2, 2, 1, 1, 1, 1] (bodyOf Try.f67)) (ap [1, 1, 2, 1, 1, 1, 1] slices_pdqsortCmpFunc_int_an) [(0, .slice data dataL dataC), (1, .int .i64 a), (2, .int .i64 b), (3, .int .i64 limit), (4, cmp), (10, .bool wasBalanced), (11, .bool wasPartitioned), (12, .int .i64 length)] h (slices_pdqsortCmpFunc_int_K3 nx0 K)
def slices_pdqsortCmpFunc_int_b3 (data : Option Addr) (dataL : Nat) (dataC : Nat) (a : Int) (b : Int) (limit : Int) (cmp : Value) (wasBalanced : Bool) (wasPartitioned : Bool) (length : Int) (pivot : Int) (hint : Int) (h : Hp) (nx0 : Int × Int × Int × Bool × Bool × Unit → Hp → Prop) (K : Value → Hp → Prop) : Prop :=
  sx_3 Try.prog F 148 (cp [1, 1, 2, 2, 2, 1, 1, 1, 1, 1, 1] (bodyOf Try.f67)) (ap [1, 1, 2, 1, 1, 1, 1, 1, 1] slices_pdqsortCmpFunc_int_an) [(0, .slice data dataL dataC), (1, .int .i64 a), (2, .int .i64 b), (3, .int .i64 limit), (4, cmp), (10, .bool wasBalanced), (11, .bool wasPartitioned), (12, .int .i64 length), (13, .int .i64 pivot), (14, .int .i64 hint)] h (slices_pdqsortCmpFunc_int_K3 nx0 K)
def slices_pdqsortCmpFunc_int_b4 (data : Option Addr) (dataL : Nat) (dataC : Nat) (a : Int) (b : Int) (limit : Int) (cmp : Value) (wasBalanced : Bool) (wasPartitioned : Bool) (length : Int) (pivot : Int) (h : Hp) (nx0 : Int × Int × Int × Bool × Bool × Unit → Hp → Prop) (K : Value → Hp → Prop) : Prop :=
  sx_2 Try.prog F 148 (cp [1, 1, 2, 2, 2, 1, 1, 1, 1, 1, 1, 1] (bodyOf Try.f67)) (ap [1, 1, 2, 1, 1, 1, 1, 1, 1, 1] slices_pdqsortCmpFunc_int_an) [(0, .slice data dataL dataC), (1, .int .i64 a), (2, .int .i64 b), (3, .int .i64 limit), (4, cmp), (10, .bool wasBalanced), (11, .bool wasPartitioned), (12, .int .i64 length), (13, .int .i64 pivot)] h (slices_pdqsortCmpFunc_int_K3 nx0 K)
def slices_pdqsortCmpFunc_int_b5 (data : Option Addr) (dataL : Nat) (dataC : Nat) (a : Int) (b : Int) (limit : Int) (cmp : Value) (length : Int) (pivot : Int) (h : Hp) (nx0 : Int × Int × Int × Bool × Bool × Unit → Hp → Prop) (K : Value → Hp → Prop) : Prop :=
  sx_1 Try.prog F 148 (cp [1, 1, 2, 2, 2, 1, 1, 1, 1, 1, 1, 1, 1] (bodyOf Try.f67)) (ap [1, 1, 2, 1, 1, 1, 1, 1, 1, 1, 1] slices_pdqsortCmpFunc_int_an) [(0, .slice data dataL dataC), (1, .int .i64 a), (2, .int .i64 b), (3, .int .i64 limit), (4, cmp), (12, .int .i64 length), (13, .int .i64 pivot)] h (slices_pdqsortCmpFunc_int_K3 nx0 K)
theorem slices_pdqsortCmpFunc_int_b0_eq (data : Option Addr) (dataL : Nat) (dataC : Nat) (a : Int) (b : Int) (limit : Int) (cmp : Value) (h : Hp)  (K : Value → Hp → Prop) : slices_pdqsortCmpFunc_int_b0 data dataL dataC a b limit cmp h  K = (
  LoopVC ((a, b, limit, true, true, ()) : Int × Int × Int × Bool × Bool × Unit) h (fun (nx0 : Int × Int × Int × Bool × Bool × Unit → Hp → Prop) (s1 : Int × Int × Int × Bool × Bool × Unit) h1 => slices_pdqsortCmpFunc_int_b1 s1.1 s1.2.1 s1.2.2.1 s1.2.2.2.1 s1.2.2.2.2.1 data dataL dataC cmp h1 nx0 K)) := by kernel_rfl
theorem slices_pdqsortCmpFunc_int_b1_eq (a : Int) (b : Int) (limit : Int) (wasBalanced : Bool) (wasPartitioned : Bool) (data : Option Addr) (dataL : Nat) (dataC : Nat) (cmp : Value) (h : Hp) (nx0 : Int × Int × Int × Bool × Bool × Unit → Hp → Prop) (K : Value → Hp → Prop) : slices_pdqsortCmpFunc_int_b1 a b limit wasBalanced wasPartitioned data dataL dataC cmp h nx0 K = (
  InR (b - a) ∧
  cond (decide ((b - a) ≤ 12))
  (HCalls Try.prog 77 #[.slice data dataL dataC, .int .i64 a, .int .i64 b, cmp] h fun v1 h2 => v1 = .tuple #[] ∧
  K (.tuple #[]) h2)
  (cond (decide (limit = 0))
  (HCalls Try.prog 78 #[.slice data dataL dataC, .int .i64 a, .int .i64 b, cmp] h fun v2 h3 => v2 = .tuple #[] ∧
  K (.tuple #[]) h3)
  (cond (!wasBalanced)
  (HCalls Try.prog 79 #[.slice data dataL dataC, .int .i64 a, .int .i64 b, cmp] h fun v3 h4 => v3 = .tuple #[] ∧
  InR (limit - 1) ∧
  slices_pdqsortCmpFunc_int_b2 data dataL dataC a b (limit - 1) cmp wasBalanced wasPartitioned (b - a) h4 nx0 K)
  (slices_pdqsortCmpFunc_int_b2 data dataL dataC a b limit cmp wasBalanced wasPartitioned (b - a) h nx0 K)))) := by kernel_rfl
theorem slices_pdqsortCmpFunc_int_b2_eq (data : Option Addr) (dataL : Nat) (dataC : Nat) (a : Int) (b : Int) (limit : Int) (cmp : Value) (wasBalanced : Bool) (wasPartitioned : Bool) (length : Int) (h : Hp) (nx0 : Int × Int × Int × Bool × Bool × Unit → Hp → Prop) (K : Value → Hp → Prop) : slices_pdqsortCmpFunc_int_b2 data dataL dataC a b limit cmp wasBalanced wasPartitioned length h nx0 K = (
  HCalls Try.prog 80 #[.slice data dataL dataC, .int .i64 a, .int .i64 b, cmp] h fun v4 h5 => ∃ r1 : Int, ∃ r2 : Int, v4 = .tuple #[.int .i64 r1, .int .i64 r2] ∧
  cond (decide (r2 = 2))
  (HCalls Try.prog 81 #[.slice data dataL dataC, .int .i64 a, .int .i64 b, cmp] h5 fun v5 h6 => v5 = .tuple #[] ∧
  InR (b - 1) ∧
  InR (r1 - a) ∧
  InR ((b - 1) - (r1 - a)) ∧
  slices_pdqsortCmpFunc_int_b3 data dataL dataC a b limit cmp wasBalanced wasPartitioned length ((b - 1) - (r1 - a)) 1 h6 nx0 K)
  (slices_pdqsortCmpFunc_int_b3 data dataL dataC a b limit cmp wasBalanced wasPartitioned length r1 r2 h5 nx0 K)) := by kernel_rfl
theorem slices_pdqsortCmpFunc_int_b3_eq (data : Option Addr) (dataL : Nat) (dataC : Nat) (a : Int) (b : Int) (limit : Int) (cmp : Value) (wasBalanced : Bool) (wasPartitioned : Bool) (length : Int) (pivot : Int) (hint : Int) (h : Hp) (nx0 : Int × Int × Int × Bool × Bool × Unit → Hp → Prop) (K : Value → Hp → Prop) : slices_pdqsortCmpFunc_int_b3 data dataL dataC a b limit cmp wasBalanced wasPartitioned length pivot hint h nx0 K = (
  cond wasBalanced
  (cond wasPartitioned
  (cond (decide (hint = 1))
  (HCalls Try.prog 82 #[.slice data dataL dataC, .int .i64 a, .int .i64 b, cmp] h fun v6 h7 => ∃ r3 : Bool, v6 = .bool r3 ∧
  cond r3
  (K (.tuple #[]) h7)
  (slices_pdqsortCmpFunc_int_b4 data dataL dataC a b limit cmp wasBalanced wasPartitioned length pivot h7 nx0 K))
  (slices_pdqsortCmpFunc_int_b4 data dataL dataC a b limit cmp wasBalanced wasPartitioned length pivot h nx0 K))
  (slices_pdqsortCmpFunc_int_b4 data dataL dataC a b limit cmp wasBalanced wasPartitioned length pivot h nx0 K))
  (slices_pdqsortCmpFunc_int_b4 data dataL dataC a b limit cmp wasBalanced wasPartitioned length pivot h nx0 K)) := by kernel_rfl
theorem slices_pdqsortCmpFunc_int_b4_eq (data : Option Addr) (dataL : Nat) (dataC : Nat) (a : Int) (b : Int) (limit : Int) (cmp : Value) (wasBalanced : Bool) (wasPartitioned : Bool) (length : Int) (pivot : Int) (h : Hp) (nx0 : Int × Int × Int × Bool × Bool × Unit → Hp → Prop) (K : Value → Hp → Prop) : slices_pdqsortCmpFunc_int_b4 data dataL dataC a b limit cmp wasBalanced wasPartitioned length pivot h nx0 K = (
  cond (decide ((0 : Int) < a))
  (InR (a - 1) ∧
  (0 ≤ a - 1 ∧ a - 1 < (dataL : Int)) ∧
  NN data fun a1 =>
  ∃ n1 : Int, cell h (a1.add (Int.toNat (a - 1) * 1)) = some (.int .i64 n1) ∧
  (0 ≤ pivot ∧ pivot < (dataL : Int)) ∧
  NN data fun a2 =>
  ∃ n2 : Int, cell h (a2.add (Int.toNat pivot * 1)) = some (.int .i64 n2) ∧
  funV cmp fun fg1 fa1 fc1 => callX Try.prog F fg1 (fa1 ++ (([.int .i64 n1, .int .i64 n2] : List Value) ++ fc1)).toArray h fun v7 h8 => ∃ r4 : Int, v7 = .int .i64 r4 ∧
  cond (!(decide (r4 < 0)))
  (HCalls Try.prog 83 #[.slice data dataL dataC, .int .i64 a, .int .i64 b, .int .i64 pivot, cmp] h8 fun v8 h9 => ∃ r5 : Int, v8 = .int .i64 r5 ∧
  nx0 (r5, b, limit, wasBalanced, wasPartitioned, ()) h9)
  (slices_pdqsortCmpFunc_int_b5 data dataL dataC a b limit cmp length pivot h8 nx0 K))
  (slices_pdqsortCmpFunc_int_b5 data dataL dataC a b limit cmp length pivot h nx0 K)) := by kernel_rfl
theorem slices_pdqsortCmpFunc_int_b5_eq (data : Option Addr) (dataL : Nat) (dataC : Nat) (a : Int) (b : Int) (limit : Int) (cmp : Value) (length : Int) (pivot : Int) (h : Hp) (nx0 : Int × Int × Int × Bool × Bool × Unit → Hp → Prop) (K : Value → Hp → Prop) : slices_pdqsortCmpFunc_int_b5 data dataL dataC a b limit cmp length pivot h nx0 K = (
  HCalls Try.prog 84 #[.slice data dataL dataC, .int .i64 a, .int .i64 b, .int .i64 pivot, cmp] h fun v9 h10 => ∃ r6 : Int, ∃ r7 : Bool, v9 = .tuple #[.int .i64 r6, .bool r7] ∧
  InR (r6 - a) ∧
  InR (b - r6) ∧
  ∃ q1 : Int, Sx.Quo .i64 length 8 q1 ∧
  cond (decide ((r6 - a) < (b - r6)))
  (HCalls Try.prog 67 #[.slice data dataL dataC, .int .i64 a, .int .i64 r6, .int .i64 limit, cmp] h10 fun v10 h11 => v10 = .tuple #[] ∧
  InR (r6 + 1) ∧
  nx0 (r6 + 1, b, limit, decide (q1 ≤ (r6 - a)), r7, ()) h11)
  (InR (r6 + 1) ∧
  HCalls Try.prog 67 #[.slice data dataL dataC, .int .i64 (r6 + 1), .int .i64 b, .int .i64 limit, cmp] h10 fun v11 h12 => v11 = .tuple #[] ∧
  nx0 (a, r6, limit, decide (q1 ≤ (b - r6)), r7, ()) h12)) := by kernel_rfl
theorem slices_pdqsortCmpFunc_int_call {data : Option Addr} {dataL : Nat} {dataC : Nat} {a : Int} {b : Int} {limit : Int} {cmp : Value} {h : Hp} {K : Value → Hp → Prop} (hk : slices_pdqsortCmpFunc_int_b0 data dataL dataC a b limit cmp h K) : HCalls Try.prog 67 #[.slice data dataL dataC, .int .i64 a, .int .i64 b, .int .i64 limit, cmp] h K :=
  calls_of_snd slices_pdqsortCmpFunc_int_an Try.func67 (c := bodyOf Try.f67) rfl Try.ntmps67 (Nat.le_of_ble_eq_true rfl) (snd_6 F_ok F_mixed) hk

/-! ### math_bits_Len -/
def math_bits_Len_an : Ann := .leaf
def math_bits_Len_K0  (K : Value → Hp → Prop) : Exit → Env → Hp → Prop := retK Try.prog Try.f68.results.toList K
def math_bits_Len_b0 (x : Int) (h : Hp)  (K : Value → Hp → Prop) : Prop :=
  sx_1 Try.prog F 8 (cp [] (bodyOf Try.f68)) (ap [] math_bits_Len_an) [(0, .int .u64 x)] h (math_bits_Len_K0  K)
theorem math_bits_Len_b0_eq (x : Int) (h : Hp)  (K : Value → Hp → Prop) : math_bits_Len_b0 x h  K = (
  HCalls Try.prog 86 #[.int .u64 x] h fun v1 h1 => ∃ r1 : Int, v1 = .int .i64 r1 ∧
  K (.int .i64 r1) h1) := by kernel_rfl
theorem math_bits_Len_call {x : Int} {h : Hp} {K : Value → Hp → Prop} (hk : math_bits_Len_b0 x h K) : HCalls Try.prog 68 #[.int .u64 x] h K :=
  calls_of_snd math_bits_Len_an Try.func68 (c := bodyOf Try.f68) rfl Try.ntmps68 (Nat.le_of_ble_eq_true rfl) (snd_1 F_ok F_mixed) hk

/-! ### cmp_isNaN_int -/
def cmp_isNaN_int_an : Ann := .leaf
def cmp_isNaN_int_K0  (K : Value → Hp → Prop) : Exit → Env → Hp → Prop := retK Try.prog Try.f69.results.toList K
def cmp_isNaN_int_b0 (x : Int) (h : Hp)  (K : Value → Hp → Prop) : Prop :=
  sx_1 Try.prog F 6 (cp [] (bodyOf Try.f69)) (ap [] cmp_isNaN_int_an) [(0, .int .i64 x)] h (cmp_isNaN_int_K0  K)
theorem cmp_isNaN_int_b0_eq (x : Int) (h : Hp)  (K : Value → Hp → Prop) : cmp_isNaN_int_b0 x h  K = (
  K (.bool (!decide (x = x))) h) := by kernel_rfl
theorem cmp_isNaN_int_call {x : Int} {h : Hp} {K : Value → Hp → Prop} (hk : cmp_isNaN_int_b0 x h K) : HCalls Try.prog 69 #[.int .i64 x] h K :=
  calls_of_snd cmp_isNaN_int_an Try.func69 (c := bodyOf Try.f69) rfl Try.ntmps69 (Nat.le_of_ble_eq_true rfl) (snd_1 F_ok F_mixed) hk

/-! ### slices_pdqsortOrdered_int -/
def slices_pdqsortOrdered_int_an : Ann := .node none (.leaf) (.node none (.leaf) (.loop [0] [(1, .int .i64), (2, .int .i64), (3, .int .i64), (8, .bool), (9, .bool)] (.node none (.leaf) (.node none (.leaf) (.node none (.leaf) (.node (some [0, 1, 2, 3, 8, 9, 10]) (.leaf) (.node none (.leaf) (.node (some [0, 1, 2, 3, 8, 9, 10, 11, 12]) (.leaf) (.node (some [0, 1, 2, 3, 8, 9, 10, 11]) (.leaf) (.node (some [0, 1, 2, 3, 10, 11]) (.leaf) (.leaf)))))))))))
def slices_pdqsortOrdered_int_K0  (K : Value → Hp → Prop) : Exit → Env → Hp → Prop := retK Try.prog Try.f70.results.toList K
def slices_pdqsortOrdered_int_K1  (K : Value → Hp → Prop) : Exit → Env → Hp → Prop := blockE 0 (slices_pdqsortOrdered_int_K0  K)
def slices_pdqsortOrdered_int_K2 (nx0 : Int × Int × Int × Bool × Bool × Unit → Hp → Prop) (K : Value → Hp → Prop) : Exit → Env → Hp → Prop := thenE (fun env h => getV [(1, .int .i64), (2, .int .i64), (3, .int .i64), (8, .bool), (9, .bool)] env fun s => nx0 s h) (slices_pdqsortOrdered_int_K1  K)
def slices_pdqsortOrdered_int_K3 (nx0 : Int × Int × Int × Bool × Bool × Unit → Hp → Prop) (K : Value → Hp → Prop) : Exit → Env → Hp → Prop := blockE 1 (slices_pdqsortOrdered_int_K2 nx0 K)
def slices_pdqsortOrdered_int_b0 (data : Option Addr) (dataL : Nat) (dataC : Nat) (a : Int) (b : Int) (limit : Int) (h : Hp)  (K : Value → Hp → Prop) : Prop :=
  sx_6 Try.prog F 134 (cp [] (bodyOf Try.f70)) (ap [] slices_pdqsortOrdered_int_an) [(0, .slice data dataL dataC), (1, .int .i64 a), (2, .int .i64 b), (3, .int .i64 limit)] h (slices_pdqsortOrdered_int_K0  K)
def slices_pdqsortOrdered_int_b1 (a : Int) (b : Int) (limit : Int) (wasBalanced : Bool) (wasPartitioned : Bool) (data : Option Addr) (dataL : Nat) (dataC : Nat) (h : Hp) (nx0 : Int × Int × Int × Bool × Bool × Unit → Hp → Prop) (K : Value → Hp → Prop) : Prop :=
  sx_5 Try.prog F 134 (cp [1, 1, 2, 2] (bodyOf Try.f70)) (ap [1, 1, 2] slices_pdqsortOrdered_int_an) [(1, .int .i64 a), (2, .int .i64 b), (3, .int .i64 limit), (8, .bool wasBalanced), (9, .bool wasPartitioned), (0, .slice data dataL dataC)] h (slices_pdqsortOrdered_int_K2 nx0 K)
def slices_pdqsortOrdered_int_b2 (data : Option Addr) (dataL : Nat) (dataC : Nat) (a : Int) (b : Int) (limit : Int) (wasBalanced : Bool) (wasPartitioned : Bool) (length : Int) (h : Hp) (nx0 : Int × Int × Int × Bool × Bool × Unit → Hp → Prop) (K : Value → Hp → Prop) : Prop :=
  sx_4 Try.prog F 134 (cp [1, 1, 2, 2, 2, 1, 1, 1, 1] (bodyOf Try.f70)) (ap [1, 1, 2, 1, 1, 1, 1] slices_pdqsortOrdered_int_an) [(0, .slice data dataL dataC), (1, .int .i64 a), (2, .int .i64 b), (3, .int .i64 limit), (8, .bool wasBalanced), (9, .bool wasPartitioned), (10, .int .i64 length)] h (slices_pdqsortOrdered_int_K3 nx0 K)
def slices_pdqsortOrdered_int_b3 (data : Option Addr) (dataL : Nat) (dataC : Nat) (a : Int) (b : Int) (limit : Int) (wasBalanced : Bool) (wasPartitioned : Bool) (length : Int) (pivot : Int) (hint : Int) (h : Hp) (nx0 : Int × Int × Int × Bool × Bool × Unit → Hp → Prop) (K : Value → Hp → Prop) : Prop :=
  sx_3 Try.prog F 134 (cp [1, 1, 2, 2, 2, 1, 1, 1, 1, 1, 1] (bodyOf Try.f70)) (ap [1, 1, 2, 1, 1, 1, 1, 1, 1] slices_pdqsortOrdered_int_an) [(0, .slice data dataL dataC), (1, .int .i64 a), (2, .int .i64 b), (3, .int .i64 limit), (8, .bool wasBalanced), (9, .bool wasPartitioned), (10, .int .i64 length), (11, .int .i64 pivot), (12, .int .i64 hint)] h (slices_pdqsortOrdered_int_K3 nx0 K)
def slices_pdqsortOrdered_int_b4 (data : Option Addr) (dataL : Nat) (dataC : Nat) (a : Int) (b : Int) (limit : Int) (wasBalanced : Bool) (wasPartitioned : Bool) (length : Int) (pivot : Int) (h : Hp) (nx0 : Int × Int × Int × Bool × Bool × Unit → Hp → Prop) (K : Value → Hp → Prop) : Prop :=
  sx_2 Try.prog F 134 (cp [1, 1, 2, 2, 2, 1, 1, 1, 1, 1, 1, 1] (bodyOf Try.f70)) (ap [1, 1, 2, 1, 1, 1, 1, 1, 1, 1] slices_pdqsortOrdered_int_an) [(0, .slice data dataL dataC), (1, .int .i64 a), (2, .int .i64 b), (3, .int .i64 limit), (8, .bool wasBalanced), (9, .bool wasPartitioned), (10, .int .i64 length), (11, .int .i64 pivot)] h (slices_pdqsortOrdered_int_K3 nx0 K)
def slices_pdqsortOrdered_int_b5 (data : Option Addr) (dataL : Nat) (dataC : Nat) (a : Int) (b : Int) (limit : Int) (length : Int) (pivot : Int) (h : Hp) (nx0 : Int × Int × Int × Bool × Bool × Unit → Hp → Prop) (K : Value → Hp → Prop) : Prop :=
  sx_1 Try.prog F 134 (cp [1, 1, 2, 2, 2, 1, 1, 1, 1, 1, 1, 1, 1] (bodyOf Try.f70)) (ap [1, 1, 2, 1, 1, 1, 1, 1, 1, 1, 1] slices_pdqsortOrdered_int_an) [(0, .slice data dataL dataC), (1, .int .i64 a), (2, .int .i64 b), (3, .int .i64 limit), (10, .int .i64 length), (11, .int .i64 pivot)] h (slices_pdqsortOrdered_int_K3 nx0 K)
theorem slices_pdqsortOrdered_int_b0_eq (data : Option Addr) (dataL : Nat) (dataC : Nat) (a : Int) (b : Int) (limit : Int) (h : Hp)  (K : Value → Hp → Prop) : slices_pdqsortOrdered_int_b0 data dataL dataC a b limit h  K = (
  LoopVC ((a, b, limit, true, true, ()) : Int × Int × Int × Bool × Bool × Unit) h (fun (nx0 : Int × Int × Int × Bool × Bool × Unit → Hp → Prop) (s1 : Int × Int × Int × Bool × Bool × Unit) h1 => slices_pdqsortOrdered_int_b1 s1.1 s1.2.1 s1.2.2.1 s1.2.2.2.1 s1.2.2.2.2.1 data dataL dataC h1 nx0 K)) := by kernel_rfl
theorem slices_pdqsortOrdered_int_b1_eq (a : Int) (b : Int) (limit : Int) (wasBalanced : Bool) (wasPartitioned : Bool) (data : Option Addr) (dataL : Nat) (dataC : Nat) (h : Hp) (nx0 : Int × Int × Int × Bool × Bool × Unit → Hp → Prop) (K : Value → Hp → Prop) : slices_pdqsortOrdered_int_b1 a b limit wasBalanced wasPartitioned data dataL dataC h nx0 K = (
  InR (b - a) ∧
  cond (decide ((b - a) ≤ 12))
  (HCalls Try.prog 87 #[.slice data dataL dataC, .int .i64 a, .int .i64 b] h fun v1 h2 => v1 = .tuple #[] ∧
  K (.tuple #[]) h2)
  (cond (decide (limit = 0))
  (HCalls Try.prog 88 #[.slice data dataL dataC, .int .i64 a, .int .i64 b] h fun v2 h3 => v2 = .tuple #[] ∧
  K (.tuple #[]) h3)
  (cond (!wasBalanced)
  (HCalls Try.prog 89 #[.slice data dataL dataC, .int .i64 a, .int .i64 b] h fun v3 h4 => v3 = .tuple #[] ∧
  InR (limit - 1) ∧
  slices_pdqsortOrdered_int_b2 data dataL dataC a b (limit - 1) wasBalanced wasPartitioned (b - a) h4 nx0 K)
  (slices_pdqsortOrdered_int_b2 data dataL dataC a b limit wasBalanced wasPartitioned (b - a) h nx0 K)))) := by kernel_rfl
theorem slices_pdqsortOrdered_int_b2_eq (data : Option Addr) (dataL : Nat) (dataC : Nat) (a : Int) (b : Int) (limit : Int) (wasBalanced : Bool) (wasPartitioned : Bool) (length : Int) (h : Hp) (nx0 : Int × Int × Int × Bool × Bool × Unit → Hp → Prop) (K : Value → Hp → Prop) : slices_pdqsortOrdered_int_b2 data dataL dataC a b limit wasBalanced wasPartitioned length h nx0 K = (
  HCalls Try.prog 90 #[.slice data dataL dataC, .int .i64 a, .int .i64 b] h fun v4 h5 => ∃ r1 : Int, ∃ r2 : Int, v4 = .tuple #[.int .i64 r1, .int .i64 r2] ∧
  cond (decide (r2 = 2))
  (HCalls Try.prog 91 #[.slice data dataL dataC, .int .i64 a, .int .i64 b] h5 fun v5 h6 => v5 = .tuple #[] ∧
  InR (b - 1) ∧
  InR (r1 - a) ∧
  InR ((b - 1) - (r1 - a)) ∧
  slices_pdqsortOrdered_int_b3 data dataL dataC a b limit wasBalanced wasPartitioned length ((b - 1) - (r1 - a)) 1 h6 nx0 K)
  (slices_pdqsortOrdered_int_b3 data dataL dataC a b limit wasBalanced wasPartitioned length r1 r2 h5 nx0 K)) := by kernel_rfl
theorem slices_pdqsortOrdered_int_b3_eq (data : Option Addr) (dataL : Nat) (dataC : Nat) (a : Int) (b : Int) (limit : Int) (wasBalanced : Bool) (wasPartitioned : Bool) (length : Int) (pivot : Int) (hint : Int) (h : Hp) (nx0 : Int × Int × Int × Bool × Bool × Unit → Hp → Prop) (K : Value → Hp → Prop) : slices_pdqsortOrdered_int_b3 data dataL dataC a b limit wasBalanced wasPartitioned length pivot hint h nx0 K = (
  cond wasBalanced
  (cond wasPartitioned
  (cond (decide (hint = 1))
  (HCalls Try.prog 92 #[.slice data dataL dataC, .int .i64 a, .int .i64 b] h fun v6 h7 => ∃ r3 : Bool, v6 = .bool r3 ∧
  cond r3
  (K (.tuple #[]) h7)
  (slices_pdqsortOrdered_int_b4 data dataL dataC a b limit wasBalanced wasPartitioned length pivot h7 nx0 K))
  (slices_pdqsortOrdered_int_b4 data dataL dataC a b limit wasBalanced wasPartitioned length pivot h nx0 K))
  (slices_pdqsortOrdered_int_b4 data dataL dataC a b limit wasBalanced wasPartitioned length pivot h nx0 K))
  (slices_pdqsortOrdered_int_b4 data dataL dataC a b limit wasBalanced wasPartitioned length pivot h nx0 K)) := by kernel_rfl
theorem slices_pdqsortOrdered_int_b4_eq (data : Option Addr) (dataL : Nat) (dataC : Nat) (a : Int) (b : Int) (limit : Int) (wasBalanced : Bool) (wasPartitioned : Bool) (length : Int) (pivot : Int) (h : Hp) (nx0 : Int × Int × Int × Bool × Bool × Unit → Hp → Prop) (K : Value → Hp → Prop) : slices_pdqsortOrdered_int_b4 data dataL dataC a b limit wasBalanced wasPartitioned length pivot h nx0 K = (
  cond (decide ((0 : Int) < a))
  (InR (a - 1) ∧
  (0 ≤ a - 1 ∧ a - 1 < (dataL : Int)) ∧
  NN data fun a1 =>
  ∃ n1 : Int, cell h (a1.add (Int.toNat (a - 1) * 1)) = some (.int .i64 n1) ∧
  (0 ≤ pivot ∧ pivot < (dataL : Int)) ∧
  NN data fun a2 =>
  ∃ n2 : Int, cell h (a2.add (Int.toNat pivot * 1)) = some (.int .i64 n2) ∧
  ∃ r4 : Bool, HCalls Try.prog 93 #[.int .i64 n1, .int .i64 n2] h (fun v7 h8 => v7 = .bool r4 ∧ h8 = h) ∧
  cond (!r4)
  (HCalls Try.prog 94 #[.slice data dataL dataC, .int .i64 a, .int .i64 b, .int .i64 pivot] h fun v8 h9 => ∃ r5 : Int, v8 = .int .i64 r5 ∧
  nx0 (r5, b, limit, wasBalanced, wasPartitioned, ()) h9)
  (slices_pdqsortOrdered_int_b5 data dataL dataC a b limit length pivot h nx0 K))
  (slices_pdqsortOrdered_int_b5 data dataL dataC a b limit length pivot h nx0 K)) := by kernel_rfl
theorem slices_pdqsortOrdered_int_b5_eq (data : Option Addr) (dataL : Nat) (dataC : Nat) (a : Int) (b : Int) (limit : Int) (length : Int) (pivot : Int) (h : Hp) (nx0 : Int × Int × Int × Bool × Bool × Unit → Hp → Prop) (K : Value → Hp → Prop) : slices_pdqsortOrdered_int_b5 data dataL dataC a b limit length pivot h nx0 K = (
  HCalls Try.prog 95 #[.slice data dataL dataC, .int .i64 a, .int .i64 b, .int .i64 pivot] h fun v9 h10 => ∃ r6 : Int, ∃ r7 : Bool, v9 = .tuple #[.int .i64 r6, .bool r7] ∧
  InR (r6 - a) ∧
  InR (b - r6) ∧
  ∃ q1 : Int, Sx.Quo .i64 length 8 q1 ∧
  cond (decide ((r6 - a) < (b - r6)))
  (HCalls Try.prog 70 #[.slice data dataL dataC, .int .i64 a, .int .i64 r6, .int .i64 limit] h10 fun v10 h11 => v10 = .tuple #[] ∧
  InR (r6 + 1) ∧
  nx0 (r6 + 1, b, limit, decide (q1 ≤ (r6 - a)), r7, ()) h11)
  (InR (r6 + 1) ∧
  HCalls Try.prog 70 #[.slice data dataL dataC, .int .i64 (r6 + 1), .int .i64 b, .int .i64 limit] h10 fun v11 h12 => v11 = .tuple #[] ∧
  nx0 (a, r6, limit, decide (q1 ≤ (b - r6)), r7, ()) h12)) := by kernel_rfl
theorem slices_pdqsortOrdered_int_call {data : Option Addr} {dataL : Nat} {dataC : Nat} {a : Int} {b : Int} {limit : Int} {h : Hp} {K : Value → Hp → Prop} (hk : slices_pdqsortOrdered_int_b0 data dataL dataC a b limit h K) : HCalls Try.prog 70 #[.slice data dataL dataC, .int .i64 a, .int .i64 b, .int .i64 limit] h K :=
  calls_of_snd slices_pdqsortOrdered_int_an Try.func70 (c := bodyOf Try.f70) rfl Try.ntmps70 (Nat.le_of_ble_eq_true rfl) (snd_6 F_ok F_mixed) hk

/-! ### slices_Index_Sint_int -/
def slices_Index_Sint_int_an : Ann := .node none (.leaf) (.node (some []) (.node none (.leaf) (.loop [0, 1, 7] [(8, .int .i64)] (.node none (.leaf) (.node none (.leaf) (.node (some [0, 1, 7, 8]) (.leaf) (.leaf)))))) (.leaf))
def slices_Index_Sint_int_K0  (K : Value → Hp → Prop) : Exit → Env → Hp → Prop := retK Try.prog Try.f72.results.toList K
def slices_Index_Sint_int_K1  (K : Value → Hp → Prop) : Exit → Env → Hp → Prop := thenE (fun env h => sx_2 Try.prog F 19 (cp [1, 1] (bodyOf Try.f72)) (ap [1, 1] slices_Index_Sint_int_an) (rs [] env) h (slices_Index_Sint_int_K0  K)) (slices_Index_Sint_int_K0  K)
def slices_Index_Sint_int_K2  (K : Value → Hp → Prop) : Exit → Env → Hp → Prop := blockE 0 (slices_Index_Sint_int_K1  K)
def slices_Index_Sint_int_K3 (nx0 : Int × Unit → Hp → Prop) (K : Value → Hp → Prop) : Exit → Env → Hp → Prop := thenE (fun env h => getV [(8, .int .i64)] env fun s => nx0 s h) (slices_Index_Sint_int_K2  K)
def slices_Index_Sint_int_b0 (s : Option Addr) (sL : Nat) (sC : Nat) (v : Int) (h : Hp)  (K : Value → Hp → Prop) : Prop :=
  sx_3 Try.prog F 19 (cp [] (bodyOf Try.f72)) (ap [] slices_Index_Sint_int_an) [(0, .slice s sL sC), (1, .int .i64 v)] h (slices_Index_Sint_int_K0  K)
def slices_Index_Sint_int_b1 (t8 : Int) (s : Option Addr) (sL : Nat) (sC : Nat) (v : Int) (t7 : Int) (h : Hp) (nx0 : Int × Unit → Hp → Prop) (K : Value → Hp → Prop) : Prop :=
  sx_2 Try.prog F 19 (cp [1, 0, 1, 2, 2] (bodyOf Try.f72)) (ap [1, 0, 1, 2] slices_Index_Sint_int_an) [(8, .int .i64 t8), (0, .slice s sL sC), (1, .int .i64 v), (7, .int .i64 t7)] h (slices_Index_Sint_int_K3 nx0 K)
def slices_Index_Sint_int_b2 (s : Option Addr) (sL : Nat) (sC : Nat) (v : Int) (t7 : Int) (t8 : Int) (h : Hp) (nx0 : Int × Unit → Hp → Prop) (K : Value → Hp → Prop) : Prop :=
  sx_1 Try.prog F 19 (cp [1, 0, 1, 2, 2, 1, 1, 1] (bodyOf Try.f72)) (ap [1, 0, 1, 2, 1, 1, 1] slices_Index_Sint_int_an) [(0, .slice s sL sC), (1, .int .i64 v), (7, .int .i64 t7), (8, .int .i64 t8)] h (slices_Index_Sint_int_K3 nx0 K)
def slices_Index_Sint_int_b3  (h : Hp)  (K : Value → Hp → Prop) : Prop :=
  sx_2 Try.prog F 19 (cp [1, 1] (bodyOf Try.f72)) (ap [1, 1] slices_Index_Sint_int_an) [] h (slices_Index_Sint_int_K0  K)
theorem slices_Index_Sint_int_b0_eq (s : Option Addr) (sL : Nat) (sC : Nat) (v : Int) (h : Hp)  (K : Value → Hp → Prop) : slices_Index_Sint_int_b0 s sL sC v h  K = (
  LoopVC ((0, ()) : Int × Unit) h (fun (nx0 : Int × Unit → Hp → Prop) (s1 : Int × Unit) h1 => slices_Index_Sint_int_b1 s1.1 s sL sC v (sL : Int) h1 nx0 K)) := by kernel_rfl
theorem slices_Index_Sint_int_b1_eq (t8 : Int) (s : Option Addr) (sL : Nat) (sC : Nat) (v : Int) (t7 : Int) (h : Hp) (nx0 : Int × Unit → Hp → Prop) (K : Value → Hp → Prop) : slices_Index_Sint_int_b1 t8 s sL sC v t7 h nx0 K = (
  cond (decide (t8 < t7))
  ((0 ≤ t8 ∧ t8 < (sL : Int)) ∧
  NN s fun a1 =>
  ∃ n1 : Int, cell h (a1.add (Int.toNat t8 * 1)) = some (.int .i64 n1) ∧
  cond (decide (v = n1))
  (K (.int .i64 t8) h)
  (slices_Index_Sint_int_b2 s sL sC v t7 t8 h nx0 K))
  (slices_Index_Sint_int_b3  h  K)) := by kernel_rfl
theorem slices_Index_Sint_int_b2_eq (s : Option Addr) (sL : Nat) (sC : Nat) (v : Int) (t7 : Int) (t8 : Int) (h : Hp) (nx0 : Int × Unit → Hp → Prop) (K : Value → Hp → Prop) : slices_Index_Sint_int_b2 s sL sC v t7 t8 h nx0 K = (
  InR (t8 + 1) ∧
  nx0 (t8 + 1, ()) h) := by kernel_rfl
theorem slices_Index_Sint_int_b3_eq  (h : Hp)  (K : Value → Hp → Prop) : slices_Index_Sint_int_b3  h  K = (
  K (.int .i64 (-1)) h) := by kernel_rfl
theorem slices_Index_Sint_int_call {s : Option Addr} {sL : Nat} {sC : Nat} {v : Int} {h : Hp} {K : Value → Hp → Prop} (hk : slices_Index_Sint_int_b0 s sL sC v h K) : HCalls Try.prog 72 #[.slice s sL sC, .int .i64 v] h K :=
  calls_of_snd slices_Index_Sint_int_an Try.func72 (c := bodyOf Try.f72) rfl Try.ntmps72 (Nat.le_of_ble_eq_true rfl) (snd_3 F_ok F_mixed) hk

/-! ### slices_Delete_Sint_int -/
def slices_Delete_Sint_int_an : Ann := .node none (.leaf) (.node none (.leaf) (.node none (.leaf) (.node none (.leaf) (.node none (.tail 6) (.leaf)))))
def slices_Delete_Sint_int_K0  (K : Value → Hp → Prop) : Exit → Env → Hp → Prop := retK Try.prog Try.f73.results.toList K
def slices_Delete_Sint_int_b0 (s : Option Addr) (sL : Nat) (sC : Nat) (i : Int) (j : Int) (h : Hp)  (K : Value → Hp → Prop) : Prop :=
  sx_1 Try.prog F 33 (cp [] (bodyOf Try.f73)) (ap [] slices_Delete_Sint_int_an) [(0, .slice s sL sC), (1, .int .i64 i), (2, .int .i64 j)] h (slices_Delete_Sint_int_K0  K)
theorem slices_Delete_Sint_int_b0_eq (s : Option Addr) (sL : Nat) (sC : Nat) (i : Int) (j : Int) (h : Hp)  (K : Value → Hp → Prop) : slices_Delete_Sint_int_b0 s sL sC i j h  K = (
  ∃ (a1 : Option Addr) (l1 c1 : Nat), slC Try.prog 26 (.slice s sL sC) (some (.int .i64 i)) (some (.int .i64 j)) (.int .i64 (sL : Int)) h a1 l1 c1 ∧
  cond (decide (i = j))
  (K (.slice s sL sC) h)
  ((0 ≤ (0 : Int) ∧ (0 : Int) ≤ i ∧ i ≤ (sC : Int)) ∧
  (0 ≤ j ∧ j ≤ (sL : Int) ∧ (sL : Int) ≤ (sC : Int)) ∧
  appendV Try.prog 26 26 (.slice (subAddr s sC (Int.toNat (0 : Int)) 1) (Int.toNat i - Int.toNat (0 : Int)) (sC - Int.toNat (0 : Int))) (.slice (subAddr s sC (Int.toNat j) 1) (Int.toNat (sL : Int) - Int.toNat j) (sC - Int.toNat j)) h (slK fun a2 l2 c2 h1 =>
  (0 ≤ (l2 : Int) ∧ (l2 : Int) ≤ (sL : Int) ∧ (sL : Int) ≤ (c2 : Int)) ∧
  clearV Try.prog 26 (.slice (subAddr a2 c2 (Int.toNat (l2 : Int)) 1) (Int.toNat (sL : Int) - Int.toNat (l2 : Int)) (c2 - Int.toNat (l2 : Int))) h1 fun h2 =>
  K (.slice a2 l2 c2) h2))) := by kernel_rfl
theorem slices_Delete_Sint_int_call {s : Option Addr} {sL : Nat} {sC : Nat} {i : Int} {j : Int} {h : Hp} {K : Value → Hp → Prop} (hk : slices_Delete_Sint_int_b0 s sL sC i j h K) : HCalls Try.prog 73 #[.slice s sL sC, .int .i64 i, .int .i64 j] h K :=
  calls_of_snd slices_Delete_Sint_int_an Try.func73 (c := bodyOf Try.f73) rfl Try.ntmps73 (Nat.le_of_ble_eq_true rfl) (snd_1 F_ok F_mixed) hk

/-! ### table_Table_build_c1 -/
def table_Table_build_c1_an : Ann := .node none (.leaf) (.node none (.plan (.qu 0 (.qu 1 (.qu 2 (.qu 3 (.qu 4 (.qu 9 (.qu 10 (.qu 11 (.qu 12 (.qu 13 (.wo 5 (.qu 6 (.qu 7 (.qu 8 (.wo 14 (.qu 15 (.qu 16 (.qu 17 (.wo 18 (.wo 19 .fin .no) .no)))) .no)))) (.wo 14 (.qu 15 (.qu 16 (.qu 17 (.wo 5 (.qu 6 (.qu 7 (.qu 8 (.wo 18 (.wo 19 .fin .no) .no)))) .no)))) .no))))))))))))) (.leaf))
def table_Table_build_c1_K0  (K : Value → Hp → Prop) : Exit → Env → Hp → Prop := retK Try.prog Try.f74.results.toList K
def table_Table_build_c1_b0 (a : Int) (b : Int) (t2 : Option Addr) (h : Hp)  (K : Value → Hp → Prop) : Prop :=
  sx_1 Try.prog F 25 (cp [] (bodyOf Try.f74)) (ap [] table_Table_build_c1_an) [(0, .int .i64 a), (1, .int .i64 b), (2, .pointer t2)] h (table_Table_build_c1_K0  K)
theorem table_Table_build_c1_b0_eq (a : Int) (b : Int) (t2 : Option Addr) (h : Hp)  (K : Value → Hp → Prop) : table_Table_build_c1_b0 a b t2 h  K = (
  NN t2 fun a1 =>
  ∃ p1 : Option Addr, cell h a1 = some (.pointer p1) ∧
  NN p1 fun a2 =>
  ∃ v1 : Value, cell h a2 = some (v1) ∧
  NN t2 fun a3 =>
  ∃ p2 : Option Addr, cell h a3 = some (.pointer p2) ∧
  NN p2 fun a4 =>
  ∃ v2 : Value, cell h a4 = some (v2) ∧
  (lookV Try.prog 75 v1 (.int .i64 a) false h fun v3 => ∃ r1 : Option Addr, v3 = .pointer r1 ∧
  (∃ v4 : Value, cell h a4 = some (v4) ∧
  (v4 : Value) = v2) ∧
  (NN t2 fun a5 =>
  ∃ p3 : Option Addr, cell h a5 = some (.pointer p3) ∧
  (.pointer p3 : Value) = .pointer p2) ∧
  NN r1 fun a6 =>
  ∃ n1 : Int, cell h a6 = some (.int .i64 n1) ∧
  lookV Try.prog 75 v2 (.int .i64 b) false h fun v5 => ∃ r2 : Option Addr, v5 = .pointer r2 ∧
  (∃ n2 : Int, cell h a6 = some (.int .i64 n2) ∧
  (.int .i64 n2 : Value) = .int .i64 n1) ∧
  NN r2 fun a7 =>
  ∃ n3 : Int, cell h a7 = some (.int .i64 n3) ∧
  HCalls Try.prog 44 #[.int .i64 n1, .int .i64 n3] h fun v6 h1 => ∃ r3 : Int, v6 = .int .i64 r3 ∧
  K (.int .i64 r3) h1) ∧
  (lookV Try.prog 75 v2 (.int .i64 b) false h fun v7 => ∃ r4 : Option Addr, v7 = .pointer r4 ∧
  (∃ v8 : Value, cell h a2 = some (v8) ∧
  (v8 : Value) = v1) ∧
  (NN t2 fun a8 =>
  ∃ p4 : Option Addr, cell h a8 = some (.pointer p4) ∧
  (.pointer p4 : Value) = .pointer p1) ∧
  NN r4 fun a9 =>
  ∃ n4 : Int, cell h a9 = some (.int .i64 n4) ∧
  lookV Try.prog 75 v1 (.int .i64 a) false h fun v9 => ∃ r5 : Option Addr, v9 = .pointer r5 ∧
  (∃ n5 : Int, cell h a9 = some (.int .i64 n5) ∧
  (.int .i64 n5 : Value) = .int .i64 n4) ∧
  NN r5 fun a10 =>
  ∃ n6 : Int, cell h a10 = some (.int .i64 n6) ∧
  HCalls Try.prog 44 #[.int .i64 n6, .int .i64 n4] h fun v10 h2 => ∃ r6 : Int, v10 = .int .i64 r6 ∧
  K (.int .i64 r6) h2)) := by kernel_rfl
theorem table_Table_build_c1_call {a : Int} {b : Int} {t2 : Option Addr} {h : Hp} {K : Value → Hp → Prop} (hk : table_Table_build_c1_b0 a b t2 h K) : HCalls Try.prog 74 #[.int .i64 a, .int .i64 b, .pointer t2] h K :=
  calls_of_snd table_Table_build_c1_an Try.func74 (c := bodyOf Try.f74) rfl Try.ntmps74 (Nat.le_of_ble_eq_true rfl) (snd_1 F_ok F_mixed) hk

/-! ### table_Table_build_c2 -/
def table_Table_build_c2_an : Ann := .node none (.leaf) (.node none (.plan (.qu 0 (.qu 1 (.qu 2 (.qu 3 (.qu 4 (.qu 9 (.qu 10 (.qu 11 (.qu 12 (.qu 13 (.wo 5 (.qu 6 (.qu 7 (.qu 8 (.wo 14 (.qu 15 (.qu 16 (.qu 17 (.wo 18 (.wo 19 .fin .no) .no)))) .no)))) (.wo 14 (.qu 15 (.qu 16 (.qu 17 (.wo 5 (.qu 6 (.qu 7 (.qu 8 (.wo 18 (.wo 19 .fin .no) .no)))) .no)))) .no))))))))))))) (.leaf))
def table_Table_build_c2_K0  (K : Value → Hp → Prop) : Exit → Env → Hp → Prop := retK Try.prog Try.f75.results.toList K
def table_Table_build_c2_b0 (a : Int) (b : Int) (t2 : Option Addr) (h : Hp)  (K : Value → Hp → Prop) : Prop :=
  sx_1 Try.prog F 25 (cp [] (bodyOf Try.f75)) (ap [] table_Table_build_c2_an) [(0, .int .i64 a), (1, .int .i64 b), (2, .pointer t2)] h (table_Table_build_c2_K0  K)
theorem table_Table_build_c2_b0_eq (a : Int) (b : Int) (t2 : Option Addr) (h : Hp)  (K : Value → Hp → Prop) : table_Table_build_c2_b0 a b t2 h  K = (
  NN t2 fun a1 =>
  ∃ p1 : Option Addr, cell h a1 = some (.pointer p1) ∧
  NN p1 fun a2 =>
  ∃ v1 : Value, cell h a2 = some (v1) ∧
  NN t2 fun a3 =>
  ∃ p2 : Option Addr, cell h a3 = some (.pointer p2) ∧
  NN p2 fun a4 =>
  ∃ v2 : Value, cell h a4 = some (v2) ∧
  (lookV Try.prog 75 v1 (.int .i64 a) false h fun v3 => ∃ r1 : Option Addr, v3 = .pointer r1 ∧
  (∃ v4 : Value, cell h a4 = some (v4) ∧
  (v4 : Value) = v2) ∧
  (NN t2 fun a5 =>
  ∃ p3 : Option Addr, cell h a5 = some (.pointer p3) ∧
  (.pointer p3 : Value) = .pointer p2) ∧
  NN r1 fun a6 =>
  ∃ n1 : Int, cell h (a6.add 1) = some (.int .i64 n1) ∧
  lookV Try.prog 75 v2 (.int .i64 b) false h fun v5 => ∃ r2 : Option Addr, v5 = .pointer r2 ∧
  (∃ n2 : Int, cell h (a6.add 1) = some (.int .i64 n2) ∧
  (.int .i64 n2 : Value) = .int .i64 n1) ∧
  NN r2 fun a7 =>
  ∃ n3 : Int, cell h (a7.add 1) = some (.int .i64 n3) ∧
  HCalls Try.prog 44 #[.int .i64 n1, .int .i64 n3] h fun v6 h1 => ∃ r3 : Int, v6 = .int .i64 r3 ∧
  K (.int .i64 r3) h1) ∧
  (lookV Try.prog 75 v2 (.int .i64 b) false h fun v7 => ∃ r4 : Option Addr, v7 = .pointer r4 ∧
  (∃ v8 : Value, cell h a2 = some (v8) ∧
  (v8 : Value) = v1) ∧
  (NN t2 fun a8 =>
  ∃ p4 : Option Addr, cell h a8 = some (.pointer p4) ∧
  (.pointer p4 : Value) = .pointer p1) ∧
  NN r4 fun a9 =>
  ∃ n4 : Int, cell h (a9.add 1) = some (.int .i64 n4) ∧
  lookV Try.prog 75 v1 (.int .i64 a) false h fun v9 => ∃ r5 : Option Addr, v9 = .pointer r5 ∧
  (∃ n5 : Int, cell h (a9.add 1) = some (.int .i64 n5) ∧
  (.int .i64 n5 : Value) = .int .i64 n4) ∧
  NN r5 fun a10 =>
  ∃ n6 : Int, cell h (a10.add 1) = some (.int .i64 n6) ∧
  HCalls Try.prog 44 #[.int .i64 n6, .int .i64 n4] h fun v10 h2 => ∃ r6 : Int, v10 = .int .i64 r6 ∧
  K (.int .i64 r6) h2)) := by kernel_rfl
theorem table_Table_build_c2_call {a : Int} {b : Int} {t2 : Option Addr} {h : Hp} {K : Value → Hp → Prop} (hk : table_Table_build_c2_b0 a b t2 h K) : HCalls Try.prog 75 #[.int .i64 a, .int .i64 b, .pointer t2] h K :=
  calls_of_snd table_Table_build_c2_an Try.func75 (c := bodyOf Try.f75) rfl Try.ntmps75 (Nat.le_of_ble_eq_true rfl) (snd_1 F_ok F_mixed) hk

/-! ### r50_Has -/
def r50_Has_an : Ann := .node none (.leaf) (.node (some []) (.node none (.leaf) (.loop [1, 2, 3] [(7, .int .i64)] (.node none (.leaf) (.node (some [1, 2, 3, 7]) (.leaf) (.leaf))))) (.leaf))
def r50_Has_K0  (K : Value → Hp → Prop) : Exit → Env → Hp → Prop := retK Try.prog Try.f76.results.toList K
def r50_Has_K1  (K : Value → Hp → Prop) : Exit → Env → Hp → Prop := thenE (fun env h => sx_2 Try.prog F 32 (cp [1, 1] (bodyOf Try.f76)) (ap [1, 1] r50_Has_an) (rs [] env) h (r50_Has_K0  K)) (r50_Has_K0  K)
def r50_Has_K2  (K : Value → Hp → Prop) : Exit → Env → Hp → Prop := blockE 0 (r50_Has_K1  K)
def r50_Has_K3 (nx0 : Int × Unit → Hp → Prop) (K : Value → Hp → Prop) : Exit → Env → Hp → Prop := thenE (fun env h => getV [(7, .int .i64)] env fun s => nx0 s h) (r50_Has_K2  K)
def r50_Has_b0 (t_0 : Option Addr) (t_0L : Nat) (t_0C : Nat) (t_1 : Option Addr) (t_1L : Nat) (t_1C : Nat) (t_2 : Int) (key : Int) (but : Int) (h : Hp)  (K : Value → Hp → Prop) : Prop :=
  sx_3 Try.prog F 32 (cp [] (bodyOf Try.f76)) (ap [] r50_Has_an) [(0, .agg #[.slice t_0 t_0L t_0C, .slice t_1 t_1L t_1C, .int .i64 t_2]), (1, .int .i64 key), (2, .int .i64 but)] h (r50_Has_K0  K)
def r50_Has_b1 (i : Int) (key : Int) (but : Int) (t : Option Addr) (h : Hp) (nx0 : Int × Unit → Hp → Prop) (K : Value → Hp → Prop) : Prop :=
  sx_2 Try.prog F 32 (cp [1, 0, 1, 2, 2] (bodyOf Try.f76)) (ap [1, 0, 1, 2] r50_Has_an) [(7, .int .i64 i), (1, .int .i64 key), (2, .int .i64 but), (3, .pointer t)] h (r50_Has_K3 nx0 K)
def r50_Has_b2 (key : Int) (but : Int) (t : Option Addr) (i : Int) (h : Hp) (nx0 : Int × Unit → Hp → Prop) (K : Value → Hp → Prop) : Prop :=
  sx_1 Try.prog F 32 (cp [1, 0, 1, 2, 2, 1, 1] (bodyOf Try.f76)) (ap [1, 0, 1, 2, 1, 1] r50_Has_an) [(1, .int .i64 key), (2, .int .i64 but), (3, .pointer t), (7, .int .i64 i)] h (r50_Has_K3 nx0 K)
def r50_Has_b3  (h : Hp)  (K : Value → Hp → Prop) : Prop :=
  sx_2 Try.prog F 32 (cp [1, 1] (bodyOf Try.f76)) (ap [1, 1] r50_Has_an) [] h (r50_Has_K0  K)
theorem r50_Has_b0_eq (t_0 : Option Addr) (t_0L : Nat) (t_0C : Nat) (t_1 : Option Addr) (t_1L : Nat) (t_1C : Nat) (t_2 : Int) (key : Int) (but : Int) (h : Hp)  (K : Value → Hp → Prop) : r50_Has_b0 t_0 t_0L t_0C t_1 t_1L t_1C t_2 key but h  K = (
  New h (.cells #[.slice t_0 t_0L t_0C, .slice t_1 t_1L t_1C, .int .i64 t_2] 29) fun b1 h1 =>
  LoopVC ((0, ()) : Int × Unit) h1 (fun (nx0 : Int × Unit → Hp → Prop) (s1 : Int × Unit) h2 => r50_Has_b1 s1.1 key but (some ⟨b1, 0, none⟩) h2 nx0 K)) := by kernel_rfl
theorem r50_Has_b1_eq (i : Int) (key : Int) (but : Int) (t : Option Addr) (h : Hp) (nx0 : Int × Unit → Hp → Prop) (K : Value → Hp → Prop) : r50_Has_b1 i key but t h nx0 K = (
  NN t fun a1 =>
  ∃ (a2 : Option Addr) (L1 C1 : Nat), cell h (a1.add 1) = some (.slice a2 L1 C1) ∧
  cond (decide (i < (L1 : Int)))
  (NN t fun a3 =>
  ∃ (a4 : Option Addr) (L2 C2 : Nat), cell h (a3.add 1) = some (.slice a4 L2 C2) ∧
  (0 ≤ i ∧ i < (L2 : Int)) ∧
  NN a4 fun a5 =>
  ∃ n1 : Int, cell h (a5.add (Int.toNat i * 5)) = some (.int .i64 n1) ∧
  cond (decide (n1 = key))
  (NN t fun a6 =>
  ∃ (a7 : Option Addr) (L3 C3 : Nat), cell h a6 = some (.slice a7 L3 C3) ∧
  (0 ≤ i ∧ i < (L3 : Int)) ∧
  NN a7 fun a8 =>
  ∃ n2 : Int, cell h (a8.add (Int.toNat i * 1)) = some (.int .i64 n2) ∧
  cond (!decide (n2 = but))
  (K (.bool true) h)
  (r50_Has_b2 key but t i h nx0 K))
  (r50_Has_b2 key but t i h nx0 K))
  (r50_Has_b3  h  K)) := by kernel_rfl
theorem r50_Has_b2_eq (key : Int) (but : Int) (t : Option Addr) (i : Int) (h : Hp) (nx0 : Int × Unit → Hp → Prop) (K : Value → Hp → Prop) : r50_Has_b2 key but t i h nx0 K = (
  InR (i + 1) ∧
  nx0 (i + 1, ()) h) := by kernel_rfl
theorem r50_Has_b3_eq  (h : Hp)  (K : Value → Hp → Prop) : r50_Has_b3  h  K = (
  K (.bool false) h) := by kernel_rfl
theorem r50_Has_call {t_0 : Option Addr} {t_0L : Nat} {t_0C : Nat} {t_1 : Option Addr} {t_1L : Nat} {t_1C : Nat} {t_2 : Int} {key : Int} {but : Int} {h : Hp} {K : Value → Hp → Prop} (hk : r50_Has_b0 t_0 t_0L t_0C t_1 t_1L t_1C t_2 key but h K) : HCalls Try.prog 76 #[.agg #[.slice t_0 t_0L t_0C, .slice t_1 t_1L t_1C, .int .i64 t_2], .int .i64 key, .int .i64 but] h K :=
  calls_of_snd r50_Has_an Try.func76 (c := bodyOf Try.f76) rfl Try.ntmps76 (Nat.le_of_ble_eq_true rfl) (snd_3 F_ok F_mixed) hk

/-! ### slices_insertionSortCmpFunc_int -/
def slices_insertionSortCmpFunc_int_an : Ann := .node none (.leaf) (.loop [0, 1, 2, 3] [(8, .int .i64)] (.node none (.leaf) (.node (some [0, 1, 2, 3, 8]) (.node none (.leaf) (.loop [0, 1, 2, 3, 8] [(9, .int .i64)] (.node (some [0, 1, 2, 3, 8, 9]) (.node none (.tail 14) (.leaf)) (.node (some [0, 1, 2, 3, 8, 9]) (.plan (.qu 0 (.qu 1 (.qu 2 (.qu 3 (.qu 4 (.qu 5 (.qu 6 (.qu 7 (.qu 8 (.qu 9 (.qu 10 (.qu 11 (.qu 12 (.qu 13 (.qu 14 (.wo 15 (.qu 16 (.wo 17 .fin .no)) .no))))))))))))))))) (.leaf))))) (.leaf))))
def slices_insertionSortCmpFunc_int_K0  (K : Value → Hp → Prop) : Exit → Env → Hp → Prop := retK Try.prog Try.f77.results.toList K
def slices_insertionSortCmpFunc_int_K1  (K : Value → Hp → Prop) : Exit → Env → Hp → Prop := blockE 0 (slices_insertionSortCmpFunc_int_K0  K)
def slices_insertionSortCmpFunc_int_K2 (nx0 : Int × Unit → Hp → Prop) (K : Value → Hp → Prop) : Exit → Env → Hp → Prop := thenE (fun env h => getV [(8, .int .i64)] env fun s => nx0 s h) (slices_insertionSortCmpFunc_int_K1  K)
def slices_insertionSortCmpFunc_int_K3 (nx0 : Int × Unit → Hp → Prop) (K : Value → Hp → Prop) : Exit → Env → Hp → Prop := thenE (fun env h => sx_3 Try.prog F 53 (cp [1, 2, 2, 1, 1] (bodyOf Try.f77)) (ap [1, 2, 1, 1] slices_insertionSortCmpFunc_int_an) (rs [0, 1, 2, 3, 8] env) h (slices_insertionSortCmpFunc_int_K2 nx0 K)) (slices_insertionSortCmpFunc_int_K2 nx0 K)
def slices_insertionSortCmpFunc_int_K4 (nx0 : Int × Unit → Hp → Prop) (K : Value → Hp → Prop) : Exit → Env → Hp → Prop := blockE 1 (slices_insertionSortCmpFunc_int_K3 nx0 K)
def slices_insertionSortCmpFunc_int_K5 (nx0 : Int × Unit → Hp → Prop) (K : Value → Hp → Prop) : Exit → Env → Hp → Prop := blockE 2 (slices_insertionSortCmpFunc_int_K4 nx0 K)
def slices_insertionSortCmpFunc_int_K6 (nx0 : Int × Unit → Hp → Prop) (nx1 : Int × Unit → Hp → Prop) (K : Value → Hp → Prop) : Exit → Env → Hp → Prop := thenE (fun env h => getV [(9, .int .i64)] env fun s => nx1 s h) (slices_insertionSortCmpFunc_int_K5 nx0 K)
def slices_insertionSortCmpFunc_int_b0 (data : Option Addr) (dataL : Nat) (dataC : Nat) (a : Int) (b : Int) (cmp : Value) (h : Hp)  (K : Value → Hp → Prop) : Prop :=
  sx_5 Try.prog F 53 (cp [] (bodyOf Try.f77)) (ap [] slices_insertionSortCmpFunc_int_an) [(0, .slice data dataL dataC), (1, .int .i64 a), (2, .int .i64 b), (3, cmp)] h (slices_insertionSortCmpFunc_int_K0  K)
def slices_insertionSortCmpFunc_int_b1 (i : Int) (data : Option Addr) (dataL : Nat) (dataC : Nat) (a : Int) (b : Int) (cmp : Value) (h : Hp) (nx0 : Int × Unit → Hp → Prop) (K : Value → Hp → Prop) : Prop :=
  sx_4 Try.prog F 53 (cp [1, 2, 2] (bodyOf Try.f77)) (ap [1, 2] slices_insertionSortCmpFunc_int_an) [(8, .int .i64 i), (0, .slice data dataL dataC), (1, .int .i64 a), (2, .int .i64 b), (3, cmp)] h (slices_insertionSortCmpFunc_int_K2 nx0 K)
def slices_insertionSortCmpFunc_int_b2 (j : Int) (data : Option Addr) (dataL : Nat) (dataC : Nat) (a : Int) (b : Int) (cmp : Value) (i : Int) (h : Hp) (nx0 : Int × Unit → Hp → Prop) (nx1 : Int × Unit → Hp → Prop) (K : Value → Hp → Prop) : Prop :=
  sx_3 Try.prog F 53 (cp [1, 2, 2, 1, 0, 2, 1, 2, 2] (bodyOf Try.f77)) (ap [1, 2, 1, 0, 1, 2] slices_insertionSortCmpFunc_int_an) [(9, .int .i64 j), (0, .slice data dataL dataC), (1, .int .i64 a), (2, .int .i64 b), (3, cmp), (8, .int .i64 i)] h (slices_insertionSortCmpFunc_int_K6 nx0 nx1 K)
def slices_insertionSortCmpFunc_int_b3 (data : Option Addr) (dataL : Nat) (dataC : Nat) (a : Int) (b : Int) (cmp : Value) (i : Int) (j : Int) (h : Hp) (nx0 : Int × Unit → Hp → Prop) (nx1 : Int × Unit → Hp → Prop) (K : Value → Hp → Prop) : Prop :=
  sx_2 Try.prog F 53 (cp [1, 2, 2, 1, 0, 2, 1, 2, 2, 1] (bodyOf Try.f77)) (ap [1, 2, 1, 0, 1, 2, 1] slices_insertionSortCmpFunc_int_an) [(0, .slice data dataL dataC), (1, .int .i64 a), (2, .int .i64 b), (3, cmp), (8, .int .i64 i), (9, .int .i64 j)] h (slices_insertionSortCmpFunc_int_K6 nx0 nx1 K)
def slices_insertionSortCmpFunc_int_b4 (data : Option Addr) (dataL : Nat) (dataC : Nat) (a : Int) (b : Int) (cmp : Value) (i : Int) (h : Hp) (nx0 : Int × Unit → Hp → Prop) (K : Value → Hp → Prop) : Prop :=
  sx_3 Try.prog F 53 (cp [1, 2, 2, 1, 1] (bodyOf Try.f77)) (ap [1, 2, 1, 1] slices_insertionSortCmpFunc_int_an) [(0, .slice data dataL dataC), (1, .int .i64 a), (2, .int .i64 b), (3, cmp), (8, .int .i64 i)] h (slices_insertionSortCmpFunc_int_K2 nx0 K)
def slices_insertionSortCmpFunc_int_b5 (data : Option Addr) (dataL : Nat) (dataC : Nat) (a : Int) (b : Int) (cmp : Value) (i : Int) (j : Int) (h : Hp) (nx0 : Int × Unit → Hp → Prop) (nx1 : Int × Unit → Hp → Prop) (K : Value → Hp → Prop) : Prop :=
  sx_1 Try.prog F 53 (cp [1, 2, 2, 1, 0, 2, 1, 2, 2, 1, 1] (bodyOf Try.f77)) (ap [1, 2, 1, 0, 1, 2, 1, 1] slices_insertionSortCmpFunc_int_an) [(0, .slice data dataL dataC), (1, .int .i64 a), (2, .int .i64 b), (3, cmp), (8, .int .i64 i), (9, .int .i64 j)] h (slices_insertionSortCmpFunc_int_K6 nx0 nx1 K)
theorem slices_insertionSortCmpFunc_int_b0_eq (data : Option Addr) (dataL : Nat) (dataC : Nat) (a : Int) (b : Int) (cmp : Value) (h : Hp)  (K : Value → Hp → Prop) : slices_insertionSortCmpFunc_int_b0 data dataL dataC a b cmp h  K = (
  InR (a + 1) ∧
  LoopVC ((a + 1, ()) : Int × Unit) h (fun (nx0 : Int × Unit → Hp → Prop) (s1 : Int × Unit) h1 => slices_insertionSortCmpFunc_int_b1 s1.1 data dataL dataC a b cmp h1 nx0 K)) := by kernel_rfl
theorem slices_insertionSortCmpFunc_int_b1_eq (i : Int) (data : Option Addr) (dataL : Nat) (dataC : Nat) (a : Int) (b : Int) (cmp : Value) (h : Hp) (nx0 : Int × Unit → Hp → Prop) (K : Value → Hp → Prop) : slices_insertionSortCmpFunc_int_b1 i data dataL dataC a b cmp h nx0 K = (
  cond (decide (i < b))
  (LoopVC ((i, ()) : Int × Unit) h (fun (nx1 : Int × Unit → Hp → Prop) (s2 : Int × Unit) h2 => slices_insertionSortCmpFunc_int_b2 s2.1 data dataL dataC a b cmp i h2 nx0 nx1 K))
  (K (.tuple #[]) h)) := by kernel_rfl
theorem slices_insertionSortCmpFunc_int_b2_eq (j : Int) (data : Option Addr) (dataL : Nat) (dataC : Nat) (a : Int) (b : Int) (cmp : Value) (i : Int) (h : Hp) (nx0 : Int × Unit → Hp → Prop) (nx1 : Int × Unit → Hp → Prop) (K : Value → Hp → Prop) : slices_insertionSortCmpFunc_int_b2 j data dataL dataC a b cmp i h nx0 nx1 K = (
  cond (decide (a < j))
  ((0 ≤ j ∧ j < (dataL : Int)) ∧
  NN data fun a1 =>
  ∃ n1 : Int, cell h (a1.add (Int.toNat j * 1)) = some (.int .i64 n1) ∧
  InR (j - 1) ∧
  (0 ≤ j - 1 ∧ j - 1 < (dataL : Int)) ∧
  NN data fun a2 =>
  ∃ n2 : Int, cell h (a2.add (Int.toNat (j - 1) * 1)) = some (.int .i64 n2) ∧
  funV cmp fun fg1 fa1 fc1 => callX Try.prog F fg1 (fa1 ++ (([.int .i64 n1, .int .i64 n2] : List Value) ++ fc1)).toArray h fun v1 h3 => ∃ r1 : Int, v1 = .int .i64 r1 ∧
  cond (decide (r1 < 0))
  (slices_insertionSortCmpFunc_int_b3 data dataL dataC a b cmp i j h3 nx0 nx1 K)
  (slices_insertionSortCmpFunc_int_b4 data dataL dataC a b cmp i h3 nx0 K))
  (slices_insertionSortCmpFunc_int_b4 data dataL dataC a b cmp i h nx0 K)) := by kernel_rfl
theorem slices_insertionSortCmpFunc_int_b3_eq (data : Option Addr) (dataL : Nat) (dataC : Nat) (a : Int) (b : Int) (cmp : Value) (i : Int) (j : Int) (h : Hp) (nx0 : Int × Unit → Hp → Prop) (nx1 : Int × Unit → Hp → Prop) (K : Value → Hp → Prop) : slices_insertionSortCmpFunc_int_b3 data dataL dataC a b cmp i j h nx0 nx1 K = (
  InR (j - 1) ∧
  InR (j - 1) ∧
  (0 ≤ j - 1 ∧ j - 1 < (dataL : Int)) ∧
  NN data fun a3 =>
  ∃ n3 : Int, cell h (a3.add (Int.toNat (j - 1) * 1)) = some (.int .i64 n3) ∧
  (0 ≤ j ∧ j < (dataL : Int)) ∧
  NN data fun a4 =>
  ∃ n4 : Int, cell h (a4.add (Int.toNat j * 1)) = some (.int .i64 n4) ∧
  (0 ≤ j ∧ j < (dataL : Int)) ∧
  NN data fun a5 =>
  Wr h (a5.add (Int.toNat j * 1)) (.int .i64 n3) fun h4 =>
  (0 ≤ j - 1 ∧ j - 1 < (dataL : Int)) ∧
  NN data fun a6 =>
  Wr h4 (a6.add (Int.toNat (j - 1) * 1)) (.int .i64 n4) fun h5 =>
  slices_insertionSortCmpFunc_int_b5 data dataL dataC a b cmp i j h5 nx0 nx1 K) := by kernel_rfl
theorem slices_insertionSortCmpFunc_int_b4_eq (data : Option Addr) (dataL : Nat) (dataC : Nat) (a : Int) (b : Int) (cmp : Value) (i : Int) (h : Hp) (nx0 : Int × Unit → Hp → Prop) (K : Value → Hp → Prop) : slices_insertionSortCmpFunc_int_b4 data dataL dataC a b cmp i h nx0 K = (
  InR (i + 1) ∧
  nx0 (i + 1, ()) h) := by kernel_rfl
theorem slices_insertionSortCmpFunc_int_b5_eq (data : Option Addr) (dataL : Nat) (dataC : Nat) (a : Int) (b : Int) (cmp : Value) (i : Int) (j : Int) (h : Hp) (nx0 : Int × Unit → Hp → Prop) (nx1 : Int × Unit → Hp → Prop) (K : Value → Hp → Prop) : slices_insertionSortCmpFunc_int_b5 data dataL dataC a b cmp i j h nx0 nx1 K = (
  InR (j - 1) ∧
  nx1 (j - 1, ()) h) := by kernel_rfl
theorem slices_insertionSortCmpFunc_int_call {data : Option Addr} {dataL : Nat} {dataC : Nat} {a : Int} {b : Int} {cmp : Value} {h : Hp} {K : Value → Hp → Prop} (hk : slices_insertionSortCmpFunc_int_b0 data dataL dataC a b cmp h K) : HCalls Try.prog 77 #[.slice data dataL dataC, .int .i64 a, .int .i64 b, cmp] h K :=
  calls_of_snd slices_insertionSortCmpFunc_int_an Try.func77 (c := bodyOf Try.f77) rfl Try.ntmps77 (Nat.le_of_ble_eq_true rfl) (snd_5 F_ok F_mixed) hk

/-! ### slices_heapSortCmpFunc_int -/
def slices_heapSortCmpFunc_int_an : Ann := .node none (.leaf) (.node none (.leaf) (.node none (.leaf) (.node (some [0, 3, 8, 9, 10]) (.node none (.leaf) (.loop [0, 3, 8, 9, 10] [(11, .int .i64)] (.node none (.leaf) (.node (some [0, 3, 8, 9, 10, 11]) (.leaf) (.leaf))))) (.node none (.leaf) (.loop [0, 3, 8, 9] [(12, .int .i64)] (.node none (.leaf) (.node (some [0, 3, 8, 9, 12]) (.node none (.plan (.qu 0 (.qu 1 (.qu 2 (.qu 3 (.qu 4 (.qu 5 (.qu 6 (.qu 7 (.qu 8 (.qu 9 (.qu 10 (.qu 11 (.qu 12 (.qu 13 (.qu 14 (.qu 15 (.qu 16 (.wo 17 (.qu 18 (.wo 19 .fin .no)) .no))))))))))))))))))) (.leaf)) (.leaf))))))))
def slices_heapSortCmpFunc_int_K0  (K : Value → Hp → Prop) : Exit → Env → Hp → Prop := retK Try.prog Try.f78.results.toList K
def slices_heapSortCmpFunc_int_K1  (K : Value → Hp → Prop) : Exit → Env → Hp → Prop := thenE (fun env h => sx_3 Try.prog F 60 (cp [1, 1, 1, 1] (bodyOf Try.f78)) (ap [1, 1, 1, 1] slices_heapSortCmpFunc_int_an) (rs [0, 3, 8, 9, 10] env) h (slices_heapSortCmpFunc_int_K0  K)) (slices_heapSortCmpFunc_int_K0  K)
def slices_heapSortCmpFunc_int_K2  (K : Value → Hp → Prop) : Exit → Env → Hp → Prop := blockE 0 (slices_heapSortCmpFunc_int_K1  K)
def slices_heapSortCmpFunc_int_K3 (nx0 : Int × Unit → Hp → Prop) (K : Value → Hp → Prop) : Exit → Env → Hp → Prop := thenE (fun env h => getV [(11, .int .i64)] env fun s => nx0 s h) (slices_heapSortCmpFunc_int_K2  K)
def slices_heapSortCmpFunc_int_K4  (K : Value → Hp → Prop) : Exit → Env → Hp → Prop := blockE 2 (slices_heapSortCmpFunc_int_K0  K)
def slices_heapSortCmpFunc_int_K5 (nx0 : Int × Unit → Hp → Prop) (K : Value → Hp → Prop) : Exit → Env → Hp → Prop := thenE (fun env h => getV [(12, .int .i64)] env fun s => nx0 s h) (slices_heapSortCmpFunc_int_K4  K)
def slices_heapSortCmpFunc_int_b0 (data : Option Addr) (dataL : Nat) (dataC : Nat) (a : Int) (b : Int) (cmp : Value) (h : Hp)  (K : Value → Hp → Prop) : Prop :=
  sx_4 Try.prog F 60 (cp [] (bodyOf Try.f78)) (ap [] slices_heapSortCmpFunc_int_an) [(0, .slice data dataL dataC), (1, .int .i64 a), (2, .int .i64 b), (3, cmp)] h (slices_heapSortCmpFunc_int_K0  K)
def slices_heapSortCmpFunc_int_b1 (i : Int) (data : Option Addr) (dataL : Nat) (dataC : Nat) (cmp : Value) (first : Int) (lo : Int) (hi : Int) (h : Hp) (nx0 : Int × Unit → Hp → Prop) (K : Value → Hp → Prop) : Prop :=
  sx_3 Try.prog F 60 (cp [1, 1, 1, 0, 1, 2, 2] (bodyOf Try.f78)) (ap [1, 1, 1, 0, 1, 2] slices_heapSortCmpFunc_int_an) [(11, .int .i64 i), (0, .slice data dataL dataC), (3, cmp), (8, .int .i64 first), (9, .int .i64 lo), (10, .int .i64 hi)] h (slices_heapSortCmpFunc_int_K3 nx0 K)
def slices_heapSortCmpFunc_int_b2 (data : Option Addr) (dataL : Nat) (dataC : Nat) (cmp : Value) (first : Int) (lo : Int) (hi : Int) (i : Int) (h : Hp) (nx0 : Int × Unit → Hp → Prop) (K : Value → Hp → Prop) : Prop :=
  sx_2 Try.prog F 60 (cp [1, 1, 1, 0, 1, 2, 2, 1, 1] (bodyOf Try.f78)) (ap [1, 1, 1, 0, 1, 2, 1, 1] slices_heapSortCmpFunc_int_an) [(0, .slice data dataL dataC), (3, cmp), (8, .int .i64 first), (9, .int .i64 lo), (10, .int .i64 hi), (11, .int .i64 i)] h (slices_heapSortCmpFunc_int_K3 nx0 K)
def slices_heapSortCmpFunc_int_b3 (data : Option Addr) (dataL : Nat) (dataC : Nat) (cmp : Value) (first : Int) (lo : Int) (hi : Int) (h : Hp)  (K : Value → Hp → Prop) : Prop :=
  sx_3 Try.prog F 60 (cp [1, 1, 1, 1] (bodyOf Try.f78)) (ap [1, 1, 1, 1] slices_heapSortCmpFunc_int_an) [(0, .slice data dataL dataC), (3, cmp), (8, .int .i64 first), (9, .int .i64 lo), (10, .int .i64 hi)] h (slices_heapSortCmpFunc_int_K0  K)
def slices_heapSortCmpFunc_int_b4 (i : Int) (data : Option Addr) (dataL : Nat) (dataC : Nat) (cmp : Value) (first : Int) (lo : Int) (h : Hp) (nx0 : Int × Unit → Hp → Prop) (K : Value → Hp → Prop) : Prop :=
  sx_2 Try.prog F 60 (cp [1, 1, 1, 1, 1, 2, 2] (bodyOf Try.f78)) (ap [1, 1, 1, 1, 1, 2] slices_heapSortCmpFunc_int_an) [(12, .int .i64 i), (0, .slice data dataL dataC), (3, cmp), (8, .int .i64 first), (9, .int .i64 lo)] h (slices_heapSortCmpFunc_int_K5 nx0 K)
def slices_heapSortCmpFunc_int_b5 (data : Option Addr) (dataL : Nat) (dataC : Nat) (cmp : Value) (first : Int) (lo : Int) (i : Int) (h : Hp) (nx0 : Int × Unit → Hp → Prop) (K : Value → Hp → Prop) : Prop :=
  sx_1 Try.prog F 60 (cp [1, 1, 1, 1, 1, 2, 2, 1, 1] (bodyOf Try.f78)) (ap [1, 1, 1, 1, 1, 2, 1, 1] slices_heapSortCmpFunc_int_an) [(0, .slice data dataL dataC), (3, cmp), (8, .int .i64 first), (9, .int .i64 lo), (12, .int .i64 i)] h (slices_heapSortCmpFunc_int_K5 nx0 K)
theorem slices_heapSortCmpFunc_int_b0_eq (data : Option Addr) (dataL : Nat) (dataC : Nat) (a : Int) (b : Int) (cmp : Value) (h : Hp)  (K : Value → Hp → Prop) : slices_heapSortCmpFunc_int_b0 data dataL dataC a b cmp h  K = (
  InR (b - a) ∧
  InR ((b - a) - 1) ∧
  ∃ q1 : Int, Sx.Quo .i64 ((b - a) - 1) 2 q1 ∧
  LoopVC ((q1, ()) : Int × Unit) h (fun (nx0 : Int × Unit → Hp → Prop) (s1 : Int × Unit) h1 => slices_heapSortCmpFunc_int_b1 s1.1 data dataL dataC cmp a 0 (b - a) h1 nx0 K)) := by kernel_rfl
theorem slices_heapSortCmpFunc_int_b1_eq (i : Int) (data : Option Addr) (dataL : Nat) (dataC : Nat) (cmp : Value) (first : Int) (lo : Int) (hi : Int) (h : Hp) (nx0 : Int × Unit → Hp → Prop) (K : Value → Hp → Prop) : slices_heapSortCmpFunc_int_b1 i data dataL dataC cmp first lo hi h nx0 K = (
  cond (decide ((0 : Int) ≤ i))
  (HCalls Try.prog 97 #[.slice data dataL dataC, .int .i64 i, .int .i64 hi, .int .i64 first, cmp] h fun v1 h2 => v1 = .tuple #[] ∧
  slices_heapSortCmpFunc_int_b2 data dataL dataC cmp first lo hi i h2 nx0 K)
  (slices_heapSortCmpFunc_int_b3 data dataL dataC cmp first lo hi h  K)) := by kernel_rfl
theorem slices_heapSortCmpFunc_int_b2_eq (data : Option Addr) (dataL : Nat) (dataC : Nat) (cmp : Value) (first : Int) (lo : Int) (hi : Int) (i : Int) (h : Hp) (nx0 : Int × Unit → Hp → Prop) (K : Value → Hp → Prop) : slices_heapSortCmpFunc_int_b2 data dataL dataC cmp first lo hi i h nx0 K = (
  InR (i - 1) ∧
  nx0 (i - 1, ()) h) := by kernel_rfl
theorem slices_heapSortCmpFunc_int_b3_eq (data : Option Addr) (dataL : Nat) (dataC : Nat) (cmp : Value) (first : Int) (lo : Int) (hi : Int) (h : Hp)  (K : Value → Hp → Prop) : slices_heapSortCmpFunc_int_b3 data dataL dataC cmp first lo hi h  K = (
  InR (hi - 1) ∧
  LoopVC ((hi - 1, ()) : Int × Unit) h (fun (nx0 : Int × Unit → Hp → Prop) (s2 : Int × Unit) h3 => slices_heapSortCmpFunc_int_b4 s2.1 data dataL dataC cmp first lo h3 nx0 K)) := by kernel_rfl
theorem slices_heapSortCmpFunc_int_b4_eq (i : Int) (data : Option Addr) (dataL : Nat) (dataC : Nat) (cmp : Value) (first : Int) (lo : Int) (h : Hp) (nx0 : Int × Unit → Hp → Prop) (K : Value → Hp → Prop) : slices_heapSortCmpFunc_int_b4 i data dataL dataC cmp first lo h nx0 K = (
  cond (decide ((0 : Int) ≤ i))
  (InR (first + i) ∧
  InR (first + i) ∧
  (0 ≤ first + i ∧ first + i < (dataL : Int)) ∧
  NN data fun a1 =>
  ∃ n1 : Int, cell h (a1.add (Int.toNat (first + i) * 1)) = some (.int .i64 n1) ∧
  (0 ≤ first ∧ first < (dataL : Int)) ∧
  NN data fun a2 =>
  ∃ n2 : Int, cell h (a2.add (Int.toNat first * 1)) = some (.int .i64 n2) ∧
  (0 ≤ first ∧ first < (dataL : Int)) ∧
  NN data fun a3 =>
  Wr h (a3.add (Int.toNat first * 1)) (.int .i64 n1) fun h4 =>
  (0 ≤ first + i ∧ first + i < (dataL : Int)) ∧
  NN data fun a4 =>
  Wr h4 (a4.add (Int.toNat (first + i) * 1)) (.int .i64 n2) fun h5 =>
  HCalls Try.prog 97 #[.slice data dataL dataC, .int .i64 lo, .int .i64 i, .int .i64 first, cmp] h5 fun v2 h6 => v2 = .tuple #[] ∧
  slices_heapSortCmpFunc_int_b5 data dataL dataC cmp first lo i h6 nx0 K)
  (K (.tuple #[]) h)) := by kernel_rfl
theorem slices_heapSortCmpFunc_int_b5_eq (data : Option Addr) (dataL : Nat) (dataC : Nat) (cmp : Value) (first : Int) (lo : Int) (i : Int) (h : Hp) (nx0 : Int × Unit → Hp → Prop) (K : Value → Hp → Prop) : slices_heapSortCmpFunc_int_b5 data dataL dataC cmp first lo i h nx0 K = (
  InR (i - 1) ∧
  nx0 (i - 1, ()) h) := by kernel_rfl
theorem slices_heapSortCmpFunc_int_call {data : Option Addr} {dataL : Nat} {dataC : Nat} {a : Int} {b : Int} {cmp : Value} {h : Hp} {K : Value → Hp → Prop} (hk : slices_heapSortCmpFunc_int_b0 data dataL dataC a b cmp h K) : HCalls Try.prog 78 #[.slice data dataL dataC, .int .i64 a, .int .i64 b, cmp] h K :=
  calls_of_snd slices_heapSortCmpFunc_int_an Try.func78 (c := bodyOf Try.f78) rfl Try.ntmps78 (Nat.le_of_ble_eq_true rfl) (snd_4 F_ok F_mixed) hk

/-! ### slices_breakPatternsCmpFunc_int -/
def slices_breakPatternsCmpFunc_int_an : Ann := .node none (.leaf) (.node none (.leaf) (.node none (.node none (.leaf) (.node none (.leaf) (.node none (.leaf) (.loop [0, 1, 8, 9, 10] [(11, .int .i64)] (.node none (.leaf) (.node (some [0, 1, 8, 9, 10, 11]) (.node none (.leaf) (.node (some [0, 1, 8, 9, 10, 11, 12]) (.leaf) (.plan (.qu 0 (.qu 1 (.qu 2 (.qu 3 (.qu 4 (.qu 5 (.qu 6 (.qu 7 (.qu 8 (.qu 9 (.qu 10 (.qu 11 (.qu 12 (.qu 13 (.qu 14 (.qu 15 (.qu 16 (.wo 17 (.qu 18 (.wo 19 .fin .no)) .no))))))))))))))))))))) (.leaf))))))) (.leaf)))
def slices_breakPatternsCmpFunc_int_K0  (K : Value → Hp → Prop) : Exit → Env → Hp → Prop := retK Try.prog Try.f79.results.toList K
def slices_breakPatternsCmpFunc_int_K1  (K : Value → Hp → Prop) : Exit → Env → Hp → Prop := blockE 0 (slices_breakPatternsCmpFunc_int_K0  K)
def slices_breakPatternsCmpFunc_int_K2 (nx0 : Int × Unit → Hp → Prop) (K : Value → Hp → Prop) : Exit → Env → Hp → Prop := thenE (fun env h => getV [(11, .int .i64)] env fun s => nx0 s h) (slices_breakPatternsCmpFunc_int_K1  K)
def slices_breakPatternsCmpFunc_int_K3 (nx0 : Int × Unit → Hp → Prop) (K : Value → Hp → Prop) : Exit → Env → Hp → Prop := thenE (fun env h => sx_1 Try.prog F 67 (cp [1, 1, 0, 1, 1, 1, 2, 2, 1, 1] (bodyOf Try.f79)) (ap [1, 1, 0, 1, 1, 1, 2, 1, 1] slices_breakPatternsCmpFunc_int_an) (rs [0, 1, 8, 9, 10, 11] env) h (slices_breakPatternsCmpFunc_int_K2 nx0 K)) (slices_breakPatternsCmpFunc_int_K2 nx0 K)
def slices_breakPatternsCmpFunc_int_K4 (nx0 : Int × Unit → Hp → Prop) (K : Value → Hp → Prop) : Exit → Env → Hp → Prop := blockE 1 (slices_breakPatternsCmpFunc_int_K3 nx0 K)
def slices_breakPatternsCmpFunc_int_b0 (data : Option Addr) (dataL : Nat) (dataC : Nat) (a : Int) (b : Int) (cmp : Value) (h : Hp)  (K : Value → Hp → Prop) : Prop :=
  sx_3 Try.prog F 67 (cp [] (bodyOf Try.f79)) (ap [] slices_breakPatternsCmpFunc_int_an) [(0, .slice data dataL dataC), (1, .int .i64 a), (2, .int .i64 b), (3, cmp)] h (slices_breakPatternsCmpFunc_int_K0  K)
def slices_breakPatternsCmpFunc_int_b1 (idx : Int) (data : Option Addr) (dataL : Nat) (dataC : Nat) (a : Int) (length : Int) (random : Option Addr) (modulus : Int) (h : Hp) (nx0 : Int × Unit → Hp → Prop) (K : Value → Hp → Prop) : Prop :=
  sx_2 Try.prog F 67 (cp [1, 1, 0, 1, 1, 1, 2, 2] (bodyOf Try.f79)) (ap [1, 1, 0, 1, 1, 1, 2] slices_breakPatternsCmpFunc_int_an) [(11, .int .i64 idx), (0, .slice data dataL dataC), (1, .int .i64 a), (8, .int .i64 length), (9, .pointer random), (10, .int .u64 modulus)] h (slices_breakPatternsCmpFunc_int_K2 nx0 K)
def slices_breakPatternsCmpFunc_int_b2 (data : Option Addr) (dataL : Nat) (dataC : Nat) (a : Int) (length : Int) (random : Option Addr) (modulus : Int) (idx : Int) (other : Int) (h : Hp) (nx0 : Int × Unit → Hp → Prop) (K : Value → Hp → Prop) : Prop :=
  sx_1 Try.prog F 67 (cp [1, 1, 0, 1, 1, 1, 2, 2, 1, 0, 2, 1, 1] (bodyOf Try.f79)) (ap [1, 1, 0, 1, 1, 1, 2, 1, 0, 1, 1] slices_breakPatternsCmpFunc_int_an) [(0, .slice data dataL dataC), (1, .int .i64 a), (8, .int .i64 length), (9, .pointer random), (10, .int .u64 modulus), (11, .int .i64 idx), (12, .int .i64 other)] h (slices_breakPatternsCmpFunc_int_K4 nx0 K)
def slices_breakPatternsCmpFunc_int_b3 (data : Option Addr) (dataL : Nat) (dataC : Nat) (a : Int) (length : Int) (random : Option Addr) (modulus : Int) (idx : Int) (h : Hp) (nx0 : Int × Unit → Hp → Prop) (K : Value → Hp → Prop) : Prop :=
  sx_1 Try.prog F 67 (cp [1, 1, 0, 1, 1, 1, 2, 2, 1, 1] (bodyOf Try.f79)) (ap [1, 1, 0, 1, 1, 1, 2, 1, 1] slices_breakPatternsCmpFunc_int_an) [(0, .slice data dataL dataC), (1, .int .i64 a), (8, .int .i64 length), (9, .pointer random), (10, .int .u64 modulus), (11, .int .i64 idx)] h (slices_breakPatternsCmpFunc_int_K2 nx0 K)
theorem slices_breakPatternsCmpFunc_int_b0_eq (data : Option Addr) (dataL : Nat) (dataC : Nat) (a : Int) (b : Int) (cmp : Value) (h : Hp)  (K : Value → Hp → Prop) : slices_breakPatternsCmpFunc_int_b0 data dataL dataC a b cmp h  K = (
  InR (b - a) ∧
  cond (decide ((8 : Int) ≤ (b - a)))
  (New h (.cells #[.int .u64 0] 130) fun b1 h1 =>
  Wr h1 ⟨b1, 0, none⟩ (.int .u64 (IntKind.u64.wrap (b - a))) fun h2 =>
  HCalls Try.prog 98 #[.int .i64 (b - a)] h2 fun v1 h3 => ∃ r1 : Int, v1 = .int .u64 r1 ∧
  ∃ q1 : Int, Sx.Quo .i64 (b - a) 4 q1 ∧
  InR (q1 * 2) ∧
  InR (a + (q1 * 2)) ∧
  InR ((a + (q1 * 2)) - 1) ∧
  LoopVC (((a + (q1 * 2)) - 1, ()) : Int × Unit) h3 (fun (nx0 : Int × Unit → Hp → Prop) (s1 : Int × Unit) h4 => slices_breakPatternsCmpFunc_int_b1 s1.1 data dataL dataC a (b - a) (some ⟨b1, 0, none⟩) r1 h4 nx0 K))
  (K (.tuple #[]) h)) := by kernel_rfl
theorem slices_breakPatternsCmpFunc_int_b1_eq (idx : Int) (data : Option Addr) (dataL : Nat) (dataC : Nat) (a : Int) (length : Int) (random : Option Addr) (modulus : Int) (h : Hp) (nx0 : Int × Unit → Hp → Prop) (K : Value → Hp → Prop) : slices_breakPatternsCmpFunc_int_b1 idx data dataL dataC a length random modulus h nx0 K = (
  ∃ q2 : Int, Sx.Quo .i64 length 4 q2 ∧
  InR (q2 * 2) ∧
  InR (a + (q2 * 2)) ∧
  InR ((a + (q2 * 2)) + 1) ∧
  cond (decide (idx ≤ ((a + (q2 * 2)) + 1)))
  (HCalls Try.prog 99 #[.pointer random] h fun v2 h5 => ∃ r2 : Int, v2 = .int .u64 r2 ∧
  ∃ an1 : Int, Sx.And .u64 r2 (IntKind.u64.wrap (modulus - 1)) an1 ∧
  InR an1 ∧
  cond (decide (length ≤ an1))
  (InR (an1 - length) ∧
  slices_breakPatternsCmpFunc_int_b2 data dataL dataC a length random modulus idx (an1 - length) h5 nx0 K)
  (slices_breakPatternsCmpFunc_int_b2 data dataL dataC a length random modulus idx an1 h5 nx0 K))
  (K (.tuple #[]) h)) := by kernel_rfl
theorem slices_breakPatternsCmpFunc_int_b2_eq (data : Option Addr) (dataL : Nat) (dataC : Nat) (a : Int) (length : Int) (random : Option Addr) (modulus : Int) (idx : Int) (other : Int) (h : Hp) (nx0 : Int × Unit → Hp → Prop) (K : Value → Hp → Prop) : slices_breakPatternsCmpFunc_int_b2 data dataL dataC a length random modulus idx other h nx0 K = (
  InR (a + other) ∧
  InR (a + other) ∧
  (0 ≤ a + other ∧ a + other < (dataL : Int)) ∧
  NN data fun a1 =>
  ∃ n1 : Int, cell h (a1.add (Int.toNat (a + other) * 1)) = some (.int .i64 n1) ∧
  (0 ≤ idx ∧ idx < (dataL : Int)) ∧
  NN data fun a2 =>
  ∃ n2 : Int, cell h (a2.add (Int.toNat idx * 1)) = some (.int .i64 n2) ∧
  (0 ≤ idx ∧ idx < (dataL : Int)) ∧
  NN data fun a3 =>
  Wr h (a3.add (Int.toNat idx * 1)) (.int .i64 n1) fun h6 =>
  (0 ≤ a + other ∧ a + other < (dataL : Int)) ∧
  NN data fun a4 =>
  Wr h6 (a4.add (Int.toNat (a + other) * 1)) (.int .i64 n2) fun h7 =>
  slices_breakPatternsCmpFunc_int_b3 data dataL dataC a length random modulus idx h7 nx0 K) := by kernel_rfl
theorem slices_breakPatternsCmpFunc_int_b3_eq (data : Option Addr) (dataL : Nat) (dataC : Nat) (a : Int) (length : Int) (random : Option Addr) (modulus : Int) (idx : Int) (h : Hp) (nx0 : Int × Unit → Hp → Prop) (K : Value → Hp → Prop) : slices_breakPatternsCmpFunc_int_b3 data dataL dataC a length random modulus idx h nx0 K = (
  InR (idx + 1) ∧
  nx0 (idx + 1, ()) h) := by kernel_rfl
theorem slices_breakPatternsCmpFunc_int_call {data : Option Addr} {dataL : Nat} {dataC : Nat} {a : Int} {b : Int} {cmp : Value} {h : Hp} {K : Value → Hp → Prop} (hk : slices_breakPatternsCmpFunc_int_b0 data dataL dataC a b cmp h K) : HCalls Try.prog 79 #[.slice data dataL dataC, .int .i64 a, .int .i64 b, cmp] h K :=
  calls_of_snd slices_breakPatternsCmpFunc_int_an Try.func79 (c := bodyOf Try.f79) rfl Try.ntmps79 (Nat.le_of_ble_eq_true rfl) (snd_3 F_ok F_mixed) hk

/-! ### slices_choosePivotCmpFunc_int -/
def slices_choosePivotCmpFunc_int_an : Ann := .node none (.leaf) (.node none (.leaf) (.node none (.leaf) (.node none (.leaf) (.node none (.leaf) (.node none (.leaf) (.node (some [11, 13]) (.node none (.leaf) (.node none (.node (some [0, 3, 11, 12, 13, 14]) (.leaf) (.leaf)) (.leaf))) (.leaf)))))))
def slices_choosePivotCmpFunc_int_K0  (K : Value → Hp → Prop) : Exit → Env → Hp → Prop := retK Try.prog Try.f80.results.toList K
def slices_choosePivotCmpFunc_int_K1  (K : Value → Hp → Prop) : Exit → Env → Hp → Prop := thenE (fun env h => sx_1 Try.prog F 63 (cp [1, 1, 1, 1, 1, 1, 1] (bodyOf Try.f80)) (ap [1, 1, 1, 1, 1, 1, 1] slices_choosePivotCmpFunc_int_an) (rs [11, 13] env) h (slices_choosePivotCmpFunc_int_K0  K)) (slices_choosePivotCmpFunc_int_K0  K)
def slices_choosePivotCmpFunc_int_b0 (data : Option Addr) (dataL : Nat) (dataC : Nat) (a : Int) (b : Int) (cmp : Value) (h : Hp)  (K : Value → Hp → Prop) : Prop :=
  sx_2 Try.prog F 63 (cp [] (bodyOf Try.f80)) (ap [] slices_choosePivotCmpFunc_int_an) [(0, .slice data dataL dataC), (1, .int .i64 a), (2, .int .i64 b), (3, cmp)] h (slices_choosePivotCmpFunc_int_K0  K)
def slices_choosePivotCmpFunc_int_b1 (data : Option Addr) (dataL : Nat) (dataC : Nat) (cmp : Value) (swaps : Option Addr) (i : Int) (j : Int) (k : Int) (h : Hp)  (K : Value → Hp → Prop) : Prop :=
  sx_1 Try.prog F 63 (cp [1, 1, 1, 1, 1, 1, 0, 1, 0, 1] (bodyOf Try.f80)) (ap [1, 1, 1, 1, 1, 1, 0, 1, 0, 1] slices_choosePivotCmpFunc_int_an) [(0, .slice data dataL dataC), (3, cmp), (11, .pointer swaps), (12, .int .i64 i), (13, .int .i64 j), (14, .int .i64 k)] h (slices_choosePivotCmpFunc_int_K1  K)
def slices_choosePivotCmpFunc_int_b2 (swaps : Option Addr) (j : Int) (h : Hp)  (K : Value → Hp → Prop) : Prop :=
  sx_1 Try.prog F 63 (cp [1, 1, 1, 1, 1, 1, 1] (bodyOf Try.f80)) (ap [1, 1, 1, 1, 1, 1, 1] slices_choosePivotCmpFunc_int_an) [(11, .pointer swaps), (13, .int .i64 j)] h (slices_choosePivotCmpFunc_int_K0  K)
theorem slices_choosePivotCmpFunc_int_b0_eq (data : Option Addr) (dataL : Nat) (dataC : Nat) (a : Int) (b : Int) (cmp : Value) (h : Hp)  (K : Value → Hp → Prop) : slices_choosePivotCmpFunc_int_b0 data dataL dataC a b cmp h  K = (
  InR (b - a) ∧
  New h (.cells #[.int .i64 0] 3) fun b1 h1 =>
  ∃ q1 : Int, Sx.Quo .i64 (b - a) 4 q1 ∧
  InR (q1 * 1) ∧
  InR (a + (q1 * 1)) ∧
  ∃ q2 : Int, Sx.Quo .i64 (b - a) 4 q2 ∧
  InR (q2 * 2) ∧
  InR (a + (q2 * 2)) ∧
  ∃ q3 : Int, Sx.Quo .i64 (b - a) 4 q3 ∧
  InR (q3 * 3) ∧
  InR (a + (q3 * 3)) ∧
  cond (decide ((8 : Int) ≤ (b - a)))
  (cond (decide ((50 : Int) ≤ (b - a)))
  (HCalls Try.prog 100 #[.slice data dataL dataC, .int .i64 (a + (q1 * 1)), .pointer (some ⟨b1, 0, none⟩), cmp] h1 fun v1 h2 => ∃ r1 : Int, v1 = .int .i64 r1 ∧
  HCalls Try.prog 100 #[.slice data dataL dataC, .int .i64 (a + (q2 * 2)), .pointer (some ⟨b1, 0, none⟩), cmp] h2 fun v2 h3 => ∃ r2 : Int, v2 = .int .i64 r2 ∧
  HCalls Try.prog 100 #[.slice data dataL dataC, .int .i64 (a + (q3 * 3)), .pointer (some ⟨b1, 0, none⟩), cmp] h3 fun v3 h4 => ∃ r3 : Int, v3 = .int .i64 r3 ∧
  slices_choosePivotCmpFunc_int_b1 data dataL dataC cmp (some ⟨b1, 0, none⟩) r1 r2 r3 h4  K)
  (slices_choosePivotCmpFunc_int_b1 data dataL dataC cmp (some ⟨b1, 0, none⟩) (a + (q1 * 1)) (a + (q2 * 2)) (a + (q3 * 3)) h1  K))
  (slices_choosePivotCmpFunc_int_b2 (some ⟨b1, 0, none⟩) (a + (q2 * 2)) h1  K)) := by kernel_rfl
theorem slices_choosePivotCmpFunc_int_b1_eq (data : Option Addr) (dataL : Nat) (dataC : Nat) (cmp : Value) (swaps : Option Addr) (i : Int) (j : Int) (k : Int) (h : Hp)  (K : Value → Hp → Prop) : slices_choosePivotCmpFunc_int_b1 data dataL dataC cmp swaps i j k h  K = (
  HCalls Try.prog 101 #[.slice data dataL dataC, .int .i64 i, .int .i64 j, .int .i64 k, .pointer swaps, cmp] h fun v4 h5 => ∃ r4 : Int, v4 = .int .i64 r4 ∧
  slices_choosePivotCmpFunc_int_b2 swaps r4 h5  K) := by kernel_rfl
theorem slices_choosePivotCmpFunc_int_b2_eq (swaps : Option Addr) (j : Int) (h : Hp)  (K : Value → Hp → Prop) : slices_choosePivotCmpFunc_int_b2 swaps j h  K = (
  NN swaps fun a1 =>
  ∃ n1 : Int, cell h a1 = some (.int .i64 n1) ∧
  cond (decide (n1 = 0))
  (K (.tuple #[.int .i64 j, .int .i64 1]) h)
  (cond (decide (n1 = 12))
  (K (.tuple #[.int .i64 j, .int .i64 2]) h)
  (K (.tuple #[.int .i64 j, .int .i64 0]) h))) := by kernel_rfl
theorem slices_choosePivotCmpFunc_int_call {data : Option Addr} {dataL : Nat} {dataC : Nat} {a : Int} {b : Int} {cmp : Value} {h : Hp} {K : Value → Hp → Prop} (hk : slices_choosePivotCmpFunc_int_b0 data dataL dataC a b cmp h K) : HCalls Try.prog 80 #[.slice data dataL dataC, .int .i64 a, .int .i64 b, cmp] h K :=
  calls_of_snd slices_choosePivotCmpFunc_int_an Try.func80 (c := bodyOf Try.f80) rfl Try.ntmps80 (Nat.le_of_ble_eq_true rfl) (snd_2 F_ok F_mixed) hk

/-! ### slices_reverseRangeCmpFunc_int -/
def slices_reverseRangeCmpFunc_int_an : Ann := .node none (.leaf) (.node none (.leaf) (.loop [0] [(8, .int .i64), (9, .int .i64)] (.node none (.leaf) (.node none (.plan (.qu 0 (.qu 1 (.qu 2 (.qu 3 (.qu 4 (.qu 5 (.qu 6 (.qu 7 (.qu 8 (.qu 9 (.qu 10 (.qu 11 (.qu 12 (.wo 13 (.qu 14 (.wo 15 .fin .no)) .no))))))))))))))) (.leaf)))))
def slices_reverseRangeCmpFunc_int_K0  (K : Value → Hp → Prop) : Exit → Env → Hp → Prop := retK Try.prog Try.f81.results.toList K
def slices_reverseRangeCmpFunc_int_K1  (K : Value → Hp → Prop) : Exit → Env → Hp → Prop := blockE 0 (slices_reverseRangeCmpFunc_int_K0  K)
def slices_reverseRangeCmpFunc_int_K2 (nx0 : Int × Int × Unit → Hp → Prop) (K : Value → Hp → Prop) : Exit → Env → Hp → Prop := thenE (fun env h => getV [(8, .int .i64), (9, .int .i64)] env fun s => nx0 s h) (slices_reverseRangeCmpFunc_int_K1  K)
def slices_reverseRangeCmpFunc_int_b0 (data : Option Addr) (dataL : Nat) (dataC : Nat) (a : Int) (b : Int) (cmp : Value) (h : Hp)  (K : Value → Hp → Prop) : Prop :=
  sx_2 Try.prog F 34 (cp [] (bodyOf Try.f81)) (ap [] slices_reverseRangeCmpFunc_int_an) [(0, .slice data dataL dataC), (1, .int .i64 a), (2, .int .i64 b), (3, cmp)] h (slices_reverseRangeCmpFunc_int_K0  K)
def slices_reverseRangeCmpFunc_int_b1 (i : Int) (j : Int) (data : Option Addr) (dataL : Nat) (dataC : Nat) (h : Hp) (nx0 : Int × Int × Unit → Hp → Prop) (K : Value → Hp → Prop) : Prop :=
  sx_1 Try.prog F 34 (cp [1, 1, 2, 2] (bodyOf Try.f81)) (ap [1, 1, 2] slices_reverseRangeCmpFunc_int_an) [(8, .int .i64 i), (9, .int .i64 j), (0, .slice data dataL dataC)] h (slices_reverseRangeCmpFunc_int_K2 nx0 K)
theorem slices_reverseRangeCmpFunc_int_b0_eq (data : Option Addr) (dataL : Nat) (dataC : Nat) (a : Int) (b : Int) (cmp : Value) (h : Hp)  (K : Value → Hp → Prop) : slices_reverseRangeCmpFunc_int_b0 data dataL dataC a b cmp h  K = (
  InR (b - 1) ∧
  LoopVC ((a, b - 1, ()) : Int × Int × Unit) h (fun (nx0 : Int × Int × Unit → Hp → Prop) (s1 : Int × Int × Unit) h1 => slices_reverseRangeCmpFunc_int_b1 s1.1 s1.2.1 data dataL dataC h1 nx0 K)) := by kernel_rfl
theorem slices_reverseRangeCmpFunc_int_b1_eq (i : Int) (j : Int) (data : Option Addr) (dataL : Nat) (dataC : Nat) (h : Hp) (nx0 : Int × Int × Unit → Hp → Prop) (K : Value → Hp → Prop) : slices_reverseRangeCmpFunc_int_b1 i j data dataL dataC h nx0 K = (
  cond (decide (i < j))
  ((0 ≤ j ∧ j < (dataL : Int)) ∧
  NN data fun a1 =>
  ∃ n1 : Int, cell h (a1.add (Int.toNat j * 1)) = some (.int .i64 n1) ∧
  (0 ≤ i ∧ i < (dataL : Int)) ∧
  NN data fun a2 =>
  ∃ n2 : Int, cell h (a2.add (Int.toNat i * 1)) = some (.int .i64 n2) ∧
  (0 ≤ i ∧ i < (dataL : Int)) ∧
  NN data fun a3 =>
  Wr h (a3.add (Int.toNat i * 1)) (.int .i64 n1) fun h2 =>
  (0 ≤ j ∧ j < (dataL : Int)) ∧
  NN data fun a4 =>
  Wr h2 (a4.add (Int.toNat j * 1)) (.int .i64 n2) fun h3 =>
  InR (i + 1) ∧
  InR (j - 1) ∧
  nx0 (i + 1, j - 1, ()) h3)
  (K (.tuple #[]) h)) := by kernel_rfl
theorem slices_reverseRangeCmpFunc_int_call {data : Option Addr} {dataL : Nat} {dataC : Nat} {a : Int} {b : Int} {cmp : Value} {h : Hp} {K : Value → Hp → Prop} (hk : slices_reverseRangeCmpFunc_int_b0 data dataL dataC a b cmp h K) : HCalls Try.prog 81 #[.slice data dataL dataC, .int .i64 a, .int .i64 b, cmp] h K :=
  calls_of_snd slices_reverseRangeCmpFunc_int_an Try.func81 (c := bodyOf Try.f81) rfl Try.ntmps81 (Nat.le_of_ble_eq_true rfl) (snd_2 F_ok F_mixed) hk

end Go.Proofs.Ytfkccighnkepgaa
