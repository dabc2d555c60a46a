/- Plain statements of what each block of code of this seat asks; printed by a program, checked by Lean. -/
import Derived.Test.YtfkccighnkepgaaGreatSxV0
set_option maxRecDepth 10000
namespace Go.Proofs.YtfkccighnkepgaaGreat
open Go Go.Sx

/-! ### table_Table_Batch -/
def table_Table_Batch_an : Ann := .node none (.leaf) (.node (some [0, 1, 2]) (.leaf) (.node none (.leaf) (.node (some [0, 1, 2, 8]) (.node none (.leaf) (.loop [0, 1, 2, 8, 30, 31] [(32, .int .i64)] (.node none (.leaf) (.node none (.leaf) (.node (some [0, 1, 2, 8, 30, 31, 32]) (.leaf) (.leaf)))))) (.node (some [0, 1, 2, 8]) (.node none (.leaf) (.loop [0, 1, 2, 8, 42, 43] [(44, .int .i64)] (.node none (.leaf) (.node none (.leaf) (.node (some [0, 1, 2, 8, 42, 43, 44]) (.leaf) (.leaf)))))) (.node none (.leaf) (.node (some [0, 1, 2]) (.node none (.leaf) (.loop [0, 1, 2, 8, 13, 57, 58] [(59, .int .i64)] (.node none (.leaf) (.node none (.leaf) (.node (some [0, 1, 2, 8, 13, 57, 58, 59]) (.node none (.leaf) (.node none (.plan (.qu 0 (.qu 1 (.qu 2 (.qu 3 (.qu 4 (.qu 5 (.wo 6 (.qu 7 (.qu 8 (.qu 9 (.wo 10 (.wo 11 .fin .no) .no)))) .no)))))))) (.node (some [0, 1, 2, 8, 13, 15, 57, 58, 59]) (.leaf) (.leaf)))) (.leaf)))))) (.node none (.leaf) (.node (some [0, 2]) (.node none (.leaf) (.loop [0, 2, 102, 103] [(104, .int .i64)] (.node none (.leaf) (.node none (.leaf) (.node (some [0, 2, 102, 103, 104]) (.leaf) (.leaf)))))) (.node none (.leaf) (.node (some [0, 20]) (.node none (.leaf) (.loop [0, 112, 113] [(20, .slice), (114, .int .i64)] (.node none (.leaf) (.node none (.leaf) (.node (some [0, 20, 112, 113, 114]) (.node none (.leaf) (.node none (.leaf) (.node none (.tail 6) (.leaf)))) (.leaf)))))) (.leaf)))))))))))
def table_Table_Batch_K0  (K : Value → Hp → Prop) : Exit → Env → Hp → Prop := retK Tryz.prog Tryz.f22.results.toList K
def table_Table_Batch_K1  (K : Value → Hp → Prop) : Exit → Env → Hp → Prop := thenE (fun env h => sx_6 Tryz.prog F 143 (cp [1, 1, 1, 1] (bodyOf Tryz.f22)) (ap [1, 1, 1, 1] table_Table_Batch_an) (rs [0, 1, 2, 8] env) h (table_Table_Batch_K0  K)) (table_Table_Batch_K0  K)
def table_Table_Batch_K2  (K : Value → Hp → Prop) : Exit → Env → Hp → Prop := blockE 0 (table_Table_Batch_K1  K)
def table_Table_Batch_K3 (nx0 : Int × Unit → Hp → Prop) (K : Value → Hp → Prop) : Exit → Env → Hp → Prop := thenE (fun env h => getV [(32, .int .i64)] env fun s => nx0 s h) (table_Table_Batch_K2  K)
def table_Table_Batch_K4  (K : Value → Hp → Prop) : Exit → Env → Hp → Prop := thenE (fun env h => sx_5 Tryz.prog F 143 (cp [1, 1, 1, 1, 1] (bodyOf Tryz.f22)) (ap [1, 1, 1, 1, 1] table_Table_Batch_an) (rs [0, 1, 2, 8] env) h (table_Table_Batch_K0  K)) (table_Table_Batch_K0  K)
def table_Table_Batch_K5  (K : Value → Hp → Prop) : Exit → Env → Hp → Prop := blockE 2 (table_Table_Batch_K4  K)
def table_Table_Batch_K6 (nx0 : Int × Unit → Hp → Prop) (K : Value → Hp → Prop) : Exit → Env → Hp → Prop := thenE (fun env h => getV [(44, .int .i64)] env fun s => nx0 s h) (table_Table_Batch_K5  K)
def table_Table_Batch_K7  (K : Value → Hp → Prop) : Exit → Env → Hp → Prop := thenE (fun env h => sx_4 Tryz.prog F 143 (cp [1, 1, 1, 1, 1, 1, 1] (bodyOf Tryz.f22)) (ap [1, 1, 1, 1, 1, 1, 1] table_Table_Batch_an) (rs [0, 1, 2] env) h (table_Table_Batch_K0  K)) (table_Table_Batch_K0  K)
def table_Table_Batch_K8  (K : Value → Hp → Prop) : Exit → Env → Hp → Prop := blockE 4 (table_Table_Batch_K7  K)
def table_Table_Batch_K9 (nx0 : Int × Unit → Hp → Prop) (K : Value → Hp → Prop) : Exit → Env → Hp → Prop := thenE (fun env h => getV [(59, .int .i64)] env fun s => nx0 s h) (table_Table_Batch_K8  K)
def table_Table_Batch_K10 (nx0 : Int × Unit → Hp → Prop) (K : Value → Hp → Prop) : Exit → Env → Hp → Prop := thenE (fun env h => sx_3 Tryz.prog F 143 (cp [1, 1, 1, 1, 1, 1, 0, 1, 2, 2, 1, 1, 1] (bodyOf Tryz.f22)) (ap [1, 1, 1, 1, 1, 1, 0, 1, 2, 1, 1, 1] table_Table_Batch_an) (rs [0, 1, 2, 8, 13, 57, 58, 59] env) h (table_Table_Batch_K9 nx0 K)) (table_Table_Batch_K9 nx0 K)
def table_Table_Batch_K11 (nx0 : Int × Unit → Hp → Prop) (K : Value → Hp → Prop) : Exit → Env → Hp → Prop := blockE 5 (table_Table_Batch_K10 nx0 K)
def table_Table_Batch_K12  (K : Value → Hp → Prop) : Exit → Env → Hp → Prop := thenE (fun env h => sx_3 Tryz.prog F 143 (cp [1, 1, 1, 1, 1, 1, 1, 1, 1] (bodyOf Tryz.f22)) (ap [1, 1, 1, 1, 1, 1, 1, 1, 1] table_Table_Batch_an) (rs [0, 2] env) h (table_Table_Batch_K0  K)) (table_Table_Batch_K0  K)
def table_Table_Batch_K13  (K : Value → Hp → Prop) : Exit → Env → Hp → Prop := blockE 6 (table_Table_Batch_K12  K)
def table_Table_Batch_K14 (nx0 : Int × Unit → Hp → Prop) (K : Value → Hp → Prop) : Exit → Env → Hp → Prop := thenE (fun env h => getV [(104, .int .i64)] env fun s => nx0 s h) (table_Table_Batch_K13  K)
def table_Table_Batch_K15  (K : Value → Hp → Prop) : Exit → Env → Hp → Prop := thenE (fun env h => sx_2 Tryz.prog F 143 (cp [1, 1, 1, 1, 1, 1, 1, 1, 1, 1, 1] (bodyOf Tryz.f22)) (ap [1, 1, 1, 1, 1, 1, 1, 1, 1, 1, 1] table_Table_Batch_an) (rs [0, 20] env) h (table_Table_Batch_K0  K)) (table_Table_Batch_K0  K)
def table_Table_Batch_K16  (K : Value → Hp → Prop) : Exit → Env → Hp → Prop := blockE 8 (table_Table_Batch_K15  K)
def table_Table_Batch_K17 (nx0 : (Option Addr × Nat × Nat) × Int × Unit → Hp → Prop) (K : Value → Hp → Prop) : Exit → Env → Hp → Prop := thenE (fun env h => getV [(20, .slice), (114, .int .i64)] env fun s => nx0 s h) (table_Table_Batch_K16  K)
def table_Table_Batch_b0 (t : Option Addr) (deletes : Option Addr) (deletesL : Nat) (deletesC : Nat) (inserts : Option Addr) (insertsL : Nat) (insertsC : Nat) (h : Hp)  (K : Value → Hp → Prop) : Prop :=
  sx_8 Tryz.prog F 143 (cp [] (bodyOf Tryz.f22)) (ap [] table_Table_Batch_an) [(0, .pointer t), (1, .slice deletes deletesL deletesC), (2, .slice inserts insertsL insertsC)] h (table_Table_Batch_K0  K)
def table_Table_Batch_b1 (t : Option Addr) (deletes : Option Addr) (deletesL : Nat) (deletesC : Nat) (inserts : Option Addr) (insertsL : Nat) (insertsC : Nat) (h : Hp)  (K : Value → Hp → Prop) : Prop :=
  sx_7 Tryz.prog F 143 (cp [1, 1] (bodyOf Tryz.f22)) (ap [1, 1] table_Table_Batch_an) [(0, .pointer t), (1, .slice deletes deletesL deletesC), (2, .slice inserts insertsL insertsC)] h (table_Table_Batch_K0  K)
def table_Table_Batch_b2 (t32 : Int) (t : Option Addr) (deletes : Option Addr) (deletesL : Nat) (deletesC : Nat) (inserts : Option Addr) (insertsL : Nat) (insertsC : Nat) (gone : Value) (t30 : Option Addr) (t30L : Nat) (t30C : Nat) (t31 : Int) (h : Hp) (nx0 : Int × Unit → Hp → Prop) (K : Value → Hp → Prop) : Prop :=
  sx_6 Tryz.prog F 143 (cp [1, 1, 1, 0, 1, 2, 2] (bodyOf Tryz.f22)) (ap [1, 1, 1, 0, 1, 2] table_Table_Batch_an) [(32, .int .i64 t32), (0, .pointer t), (1, .slice deletes deletesL deletesC), (2, .slice inserts insertsL insertsC), (8, gone), (30, .slice t30 t30L t30C), (31, .int .i64 t31)] h (table_Table_Batch_K3 nx0 K)
def table_Table_Batch_b3 (t : Option Addr) (deletes : Option Addr) (deletesL : Nat) (deletesC : Nat) (inserts : Option Addr) (insertsL : Nat) (insertsC : Nat) (gone : Value) (t30 : Option Addr) (t30L : Nat) (t30C : Nat) (t31 : Int) (t32 : Int) (h : Hp) (nx0 : Int × Unit → Hp → Prop) (K : Value → Hp → Prop) : Prop :=
  sx_5 Tryz.prog F 143 (cp [1, 1, 1, 0, 1, 2, 2, 1, 1, 1] (bodyOf Tryz.f22)) (ap [1, 1, 1, 0, 1, 2, 1, 1, 1] table_Table_Batch_an) [(0, .pointer t), (1, .slice deletes deletesL deletesC), (2, .slice inserts insertsL insertsC), (8, gone), (30, .slice t30 t30L t30C), (31, .int .i64 t31), (32, .int .i64 t32)] h (table_Table_Batch_K3 nx0 K)
def table_Table_Batch_b4 (t : Option Addr) (deletes : Option Addr) (deletesL : Nat) (deletesC : Nat) (inserts : Option Addr) (insertsL : Nat) (insertsC : Nat) (gone : Value) (h : Hp)  (K : Value → Hp → Prop) : Prop :=
  sx_6 Tryz.prog F 143 (cp [1, 1, 1, 1] (bodyOf Tryz.f22)) (ap [1, 1, 1, 1] table_Table_Batch_an) [(0, .pointer t), (1, .slice deletes deletesL deletesC), (2, .slice inserts insertsL insertsC), (8, gone)] h (table_Table_Batch_K0  K)
def table_Table_Batch_b5 (t44 : Int) (t : Option Addr) (deletes : Option Addr) (deletesL : Nat) (deletesC : Nat) (inserts : Option Addr) (insertsL : Nat) (insertsC : Nat) (gone : Value) (t42 : Option Addr) (t42L : Nat) (t42C : Nat) (t43 : Int) (h : Hp) (nx0 : Int × Unit → Hp → Prop) (K : Value → Hp → Prop) : Prop :=
  sx_5 Tryz.prog F 143 (cp [1, 1, 1, 1, 0, 1, 2, 2] (bodyOf Tryz.f22)) (ap [1, 1, 1, 1, 0, 1, 2] table_Table_Batch_an) [(44, .int .i64 t44), (0, .pointer t), (1, .slice deletes deletesL deletesC), (2, .slice inserts insertsL insertsC), (8, gone), (42, .slice t42 t42L t42C), (43, .int .i64 t43)] h (table_Table_Batch_K6 nx0 K)
def table_Table_Batch_b6 (t : Option Addr) (deletes : Option Addr) (deletesL : Nat) (deletesC : Nat) (inserts : Option Addr) (insertsL : Nat) (insertsC : Nat) (gone : Value) (t42 : Option Addr) (t42L : Nat) (t42C : Nat) (t43 : Int) (t44 : Int) (h : Hp) (nx0 : Int × Unit → Hp → Prop) (K : Value → Hp → Prop) : Prop :=
  sx_4 Tryz.prog F 143 (cp [1, 1, 1, 1, 0, 1, 2, 2, 1, 1, 1] (bodyOf Tryz.f22)) (ap [1, 1, 1, 1, 0, 1, 2, 1, 1, 1] table_Table_Batch_an) [(0, .pointer t), (1, .slice deletes deletesL deletesC), (2, .slice inserts insertsL insertsC), (8, gone), (42, .slice t42 t42L t42C), (43, .int .i64 t43), (44, .int .i64 t44)] h (table_Table_Batch_K6 nx0 K)
def table_Table_Batch_b7 (t : Option Addr) (deletes : Option Addr) (deletesL : Nat) (deletesC : Nat) (inserts : Option Addr) (insertsL : Nat) (insertsC : Nat) (gone : Value) (h : Hp)  (K : Value → Hp → Prop) : Prop :=
  sx_5 Tryz.prog F 143 (cp [1, 1, 1, 1, 1] (bodyOf Tryz.f22)) (ap [1, 1, 1, 1, 1] table_Table_Batch_an) [(0, .pointer t), (1, .slice deletes deletesL deletesC), (2, .slice inserts insertsL insertsC), (8, gone)] h (table_Table_Batch_K0  K)
def table_Table_Batch_b8 (t59 : Int) (t : Option Addr) (deletes : Option Addr) (deletesL : Nat) (deletesC : Nat) (inserts : Option Addr) (insertsL : Nat) (insertsC : Nat) (gone : Value) (keys : Value) (t57 : Option Addr) (t57L : Nat) (t57C : Nat) (t58 : Int) (h : Hp) (nx0 : Int × Unit → Hp → Prop) (K : Value → Hp → Prop) : Prop :=
  sx_4 Tryz.prog F 143 (cp [1, 1, 1, 1, 1, 1, 0, 1, 2, 2] (bodyOf Tryz.f22)) (ap [1, 1, 1, 1, 1, 1, 0, 1, 2] table_Table_Batch_an) [(59, .int .i64 t59), (0, .pointer t), (1, .slice deletes deletesL deletesC), (2, .slice inserts insertsL insertsC), (8, gone), (13, keys), (57, .slice t57 t57L t57C), (58, .int .i64 t58)] h (table_Table_Batch_K9 nx0 K)
def table_Table_Batch_b9 (t : Option Addr) (deletes : Option Addr) (deletesL : Nat) (deletesC : Nat) (inserts : Option Addr) (insertsL : Nat) (insertsC : Nat) (gone : Value) (keys : Value) (r : Option Addr) (t57 : Option Addr) (t57L : Nat) (t57C : Nat) (t58 : Int) (t59 : Int) (h : Hp) (nx0 : Int × Unit → Hp → Prop) (K : Value → Hp → Prop) : Prop :=
  sx_3 Tryz.prog F 143 (cp [1, 1, 1, 1, 1, 1, 0, 1, 2, 2, 1, 1, 0, 2, 1, 1, 1] (bodyOf Tryz.f22)) (ap [1, 1, 1, 1, 1, 1, 0, 1, 2, 1, 1, 0, 1, 1, 1] table_Table_Batch_an) [(0, .pointer t), (1, .slice deletes deletesL deletesC), (2, .slice inserts insertsL insertsC), (8, gone), (13, keys), (15, .pointer r), (57, .slice t57 t57L t57C), (58, .int .i64 t58), (59, .int .i64 t59)] h (table_Table_Batch_K11 nx0 K)
def table_Table_Batch_b10 (t : Option Addr) (deletes : Option Addr) (deletesL : Nat) (deletesC : Nat) (inserts : Option Addr) (insertsL : Nat) (insertsC : Nat) (h : Hp)  (K : Value → Hp → Prop) : Prop :=
  sx_4 Tryz.prog F 143 (cp [1, 1, 1, 1, 1, 1, 1] (bodyOf Tryz.f22)) (ap [1, 1, 1, 1, 1, 1, 1] table_Table_Batch_an) [(0, .pointer t), (1, .slice deletes deletesL deletesC), (2, .slice inserts insertsL insertsC)] h (table_Table_Batch_K0  K)
def table_Table_Batch_b11 (t : Option Addr) (deletes : Option Addr) (deletesL : Nat) (deletesC : Nat) (inserts : Option Addr) (insertsL : Nat) (insertsC : Nat) (gone : Value) (keys : Value) (t57 : Option Addr) (t57L : Nat) (t57C : Nat) (t58 : Int) (t59 : Int) (h : Hp) (nx0 : Int × Unit → Hp → Prop) (K : Value → Hp → Prop) : Prop :=
  sx_3 Tryz.prog F 143 (cp [1, 1, 1, 1, 1, 1, 0, 1, 2, 2, 1, 1, 1] (bodyOf Tryz.f22)) (ap [1, 1, 1, 1, 1, 1, 0, 1, 2, 1, 1, 1] table_Table_Batch_an) [(0, .pointer t), (1, .slice deletes deletesL deletesC), (2, .slice inserts insertsL insertsC), (8, gone), (13, keys), (57, .slice t57 t57L t57C), (58, .int .i64 t58), (59, .int .i64 t59)] h (table_Table_Batch_K9 nx0 K)
def table_Table_Batch_b12 (t104 : Int) (t : Option Addr) (inserts : Option Addr) (insertsL : Nat) (insertsC : Nat) (t102 : Option Addr) (t102L : Nat) (t102C : Nat) (t103 : Int) (h : Hp) (nx0 : Int × Unit → Hp → Prop) (K : Value → Hp → Prop) : Prop :=
  sx_3 Tryz.prog F 143 (cp [1, 1, 1, 1, 1, 1, 1, 1, 0, 1, 2, 2] (bodyOf Tryz.f22)) (ap [1, 1, 1, 1, 1, 1, 1, 1, 0, 1, 2] table_Table_Batch_an) [(104, .int .i64 t104), (0, .pointer t), (2, .slice inserts insertsL insertsC), (102, .slice t102 t102L t102C), (103, .int .i64 t103)] h (table_Table_Batch_K14 nx0 K)
def table_Table_Batch_b13 (t : Option Addr) (inserts : Option Addr) (insertsL : Nat) (insertsC : Nat) (t102 : Option Addr) (t102L : Nat) (t102C : Nat) (t103 : Int) (t104 : Int) (h : Hp) (nx0 : Int × Unit → Hp → Prop) (K : Value → Hp → Prop) : Prop :=
  sx_2 Tryz.prog F 143 (cp [1, 1, 1, 1, 1, 1, 1, 1, 0, 1, 2, 2, 1, 1, 1] (bodyOf Tryz.f22)) (ap [1, 1, 1, 1, 1, 1, 1, 1, 0, 1, 2, 1, 1, 1] table_Table_Batch_an) [(0, .pointer t), (2, .slice inserts insertsL insertsC), (102, .slice t102 t102L t102C), (103, .int .i64 t103), (104, .int .i64 t104)] h (table_Table_Batch_K14 nx0 K)
def table_Table_Batch_b14 (t : Option Addr) (inserts : Option Addr) (insertsL : Nat) (insertsC : Nat) (h : Hp)  (K : Value → Hp → Prop) : Prop :=
  sx_3 Tryz.prog F 143 (cp [1, 1, 1, 1, 1, 1, 1, 1, 1] (bodyOf Tryz.f22)) (ap [1, 1, 1, 1, 1, 1, 1, 1, 1] table_Table_Batch_an) [(0, .pointer t), (2, .slice inserts insertsL insertsC)] h (table_Table_Batch_K0  K)
def table_Table_Batch_b15 (out : Option Addr) (outL : Nat) (outC : Nat) (t114 : Int) (t : Option Addr) (t112 : Option Addr) (t112L : Nat) (t112C : Nat) (t113 : Int) (h : Hp) (nx0 : (Option Addr × Nat × Nat) × Int × Unit → Hp → Prop) (K : Value → Hp → Prop) : Prop :=
  sx_2 Tryz.prog F 143 (cp [1, 1, 1, 1, 1, 1, 1, 1, 1, 1, 0, 1, 2, 2] (bodyOf Tryz.f22)) (ap [1, 1, 1, 1, 1, 1, 1, 1, 1, 1, 0, 1, 2] table_Table_Batch_an) [(20, .slice out outL outC), (114, .int .i64 t114), (0, .pointer t), (112, .slice t112 t112L t112C), (113, .int .i64 t113)] h (table_Table_Batch_K17 nx0 K)
def table_Table_Batch_b16 (t : Option Addr) (out : Option Addr) (outL : Nat) (outC : Nat) (t112 : Option Addr) (t112L : Nat) (t112C : Nat) (t113 : Int) (t114 : Int) (h : Hp) (nx0 : (Option Addr × Nat × Nat) × Int × Unit → Hp → Prop) (K : Value → Hp → Prop) : Prop :=
  sx_1 Tryz.prog F 143 (cp [1, 1, 1, 1, 1, 1, 1, 1, 1, 1, 0, 1, 2, 2, 1, 1, 1] (bodyOf Tryz.f22)) (ap [1, 1, 1, 1, 1, 1, 1, 1, 1, 1, 0, 1, 2, 1, 1, 1] table_Table_Batch_an) [(0, .pointer t), (20, .slice out outL outC), (112, .slice t112 t112L t112C), (113, .int .i64 t113), (114, .int .i64 t114)] h (table_Table_Batch_K17 nx0 K)
def table_Table_Batch_b17 (t : Option Addr) (out : Option Addr) (outL : Nat) (outC : Nat) (h : Hp)  (K : Value → Hp → Prop) : Prop :=
  sx_2 Tryz.prog F 143 (cp [1, 1, 1, 1, 1, 1, 1, 1, 1, 1, 1] (bodyOf Tryz.f22)) (ap [1, 1, 1, 1, 1, 1, 1, 1, 1, 1, 1] table_Table_Batch_an) [(0, .pointer t), (20, .slice out outL outC)] h (table_Table_Batch_K0  K)
theorem table_Table_Batch_b0_eq (t : Option Addr) (deletes : Option Addr) (deletesL : Nat) (deletesC : Nat) (inserts : Option Addr) (insertsL : Nat) (insertsC : Nat) (h : Hp)  (K : Value → Hp → Prop) : table_Table_Batch_b0 t deletes deletesL deletesC inserts insertsL insertsC h  K = (
  cond t.isNone
  (K (.tuple #[.slice none 0 0, .int .i64 1]) h)
  (HCalls Tryz.prog 32 #[.slice inserts insertsL insertsC, .func (.func 55) #[] #[]] h fun v1 h1 => ∃ r1 : Bool, v1 = .bool r1 ∧
  cond r1
  (K (.tuple #[.slice none 0 0, .int .i64 1]) h1)
  (table_Table_Batch_b1 t deletes deletesL deletesC inserts insertsL insertsC h1  K))) := by kernel_rfl
theorem table_Table_Batch_b1_eq (t : Option Addr) (deletes : Option Addr) (deletesL : Nat) (deletesC : Nat) (inserts : Option Addr) (insertsL : Nat) (insertsC : Nat) (h : Hp)  (K : Value → Hp → Prop) : table_Table_Batch_b1 t deletes deletesL deletesC inserts insertsL insertsC h  K = (
  New h (.map #[] 0) fun b1 h2 =>
  LoopVC ((0, ()) : Int × Unit) h2 (fun (nx0 : Int × Unit → Hp → Prop) (s1 : Int × Unit) h3 => table_Table_Batch_b2 s1.1 t deletes deletesL deletesC inserts insertsL insertsC (.map (some b1)) deletes deletesL deletesC (deletesL : Int) h3 nx0 K)) := by kernel_rfl
theorem table_Table_Batch_b2_eq (t32 : Int) (t : Option Addr) (deletes : Option Addr) (deletesL : Nat) (deletesC : Nat) (inserts : Option Addr) (insertsL : Nat) (insertsC : Nat) (gone : Value) (t30 : Option Addr) (t30L : Nat) (t30C : Nat) (t31 : Int) (h : Hp) (nx0 : Int × Unit → Hp → Prop) (K : Value → Hp → Prop) : table_Table_Batch_b2 t32 t deletes deletesL deletesC inserts insertsL insertsC gone t30 t30L t30C t31 h nx0 K = (
  cond (decide (t32 < t31))
  ((0 ≤ t32 ∧ t32 < (t30L : Int)) ∧
  NN t30 fun a1 =>
  ∃ n1 : Int, cell h (a1.add (Int.toNat t32 * 1)) = some (.int .i64 n1) ∧
  lookV Tryz.prog 80 gone (.int .i64 n1) false h fun v2 => ∃ r2 : Bool, v2 = .bool r2 ∧
  cond r2
  (K (.tuple #[.slice none 0 0, .int .i64 10]) h)
  (mapSetV Tryz.prog 80 gone (.int .i64 n1) (.bool true) h fun h4 =>
  table_Table_Batch_b3 t deletes deletesL deletesC inserts insertsL insertsC gone t30 t30L t30C t31 t32 h4 nx0 K))
  (table_Table_Batch_b4 t deletes deletesL deletesC inserts insertsL insertsC gone h  K)) := by kernel_rfl
theorem table_Table_Batch_b3_eq (t : Option Addr) (deletes : Option Addr) (deletesL : Nat) (deletesC : Nat) (inserts : Option Addr) (insertsL : Nat) (insertsC : Nat) (gone : Value) (t30 : Option Addr) (t30L : Nat) (t30C : Nat) (t31 : Int) (t32 : Int) (h : Hp) (nx0 : Int × Unit → Hp → Prop) (K : Value → Hp → Prop) : table_Table_Batch_b3 t deletes deletesL deletesC inserts insertsL insertsC gone t30 t30L t30C t31 t32 h nx0 K = (
  InR (t32 + 1) ∧
  nx0 (t32 + 1, ()) h) := by kernel_rfl
theorem table_Table_Batch_b4_eq (t : Option Addr) (deletes : Option Addr) (deletesL : Nat) (deletesC : Nat) (inserts : Option Addr) (insertsL : Nat) (insertsC : Nat) (gone : Value) (h : Hp)  (K : Value → Hp → Prop) : table_Table_Batch_b4 t deletes deletesL deletesC inserts insertsL insertsC gone h  K = (
  LoopVC ((0, ()) : Int × Unit) h (fun (nx0 : Int × Unit → Hp → Prop) (s2 : Int × Unit) h5 => table_Table_Batch_b5 s2.1 t deletes deletesL deletesC inserts insertsL insertsC gone deletes deletesL deletesC (deletesL : Int) h5 nx0 K)) := by kernel_rfl
theorem table_Table_Batch_b5_eq (t44 : Int) (t : Option Addr) (deletes : Option Addr) (deletesL : Nat) (deletesC : Nat) (inserts : Option Addr) (insertsL : Nat) (insertsC : Nat) (gone : Value) (t42 : Option Addr) (t42L : Nat) (t42C : Nat) (t43 : Int) (h : Hp) (nx0 : Int × Unit → Hp → Prop) (K : Value → Hp → Prop) : table_Table_Batch_b5 t44 t deletes deletesL deletesC inserts insertsL insertsC gone t42 t42L t42C t43 h nx0 K = (
  cond (decide (t44 < t43))
  ((0 ≤ t44 ∧ t44 < (t42L : Int)) ∧
  NN t42 fun a2 =>
  ∃ n2 : Int, cell h (a2.add (Int.toNat t44 * 1)) = some (.int .i64 n2) ∧
  NN t fun a3 =>
  ∃ v3 : Value, cell h a3 = some (v3) ∧
  lookV Tryz.prog 78 v3 (.int .i64 n2) false h fun v4 => ∃ r3 : Option Addr, v4 = .pointer r3 ∧
  cond r3.isNone
  (K (.tuple #[.slice none 0 0, .int .i64 12]) h)
  (table_Table_Batch_b6 t deletes deletesL deletesC inserts insertsL insertsC gone t42 t42L t42C t43 t44 h nx0 K))
  (table_Table_Batch_b7 t deletes deletesL deletesC inserts insertsL insertsC gone h  K)) := by kernel_rfl
theorem table_Table_Batch_b6_eq (t : Option Addr) (deletes : Option Addr) (deletesL : Nat) (deletesC : Nat) (inserts : Option Addr) (insertsL : Nat) (insertsC : Nat) (gone : Value) (t42 : Option Addr) (t42L : Nat) (t42C : Nat) (t43 : Int) (t44 : Int) (h : Hp) (nx0 : Int × Unit → Hp → Prop) (K : Value → Hp → Prop) : table_Table_Batch_b6 t deletes deletesL deletesC inserts insertsL insertsC gone t42 t42L t42C t43 t44 h nx0 K = (
  InR (t44 + 1) ∧
  nx0 (t44 + 1, ()) h) := by kernel_rfl
theorem table_Table_Batch_b7_eq (t : Option Addr) (deletes : Option Addr) (deletesL : Nat) (deletesC : Nat) (inserts : Option Addr) (insertsL : Nat) (insertsC : Nat) (gone : Value) (h : Hp)  (K : Value → Hp → Prop) : table_Table_Batch_b7 t deletes deletesL deletesC inserts insertsL insertsC gone h  K = (
  New h (.map #[] 0) fun b2 h6 =>
  LoopVC ((0, ()) : Int × Unit) h6 (fun (nx0 : Int × Unit → Hp → Prop) (s3 : Int × Unit) h7 => table_Table_Batch_b8 s3.1 t deletes deletesL deletesC inserts insertsL insertsC gone (.map (some b2)) inserts insertsL insertsC (insertsL : Int) h7 nx0 K)) := by kernel_rfl
theorem table_Table_Batch_b8_eq (t59 : Int) (t : Option Addr) (deletes : Option Addr) (deletesL : Nat) (deletesC : Nat) (inserts : Option Addr) (insertsL : Nat) (insertsC : Nat) (gone : Value) (keys : Value) (t57 : Option Addr) (t57L : Nat) (t57C : Nat) (t58 : Int) (h : Hp) (nx0 : Int × Unit → Hp → Prop) (K : Value → Hp → Prop) : table_Table_Batch_b8 t59 t deletes deletesL deletesC inserts insertsL insertsC gone keys t57 t57L t57C t58 h nx0 K = (
  cond (decide (t59 < t58))
  ((0 ≤ t59 ∧ t59 < (t57L : Int)) ∧
  NN t57 fun a4 =>
  ∃ n3 : Int, ∃ n4 : Int, ∃ n5 : Int, ∃ n6 : Int, ∃ s4 : ByteArray, cell h (a4.add (Int.toNat t59 * 5)) = some (.int .i64 n3) ∧
  cell h ((a4.add (Int.toNat t59 * 5)).add 1) = some (.int .i64 n4) ∧
  cell h ((a4.add (Int.toNat t59 * 5)).add 2) = some (.int .i64 n5) ∧
  cell h ((a4.add (Int.toNat t59 * 5)).add 3) = some (.int .i64 n6) ∧
  cell h ((a4.add (Int.toNat t59 * 5)).add 4) = some (.string s4) ∧
  New h (.cells #[.int .i64 0, .int .i64 0, .int .i64 0, .int .i64 0, .string (⟨#[]⟩ : ByteArray)] 49) fun b3 h8 =>
  Wr h8 ⟨b3, 0, none⟩ (.int .i64 n3) fun h9 =>
  Wr h9 ((⟨b3, 0, none⟩ : Addr).add 1) (.int .i64 n4) fun h10 =>
  Wr h10 ((⟨b3, 0, none⟩ : Addr).add 2) (.int .i64 n5) fun h11 =>
  Wr h11 ((⟨b3, 0, none⟩ : Addr).add 3) (.int .i64 n6) fun h12 =>
  Wr h12 ((⟨b3, 0, none⟩ : Addr).add 4) (.string s4) fun h13 =>
  NN t fun a5 =>
  ∃ v5 : Value, cell h13 (a5.add 1) = some (v5) ∧
  ∃ n7 : Int, cell h13 ⟨b3, 0, none⟩ = some (.int .i64 n7) ∧
  lookV Tryz.prog 79 v5 (.int .i64 n7) true h13 fun v6 => ∃ r4 : Int, ∃ r5 : Bool, v6 = .tuple #[.int .i64 r4, .bool r5] ∧
  cond r5
  (lookV Tryz.prog 80 gone (.int .i64 r4) false h13 fun v7 => ∃ r6 : Bool, v7 = .bool r6 ∧
  cond (!r6)
  (K (.tuple #[.slice none 0 0, .int .i64 15]) h13)
  (∃ n8 : Int, cell h13 ⟨b3, 0, none⟩ = some (.int .i64 n8) ∧
  lookV Tryz.prog 80 keys (.int .i64 n8) false h13 fun v8 => ∃ r7 : Bool, v8 = .bool r7 ∧
  cond r7
  (K (.tuple #[.slice none 0 0, .int .i64 15]) h13)
  (table_Table_Batch_b9 t deletes deletesL deletesC inserts insertsL insertsC gone keys (some ⟨b3, 0, none⟩) t57 t57L t57C t58 t59 h13 nx0 K)))
  (∃ n9 : Int, cell h13 ⟨b3, 0, none⟩ = some (.int .i64 n9) ∧
  lookV Tryz.prog 80 keys (.int .i64 n9) false h13 fun v9 => ∃ r8 : Bool, v9 = .bool r8 ∧
  cond r8
  (K (.tuple #[.slice none 0 0, .int .i64 15]) h13)
  (table_Table_Batch_b9 t deletes deletesL deletesC inserts insertsL insertsC gone keys (some ⟨b3, 0, none⟩) t57 t57L t57C t58 t59 h13 nx0 K)))
  (table_Table_Batch_b10 t deletes deletesL deletesC inserts insertsL insertsC h  K)) := by kernel_rfl
theorem table_Table_Batch_b9_eq (t : Option Addr) (deletes : Option Addr) (deletesL : Nat) (deletesC : Nat) (inserts : Option Addr) (insertsL : Nat) (insertsC : Nat) (gone : Value) (keys : Value) (r : Option Addr) (t57 : Option Addr) (t57L : Nat) (t57C : Nat) (t58 : Int) (t59 : Int) (h : Hp) (nx0 : Int × Unit → Hp → Prop) (K : Value → Hp → Prop) : table_Table_Batch_b9 t deletes deletesL deletesC inserts insertsL insertsC gone keys r t57 t57L t57C t58 t59 h nx0 K = (
  NN r fun a6 =>
  ∃ n10 : Int, cell h a6 = some (.int .i64 n10) ∧
  mapSetV Tryz.prog 80 keys (.int .i64 n10) (.bool true) h fun h14 =>
  table_Table_Batch_b11 t deletes deletesL deletesC inserts insertsL insertsC gone keys t57 t57L t57C t58 t59 h14 nx0 K) := by kernel_rfl
theorem table_Table_Batch_b10_eq (t : Option Addr) (deletes : Option Addr) (deletesL : Nat) (deletesC : Nat) (inserts : Option Addr) (insertsL : Nat) (insertsC : Nat) (h : Hp)  (K : Value → Hp → Prop) : table_Table_Batch_b10 t deletes deletesL deletesC inserts insertsL insertsC h  K = (
  NN t fun a7 =>
  ∃ v10 : Value, cell h a7 = some (v10) ∧
  mapLenV v10 h fun n11 =>
  InR (n11 - (deletesL : Int)) ∧
  InR ((n11 - (deletesL : Int)) + (insertsL : Int)) ∧
  cond (decide ((1000 : Int) < ((n11 - (deletesL : Int)) + (insertsL : Int))))
  (K (.tuple #[.slice none 0 0, .int .i64 4]) h)
  (LoopVC ((0, ()) : Int × Unit) h (fun (nx0 : Int × Unit → Hp → Prop) (s5 : Int × Unit) h15 => table_Table_Batch_b12 s5.1 t inserts insertsL insertsC deletes deletesL deletesC (deletesL : Int) h15 nx0 K))) := by kernel_rfl
theorem table_Table_Batch_b11_eq (t : Option Addr) (deletes : Option Addr) (deletesL : Nat) (deletesC : Nat) (inserts : Option Addr) (insertsL : Nat) (insertsC : Nat) (gone : Value) (keys : Value) (t57 : Option Addr) (t57L : Nat) (t57C : Nat) (t58 : Int) (t59 : Int) (h : Hp) (nx0 : Int × Unit → Hp → Prop) (K : Value → Hp → Prop) : table_Table_Batch_b11 t deletes deletesL deletesC inserts insertsL insertsC gone keys t57 t57L t57C t58 t59 h nx0 K = (
  InR (t59 + 1) ∧
  nx0 (t59 + 1, ()) h) := by kernel_rfl
theorem table_Table_Batch_b12_eq (t104 : Int) (t : Option Addr) (inserts : Option Addr) (insertsL : Nat) (insertsC : Nat) (t102 : Option Addr) (t102L : Nat) (t102C : Nat) (t103 : Int) (h : Hp) (nx0 : Int × Unit → Hp → Prop) (K : Value → Hp → Prop) : table_Table_Batch_b12 t104 t inserts insertsL insertsC t102 t102L t102C t103 h nx0 K = (
  cond (decide (t104 < t103))
  ((0 ≤ t104 ∧ t104 < (t102L : Int)) ∧
  NN t102 fun a8 =>
  ∃ n12 : Int, cell h (a8.add (Int.toNat t104 * 1)) = some (.int .i64 n12) ∧
  HCalls Tryz.prog 52 #[.pointer t, .int .i64 n12] h fun v11 h16 => v11 = .tuple #[] ∧
  table_Table_Batch_b13 t inserts insertsL insertsC t102 t102L t102C t103 t104 h16 nx0 K)
  (table_Table_Batch_b14 t inserts insertsL insertsC h  K)) := by kernel_rfl
theorem table_Table_Batch_b13_eq (t : Option Addr) (inserts : Option Addr) (insertsL : Nat) (insertsC : Nat) (t102 : Option Addr) (t102L : Nat) (t102C : Nat) (t103 : Int) (t104 : Int) (h : Hp) (nx0 : Int × Unit → Hp → Prop) (K : Value → Hp → Prop) : table_Table_Batch_b13 t inserts insertsL insertsC t102 t102L t102C t103 t104 h nx0 K = (
  InR (t104 + 1) ∧
  nx0 (t104 + 1, ()) h) := by kernel_rfl
theorem table_Table_Batch_b14_eq (t : Option Addr) (inserts : Option Addr) (insertsL : Nat) (insertsC : Nat) (h : Hp)  (K : Value → Hp → Prop) : table_Table_Batch_b14 t inserts insertsL insertsC h  K = (
  LoopVC (((none, 0, 0), 0, ()) : (Option Addr × Nat × Nat) × Int × Unit) h (fun (nx0 : (Option Addr × Nat × Nat) × Int × Unit → Hp → Prop) (s6 : (Option Addr × Nat × Nat) × Int × Unit) h17 => table_Table_Batch_b15 s6.1.1 s6.1.2.1 s6.1.2.2 s6.2.1 t inserts insertsL insertsC (insertsL : Int) h17 nx0 K)) := by kernel_rfl
theorem table_Table_Batch_b15_eq (out : Option Addr) (outL : Nat) (outC : Nat) (t114 : Int) (t : Option Addr) (t112 : Option Addr) (t112L : Nat) (t112C : Nat) (t113 : Int) (h : Hp) (nx0 : (Option Addr × Nat × Nat) × Int × Unit → Hp → Prop) (K : Value → Hp → Prop) : table_Table_Batch_b15 out outL outC t114 t t112 t112L t112C t113 h nx0 K = (
  cond (decide (t114 < t113))
  ((0 ≤ t114 ∧ t114 < (t112L : Int)) ∧
  NN t112 fun a9 =>
  ∃ n13 : Int, ∃ n14 : Int, ∃ n15 : Int, ∃ n16 : Int, ∃ s7 : ByteArray, cell h (a9.add (Int.toNat t114 * 5)) = some (.int .i64 n13) ∧
  cell h ((a9.add (Int.toNat t114 * 5)).add 1) = some (.int .i64 n14) ∧
  cell h ((a9.add (Int.toNat t114 * 5)).add 2) = some (.int .i64 n15) ∧
  cell h ((a9.add (Int.toNat t114 * 5)).add 3) = some (.int .i64 n16) ∧
  cell h ((a9.add (Int.toNat t114 * 5)).add 4) = some (.string s7) ∧
  New h (.cells #[.int .i64 0, .int .i64 0, .int .i64 0, .int .i64 0, .string (⟨#[]⟩ : ByteArray)] 49) fun b4 h18 =>
  Wr h18 ⟨b4, 0, none⟩ (.int .i64 n13) fun h19 =>
  Wr h19 ((⟨b4, 0, none⟩ : Addr).add 1) (.int .i64 n14) fun h20 =>
  Wr h20 ((⟨b4, 0, none⟩ : Addr).add 2) (.int .i64 n15) fun h21 =>
  Wr h21 ((⟨b4, 0, none⟩ : Addr).add 3) (.int .i64 n16) fun h22 =>
  Wr h22 ((⟨b4, 0, none⟩ : Addr).add 4) (.string s7) fun h23 =>
  NN t fun a10 =>
  ∃ n17 : Int, cell h23 (a10.add 2) = some (.int .i64 n17) ∧
  New h23 (.cells #[.int .i64 n17] 3) fun b5 h24 =>
  appendV Tryz.prog 26 26 (.slice out outL outC) (.slice (some ⟨b5, 0, none⟩) 1 1) h24 (slK fun a11 l1 c1 h25 =>
  NN t fun a12 =>
  ∃ n18 : Int, cell h25 (a12.add 2) = some (.int .i64 n18) ∧
  ∃ n19 : Int, ∃ n20 : Int, ∃ n21 : Int, ∃ n22 : Int, ∃ s8 : ByteArray, cell h25 ⟨b4, 0, none⟩ = some (.int .i64 n19) ∧
  cell h25 ((⟨b4, 0, none⟩ : Addr).add 1) = some (.int .i64 n20) ∧
  cell h25 ((⟨b4, 0, none⟩ : Addr).add 2) = some (.int .i64 n21) ∧
  cell h25 ((⟨b4, 0, none⟩ : Addr).add 3) = some (.int .i64 n22) ∧
  cell h25 ((⟨b4, 0, none⟩ : Addr).add 4) = some (.string s8) ∧
  HCalls Tryz.prog 53 #[.pointer t, .int .i64 n18, .agg #[.int .i64 n19, .int .i64 n20, .int .i64 n21, .int .i64 n22, .string s8]] h25 fun v12 h26 => v12 = .tuple #[] ∧
  NN t fun a13 =>
  ∃ n23 : Int, cell h26 (a13.add 2) = some (.int .i64 n23) ∧
  InR (n23 + 1) ∧
  NN t fun a14 =>
  Wr h26 (a14.add 2) (.int .i64 (n23 + 1)) fun h27 =>
  table_Table_Batch_b16 t a11 l1 c1 t112 t112L t112C t113 t114 h27 nx0 K))
  (table_Table_Batch_b17 t out outL outC h  K)) := by kernel_rfl
theorem table_Table_Batch_b16_eq (t : Option Addr) (out : Option Addr) (outL : Nat) (outC : Nat) (t112 : Option Addr) (t112L : Nat) (t112C : Nat) (t113 : Int) (t114 : Int) (h : Hp) (nx0 : (Option Addr × Nat × Nat) × Int × Unit → Hp → Prop) (K : Value → Hp → Prop) : table_Table_Batch_b16 t out outL outC t112 t112L t112C t113 t114 h nx0 K = (
  InR (t114 + 1) ∧
  nx0 ((out, outL, outC), t114 + 1, ()) h) := by kernel_rfl
theorem table_Table_Batch_b17_eq (t : Option Addr) (out : Option Addr) (outL : Nat) (outC : Nat) (h : Hp)  (K : Value → Hp → Prop) : table_Table_Batch_b17 t out outL outC h  K = (
  HCalls Tryz.prog 54 #[.pointer t] h fun v13 h28 => v13 = .tuple #[] ∧
  K (.tuple #[.slice out outL outC, .int .i64 0]) h28) := by kernel_rfl
theorem table_Table_Batch_call {t : Option Addr} {deletes : Option Addr} {deletesL : Nat} {deletesC : Nat} {inserts : Option Addr} {insertsL : Nat} {insertsC : Nat} {h : Hp} {K : Value → Hp → Prop} (hk : table_Table_Batch_b0 t deletes deletesL deletesC inserts insertsL insertsC h K) : HCalls Tryz.prog 22 #[.pointer t, .slice deletes deletesL deletesC, .slice inserts insertsL insertsC] h K :=
  calls_of_snd table_Table_Batch_an Tryz.func22 (c := bodyOf Tryz.f22) rfl Tryz.ntmps22 (Nat.le_of_ble_eq_true rfl) (snd_8 F_ok F_mixed) hk

/-! ### table_Table_Join -/
def table_Table_Join_an : Ann := .node none (.leaf) (.node (some [0, 1]) (.leaf) (.node none (.leaf) (.node none (.leaf) (.node none (.leaf) (.node (some [8]) (.node none (.leaf) (.loop [0, 1, 27, 28] [(8, .slice), (29, .int .i64)] (.node none (.leaf) (.node none (.leaf) (.node (some [0, 1, 8, 27, 28, 29]) (.node none (.leaf) (.node none (.plan (.qu 0 (.qu 1 (.qu 2 (.qu 3 (.qu 4 (.qu 5 (.qu 6 (.qu 7 (.qu 8 (.wo 9 (.qu 10 (.qu 11 (.qu 12 (.wo 13 (.qu 14 (.qu 15 (.qu 16 (.wo 17 (.wo 18 .fin .no) .no)))) .no)))) .no))))))))))) (.leaf))) (.leaf)))))) (.leaf))))))
def table_Table_Join_K0  (K : Value → Hp → Prop) : Exit → Env → Hp → Prop := retK Tryz.prog Tryz.f23.results.toList K
def table_Table_Join_b0 (t : Option Addr) (u : Option Addr) (h : Hp)  (K : Value → Hp → Prop) : Prop :=
  sx_4 Tryz.prog F 59 (cp [] (bodyOf Tryz.f23)) (ap [] table_Table_Join_an) [(0, .pointer t), (1, .pointer u)] h (table_Table_Join_K0  K)
def table_Table_Join_b1 (t : Option Addr) (u : Option Addr) (h : Hp)  (K : Value → Hp → Prop) : Prop :=
  sx_3 Tryz.prog F 59 (cp [1, 1] (bodyOf Tryz.f23)) (ap [1, 1] table_Table_Join_an) [(0, .pointer t), (1, .pointer u)] h (table_Table_Join_K0  K)
theorem table_Table_Join_b0_eq (t : Option Addr) (u : Option Addr) (h : Hp)  (K : Value → Hp → Prop) : table_Table_Join_b0 t u h  K = (
  cond t.isNone
  (K (.tuple #[.slice none 0 0, .int .i64 1]) h)
  (cond u.isNone
  (K (.tuple #[.slice none 0 0, .int .i64 1]) h)
  (table_Table_Join_b1 t u h  K))) := by kernel_rfl
theorem table_Table_Join_call {t : Option Addr} {u : Option Addr} {h : Hp} {K : Value → Hp → Prop} (hk : table_Table_Join_b0 t u h K) : HCalls Tryz.prog 23 #[.pointer t, .pointer u] h K :=
  calls_of_snd table_Table_Join_an Tryz.func23 (c := bodyOf Tryz.f23) rfl Tryz.ntmps23 (Nat.le_of_ble_eq_true rfl) (snd_4 F_ok F_mixed) hk

/-! ### table_New -/
def table_New_an : Ann := .leaf
def table_New_K0  (K : Value → Hp → Prop) : Exit → Env → Hp → Prop := retK Tryz.prog Tryz.f24.results.toList K
def table_New_b0  (h : Hp)  (K : Value → Hp → Prop) : Prop :=
  sx_1 Tryz.prog F 7 (cp [] (bodyOf Tryz.f24)) (ap [] table_New_an) [] h (table_New_K0  K)
theorem table_New_b0_eq  (h : Hp)  (K : Value → Hp → Prop) : table_New_b0  h  K = (
  New h (.map #[] 0) fun b1 h1 =>
  New h1 (.map #[] 0) fun b2 h2 =>
  New h2 (.map #[] 0) fun b3 h3 =>
  New h3 (.cells #[.map (some b1), .map (some b2), .int .i64 0, .slice none 0 0, .slice none 0 0, .slice none 0 0, .map (some b3)] 84) fun b4 h4 =>
  K (.pointer (some ⟨b4, 0, none⟩)) h4) := by kernel_rfl
theorem table_New_call  {h : Hp} {K : Value → Hp → Prop} (hk : table_New_b0  h K) : HCalls Tryz.prog 24 #[] h K :=
  calls_of_snd table_New_an Tryz.func24 (c := bodyOf Tryz.f24) rfl Tryz.ntmps24 (Nat.le_of_ble_eq_true rfl) (snd_1 F_ok F_mixed) hk

/-! ### slices_Equal_Sapi_Errno_api_Errno -/
def slices_Equal_Sapi_Errno_api_Errno_an : Ann := .node none (.leaf) (.node none (.leaf) (.node (some []) (.node none (.leaf) (.loop [0, 1, 12] [(13, .int .i64)] (.node none (.leaf) (.node none (.leaf) (.node (some [0, 1, 12, 13]) (.leaf) (.leaf)))))) (.leaf)))
def slices_Equal_Sapi_Errno_api_Errno_K0  (K : Value → Hp → Prop) : Exit → Env → Hp → Prop := retK Tryz.prog Tryz.f25.results.toList K
def slices_Equal_Sapi_Errno_api_Errno_K1  (K : Value → Hp → Prop) : Exit → Env → Hp → Prop := thenE (fun env h => sx_2 Tryz.prog F 26 (cp [1, 1, 1] (bodyOf Tryz.f25)) (ap [1, 1, 1] slices_Equal_Sapi_Errno_api_Errno_an) (rs [] env) h (slices_Equal_Sapi_Errno_api_Errno_K0  K)) (slices_Equal_Sapi_Errno_api_Errno_K0  K)
def slices_Equal_Sapi_Errno_api_Errno_K2  (K : Value → Hp → Prop) : Exit → Env → Hp → Prop := blockE 0 (slices_Equal_Sapi_Errno_api_Errno_K1  K)
def slices_Equal_Sapi_Errno_api_Errno_K3 (nx0 : Int × Unit → Hp → Prop) (K : Value → Hp → Prop) : Exit → Env → Hp → Prop := thenE (fun env h => getV [(13, .int .i64)] env fun s => nx0 s h) (slices_Equal_Sapi_Errno_api_Errno_K2  K)
def slices_Equal_Sapi_Errno_api_Errno_b0 (s1 : Option Addr) (s1L : Nat) (s1C : Nat) (s2 : Option Addr) (s2L : Nat) (s2C : Nat) (h : Hp)  (K : Value → Hp → Prop) : Prop :=
  sx_3 Tryz.prog F 26 (cp [] (bodyOf Tryz.f25)) (ap [] slices_Equal_Sapi_Errno_api_Errno_an) [(0, .slice s1 s1L s1C), (1, .slice s2 s2L s2C)] h (slices_Equal_Sapi_Errno_api_Errno_K0  K)
def slices_Equal_Sapi_Errno_api_Errno_b1 (t13 : Int) (s1 : Option Addr) (s1L : Nat) (s1C : Nat) (s2 : Option Addr) (s2L : Nat) (s2C : Nat) (t12 : Int) (h : Hp) (nx0 : Int × Unit → Hp → Prop) (K : Value → Hp → Prop) : Prop :=
  sx_2 Tryz.prog F 26 (cp [1, 1, 0, 1, 2, 2] (bodyOf Tryz.f25)) (ap [1, 1, 0, 1, 2] slices_Equal_Sapi_Errno_api_Errno_an) [(13, .int .i64 t13), (0, .slice s1 s1L s1C), (1, .slice s2 s2L s2C), (12, .int .i64 t12)] h (slices_Equal_Sapi_Errno_api_Errno_K3 nx0 K)
def slices_Equal_Sapi_Errno_api_Errno_b2 (s1 : Option Addr) (s1L : Nat) (s1C : Nat) (s2 : Option Addr) (s2L : Nat) (s2C : Nat) (t12 : Int) (t13 : Int) (h : Hp) (nx0 : Int × Unit → Hp → Prop) (K : Value → Hp → Prop) : Prop :=
  sx_1 Tryz.prog F 26 (cp [1, 1, 0, 1, 2, 2, 1, 1, 1] (bodyOf Tryz.f25)) (ap [1, 1, 0, 1, 2, 1, 1, 1] slices_Equal_Sapi_Errno_api_Errno_an) [(0, .slice s1 s1L s1C), (1, .slice s2 s2L s2C), (12, .int .i64 t12), (13, .int .i64 t13)] h (slices_Equal_Sapi_Errno_api_Errno_K3 nx0 K)
def slices_Equal_Sapi_Errno_api_Errno_b3  (h : Hp)  (K : Value → Hp → Prop) : Prop :=
  sx_2 Tryz.prog F 26 (cp [1, 1, 1] (bodyOf Tryz.f25)) (ap [1, 1, 1] slices_Equal_Sapi_Errno_api_Errno_an) [] h (slices_Equal_Sapi_Errno_api_Errno_K0  K)
theorem slices_Equal_Sapi_Errno_api_Errno_b0_eq (s1 : Option Addr) (s1L : Nat) (s1C : Nat) (s2 : Option Addr) (s2L : Nat) (s2C : Nat) (h : Hp)  (K : Value → Hp → Prop) : slices_Equal_Sapi_Errno_api_Errno_b0 s1 s1L s1C s2 s2L s2C h  K = (
  cond (!decide ((s1L : Int) = (s2L : Int)))
  (K (.bool false) h)
  (LoopVC ((0, ()) : Int × Unit) h (fun (nx0 : Int × Unit → Hp → Prop) (s3 : Int × Unit) h1 => slices_Equal_Sapi_Errno_api_Errno_b1 s3.1 s1 s1L s1C s2 s2L s2C (s1L : Int) h1 nx0 K))) := by kernel_rfl
theorem slices_Equal_Sapi_Errno_api_Errno_b1_eq (t13 : Int) (s1 : Option Addr) (s1L : Nat) (s1C : Nat) (s2 : Option Addr) (s2L : Nat) (s2C : Nat) (t12 : Int) (h : Hp) (nx0 : Int × Unit → Hp → Prop) (K : Value → Hp → Prop) : slices_Equal_Sapi_Errno_api_Errno_b1 t13 s1 s1L s1C s2 s2L s2C t12 h nx0 K = (
  cond (decide (t13 < t12))
  ((0 ≤ t13 ∧ t13 < (s1L : Int)) ∧
  NN s1 fun a1 =>
  ∃ n1 : Int, cell h (a1.add (Int.toNat t13 * 1)) = some (.int .i64 n1) ∧
  (0 ≤ t13 ∧ t13 < (s2L : Int)) ∧
  NN s2 fun a2 =>
  ∃ n2 : Int, cell h (a2.add (Int.toNat t13 * 1)) = some (.int .i64 n2) ∧
  cond (!decide (n1 = n2))
  (K (.bool false) h)
  (slices_Equal_Sapi_Errno_api_Errno_b2 s1 s1L s1C s2 s2L s2C t12 t13 h nx0 K))
  (slices_Equal_Sapi_Errno_api_Errno_b3  h  K)) := by kernel_rfl
theorem slices_Equal_Sapi_Errno_api_Errno_b2_eq (s1 : Option Addr) (s1L : Nat) (s1C : Nat) (s2 : Option Addr) (s2L : Nat) (s2C : Nat) (t12 : Int) (t13 : Int) (h : Hp) (nx0 : Int × Unit → Hp → Prop) (K : Value → Hp → Prop) : slices_Equal_Sapi_Errno_api_Errno_b2 s1 s1L s1C s2 s2L s2C t12 t13 h nx0 K = (
  InR (t13 + 1) ∧
  nx0 (t13 + 1, ()) h) := by kernel_rfl
theorem slices_Equal_Sapi_Errno_api_Errno_b3_eq  (h : Hp)  (K : Value → Hp → Prop) : slices_Equal_Sapi_Errno_api_Errno_b3  h  K = (
  K (.bool true) h) := by kernel_rfl
theorem slices_Equal_Sapi_Errno_api_Errno_call {s1 : Option Addr} {s1L : Nat} {s1C : Nat} {s2 : Option Addr} {s2L : Nat} {s2C : Nat} {h : Hp} {K : Value → Hp → Prop} (hk : slices_Equal_Sapi_Errno_api_Errno_b0 s1 s1L s1C s2 s2L s2C h K) : HCalls Tryz.prog 25 #[.slice s1 s1L s1C, .slice s2 s2L s2C] h K :=
  calls_of_snd slices_Equal_Sapi_Errno_api_Errno_an Tryz.func25 (c := bodyOf Tryz.f25) rfl Tryz.ntmps25 (Nat.le_of_ble_eq_true rfl) (snd_3 F_ok F_mixed) hk

/-! ### table_Table_Delete -/
def table_Table_Delete_an : Ann := .node none (.leaf) (.node (some [0, 1]) (.leaf) (.leaf))
def table_Table_Delete_K0  (K : Value → Hp → Prop) : Exit → Env → Hp → Prop := retK Tryz.prog Tryz.f26.results.toList K
def table_Table_Delete_b0 (t : Option Addr) (id : Int) (h : Hp)  (K : Value → Hp → Prop) : Prop :=
  sx_2 Tryz.prog F 21 (cp [] (bodyOf Tryz.f26)) (ap [] table_Table_Delete_an) [(0, .pointer t), (1, .int .i64 id)] h (table_Table_Delete_K0  K)
def table_Table_Delete_b1 (t : Option Addr) (id : Int) (h : Hp)  (K : Value → Hp → Prop) : Prop :=
  sx_1 Tryz.prog F 21 (cp [1, 1] (bodyOf Tryz.f26)) (ap [1, 1] table_Table_Delete_an) [(0, .pointer t), (1, .int .i64 id)] h (table_Table_Delete_K0  K)
theorem table_Table_Delete_b0_eq (t : Option Addr) (id : Int) (h : Hp)  (K : Value → Hp → Prop) : table_Table_Delete_b0 t id h  K = (
  cond t.isNone
  (K (.int .i64 1) h)
  (NN t fun a1 =>
  ∃ v1 : Value, cell h a1 = some (v1) ∧
  lookV Tryz.prog 78 v1 (.int .i64 id) false h fun v2 => ∃ r1 : Option Addr, v2 = .pointer r1 ∧
  cond r1.isNone
  (K (.int .i64 12) h)
  (table_Table_Delete_b1 t id h  K))) := by kernel_rfl
theorem table_Table_Delete_b1_eq (t : Option Addr) (id : Int) (h : Hp)  (K : Value → Hp → Prop) : table_Table_Delete_b1 t id h  K = (
  HCalls Tryz.prog 52 #[.pointer t, .int .i64 id] h fun v3 h1 => v3 = .tuple #[] ∧
  HCalls Tryz.prog 54 #[.pointer t] h1 fun v4 h2 => v4 = .tuple #[] ∧
  K (.int .i64 0) h2) := by kernel_rfl
theorem table_Table_Delete_call {t : Option Addr} {id : Int} {h : Hp} {K : Value → Hp → Prop} (hk : table_Table_Delete_b0 t id h K) : HCalls Tryz.prog 26 #[.pointer t, .int .i64 id] h K :=
  calls_of_snd table_Table_Delete_an Tryz.func26 (c := bodyOf Tryz.f26) rfl Tryz.ntmps26 (Nat.le_of_ble_eq_true rfl) (snd_2 F_ok F_mixed) hk

/-! ### slices_Repeat_Sapi_Errno_api_Errno -/
def slices_Repeat_Sapi_Errno_api_Errno_an : Ann := .node none (.leaf) (.node (some [0, 1]) (.leaf) (.node none (.leaf) (.node (some [0, 6]) (.leaf) (.node none (.leaf) (.node none (.leaf) (.node (some [7]) (.loop [7] [(8, .int .i64)] (.node none (.leaf) (.plan (.qu 0 (.qu 1 (.qu 2 (.qu 3 (.qu 4 (.qu 5 (.qu 6 (.wo 7 (.qu 8 (.wo 9 .fin .no)) .no))))))))))) (.leaf)))))))
def slices_Repeat_Sapi_Errno_api_Errno_K0  (K : Value → Hp → Prop) : Exit → Env → Hp → Prop := retK Tryz.prog Tryz.f27.results.toList K
def slices_Repeat_Sapi_Errno_api_Errno_K1  (K : Value → Hp → Prop) : Exit → Env → Hp → Prop := thenE (fun env h => sx_1 Tryz.prog F 48 (cp [1, 1, 1, 1, 1, 1, 1] (bodyOf Tryz.f27)) (ap [1, 1, 1, 1, 1, 1, 1] slices_Repeat_Sapi_Errno_api_Errno_an) (rs [7] env) h (slices_Repeat_Sapi_Errno_api_Errno_K0  K)) (slices_Repeat_Sapi_Errno_api_Errno_K0  K)
def slices_Repeat_Sapi_Errno_api_Errno_K2  (K : Value → Hp → Prop) : Exit → Env → Hp → Prop := blockE 0 (slices_Repeat_Sapi_Errno_api_Errno_K1  K)
def slices_Repeat_Sapi_Errno_api_Errno_K3 (nx0 : Int × Unit → Hp → Prop) (K : Value → Hp → Prop) : Exit → Env → Hp → Prop := thenE (fun env h => getV [(8, .int .i64)] env fun s => nx0 s h) (slices_Repeat_Sapi_Errno_api_Errno_K2  K)
def slices_Repeat_Sapi_Errno_api_Errno_b0 (x : Option Addr) (xL : Nat) (xC : Nat) (count : Int) (h : Hp)  (K : Value → Hp → Prop) : Prop :=
  sx_4 Tryz.prog F 48 (cp [] (bodyOf Tryz.f27)) (ap [] slices_Repeat_Sapi_Errno_api_Errno_an) [(0, .slice x xL xC), (1, .int .i64 count)] h (slices_Repeat_Sapi_Errno_api_Errno_K0  K)
def slices_Repeat_Sapi_Errno_api_Errno_b1 (x : Option Addr) (xL : Nat) (xC : Nat) (count : Int) (h : Hp)  (K : Value → Hp → Prop) : Prop :=
  sx_3 Tryz.prog F 48 (cp [1, 1] (bodyOf Tryz.f27)) (ap [1, 1] slices_Repeat_Sapi_Errno_api_Errno_an) [(0, .slice x xL xC), (1, .int .i64 count)] h (slices_Repeat_Sapi_Errno_api_Errno_K0  K)
def slices_Repeat_Sapi_Errno_api_Errno_b2 (x : Option Addr) (xL : Nat) (xC : Nat) (lo : Int) (h : Hp)  (K : Value → Hp → Prop) : Prop :=
  sx_2 Tryz.prog F 48 (cp [1, 1, 1, 1] (bodyOf Tryz.f27)) (ap [1, 1, 1, 1] slices_Repeat_Sapi_Errno_api_Errno_an) [(0, .slice x xL xC), (6, .int .u64 lo)] h (slices_Repeat_Sapi_Errno_api_Errno_K0  K)
def slices_Repeat_Sapi_Errno_api_Errno_b3 (nv : Int) (newslice : Option Addr) (newsliceL : Nat) (newsliceC : Nat) (h : Hp) (nx0 : Int × Unit → Hp → Prop) (K : Value → Hp → Prop) : Prop :=
  sx_1 Tryz.prog F 48 (cp [1, 1, 1, 1, 1, 1, 0, 2, 2] (bodyOf Tryz.f27)) (ap [1, 1, 1, 1, 1, 1, 0, 2] slices_Repeat_Sapi_Errno_api_Errno_an) [(8, .int .i64 nv), (7, .slice newslice newsliceL newsliceC)] h (slices_Repeat_Sapi_Errno_api_Errno_K3 nx0 K)
def slices_Repeat_Sapi_Errno_api_Errno_b4 (newslice : Option Addr) (newsliceL : Nat) (newsliceC : Nat) (h : Hp)  (K : Value → Hp → Prop) : Prop :=
  sx_1 Tryz.prog F 48 (cp [1, 1, 1, 1, 1, 1, 1] (bodyOf Tryz.f27)) (ap [1, 1, 1, 1, 1, 1, 1] slices_Repeat_Sapi_Errno_api_Errno_an) [(7, .slice newslice newsliceL newsliceC)] h (slices_Repeat_Sapi_Errno_api_Errno_K0  K)
theorem slices_Repeat_Sapi_Errno_api_Errno_b0_eq (x : Option Addr) (xL : Nat) (xC : Nat) (count : Int) (h : Hp)  (K : Value → Hp → Prop) : slices_Repeat_Sapi_Errno_api_Errno_b0 x xL xC count h  K = (
  cond (decide (count < 0))
  (hw Tryz.prog (Instr.makeInterface 9 (.string (⟨#[99, 97, 110, 110, 111, 116, 32, 98, 101, 32, 110, 101, 103, 97, 116, 105, 118, 101]⟩ : ByteArray))) h fun v1 h1 =>
  False)
  (slices_Repeat_Sapi_Errno_api_Errno_b1 x xL xC count h  K)) := by kernel_rfl
theorem slices_Repeat_Sapi_Errno_api_Errno_b1_eq (x : Option Addr) (xL : Nat) (xC : Nat) (count : Int) (h : Hp)  (K : Value → Hp → Prop) : slices_Repeat_Sapi_Errno_api_Errno_b1 x xL xC count h  K = (
  HCalls Tryz.prog 56 #[.int .u64 (IntKind.u64.wrap (xL : Int)), .int .u64 (IntKind.u64.wrap count)] h fun v2 h2 => ∃ r1 : Int, ∃ r2 : Int, v2 = .tuple #[.int .u64 r1, .int .u64 r2] ∧
  cond (decide ((0 : Int) < r1))
  (hw Tryz.prog (Instr.makeInterface 9 (.string (⟨#[116, 104, 101, 32, 114, 101, 115, 117, 108, 116, 32, 111, 102, 32, 40, 108, 101, 110, 40, 120, 41, 32, 42, 32, 99, 111, 117, 110, 116, 41, 32, 111, 118, 101, 114, 102, 108, 111, 119, 115]⟩ : ByteArray))) h2 fun v3 h3 =>
  False)
  (cond (decide ((9223372036854775807 : Int) < r2))
  (hw Tryz.prog (Instr.makeInterface 9 (.string (⟨#[116, 104, 101, 32, 114, 101, 115, 117, 108, 116, 32, 111, 102, 32, 40, 108, 101, 110, 40, 120, 41, 32, 42, 32, 99, 111, 117, 110, 116, 41, 32, 111, 118, 101, 114, 102, 108, 111, 119, 115]⟩ : ByteArray))) h2 fun v4 h4 =>
  False)
  (slices_Repeat_Sapi_Errno_api_Errno_b2 x xL xC r2 h2  K))) := by kernel_rfl
theorem slices_Repeat_Sapi_Errno_api_Errno_b2_eq (x : Option Addr) (xL : Nat) (xC : Nat) (lo : Int) (h : Hp)  (K : Value → Hp → Prop) : slices_Repeat_Sapi_Errno_api_Errno_b2 x xL xC lo h  K = (
  InR lo ∧
  (0 ≤ lo ∧ lo ≤ lo ∧ lo ≤ 281474976710656 ∧ lo * ((8 : Nat) : Int) ≤ 281474976710656) ∧
  New h (.cells (repL (Int.toNat lo * 1) [.int .i64 0]).toArray 33) fun b1 h5 =>
  copyV Tryz.prog 41 (.slice (some ⟨b1, 0, none⟩) (Int.toNat lo) (Int.toNat lo)) (.slice x xL xC) h5 fun v5 h6 => ∃ n1 : Int, v5 = .int .i64 n1 ∧
  LoopVC ((n1, ()) : Int × Unit) h6 (fun (nx0 : Int × Unit → Hp → Prop) (s1 : Int × Unit) h7 => slices_Repeat_Sapi_Errno_api_Errno_b3 s1.1 (some ⟨b1, 0, none⟩) (Int.toNat lo) (Int.toNat lo) h7 nx0 K)) := by kernel_rfl
theorem slices_Repeat_Sapi_Errno_api_Errno_b3_eq (nv : Int) (newslice : Option Addr) (newsliceL : Nat) (newsliceC : Nat) (h : Hp) (nx0 : Int × Unit → Hp → Prop) (K : Value → Hp → Prop) : slices_Repeat_Sapi_Errno_api_Errno_b3 nv newslice newsliceL newsliceC h nx0 K = (
  cond (decide (nv < (newsliceL : Int)))
  ((0 ≤ nv ∧ nv ≤ (newsliceL : Int) ∧ (newsliceL : Int) ≤ (newsliceC : Int)) ∧
  (0 ≤ (0 : Int) ∧ (0 : Int) ≤ nv ∧ nv ≤ (newsliceC : Int)) ∧
  copyV Tryz.prog 41 (.slice (subAddr newslice newsliceC (Int.toNat nv) 1) (Int.toNat (newsliceL : Int) - Int.toNat nv) (newsliceC - Int.toNat nv)) (.slice (subAddr newslice newsliceC (Int.toNat (0 : Int)) 1) (Int.toNat nv - Int.toNat (0 : Int)) (newsliceC - Int.toNat (0 : Int))) h fun v6 h8 => ∃ n2 : Int, v6 = .int .i64 n2 ∧
  InR (nv + n2) ∧
  nx0 (nv + n2, ()) h8)
  (slices_Repeat_Sapi_Errno_api_Errno_b4 newslice newsliceL newsliceC h  K)) := by kernel_rfl
theorem slices_Repeat_Sapi_Errno_api_Errno_b4_eq (newslice : Option Addr) (newsliceL : Nat) (newsliceC : Nat) (h : Hp)  (K : Value → Hp → Prop) : slices_Repeat_Sapi_Errno_api_Errno_b4 newslice newsliceL newsliceC h  K = (
  K (.slice newslice newsliceL newsliceC) h) := by kernel_rfl
theorem slices_Repeat_Sapi_Errno_api_Errno_call {x : Option Addr} {xL : Nat} {xC : Nat} {count : Int} {h : Hp} {K : Value → Hp → Prop} (hk : slices_Repeat_Sapi_Errno_api_Errno_b0 x xL xC count h K) : HCalls Tryz.prog 27 #[.slice x xL xC, .int .i64 count] h K :=
  calls_of_snd slices_Repeat_Sapi_Errno_api_Errno_an Tryz.func27 (c := bodyOf Tryz.f27) rfl Tryz.ntmps27 (Nat.le_of_ble_eq_true rfl) (snd_4 F_ok F_mixed) hk

/-! ### table_Table_Len -/
def table_Table_Len_an : Ann := .leaf
def table_Table_Len_K0  (K : Value → Hp → Prop) : Exit → Env → Hp → Prop := retK Tryz.prog Tryz.f28.results.toList K
def table_Table_Len_b0 (t : Option Addr) (h : Hp)  (K : Value → Hp → Prop) : Prop :=
  sx_1 Tryz.prog F 10 (cp [] (bodyOf Tryz.f28)) (ap [] table_Table_Len_an) [(0, .pointer t)] h (table_Table_Len_K0  K)
theorem table_Table_Len_b0_eq (t : Option Addr) (h : Hp)  (K : Value → Hp → Prop) : table_Table_Len_b0 t h  K = (
  cond t.isNone
  (K (.int .i64 0) h)
  (NN t fun a1 =>
  ∃ v1 : Value, cell h a1 = some (v1) ∧
  mapLenV v1 h fun n1 =>
  K (.int .i64 n1) h)) := by kernel_rfl
theorem table_Table_Len_call {t : Option Addr} {h : Hp} {K : Value → Hp → Prop} (hk : table_Table_Len_b0 t h K) : HCalls Tryz.prog 28 #[.pointer t] h K :=
  calls_of_snd table_Table_Len_an Tryz.func28 (c := bodyOf Tryz.f28) rfl Tryz.ntmps28 (Nat.le_of_ble_eq_true rfl) (snd_1 F_ok F_mixed) hk

/-! ### r50_ByKey -/
def r50_ByKey_an : Ann := .node none (.leaf) (.node none (.leaf) (.node (some [3, 7]) (.node none (.leaf) (.loop [1, 2, 3] [(7, .slice), (8, .int .i64)] (.node none (.leaf) (.node (some [1, 2, 3, 7, 8]) (.node (some [1, 2, 3, 7, 8]) (.leaf) (.node none (.leaf) (.node none (.leaf) (.loop [1, 2, 3, 7, 8] [(9, .int .i64)] (.node (some [1, 2, 3, 7, 8, 9]) (.leaf) (.node none (.plan (.qu 0 (.qu 1 (.qu 2 (.qu 3 (.qu 4 (.qu 5 (.qu 6 (.qu 7 (.qu 8 (.qu 9 (.qu 10 (.qu 11 (.qu 12 (.qu 13 (.qu 14 (.wo 15 (.qu 16 (.wo 17 .fin .no)) .no))))))))))))))))) (.leaf))))))) (.leaf))))) (.node none (.leaf) (.node (some [10]) (.node none (.leaf) (.loop [3, 7] [(10, .slice), (11, .int .i64)] (.node none (.leaf) (.node (some [3, 7, 10, 11]) (.plan (.qu 0 (.qu 1 (.qu 2 (.qu 3 (.qu 4 (.qu 5 (.qu 6 (.qu 7 (.qu 8 (.wo 9 (.wo 10 (.wo 11 .fin .no) .no) .no))))))))))) (.leaf))))) (.leaf)))))
def r50_ByKey_K0  (K : Value → Hp → Prop) : Exit → Env → Hp → Prop := retK Tryz.prog Tryz.f29.results.toList K
def r50_ByKey_K1  (K : Value → Hp → Prop) : Exit → Env → Hp → Prop := thenE (fun env h => sx_4 Tryz.prog F 103 (cp [1, 1, 1] (bodyOf Tryz.f29)) (ap [1, 1, 1] r50_ByKey_an) (rs [3, 7] env) h (r50_ByKey_K0  K)) (r50_ByKey_K0  K)
def r50_ByKey_K2  (K : Value → Hp → Prop) : Exit → Env → Hp → Prop := blockE 0 (r50_ByKey_K1  K)
def r50_ByKey_K3 (nx0 : (Option Addr × Nat × Nat) × Int × Unit → Hp → Prop) (K : Value → Hp → Prop) : Exit → Env → Hp → Prop := thenE (fun env h => getV [(7, .slice), (8, .int .i64)] env fun s => nx0 s h) (r50_ByKey_K2  K)
def r50_ByKey_K4 (nx0 : (Option Addr × Nat × Nat) × Int × Unit → Hp → Prop) (K : Value → Hp → Prop) : Exit → Env → Hp → Prop := thenE (fun env h => sx_3 Tryz.prog F 103 (cp [1, 1, 0, 1, 2, 2, 1, 1] (bodyOf Tryz.f29)) (ap [1, 1, 0, 1, 2, 1, 1] r50_ByKey_an) (rs [1, 2, 3, 7, 8] env) h (r50_ByKey_K3 nx0 K)) (r50_ByKey_K3 nx0 K)
def r50_ByKey_K5 (nx0 : (Option Addr × Nat × Nat) × Int × Unit → Hp → Prop) (K : Value → Hp → Prop) : Exit → Env → Hp → Prop := blockE 1 (r50_ByKey_K4 nx0 K)
def r50_ByKey_K6 (nx0 : (Option Addr × Nat × Nat) × Int × Unit → Hp → Prop) (K : Value → Hp → Prop) : Exit → Env → Hp → Prop := blockE 2 (r50_ByKey_K5 nx0 K)
def r50_ByKey_K7 (nx0 : (Option Addr × Nat × Nat) × Int × Unit → Hp → Prop) (nx1 : Int × Unit → Hp → Prop) (K : Value → Hp → Prop) : Exit → Env → Hp → Prop := thenE (fun env h => getV [(9, .int .i64)] env fun s => nx1 s h) (r50_ByKey_K6 nx0 K)
def r50_ByKey_K8  (K : Value → Hp → Prop) : Exit → Env → Hp → Prop := thenE (fun env h => sx_3 Tryz.prog F 103 (cp [1, 1, 1, 1, 1] (bodyOf Tryz.f29)) (ap [1, 1, 1, 1, 1] r50_ByKey_an) (rs [10] env) h (r50_ByKey_K0  K)) (r50_ByKey_K0  K)
def r50_ByKey_K9  (K : Value → Hp → Prop) : Exit → Env → Hp → Prop := blockE 4 (r50_ByKey_K8  K)
def r50_ByKey_K10 (nx0 : (Option Addr × Nat × Nat) × Int × Unit → Hp → Prop) (K : Value → Hp → Prop) : Exit → Env → Hp → Prop := thenE (fun env h => getV [(10, .slice), (11, .int .i64)] env fun s => nx0 s h) (r50_ByKey_K9  K)
def r50_ByKey_b0 (t_0 : Option Addr) (t_0L : Nat) (t_0C : Nat) (t_1 : Option Addr) (t_1L : Nat) (t_1C : Nat) (t_2 : Int) (fromv : Int) (to : Int) (h : Hp)  (K : Value → Hp → Prop) : Prop :=
  sx_5 Tryz.prog F 103 (cp [] (bodyOf Tryz.f29)) (ap [] r50_ByKey_an) [(0, .agg #[.slice t_0 t_0L t_0C, .slice t_1 t_1L t_1C, .int .i64 t_2]), (1, .int .i64 fromv), (2, .int .i64 to)] h (r50_ByKey_K0  K)
def r50_ByKey_b1 (atv : Option Addr) (atvL : Nat) (atvC : Nat) (i : Int) (fromv : Int) (to : Int) (t : Option Addr) (h : Hp) (nx0 : (Option Addr × Nat × Nat) × Int × Unit → Hp → Prop) (K : Value → Hp → Prop) : Prop :=
  sx_4 Tryz.prog F 103 (cp [1, 1, 0, 1, 2, 2] (bodyOf Tryz.f29)) (ap [1, 1, 0, 1, 2] r50_ByKey_an) [(7, .slice atv atvL atvC), (8, .int .i64 i), (1, .int .i64 fromv), (2, .int .i64 to), (3, .pointer t)] h (r50_ByKey_K3 nx0 K)
def r50_ByKey_b2 (fromv : Int) (to : Int) (t : Option Addr) (atv : Option Addr) (atvL : Nat) (atvC : Nat) (i : Int) (h : Hp) (nx0 : (Option Addr × Nat × Nat) × Int × Unit → Hp → Prop) (K : Value → Hp → Prop) : Prop :=
  sx_3 Tryz.prog F 103 (cp [1, 1, 0, 1, 2, 2, 1, 1] (bodyOf Tryz.f29)) (ap [1, 1, 0, 1, 2, 1, 1] r50_ByKey_an) [(1, .int .i64 fromv), (2, .int .i64 to), (3, .pointer t), (7, .slice atv atvL atvC), (8, .int .i64 i)] h (r50_ByKey_K3 nx0 K)
def r50_ByKey_b3 (fromv : Int) (to : Int) (t : Option Addr) (atv : Option Addr) (atvL : Nat) (atvC : Nat) (i : Int) (h : Hp) (nx0 : (Option Addr × Nat × Nat) × Int × Unit → Hp → Prop) (K : Value → Hp → Prop) : Prop :=
  sx_3 Tryz.prog F 103 (cp [1, 1, 0, 1, 2, 2, 1, 0, 2, 1] (bodyOf Tryz.f29)) (ap [1, 1, 0, 1, 2, 1, 0, 1] r50_ByKey_an) [(1, .int .i64 fromv), (2, .int .i64 to), (3, .pointer t), (7, .slice atv atvL atvC), (8, .int .i64 i)] h (r50_ByKey_K5 nx0 K)
def r50_ByKey_b4 (t : Option Addr) (atv : Option Addr) (atvL : Nat) (atvC : Nat) (h : Hp)  (K : Value → Hp → Prop) : Prop :=
  sx_4 Tryz.prog F 103 (cp [1, 1, 1] (bodyOf Tryz.f29)) (ap [1, 1, 1] r50_ByKey_an) [(3, .pointer t), (7, .slice atv atvL atvC)] h (r50_ByKey_K0  K)
def r50_ByKey_b5 (k : Int) (fromv : Int) (to : Int) (t : Option Addr) (atv : Option Addr) (atvL : Nat) (atvC : Nat) (i : Int) (h : Hp) (nx0 : (Option Addr × Nat × Nat) × Int × Unit → Hp → Prop) (nx1 : Int × Unit → Hp → Prop) (K : Value → Hp → Prop) : Prop :=
  sx_2 Tryz.prog F 103 (cp [1, 1, 0, 1, 2, 2, 1, 0, 2, 1, 1, 1, 2, 2] (bodyOf Tryz.f29)) (ap [1, 1, 0, 1, 2, 1, 0, 1, 1, 1, 2] r50_ByKey_an) [(9, .int .i64 k), (1, .int .i64 fromv), (2, .int .i64 to), (3, .pointer t), (7, .slice atv atvL atvC), (8, .int .i64 i)] h (r50_ByKey_K7 nx0 nx1 K)
def r50_ByKey_b6 (out : Option Addr) (outL : Nat) (outC : Nat) (i : Int) (t : Option Addr) (atv : Option Addr) (atvL : Nat) (atvC : Nat) (h : Hp) (nx0 : (Option Addr × Nat × Nat) × Int × Unit → Hp → Prop) (K : Value → Hp → Prop) : Prop :=
  sx_3 Tryz.prog F 103 (cp [1, 1, 1, 1, 0, 1, 2, 2] (bodyOf Tryz.f29)) (ap [1, 1, 1, 1, 0, 1, 2] r50_ByKey_an) [(10, .slice out outL outC), (11, .int .i64 i), (3, .pointer t), (7, .slice atv atvL atvC)] h (r50_ByKey_K10 nx0 K)
def r50_ByKey_b7 (fromv : Int) (to : Int) (t : Option Addr) (atv : Option Addr) (atvL : Nat) (atvC : Nat) (i : Int) (k : Int) (h : Hp) (nx0 : (Option Addr × Nat × Nat) × Int × Unit → Hp → Prop) (nx1 : Int × Unit → Hp → Prop) (K : Value → Hp → Prop) : Prop :=
  sx_1 Tryz.prog F 103 (cp [1, 1, 0, 1, 2, 2, 1, 0, 2, 1, 1, 1, 2, 2, 1] (bodyOf Tryz.f29)) (ap [1, 1, 0, 1, 2, 1, 0, 1, 1, 1, 2, 1] r50_ByKey_an) [(1, .int .i64 fromv), (2, .int .i64 to), (3, .pointer t), (7, .slice atv atvL atvC), (8, .int .i64 i), (9, .int .i64 k)] h (r50_ByKey_K7 nx0 nx1 K)
def r50_ByKey_b8 (t : Option Addr) (atv : Option Addr) (atvL : Nat) (atvC : Nat) (out : Option Addr) (outL : Nat) (outC : Nat) (i : Int) (h : Hp) (nx0 : (Option Addr × Nat × Nat) × Int × Unit → Hp → Prop) (K : Value → Hp → Prop) : Prop :=
  sx_2 Tryz.prog F 103 (cp [1, 1, 1, 1, 0, 1, 2, 2, 1, 1] (bodyOf Tryz.f29)) (ap [1, 1, 1, 1, 0, 1, 2, 1, 1] r50_ByKey_an) [(3, .pointer t), (7, .slice atv atvL atvC), (10, .slice out outL outC), (11, .int .i64 i)] h (r50_ByKey_K10 nx0 K)
def r50_ByKey_b9 (out : Option Addr) (outL : Nat) (outC : Nat) (h : Hp)  (K : Value → Hp → Prop) : Prop :=
  sx_3 Tryz.prog F 103 (cp [1, 1, 1, 1, 1] (bodyOf Tryz.f29)) (ap [1, 1, 1, 1, 1] r50_ByKey_an) [(10, .slice out outL outC)] h (r50_ByKey_K0  K)
theorem r50_ByKey_b0_eq (t_0 : Option Addr) (t_0L : Nat) (t_0C : Nat) (t_1 : Option Addr) (t_1L : Nat) (t_1C : Nat) (t_2 : Int) (fromv : Int) (to : Int) (h : Hp)  (K : Value → Hp → Prop) : r50_ByKey_b0 t_0 t_0L t_0C t_1 t_1L t_1C t_2 fromv to h  K = (
  New h (.cells #[.slice t_0 t_0L t_0C, .slice t_1 t_1L t_1C, .int .i64 t_2] 29) fun b1 h1 =>
  LoopVC (((none, 0, 0), 0, ()) : (Option Addr × Nat × Nat) × Int × Unit) h1 (fun (nx0 : (Option Addr × Nat × Nat) × Int × Unit → Hp → Prop) (s1 : (Option Addr × Nat × Nat) × Int × Unit) h2 => r50_ByKey_b1 s1.1.1 s1.1.2.1 s1.1.2.2 s1.2.1 fromv to (some ⟨b1, 0, none⟩) h2 nx0 K)) := by kernel_rfl
theorem r50_ByKey_b1_eq (atv : Option Addr) (atvL : Nat) (atvC : Nat) (i : Int) (fromv : Int) (to : Int) (t : Option Addr) (h : Hp) (nx0 : (Option Addr × Nat × Nat) × Int × Unit → Hp → Prop) (K : Value → Hp → Prop) : r50_ByKey_b1 atv atvL atvC i fromv to t h nx0 K = (
  NN t fun a1 =>
  ∃ (a2 : Option Addr) (L1 C1 : Nat), cell h (a1.add 1) = some (.slice a2 L1 C1) ∧
  cond (decide (i < (L1 : Int)))
  (NN t fun a3 =>
  ∃ (a4 : Option Addr) (L2 C2 : Nat), cell h (a3.add 1) = some (.slice a4 L2 C2) ∧
  (0 ≤ i ∧ i < (L2 : Int)) ∧
  NN a4 fun a5 =>
  ∃ n1 : Int, cell h (a5.add (Int.toNat i * 5)) = some (.int .i64 n1) ∧
  cond (decide (n1 < fromv))
  (r50_ByKey_b2 fromv to t atv atvL atvC i h nx0 K)
  (NN t fun a6 =>
  ∃ (a7 : Option Addr) (L3 C3 : Nat), cell h (a6.add 1) = some (.slice a7 L3 C3) ∧
  (0 ≤ i ∧ i < (L3 : Int)) ∧
  NN a7 fun a8 =>
  ∃ n2 : Int, cell h (a8.add (Int.toNat i * 5)) = some (.int .i64 n2) ∧
  cond (decide (to < n2))
  (r50_ByKey_b2 fromv to t atv atvL atvC i h nx0 K)
  (r50_ByKey_b3 fromv to t atv atvL atvC i h nx0 K)))
  (r50_ByKey_b4 t atv atvL atvC h  K)) := by kernel_rfl
theorem r50_ByKey_b2_eq (fromv : Int) (to : Int) (t : Option Addr) (atv : Option Addr) (atvL : Nat) (atvC : Nat) (i : Int) (h : Hp) (nx0 : (Option Addr × Nat × Nat) × Int × Unit → Hp → Prop) (K : Value → Hp → Prop) : r50_ByKey_b2 fromv to t atv atvL atvC i h nx0 K = (
  InR (i + 1) ∧
  nx0 ((atv, atvL, atvC), i + 1, ()) h) := by kernel_rfl
theorem r50_ByKey_b3_eq (fromv : Int) (to : Int) (t : Option Addr) (atv : Option Addr) (atvL : Nat) (atvC : Nat) (i : Int) (h : Hp) (nx0 : (Option Addr × Nat × Nat) × Int × Unit → Hp → Prop) (K : Value → Hp → Prop) : r50_ByKey_b3 fromv to t atv atvL atvC i h nx0 K = (
  New h (.cells #[.int .i64 i] 3) fun b2 h3 =>
  appendV Tryz.prog 26 26 (.slice atv atvL atvC) (.slice (some ⟨b2, 0, none⟩) 1 1) h3 (slK fun a9 l1 c1 h4 =>
  LoopVC (((atvL : Int), ()) : Int × Unit) h4 (fun (nx1 : Int × Unit → Hp → Prop) (s2 : Int × Unit) h5 => r50_ByKey_b5 s2.1 fromv to t a9 l1 c1 i h5 nx0 nx1 K))) := by kernel_rfl
theorem r50_ByKey_b4_eq (t : Option Addr) (atv : Option Addr) (atvL : Nat) (atvC : Nat) (h : Hp)  (K : Value → Hp → Prop) : r50_ByKey_b4 t atv atvL atvC h  K = (
  LoopVC (((none, 0, 0), 0, ()) : (Option Addr × Nat × Nat) × Int × Unit) h (fun (nx0 : (Option Addr × Nat × Nat) × Int × Unit → Hp → Prop) (s3 : (Option Addr × Nat × Nat) × Int × Unit) h6 => r50_ByKey_b6 s3.1.1 s3.1.2.1 s3.1.2.2 s3.2.1 t atv atvL atvC h6 nx0 K)) := by kernel_rfl
theorem r50_ByKey_b5_eq (k : Int) (fromv : Int) (to : Int) (t : Option Addr) (atv : Option Addr) (atvL : Nat) (atvC : Nat) (i : Int) (h : Hp) (nx0 : (Option Addr × Nat × Nat) × Int × Unit → Hp → Prop) (nx1 : Int × Unit → Hp → Prop) (K : Value → Hp → Prop) : r50_ByKey_b5 k fromv to t atv atvL atvC i h nx0 nx1 K = (
  cond (decide ((0 : Int) < k))
  (NN t fun a10 =>
  ∃ (a11 : Option Addr) (L4 C4 : Nat), cell h (a10.add 1) = some (.slice a11 L4 C4) ∧
  InR (k - 1) ∧
  (0 ≤ k - 1 ∧ k - 1 < (atvL : Int)) ∧
  NN atv fun a12 =>
  ∃ n3 : Int, cell h (a12.add (Int.toNat (k - 1) * 1)) = some (.int .i64 n3) ∧
  (0 ≤ n3 ∧ n3 < (L4 : Int)) ∧
  NN a11 fun a13 =>
  ∃ n4 : Int, cell h (a13.add (Int.toNat n3 * 5)) = some (.int .i64 n4) ∧
  NN t fun a14 =>
  ∃ (a15 : Option Addr) (L5 C5 : Nat), cell h (a14.add 1) = some (.slice a15 L5 C5) ∧
  (0 ≤ k ∧ k < (atvL : Int)) ∧
  NN atv fun a16 =>
  ∃ n5 : Int, cell h (a16.add (Int.toNat k * 1)) = some (.int .i64 n5) ∧
  (0 ≤ n5 ∧ n5 < (L5 : Int)) ∧
  NN a15 fun a17 =>
  ∃ n6 : Int, cell h (a17.add (Int.toNat n5 * 5)) = some (.int .i64 n6) ∧
  cond (decide (n6 < n4))
  (r50_ByKey_b7 fromv to t atv atvL atvC i k h nx0 nx1 K)
  (r50_ByKey_b2 fromv to t atv atvL atvC i h nx0 K))
  (r50_ByKey_b2 fromv to t atv atvL atvC i h nx0 K)) := by kernel_rfl
theorem r50_ByKey_b6_eq (out : Option Addr) (outL : Nat) (outC : Nat) (i : Int) (t : Option Addr) (atv : Option Addr) (atvL : Nat) (atvC : Nat) (h : Hp) (nx0 : (Option Addr × Nat × Nat) × Int × Unit → Hp → Prop) (K : Value → Hp → Prop) : r50_ByKey_b6 out outL outC i t atv atvL atvC h nx0 K = (
  cond (decide (i < (atvL : Int)))
  (NN t fun a18 =>
  ∃ (a19 : Option Addr) (L6 C6 : Nat), cell h a18 = some (.slice a19 L6 C6) ∧
  (0 ≤ i ∧ i < (atvL : Int)) ∧
  NN atv fun a20 =>
  ∃ n7 : Int, cell h (a20.add (Int.toNat i * 1)) = some (.int .i64 n7) ∧
  (0 ≤ n7 ∧ n7 < (L6 : Int)) ∧
  NN a19 fun a21 =>
  ∃ n8 : Int, cell h (a21.add (Int.toNat n7 * 1)) = some (.int .i64 n8) ∧
  New h (.cells #[.int .i64 n8] 3) fun b3 h7 =>
  appendV Tryz.prog 26 26 (.slice out outL outC) (.slice (some ⟨b3, 0, none⟩) 1 1) h7 (slK fun a22 l2 c2 h8 =>
  r50_ByKey_b8 t atv atvL atvC a22 l2 c2 i h8 nx0 K))
  (r50_ByKey_b9 out outL outC h  K)) := by kernel_rfl
theorem r50_ByKey_b7_eq (fromv : Int) (to : Int) (t : Option Addr) (atv : Option Addr) (atvL : Nat) (atvC : Nat) (i : Int) (k : Int) (h : Hp) (nx0 : (Option Addr × Nat × Nat) × Int × Unit → Hp → Prop) (nx1 : Int × Unit → Hp → Prop) (K : Value → Hp → Prop) : r50_ByKey_b7 fromv to t atv atvL atvC i k h nx0 nx1 K = (
  InR (k - 1) ∧
  (0 ≤ k ∧ k < (atvL : Int)) ∧
  NN atv fun a23 =>
  ∃ n9 : Int, cell h (a23.add (Int.toNat k * 1)) = some (.int .i64 n9) ∧
  InR (k - 1) ∧
  (0 ≤ k - 1 ∧ k - 1 < (atvL : Int)) ∧
  NN atv fun a24 =>
  ∃ n10 : Int, cell h (a24.add (Int.toNat (k - 1) * 1)) = some (.int .i64 n10) ∧
  (0 ≤ k - 1 ∧ k - 1 < (atvL : Int)) ∧
  NN atv fun a25 =>
  Wr h (a25.add (Int.toNat (k - 1) * 1)) (.int .i64 n9) fun h9 =>
  (0 ≤ k ∧ k < (atvL : Int)) ∧
  NN atv fun a26 =>
  Wr h9 (a26.add (Int.toNat k * 1)) (.int .i64 n10) fun h10 =>
  InR (k - 1) ∧
  nx1 (k - 1, ()) h10) := by kernel_rfl
theorem r50_ByKey_b8_eq (t : Option Addr) (atv : Option Addr) (atvL : Nat) (atvC : Nat) (out : Option Addr) (outL : Nat) (outC : Nat) (i : Int) (h : Hp) (nx0 : (Option Addr × Nat × Nat) × Int × Unit → Hp → Prop) (K : Value → Hp → Prop) : r50_ByKey_b8 t atv atvL atvC out outL outC i h nx0 K = (
  InR (i + 1) ∧
  nx0 ((out, outL, outC), i + 1, ()) h) := by kernel_rfl
theorem r50_ByKey_b9_eq (out : Option Addr) (outL : Nat) (outC : Nat) (h : Hp)  (K : Value → Hp → Prop) : r50_ByKey_b9 out outL outC h  K = (
  K (.slice out outL outC) h) := by kernel_rfl
theorem r50_ByKey_call {t_0 : Option Addr} {t_0L : Nat} {t_0C : Nat} {t_1 : Option Addr} {t_1L : Nat} {t_1C : Nat} {t_2 : Int} {fromv : Int} {to : Int} {h : Hp} {K : Value → Hp → Prop} (hk : r50_ByKey_b0 t_0 t_0L t_0C t_1 t_1L t_1C t_2 fromv to h K) : HCalls Tryz.prog 29 #[.agg #[.slice t_0 t_0L t_0C, .slice t_1 t_1L t_1C, .int .i64 t_2], .int .i64 fromv, .int .i64 to] h K :=
  calls_of_snd r50_ByKey_an Tryz.func29 (c := bodyOf Tryz.f29) rfl Tryz.ntmps29 (Nat.le_of_ble_eq_true rfl) (snd_5 F_ok F_mixed) hk

/-! ### slices_ContainsFunc_Sl50_Step_l50_Step -/
def slices_ContainsFunc_Sl50_Step_l50_Step_an : Ann := .leaf
def slices_ContainsFunc_Sl50_Step_l50_Step_K0  (K : Value → Hp → Prop) : Exit → Env → Hp → Prop := retK Tryz.prog Tryz.f30.results.toList K
def slices_ContainsFunc_Sl50_Step_l50_Step_b0 (s : Option Addr) (sL : Nat) (sC : Nat) (f : Value) (h : Hp)  (K : Value → Hp → Prop) : Prop :=
  sx_1 Tryz.prog F 9 (cp [] (bodyOf Tryz.f30)) (ap [] slices_ContainsFunc_Sl50_Step_l50_Step_an) [(0, .slice s sL sC), (1, f)] h (slices_ContainsFunc_Sl50_Step_l50_Step_K0  K)
theorem slices_ContainsFunc_Sl50_Step_l50_Step_b0_eq (s : Option Addr) (sL : Nat) (sC : Nat) (f : Value) (h : Hp)  (K : Value → Hp → Prop) : slices_ContainsFunc_Sl50_Step_l50_Step_b0 s sL sC f h  K = (
  HCalls Tryz.prog 57 #[.slice s sL sC, f] h fun v1 h1 => ∃ r1 : Int, v1 = .int .i64 r1 ∧
  K (.bool (decide ((0 : Int) ≤ r1))) h1) := by kernel_rfl
theorem slices_ContainsFunc_Sl50_Step_l50_Step_call {s : Option Addr} {sL : Nat} {sC : Nat} {f : Value} {h : Hp} {K : Value → Hp → Prop} (hk : slices_ContainsFunc_Sl50_Step_l50_Step_b0 s sL sC f h K) : HCalls Tryz.prog 30 #[.slice s sL sC, f] h K :=
  calls_of_snd slices_ContainsFunc_Sl50_Step_l50_Step_an Tryz.func30 (c := bodyOf Tryz.f30) rfl Tryz.ntmps30 (Nat.le_of_ble_eq_true rfl) (snd_1 F_ok F_mixed) hk

/-! ### l50_great_c1 -/
def l50_great_c1_an : Ann := .leaf
def l50_great_c1_K0  (K : Value → Hp → Prop) : Exit → Env → Hp → Prop := retK Tryz.prog Tryz.f31.results.toList K
def l50_great_c1_b0 (x_0 : Int) (x_1 : Int) (x_2 : Int) (x_3 : Int) (x_4 : Int) (x_5 : Int) (x_6 : ByteArray) (x_7 : Option Addr) (x_7L : Nat) (x_7C : Nat) (x_8 : Option Addr) (x_8L : Nat) (x_8C : Nat) (h : Hp)  (K : Value → Hp → Prop) : Prop :=
  sx_1 Tryz.prog F 25 (cp [] (bodyOf Tryz.f31)) (ap [] l50_great_c1_an) [(0, .agg #[.int .u8 x_0, .int .i64 x_1, .int .i64 x_2, .int .i64 x_3, .int .i64 x_4, .int .i64 x_5, .string x_6, .slice x_7 x_7L x_7C, .slice x_8 x_8L x_8C])] h (l50_great_c1_K0  K)
theorem l50_great_c1_b0_eq (x_0 : Int) (x_1 : Int) (x_2 : Int) (x_3 : Int) (x_4 : Int) (x_5 : Int) (x_6 : ByteArray) (x_7 : Option Addr) (x_7L : Nat) (x_7C : Nat) (x_8 : Option Addr) (x_8L : Nat) (x_8C : Nat) (h : Hp)  (K : Value → Hp → Prop) : l50_great_c1_b0 x_0 x_1 x_2 x_3 x_4 x_5 x_6 x_7 x_7L x_7C x_8 x_8L x_8C h  K = (
  New h (.cells #[.int .u8 x_0, .int .i64 x_1, .int .i64 x_2, .int .i64 x_3, .int .i64 x_4, .int .i64 x_5, .string x_6, .slice x_7 x_7L x_7C, .slice x_8 x_8L x_8C] 68) fun b1 h1 =>
  ∃ (a1 : Option Addr) (L1 C1 : Nat), cell h1 ((⟨b1, 0, none⟩ : Addr).add 7) = some (.slice a1 L1 C1) ∧
  cond (decide ((20 : Int) < (L1 : Int)))
  (K (.bool true) h1)
  (∃ (a2 : Option Addr) (L2 C2 : Nat), cell h1 ((⟨b1, 0, none⟩ : Addr).add 8) = some (.slice a2 L2 C2) ∧
  cond (decide ((20 : Int) < (L2 : Int)))
  (K (.bool true) h1)
  (∃ s1 : ByteArray, cell h1 (((⟨b1, 0, none⟩ : Addr).add 2).add 4) = some (.string s1) ∧
  cond (decide ((100 : Int) < (s1.size : Int)))
  (K (.bool true) h1)
  (∃ (a3 : Option Addr) (L3 C3 : Nat), cell h1 ((⟨b1, 0, none⟩ : Addr).add 8) = some (.slice a3 L3 C3) ∧
  HCalls Tryz.prog 32 #[.slice a3 L3 C3, .func (.func 33) #[] #[]] h1 fun v1 h2 => ∃ r1 : Bool, v1 = .bool r1 ∧
  K (.bool r1) h2)))) := by kernel_rfl
theorem l50_great_c1_call {x_0 : Int} {x_1 : Int} {x_2 : Int} {x_3 : Int} {x_4 : Int} {x_5 : Int} {x_6 : ByteArray} {x_7 : Option Addr} {x_7L : Nat} {x_7C : Nat} {x_8 : Option Addr} {x_8L : Nat} {x_8C : Nat} {h : Hp} {K : Value → Hp → Prop} (hk : l50_great_c1_b0 x_0 x_1 x_2 x_3 x_4 x_5 x_6 x_7 x_7L x_7C x_8 x_8L x_8C h K) : HCalls Tryz.prog 31 #[.agg #[.int .u8 x_0, .int .i64 x_1, .int .i64 x_2, .int .i64 x_3, .int .i64 x_4, .int .i64 x_5, .string x_6, .slice x_7 x_7L x_7C, .slice x_8 x_8L x_8C]] h K :=
  calls_of_snd l50_great_c1_an Tryz.func31 (c := bodyOf Tryz.f31) rfl Tryz.ntmps31 (Nat.le_of_ble_eq_true rfl) (snd_1 F_ok F_mixed) hk

/-! ### slices_ContainsFunc_Sapi_Record_api_Record -/
def slices_ContainsFunc_Sapi_Record_api_Record_an : Ann := .leaf
def slices_ContainsFunc_Sapi_Record_api_Record_K0  (K : Value → Hp → Prop) : Exit → Env → Hp → Prop := retK Tryz.prog Tryz.f32.results.toList K
def slices_ContainsFunc_Sapi_Record_api_Record_b0 (s : Option Addr) (sL : Nat) (sC : Nat) (f : Value) (h : Hp)  (K : Value → Hp → Prop) : Prop :=
  sx_1 Tryz.prog F 9 (cp [] (bodyOf Tryz.f32)) (ap [] slices_ContainsFunc_Sapi_Record_api_Record_an) [(0, .slice s sL sC), (1, f)] h (slices_ContainsFunc_Sapi_Record_api_Record_K0  K)
theorem slices_ContainsFunc_Sapi_Record_api_Record_b0_eq (s : Option Addr) (sL : Nat) (sC : Nat) (f : Value) (h : Hp)  (K : Value → Hp → Prop) : slices_ContainsFunc_Sapi_Record_api_Record_b0 s sL sC f h  K = (
  HCalls Tryz.prog 58 #[.slice s sL sC, f] h fun v1 h1 => ∃ r1 : Int, v1 = .int .i64 r1 ∧
  K (.bool (decide ((0 : Int) ≤ r1))) h1) := by kernel_rfl
theorem slices_ContainsFunc_Sapi_Record_api_Record_call {s : Option Addr} {sL : Nat} {sC : Nat} {f : Value} {h : Hp} {K : Value → Hp → Prop} (hk : slices_ContainsFunc_Sapi_Record_api_Record_b0 s sL sC f h K) : HCalls Tryz.prog 32 #[.slice s sL sC, f] h K :=
  calls_of_snd slices_ContainsFunc_Sapi_Record_api_Record_an Tryz.func32 (c := bodyOf Tryz.f32) rfl Tryz.ntmps32 (Nat.le_of_ble_eq_true rfl) (snd_1 F_ok F_mixed) hk

/-! ### l50_great_c1_c1 -/
def l50_great_c1_c1_an : Ann := .leaf
def l50_great_c1_c1_K0  (K : Value → Hp → Prop) : Exit → Env → Hp → Prop := retK Tryz.prog Tryz.f33.results.toList K
def l50_great_c1_c1_b0 (r_0 : Int) (r_1 : Int) (r_2 : Int) (r_3 : Int) (r_4 : ByteArray) (h : Hp)  (K : Value → Hp → Prop) : Prop :=
  sx_1 Tryz.prog F 7 (cp [] (bodyOf Tryz.f33)) (ap [] l50_great_c1_c1_an) [(0, .agg #[.int .i64 r_0, .int .i64 r_1, .int .i64 r_2, .int .i64 r_3, .string r_4])] h (l50_great_c1_c1_K0  K)
theorem l50_great_c1_c1_b0_eq (r_0 : Int) (r_1 : Int) (r_2 : Int) (r_3 : Int) (r_4 : ByteArray) (h : Hp)  (K : Value → Hp → Prop) : l50_great_c1_c1_b0 r_0 r_1 r_2 r_3 r_4 h  K = (
  New h (.cells #[.int .i64 r_0, .int .i64 r_1, .int .i64 r_2, .int .i64 r_3, .string r_4] 49) fun b1 h1 =>
  ∃ s1 : ByteArray, cell h1 ((⟨b1, 0, none⟩ : Addr).add 4) = some (.string s1) ∧
  K (.bool (decide ((100 : Int) < (s1.size : Int)))) h1) := by kernel_rfl
theorem l50_great_c1_c1_call {r_0 : Int} {r_1 : Int} {r_2 : Int} {r_3 : Int} {r_4 : ByteArray} {h : Hp} {K : Value → Hp → Prop} (hk : l50_great_c1_c1_b0 r_0 r_1 r_2 r_3 r_4 h K) : HCalls Tryz.prog 33 #[.agg #[.int .i64 r_0, .int .i64 r_1, .int .i64 r_2, .int .i64 r_3, .string r_4]] h K :=
  calls_of_snd l50_great_c1_c1_an Tryz.func33 (c := bodyOf Tryz.f33) rfl Tryz.ntmps33 (Nat.le_of_ble_eq_true rfl) (snd_1 F_ok F_mixed) hk

/-! ### l50_do -/
def l50_do_an : Ann := .node none (.leaf) (.node (some [0, 4, 5, 6]) (.node none (.leaf) (.node none (.leaf) (.node none (.leaf) (.node none (.leaf) (.node none (.node none (.leaf) (.node none (.plan (.qu 0 (.qu 1 (.qu 2 (.qu 3 (.qu 4 (.qu 5 (.qu 7 (.wo 6 (.qu 8 (.wo 9 (.wo 10 .fin .no) .no)) .no))))))))) (.leaf))) (.node none (.leaf) (.node none (.node none (.leaf) (.node none (.plan (.qu 0 (.qu 1 (.qu 2 (.qu 3 (.qu 5 (.wo 4 (.qu 6 (.wo 7 (.wo 8 .fin .no) .no)) .no))))))) (.leaf))) (.leaf)))))))) (.node none (.leaf) (.node none (.leaf) (.node none (.plan (.qu 0 (.qu 1 (.qu 2 (.wo 3 (.qu 4 (.qu 5 (.qu 6 (.qu 7 (.qu 8 (.wo 9 (.wo 10 .fin .no) .no)))))) .no))))) (.leaf)))))
def l50_do_K0  (K : Value → Hp → Prop) : Exit → Env → Hp → Prop := retK Tryz.prog Tryz.f34.results.toList K
def l50_do_b0 (t : Option Addr) (s_0 : Option Addr) (s_0L : Nat) (s_0C : Nat) (s_1 : Option Addr) (s_1L : Nat) (s_1C : Nat) (s_2 : Int) (x_0 : Int) (x_1 : Int) (x_2 : Int) (x_3 : Int) (x_4 : Int) (x_5 : Int) (x_6 : ByteArray) (x_7 : Option Addr) (x_7L : Nat) (x_7C : Nat) (x_8 : Option Addr) (x_8L : Nat) (x_8C : Nat) (h : Hp)  (K : Value → Hp → Prop) : Prop :=
  sx_2 Tryz.prog F 115 (cp [] (bodyOf Tryz.f34)) (ap [] l50_do_an) [(0, .pointer t), (1, .agg #[.slice s_0 s_0L s_0C, .slice s_1 s_1L s_1C, .int .i64 s_2]), (2, .agg #[.int .u8 x_0, .int .i64 x_1, .int .i64 x_2, .int .i64 x_3, .int .i64 x_4, .int .i64 x_5, .string x_6, .slice x_7 x_7L x_7C, .slice x_8 x_8L x_8C])] h (l50_do_K0  K)
def l50_do_b1 (t : Option Addr) (s : Option Addr) (x : Option Addr) (t6 : Option Addr) (h : Hp)  (K : Value → Hp → Prop) : Prop :=
  sx_1 Tryz.prog F 115 (cp [1, 1] (bodyOf Tryz.f34)) (ap [1, 1] l50_do_an) [(0, .pointer t), (4, .pointer s), (5, .pointer x), (6, .pointer t6)] h (l50_do_K0  K)
theorem l50_do_b0_eq (t : Option Addr) (s_0 : Option Addr) (s_0L : Nat) (s_0C : Nat) (s_1 : Option Addr) (s_1L : Nat) (s_1C : Nat) (s_2 : Int) (x_0 : Int) (x_1 : Int) (x_2 : Int) (x_3 : Int) (x_4 : Int) (x_5 : Int) (x_6 : ByteArray) (x_7 : Option Addr) (x_7L : Nat) (x_7C : Nat) (x_8 : Option Addr) (x_8L : Nat) (x_8C : Nat) (h : Hp)  (K : Value → Hp → Prop) : l50_do_b0 t s_0 s_0L s_0C s_1 s_1L s_1C s_2 x_0 x_1 x_2 x_3 x_4 x_5 x_6 x_7 x_7L x_7C x_8 x_8L x_8C h  K = (
  New h (.cells #[.slice s_0 s_0L s_0C, .slice s_1 s_1L s_1C, .int .i64 s_2] 29) fun b1 h1 =>
  New h1 (.cells #[.int .u8 x_0, .int .i64 x_1, .int .i64 x_2, .int .i64 x_3, .int .i64 x_4, .int .i64 x_5, .string x_6, .slice x_7 x_7L x_7C, .slice x_8 x_8L x_8C] 68) fun b2 h2 =>
  New h2 (.cells #[.slice none 0 0, .slice none 0 0, .int .i64 0] 29) fun b3 h3 =>
  ∃ n1 : Int, cell h3 ⟨b2, 0, none⟩ = some (.int .u8 n1) ∧
  ∃ r1 : Int, Sx.Rem n1 4 r1 ∧
  cond (decide (r1 = 0))
  (∃ (a1 : Option Addr) (L1 C1 : Nat), ∃ (a2 : Option Addr) (L2 C2 : Nat), ∃ n2 : Int, cell h3 ⟨b1, 0, none⟩ = some (.slice a1 L1 C1) ∧
  cell h3 ((⟨b1, 0, none⟩ : Addr).add 1) = some (.slice a2 L2 C2) ∧
  cell h3 ((⟨b1, 0, none⟩ : Addr).add 2) = some (.int .i64 n2) ∧
  ∃ n3 : Int, ∃ n4 : Int, ∃ n5 : Int, ∃ n6 : Int, ∃ s1 : ByteArray, cell h3 ((⟨b2, 0, none⟩ : Addr).add 2) = some (.int .i64 n3) ∧
  cell h3 (((⟨b2, 0, none⟩ : Addr).add 2).add 1) = some (.int .i64 n4) ∧
  cell h3 (((⟨b2, 0, none⟩ : Addr).add 2).add 2) = some (.int .i64 n5) ∧
  cell h3 (((⟨b2, 0, none⟩ : Addr).add 2).add 3) = some (.int .i64 n6) ∧
  cell h3 (((⟨b2, 0, none⟩ : Addr).add 2).add 4) = some (.string s1) ∧
  HCalls Tryz.prog 59 #[.agg #[.slice a1 L1 C1, .slice a2 L2 C2, .int .i64 n2], .agg #[.int .i64 n3, .int .i64 n4, .int .i64 n5, .int .i64 n6, .string s1]] h3 fun v1 h4 => ∃ (r2 : Option Addr) (rL1 rC1 : Nat), ∃ (r3 : Option Addr) (rL2 rC2 : Nat), ∃ r4 : Int, ∃ r5 : Int, ∃ r6 : Int, v1 = .tuple #[.agg #[.slice r2 rL1 rC1, .slice r3 rL2 rC2, .int .i64 r4], .int .i64 r5, .int .i64 r6] ∧
  New h4 (.cells #[.slice none 0 0, .slice none 0 0, .int .i64 0] 29) fun b4 h5 =>
  Wr h5 ⟨b4, 0, none⟩ (.slice r2 rL1 rC1) fun h6 =>
  Wr h6 ((⟨b4, 0, none⟩ : Addr).add 1) (.slice r3 rL2 rC2) fun h7 =>
  Wr h7 ((⟨b4, 0, none⟩ : Addr).add 2) (.int .i64 r4) fun h8 =>
  ∃ n7 : Int, ∃ n8 : Int, ∃ n9 : Int, ∃ n10 : Int, ∃ s2 : ByteArray, cell h8 ((⟨b2, 0, none⟩ : Addr).add 2) = some (.int .i64 n7) ∧
  cell h8 (((⟨b2, 0, none⟩ : Addr).add 2).add 1) = some (.int .i64 n8) ∧
  cell h8 (((⟨b2, 0, none⟩ : Addr).add 2).add 2) = some (.int .i64 n9) ∧
  cell h8 (((⟨b2, 0, none⟩ : Addr).add 2).add 3) = some (.int .i64 n10) ∧
  cell h8 (((⟨b2, 0, none⟩ : Addr).add 2).add 4) = some (.string s2) ∧
  HCalls Tryz.prog 21 #[.pointer t, .agg #[.int .i64 n7, .int .i64 n8, .int .i64 n9, .int .i64 n10, .string s2]] h8 fun v2 h9 => ∃ r7 : Int, ∃ r8 : Int, v2 = .tuple #[.int .i64 r7, .int .i64 r8] ∧
  ∃ (a3 : Option Addr) (L3 C3 : Nat), ∃ (a4 : Option Addr) (L4 C4 : Nat), ∃ n11 : Int, cell h9 ⟨b4, 0, none⟩ = some (.slice a3 L3 C3) ∧
  cell h9 ((⟨b4, 0, none⟩ : Addr).add 1) = some (.slice a4 L4 C4) ∧
  cell h9 ((⟨b4, 0, none⟩ : Addr).add 2) = some (.int .i64 n11) ∧
  cond (decide (r7 = r5))
  (Wr h9 ⟨b3, 0, none⟩ (.slice a3 L3 C3) fun h10 =>
  Wr h10 ((⟨b3, 0, none⟩ : Addr).add 1) (.slice a4 L4 C4) fun h11 =>
  Wr h11 ((⟨b3, 0, none⟩ : Addr).add 2) (.int .i64 n11) fun h12 =>
  ∃ (r9 : Option Addr) (rL3 rC3 : Nat), ∃ (r10 : Option Addr) (rL4 rC4 : Nat), ∃ r11 : Int, cell h12 ⟨b3, 0, none⟩ = some (.slice r9 rL3 rC3) ∧
  cell h12 ((⟨b3, 0, none⟩ : Addr).add 1) = some (.slice r10 rL4 rC4) ∧
  cell h12 ((⟨b3, 0, none⟩ : Addr).add 2) = some (.int .i64 r11) ∧
  K (.tuple #[.agg #[.slice r9 rL3 rC3, .slice r10 rL4 rC4, .int .i64 r11], .bool (decide (r8 = r6))]) h12)
  (Wr h9 ⟨b3, 0, none⟩ (.slice a3 L3 C3) fun h13 =>
  Wr h13 ((⟨b3, 0, none⟩ : Addr).add 1) (.slice a4 L4 C4) fun h14 =>
  Wr h14 ((⟨b3, 0, none⟩ : Addr).add 2) (.int .i64 n11) fun h15 =>
  ∃ (r12 : Option Addr) (rL5 rC5 : Nat), ∃ (r13 : Option Addr) (rL6 rC6 : Nat), ∃ r14 : Int, cell h15 ⟨b3, 0, none⟩ = some (.slice r12 rL5 rC5) ∧
  cell h15 ((⟨b3, 0, none⟩ : Addr).add 1) = some (.slice r13 rL6 rC6) ∧
  cell h15 ((⟨b3, 0, none⟩ : Addr).add 2) = some (.int .i64 r14) ∧
  K (.tuple #[.agg #[.slice r12 rL5 rC5, .slice r13 rL6 rC6, .int .i64 r14], .bool false]) h15))
  (cond (decide (r1 = 1))
  (∃ (a5 : Option Addr) (L5 C5 : Nat), ∃ (a6 : Option Addr) (L6 C6 : Nat), ∃ n12 : Int, cell h3 ⟨b1, 0, none⟩ = some (.slice a5 L5 C5) ∧
  cell h3 ((⟨b1, 0, none⟩ : Addr).add 1) = some (.slice a6 L6 C6) ∧
  cell h3 ((⟨b1, 0, none⟩ : Addr).add 2) = some (.int .i64 n12) ∧
  ∃ n13 : Int, cell h3 ((⟨b2, 0, none⟩ : Addr).add 1) = some (.int .i64 n13) ∧
  ∃ n14 : Int, ∃ n15 : Int, ∃ n16 : Int, ∃ n17 : Int, ∃ s3 : ByteArray, cell h3 ((⟨b2, 0, none⟩ : Addr).add 2) = some (.int .i64 n14) ∧
  cell h3 (((⟨b2, 0, none⟩ : Addr).add 2).add 1) = some (.int .i64 n15) ∧
  cell h3 (((⟨b2, 0, none⟩ : Addr).add 2).add 2) = some (.int .i64 n16) ∧
  cell h3 (((⟨b2, 0, none⟩ : Addr).add 2).add 3) = some (.int .i64 n17) ∧
  cell h3 (((⟨b2, 0, none⟩ : Addr).add 2).add 4) = some (.string s3) ∧
  HCalls Tryz.prog 60 #[.agg #[.slice a5 L5 C5, .slice a6 L6 C6, .int .i64 n12], .int .i64 n13, .agg #[.int .i64 n14, .int .i64 n15, .int .i64 n16, .int .i64 n17, .string s3]] h3 fun v3 h16 => ∃ (r15 : Option Addr) (rL7 rC7 : Nat), ∃ (r16 : Option Addr) (rL8 rC8 : Nat), ∃ r17 : Int, ∃ r18 : Int, v3 = .tuple #[.agg #[.slice r15 rL7 rC7, .slice r16 rL8 rC8, .int .i64 r17], .int .i64 r18] ∧
  New h16 (.cells #[.slice none 0 0, .slice none 0 0, .int .i64 0] 29) fun b5 h17 =>
  Wr h17 ⟨b5, 0, none⟩ (.slice r15 rL7 rC7) fun h18 =>
  Wr h18 ((⟨b5, 0, none⟩ : Addr).add 1) (.slice r16 rL8 rC8) fun h19 =>
  Wr h19 ((⟨b5, 0, none⟩ : Addr).add 2) (.int .i64 r17) fun h20 =>
  ∃ (a7 : Option Addr) (L7 C7 : Nat), ∃ (a8 : Option Addr) (L8 C8 : Nat), ∃ n18 : Int, cell h20 ⟨b5, 0, none⟩ = some (.slice a7 L7 C7) ∧
  cell h20 ((⟨b5, 0, none⟩ : Addr).add 1) = some (.slice a8 L8 C8) ∧
  cell h20 ((⟨b5, 0, none⟩ : Addr).add 2) = some (.int .i64 n18) ∧
  ∃ n19 : Int, cell h20 ((⟨b2, 0, none⟩ : Addr).add 1) = some (.int .i64 n19) ∧
  ∃ n20 : Int, ∃ n21 : Int, ∃ n22 : Int, ∃ n23 : Int, ∃ s4 : ByteArray, cell h20 ((⟨b2, 0, none⟩ : Addr).add 2) = some (.int .i64 n20) ∧
  cell h20 (((⟨b2, 0, none⟩ : Addr).add 2).add 1) = some (.int .i64 n21) ∧
  cell h20 (((⟨b2, 0, none⟩ : Addr).add 2).add 2) = some (.int .i64 n22) ∧
  cell h20 (((⟨b2, 0, none⟩ : Addr).add 2).add 3) = some (.int .i64 n23) ∧
  cell h20 (((⟨b2, 0, none⟩ : Addr).add 2).add 4) = some (.string s4) ∧
  HCalls Tryz.prog 19 #[.pointer t, .int .i64 n19, .agg #[.int .i64 n20, .int .i64 n21, .int .i64 n22, .int .i64 n23, .string s4]] h20 fun v4 h21 => ∃ r19 : Int, v4 = .int .i64 r19 ∧
  (∃ (a9 : Option Addr) (L9 C9 : Nat), ∃ (a10 : Option Addr) (L10 C10 : Nat), ∃ n24 : Int, cell h21 ⟨b5, 0, none⟩ = some (.slice a9 L9 C9) ∧
  cell h21 ((⟨b5, 0, none⟩ : Addr).add 1) = some (.slice a10 L10 C10) ∧
  cell h21 ((⟨b5, 0, none⟩ : Addr).add 2) = some (.int .i64 n24) ∧
  (.agg #[.slice a9 L9 C9, .slice a10 L10 C10, .int .i64 n24] : Value) = .agg #[.slice a7 L7 C7, .slice a8 L8 C8, .int .i64 n18]) ∧
  Wr h21 ⟨b3, 0, none⟩ (.slice a7 L7 C7) fun h22 =>
  Wr h22 ((⟨b3, 0, none⟩ : Addr).add 1) (.slice a8 L8 C8) fun h23 =>
  Wr h23 ((⟨b3, 0, none⟩ : Addr).add 2) (.int .i64 n18) fun h24 =>
  ∃ (r20 : Option Addr) (rL9 rC9 : Nat), ∃ (r21 : Option Addr) (rL10 rC10 : Nat), ∃ r22 : Int, cell h24 ⟨b3, 0, none⟩ = some (.slice r20 rL9 rC9) ∧
  cell h24 ((⟨b3, 0, none⟩ : Addr).add 1) = some (.slice r21 rL10 rC10) ∧
  cell h24 ((⟨b3, 0, none⟩ : Addr).add 2) = some (.int .i64 r22) ∧
  K (.tuple #[.agg #[.slice r20 rL9 rC9, .slice r21 rL10 rC10, .int .i64 r22], .bool (decide (r19 = r18))]) h24)
  (cond (decide (r1 = 2))
  (∃ (a11 : Option Addr) (L11 C11 : Nat), ∃ (a12 : Option Addr) (L12 C12 : Nat), ∃ n25 : Int, cell h3 ⟨b1, 0, none⟩ = some (.slice a11 L11 C11) ∧
  cell h3 ((⟨b1, 0, none⟩ : Addr).add 1) = some (.slice a12 L12 C12) ∧
  cell h3 ((⟨b1, 0, none⟩ : Addr).add 2) = some (.int .i64 n25) ∧
  ∃ n26 : Int, cell h3 ((⟨b2, 0, none⟩ : Addr).add 1) = some (.int .i64 n26) ∧
  HCalls Tryz.prog 61 #[.agg #[.slice a11 L11 C11, .slice a12 L12 C12, .int .i64 n25], .int .i64 n26] h3 fun v5 h25 => ∃ (r23 : Option Addr) (rL11 rC11 : Nat), ∃ (r24 : Option Addr) (rL12 rC12 : Nat), ∃ r25 : Int, ∃ r26 : Int, v5 = .tuple #[.agg #[.slice r23 rL11 rC11, .slice r24 rL12 rC12, .int .i64 r25], .int .i64 r26] ∧
  New h25 (.cells #[.slice none 0 0, .slice none 0 0, .int .i64 0] 29) fun b6 h26 =>
  Wr h26 ⟨b6, 0, none⟩ (.slice r23 rL11 rC11) fun h27 =>
  Wr h27 ((⟨b6, 0, none⟩ : Addr).add 1) (.slice r24 rL12 rC12) fun h28 =>
  Wr h28 ((⟨b6, 0, none⟩ : Addr).add 2) (.int .i64 r25) fun h29 =>
  ∃ (a13 : Option Addr) (L13 C13 : Nat), ∃ (a14 : Option Addr) (L14 C14 : Nat), ∃ n27 : Int, cell h29 ⟨b6, 0, none⟩ = some (.slice a13 L13 C13) ∧
  cell h29 ((⟨b6, 0, none⟩ : Addr).add 1) = some (.slice a14 L14 C14) ∧
  cell h29 ((⟨b6, 0, none⟩ : Addr).add 2) = some (.int .i64 n27) ∧
  ∃ n28 : Int, cell h29 ((⟨b2, 0, none⟩ : Addr).add 1) = some (.int .i64 n28) ∧
  HCalls Tryz.prog 26 #[.pointer t, .int .i64 n28] h29 fun v6 h30 => ∃ r27 : Int, v6 = .int .i64 r27 ∧
  (∃ (a15 : Option Addr) (L15 C15 : Nat), ∃ (a16 : Option Addr) (L16 C16 : Nat), ∃ n29 : Int, cell h30 ⟨b6, 0, none⟩ = some (.slice a15 L15 C15) ∧
  cell h30 ((⟨b6, 0, none⟩ : Addr).add 1) = some (.slice a16 L16 C16) ∧
  cell h30 ((⟨b6, 0, none⟩ : Addr).add 2) = some (.int .i64 n29) ∧
  (.agg #[.slice a15 L15 C15, .slice a16 L16 C16, .int .i64 n29] : Value) = .agg #[.slice a13 L13 C13, .slice a14 L14 C14, .int .i64 n27]) ∧
  Wr h30 ⟨b3, 0, none⟩ (.slice a13 L13 C13) fun h31 =>
  Wr h31 ((⟨b3, 0, none⟩ : Addr).add 1) (.slice a14 L14 C14) fun h32 =>
  Wr h32 ((⟨b3, 0, none⟩ : Addr).add 2) (.int .i64 n27) fun h33 =>
  ∃ (r28 : Option Addr) (rL13 rC13 : Nat), ∃ (r29 : Option Addr) (rL14 rC14 : Nat), ∃ r30 : Int, cell h33 ⟨b3, 0, none⟩ = some (.slice r28 rL13 rC13) ∧
  cell h33 ((⟨b3, 0, none⟩ : Addr).add 1) = some (.slice r29 rL14 rC14) ∧
  cell h33 ((⟨b3, 0, none⟩ : Addr).add 2) = some (.int .i64 r30) ∧
  K (.tuple #[.agg #[.slice r28 rL13 rC13, .slice r29 rL14 rC14, .int .i64 r30], .bool (decide (r27 = r26))]) h33)
  (l50_do_b1 t (some ⟨b1, 0, none⟩) (some ⟨b2, 0, none⟩) (some ⟨b3, 0, none⟩) h3  K)))) := by kernel_rfl
theorem l50_do_b1_eq (t : Option Addr) (s : Option Addr) (x : Option Addr) (t6 : Option Addr) (h : Hp)  (K : Value → Hp → Prop) : l50_do_b1 t s x t6 h  K = (
  NN s fun a17 =>
  ∃ (a18 : Option Addr) (L17 C17 : Nat), ∃ (a19 : Option Addr) (L18 C18 : Nat), ∃ n30 : Int, cell h a17 = some (.slice a18 L17 C17) ∧
  cell h (a17.add 1) = some (.slice a19 L18 C18) ∧
  cell h (a17.add 2) = some (.int .i64 n30) ∧
  NN x fun a20 =>
  ∃ (a21 : Option Addr) (L19 C19 : Nat), cell h (a20.add 7) = some (.slice a21 L19 C19) ∧
  NN x fun a22 =>
  ∃ (a23 : Option Addr) (L20 C20 : Nat), cell h (a22.add 8) = some (.slice a23 L20 C20) ∧
  HCalls Tryz.prog 62 #[.agg #[.slice a18 L17 C17, .slice a19 L18 C18, .int .i64 n30], .slice a21 L19 C19, .slice a23 L20 C20] h fun v7 h34 => ∃ (r31 : Option Addr) (rL15 rC15 : Nat), ∃ (r32 : Option Addr) (rL16 rC16 : Nat), ∃ r33 : Int, ∃ (r34 : Option Addr) (rL17 rC17 : Nat), ∃ r35 : Int, v7 = .tuple #[.agg #[.slice r31 rL15 rC15, .slice r32 rL16 rC16, .int .i64 r33], .slice r34 rL17 rC17, .int .i64 r35] ∧
  New h34 (.cells #[.slice none 0 0, .slice none 0 0, .int .i64 0] 29) fun b7 h35 =>
  Wr h35 ⟨b7, 0, none⟩ (.slice r31 rL15 rC15) fun h36 =>
  Wr h36 ((⟨b7, 0, none⟩ : Addr).add 1) (.slice r32 rL16 rC16) fun h37 =>
  Wr h37 ((⟨b7, 0, none⟩ : Addr).add 2) (.int .i64 r33) fun h38 =>
  NN x fun a24 =>
  ∃ (a25 : Option Addr) (L21 C21 : Nat), cell h38 (a24.add 7) = some (.slice a25 L21 C21) ∧
  NN x fun a26 =>
  ∃ (a27 : Option Addr) (L22 C22 : Nat), cell h38 (a26.add 8) = some (.slice a27 L22 C22) ∧
  HCalls Tryz.prog 22 #[.pointer t, .slice a25 L21 C21, .slice a27 L22 C22] h38 fun v8 h39 => ∃ (r36 : Option Addr) (rL18 rC18 : Nat), ∃ r37 : Int, v8 = .tuple #[.slice r36 rL18 rC18, .int .i64 r37] ∧
  ∃ (a28 : Option Addr) (L23 C23 : Nat), ∃ (a29 : Option Addr) (L24 C24 : Nat), ∃ n31 : Int, cell h39 ⟨b7, 0, none⟩ = some (.slice a28 L23 C23) ∧
  cell h39 ((⟨b7, 0, none⟩ : Addr).add 1) = some (.slice a29 L24 C24) ∧
  cell h39 ((⟨b7, 0, none⟩ : Addr).add 2) = some (.int .i64 n31) ∧
  HCalls Tryz.prog 17 #[.slice r34 rL17 rC17, .slice r36 rL18 rC18] h39 fun v9 h40 => ∃ r38 : Bool, v9 = .bool r38 ∧
  (∃ (a30 : Option Addr) (L25 C25 : Nat), ∃ (a31 : Option Addr) (L26 C26 : Nat), ∃ n32 : Int, cell h40 ⟨b7, 0, none⟩ = some (.slice a30 L25 C25) ∧
  cell h40 ((⟨b7, 0, none⟩ : Addr).add 1) = some (.slice a31 L26 C26) ∧
  cell h40 ((⟨b7, 0, none⟩ : Addr).add 2) = some (.int .i64 n32) ∧
  (.agg #[.slice a30 L25 C25, .slice a31 L26 C26, .int .i64 n32] : Value) = .agg #[.slice a28 L23 C23, .slice a29 L24 C24, .int .i64 n31]) ∧
  cond r38
  (NN t6 fun a32 =>
  Wr h40 a32 (.slice a28 L23 C23) fun h41 =>
  Wr h41 (a32.add 1) (.slice a29 L24 C24) fun h42 =>
  Wr h42 (a32.add 2) (.int .i64 n31) fun h43 =>
  ((.bool (decide (r37 = r35)) : Value) = .bool (decide (r37 = r35))) ∧
  NN t6 fun a33 =>
  ∃ (r39 : Option Addr) (rL19 rC19 : Nat), ∃ (r40 : Option Addr) (rL20 rC20 : Nat), ∃ r41 : Int, cell h43 a33 = some (.slice r39 rL19 rC19) ∧
  cell h43 (a33.add 1) = some (.slice r40 rL20 rC20) ∧
  cell h43 (a33.add 2) = some (.int .i64 r41) ∧
  K (.tuple #[.agg #[.slice r39 rL19 rC19, .slice r40 rL20 rC20, .int .i64 r41], .bool (decide (r37 = r35))]) h43)
  (NN t6 fun a34 =>
  Wr h40 a34 (.slice a28 L23 C23) fun h44 =>
  Wr h44 (a34.add 1) (.slice a29 L24 C24) fun h45 =>
  Wr h45 (a34.add 2) (.int .i64 n31) fun h46 =>
  ((.bool false : Value) = .bool false) ∧
  NN t6 fun a35 =>
  ∃ (r42 : Option Addr) (rL21 rC21 : Nat), ∃ (r43 : Option Addr) (rL22 rC22 : Nat), ∃ r44 : Int, cell h46 a35 = some (.slice r42 rL21 rC21) ∧
  cell h46 (a35.add 1) = some (.slice r43 rL22 rC22) ∧
  cell h46 (a35.add 2) = some (.int .i64 r44) ∧
  K (.tuple #[.agg #[.slice r42 rL21 rC21, .slice r43 rL22 rC22, .int .i64 r44], .bool false]) h46)) := by kernel_rfl
theorem l50_do_call {t : Option Addr} {s_0 : Option Addr} {s_0L : Nat} {s_0C : Nat} {s_1 : Option Addr} {s_1L : Nat} {s_1C : Nat} {s_2 : Int} {x_0 : Int} {x_1 : Int} {x_2 : Int} {x_3 : Int} {x_4 : Int} {x_5 : Int} {x_6 : ByteArray} {x_7 : Option Addr} {x_7L : Nat} {x_7C : Nat} {x_8 : Option Addr} {x_8L : Nat} {x_8C : Nat} {h : Hp} {K : Value → Hp → Prop} (hk : l50_do_b0 t s_0 s_0L s_0C s_1 s_1L s_1C s_2 x_0 x_1 x_2 x_3 x_4 x_5 x_6 x_7 x_7L x_7C x_8 x_8L x_8C h K) : HCalls Tryz.prog 34 #[.pointer t, .agg #[.slice s_0 s_0L s_0C, .slice s_1 s_1L s_1C, .int .i64 s_2], .agg #[.int .u8 x_0, .int .i64 x_1, .int .i64 x_2, .int .i64 x_3, .int .i64 x_4, .int .i64 x_5, .string x_6, .slice x_7 x_7L x_7C, .slice x_8 x_8L x_8C]] h K :=
  calls_of_snd l50_do_an Tryz.func34 (c := bodyOf Tryz.f34) rfl Tryz.ntmps34 (Nat.le_of_ble_eq_true rfl) (snd_2 F_ok F_mixed) hk

/-! ### table_Table_find -/
def table_Table_find_an : Ann := .node none (.leaf) (.node none (.leaf) (.node (some [5]) (.node none (.leaf) (.loop [1, 12] [(5, .slice)] (.leaf))) (.leaf)))
def table_Table_find_K0  (K : Value → Hp → Prop) : Exit → Env → Hp → Prop := retK Tryz.prog Tryz.f35.results.toList K
def table_Table_find_K1  (K : Value → Hp → Prop) : Exit → Env → Hp → Prop := thenE (fun env h => sx_1 Tryz.prog F 28 (cp [1, 1, 1] (bodyOf Tryz.f35)) (ap [1, 1, 1] table_Table_find_an) (rs [5] env) h (table_Table_find_K0  K)) (table_Table_find_K0  K)
def table_Table_find_K2  (K : Value → Hp → Prop) : Exit → Env → Hp → Prop := blockE 0 (table_Table_find_K1  K)
def table_Table_find_K3 (nx0 : (Option Addr × Nat × Nat) × Unit → Hp → Prop) (K : Value → Hp → Prop) : Exit → Env → Hp → Prop := thenE (fun env h => getV [(5, .slice)] env fun s => nx0 s h) (table_Table_find_K2  K)
def table_Table_find_b0 (t : Option Addr) (is : Value) (h : Hp)  (K : Value → Hp → Prop) : Prop :=
  sx_2 Tryz.prog F 28 (cp [] (bodyOf Tryz.f35)) (ap [] table_Table_find_an) [(0, .pointer t), (1, is)] h (table_Table_find_K0  K)
def table_Table_find_b1 (out : Option Addr) (outL : Nat) (outC : Nat) (is : Value) (t12 : Value) (h : Hp) (nx0 : (Option Addr × Nat × Nat) × Unit → Hp → Prop) (K : Value → Hp → Prop) : Prop :=
  sx_1 Tryz.prog F 28 (cp [1, 1, 0, 1, 2, 2] (bodyOf Tryz.f35)) (ap [1, 1, 0, 1, 2] table_Table_find_an) [(5, .slice out outL outC), (1, is), (12, t12)] h (table_Table_find_K3 nx0 K)
def table_Table_find_b2 (out : Option Addr) (outL : Nat) (outC : Nat) (h : Hp)  (K : Value → Hp → Prop) : Prop :=
  sx_1 Tryz.prog F 28 (cp [1, 1, 1] (bodyOf Tryz.f35)) (ap [1, 1, 1] table_Table_find_an) [(5, .slice out outL outC)] h (table_Table_find_K0  K)
theorem table_Table_find_b0_eq (t : Option Addr) (is : Value) (h : Hp)  (K : Value → Hp → Prop) : table_Table_find_b0 t is h  K = (
  NN t fun a1 =>
  ∃ v1 : Value, cell h a1 = some (v1) ∧
  rangeV Tryz.prog 78 v1 h fun it1 h1 =>
  LoopVC (((none, 0, 0), ()) : (Option Addr × Nat × Nat) × Unit) h1 (fun (nx0 : (Option Addr × Nat × Nat) × Unit → Hp → Prop) (s1 : (Option Addr × Nat × Nat) × Unit) h2 => table_Table_find_b1 s1.1.1 s1.1.2.1 s1.1.2.2 is (.pointer (some ⟨it1, 0, none⟩)) h2 nx0 K)) := by kernel_rfl
theorem table_Table_find_b1_eq (out : Option Addr) (outL : Nat) (outC : Nat) (is : Value) (t12 : Value) (h : Hp) (nx0 : (Option Addr × Nat × Nat) × Unit → Hp → Prop) (K : Value → Hp → Prop) : table_Table_find_b1 out outL outC is t12 h nx0 K = (
  nextV Tryz.prog t12 false h (fun h3 =>
  table_Table_find_b2 out outL outC h3  K) fun x1 y1 h4 =>
  entryV Tryz.prog t12 h4 fun v2 => ∃ k1 : Int, ∃ e1 : Option Addr, v2 = .tuple #[.int .i64 k1, .pointer e1] ∧
  funV is fun fg1 fa1 fc1 => callX Tryz.prog F fg1 (fa1 ++ (([.pointer e1] : List Value) ++ fc1)).toArray h4 fun v3 h5 => ∃ r1 : Bool, v3 = .bool r1 ∧
  cond r1
  (New h5 (.cells #[.int .i64 k1] 3) fun b1 h6 =>
  appendV Tryz.prog 26 26 (.slice out outL outC) (.slice (some ⟨b1, 0, none⟩) 1 1) h6 (slK fun a2 l1 c1 h7 =>
  nx0 ((a2, l1, c1), ()) h7))
  (nx0 ((out, outL, outC), ()) h5)) := by kernel_rfl
theorem table_Table_find_b2_eq (out : Option Addr) (outL : Nat) (outC : Nat) (h : Hp)  (K : Value → Hp → Prop) : table_Table_find_b2 out outL outC h  K = (
  HCalls Tryz.prog 45 #[.slice out outL outC] h fun v4 h8 => v4 = .tuple #[] ∧
  K (.slice out outL outC) h8) := by kernel_rfl
theorem table_Table_find_call {t : Option Addr} {is : Value} {h : Hp} {K : Value → Hp → Prop} (hk : table_Table_find_b0 t is h K) : HCalls Tryz.prog 35 #[.pointer t, is] h K :=
  calls_of_snd table_Table_find_an Tryz.func35 (c := bodyOf Tryz.f35) rfl Tryz.ntmps35 (Nat.le_of_ble_eq_true rfl) (snd_2 F_ok F_mixed) hk

/-! ### table_Table_List_c1 -/
def table_Table_List_c1_an : Ann := .leaf
def table_Table_List_c1_K0  (K : Value → Hp → Prop) : Exit → Env → Hp → Prop := retK Tryz.prog Tryz.f36.results.toList K
def table_Table_List_c1_b0 (t0 : Option Addr) (h : Hp)  (K : Value → Hp → Prop) : Prop :=
  sx_1 Tryz.prog F 3 (cp [] (bodyOf Tryz.f36)) (ap [] table_Table_List_c1_an) [(0, .pointer t0)] h (table_Table_List_c1_K0  K)
theorem table_Table_List_c1_b0_eq (t0 : Option Addr) (h : Hp)  (K : Value → Hp → Prop) : table_Table_List_c1_b0 t0 h  K = (
  K (.bool true) h) := by kernel_rfl
theorem table_Table_List_c1_call {t0 : Option Addr} {h : Hp} {K : Value → Hp → Prop} (hk : table_Table_List_c1_b0 t0 h K) : HCalls Tryz.prog 36 #[.pointer t0] h K :=
  calls_of_snd table_Table_List_c1_an Tryz.func36 (c := bodyOf Tryz.f36) rfl Tryz.ntmps36 (Nat.le_of_ble_eq_true rfl) (snd_1 F_ok F_mixed) hk

/-! ### table_Table_scan -/
def table_Table_scan_an : Ann := .node none (.leaf) (.node none (.leaf) (.node (some [0, 2, 3, 4, 5, 13]) (.node none (.leaf) (.loop [0, 2, 3, 4, 5, 21, 22] [(13, .slice), (23, .int .i64)] (.node none (.leaf) (.node none (.leaf) (.node (some [0, 2, 3, 4, 5, 13, 21, 22, 23]) (.leaf) (.leaf)))))) (.node (some [13]) (.node none (.leaf) (.loop [0, 2, 3, 4, 5, 63, 64] [(13, .slice), (65, .int .i64)] (.node none (.leaf) (.node none (.leaf) (.node (some [0, 2, 3, 4, 5, 13, 63, 64, 65]) (.leaf) (.leaf)))))) (.leaf))))
def table_Table_scan_K0  (K : Value → Hp → Prop) : Exit → Env → Hp → Prop := retK Tryz.prog Tryz.f37.results.toList K
def table_Table_scan_K1  (K : Value → Hp → Prop) : Exit → Env → Hp → Prop := thenE (fun env h => sx_3 Tryz.prog F 98 (cp [1, 1, 1] (bodyOf Tryz.f37)) (ap [1, 1, 1] table_Table_scan_an) (rs [0, 2, 3, 4, 5, 13] env) h (table_Table_scan_K0  K)) (table_Table_scan_K0  K)
def table_Table_scan_K2  (K : Value → Hp → Prop) : Exit → Env → Hp → Prop := blockE 0 (table_Table_scan_K1  K)
def table_Table_scan_K3 (nx0 : (Option Addr × Nat × Nat) × Int × Unit → Hp → Prop) (K : Value → Hp → Prop) : Exit → Env → Hp → Prop := thenE (fun env h => getV [(13, .slice), (23, .int .i64)] env fun s => nx0 s h) (table_Table_scan_K2  K)
def table_Table_scan_K4  (K : Value → Hp → Prop) : Exit → Env → Hp → Prop := thenE (fun env h => sx_2 Tryz.prog F 98 (cp [1, 1, 1, 1] (bodyOf Tryz.f37)) (ap [1, 1, 1, 1] table_Table_scan_an) (rs [13] env) h (table_Table_scan_K0  K)) (table_Table_scan_K0  K)
def table_Table_scan_K5  (K : Value → Hp → Prop) : Exit → Env → Hp → Prop := blockE 2 (table_Table_scan_K4  K)
def table_Table_scan_K6 (nx0 : (Option Addr × Nat × Nat) × Int × Unit → Hp → Prop) (K : Value → Hp → Prop) : Exit → Env → Hp → Prop := thenE (fun env h => getV [(13, .slice), (65, .int .i64)] env fun s => nx0 s h) (table_Table_scan_K5  K)
def table_Table_scan_b0 (t : Option Addr) (index : Option Addr) (indexL : Nat) (indexC : Nat) (value : Value) (fromv : Int) (to : Int) (is : Value) (h : Hp)  (K : Value → Hp → Prop) : Prop :=
  sx_4 Tryz.prog F 98 (cp [] (bodyOf Tryz.f37)) (ap [] table_Table_scan_an) [(0, .pointer t), (1, .slice index indexL indexC), (2, value), (3, .int .i64 fromv), (4, .int .i64 to), (5, is)] h (table_Table_scan_K0  K)
def table_Table_scan_b1 (out : Option Addr) (outL : Nat) (outC : Nat) (t23 : Int) (t : Option Addr) (value : Value) (fromv : Int) (to : Int) (is : Value) (t21 : Option Addr) (t21L : Nat) (t21C : Nat) (t22 : Int) (h : Hp) (nx0 : (Option Addr × Nat × Nat) × Int × Unit → Hp → Prop) (K : Value → Hp → Prop) : Prop :=
  sx_3 Tryz.prog F 98 (cp [1, 1, 0, 1, 2, 2] (bodyOf Tryz.f37)) (ap [1, 1, 0, 1, 2] table_Table_scan_an) [(13, .slice out outL outC), (23, .int .i64 t23), (0, .pointer t), (2, value), (3, .int .i64 fromv), (4, .int .i64 to), (5, is), (21, .slice t21 t21L t21C), (22, .int .i64 t22)] h (table_Table_scan_K3 nx0 K)
def table_Table_scan_b2 (t : Option Addr) (value : Value) (fromv : Int) (to : Int) (is : Value) (out : Option Addr) (outL : Nat) (outC : Nat) (t21 : Option Addr) (t21L : Nat) (t21C : Nat) (t22 : Int) (t23 : Int) (h : Hp) (nx0 : (Option Addr × Nat × Nat) × Int × Unit → Hp → Prop) (K : Value → Hp → Prop) : Prop :=
  sx_2 Tryz.prog F 98 (cp [1, 1, 0, 1, 2, 2, 1, 1, 1] (bodyOf Tryz.f37)) (ap [1, 1, 0, 1, 2, 1, 1, 1] table_Table_scan_an) [(0, .pointer t), (2, value), (3, .int .i64 fromv), (4, .int .i64 to), (5, is), (13, .slice out outL outC), (21, .slice t21 t21L t21C), (22, .int .i64 t22), (23, .int .i64 t23)] h (table_Table_scan_K3 nx0 K)
def table_Table_scan_b3 (t : Option Addr) (value : Value) (fromv : Int) (to : Int) (is : Value) (out : Option Addr) (outL : Nat) (outC : Nat) (h : Hp)  (K : Value → Hp → Prop) : Prop :=
  sx_3 Tryz.prog F 98 (cp [1, 1, 1] (bodyOf Tryz.f37)) (ap [1, 1, 1] table_Table_scan_an) [(0, .pointer t), (2, value), (3, .int .i64 fromv), (4, .int .i64 to), (5, is), (13, .slice out outL outC)] h (table_Table_scan_K0  K)
def table_Table_scan_b4 (out : Option Addr) (outL : Nat) (outC : Nat) (t65 : Int) (t : Option Addr) (value : Value) (fromv : Int) (to : Int) (is : Value) (t63 : Option Addr) (t63L : Nat) (t63C : Nat) (t64 : Int) (h : Hp) (nx0 : (Option Addr × Nat × Nat) × Int × Unit → Hp → Prop) (K : Value → Hp → Prop) : Prop :=
  sx_2 Tryz.prog F 98 (cp [1, 1, 1, 0, 1, 2, 2] (bodyOf Tryz.f37)) (ap [1, 1, 1, 0, 1, 2] table_Table_scan_an) [(13, .slice out outL outC), (65, .int .i64 t65), (0, .pointer t), (2, value), (3, .int .i64 fromv), (4, .int .i64 to), (5, is), (63, .slice t63 t63L t63C), (64, .int .i64 t64)] h (table_Table_scan_K6 nx0 K)
def table_Table_scan_b5 (t : Option Addr) (value : Value) (fromv : Int) (to : Int) (is : Value) (out : Option Addr) (outL : Nat) (outC : Nat) (t63 : Option Addr) (t63L : Nat) (t63C : Nat) (t64 : Int) (t65 : Int) (h : Hp) (nx0 : (Option Addr × Nat × Nat) × Int × Unit → Hp → Prop) (K : Value → Hp → Prop) : Prop :=
  sx_1 Tryz.prog F 98 (cp [1, 1, 1, 0, 1, 2, 2, 1, 1, 1] (bodyOf Tryz.f37)) (ap [1, 1, 1, 0, 1, 2, 1, 1, 1] table_Table_scan_an) [(0, .pointer t), (2, value), (3, .int .i64 fromv), (4, .int .i64 to), (5, is), (13, .slice out outL outC), (63, .slice t63 t63L t63C), (64, .int .i64 t64), (65, .int .i64 t65)] h (table_Table_scan_K6 nx0 K)
def table_Table_scan_b6 (out : Option Addr) (outL : Nat) (outC : Nat) (h : Hp)  (K : Value → Hp → Prop) : Prop :=
  sx_2 Tryz.prog F 98 (cp [1, 1, 1, 1] (bodyOf Tryz.f37)) (ap [1, 1, 1, 1] table_Table_scan_an) [(13, .slice out outL outC)] h (table_Table_scan_K0  K)
theorem table_Table_scan_b0_eq (t : Option Addr) (index : Option Addr) (indexL : Nat) (indexC : Nat) (value : Value) (fromv : Int) (to : Int) (is : Value) (h : Hp)  (K : Value → Hp → Prop) : table_Table_scan_b0 t index indexL indexC value fromv to is h  K = (
  LoopVC (((none, 0, 0), 0, ()) : (Option Addr × Nat × Nat) × Int × Unit) h (fun (nx0 : (Option Addr × Nat × Nat) × Int × Unit → Hp → Prop) (s1 : (Option Addr × Nat × Nat) × Int × Unit) h1 => table_Table_scan_b1 s1.1.1 s1.1.2.1 s1.1.2.2 s1.2.1 t value fromv to is index indexL indexC (indexL : Int) h1 nx0 K)) := by kernel_rfl
theorem table_Table_scan_b1_eq (out : Option Addr) (outL : Nat) (outC : Nat) (t23 : Int) (t : Option Addr) (value : Value) (fromv : Int) (to : Int) (is : Value) (t21 : Option Addr) (t21L : Nat) (t21C : Nat) (t22 : Int) (h : Hp) (nx0 : (Option Addr × Nat × Nat) × Int × Unit → Hp → Prop) (K : Value → Hp → Prop) : table_Table_scan_b1 out outL outC t23 t value fromv to is t21 t21L t21C t22 h nx0 K = (
  cond (decide (t23 < t22))
  ((0 ≤ t23 ∧ t23 < (t21L : Int)) ∧
  NN t21 fun a1 =>
  ∃ n1 : Int, cell h (a1.add (Int.toNat t23 * 1)) = some (.int .i64 n1) ∧
  NN t fun a2 =>
  ∃ v1 : Value, cell h ((a2.add 5).add 1) = some (v1) ∧
  lookV Tryz.prog 80 v1 (.int .i64 n1) false h fun v2 => ∃ r1 : Bool, v2 = .bool r1 ∧
  cond r1
  (table_Table_scan_b2 t value fromv to is out outL outC t21 t21L t21C t22 t23 h nx0 K)
  (NN t fun a3 =>
  ∃ v3 : Value, cell h a3 = some (v3) ∧
  lookV Tryz.prog 78 v3 (.int .i64 n1) false h fun v4 => ∃ r2 : Option Addr, v4 = .pointer r2 ∧
  funV value fun fg1 fa1 fc1 => callX Tryz.prog F fg1 (fa1 ++ (([.pointer r2] : List Value) ++ fc1)).toArray h fun v5 h2 => ∃ r3 : Int, v5 = .int .i64 r3 ∧
  cond (decide (to < r3))
  (table_Table_scan_b3 t value fromv to is out outL outC h2  K)
  (cond (decide (fromv ≤ r3))
  (funV is fun fg2 fa2 fc2 => callX Tryz.prog F fg2 (fa2 ++ (([.pointer r2] : List Value) ++ fc2)).toArray h2 fun v6 h3 => ∃ r4 : Bool, v6 = .bool r4 ∧
  cond r4
  (New h3 (.cells #[.int .i64 n1] 3) fun b1 h4 =>
  appendV Tryz.prog 26 26 (.slice out outL outC) (.slice (some ⟨b1, 0, none⟩) 1 1) h4 (slK fun a4 l1 c1 h5 =>
  table_Table_scan_b2 t value fromv to is a4 l1 c1 t21 t21L t21C t22 t23 h5 nx0 K))
  (table_Table_scan_b2 t value fromv to is out outL outC t21 t21L t21C t22 t23 h3 nx0 K))
  (table_Table_scan_b2 t value fromv to is out outL outC t21 t21L t21C t22 t23 h2 nx0 K))))
  (table_Table_scan_b3 t value fromv to is out outL outC h  K)) := by kernel_rfl
theorem table_Table_scan_b2_eq (t : Option Addr) (value : Value) (fromv : Int) (to : Int) (is : Value) (out : Option Addr) (outL : Nat) (outC : Nat) (t21 : Option Addr) (t21L : Nat) (t21C : Nat) (t22 : Int) (t23 : Int) (h : Hp) (nx0 : (Option Addr × Nat × Nat) × Int × Unit → Hp → Prop) (K : Value → Hp → Prop) : table_Table_scan_b2 t value fromv to is out outL outC t21 t21L t21C t22 t23 h nx0 K = (
  InR (t23 + 1) ∧
  nx0 ((out, outL, outC), t23 + 1, ()) h) := by kernel_rfl
theorem table_Table_scan_b3_eq (t : Option Addr) (value : Value) (fromv : Int) (to : Int) (is : Value) (out : Option Addr) (outL : Nat) (outC : Nat) (h : Hp)  (K : Value → Hp → Prop) : table_Table_scan_b3 t value fromv to is out outL outC h  K = (
  NN t fun a5 =>
  ∃ (a6 : Option Addr) (L1 C1 : Nat), cell h (a5.add 5) = some (.slice a6 L1 C1) ∧
  LoopVC (((out, outL, outC), 0, ()) : (Option Addr × Nat × Nat) × Int × Unit) h (fun (nx0 : (Option Addr × Nat × Nat) × Int × Unit → Hp → Prop) (s2 : (Option Addr × Nat × Nat) × Int × Unit) h6 => table_Table_scan_b4 s2.1.1 s2.1.2.1 s2.1.2.2 s2.2.1 t value fromv to is a6 L1 C1 (L1 : Int) h6 nx0 K)) := by kernel_rfl
theorem table_Table_scan_b4_eq (out : Option Addr) (outL : Nat) (outC : Nat) (t65 : Int) (t : Option Addr) (value : Value) (fromv : Int) (to : Int) (is : Value) (t63 : Option Addr) (t63L : Nat) (t63C : Nat) (t64 : Int) (h : Hp) (nx0 : (Option Addr × Nat × Nat) × Int × Unit → Hp → Prop) (K : Value → Hp → Prop) : table_Table_scan_b4 out outL outC t65 t value fromv to is t63 t63L t63C t64 h nx0 K = (
  cond (decide (t65 < t64))
  ((0 ≤ t65 ∧ t65 < (t63L : Int)) ∧
  NN t63 fun a7 =>
  ∃ n2 : Int, cell h (a7.add (Int.toNat t65 * 1)) = some (.int .i64 n2) ∧
  NN t fun a8 =>
  ∃ v7 : Value, cell h a8 = some (v7) ∧
  lookV Tryz.prog 78 v7 (.int .i64 n2) false h fun v8 => ∃ r5 : Option Addr, v8 = .pointer r5 ∧
  funV value fun fg3 fa3 fc3 => callX Tryz.prog F fg3 (fa3 ++ (([.pointer r5] : List Value) ++ fc3)).toArray h fun v9 h7 => ∃ r6 : Int, v9 = .int .i64 r6 ∧
  cond (decide (fromv ≤ r6))
  (funV value fun fg4 fa4 fc4 => callX Tryz.prog F fg4 (fa4 ++ (([.pointer r5] : List Value) ++ fc4)).toArray h7 fun v10 h8 => ∃ r7 : Int, v10 = .int .i64 r7 ∧
  cond (decide (r7 ≤ to))
  (funV is fun fg5 fa5 fc5 => callX Tryz.prog F fg5 (fa5 ++ (([.pointer r5] : List Value) ++ fc5)).toArray h8 fun v11 h9 => ∃ r8 : Bool, v11 = .bool r8 ∧
  cond r8
  (New h9 (.cells #[.int .i64 n2] 3) fun b2 h10 =>
  appendV Tryz.prog 26 26 (.slice out outL outC) (.slice (some ⟨b2, 0, none⟩) 1 1) h10 (slK fun a9 l2 c2 h11 =>
  table_Table_scan_b5 t value fromv to is a9 l2 c2 t63 t63L t63C t64 t65 h11 nx0 K))
  (table_Table_scan_b5 t value fromv to is out outL outC t63 t63L t63C t64 t65 h9 nx0 K))
  (table_Table_scan_b5 t value fromv to is out outL outC t63 t63L t63C t64 t65 h8 nx0 K))
  (table_Table_scan_b5 t value fromv to is out outL outC t63 t63L t63C t64 t65 h7 nx0 K))
  (table_Table_scan_b6 out outL outC h  K)) := by kernel_rfl
theorem table_Table_scan_b5_eq (t : Option Addr) (value : Value) (fromv : Int) (to : Int) (is : Value) (out : Option Addr) (outL : Nat) (outC : Nat) (t63 : Option Addr) (t63L : Nat) (t63C : Nat) (t64 : Int) (t65 : Int) (h : Hp) (nx0 : (Option Addr × Nat × Nat) × Int × Unit → Hp → Prop) (K : Value → Hp → Prop) : table_Table_scan_b5 t value fromv to is out outL outC t63 t63L t63C t64 t65 h nx0 K = (
  InR (t65 + 1) ∧
  nx0 ((out, outL, outC), t65 + 1, ()) h) := by kernel_rfl
theorem table_Table_scan_b6_eq (out : Option Addr) (outL : Nat) (outC : Nat) (h : Hp)  (K : Value → Hp → Prop) : table_Table_scan_b6 out outL outC h  K = (
  K (.slice out outL outC) h) := by kernel_rfl
theorem table_Table_scan_call {t : Option Addr} {index : Option Addr} {indexL : Nat} {indexC : Nat} {value : Value} {fromv : Int} {to : Int} {is : Value} {h : Hp} {K : Value → Hp → Prop} (hk : table_Table_scan_b0 t index indexL indexC value fromv to is h K) : HCalls Tryz.prog 37 #[.pointer t, .slice index indexL indexC, value, .int .i64 fromv, .int .i64 to, is] h K :=
  calls_of_snd table_Table_scan_an Tryz.func37 (c := bodyOf Tryz.f37) rfl Tryz.ntmps37 (Nat.le_of_ble_eq_true rfl) (snd_4 F_ok F_mixed) hk

/-! ### table_Table_ByKey_c1 -/
def table_Table_ByKey_c1_an : Ann := .leaf
def table_Table_ByKey_c1_K0  (K : Value → Hp → Prop) : Exit → Env → Hp → Prop := retK Tryz.prog Tryz.f38.results.toList K
def table_Table_ByKey_c1_b0 (r : Option Addr) (h : Hp)  (K : Value → Hp → Prop) : Prop :=
  sx_1 Tryz.prog F 7 (cp [] (bodyOf Tryz.f38)) (ap [] table_Table_ByKey_c1_an) [(0, .pointer r)] h (table_Table_ByKey_c1_K0  K)
theorem table_Table_ByKey_c1_b0_eq (r : Option Addr) (h : Hp)  (K : Value → Hp → Prop) : table_Table_ByKey_c1_b0 r h  K = (
  NN r fun a1 =>
  ∃ n1 : Int, cell h a1 = some (.int .i64 n1) ∧
  K (.int .i64 n1) h) := by kernel_rfl
theorem table_Table_ByKey_c1_call {r : Option Addr} {h : Hp} {K : Value → Hp → Prop} (hk : table_Table_ByKey_c1_b0 r h K) : HCalls Tryz.prog 38 #[.pointer r] h K :=
  calls_of_snd table_Table_ByKey_c1_an Tryz.func38 (c := bodyOf Tryz.f38) rfl Tryz.ntmps38 (Nat.le_of_ble_eq_true rfl) (snd_1 F_ok F_mixed) hk

/-! ### table_Table_ByKey_c2 -/
def table_Table_ByKey_c2_an : Ann := .leaf
def table_Table_ByKey_c2_K0  (K : Value → Hp → Prop) : Exit → Env → Hp → Prop := retK Tryz.prog Tryz.f39.results.toList K
def table_Table_ByKey_c2_b0 (t0 : Option Addr) (h : Hp)  (K : Value → Hp → Prop) : Prop :=
  sx_1 Tryz.prog F 3 (cp [] (bodyOf Tryz.f39)) (ap [] table_Table_ByKey_c2_an) [(0, .pointer t0)] h (table_Table_ByKey_c2_K0  K)
theorem table_Table_ByKey_c2_b0_eq (t0 : Option Addr) (h : Hp)  (K : Value → Hp → Prop) : table_Table_ByKey_c2_b0 t0 h  K = (
  K (.bool true) h) := by kernel_rfl
theorem table_Table_ByKey_c2_call {t0 : Option Addr} {h : Hp} {K : Value → Hp → Prop} (hk : table_Table_ByKey_c2_b0 t0 h K) : HCalls Tryz.prog 39 #[.pointer t0] h K :=
  calls_of_snd table_Table_ByKey_c2_an Tryz.func39 (c := bodyOf Tryz.f39) rfl Tryz.ntmps39 (Nat.le_of_ble_eq_true rfl) (snd_1 F_ok F_mixed) hk

/-! ### slices_SortFunc_Sint_int -/
def slices_SortFunc_Sint_int_an : Ann := .leaf
def slices_SortFunc_Sint_int_K0  (K : Value → Hp → Prop) : Exit → Env → Hp → Prop := retK Tryz.prog Tryz.f40.results.toList K
def slices_SortFunc_Sint_int_b0 (x : Option Addr) (xL : Nat) (xC : Nat) (cmp : Value) (h : Hp)  (K : Value → Hp → Prop) : Prop :=
  sx_1 Tryz.prog F 14 (cp [] (bodyOf Tryz.f40)) (ap [] slices_SortFunc_Sint_int_an) [(0, .slice x xL xC), (1, cmp)] h (slices_SortFunc_Sint_int_K0  K)
theorem slices_SortFunc_Sint_int_b0_eq (x : Option Addr) (xL : Nat) (xC : Nat) (cmp : Value) (h : Hp)  (K : Value → Hp → Prop) : slices_SortFunc_Sint_int_b0 x xL xC cmp h  K = (
  HCalls Tryz.prog 64 #[.int .u64 (IntKind.u64.wrap (xL : Int))] h fun v1 h1 => ∃ r1 : Int, v1 = .int .i64 r1 ∧
  HCalls Tryz.prog 63 #[.slice x xL xC, .int .i64 0, .int .i64 (xL : Int), .int .i64 r1, cmp] h1 fun v2 h2 => v2 = .tuple #[] ∧
  K (.tuple #[]) h2) := by kernel_rfl
theorem slices_SortFunc_Sint_int_call {x : Option Addr} {xL : Nat} {xC : Nat} {cmp : Value} {h : Hp} {K : Value → Hp → Prop} (hk : slices_SortFunc_Sint_int_b0 x xL xC cmp h K) : HCalls Tryz.prog 40 #[.slice x xL xC, cmp] h K :=
  calls_of_snd slices_SortFunc_Sint_int_an Tryz.func40 (c := bodyOf Tryz.f40) rfl Tryz.ntmps40 (Nat.le_of_ble_eq_true rfl) (snd_1 F_ok F_mixed) hk

/-! ### table_Table_ByKey_c3 -/
def table_Table_ByKey_c3_an : Ann := .node none (.leaf) (.node none (.plan (.qu 0 (.qu 1 (.qu 2 (.qu 3 (.qu 4 (.qu 9 (.qu 10 (.qu 11 (.qu 12 (.qu 13 (.wo 5 (.qu 6 (.qu 7 (.qu 8 (.wo 14 (.qu 15 (.qu 16 (.qu 17 (.wo 18 (.wo 19 .fin .no) .no)))) .no)))) (.wo 14 (.qu 15 (.qu 16 (.qu 17 (.wo 5 (.qu 6 (.qu 7 (.qu 8 (.wo 18 (.wo 19 .fin .no) .no)))) .no)))) .no))))))))))))) (.leaf))
def table_Table_ByKey_c3_K0  (K : Value → Hp → Prop) : Exit → Env → Hp → Prop := retK Tryz.prog Tryz.f41.results.toList K
def table_Table_ByKey_c3_b0 (a : Int) (b : Int) (t2 : Option Addr) (h : Hp)  (K : Value → Hp → Prop) : Prop :=
  sx_1 Tryz.prog F 25 (cp [] (bodyOf Tryz.f41)) (ap [] table_Table_ByKey_c3_an) [(0, .int .i64 a), (1, .int .i64 b), (2, .pointer t2)] h (table_Table_ByKey_c3_K0  K)
theorem table_Table_ByKey_c3_b0_eq (a : Int) (b : Int) (t2 : Option Addr) (h : Hp)  (K : Value → Hp → Prop) : table_Table_ByKey_c3_b0 a b t2 h  K = (
  NN t2 fun a1 =>
  ∃ p1 : Option Addr, cell h a1 = some (.pointer p1) ∧
  NN p1 fun a2 =>
  ∃ v1 : Value, cell h a2 = some (v1) ∧
  NN t2 fun a3 =>
  ∃ p2 : Option Addr, cell h a3 = some (.pointer p2) ∧
  NN p2 fun a4 =>
  ∃ v2 : Value, cell h a4 = some (v2) ∧
  (lookV Tryz.prog 78 v1 (.int .i64 a) false h fun v3 => ∃ r1 : Option Addr, v3 = .pointer r1 ∧
  (∃ v4 : Value, cell h a4 = some (v4) ∧
  (v4 : Value) = v2) ∧
  (NN t2 fun a5 =>
  ∃ p3 : Option Addr, cell h a5 = some (.pointer p3) ∧
  (.pointer p3 : Value) = .pointer p2) ∧
  NN r1 fun a6 =>
  ∃ n1 : Int, cell h a6 = some (.int .i64 n1) ∧
  lookV Tryz.prog 78 v2 (.int .i64 b) false h fun v5 => ∃ r2 : Option Addr, v5 = .pointer r2 ∧
  (∃ n2 : Int, cell h a6 = some (.int .i64 n2) ∧
  (.int .i64 n2 : Value) = .int .i64 n1) ∧
  NN r2 fun a7 =>
  ∃ n3 : Int, cell h a7 = some (.int .i64 n3) ∧
  HCalls Tryz.prog 42 #[.int .i64 n1, .int .i64 n3] h fun v6 h1 => ∃ r3 : Int, v6 = .int .i64 r3 ∧
  K (.int .i64 r3) h1) ∧
  (lookV Tryz.prog 78 v2 (.int .i64 b) false h fun v7 => ∃ r4 : Option Addr, v7 = .pointer r4 ∧
  (∃ v8 : Value, cell h a2 = some (v8) ∧
  (v8 : Value) = v1) ∧
  (NN t2 fun a8 =>
  ∃ p4 : Option Addr, cell h a8 = some (.pointer p4) ∧
  (.pointer p4 : Value) = .pointer p1) ∧
  NN r4 fun a9 =>
  ∃ n4 : Int, cell h a9 = some (.int .i64 n4) ∧
  lookV Tryz.prog 78 v1 (.int .i64 a) false h fun v9 => ∃ r5 : Option Addr, v9 = .pointer r5 ∧
  (∃ n5 : Int, cell h a9 = some (.int .i64 n5) ∧
  (.int .i64 n5 : Value) = .int .i64 n4) ∧
  NN r5 fun a10 =>
  ∃ n6 : Int, cell h a10 = some (.int .i64 n6) ∧
  HCalls Tryz.prog 42 #[.int .i64 n6, .int .i64 n4] h fun v10 h2 => ∃ r6 : Int, v10 = .int .i64 r6 ∧
  K (.int .i64 r6) h2)) := by kernel_rfl
theorem table_Table_ByKey_c3_call {a : Int} {b : Int} {t2 : Option Addr} {h : Hp} {K : Value → Hp → Prop} (hk : table_Table_ByKey_c3_b0 a b t2 h K) : HCalls Tryz.prog 41 #[.int .i64 a, .int .i64 b, .pointer t2] h K :=
  calls_of_snd table_Table_ByKey_c3_an Tryz.func41 (c := bodyOf Tryz.f41) rfl Tryz.ntmps41 (Nat.le_of_ble_eq_true rfl) (snd_1 F_ok F_mixed) hk

/-! ### cmp_Compare_int -/
def cmp_Compare_int_an : Ann := .leaf
def cmp_Compare_int_K0  (K : Value → Hp → Prop) : Exit → Env → Hp → Prop := retK Tryz.prog Tryz.f42.results.toList K
def cmp_Compare_int_b0 (x : Int) (y : Int) (h : Hp)  (K : Value → Hp → Prop) : Prop :=
  sx_1 Tryz.prog F 20 (cp [] (bodyOf Tryz.f42)) (ap [] cmp_Compare_int_an) [(0, .int .i64 x), (1, .int .i64 y)] h (cmp_Compare_int_K0  K)
theorem cmp_Compare_int_b0_eq (x : Int) (y : Int) (h : Hp)  (K : Value → Hp → Prop) : cmp_Compare_int_b0 x y h  K = (
  HCalls Tryz.prog 65 #[.int .i64 x] h fun v1 h1 => ∃ r1 : Bool, v1 = .bool r1 ∧
  HCalls Tryz.prog 65 #[.int .i64 y] h1 fun v2 h2 => ∃ r2 : Bool, v2 = .bool r2 ∧
  cond r1
  (cond r2
  (K (.int .i64 0) h2)
  (K (.int .i64 (-1)) h2))
  (cond r2
  (K (.int .i64 1) h2)
  (cond (decide (x < y))
  (K (.int .i64 (-1)) h2)
  (cond (decide (y < x))
  (K (.int .i64 1) h2)
  (K (.int .i64 0) h2))))) := by kernel_rfl
theorem cmp_Compare_int_call {x : Int} {y : Int} {h : Hp} {K : Value → Hp → Prop} (hk : cmp_Compare_int_b0 x y h K) : HCalls Tryz.prog 42 #[.int .i64 x, .int .i64 y] h K :=
  calls_of_snd cmp_Compare_int_an Tryz.func42 (c := bodyOf Tryz.f42) rfl Tryz.ntmps42 (Nat.le_of_ble_eq_true rfl) (snd_1 F_ok F_mixed) hk

/-! ### table_Table_ByPlace_c1 -/
def table_Table_ByPlace_c1_an : Ann := .leaf
def table_Table_ByPlace_c1_K0  (K : Value → Hp → Prop) : Exit → Env → Hp → Prop := retK Tryz.prog Tryz.f43.results.toList K
def table_Table_ByPlace_c1_b0 (r : Option Addr) (h : Hp)  (K : Value → Hp → Prop) : Prop :=
  sx_1 Tryz.prog F 7 (cp [] (bodyOf Tryz.f43)) (ap [] table_Table_ByPlace_c1_an) [(0, .pointer r)] h (table_Table_ByPlace_c1_K0  K)
theorem table_Table_ByPlace_c1_b0_eq (r : Option Addr) (h : Hp)  (K : Value → Hp → Prop) : table_Table_ByPlace_c1_b0 r h  K = (
  NN r fun a1 =>
  ∃ n1 : Int, cell h (a1.add 1) = some (.int .i64 n1) ∧
  K (.int .i64 n1) h) := by kernel_rfl
theorem table_Table_ByPlace_c1_call {r : Option Addr} {h : Hp} {K : Value → Hp → Prop} (hk : table_Table_ByPlace_c1_b0 r h K) : HCalls Tryz.prog 43 #[.pointer r] h K :=
  calls_of_snd table_Table_ByPlace_c1_an Tryz.func43 (c := bodyOf Tryz.f43) rfl Tryz.ntmps43 (Nat.le_of_ble_eq_true rfl) (snd_1 F_ok F_mixed) hk

/-! ### table_Table_ByPlace_c2 -/
def table_Table_ByPlace_c2_an : Ann := .leaf
def table_Table_ByPlace_c2_K0  (K : Value → Hp → Prop) : Exit → Env → Hp → Prop := retK Tryz.prog Tryz.f44.results.toList K
def table_Table_ByPlace_c2_b0 (r : Option Addr) (t1 : Option Addr) (t2 : Option Addr) (h : Hp)  (K : Value → Hp → Prop) : Prop :=
  sx_1 Tryz.prog F 19 (cp [] (bodyOf Tryz.f44)) (ap [] table_Table_ByPlace_c2_an) [(0, .pointer r), (1, .pointer t1), (2, .pointer t2)] h (table_Table_ByPlace_c2_K0  K)
theorem table_Table_ByPlace_c2_b0_eq (r : Option Addr) (t1 : Option Addr) (t2 : Option Addr) (h : Hp)  (K : Value → Hp → Prop) : table_Table_ByPlace_c2_b0 r t1 t2 h  K = (
  NN r fun a1 =>
  ∃ n1 : Int, cell h (a1.add 2) = some (.int .i64 n1) ∧
  NN t1 fun a2 =>
  ∃ n2 : Int, cell h a2 = some (.int .i64 n2) ∧
  cond (decide (n2 ≤ n1))
  (NN r fun a3 =>
  ∃ n3 : Int, cell h (a3.add 2) = some (.int .i64 n3) ∧
  NN t2 fun a4 =>
  ∃ n4 : Int, cell h a4 = some (.int .i64 n4) ∧
  K (.bool (decide (n3 ≤ n4))) h)
  (K (.bool false) h)) := by kernel_rfl
theorem table_Table_ByPlace_c2_call {r : Option Addr} {t1 : Option Addr} {t2 : Option Addr} {h : Hp} {K : Value → Hp → Prop} (hk : table_Table_ByPlace_c2_b0 r t1 t2 h K) : HCalls Tryz.prog 44 #[.pointer r, .pointer t1, .pointer t2] h K :=
  calls_of_snd table_Table_ByPlace_c2_an Tryz.func44 (c := bodyOf Tryz.f44) rfl Tryz.ntmps44 (Nat.le_of_ble_eq_true rfl) (snd_1 F_ok F_mixed) hk

/-! ### slices_Sort_Sint_int -/
def slices_Sort_Sint_int_an : Ann := .leaf
def slices_Sort_Sint_int_K0  (K : Value → Hp → Prop) : Exit → Env → Hp → Prop := retK Tryz.prog Tryz.f45.results.toList K
def slices_Sort_Sint_int_b0 (x : Option Addr) (xL : Nat) (xC : Nat) (h : Hp)  (K : Value → Hp → Prop) : Prop :=
  sx_1 Tryz.prog F 11 (cp [] (bodyOf Tryz.f45)) (ap [] slices_Sort_Sint_int_an) [(0, .slice x xL xC)] h (slices_Sort_Sint_int_K0  K)
theorem slices_Sort_Sint_int_b0_eq (x : Option Addr) (xL : Nat) (xC : Nat) (h : Hp)  (K : Value → Hp → Prop) : slices_Sort_Sint_int_b0 x xL xC h  K = (
  HCalls Tryz.prog 64 #[.int .u64 (IntKind.u64.wrap (xL : Int))] h fun v1 h1 => ∃ r1 : Int, v1 = .int .i64 r1 ∧
  HCalls Tryz.prog 66 #[.slice x xL xC, .int .i64 0, .int .i64 (xL : Int), .int .i64 r1] h1 fun v2 h2 => v2 = .tuple #[] ∧
  K (.tuple #[]) h2) := by kernel_rfl
theorem slices_Sort_Sint_int_call {x : Option Addr} {xL : Nat} {xC : Nat} {h : Hp} {K : Value → Hp → Prop} (hk : slices_Sort_Sint_int_b0 x xL xC h K) : HCalls Tryz.prog 45 #[.slice x xL xC] h K :=
  calls_of_snd slices_Sort_Sint_int_an Tryz.func45 (c := bodyOf Tryz.f45) rfl Tryz.ntmps45 (Nat.le_of_ble_eq_true rfl) (snd_1 F_ok F_mixed) hk

/-! ### table_Table_ByName_c1 -/
def table_Table_ByName_c1_an : Ann := .node none (.leaf) (.node none (.tail 5) (.leaf))
def table_Table_ByName_c1_K0  (K : Value → Hp → Prop) : Exit → Env → Hp → Prop := retK Tryz.prog Tryz.f46.results.toList K
def table_Table_ByName_c1_b0 (r : Option Addr) (t1 : Option Addr) (h : Hp)  (K : Value → Hp → Prop) : Prop :=
  sx_1 Tryz.prog F 10 (cp [] (bodyOf Tryz.f46)) (ap [] table_Table_ByName_c1_an) [(0, .pointer r), (1, .pointer t1)] h (table_Table_ByName_c1_K0  K)
theorem table_Table_ByName_c1_b0_eq (r : Option Addr) (t1 : Option Addr) (h : Hp)  (K : Value → Hp → Prop) : table_Table_ByName_c1_b0 r t1 h  K = (
  NN r fun a1 =>
  ∃ s1 : ByteArray, cell h (a1.add 4) = some (.string s1) ∧
  NN t1 fun a2 =>
  ∃ s2 : ByteArray, cell h a2 = some (.string s2) ∧
  HCalls Tryz.prog 47 #[.string s1, .string s2] h fun v1 h1 => ∃ r1 : Bool, v1 = .bool r1 ∧
  K (.bool r1) h1) := by kernel_rfl
theorem table_Table_ByName_c1_call {r : Option Addr} {t1 : Option Addr} {h : Hp} {K : Value → Hp → Prop} (hk : table_Table_ByName_c1_b0 r t1 h K) : HCalls Tryz.prog 46 #[.pointer r, .pointer t1] h K :=
  calls_of_snd table_Table_ByName_c1_an Tryz.func46 (c := bodyOf Tryz.f46) rfl Tryz.ntmps46 (Nat.le_of_ble_eq_true rfl) (snd_1 F_ok F_mixed) hk

end Go.Proofs.YtfkccighnkepgaaGreat
